/- Contracts of layer 2's reference (chain): Less. (Several texts in one.) -/
import Derived.Test.YtcgdopjmbadonaaChL
import Derived.Test.YtcgdopjmbadonaaChH
import Derived.Test.YtcgdopjmbadonaaChJ
set_option linter.unusedVariables false
set_option linter.unusedSimpArgs false
/-! Contracts of layer 2's reference (chain): Less. -/
namespace Go.Proofs.Ytcgdopjmbadonaa
open Go.RowKit
attribute [local simp] Box.purge Site.isLoc
set_option maxRecDepth 10000
set_option linter.unusedSimpArgs false
theorem lexB_drop {a b : List Int} {k : Nat} {x y : Int} (h1 : a[k]? = some x) (h2 : b[k]? = some y) : lexB (a.drop k) (b.drop k) = if x = y then lexB (a.drop (k + 1)) (b.drop (k + 1)) else decide (x < y) := by
  obtain ⟨i1, e1⟩ := List.getElem?_eq_some_iff.1 h1
  obtain ⟨i2, e2⟩ := List.getElem?_eq_some_iff.1 h2
  rw [List.drop_eq_getElem_cons i1, List.drop_eq_getElem_cons i2, e1, e2]
  show (decide (x < y) || (decide (x = y) && lexB (a.drop (k + 1)) (b.drop (k + 1)))) = _
  by_cases h : x = y
  · simp [h]
  · simp [h]
theorem less_c (a b : List Int) (ha : a.length ≤ 1000000) : Gives Try.prog 78 [.lst false 1 (a.map intP), .lst false 1 (b.map intP)] (.bool (ltC a b)) := by
  obtain ⟨T, hT⟩ : ∃ T, T = ltC a b := ⟨_, rfl⟩
  rw [← hT]
  unfold ltC at hT
  refine calls_of_awpS mixed L78_ok (Nat.le_of_ble_eq_true rfl) ?_
  by_cases hlen : a.length = b.length
  · have h1 : decide (a.length < b.length) = false := decide_eq_false (by omega)
    have h1i : decide ((a.length : Int) < (b.length : Int)) = false := decide_eq_false (by omega)
    have hli : decide ((a.length : Int) = (b.length : Int)) = true := decide_eq_true (by omega)
    rw [h1, decide_eq_true hlen, Bool.false_or, Bool.true_and] at hT
    simp [-getElem?_pos, L78]
    refine awp_loopS (fun n τ => ∃ k : Nat, k ≤ a.length ∧ n = a.length - k ∧ T = lexB (a.drop k) (b.drop k) ∧ τ = ⟨[(0, .pv (.lst false 1 (a.map intP))), (1, .pv (.lst false 1 (b.map intP))), (5, .pv (.int .i64 k))], []⟩)
      ⟨a.length, ⟨[(0, .pv (.lst false 1 (a.map intP))), (1, .pv (.lst false 1 (b.map intP))), (5, .pv (.int .i64 0))], []⟩, Sub.mk (by simp) (by simp), 0, Nat.zero_le _, rfl, by simpa using hT, rfl⟩ ?_
    clear hT
    rintro J hJ n τ ⟨k, hk, rfl, hT, rfl⟩
    by_cases hlt : k < a.length
    · obtain ⟨x, hx⟩ : ∃ l, a[k]? = some l := ⟨a[k], List.getElem?_eq_getElem hlt⟩
      obtain ⟨y, hy⟩ : ∃ l, b[k]? = some l := ⟨b[k], List.getElem?_eq_getElem (by omega)⟩
      have hg1 : (a.map intP)[k]? = some (.int .i64 x) := by rw [List.getElem?_map, hx]; rfl
      have hg2 : (b.map intP)[k]? = some (.int .i64 y) := by rw [List.getElem?_map, hy]; rfl
      have hw := wrapK (k := k) (by omega)
      have hlt2 : k < b.length := by omega
      have hlti : decide ((k : Int) < (a.length : Int)) = true := decide_eq_true (by omega)
      have hmeas : a.length - (k + 1) < a.length - k := by omega
      rw [lexB_drop hx hy] at hT
      by_cases hxy : x = y
      · rw [if_pos hxy] at hT
        have hround := hJ _ _ ⟨k + 1, hlt, rfl, hT, rfl⟩
        subst hxy
        simp [-getElem?_pos, -List.getElem?_map, -decide_eq_true_eq, -decide_eq_false_iff_not, hlt, hlt2, hlti, hli, hg1, hg2, hw]
        exact ⟨_, _, hmeas, Sub.mk (by simp) (by simp), hround⟩
      · rw [if_neg hxy] at hT
        have hd : decide (x = y) = false := decide_eq_false hxy
        subst hT
        simp [-getElem?_pos, -List.getElem?_map, -decide_eq_true_eq, -decide_eq_false_iff_not, hlt, hlt2, hlti, hli, hg1, hg2, hd]
    · have he : k = a.length := by omega
      subst he
      have hT' : T = false := by
        rw [hT, List.drop_length, hlen, List.drop_length]; rfl
      subst hT'
      simp [-getElem?_pos, -List.getElem?_map, -decide_eq_true_eq, -decide_eq_false_iff_not, hli, h1, h1i]
  · have hli : decide ((a.length : Int) = (b.length : Int)) = false := decide_eq_false (by omega)
    have h1i : decide ((a.length : Int) < (b.length : Int)) = decide (a.length < b.length) := by rw [Bool.eq_iff_iff]; simp
    rw [decide_eq_false hlen, Bool.false_and, Bool.or_false] at hT
    subst hT
    simp [-getElem?_pos, L78]
    refine awp_loopS (fun n τ => n = 0 ∧ τ = ⟨[(0, .pv (.lst false 1 (a.map intP))), (1, .pv (.lst false 1 (b.map intP))), (5, .pv (.int .i64 0))], []⟩)
      ⟨0, ⟨[(0, .pv (.lst false 1 (a.map intP))), (1, .pv (.lst false 1 (b.map intP))), (5, .pv (.int .i64 0))], []⟩, Sub.mk (by simp) (by simp), rfl, rfl⟩ ?_
    rintro J hJ n τ ⟨rfl, rfl⟩
    cases h0 : decide (0 < a.length)
    · simp [-getElem?_pos, -List.getElem?_map, -decide_eq_true_eq, -decide_eq_false_iff_not, hli, h1i, h0]
    · simp [-getElem?_pos, -List.getElem?_map, -decide_eq_true_eq, -decide_eq_false_iff_not, hli, h1i, h0]
end Go.Proofs.Ytcgdopjmbadonaa
/-! Contracts of layer 2's reference (chain): chains. -/
namespace Go.Proofs.Ytcgdopjmbadonaa
open Go.RowKit
set_option maxRecDepth 10000
set_option linter.unusedSimpArgs false
/-- As many chains as there are sets of numbers that hold, at most. -/
theorem flat_le {α β : Type} {f : α → List β} : ∀ (l : List α) (g : α → Nat), (∀ x ∈ l, (f x).length ≤ g x) → (l.flatMap f).length ≤ (l.map g).sum
  | [], _, _ => by simp
  | x :: l, g, h => by
    rw [List.flatMap_cons, List.length_append, List.map_cons, List.sum_cons]
    have h1 := h x (by simp)
    have h2 := flat_le l g fun y hy => h y (by simp [hy])
    omega
theorem pow_sum : ∀ l : List Int, l.Pairwise (· < ·) → ∀ N : Nat, (l.map fun m => 2 ^ ((l.filter fun x => decide (x < m)).length)).sum + 1 ≤ 2 ^ l.length := by
  intro l
  induction l with
  | nil => intro _ _; simp
  | cons a l ih =>
    intro hs N
    rw [List.pairwise_cons] at hs
    have h1 := ih hs.2 N
    rw [List.map_cons, List.sum_cons, List.length_cons, Nat.pow_succ]
    have e1 : ((a :: l).filter fun x => decide (x < a)).length = 0 := by
      rw [List.length_eq_zero_iff, List.filter_eq_nil_iff]
      intro x hx
      rcases List.mem_cons.1 hx with rfl | hx
      · simp
      · have := hs.1 x hx; simp; omega
    have e2 : (l.map fun m => 2 ^ (((a :: l).filter fun x => decide (x < m)).length)).sum = 2 * (l.map fun m => 2 ^ ((l.filter fun x => decide (x < m)).length)).sum := by
      have : ∀ L : List Int, (∀ m ∈ L, a < m) → (L.map fun m => 2 ^ (((a :: l).filter fun x => decide (x < m)).length)).sum = 2 * (L.map fun m => 2 ^ ((l.filter fun x => decide (x < m)).length)).sum := by
        intro L
        induction L with
        | nil => intro _; rfl
        | cons m L ih2 =>
          intro h
          rw [List.map_cons, List.map_cons, List.sum_cons, List.sum_cons, ih2 fun x hx => h x (by simp [hx]), List.filter_cons, if_pos (by simpa using h m (by simp)), List.length_cons, Nat.pow_succ]
          omega
      exact this l hs.1
    rw [e1, e2]
    simp only [Nat.pow_zero]
    omega
theorem sum_filter_le {α : Type} {p : α → Bool} {g : α → Nat} : ∀ l : List α, ((l.filter p).map g).sum ≤ (l.map g).sum
  | [] => by simp
  | x :: l => by
    have h := sum_filter_le (p := p) (g := g) l
    rw [List.filter_cons]
    split
    · rw [List.map_cons, List.map_cons, List.sum_cons, List.sum_cons]; omega
    · rw [List.map_cons, List.sum_cons]; omega
theorem sum_congr {α : Type} {f g : α → Nat} : ∀ l : List α, (∀ x ∈ l, f x = g x) → (l.map f).sum = (l.map g).sum
  | [], _ => rfl
  | x :: l, h => by rw [List.map_cons, List.map_cons, List.sum_cons, List.sum_cons, h x (by simp), sum_congr l fun y hy => h y (by simp [hy])]
attribute [local irreducible] Bk.held Bk.nums Bk.heldU
theorem chains_le {b : Bk} (hb : b.ok) : ∀ n : Nat, (n : Int) ∈ b.nums → (b.chains (b.held []) n).length ≤ 2 ^ ((b.held []).filter fun x => decide (x < (n : Int))).length := by
  intro n
  induction n using Nat.strongRecOn with
  | _ n ih =>
  intro hn
  have hbd := nums_bd hb n hn
  obtain ⟨g1, g2⟩ := get_num hb hn
  rw [chains_is hb (held_nums hb) (by omega) hn]
  split
  · have := Nat.two_pow_pos ((b.held []).filter fun x => decide (x < (n : Int))).length
    simp
    omega
  · obtain ⟨L, hL⟩ : ∃ L, L = (b.held []).filter fun x => decide (x < (n : Int)) := ⟨_, rfl⟩
    have hlt : ∀ m ∈ b.held [], restsB (b.get (n : Int)) (b.get m) = true → m < (n : Int) := fun m hm hr => by
      have h2 := (get_num hb (held_nums hb m hm)).2
      have : (b.get m).num < (b.get (n : Int)).num := by unfold restsB at hr; simp only [Bool.and_eq_true, decide_eq_true_eq] at hr; exact hr.1.2
      rw [h2, g2] at this
      exact this
    have e : ((b.held []).filter fun m => restsB (b.get (n : Int)) (b.get m)) = L.filter fun m => restsB (b.get (n : Int)) (b.get m) := by
      rw [hL, List.filter_filter]
      refine List.filter_congr fun m hm => ?_
      cases hr : restsB (b.get (n : Int)) (b.get m)
      · rfl
      · simp [hlt m hm hr]
    have hLs : L.Pairwise (· < ·) := by rw [hL]; exact held_sorted.filter _
    have hg : ∀ m ∈ L, ((b.held []).filter fun x => decide (x < m)).length = (L.filter fun x => decide (x < m)).length := fun m hm => by
      rw [hL, List.filter_filter]
      congr 1
      refine List.filter_congr fun x _ => ?_
      have hmn : m < (n : Int) := by rw [hL] at hm; simpa using (List.mem_filter.1 hm).2
      cases hx : decide (x < m)
      · rfl
      · have := of_decide_eq_true hx
        simp; omega
    rw [← hL, e]
    have h1 := flat_le (f := fun m => (b.chains (b.held []) m).map (· ++ [(n : Int)])) (L.filter fun m => restsB (b.get (n : Int)) (b.get m)) (fun m => 2 ^ ((b.held []).filter fun x => decide (x < m)).length) fun m hm => by
      rw [List.length_map]
      have hmL := (List.mem_filter.1 hm).1
      rw [hL] at hmL
      obtain ⟨k1, k2⟩ := List.mem_filter.1 hmL
      have hmn := held_nums hb m k1
      have hmb := nums_bd hb m hmn
      simp only [decide_eq_true_eq] at k2
      obtain ⟨mm, rfl⟩ : ∃ mm : Nat, m = mm := ⟨m.toNat, by omega⟩
      exact ih mm (by omega) hmn
    have h2 := sum_filter_le (p := fun m => restsB (b.get (n : Int)) (b.get m)) (g := fun m => 2 ^ ((b.held []).filter fun x => decide (x < m)).length) L
    have h3 := sum_congr (f := fun m => 2 ^ ((b.held []).filter fun x => decide (x < m)).length) (g := fun m => 2 ^ (L.filter fun x => decide (x < m)).length) L fun m hm => by rw [hg m hm]
    have h4 := pow_sum L hLs 0
    omega
/-- The chains that end with a number, as far as they are found. -/
def chS (b : Bk) (n : Int) (k : Nat) : List (List Int) := (((b.held []).take k).filter fun m => restsB (b.get n) (b.get m)).flatMap fun m => (b.chains (b.held []) m).map (· ++ [n])
theorem chS_next {b : Bk} {n m : Int} {k : Nat} (h : (b.held [])[k]? = some m) : chS b n (k + 1) = chS b n k ++ (if restsB (b.get n) (b.get m) = true then (b.chains (b.held []) m).map (· ++ [n]) else []) := by
  unfold chS
  rw [List.take_add_one, h, List.filter_append, List.flatMap_append]
  congr 1
  simp only [Option.toList, List.filter_cons, List.filter_nil]
  split <;> simp
theorem flat_take {α β : Type} {f : α → List β} {p : α → Bool} (l : List α) (k : Nat) : (((l.take k).filter p).flatMap f).length ≤ ((l.filter p).flatMap f).length := by
  have h : l.filter p = (l.take k).filter p ++ (l.drop k).filter p := by rw [← List.filter_append, List.take_append_drop]
  rw [h, List.flatMap_append, List.length_append]
  omega
theorem chS_le {b : Bk} {n : Int} (k : Nat) : (chS b n k).length ≤ (chS b n (b.held []).length).length := by
  unfold chS
  rw [List.take_length]
  exact flat_take _ _
theorem chS_full {b : Bk} (hb : b.ok) {n : Nat} (hn : (n : Int) ∈ b.nums) (hs : (b.item (b.get n).src).std = false) : chS b n (b.held []).length = b.chains (b.held []) n := by
  have hbd := nums_bd hb n hn
  rw [chains_is hb (held_nums hb) (by omega) hn, if_neg (by simp [hs])]
  unfold chS
  rw [List.take_length]
theorem chains_few {b : Bk} (hb : b.ok) (h10 : b.certs.length ≤ 10) {n : Nat} (hn : (n : Int) ∈ b.nums) : (b.chains (b.held []) n).length ≤ 1024 := by
  refine Nat.le_trans (chains_le hb n hn) ?_
  have h1 : ((b.held []).filter fun x => decide (x < (n : Int))).length ≤ 10 := by
    refine Nat.le_trans (List.length_filter_le _ _) ?_
    rw [← held_filter hb]
    exact Nat.le_trans (List.length_filter_le _ _) (Nat.le_trans (nums_le hb) h10)
  exact Nat.le_trans (Nat.pow_le_pow_right (by omega) h1) (by decide)
theorem chain_len {b : Bk} {held : List Int} {n : Int} {l : List Int} (h : l ∈ b.chains held n) : l.length ≤ 1000 := by
  unfold Bk.chains at h
  exact chU_len 1000 n l h
end Go.Proofs.Ytcgdopjmbadonaa
/-! Contracts of layer 2's reference (chain): the walk of chains. -/
namespace Go.Proofs.Ytcgdopjmbadonaa
open Go.RowKit
set_option maxRecDepth 10000
set_option linter.unusedSimpArgs false
attribute [local irreducible] Bk.held Bk.nums Bk.heldU Bk.chains chS
def lsP (l : List Int) : PV := .lst false 1 (l.map intP)
section
attribute [local simp] Box.purge Site.isLoc
attribute [local simp] retFz frzL AS.frz AV.frz AV.frzL Box.frz AS.tidy AS.frzC
def chG (b : Bk) (c o : Ct) (H : List Int) (X : List (List Int)) (k : Nat) : AS := ⟨[(2, .pv (.lst false 1 (H.map intP))), (3, .ptr (.loc 3 0) 0), (4, .ptr (.loc 4 0) 0), (7, .vec (.loc 65 0) 1 0 X.length), (8, .pv (.int .i64 k)), (9, .ptr (.loc 9 0) 0), (38, .pv (.bool true))],
  [(.loc 65 0, .arr 26 1 (X.map lsP)), (.loc 9 0, .cells o.cells), (.loc 4 0, .cells c.cells), (.loc 3 0, .cells b.cells)]⟩
def chH (b : Bk) (c : Ct) (H : List Int) (X : List (List Int)) (k : Nat) : AS := ⟨[(2, .pv (.lst false 1 (H.map intP))), (3, .ptr (.loc 3 0) 0), (4, .ptr (.loc 4 0) 0), (7, .vec (.loc 65 0) 1 0 X.length), (8, .pv (.int .i64 k))],
  [(.loc 65 0, .arr 26 1 (X.map lsP)), (.loc 4 0, .cells c.cells), (.loc 3 0, .cells b.cells)]⟩
def chJ (b : Bk) (c : Ct) (H : List Int) (C X : List (List Int)) (k i : Nat) : AS := ⟨(11, .pv (.lst false 1 (C.map lsP))) :: (12, .pv (.int .i64 i)) :: (chH b c H X k).tm, (chH b c H X k).bx⟩
def chL (b : Bk) (c : Ct) (H : List Int) (C X : List (List Int)) (l : List Int) (k i : Nat) : AS := ⟨(53, .vec (.loc 65 0) 1 0 X.length) :: (59, .vec (.loc 59 0) 1 0 l.length) :: (62, .vec (.loc 62 0) 1 0 1) :: (chJ b c H C X k i).tm, (.loc 59 0, .arr 3 1 (l.map intP)) :: (.loc 62 0, .arr 3 1 [.int .i64 c.num]) :: (chJ b c H C X k i).bx⟩
set_option maxHeartbeats 32000000 in
theorem chains_c (b : Bk) (hb : b.ok) (h10 : b.certs.length ≤ 10) : ∀ n : Nat, (n : Int) ∈ b.held [] → CallsA Try.prog 77 ([b.pv, (b.get n).pv, lsP (b.held [])].map .pv) [] (fun r B => r = .pv (.lst false 1 ((b.chains (b.held []) n).map lsP)) ∧ B = []) := by
  intro n
  induction n using Nat.strongRecOn with
  | _ n ih =>
  intro hx
  have hn := held_nums hb _ hx
  have hbn := nums_bd hb n hn
  obtain ⟨g1, g2⟩ := get_num hb hn
  have hbd := cert_bds hb g1
  have hlen := held_len (b := b) (bad := [])
  have hcl := hb.c
  have hfew := chains_few hb h10 hn
  have hful := chS_full hb hn
  have hstd : (b.item (b.get (n : Int)).src).std = true → b.chains (b.held []) (n : Int) = [[(n : Int)]] := fun h => by
    rw [chains_is hb (held_nums hb) (by omega) hn, if_pos h]
  have hle := chS_le (b := b) (n := (n : Int))
  have hnx := fun (k : Nat) (m : Int) => chS_next (b := b) (n := (n : Int)) (k := k) (m := m)
  have hz0 : chS b (n : Int) 0 = [] := by unfold chS; rfl
  have hih : ∀ m, m ∈ b.held [] → restsB (b.get (n : Int)) (b.get m) = true → CallsA Try.prog 77 ([b.pv, (b.get m).pv, lsP (b.held [])].map .pv) [] (fun r B => r = .pv (.lst false 1 ((b.chains (b.held []) m).map lsP)) ∧ B = []) := fun m hm hr => by
    have hmn := held_nums hb m hm
    have hmb := nums_bd hb m hmn
    have h2 := (get_num hb hmn).2
    have hlt : (b.get m).num < (b.get (n : Int)).num := by unfold restsB at hr; simp only [Bool.and_eq_true, decide_eq_true_eq] at hr; exact hr.1.2
    rw [h2, g2] at hlt
    obtain ⟨mm, rfl⟩ : ∃ mm : Nat, m = mm := ⟨m.toNat, by omega⟩
    exact ih mm (by omega) hm
  clear ih
  have hgets : ∀ m, m ∈ b.held [] → b.get m ∈ b.certs ∧ b.isN m = true := fun m hm => by
    obtain ⟨k1, k2⟩ := get_num hb (held_nums hb m hm)
    refine ⟨k1, ?_⟩
    unfold Bk.isN
    rw [List.any_eq_true]
    exact ⟨_, k1, by simp [k2]⟩
  obtain ⟨j, hj, hjl, z, hz, hbz, hgz⟩ := item_at hbd.2.2.2.2.2.1 hbd.2.2.2.2.2.2.1
  rw [hbz] at hful hstd
  generalize hcc : b.get (n : Int) = c at *
  generalize hCh : b.chains (b.held []) (n : Int) = C at *
  cases hs : z.std
  case true =>
    rw [hs] at hgz
    refine calls_of_awpF [.loc 23 0] mixed L77_ok (Nat.le_of_ble_eq_true rfl) ?_
    generalize hR : (fun (r : AV) (B : List (Site × Box)) => r = .pv (.lst false 1 (C.map lsP)) ∧ B = []) = R
    rw [hstd hs] at hR
    simp [-getElem?_pos, -List.getElem?_map, L77, Bk.pv, Ct.pv, itsP, ctsP, hj, hjl, hgz]
    rw [← hR]
    exact ⟨by rw [g2]; rfl, rfl⟩
  case false =>
  rw [hs] at hgz
  refine calls_of_awpF [.loc 65 0] mixed L77_ok (Nat.le_of_ble_eq_true rfl) ?_
  generalize hR : (fun (r : AV) (B : List (Site × Box)) => r = .pv (.lst false 1 (C.map lsP)) ∧ B = []) = R
  have hful := hful hs
  simp [-getElem?_pos, -List.getElem?_map, L77, Bk.pv, Ct.pv, itsP, ctsP, hj, hjl, hgz]
  generalize hH : b.held [] = H at *
  refine awp_loopS (fun m τ => ∃ k : Nat, k ≤ H.length ∧ m = H.length - k ∧ τ = chH b c H (chS b n k) k) ⟨H.length, chH b c H (chS b n 0) 0, Sub.trans' (Sub.mk (by simp [chH, AS.vecT, hz0, lsP]) (by simp [chH, AS.vecT, hz0, Bk.cells, Ct.cells, itsP, ctsP, hj])) (vecT 65 26 1 7 rfl (by decide)), 0, by omega, rfl, rfl⟩ ?_
  rintro J hJ m τ ⟨k, hk, rfl, rfl⟩
  have hle2 := hle k
  rw [hful] at hle2
  by_cases hlt : k < H.length
  · obtain ⟨m, hm⟩ : ∃ m, H[k]? = some m := ⟨_, List.getElem?_eq_getElem hlt⟩
    have hgm : (H.map intP)[k]? = some (.int .i64 m) := by rw [List.getElem?_map, hm]; rfl
    have hwk := wrapK (k := k) (by omega)
    have hround := hJ _ _ ⟨k + 1, hlt, rfl, rfl⟩
    have hmeas : H.length - (k + 1) < H.length - k := by omega
    have hmx := List.mem_of_getElem? hm
    obtain ⟨o1, o2⟩ := hgets m hmx
    have hget := rget_c b (by omega) m
    rw [o2] at hget
    have hnx := hnx k m hm
    have hle3 := hle (k + 1)
    rw [hful] at hle3
    have hih := hih m hmx
    have hre := rests_c c (b.get m) (wrap_valid hb o1)
    have hcl2 : ∀ l ∈ b.chains H m, l.length ≤ 1000 := fun l hl => chain_len hl
    rw [hnx] at hround hle3
    generalize b.get m = o at *
    generalize b.chains H m = Cm at *
    generalize chS b (n : Int) k = X at *
    unfold Ct.pv at hget
    clear hJ hle hnx hgets
    simp [-getElem?_pos, -List.getElem?_map, chH, Bk.cells, itsP, ctsP, lsP, hlt, hgm]
    refine ltS_seq (chG b c o H X k) ?_ ?_
    · simp [-getElem?_pos, -List.getElem?_map, ltS_alt, ltS_no]
      refine ⟨?_, ?_⟩
      all_goals
        refine call_gives (k := 0) (fs := []) (xs := [b.pv, .int .i64 m]) (cs := []) rfl rfl hget rfl ?_
        simp [-getElem?_pos, -List.getElem?_map, ltS_alt, ltS_no]
        refine Sub.mk ?_ ?_
        · simp [chG]
        · simp [chG, Ct.cells, Bk.cells, itsP, ctsP, lsP]
    · simp [-getElem?_pos, -List.getElem?_map, ltS_alt, ltS_no, chG, Ct.cells, Bk.cells]
      refine call_gives (k := 0) (fs := []) (xs := [c.pv, o.pv]) (cs := []) rfl rfl hre rfl ?_
      cases e1 : restsB c o
      · rw [e1, if_neg (by simp), List.append_nil] at hround
        simp [-getElem?_pos, -List.getElem?_map, hwk]
        exact ⟨_, _, hmeas, Sub.mk (by simp [chH]) (by simp [chH, Ct.cells, Bk.cells]), hround⟩
      rw [e1, if_pos rfl] at hround hle3
      simp [-getElem?_pos, -List.getElem?_map]
      refine .inl (call_pv [] (fs := []) (xs := [b.pv, o.pv, lsP H]) (cs := []) rfl rfl (hih e1) ?_)
      simp [-getElem?_pos, -List.getElem?_map, frzsL]
      refine awp_loopS (fun q τ => ∃ i : Nat, i ≤ Cm.length ∧ q = Cm.length - i ∧ τ = chJ b c H Cm (X ++ (Cm.take i).map (· ++ [(n : Int)])) k i) ⟨Cm.length, chJ b c H Cm (X ++ (Cm.take 0).map (· ++ [(n : Int)])) k 0, Sub.mk (by simp [chJ, chH]) (by simp [chJ, chH, Ct.cells, Bk.cells]), 0, by omega, rfl, rfl⟩ ?_
      rintro J2 hJ2 q τ ⟨i, hi, rfl, rfl⟩
      by_cases hlt2 : i < Cm.length
      · obtain ⟨l, hl⟩ : ∃ l, Cm[i]? = some l := ⟨_, List.getElem?_eq_getElem hlt2⟩
        have hgl : (Cm.map lsP)[i]? = some (.lst false 1 (l.map intP)) := by rw [List.getElem?_map, hl]; rfl
        have hwi := wrapK (k := i) (by
          rw [List.length_append, List.length_map] at hle3; omega)
        have hround2 := hJ2 _ _ ⟨i + 1, hlt2, rfl, rfl⟩
        have hmeas2 : Cm.length - (i + 1) < Cm.length - i := by omega
        have hll := hcl2 l (List.mem_of_getElem? hl)
        have htk : (Cm.take (i + 1)).map (· ++ [(n : Int)]) = (Cm.take i).map (· ++ [(n : Int)]) ++ [l ++ [(n : Int)]] := by rw [List.take_add_one, hl]; simp
        have hXl : (X ++ (Cm.take i).map (· ++ [(n : Int)])).length ≤ 1024 := by
          rw [List.length_append, List.length_map, List.length_take]
          rw [List.length_append, List.length_map] at hle3
          omega
        rw [htk, ← List.append_assoc] at hround2
        clear hJ2 htk
        generalize X ++ (Cm.take i).map (· ++ [(n : Int)]) = Y at *
        have hl6 : l.length ≤ 1000000 := by omega
        have hl7 : l.length ≤ 999999 := by omega
        have hY6 : Y.length ≤ 999999 := by omega
        have hlm : (l.map intP).take l.length = l.map intP := List.take_of_length_le (by simp)
        have hYm : (Y.map lsP).take Y.length = Y.map lsP := List.take_of_length_le (by simp)
        have hlm2 : (l.map intP ++ [PV.int .i64 (n : Int)]).take (l.length + 1) = l.map intP ++ [PV.int .i64 (n : Int)] := List.take_of_length_le (by simp)
        simp [-getElem?_pos, -List.getElem?_map, chJ, chH, hlt2, hgl]
        refine ltS_seq (chL b c H Cm Y l k i) ?_ ?_
        · simp [-getElem?_pos, -List.getElem?_map, ltS_alt, ltS_no, nble, nblt, hl6, hlm]
          repeat' (with_reducible refine And.intro ?_ ?_)
          all_goals
            refine Sub.mk ?_ ?_
            · simp [chL, chJ, chH]
            · simp [chL, chJ, chH, Ct.cells, Bk.cells]
        · simp [-getElem?_pos, -List.getElem?_map, ltS_alt, ltS_no, chL, chJ, chH, Ct.cells, Bk.cells, nble, nblt, hl7, hlm, hY6, hYm, hlm2, g2, hwi]
          exact ⟨_, _, hmeas2, Sub.mk (by simp [chJ, chH]) (by simp [chJ, chH, Ct.cells, Bk.cells, lsP, intP, g2]), hround2⟩
      have he : i = Cm.length := by omega
      subst he
      clear hJ2
      rw [List.take_length]
      generalize X ++ Cm.map (· ++ [(n : Int)]) = Y at *
      simp [-getElem?_pos, -List.getElem?_map, chJ, chH, hwk]
      exact ⟨_, _, hmeas, Sub.mk (by simp [chH]) (by simp [chH, Ct.cells, Bk.cells]), hround⟩
  have he : k = H.length := by omega
  subst he
  clear hJ
  rw [hful]
  have hCm : (C.map lsP).take C.length = C.map lsP := List.take_of_length_le (by simp)
  simp [-getElem?_pos, -List.getElem?_map, chH, hCm]
  rw [← hR]
  simp [hCm]
end
end Go.Proofs.Ytcgdopjmbadonaa
/-! Contracts of layer 2's reference (chain): Best. -/
namespace Go.Proofs.Ytcgdopjmbadonaa
open Go.RowKit
attribute [local simp] Box.purge Site.isLoc
set_option maxRecDepth 10000
set_option linter.unusedSimpArgs false
def bsF (b : Bk) (item day : Int) (k : Nat) : Option (List Int) := ((((b.held []).take k).filter fun m => decide ((b.get m).it = item) && (b.get m).on day).flatMap (b.chains (b.held []))).foldl stepC none
theorem bsF_next {b : Bk} {item day m : Int} {k : Nat} (h : (b.held [])[k]? = some m) : bsF b item day (k + 1) = if (decide ((b.get m).it = item) && (b.get m).on day) = true then (b.chains (b.held []) m).foldl stepC (bsF b item day k) else bsF b item day k := by
  unfold bsF
  rw [List.take_add_one, h, List.filter_append, List.flatMap_append, List.foldl_append]
  simp only [Option.toList, List.filter_cons, List.filter_nil]
  split <;> simp
theorem bsF_full {b : Bk} {item day : Int} : bsF b item day (b.held []).length = b.bestC (b.held []) item day := by
  unfold bsF
  rw [List.take_length]; rfl
def liveS (s : Option (List Int)) : Prop := ∀ l, s = some l → l ≠ [] ∧ l.length ≤ 1000
theorem live_step {s : Option (List Int)} {x : List Int} (hs : liveS s) (h1 : x ≠ []) (h2 : x.length ≤ 1000) : liveS (stepC s x) := by
  intro l hl
  unfold stepC at hl
  split at hl
  · cases hl; exact ⟨h1, h2⟩
  · split at hl
    · cases hl; exact ⟨h1, h2⟩
    · exact hs l hl
theorem live_fold : ∀ (L : List (List Int)) (s : Option (List Int)), liveS s → (∀ x ∈ L, x ≠ [] ∧ x.length ≤ 1000) → liveS (L.foldl stepC s)
  | [], s, h, _ => h
  | x :: L, s, h, hL => live_fold L _ (live_step h (hL x (by simp)).1 (hL x (by simp)).2) fun y hy => hL y (by simp [hy])
theorem chain_ne {b : Bk} {held : List Int} {n : Int} {l : List Int} (h : l ∈ b.chains held n) : l ≠ [] := by
  unfold Bk.chains at h
  obtain ⟨l', e⟩ := chU_last 1000 n l h
  rw [e]; simp
theorem live_bsF {b : Bk} {item day : Int} (k : Nat) : liveS (bsF b item day k) := by
  unfold bsF
  refine live_fold _ _ (fun l h => by cases h) fun x hx => ?_
  obtain ⟨m, _, hm⟩ := List.mem_flatMap.1 hx
  exact ⟨chain_ne hm, chain_len hm⟩
attribute [local irreducible] Bk.held Bk.nums Bk.heldU Bk.chains bsF
def rbK (b : Bk) (item day : Int) (H : List Int) (s : Option (List Int)) (k : Nat) : AS := ⟨[(1, .pv (.int .i64 item)), (2, .pv (.int .i64 day)), (3, .ptr (.loc 3 0) 0), (7, .pv (.lst false 1 (H.map intP))), (8, .pv (bestP s)), (9, .pv (.int .i64 k))], [(.loc 3 0, .cells b.cells)]⟩
def rbG (b : Bk) (item day : Int) (H : List Int) (s : Option (List Int)) (o : Ct) (k : Nat) : AS := ⟨(10, .ptr (.loc 10 0) 0) :: (36, .pv (.bool true)) :: (rbK b item day H s k).tm, (.loc 10 0, .cells o.cells) :: (rbK b item day H s k).bx⟩
def rbJ (b : Bk) (item day : Int) (H : List Int) (C : List (List Int)) (s : Option (List Int)) (k i : Nat) : AS := ⟨(12, .pv (.lst false 1 (C.map lsP))) :: (13, .pv (.int .i64 i)) :: (rbK b item day H s k).tm, (rbK b item day H s k).bx⟩
set_option maxHeartbeats 32000000 in
theorem rbest_c (b : Bk) (hb : b.ok) (h10 : b.certs.length ≤ 10) (item day : Int) (h0 : 0 ≤ item) (h1 : item < b.items.length) : CallsA Try.prog 48 ([b.pv, .int .i64 item, .int .i64 day].map .pv) [] (fun r B => r = .pv (.lst false 1 ((if (b.item item).std = true then [] else b.bestL item day).map intP)) ∧ B = []) := by
  obtain ⟨j, rfl, hjl, z, hz, hbz, hgz⟩ := item_at h0 h1
  rw [hbz]
  have hlen := held_len (b := b) (bad := [])
  have hcl := hb.c
  have hheld := rheld0_c b hb
  have hgets : ∀ m, m ∈ b.held [] → b.get m ∈ b.certs ∧ b.isN m = true := fun m hm => by
    obtain ⟨k1, k2⟩ := get_num hb (held_nums hb m hm)
    refine ⟨k1, ?_⟩
    unfold Bk.isN
    rw [List.any_eq_true]
    exact ⟨_, k1, by simp [k2]⟩
  have hch : ∀ m, m ∈ b.held [] → CallsA Try.prog 77 ([b.pv, (b.get m).pv, lsP (b.held [])].map .pv) [] (fun r B => r = .pv (.lst false 1 ((b.chains (b.held []) m).map lsP)) ∧ B = []) := fun m hm => by
    have hmb := nums_bd hb m (held_nums hb m hm)
    obtain ⟨mm, rfl⟩ : ∃ mm : Nat, m = mm := ⟨m.toNat, by omega⟩
    exact chains_c b hb h10 mm hm
  have hfew : ∀ m, m ∈ b.held [] → (b.chains (b.held []) m).length ≤ 1024 := fun m hm => by
    have hmb := nums_bd hb m (held_nums hb m hm)
    obtain ⟨mm, rfl⟩ : ∃ mm : Nat, m = mm := ⟨m.toNat, by omega⟩
    exact chains_few hb h10 (held_nums hb _ hm)
  have hnx := fun (k : Nat) (m : Int) => bsF_next (b := b) (item := (j : Int)) (day := day) (k := k) (m := m)
  have hlv := live_bsF (b := b) (item := (j : Int)) (day := day)
  have hz0 : bsF b (j : Int) day 0 = none := by unfold bsF; rfl
  have hfl := bsF_full (b := b) (item := (j : Int)) (day := day)
  refine CallsA.weak2 ?_
  refine calls_of_awpS mixed L48_ok (Nat.le_of_ble_eq_true rfl) ?_
  cases hs : z.std
  case true =>
    rw [hs] at hgz
    simp [-getElem?_pos, -List.getElem?_map, L48, Bk.pv, itsP, ctsP, hjl, hgz]
    exact fun m v h => emp_lst h
  case false =>
  rw [hs] at hgz
  rw [if_neg (by simp)]
  have hbl : b.bestL (j : Int) day = ((bsF b (j : Int) day (b.held []).length)).getD [] := by rw [hfl]; rfl
  rw [hbl]
  generalize hR : (fun (r : AV) (B : List (Site × Box)) => ∃ x, r = AV.pv x ∧ B = [] ∧ ∀ m v, RdP m v x → RdP m v (.lst false 1 (((bsF b (j : Int) day (b.held []).length).getD []).map intP))) = R
  simp [-getElem?_pos, -List.getElem?_map, L48, Bk.pv, itsP, ctsP, hjl, hgz]
  refine .inl (call_pv [] (fs := []) (xs := [b.pv, .emp (some true)]) (cs := []) rfl rfl hheld ?_)
  simp [-getElem?_pos, -List.getElem?_map, frzsL]
  generalize hH : b.held [] = H at *
  refine awp_loopS (fun m τ => ∃ k : Nat, k ≤ H.length ∧ m = H.length - k ∧ τ = rbK b j day H (bsF b j day k) k) ⟨H.length, rbK b j day H (bsF b j day 0) 0, Sub.mk (by simp [rbK, hz0, bestP]) (by simp [rbK, Bk.cells, itsP, ctsP]), 0, by omega, rfl, rfl⟩ ?_
  rintro J hJ m τ ⟨k, hk, rfl, rfl⟩
  by_cases hlt : k < H.length
  · obtain ⟨m, hm⟩ : ∃ m, H[k]? = some m := ⟨_, List.getElem?_eq_getElem hlt⟩
    have hgm : (H.map intP)[k]? = some (.int .i64 m) := by rw [List.getElem?_map, hm]; rfl
    have hwk := wrapK (k := k) (by omega)
    have hround := hJ _ _ ⟨k + 1, hlt, rfl, rfl⟩
    have hmeas : H.length - (k + 1) < H.length - k := by omega
    have hmx := List.mem_of_getElem? hm
    obtain ⟨o1, o2⟩ := hgets m hmx
    have hget := rget_c b (by omega) m
    rw [o2] at hget
    have hnx := hnx k m hm
    have hch := hch m hmx
    have hfew := hfew m hmx
    have hv := rvalidC_c (b.get m) day (wrap_valid hb o1)
    have hcm : ∀ l ∈ b.chains H m, l ≠ [] ∧ l.length ≤ 1000 := fun l hl => ⟨chain_ne hl, chain_len hl⟩
    have hlv := hlv k
    rw [hnx] at hround
    generalize b.get m = o at *
    generalize b.chains H m = Cm at *
    generalize bsF b (j : Int) day k = s at *
    unfold Ct.pv at hget
    clear hJ hnx hgets hR hbl hfl hz0
    simp [-getElem?_pos, -List.getElem?_map, rbK, Bk.cells, itsP, ctsP, hlt, hgm]
    refine ltS_seq (rbG b j day H s o k) ?_ ?_
    · simp [-getElem?_pos, -List.getElem?_map, ltS_alt, ltS_no]
      refine ⟨?_, ?_⟩
      all_goals
        refine call_gives (k := 0) (fs := []) (xs := [b.pv, .int .i64 m]) (cs := []) rfl rfl hget rfl ?_
        simp [-getElem?_pos, -List.getElem?_map, ltS_alt, ltS_no]
        refine Sub.mk ?_ ?_
        · simp [rbG, rbK]
        · simp [rbG, rbK, Ct.cells, Bk.cells, itsP, ctsP]
    · cases e1 : decide (o.it = (j : Int))
      · rw [e1, Bool.false_and, if_neg (by simp)] at hround
        simp [-getElem?_pos, -List.getElem?_map, -decide_eq_true_eq, -decide_eq_false_iff_not, ltS_alt, ltS_no, rbG, rbK, Ct.cells, Bk.cells, e1, hwk]
        exact ⟨_, _, hmeas, Sub.mk (by simp [rbK]) (by simp [rbK, Bk.cells]), hround⟩
      rw [e1, Bool.true_and] at hround
      simp [-getElem?_pos, -List.getElem?_map, -decide_eq_true_eq, -decide_eq_false_iff_not, ltS_alt, ltS_no, rbG, rbK, Ct.cells, Bk.cells, e1]
      refine call_gives (k := 0) (fs := []) (xs := [o.pv, .int .i64 day]) (cs := []) rfl rfl hv rfl ?_
      cases e2 : o.on day
      · rw [e2, if_neg (by simp)] at hround
        simp [-getElem?_pos, -List.getElem?_map, hwk]
        exact ⟨_, _, hmeas, Sub.mk (by simp [rbK]) (by simp [rbK, Bk.cells]), hround⟩
      rw [e2, if_pos rfl] at hround
      simp [-getElem?_pos, -List.getElem?_map]
      refine .inl (call_pv [] (fs := []) (xs := [b.pv, o.pv, lsP H]) (cs := []) rfl rfl hch ?_)
      simp [-getElem?_pos, -List.getElem?_map, frzsL]
      refine awp_loopS (fun q τ => ∃ i : Nat, i ≤ Cm.length ∧ q = Cm.length - i ∧ τ = rbJ b j day H Cm ((Cm.take i).foldl stepC s) k i) ⟨Cm.length, rbJ b j day H Cm ((Cm.take 0).foldl stepC s) k 0, Sub.mk (by simp [rbJ, rbK]) (by simp [rbJ, rbK, Bk.cells]), 0, by omega, rfl, rfl⟩ ?_
      rintro J2 hJ2 q τ ⟨i, hi, rfl, rfl⟩
      have hsl := live_fold (Cm.take i) s hlv fun x hx => hcm x (List.mem_of_mem_take hx)
      by_cases hlt2 : i < Cm.length
      · obtain ⟨l, hl⟩ : ∃ l, Cm[i]? = some l := ⟨_, List.getElem?_eq_getElem hlt2⟩
        have hgl : (Cm.map lsP)[i]? = some (.lst false 1 (l.map intP)) := by rw [List.getElem?_map, hl]; rfl
        have hwi := wrapK (k := i) (by omega)
        have hround2 := hJ2 _ _ ⟨i + 1, hlt2, rfl, rfl⟩
        have hmeas2 : Cm.length - (i + 1) < Cm.length - i := by omega
        obtain ⟨hl0, hl1⟩ := hcm l (List.mem_of_getElem? hl)
        have htk : (Cm.take (i + 1)).foldl stepC s = stepC ((Cm.take i).foldl stepC s) l := by rw [List.take_add_one, hl, List.foldl_append]; rfl
        rw [htk] at hround2
        clear hJ2 htk
        generalize (Cm.take i).foldl stepC s = u at *
        cases u with
        | none =>
          have e3 : stepC none l = some l := rfl
          rw [e3] at hround2
          simp [-getElem?_pos, -List.getElem?_map, rbJ, rbK, bestP, nilOf, hlt2, hgl, hwi]
          exact ⟨_, _, hmeas2, Sub.mk (by simp [rbJ, rbK, bestP]) (by simp [rbJ, rbK]), hround2⟩
        | some y =>
          obtain ⟨hy0, hy1⟩ := hsl y rfl
          have hnil : nilOf .sl (.pv (.lst false 1 (y.map intP))) = some false := by
            cases y with
            | nil => exact absurd rfl hy0
            | cons a r => rfl
          have hle := less_c l y (by omega)
          have e3 : stepC (some y) l = if ltC l y = true then some l else some y := rfl
          rw [e3] at hround2
          simp [-getElem?_pos, -List.getElem?_map, rbJ, rbK, bestP, hnil, hlt2, hgl]
          refine call_gives (k := 0) (fs := []) (xs := [.lst false 1 (l.map intP), .lst false 1 (y.map intP)]) (cs := []) rfl rfl hle rfl ?_
          cases e4 : ltC l y
          · rw [e4, if_neg (by simp)] at hround2
            simp [-getElem?_pos, -List.getElem?_map, hwi]
            exact ⟨_, _, hmeas2, Sub.mk (by simp [rbJ, rbK, bestP]) (by simp [rbJ, rbK]), hround2⟩
          · rw [e4, if_pos rfl] at hround2
            simp [-getElem?_pos, -List.getElem?_map, hlt2, hgl, hwi]
            exact ⟨_, _, hmeas2, Sub.mk (by simp [rbJ, rbK, bestP]) (by simp [rbJ, rbK]), hround2⟩
      have he : i = Cm.length := by omega
      subst he
      clear hJ2
      rw [List.take_length]
      generalize Cm.foldl stepC s = u at *
      simp [-getElem?_pos, -List.getElem?_map, rbJ, rbK, hwk]
      exact ⟨_, _, hmeas, Sub.mk (by simp [rbK]) (by simp [rbK]), hround⟩
  have he : k = H.length := by omega
  subst he
  clear hJ
  generalize bsF b (j : Int) day H.length = s at *
  simp [-getElem?_pos, -List.getElem?_map, rbK]
  rw [← hR]
  cases s with
  | none => exact ⟨_, rfl, rfl, fun m v h => emp_lst h⟩
  | some l => exact ⟨_, rfl, rfl, fun m v h => h⟩
end Go.Proofs.Ytcgdopjmbadonaa
/-! Contracts of layer 2's reference (chain): IsChain. -/
namespace Go.Proofs.Ytcgdopjmbadonaa
open Go.RowKit
attribute [local simp] Box.purge Site.isLoc
set_option maxRecDepth 10000
set_option linter.unusedSimpArgs false
attribute [local irreducible] Bk.held Bk.nums Bk.heldU
def icK (b : Bk) (item day : Int) (l H : List Int) (k : Nat) : AS := ⟨[(1, .pv (.int .i64 item)), (2, .pv (.int .i64 day)), (3, .pv (.lst false 1 (l.map intP))), (4, .ptr (.loc 4 0) 0), (9, .pv (.lst false 1 (H.map intP))), (10, .pv (.int .i64 k))], [(.loc 4 0, .cells b.cells)]⟩
def icG (b : Bk) (item day : Int) (l H : List Int) (c : Ct) (is : Bool) (k : Nat) : AS := ⟨(11, .ptr (.loc 11 0) 0) :: (42, .pv (.bool is)) :: (icK b item day l H k).tm, (.loc 11 0, .cells c.cells) :: (icK b item day l H k).bx⟩
def icP (b : Bk) (item day : Int) (l H : List Int) (c o : Ct) (is : Bool) (k : Nat) : AS := ⟨(13, .ptr (.loc 13 0) 0) :: (11, .ptr (.loc 11 0) 0) :: (79, .pv (.bool is)) :: (icK b item day l H k).tm, (.loc 13 0, .cells o.cells) :: (.loc 11 0, .cells c.cells) :: (icK b item day l H k).bx⟩
def icL (b : Bk) (item day : Int) (l H : List Int) (c : Ct) (is : Bool) (k : Nat) : AS := ⟨(15, .ptr (.loc 15 0) 0) :: (97, .pv (.bool is)) :: (icK b item day l H k).tm, (.loc 15 0, .cells c.cells) :: (icK b item day l H k).bx⟩
set_option maxHeartbeats 32000000 in
theorem ischain_c (b : Bk) (hb : b.ok) (item day : Int) (h0 : 0 ≤ item) (h1 : item < b.items.length) (l : List Int) (hll : l.length ≤ 1000) : Gives Try.prog 47 [b.pv, .int .i64 item, .int .i64 day, .lst false 1 (l.map intP)] (.bool (b.chainB item day l)) := by
  obtain ⟨j, rfl, hjl, z, hz, hbz, hgz⟩ := item_at h0 h1
  obtain ⟨T, hT⟩ : ∃ T, T = b.chainB (j : Int) day l := ⟨_, rfl⟩
  rw [← hT]
  unfold Bk.chainB at hT
  rw [hbz] at hT
  have hlen := held_len (b := b) (bad := [])
  have hcl := hb.c
  have hheld := rheld0_c b hb
  refine calls_of_awpS mixed L47_ok (Nat.le_of_ble_eq_true rfl) ?_
  cases hs : z.std
  case true =>
    rw [hs] at hgz hT
    rw [if_pos rfl] at hT
    subst hT
    simp [-getElem?_pos, -List.getElem?_map, L47, Bk.pv, itsP, ctsP, hjl, hgz]
  case false =>
  rw [hs] at hgz hT
  rw [if_neg (by simp)] at hT
  have hno : ∀ i, i < l.length → b.linkB l i = false → T = false := fun i h1 h2 => by
    have : (List.range l.length).all (b.linkB l) = false := by
      rw [List.all_eq_false]
      exact ⟨i, List.mem_range.2 h1, by simp [h2]⟩
    rw [hT, this]; simp
  have hinx : ∀ x : Int, (b.held []).contains x = true → x ∈ b.nums := fun x h => heldIn hb (List.contains_iff_mem.1 h)
  have hisN : ∀ x : Int, (b.held []).contains x = true → b.isN x = true := fun x h => by
    obtain ⟨k1, k2⟩ := get_num hb (hinx x h)
    unfold Bk.isN
    rw [List.any_eq_true]
    exact ⟨_, k1, by simp [k2]⟩
  have hlk : ∀ k n, l[k]? = some n → b.linkB l k = ((b.held []).contains n && (if k = 0 then (b.item (b.get n).src).std else restsB (b.get n) (b.get ((l[k - 1]?).getD 0)))) := fun k n h => by unfold Bk.linkB; rw [h]
  have hhas := fun x : Int => has_c (b.held []) x (by omega)
  simp [-getElem?_pos, -List.getElem?_map, L47, Bk.pv, itsP, ctsP, hjl, hgz]
  refine .inl (call_pv [] (fs := []) (xs := [b.pv, .emp (some true)]) (cs := []) rfl rfl hheld ?_)
  simp [-getElem?_pos, -List.getElem?_map, frzsL]
  generalize hH : b.held [] = H at *
  refine awp_loopS (fun m τ => ∃ k : Nat, k ≤ l.length ∧ m = l.length - k ∧ (List.range k).all (b.linkB l) = true ∧ (∀ (i : Nat) (x : Int), i < k → l[i]? = some x → H.contains x = true) ∧ τ = icK b j day l H k) ⟨l.length, icK b j day l H 0, Sub.mk (by simp [icK]) (by simp [icK, Bk.cells, itsP, ctsP]), 0, by omega, rfl, rfl, (fun i x hi => by omega), rfl⟩ ?_
  rintro J hJ m τ ⟨k, hk, rfl, hall, hinv, rfl⟩
  by_cases hlt : k < l.length
  · obtain ⟨n, hn⟩ : ∃ n, l[k]? = some n := ⟨_, List.getElem?_eq_getElem hlt⟩
    have hgn : (l.map intP)[k]? = some (.int .i64 n) := by rw [List.getElem?_map, hn]; rfl
    have hwk := wrapK (k := k) (by omega)
    have hmeas : l.length - (k + 1) < l.length - k := by omega
    have hL := hlk k n hn
    have hget := rget_c b (by omega) n
    have hround := fun (h : H.contains n = true) (h2 : b.linkB l k = true) => hJ _ _ ⟨k + 1, hlt, rfl, by rw [List.range_succ, List.all_append, hall]; simp [h2], (fun i x hi hx => by
      rcases Nat.lt_succ_iff_lt_or_eq.1 hi with h' | h'
      · exact hinv i x h' hx
      · subst h'; rw [hn] at hx; cases hx; exact h), rfl⟩
    clear hJ
    have hhn := hhas n
    have hisn := hisN n
    have hmn := hinx n
    obtain ⟨c, hcc⟩ : ∃ c, b.get n = c := ⟨_, rfl⟩
    have hcm := fun h : H.contains n = true => get_num hb (hmn h)
    rw [hcc] at hget hL hcm
    unfold Ct.pv at hget
    simp [-getElem?_pos, -List.getElem?_map, icK, Bk.cells, itsP, ctsP, hlt, hgn]
    refine ltS_seq (icG b j day l H c (b.isN n) k) ?_ ?_
    · simp [-getElem?_pos, -List.getElem?_map, ltS_alt, ltS_no]
      refine ⟨?_, ?_⟩
      all_goals
        refine call_gives (k := 0) (fs := []) (xs := [b.pv, .int .i64 n]) (cs := []) rfl rfl hget rfl ?_
        simp [-getElem?_pos, -List.getElem?_map, ltS_alt, ltS_no]
        refine Sub.mk ?_ ?_
        · simp [icG, icK]
        · simp [icG, icK, Ct.cells, Bk.cells, itsP, ctsP]
    cases e1 : b.isN n
    · have hHn : H.contains n = false := by
        cases hq : H.contains n
        · rfl
        · rw [hisn hq] at e1; cases e1
      have hTf := hno k hlt (by rw [hL, hHn]; rfl)
      subst hTf
      simp [-getElem?_pos, -List.getElem?_map, ltS_alt, ltS_no, icG, icK, Ct.cells, Bk.cells]
    simp [-getElem?_pos, -List.getElem?_map, ltS_alt, ltS_no, icG, icK, Ct.cells, Bk.cells, hlt, hgn]
    refine call_gives (k := 0) (fs := []) (xs := [.lst false 1 (H.map intP), .int .i64 n]) (cs := []) rfl rfl hhn rfl ?_
    cases e2 : H.contains n
    · have hTf := hno k hlt (by rw [hL, e2]; rfl)
      subst hTf
      simp [-getElem?_pos, -List.getElem?_map]
    have hround := hround e2
    rw [e2, Bool.true_and] at hL
    obtain ⟨g1, g2⟩ := hcm e2
    have hbd := cert_bds hb g1
    obtain ⟨sj, hsj, hsjl, u, hu, hbu, hgu⟩ := item_at hbd.2.2.2.2.2.1 hbd.2.2.2.2.2.2.1
    by_cases hk0 : k = 0
    · rw [if_pos hk0, hbu] at hL
      subst hk0
      cases hus : u.std
      · have hTf := hno 0 hlt (by rw [hL, hus])
        subst hTf
        rw [hus] at hgu
        simp [-getElem?_pos, -List.getElem?_map, hsj, itsP, hgu, hsjl]
      · have hround := hround (by rw [hL, hus])
        rw [hus] at hgu
        simp [-getElem?_pos, -List.getElem?_map, hsj, itsP, hgu, hsjl, hwk]
        refine ⟨_, _, hmeas, Sub.mk ?_ ?_, hround⟩
        · simp [icK, (show IntKind.i64.wrap 1 = 1 from rfl)]
        · simp [icK, Bk.cells, itsP]
    · rw [if_neg hk0] at hL
      obtain ⟨i, rfl⟩ : ∃ i, k = i + 1 := ⟨k - 1, by omega⟩
      obtain ⟨x, hx⟩ : ∃ x, l[i]? = some x := ⟨_, List.getElem?_eq_getElem (by omega)⟩
      have hgx : (l.map intP)[i]? = some (.int .i64 x) := by rw [List.getElem?_map, hx]; rfl
      have hxh := hinv i x (by omega) hx
      have hmx := hinx x hxh
      obtain ⟨q1, q2⟩ := get_num hb hmx
      have hgetx := rget_c b (by omega) x
      rw [hisN x hxh] at hgetx
      have hre := rests_c c (b.get x) (wrap_valid hb q1)
      rw [Nat.add_sub_cancel, hx, Option.getD_some] at hL
      generalize b.get x = o at *
      unfold Ct.pv at hgetx
      have hw1 : IntKind.i64.wrap (((i + 1 : Nat) : Int) - 1) = (i : Int) := by rw [wrap64 (by omega)]; omega
      have hk1 : decide (((i + 1 : Nat) : Int) = 0) = false := decide_eq_false (by omega)
      have hk2 : decide ((0 : Int) < ((i + 1 : Nat) : Int)) = true := decide_eq_true (by omega)
      have hil : i < l.length := by omega
      simp [-getElem?_pos, -List.getElem?_map, -decide_eq_true_eq, -decide_eq_false_iff_not, -Int.natCast_add, hk1, hk2, hw1, hgx, hil]
      refine ltS_seq (icP b j day l H c o true (i + 1)) ?_ ?_
      · simp [-getElem?_pos, -List.getElem?_map, ltS_alt, ltS_no]
        refine ⟨?_, ?_⟩
        all_goals
          refine call_gives (k := 0) (fs := []) (xs := [b.pv, .int .i64 x]) (cs := []) rfl rfl hgetx rfl ?_
          simp [-getElem?_pos, -List.getElem?_map, ltS_alt, ltS_no]
          refine Sub.mk ?_ ?_
          · simp [icP, icK]
          · simp [icP, icK, Ct.cells, Bk.cells, itsP, ctsP]
      simp [-getElem?_pos, -List.getElem?_map, -Int.natCast_add, ltS_alt, ltS_no, icP, icK, Ct.cells, Bk.cells]
      refine call_gives (k := 0) (fs := []) (xs := [c.pv, o.pv]) (cs := []) rfl rfl hre rfl ?_
      cases e3 : restsB c o
      · have hTf := hno (i + 1) hlt (by rw [hL, e3])
        subst hTf
        simp [-getElem?_pos, -List.getElem?_map, -Int.natCast_add]
      · have hround := hround (by rw [hL, e3])
        simp [-getElem?_pos, -List.getElem?_map, -Int.natCast_add, hwk]
        refine ⟨_, _, hmeas, Sub.mk ?_ ?_, hround⟩
        · simp [icK]
        · simp [icK, Bk.cells]
  have he : k = l.length := by omega
  subst he
  clear hJ hno hlk
  rw [hall, Bool.and_true] at hT
  by_cases hl0 : l = []
  · subst hl0
    have hT' : T = false := by rw [hT]; rfl
    subst hT'
    simp [-getElem?_pos, -List.getElem?_map, icK]
  have hpos : 0 < l.length := List.length_pos_iff.2 hl0
  rw [decide_eq_true hpos, Bool.true_and] at hT
  obtain ⟨i, hi⟩ : ∃ i, l.length = i + 1 := ⟨l.length - 1, by omega⟩
  obtain ⟨x, hx⟩ : ∃ x, l[i]? = some x := ⟨_, List.getElem?_eq_getElem (by omega)⟩
  have hgx : (l.map intP)[i]? = some (.int .i64 x) := by rw [List.getElem?_map, hx]; rfl
  have hxh := hinv i x (by omega) hx
  obtain ⟨q1, q2⟩ := get_num hb (hinx x hxh)
  have hgetx := rget_c b (by omega) x
  rw [hisN x hxh] at hgetx
  have hv := rvalidC_c (b.get x) day (wrap_valid hb q1)
  unfold Bk.lastB at hT
  rw [show l.length - 1 = i by omega, hx, Option.getD_some] at hT
  have hw1 : IntKind.i64.wrap ((l.length : Int) - 1) = (i : Int) := by rw [wrap64 (by omega)]; omega
  have hil : i < l.length := by omega
  generalize b.get x = c at *
  unfold Ct.pv at hgetx
  simp [-getElem?_pos, -List.getElem?_map, icK, hl0, hw1, hgx, hil, Bk.cells, itsP, ctsP]
  refine ltS_seq (icL b j day l H c true l.length) ?_ ?_
  · simp [-getElem?_pos, -List.getElem?_map, ltS_alt, ltS_no]
    refine ⟨?_, ?_⟩
    all_goals
      refine call_gives (k := 0) (fs := []) (xs := [b.pv, .int .i64 x]) (cs := []) rfl rfl hgetx rfl ?_
      simp [-getElem?_pos, -List.getElem?_map, ltS_alt, ltS_no]
      refine Sub.mk ?_ ?_
      · simp [icL, icK]
      · simp [icL, icK, Ct.cells, Bk.cells, itsP, ctsP]
  cases e1 : decide (c.it = (j : Int))
  · rw [e1, Bool.false_and] at hT
    subst hT
    simp [-getElem?_pos, -List.getElem?_map, -decide_eq_true_eq, -decide_eq_false_iff_not, ltS_alt, ltS_no, icL, icK, Ct.cells, Bk.cells, e1]
  rw [e1, Bool.true_and] at hT
  subst hT
  simp [-getElem?_pos, -List.getElem?_map, -decide_eq_true_eq, -decide_eq_false_iff_not, ltS_alt, ltS_no, icL, icK, Ct.cells, Bk.cells, e1]
  refine call_gives (k := 0) (fs := []) (xs := [c.pv, .int .i64 day]) (cs := []) rfl rfl hv rfl ?_
  simp [-getElem?_pos, -List.getElem?_map]
end Go.Proofs.Ytcgdopjmbadonaa
