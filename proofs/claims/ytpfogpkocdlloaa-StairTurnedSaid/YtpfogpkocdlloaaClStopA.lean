/- Plain laws of layer 4 (stair): a stopped run that is put in. No program here. (Several texts in one.) -/
import Derived.Test.YtpfogpkocdlloaaStE
import Derived.Test.YtpfogpkocdlloaaStD
set_option linter.unusedVariables false
set_option linter.unusedSimpArgs false
/-! Plain laws of layer 4 (stair): a stopped run that is put in. No program here. -/
namespace Go.Proofs.Ytpfogpkocdlloaa
open Go.RowKit

/-- A stopped run is put in at k. -/
def insP (s : St) : Nat → Int → List Int × List Int → List Int × List Int
  | 0, v, p => (2 :: p.1, v :: p.2)
  | k + 1, v, (a :: p, b :: q) => (a :: (insP s k (s.next v a) (p, q)).1, b :: (insP s k (s.next v a) (p, q)).2)
  | _ + 1, _, p => p
def putRn (l : List Rn) (k : Nat) : List Rn := l.take k ++ (⟨match l[k]? with
  | some r => r.level
  | none => -1, 2⟩ :: l.drop k)
def St.put (s : St) (k : Nat) : St := ⟨s.levels, s.start, putRn s.runs k⟩
theorem St.put_paths {s x : St} (hl : x.levels = s.levels) : ∀ (l : List Rn) (k : Nat) (v : Int), k ≤ l.length → x.paths (putRn l k) v = (s.paths l v).map (insP s k v)
  | l, 0, v, _ => by
    have hn : ∀ k, x.next v k = s.next v k := fun k => by unfold St.next; rw [hl]
    have hpp : ∀ l v, x.paths l v = s.paths l v := by
      intro l
      induction l with
      | nil => intro v; rfl
      | cons r l ih =>
        intro v
        simp only [St.paths, ih]
        have hn : ∀ k, x.next v k = s.next v k := fun k => by unfold St.next; rw [hl]
        simp only [hn]
    unfold putRn
    rw [List.take_zero, List.drop_zero, List.nil_append]
    simp only [St.paths, List.flatMap_cons, List.flatMap_nil, List.append_nil, Rn.may, hpp]
    cases l with
    | nil =>
      simp [insP, St.next, St.paths]
    | cons r l =>
      simp only [List.getElem?_cons_zero]
      by_cases hm : r.level = -1 ∨ r.level = v
      · have : (decide (r.level = -1) || decide (r.level = v)) = true := by simpa using hm
        simp [this, St.next]
        intro a b _; rfl
      · have h1 : (decide (r.level = -1) || decide (r.level = v)) = false := by simpa using hm
        have h2 : s.paths (r :: l) v = [] := by
          unfold St.paths
          rw [List.flatMap_eq_nil_iff]
          intro k hk
          have : r.may v k = false := by unfold Rn.may; rw [h1]; rfl
          rw [this]; rfl
        rw [h2]
        simp [h1]
  | [], k + 1, v, h => by simp at h
  | r :: l, k + 1, v, h => by
    have hn : ∀ k, x.next v k = s.next v k := fun k => by unfold St.next; rw [hl]
    have e : putRn (r :: l) (k + 1) = r :: putRn l k := by unfold putRn; simp
    rw [e]
    have h1 : ∀ a : Int, (if r.may v a = true then (x.paths (putRn l k) (x.next v a)).map (fun p => (a :: p.1, v :: p.2)) else []) = (if r.may v a = true then (s.paths l (s.next v a)).map (fun p => (a :: p.1, v :: p.2)) else []).map (insP s (k + 1) v) := fun a => by
      split
      · rw [hn, St.put_paths hl l k _ (by simpa using h), List.map_map, List.map_map]
        rfl
      · rfl
    simp only [St.paths, List.flatMap_cons, List.flatMap_nil, List.append_nil, List.map_append, h1]
theorem St.put_all (s : St) {k : Nat} (hk : k ≤ s.runs.length) : (s.put k).all = s.all.map (insP s k s.start) := St.put_paths (s := s) (x := s.put k) rfl s.runs k s.start hk
theorem insP_fst (s : St) : ∀ (k : Nat) (v : Int) (p q : List Int) (j : Nat), p.length = q.length → k ≤ p.length → (insP s k v (p, q)).1[if j < k then j else j + 1]? = p[j]?
  | 0, v, p, q, j, _, _ => by simp [insP]
  | k + 1, v, a :: p, b :: q, 0, _, _ => by simp [insP]
  | k + 1, v, a :: p, b :: q, j + 1, h, hk => by
    have := insP_fst s k (s.next v a) p q j (by simpa using h) (by simpa using hk)
    simp only [insP]
    by_cases hj : j < k
    · rw [if_pos hj] at this
      rw [if_pos (by omega)]
      simpa using this
    · rw [if_neg hj] at this
      rw [if_neg (by omega)]
      simpa using this
  | k + 1, v, [], q, j, h, hk => by simp at hk
  | k + 1, v, a :: p, [], j, h, hk => by simp at h
theorem insP_snd (s : St) : ∀ (k : Nat) (v : Int) (p q : List Int) (j : Nat), p.length = q.length → k ≤ p.length → (insP s k v (p, q)).2[if j < k then j else j + 1]? = q[j]?
  | 0, v, p, q, j, _, _ => by simp [insP]
  | k + 1, v, a :: p, b :: q, 0, _, _ => by simp [insP]
  | k + 1, v, a :: p, b :: q, j + 1, h, hk => by
    have := insP_snd s k (s.next v a) p q j (by simpa using h) (by simpa using hk)
    simp only [insP]
    by_cases hj : j < k
    · rw [if_pos hj] at this
      rw [if_pos (by omega)]
      simpa using this
    · rw [if_neg hj] at this
      rw [if_neg (by omega)]
      simpa using this
  | k + 1, v, [], q, j, h, hk => by simp at hk
  | k + 1, v, a :: p, [], j, h, hk => by simp at h
theorem midOf_like : ∀ (ds ls : List Int) (M N : Mid), M.like N → (midOf ds ls M).like (midOf ds ls N)
  | [], ls, M, N, h => by simpa [midOf] using h
  | d :: ds, [], M, N, h => by simpa [midOf] using h
  | d :: ds, l :: ls, M, N, h => by
    simp only [midOf]
    refine midOf_like ds ls _ _ ?_
    unfold Mid.like at *
    obtain ⟨h1, h2, h3, h4⟩ := h
    unfold Mid.add
    split
    · simp [h1, h2, h3, h4]
    · split
      · simp [h1, h2, h3, h4]
      · simp [h1, h2, h3, h4]
theorem insP_mid (s : St) : ∀ (k : Nat) (v : Int) (p q : List Int) (M N : Mid), M.like N → (midOf (insP s k v (p, q)).1 (insP s k v (p, q)).2 M).like (midOf p q N)
  | 0, v, p, q, M, N, h => by
    simp only [insP, midOf]
    refine midOf_like p q _ _ ?_
    unfold Mid.like at *
    obtain ⟨h1, h2, h3, h4⟩ := h
    simp [Mid.add, h1, h2, h3, h4]
  | k + 1, v, a :: p, b :: q, M, N, h => by
    simp only [insP, midOf]
    refine insP_mid s k _ p q _ _ ?_
    unfold Mid.like at *
    obtain ⟨h1, h2, h3, h4⟩ := h
    unfold Mid.add
    split
    · simp [h1, h2, h3, h4]
    · split
      · simp [h1, h2, h3, h4]
      · simp [h1, h2, h3, h4]
  | k + 1, v, [], q, M, N, h => by simp only [insP]; exact midOf_like _ _ _ _ h
  | k + 1, v, a :: p, [], M, N, h => by simp only [insP]; exact midOf_like _ _ _ _ h
theorem insP_midP (s : St) (k : Nat) (v : Int) (p : List Int × List Int) : midP (insP s k v p) = midP p := by
  unfold midP
  exact Mid.mid_like (insP_mid s k v p.1 p.2 _ _ ⟨rfl, rfl, rfl, rfl⟩)
/-- Two families of histories with the same levels, and the same results, at two places. -/
theorem RunAt.uniq {P P' : List (List Int × List Int)} {i i' : Nat} {lo hi lo' hi' : Int} {q q' : List Int} (h : RunAt P i lo hi q) (k : RunAt P' i' lo' hi' q')
    (e1 : ∀ r, (∃ p ∈ P, p.1[i]? = some r) ↔ ∃ p ∈ P', p.1[i']? = some r) (e2 : ∀ v, (∃ p ∈ P, p.2[i]? = some v) ↔ ∃ p ∈ P', p.2[i']? = some v) : lo = lo' ∧ hi = hi' ∧ sortI q = sortI q' := by
  obtain ⟨a, ha, ea⟩ := (e2 lo).1 h.lo'
  obtain ⟨b, hb, eb⟩ := (e2 hi).1 h.hi'
  obtain ⟨c, hc, ec⟩ := (e2 lo').2 k.lo'
  obtain ⟨d, hd, ed⟩ := (e2 hi').2 k.hi'
  have h1 := k.bd a ha lo ea
  have h2 := k.bd b hb hi eb
  have h3 := h.bd c hc lo' ec
  have h4 := h.bd d hd hi' ed
  refine ⟨by omega, by omega, sortI_of_mem h.nd k.nd (fun x => ?_)⟩
  rw [h.mem, k.mem]; exact e1 x
theorem St.put_len (s : St) {k : Nat} (hk : k ≤ s.runs.length) : (s.put k).runs.length = s.runs.length + 1 := by
  show (putRn s.runs k).length = _
  unfold putRn
  simp; omega
theorem St.put_possible {s : St} {k : Nat} (hk : k ≤ s.runs.length) (hc : s.check = 0) (hx : (s.put k).check = 0) : (s.put k).possible = s.possible := by
  rw [St.possible_all hc, St.possible_all hx, St.put_all s hk]
  by_cases h : s.all = []
  · rw [h]; rfl
  · rw [if_neg h, if_neg (by simpa using h)]
theorem St.put_midS {s : St} {k : Nat} (hk : k ≤ s.runs.length) : (s.put k).midS = s.midS := by
  unfold St.midS
  rw [St.put_all s hk, List.map_map]
  congr 1
  apply List.map_congr_left
  intro p _
  exact insP_midP s k s.start p
theorem St.put_middle {s : St} {k : Nat} (hk : k ≤ s.runs.length) (hc : s.check = 0) (hx : (s.put k).check = 0) : (s.put k).middle = s.middle := by
  unfold St.middle
  rw [St.put_possible hk hc hx, St.put_midS hk]
/-- The other runs' levels and results are the same. -/
theorem St.put_runs {s : St} {k : Nat} (hk : k ≤ s.runs.length) (hc : s.check = 0) (hx : (s.put k).check = 0) (hp : s.possible = 0) {i : Nat} (hi : i < s.runs.length) :
    ∃ lo hi' q q', s.runS.lv[i]? = some (lo, hi') ∧ s.runS.rs[i]? = some q ∧ (s.put k).runS.lv[if i < k then i else i + 1]? = some (lo, hi') ∧ (s.put k).runS.rs[if i < k then i else i + 1]? = some q' ∧ sortI q = sortI q' := by
  have hpx : (s.put k).possible = 0 := by rw [St.put_possible hk hc hx]; exact hp
  obtain ⟨lo, hi', q, a1, a2, a3⟩ := (St.runs_sp hc hp).at' i hi
  obtain ⟨lo2, hi2, q2, b1, b2, b3⟩ := (St.runs_sp hx hpx).at' (if i < k then i else i + 1) (by rw [St.put_len s hk]; split <;> omega)
  have hlen : ∀ p ∈ s.all, p.1.length = p.2.length ∧ k ≤ p.1.length := fun p hp => by
    obtain ⟨h1, h2, _⟩ := St.all_ok hc hp
    omega
  have e1 : ∀ r, (∃ p ∈ s.all, p.1[i]? = some r) ↔ ∃ p ∈ (s.put k).all, p.1[if i < k then i else i + 1]? = some r := fun r => by
    rw [St.put_all s hk]
    constructor
    · rintro ⟨p, h1, h2⟩
      exact ⟨_, List.mem_map.2 ⟨p, h1, rfl⟩, by rw [show p = (p.1, p.2) from rfl, insP_fst s k s.start p.1 p.2 i (hlen p h1).1 (hlen p h1).2]; exact h2⟩
    · rintro ⟨_, h0, h2⟩
      obtain ⟨p, h1, rfl⟩ := List.mem_map.1 h0
      rw [show p = (p.1, p.2) from rfl, insP_fst s k s.start p.1 p.2 i (hlen p h1).1 (hlen p h1).2] at h2
      exact ⟨p, h1, h2⟩
  have e2 : ∀ r, (∃ p ∈ s.all, p.2[i]? = some r) ↔ ∃ p ∈ (s.put k).all, p.2[if i < k then i else i + 1]? = some r := fun r => by
    rw [St.put_all s hk]
    constructor
    · rintro ⟨p, h1, h2⟩
      exact ⟨_, List.mem_map.2 ⟨p, h1, rfl⟩, by rw [show p = (p.1, p.2) from rfl, insP_snd s k s.start p.1 p.2 i (hlen p h1).1 (hlen p h1).2]; exact h2⟩
    · rintro ⟨_, h0, h2⟩
      obtain ⟨p, h1, rfl⟩ := List.mem_map.1 h0
      rw [show p = (p.1, p.2) from rfl, insP_snd s k s.start p.1 p.2 i (hlen p h1).1 (hlen p h1).2] at h2
      exact ⟨p, h1, h2⟩
  obtain ⟨rfl, rfl, hs⟩ := a3.uniq b3 e1 e2
  exact ⟨lo, hi', q, q2, a1, a2, b1, b2, hs⟩
/-- What Runs tells, as lists. -/
theorem St.runsP0 {s : St} (hp : s.possible = 0) : s.runsP = .tup [.lst false 2 (s.runS.lv.map pairP), .lst false 1 (s.runS.rs.map fun l => .lst false 1 (u8L (sortI l))), .int .i64 0] := by
  unfold St.runsP; rw [if_pos hp]
theorem St.runsP9 {s : St} (hp : ¬ s.possible = 0) : s.runsP = .tup [.emp (some true), .emp (some true), .int .i64 s.possible] := by
  unfold St.runsP; rw [if_neg hp]
theorem St.rs_small {s : St} (hc : s.check = 0) {i : Nat} {q : List Int} (h : s.runS.rs[i]? = some q) : (sortI q).length ≤ 3 := by
  have := (RunS.fold_ok hc s.all (RunS.z s.runs.length) (fun p hp => hp) (RunS.z_ok _)).1.sm q (List.mem_of_getElem? h)
  rw [sortI_len]
  exact nodup_small this.1 this.2
theorem St.put_pk {s : St} {k : Nat} (hk : k ≤ s.runs.length) (hc : s.check = 0) (hx : (s.put k).check = 0) (hp : s.possible = 0) {i : Nat} (hi : i < s.runs.length) :
    ∃ (lo hi' : Int) (W : List Int), (s.runS.lv.map pairP)[i]? = some (.agg [.int .i64 lo, .int .i64 hi']) ∧ ((s.put k).runS.lv.map pairP)[if i < k then i else i + 1]? = some (.agg [.int .i64 lo, .int .i64 hi']) ∧
      (s.runS.rs.map fun l => PV.lst false 1 (u8L (sortI l)))[i]? = some (.lst false 1 (u8L W)) ∧ ((s.put k).runS.rs.map fun l => PV.lst false 1 (u8L (sortI l)))[if i < k then i else i + 1]? = some (.lst false 1 (u8L W)) ∧ W.length ≤ 3 := by
  obtain ⟨lo, hi', q, q', h1, h2, h3, h4, h5⟩ := St.put_runs hk hc hx hp hi
  refine ⟨lo, hi', sortI q, by rw [List.getElem?_map, h1]; rfl, by rw [List.getElem?_map, h3]; rfl, by rw [List.getElem?_map, h2]; rfl, by rw [List.getElem?_map, h4, h5]; rfl, St.rs_small hc h2⟩
end Go.Proofs.Ytpfogpkocdlloaa
