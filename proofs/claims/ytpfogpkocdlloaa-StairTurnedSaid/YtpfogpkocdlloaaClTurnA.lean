/- Plain laws of layer 4 (stair): a staircase turned round. No program here. (Several texts in one.) -/
import Derived.Test.YtpfogpkocdlloaaClStopA
import Derived.Test.YtpfogpkocdlloaaStD
set_option linter.unusedVariables false
set_option linter.unusedSimpArgs false
/-! Plain laws of layer 4 (stair): a staircase turned round. No program here. -/
namespace Go.Proofs.Ytpfogpkocdlloaa
open Go.RowKit

def trR (k : Int) : Int := if k < 2 then 1 - k else k
def Rn.turn (L : Int) (r : Rn) : Rn := ⟨if r.level ≥ 0 then L - 1 - r.level else r.level, if r.res < 2 then 1 - r.res else r.res⟩
def St.turn (s : St) : St := ⟨s.levels, s.levels - 1 - s.start, s.runs.map (Rn.turn s.levels)⟩
def turnP (L : Int) (p : List Int × List Int) : List Int × List Int := (p.1.map trR, p.2.map fun v => L - 1 - v)
/-- A run that fits. -/
def Rn.fits (L : Int) (r : Rn) : Prop := (-1 ≤ r.level ∧ r.level ≤ L - 1) ∧ 0 ≤ r.res ∧ r.res ≤ 3
theorem Rn.turn_may {L : Int} {r : Rn} (h : r.fits L) {v k : Int} (hv : 0 ≤ v ∧ v ≤ L - 1) (hk : k = 0 ∨ k = 1 ∨ k = 2) : (r.turn L).may (L - 1 - v) (trR k) = r.may v k := by
  obtain ⟨⟨h1, h2⟩, h3, h4⟩ := h
  unfold Rn.may Rn.turn trR
  rw [Bool.eq_iff_iff]
  simp only [Bool.and_eq_true, Bool.or_eq_true, decide_eq_true_eq]
  rcases hk with rfl | rfl | rfl <;> (split <;> split <;> simp <;> omega)
theorem St.turn_next {s : St} (hs : 1 ≤ s.levels) {v k : Int} (hv : 0 ≤ v ∧ v ≤ s.levels - 1) (hk : k = 0 ∨ k = 1 ∨ k = 2) : s.turn.next (s.levels - 1 - v) (trR k) = s.levels - 1 - s.next v k := by
  have e : s.turn.levels = s.levels := rfl
  rcases hk with rfl | rfl | rfl
  · show s.turn.next (s.levels - 1 - v) 1 = _
    simp only [St.next, e]; omega
  · show s.turn.next (s.levels - 1 - v) 0 = _
    simp only [St.next, e]; omega
  · show s.turn.next (s.levels - 1 - v) 2 = _
    simp only [St.next]
theorem St.turn_paths {s : St} (hs : 1 ≤ s.levels) : ∀ (l : List Rn) (v : Int), (∀ r ∈ l, r.fits s.levels) → 0 ≤ v ∧ v ≤ s.levels - 1 → (s.turn.paths (l.map (Rn.turn s.levels)) (s.levels - 1 - v)).Perm ((s.paths l v).map (turnP s.levels))
  | [], v, _, _ => by simp [St.paths, turnP]
  | r :: l, v, hf, hv => by
    have h1 : ∀ k : Int, k = 0 ∨ k = 1 ∨ k = 2 → (if (r.turn s.levels).may (s.levels - 1 - v) (trR k) = true then (s.turn.paths (l.map (Rn.turn s.levels)) (s.turn.next (s.levels - 1 - v) (trR k))).map (fun p => (trR k :: p.1, (s.levels - 1 - v) :: p.2)) else []).Perm
        ((if r.may v k = true then (s.paths l (s.next v k)).map (fun p => (k :: p.1, v :: p.2)) else []).map (turnP s.levels)) := fun k hk => by
      rw [Rn.turn_may (hf r (by simp)) hv hk]
      split
      · rw [St.turn_next hs hv hk]
        have ih := St.turn_paths hs l (s.next v k) (fun q hq => hf q (by simp [hq])) (St.next8 hs hv k)
        refine (ih.map _).trans ?_
        rw [List.map_map, List.map_map]
        exact .of_eq rfl
      · exact .of_eq rfl
    have a0 := h1 0 (by simp)
    have a1 := h1 1 (by simp)
    have a2 := h1 2 (by simp)
    have t0 : trR 0 = 1 := rfl
    have t1 : trR 1 = 0 := rfl
    have t2 : trR 2 = 2 := rfl
    rw [t0] at a0
    rw [t1] at a1
    rw [t2] at a2
    simp only [List.map_cons, St.paths, List.flatMap_cons, List.flatMap_nil, List.append_nil, List.map_append]
    refine (List.Perm.append a1 (List.Perm.append a0 a2)).trans ?_
    rw [← List.append_assoc, ← List.append_assoc]
    exact List.Perm.append_right _ List.perm_append_comm
theorem St.fits {s : St} (hc : s.check = 0) (hw : ∀ r ∈ s.runs, 0 ≤ r.res) : ∀ r ∈ s.runs, r.fits s.levels := fun r hr => by
  obtain ⟨_, _, _, h⟩ := St.check0 hc
  have := List.all_eq_true.1 h r hr
  simp [St.isRun] at this
  have h0 := hw r hr
  exact ⟨⟨this.1.1, this.1.2⟩, h0, this.2⟩
theorem St.turn_all {s : St} (hc : s.check = 0) (hw : ∀ r ∈ s.runs, 0 ≤ r.res) : s.turn.all.Perm (s.all.map (turnP s.levels)) := by
  obtain ⟨q1, q2, _⟩ := St.check0 hc
  exact St.turn_paths q1.1 s.runs s.start (St.fits hc hw) q2
theorem St.turn_len (s : St) : s.turn.runs.length = s.runs.length := by simp [St.turn]
theorem St.turn_check {s : St} (hc : s.check = 0) (hw : ∀ r ∈ s.runs, 0 ≤ r.res) : s.turn.check = 0 := by
  have hf := St.fits hc hw
  have h0 := hc
  unfold St.check at h0
  split at h0
  · cases h0
  · rename_i h1
    split at h0
    · rename_i h2
      have hl : lostN s.turn.runs = lostN s.runs := by
        unfold lostN St.turn
        rw [List.countP_map]
        refine List.countP_congr (fun r hr => ?_)
        have h2 := (hf r hr).2
        have h3 : (r.turn s.levels).res = 3 ↔ r.res = 3 := by
          unfold Rn.turn
          simp only
          split <;> omega
        simp [h3]
      unfold St.check
      rw [St.turn_len, hl, if_neg h1, if_pos]
      refine ⟨?_, List.all_eq_true.2 (fun q hq => ?_)⟩
      · obtain ⟨q1, q2, _⟩ := St.check0 hc
        have e1 : s.turn.levels = s.levels := rfl
        have e2 : s.turn.start = s.levels - 1 - s.start := rfl
        unfold St.placed
        rw [e1, e2]
        simp only [Bool.and_eq_true, decide_eq_true_eq]
        omega
      · obtain ⟨r, hr, rfl⟩ := List.mem_map.1 hq
        have := hf r hr
        unfold Rn.fits at this
        simp [St.isRun, St.turn, Rn.turn]
        constructor
        · split <;> omega
        · split <;> omega
    · cases h0
theorem St.turn_possible {s : St} (hc : s.check = 0) (hw : ∀ r ∈ s.runs, 0 ≤ r.res) : s.turn.possible = s.possible := by
  have hp := (St.turn_all hc hw).length_eq
  rw [List.length_map] at hp
  rw [St.possible_all hc, St.possible_all (St.turn_check hc hw)]
  by_cases h : s.all = []
  · rw [if_pos h, if_pos (List.eq_nil_of_length_eq_zero (by rw [hp, h]; rfl))]
  · rw [if_neg h, if_neg (fun e => h (List.eq_nil_of_length_eq_zero (by rw [← hp, e]; rfl)))]
theorem St.turn_many {s : St} (hc : s.check = 0) (hw : ∀ r ∈ s.runs, 0 ≤ r.res) : s.turn.many = s.many := by
  have hp := (St.turn_all hc hw).length_eq
  rw [List.length_map] at hp
  rw [St.many_all', St.many_all', St.turn_possible hc hw, hp]
theorem St.turn_mem {s : St} (hc : s.check = 0) (hw : ∀ r ∈ s.runs, 0 ≤ r.res) (p : List Int × List Int) : p ∈ s.turn.all ↔ ∃ q ∈ s.all, turnP s.levels q = p := by
  rw [(St.turn_all hc hw).mem_iff, List.mem_map]
/-- The levels and the results are turned round. -/
theorem St.turn_runs {s : St} (hc : s.check = 0) (hw : ∀ r ∈ s.runs, 0 ≤ r.res) (hp : s.possible = 0) {i : Nat} (hi : i < s.runs.length) :
    ∃ lo hi' q q', s.runS.lv[i]? = some (lo, hi') ∧ s.runS.rs[i]? = some q ∧ s.turn.runS.lv[i]? = some (s.levels - 1 - hi', s.levels - 1 - lo) ∧ s.turn.runS.rs[i]? = some q' ∧ (sortI q').length = (sortI q).length ∧ (0 ≤ lo ∧ lo ≤ s.levels - 1) ∧ 0 ≤ hi' ∧ hi' ≤ s.levels - 1 := by
  have hcx := St.turn_check hc hw
  have hpx : s.turn.possible = 0 := by rw [St.turn_possible hc hw]; exact hp
  obtain ⟨lo, hi', q, a1, a2, a3⟩ := (St.runs_sp hc hp).at' i hi
  obtain ⟨lo2, hi2, q2, b1, b2, b3⟩ := (St.runs_sp hcx hpx).at' i (by rw [St.turn_len]; exact hi)
  have lv : ∀ v, (∃ p ∈ s.all, p.2[i]? = some v) ↔ ∃ p ∈ s.turn.all, p.2[i]? = some (s.levels - 1 - v) := fun v => by
    constructor
    · rintro ⟨p, h1, h2⟩
      exact ⟨_, (St.turn_mem hc hw _).2 ⟨p, h1, rfl⟩, by simp [turnP, h2]⟩
    · rintro ⟨p, h1, h2⟩
      obtain ⟨q, h3, rfl⟩ := (St.turn_mem hc hw _).1 h1
      simp only [turnP, List.getElem?_map] at h2
      obtain ⟨u, h4, h5⟩ := Option.map_eq_some_iff.1 h2
      exact ⟨q, h3, by rw [h4]; congr 1; omega⟩
  have rv : ∀ r, (∃ p ∈ s.turn.all, p.1[i]? = some r) ↔ ∃ p ∈ s.all, ∃ k, p.1[i]? = some k ∧ trR k = r := fun r => by
    constructor
    · rintro ⟨p, h1, h2⟩
      obtain ⟨q, h3, rfl⟩ := (St.turn_mem hc hw _).1 h1
      simp only [turnP, List.getElem?_map] at h2
      obtain ⟨u, h4, h5⟩ := Option.map_eq_some_iff.1 h2
      exact ⟨q, h3, u, h4, h5⟩
    · rintro ⟨p, h1, k, h2, rfl⟩
      exact ⟨_, (St.turn_mem hc hw _).2 ⟨p, h1, rfl⟩, by simp [turnP, h2]⟩
  have low := (lv lo).1 a3.lo'
  have high := (lv hi').1 a3.hi'
  obtain ⟨c1, d1, e1⟩ := low
  obtain ⟨c2, d2, e2⟩ := high
  have g1 := b3.bd c1 d1 _ e1
  have g2 := b3.bd c2 d2 _ e2
  obtain ⟨c3, d3, e3⟩ := b3.lo'
  obtain ⟨c4, d4, e4⟩ := b3.hi'
  have e3' : c3.2[i]? = some (s.levels - 1 - (s.levels - 1 - lo2)) := by rw [e3]; congr 1; omega
  have e4' : c4.2[i]? = some (s.levels - 1 - (s.levels - 1 - hi2)) := by rw [e4]; congr 1; omega
  obtain ⟨c5, d5, e5⟩ := (lv _).2 ⟨c3, d3, e3'⟩
  obtain ⟨c6, d6, e6⟩ := (lv _).2 ⟨c4, d4, e4'⟩
  have g5 := a3.bd c5 d5 _ e5
  have g6 := a3.bd c6 d6 _ e6
  have hlo : lo2 = s.levels - 1 - hi' := by omega
  have hhi : hi2 = s.levels - 1 - lo := by omega
  subst hlo hhi
  obtain ⟨u1, v1, w1⟩ := a3.lo'
  obtain ⟨u2, v2, w2⟩ := a3.hi'
  have r1 := (St.all8 hc v1).2 lo (List.mem_of_getElem? w1)
  have r2 := (St.all8 hc v2).2 hi' (List.mem_of_getElem? w2)
  refine ⟨lo, hi', q, q2, a1, a2, b1, b2, ?_, r1, r2⟩
  rw [sortI_len, sortI_len]
  have hnd : (q.map trR).Nodup := by
    have hin : ∀ x ∈ q, 0 ≤ x ∧ x ≤ 2 := fun x hx => by
      obtain ⟨p, h1, h2⟩ := (a3.mem x).1 hx
      exact (St.all_ok hc h1).2.2.1 x (List.mem_of_getElem? h2)
    refine List.pairwise_map.2 (List.Pairwise.imp_of_mem (fun {a b} ha hb hab e => ?_) a3.nd)
    have h1 := hin a ha
    have h2 := hin b hb
    unfold trR at e
    apply hab
    split at e <;> split at e <;> omega
  have hperm : q2.Perm (q.map trR) := (List.perm_ext_iff_of_nodup b3.nd hnd).2 (fun x => by
    rw [b3.mem, rv, List.mem_map]
    constructor
    · rintro ⟨p, h1, k, h2, h3⟩
      exact ⟨k, (a3.mem k).2 ⟨p, h1, h2⟩, h3⟩
    · rintro ⟨k, h1, h2⟩
      obtain ⟨p, h3, h4⟩ := (a3.mem k).1 h1
      exact ⟨p, h3, k, h4, h2⟩)
  rw [hperm.length_eq, List.length_map]
end Go.Proofs.Ytpfogpkocdlloaa

/-! Plain laws of layer 4 (stair): a staircase turned round, its ranks. No program here. -/
namespace Go.Proofs.Ytpfogpkocdlloaa
open Go.RowKit

theorem sortI_rev (L : Int) (l : List Int) : sortI (l.map fun x => L - x) = ((sortI l).map fun x => L - x).reverse := by
  refine sorted_eq ((sortI_perm _).trans (((sortI_perm l).symm.map _).trans (List.reverse_perm _).symm)) (sortI_sorted _) ?_
  rw [List.pairwise_reverse]
  exact List.pairwise_map.2 ((sortI_sorted l).imp (fun {a b} h => by omega))
theorem St.turn_lim {s : St} {high : Bool} {d v : Int} (hd : d = 0 ∨ d = 1 ∨ d = 2) : s.turn.lim high (trR d) (s.levels - 1 - v) = s.levels - s.lim (!high) d v := by
  have e : s.turn.levels = s.levels := rfl
  unfold St.lim St.bnd
  rw [e]
  rcases hd with rfl | rfl | rfl <;> cases high <;> simp [trR] <;> omega
theorem St.turn_lims {s : St} {high : Bool} : ∀ (ds ls : List Int), (∀ x ∈ ds, 0 ≤ x ∧ x ≤ 2) → s.turn.lims high (ds.map trR) (ls.map fun v => s.levels - 1 - v) = (s.lims (!high) ds ls).map fun x => s.levels - x
  | [], ls, _ => by simp [St.lims]
  | d :: ds, [], _ => by simp [St.lims]
  | d :: ds, v :: ls, h => by
    have h1 := h d (by simp)
    simp only [List.map_cons, St.lims]
    rw [St.turn_lim (by omega), St.turn_lims ds ls (fun x hx => h x (by simp [hx]))]
theorem St.turn_rk {s : St} (hc : s.check = 0) {p : List Int × List Int} (hp : p ∈ s.all) {i : Nat} (hi : i < s.runs.length) (high : Bool) : s.turn.rk (s.runs.length - 1 - i) high (turnP s.levels p) = s.levels - s.rk i (!high) p := by
  obtain ⟨a1, a2, a3, _⟩ := St.all_ok hc hp
  have hg := St.rk_get hc hp hi (!high)
  have hlen : (sortI (s.lims (!high) p.1 p.2)).length = s.runs.length := by rw [sortI_len, St.lims_len (by omega)]; exact a1
  unfold St.rk turnP
  simp only
  rw [St.turn_lims p.1 p.2 a3, sortI_rev, List.getElem?_reverse (by rw [List.length_map, hlen]; omega), List.length_map, hlen, List.getElem?_map, show s.runs.length - 1 - (s.runs.length - 1 - i) = i by omega, hg]
  rfl
theorem St.turn_rank {s : St} (hc : s.check = 0) (hw : ∀ r ∈ s.runs, 0 ≤ r.res) (hp : s.possible = 0) {i : Nat} (hi : i < s.runs.length) :
    (s.turn.endS (s.runs.length - 1 - i) false).lim = s.levels - (s.endS i true).lim ∧ (s.turn.endS (s.runs.length - 1 - i) true).lim = s.levels - (s.endS i false).lim := by
  have hpx : s.turn.possible = 0 := by rw [St.turn_possible hc hw]; exact hp
  obtain ⟨⟨p1, m1, e1⟩, b1⟩ := St.lo_spec hp i
  obtain ⟨⟨p2, m2, e2⟩, b2⟩ := St.hi_spec hp i
  obtain ⟨⟨p3, m3, e3⟩, b3⟩ := St.lo_spec hpx (s.runs.length - 1 - i)
  obtain ⟨⟨p4, m4, e4⟩, b4⟩ := St.hi_spec hpx (s.runs.length - 1 - i)
  obtain ⟨q3, n3, rfl⟩ := (St.turn_mem hc hw p3).1 m3
  obtain ⟨q4, n4, rfl⟩ := (St.turn_mem hc hw p4).1 m4
  rw [St.turn_rk hc n3 hi] at e3
  rw [St.turn_rk hc n4 hi] at e4
  have c1 := b4 _ ((St.turn_mem hc hw _).2 ⟨p1, m1, rfl⟩)
  have c2 := b3 _ ((St.turn_mem hc hw _).2 ⟨p2, m2, rfl⟩)
  rw [St.turn_rk hc m1 hi] at c1
  rw [St.turn_rk hc m2 hi] at c2
  simp only [Bool.not_true, Bool.not_false] at e3 e4 c1 c2
  have c3 := b2 q3 n3
  have c4 := b1 q4 n4
  omega
end Go.Proofs.Ytpfogpkocdlloaa
