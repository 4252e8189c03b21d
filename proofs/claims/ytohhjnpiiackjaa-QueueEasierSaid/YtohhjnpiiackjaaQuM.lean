/- Layer 10 (queue), plain laws: plans of a queue that was changed. (Several texts in one.) -/
import Derived.Test.YtohhjnpiiackjaaQuH
import Derived.Test.YtohhjnpiiackjaaQuF
set_option linter.unusedVariables false
set_option linter.unusedSimpArgs false
/-! Layer 10 (queue), plain laws: plans of a queue that was changed. -/
namespace Go.Proofs.Ytohhjnpiiackjaa
open Go.RowKit
set_option linter.unusedSimpArgs false
theorem Mt.map {q q' : Qu} {h : Int} {P P' : Nat → Prop} {w : List Int} (hw : Mt q h P 0 w) (hms : q'.ms.length = q.ms.length) (f : Int → Int) (hneg : f (-1) = -1)
    (hf : ∀ m r : Nat, w[m]? = some (r : Int) → f r = -1 ∨ ∃ r' : Nat, f r = (r' : Int) ∧ P' r' ∧ q'.may r' m h = true)
    (hinj : ∀ r1 r2 : Nat, (r1 : Int) ∈ w → (r2 : Int) ∈ w → f r1 = f r2 → f r1 ≠ -1 → r1 = r2) : Mt q' h P' 0 (w.map f) := by
  have key : ∀ m r' : Nat, (w.map f)[m]? = some (r' : Int) → ∃ r : Nat, w[m]? = some (r : Int) ∧ f r = (r' : Int) := fun m r' e => by
    rw [List.getElem?_map, Option.map_eq_some_iff] at e
    obtain ⟨x, h1, h2⟩ := e
    rcases hw.ok x (List.mem_of_getElem? h1) with h3 | h3
    · subst h3; rw [hneg] at h2; omega
    · exact ⟨x.toNat, by rw [h1]; congr 1; omega, by rw [← h2]; congr 1; omega⟩
  refine ⟨by simpa using hw.len, fun x hx => ?_, fun m r' e => ?_, fun m m' r' e e' => ?_⟩
  · obtain ⟨y, hy, rfl⟩ := List.mem_map.1 hx
    rcases hw.ok y hy with h3 | h3
    · subst h3; exact .inl hneg
    · obtain ⟨r, rfl⟩ : ∃ r : Nat, y = r := ⟨y.toNat, by omega⟩
      obtain ⟨m, hm⟩ := List.mem_iff_getElem?.1 hy
      rcases hf m r hm with h4 | ⟨r', h4, _⟩
      · exact .inl h4
      · rw [h4]; right; omega
  · obtain ⟨r, h1, h2⟩ := key m r' e
    rcases hf m r h1 with h4 | ⟨r2, h4, h5, h6⟩
    · omega
    · rw [h4] at h2
      have : r2 = r' := by omega
      subst this
      exact ⟨Nat.zero_le _, by rw [hms]; exact (hw.on m r h1).2.1, h5, h6⟩
  · obtain ⟨r, h1, h2⟩ := key m r' e
    obtain ⟨r2, h3, h4⟩ := key m' r' e'
    have := hinj r r2 (List.mem_of_getElem? h1) (List.mem_of_getElem? h3) (by rw [h2, h4]) (by omega)
    subst this
    exact hw.one _ _ _ h1 h3
theorem Row.cnt1 {q : Qu} {h : Int} {P : Nat → Prop} {j : Nat} {l : List Int} (hl : Mt q h P j l) (r : Nat) : l.count (r : Int) ≤ 1 := Go.Proofs.Ytohhjnpiiackjaa.cnt1.2 fun m m' e e' => hl.one m m' r e e'
theorem count_map_if (f : Int → Int) (l : List Int) (x : Int) (h : ∀ y ∈ l, f y = x ↔ y = x) : (l.map f).count x = l.count x := by
  induction l with
  | nil => rfl
  | cons a l ih =>
    rw [List.map_cons, List.count_cons, List.count_cons, ih fun y hy => h y (by simp [hy])]
    have := h a (by simp)
    by_cases e : a = x
    · rw [if_pos (by simpa using this.2 e), if_pos (by simpa using e)]
    · rw [if_neg (by simpa using fun e' => e (this.1 e')), if_neg (by simpa using e)]
theorem count_map_zero (f : Int → Int) (l : List Int) (x : Int) (h : ∀ y ∈ l, f y ≠ x) : (l.map f).count x = 0 := List.count_eq_zero.2 fun hx => by
  obtain ⟨y, hy, e⟩ := List.mem_map.1 hx
  exact h y hy e
/-- Each run keeps so many of its first hours. -/
def trimP : (Nat → Nat) → List (List Int) → List (List Int)
  | _, [] => []
  | b, l :: p => (l.map fun x => if 0 ≤ x ∧ 0 < b x.toNat then x else -1) :: trimP (fun r => b r - l.count (r : Int)) p
theorem trimP_len : ∀ (p : List (List Int)) (b : Nat → Nat), (trimP b p).length = p.length
  | [], _ => rfl
  | l :: p, b => by simp [trimP, trimP_len p]
theorem trimP_get : ∀ (p : List (List Int)) (b : Nat → Nat) (h : Nat) (l : List Int), (trimP b p)[h]? = some l → ∃ (l0 : List Int) (b' : Nat → Nat), p[h]? = some l0 ∧ l = l0.map fun x => if 0 ≤ x ∧ 0 < b' x.toNat then x else -1
  | [], _, h, l, e => by simp [trimP] at e
  | l0 :: p, b, 0, l, e => by simp [trimP] at e; exact ⟨l0, b, rfl, e.symm⟩
  | l0 :: p, b, h + 1, l, e => by
    obtain ⟨l1, b', h1, h2⟩ := trimP_get p _ h l (by simpa [trimP] using e)
    exact ⟨l1, b', by simpa using h1, h2⟩
theorem trimP_cnt {x : Nat} : ∀ (p : List (List Int)) (b : Nat → Nat), (∀ l ∈ p, l.count (x : Int) ≤ 1) → cnt (trimP b p) x = min (b x) (cnt p x)
  | [], b, _ => by simp [trimP, cnt]
  | l :: p, b, h => by
    have ih := trimP_cnt p (fun r => b r - l.count (r : Int)) fun l hl => h l (by simp [hl])
    have h1 := h l (by simp)
    have e1 : ∀ (a : List Int) (r : List (List Int)), cnt (a :: r) x = a.count (x : Int) + cnt r x := fun a r => by unfold cnt; rw [List.map_cons, List.sum_cons]
    have e2 : trimP b (l :: p) = (l.map fun x => if 0 ≤ x ∧ 0 < b x.toNat then x else -1) :: trimP (fun r => b r - l.count (r : Int)) p := rfl
    rw [e2, e1, e1, ih]
    by_cases hb : 0 < b x
    · rw [count_map_if _ l (x : Int) fun y _ => ?_]
      · omega
      · constructor
        · intro e
          split at e
          · exact e
          · omega
        · intro e
          subst e
          rw [if_pos ⟨by omega, by simpa using hb⟩]
    · rw [count_map_zero _ l (x : Int) fun y _ => ?_]
      · omega
      · intro e
        split at e
        · rename_i hc
          subst e
          simp at hc
          omega
        · omega
/-- Fewer hours of runs, and more that is allowed: there is a plan still. -/
theorem Feas.less {q q' : Qu} (hms : q'.ms.length = q.ms.length) (hrs : q'.rs.length = q.rs.length) (hmay : ∀ (r m : Nat) (h : Nat), q.may r m h = true → q'.may r m h = true) (hh : ∀ x, x < q.rs.length → 0 ≤ (q'.run x).hours ∧ (q'.run x).hours ≤ (q.run x).hours) {T : Nat} (hf : Feas q T) : Feas q' T := by
  obtain ⟨p, a, b, c⟩ := hf
  refine ⟨trimP (fun x => (q'.run x).hours.toNat) p, ⟨fun h l e => ?_, by rw [trimP_len]; exact a.len⟩, by rw [trimP_len]; exact b, fun x hx => ?_⟩
  · obtain ⟨l0, b', h1, rfl⟩ := trimP_get p _ h l e
    have R := a.rows h l0 h1
    refine R.map hms _ (by simp) (fun m r e => ?_) (fun r1 r2 h1 h2 e hne => ?_)
    · obtain ⟨_, o2, o3, o4⟩ := R.on m r e
      split
      · exact .inr ⟨r, rfl, (show r < q'.rs.length by rw [hrs]; exact o3), hmay r m h o4⟩
      · exact .inl rfl
    · have key : ∀ r : Nat, (if 0 ≤ (r : Int) ∧ 0 < b' (r : Int).toNat then (r : Int) else -1) = -1 ∨ (if 0 ≤ (r : Int) ∧ 0 < b' (r : Int).toNat then (r : Int) else -1) = r := fun r => by
        split
        · exact .inr rfl
        · exact .inl rfl
      rcases key r1 with k1 | k1
      · exact absurd k1 hne
      · rw [k1] at e hne
        rcases key r2 with k2 | k2 <;> rw [k2] at e <;> omega
  · rw [hrs] at hx
    rw [trimP_cnt p _ fun l hl => ?_]
    · have h1 := hh x hx
      have h2 := c x hx
      omega
    · obtain ⟨h, hr⟩ := a.row hl
      exact Row.cnt1 hr x
/-- A run is left out. -/
theorem Feas.drop {q q' : Qu} (hms : q'.ms.length = q.ms.length) (hrs : q'.rs.length ≤ q.rs.length) (hmay : ∀ (r m : Nat) (h : Nat), r < q'.rs.length → q.may r m h = true → q'.may r m h = true) (hh : ∀ x, x < q'.rs.length → (q'.run x).hours = (q.run x).hours) {T : Nat} (hf : Feas q T) : Feas q' T := by
  obtain ⟨p, a, b, c⟩ := hf
  refine ⟨p.map fun l => l.map fun x => if x < (q'.rs.length : Int) then x else -1, ⟨fun h l e => ?_, by rw [List.length_map]; exact a.len⟩, by rw [List.length_map]; exact b, fun x hx => ?_⟩
  · rw [List.getElem?_map, Option.map_eq_some_iff] at e
    obtain ⟨l0, h1, rfl⟩ := e
    have R := a.rows h l0 h1
    refine R.map hms _ (by rw [if_pos (by omega)]) (fun m r e => ?_) (fun r1 r2 h1 h2 e hne => ?_)
    · obtain ⟨_, o2, o3, o4⟩ := R.on m r e
      split
      · rename_i hlt
        exact .inr ⟨r, rfl, (show r < q'.rs.length by omega), hmay r m h (by omega) o4⟩
      · exact .inl rfl
    · split at e <;> split at e <;> first | omega | (rename_i k1 _; rw [if_neg k1] at hne; exact absurd rfl hne)
  · rw [cnt_map fun l _ => ?_]
    · rw [c x (by omega), hh x hx]
    · refine count_map_if _ l (x : Int) fun y _ => ?_
      constructor
      · intro e
        split at e
        · exact e
        · omega
      · intro e
        subst e
        rw [if_pos (by omega)]
/-- A run gives the first so many of its hours to another one. -/
def relabP (k : Nat) (v : Int) : Nat → List (List Int) → List (List Int)
  | _, [] => []
  | c, l :: p => if 0 < c ∧ (k : Int) ∈ l then (l.map fun x => if x = (k : Int) then v else x) :: relabP k v (c - 1) p else l :: relabP k v c p
theorem relabP_len {k : Nat} {v : Int} : ∀ (p : List (List Int)) (c : Nat), (relabP k v c p).length = p.length
  | [], _ => rfl
  | l :: p, c => by unfold relabP; split <;> simp [relabP_len p]
theorem relabP_get {k : Nat} {v : Int} : ∀ (p : List (List Int)) (c h : Nat) (l : List Int), (relabP k v c p)[h]? = some l → ∃ l0 : List Int, p[h]? = some l0 ∧ (l = l0 ∨ l = l0.map fun x => if x = (k : Int) then v else x)
  | [], _, h, l, e => by simp [relabP] at e
  | l0 :: p, c, 0, l, e => by
    unfold relabP at e
    split at e
    · simp at e; exact ⟨l0, rfl, .inr e.symm⟩
    · simp at e; exact ⟨l0, rfl, .inl e.symm⟩
  | l0 :: p, c, h + 1, l, e => by
    unfold relabP at e
    split at e
    · obtain ⟨l1, h1, h2⟩ := relabP_get p _ h l (by simpa using e)
      exact ⟨l1, by simpa using h1, h2⟩
    · obtain ⟨l1, h1, h2⟩ := relabP_get p _ h l (by simpa using e)
      exact ⟨l1, by simpa using h1, h2⟩
theorem relabP_cnt {k n : Nat} (hkn : k ≠ n) : ∀ (p : List (List Int)) (c : Nat), (∀ l ∈ p, l.count (k : Int) ≤ 1 ∧ l.count (n : Int) = 0) → c ≤ cnt p k → cnt (relabP k (n : Int) c p) n = c ∧ cnt (relabP k (n : Int) c p) k + c = cnt p k ∧ ∀ x : Nat, x ≠ k → x ≠ n → cnt (relabP k (n : Int) c p) x = cnt p x
  | [], c, _, hc => by
    have h0 : cnt [] k = 0 := rfl
    rw [h0] at hc
    have : c = 0 := by omega
    subst this
    exact ⟨rfl, rfl, fun _ _ _ => rfl⟩
  | l :: p, c, h, hc => by
    have hl := h l (by simp)
    have hp : ∀ l ∈ p, l.count (k : Int) ≤ 1 ∧ l.count (n : Int) = 0 := fun l hl => h l (by simp [hl])
    have e1 : ∀ (a : List Int) (r : List (List Int)) (x : Nat), cnt (a :: r) x = a.count (x : Int) + cnt r x := fun a r x => by unfold cnt; rw [List.map_cons, List.sum_cons]
    rw [e1] at hc
    unfold relabP
    split
    · rename_i hcond
      have hk1 : 1 ≤ l.count (k : Int) := List.count_pos_iff.2 hcond.2
      have hn0 := List.count_eq_zero.1 hl.2
      obtain ⟨a1, a2, a3⟩ := relabP_cnt hkn p (c - 1) hp (by omega)
      have f1 : (l.map fun x => if x = (k : Int) then (n : Int) else x).count (k : Int) = 0 := count_map_zero _ l _ fun y _ => by
        split
        · omega
        · rename_i h; exact h
      have f2 : (l.map fun x => if x = (k : Int) then (n : Int) else x).count (n : Int) = l.count (k : Int) := by
        clear e1 hc hcond hk1 a1 a2 a3 f1 hp hl h
        induction l with
        | nil => rfl
        | cons a l ih =>
          rw [List.map_cons, List.count_cons, List.count_cons, ih fun hm => hn0 (by simp [hm])]
          by_cases e : a = (k : Int)
          · simp [e]
          · have : a ≠ (n : Int) := fun e' => hn0 (by simp [e'])
            simp [e, this]
      have f3 : ∀ x : Nat, x ≠ k → x ≠ n → (l.map fun x => if x = (k : Int) then (n : Int) else x).count (x : Int) = l.count (x : Int) := fun x h1 h2 => count_map_if _ l _ fun y _ => by
        constructor
        · intro e
          split at e
          · omega
          · exact e
        · intro e
          subst e
          rw [if_neg (by omega)]
      refine ⟨?_, ?_, fun x h1 h2 => ?_⟩
      · rw [e1, a1, f2]; omega
      · rw [e1, e1, f1]; omega
      · rw [e1, e1, f3 x h1 h2, a3 x h1 h2]
    · rename_i hcond
      have hle : c ≤ cnt p k := by
        by_cases h0 : 0 < c
        · have : l.count (k : Int) = 0 := List.count_eq_zero.2 fun hm => hcond ⟨h0, hm⟩
          omega
        · omega
      obtain ⟨a1, a2, a3⟩ := relabP_cnt hkn p c hp hle
      refine ⟨?_, ?_, fun x h1 h2 => ?_⟩
      · rw [e1, a1, hl.2]; omega
      · rw [e1, e1]; omega
      · rw [e1, e1, a3 x h1 h2]
/-- A run is divided into two. -/
theorem Feas.split {q q' : Qu} (hms : q'.ms.length = q.ms.length) (hrs : q'.rs.length = q.rs.length + 1) {k c : Nat} (hk : k < q.rs.length) (hmay : ∀ (r m h : Nat), r < q.rs.length → q.may r m h = true → q'.may r m h = true) (hmayk : ∀ (m h : Nat), q.may k m h = true → q'.may q.rs.length m h = true)
    (hc : (c : Int) ≤ (q.run k).hours) (hk' : (q'.run k).hours = (q.run k).hours - c) (hn' : (q'.run q.rs.length).hours = c) (hh : ∀ x, x < q.rs.length → x ≠ k → (q'.run x).hours = (q.run x).hours) {T : Nat} (hf : Feas q T) : Feas q' T := by
  obtain ⟨p, a, b, d⟩ := hf
  have hall : ∀ l ∈ p, l.count (k : Int) ≤ 1 ∧ l.count (q.rs.length : Int) = 0 := fun l hl => by
    obtain ⟨h, hr⟩ := a.row hl
    refine ⟨Row.cnt1 hr k, List.count_eq_zero.2 fun hm => ?_⟩
    obtain ⟨m, hm⟩ := List.mem_iff_getElem?.1 hm
    have : q.rs.length < q.rs.length := (hr.on m q.rs.length hm).2.2.1
    omega
  have hdk := d k hk
  obtain ⟨r1, r2, r3⟩ := relabP_cnt (n := q.rs.length) (by omega) p c hall (by omega)
  refine ⟨relabP k q.rs.length c p, ⟨fun h l e => ?_, by rw [relabP_len]; exact a.len⟩, by rw [relabP_len]; exact b, fun x hx => ?_⟩
  · obtain ⟨l0, h1, h2⟩ := relabP_get p c h l e
    have R := a.rows h l0 h1
    rcases h2 with rfl | rfl
    · refine ⟨R.len, R.ok, fun m r e => ?_, R.one⟩
      obtain ⟨o1, o2, o3, o4⟩ := R.on m r e
      have o3' : r < q.rs.length := o3
      exact ⟨o1, by rw [hms]; exact o2, (show r < q'.rs.length by omega), hmay r m h o3' o4⟩
    · refine R.map hms _ (by rw [if_neg (by omega)]) (fun m r e => ?_) (fun x1 x2 h1 h2 e hne => ?_)
      · obtain ⟨_, o2, o3, o4⟩ := R.on m r e
        have o3' : r < q.rs.length := o3
        split
        · rename_i hk2
          have : r = k := by omega
          subst this
          exact .inr ⟨q.rs.length, rfl, (show q.rs.length < q'.rs.length by omega), hmayk m h o4⟩
        · exact .inr ⟨r, rfl, (show r < q'.rs.length by omega), hmay r m h o3' o4⟩
      · have hx : ∀ r : Nat, (r : Int) ∈ l0 → r < q.rs.length := fun r hr => by
          obtain ⟨m, hm⟩ := List.mem_iff_getElem?.1 hr
          exact (R.on m r hm).2.2.1
        have := hx x1 h1
        have := hx x2 h2
        split at e <;> split at e <;> omega
  · rw [hrs] at hx
    by_cases e1 : x = q.rs.length
    · subst e1; rw [r1, hn']
    · by_cases e2 : x = k
      · subst e2; rw [hk']; omega
      · rw [r3 x e2 e1, d x (by omega), hh x (by omega) e2]
end Go.Proofs.Ytohhjnpiiackjaa
/-! Layer 10 (queue): the law QueueTwo. -/
namespace Go.Proofs.Ytohhjnpiiackjaa
open Go.RowKit
set_option maxRecDepth 10000
set_option linter.unusedSimpArgs false
attribute [local simp] AS.exp expG Box.ren AV.map AV.mapL outsOk noRet Site.isRet Box.allS AV.allS AV.allSL retB dropL AS.adds renL outG outOk lentBx inG fnOf lookA List.findIdx?_cons
attribute [local simp] Box.purge Site.isLoc
attribute [local simp] retFz frzL AS.frz AV.frz AV.frzL Box.frz AS.tidy AS.frzC
theorem Qu.ok.small {q : Qu} (h : q.ok) : q.small := ⟨by have := h.m; omega, by have := h.r; omega, fun l hl => by have := h.s l hl; omega, fun r hr => by have := h.f r hr; have := h.m; omega⟩
def Rq.put (r : Rq) (n : Int) : Rq := ⟨n, r.ready, r.on⟩
end Go.Proofs.Ytohhjnpiiackjaa
/-! Layer 10 (queue), plain laws: a queue that was made easier. -/
namespace Go.Proofs.Ytohhjnpiiackjaa
open Go.RowKit
set_option linter.unusedSimpArgs false
theorem run_at {q : Qu} {k : Nat} {r : Rq} (h : q.rs[k]? = some r) : q.run k = r := by unfold Qu.run; rw [h]; rfl
theorem hours_ok {q : Qu} (hq : q.ok) {x : Nat} (hx : x < q.rs.length) : 0 ≤ (q.run x).hours := by
  have h : q.rs[x]? = some q.rs[x] := List.getElem?_eq_getElem hx
  rw [run_at h]
  exact (hq.h _ (List.mem_of_getElem? h)).1
theorem mPut_feas {q : Qu} (hq : q.ok) {m0 n : Nat} {l : List Rg} (hl : q.ms[m0]? = some l) {T : Nat} (h : Feas q T) : Feas ⟨q.ms.set m0 (l.take n), q.rs⟩ T := by
  refine Feas.less (q := q) (q' := ⟨q.ms.set m0 (l.take n), q.rs⟩) (by simp) rfl (fun r m hh hm => ?_) (fun x hx => ⟨hours_ok hq hx, Int.le_refl _⟩) h
  unfold Qu.may at hm ⊢
  simp only [Bool.and_eq_true, Bool.not_eq_true'] at hm ⊢
  refine ⟨hm.1, ?_⟩
  rcases Nat.decEq m0 m with hne | rfl
  · have e : Qu.stops ⟨q.ms.set m0 (l.take n), q.rs⟩ m = q.stops m := by unfold Qu.stops; rw [List.getElem?_set_ne hne]
    rw [e]; exact hm.2
  · have e1 : q.stops m0 = l := by unfold Qu.stops; rw [hl]; rfl
    have e2 : Qu.stops ⟨q.ms.set m0 (l.take n), q.rs⟩ m0 = l.take n := by unfold Qu.stops; rw [List.getElem?_set_self (List.getElem?_eq_some_iff.1 hl).1]; rfl
    rw [e1] at hm
    rw [e2, List.any_eq_false]
    exact fun y hy => List.any_eq_false.1 hm.2 y (List.mem_of_mem_take hy)
theorem rPut_feas {q : Qu} {k : Nat} {r r' : Rq} (hq : q.ok) (hr : q.rs[k]? = some r) (h1 : 0 ≤ r'.hours ∧ r'.hours ≤ r.hours) (h2 : r'.ready ≤ r.ready) (h3 : ∀ m : Nat, r.on[m]? = some true → r'.on[m]? = some true) {T : Nat} (h : Feas q T) : Feas ⟨q.ms, q.rs.set k r'⟩ T := by
  have hk : k < q.rs.length := (List.getElem?_eq_some_iff.1 hr).1
  have e1 : Qu.run ⟨q.ms, q.rs.set k r'⟩ k = r' := run_at (q := ⟨q.ms, q.rs.set k r'⟩) (List.getElem?_set_self hk)
  have e2 : ∀ x, x ≠ k → Qu.run ⟨q.ms, q.rs.set k r'⟩ x = q.run x := fun x hx => by unfold Qu.run; rw [List.getElem?_set_ne (fun e => hx e.symm)]
  refine Feas.less (q := q) (q' := ⟨q.ms, q.rs.set k r'⟩) rfl (by simp) (fun x m hh hm => ?_) (fun x hx => ?_) h
  · rcases Nat.decEq x k with hne | rfl
    · unfold Qu.may at hm ⊢
      rw [e2 x hne]; exact hm
    · unfold Qu.may at hm ⊢
      rw [run_at hr] at hm
      rw [e1]
      simp only [Bool.and_eq_true, Bool.not_eq_true', decide_eq_true_eq] at hm ⊢
      refine ⟨⟨?_, by omega⟩, hm.2⟩
      have : r.on[m]? = some true := by
        cases ho : r.on[m]? with
        | none => rw [ho] at hm; simp at hm
        | some b => rw [ho] at hm; simp at hm; rw [hm.1.1]
      rw [h3 m this]; rfl
  · rcases Nat.decEq x k with hne | rfl
    · rw [e2 x hne]; exact ⟨hours_ok hq hx, Int.le_refl _⟩
    · rw [e1, run_at hr]; exact h1
theorem more_feas {q : Qu} {r : Rq} {T : Nat} (h : Feas ⟨q.ms, q.rs ++ [r]⟩ T) : Feas q T := by
  have e : ∀ x, x < q.rs.length → Qu.run ⟨q.ms, q.rs ++ [r]⟩ x = q.run x := fun x hx => by unfold Qu.run; rw [List.getElem?_append_left hx]
  refine Feas.drop (q := ⟨q.ms, q.rs ++ [r]⟩) (q' := q) rfl (by simp) (fun x m hh hx hm => ?_) (fun x hx => by show (q.run x).hours = (Qu.run ⟨q.ms, q.rs ++ [r]⟩ x).hours; rw [e x hx]) h
  unfold Qu.may at hm ⊢
  rw [e x hx] at hm
  exact hm
end Go.Proofs.Ytohhjnpiiackjaa
