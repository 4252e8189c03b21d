/- Layer 10 (queue), plain laws: plans of a queue that was changed. (Several texts in one.) -/
import Derived.Test.YtohhjnpiiackjaaQuH
import Derived.Test.YtohhjnpiiackjaaQuF
set_option linter.unusedVariables false
set_option linter.unusedSimpArgs false
/-! Layer 10 (queue), plain laws: plans of a queue that was changed. -/
namespace Go.Proofs.Ytohhjnpiiackjaa
open Go.RowKit
set_option linter.unusedSimpArgs false
theorem Mt.map {q q' : Qu} {h : Int} {P P' : Nat → Prop} {w : List Int} (hw : Mt q h P 0 w) (hms : q'.ms.length = q.ms.length) (f : Int → Int) (hneg : f (-1) = -1)
    (hf : ∀ m r : Nat, w[m]? = some (r : Int) → f r = -1 ∨ ∃ r' : Nat, f r = (r' : Int) ∧ P' r' ∧ q'.may r' m h = true)
    (hinj : ∀ r1 r2 : Nat, (r1 : Int) ∈ w → (r2 : Int) ∈ w → f r1 = f r2 → f r1 ≠ -1 → r1 = r2) : Mt q' h P' 0 (w.map f) := by
  have key : ∀ m r' : Nat, (w.map f)[m]? = some (r' : Int) → ∃ r : Nat, w[m]? = some (r : Int) ∧ f r = (r' : Int) := fun m r' e => by
    rw [List.getElem?_map, Option.map_eq_some_iff] at e
    obtain ⟨x, h1, h2⟩ := e
    rcases hw.ok x (List.mem_of_getElem? h1) with h3 | h3
    · subst h3; rw [hneg] at h2; omega
    · exact ⟨x.toNat, by rw [h1]; congr 1; omega, by rw [← h2]; congr 1; omega⟩
  refine ⟨by simpa using hw.len, fun x hx => ?_, fun m r' e => ?_, fun m m' r' e e' => ?_⟩
  · obtain ⟨y, hy, rfl⟩ := List.mem_map.1 hx
    rcases hw.ok y hy with h3 | h3
    · subst h3; exact .inl hneg
    · obtain ⟨r, rfl⟩ : ∃ r : Nat, y = r := ⟨y.toNat, by omega⟩
      obtain ⟨m, hm⟩ := List.mem_iff_getElem?.1 hy
      rcases hf m r hm with h4 | ⟨r', h4, _⟩
      · exact .inl h4
      · rw [h4]; right; omega
  · obtain ⟨r, h1, h2⟩ := key m r' e
    rcases hf m r h1 with h4 | ⟨r2, h4, h5, h6⟩
    · omega
    · rw [h4] at h2
      have : r2 = r' := by omega
      subst this
      exact ⟨Nat.zero_le _, by rw [hms]; exact (hw.on m r h1).2.1, h5, h6⟩
  · obtain ⟨r, h1, h2⟩ := key m r' e
    obtain ⟨r2, h3, h4⟩ := key m' r' e'
    have := hinj r r2 (List.mem_of_getElem? h1) (List.mem_of_getElem? h3) (by rw [h2, h4]) (by omega)
    subst this
    exact hw.one _ _ _ h1 h3
theorem Row.cnt1 {q : Qu} {h : Int} {P : Nat → Prop} {j : Nat} {l : List Int} (hl : Mt q h P j l) (r : Nat) : l.count (r : Int) ≤ 1 := Go.Proofs.Ytohhjnpiiackjaa.cnt1.2 fun m m' e e' => hl.one m m' r e e'
theorem count_map_if (f : Int → Int) (l : List Int) (x : Int) (h : ∀ y ∈ l, f y = x ↔ y = x) : (l.map f).count x = l.count x := by
  induction l with
  | nil => rfl
  | cons a l ih =>
    rw [List.map_cons, List.count_cons, List.count_cons, ih fun y hy => h y (by simp [hy])]
    have := h a (by simp)
    by_cases e : a = x
    · rw [if_pos (by simpa using this.2 e), if_pos (by simpa using e)]
    · rw [if_neg (by simpa using fun e' => e (this.1 e')), if_neg (by simpa using e)]
theorem count_map_zero (f : Int → Int) (l : List Int) (x : Int) (h : ∀ y ∈ l, f y ≠ x) : (l.map f).count x = 0 := List.count_eq_zero.2 fun hx => by
  obtain ⟨y, hy, e⟩ := List.mem_map.1 hx
  exact h y hy e
/-- A run is left out. -/
theorem Feas.drop {q q' : Qu} (hms : q'.ms.length = q.ms.length) (hrs : q'.rs.length ≤ q.rs.length) (hmay : ∀ (r m : Nat) (h : Nat), r < q'.rs.length → q.may r m h = true → q'.may r m h = true) (hh : ∀ x, x < q'.rs.length → (q'.run x).hours = (q.run x).hours) {T : Nat} (hf : Feas q T) : Feas q' T := by
  obtain ⟨p, a, b, c⟩ := hf
  refine ⟨p.map fun l => l.map fun x => if x < (q'.rs.length : Int) then x else -1, ⟨fun h l e => ?_, by rw [List.length_map]; exact a.len⟩, by rw [List.length_map]; exact b, fun x hx => ?_⟩
  · rw [List.getElem?_map, Option.map_eq_some_iff] at e
    obtain ⟨l0, h1, rfl⟩ := e
    have R := a.rows h l0 h1
    refine R.map hms _ (by rw [if_pos (by omega)]) (fun m r e => ?_) (fun r1 r2 h1 h2 e hne => ?_)
    · obtain ⟨_, o2, o3, o4⟩ := R.on m r e
      split
      · rename_i hlt
        exact .inr ⟨r, rfl, (show r < q'.rs.length by omega), hmay r m h (by omega) o4⟩
      · exact .inl rfl
    · split at e <;> split at e <;> first | omega | (rename_i k1 _; rw [if_neg k1] at hne; exact absurd rfl hne)
  · rw [cnt_map fun l _ => ?_]
    · rw [c x (by omega), hh x hx]
    · refine count_map_if _ l (x : Int) fun y _ => ?_
      constructor
      · intro e
        split at e
        · exact e
        · omega
      · intro e
        subst e
        rw [if_pos (by omega)]
/-- A run gives the first so many of its hours to another one. -/
def relabP (k : Nat) (v : Int) : Nat → List (List Int) → List (List Int)
  | _, [] => []
  | c, l :: p => if 0 < c ∧ (k : Int) ∈ l then (l.map fun x => if x = (k : Int) then v else x) :: relabP k v (c - 1) p else l :: relabP k v c p
theorem relabP_len {k : Nat} {v : Int} : ∀ (p : List (List Int)) (c : Nat), (relabP k v c p).length = p.length
  | [], _ => rfl
  | l :: p, c => by unfold relabP; split <;> simp [relabP_len p]
theorem relabP_get {k : Nat} {v : Int} : ∀ (p : List (List Int)) (c h : Nat) (l : List Int), (relabP k v c p)[h]? = some l → ∃ l0 : List Int, p[h]? = some l0 ∧ (l = l0 ∨ l = l0.map fun x => if x = (k : Int) then v else x)
  | [], _, h, l, e => by simp [relabP] at e
  | l0 :: p, c, 0, l, e => by
    unfold relabP at e
    split at e
    · simp at e; exact ⟨l0, rfl, .inr e.symm⟩
    · simp at e; exact ⟨l0, rfl, .inl e.symm⟩
  | l0 :: p, c, h + 1, l, e => by
    unfold relabP at e
    split at e
    · obtain ⟨l1, h1, h2⟩ := relabP_get p _ h l (by simpa using e)
      exact ⟨l1, by simpa using h1, h2⟩
    · obtain ⟨l1, h1, h2⟩ := relabP_get p _ h l (by simpa using e)
      exact ⟨l1, by simpa using h1, h2⟩
theorem relabP_cnt {k n : Nat} (hkn : k ≠ n) : ∀ (p : List (List Int)) (c : Nat), (∀ l ∈ p, l.count (k : Int) ≤ 1 ∧ l.count (n : Int) = 0) → c ≤ cnt p k → cnt (relabP k (n : Int) c p) n = c ∧ cnt (relabP k (n : Int) c p) k + c = cnt p k ∧ ∀ x : Nat, x ≠ k → x ≠ n → cnt (relabP k (n : Int) c p) x = cnt p x
  | [], c, _, hc => by
    have h0 : cnt [] k = 0 := rfl
    rw [h0] at hc
    have : c = 0 := by omega
    subst this
    exact ⟨rfl, rfl, fun _ _ _ => rfl⟩
  | l :: p, c, h, hc => by
    have hl := h l (by simp)
    have hp : ∀ l ∈ p, l.count (k : Int) ≤ 1 ∧ l.count (n : Int) = 0 := fun l hl => h l (by simp [hl])
    have e1 : ∀ (a : List Int) (r : List (List Int)) (x : Nat), cnt (a :: r) x = a.count (x : Int) + cnt r x := fun a r x => by unfold cnt; rw [List.map_cons, List.sum_cons]
    rw [e1] at hc
    unfold relabP
    split
    · rename_i hcond
      have hk1 : 1 ≤ l.count (k : Int) := List.count_pos_iff.2 hcond.2
      have hn0 := List.count_eq_zero.1 hl.2
      obtain ⟨a1, a2, a3⟩ := relabP_cnt hkn p (c - 1) hp (by omega)
      have f1 : (l.map fun x => if x = (k : Int) then (n : Int) else x).count (k : Int) = 0 := count_map_zero _ l _ fun y _ => by
        split
        · omega
        · rename_i h; exact h
      have f2 : (l.map fun x => if x = (k : Int) then (n : Int) else x).count (n : Int) = l.count (k : Int) := by
        clear e1 hc hcond hk1 a1 a2 a3 f1 hp hl h
        induction l with
        | nil => rfl
        | cons a l ih =>
          rw [List.map_cons, List.count_cons, List.count_cons, ih fun hm => hn0 (by simp [hm])]
          by_cases e : a = (k : Int)
          · simp [e]
          · have : a ≠ (n : Int) := fun e' => hn0 (by simp [e'])
            simp [e, this]
      have f3 : ∀ x : Nat, x ≠ k → x ≠ n → (l.map fun x => if x = (k : Int) then (n : Int) else x).count (x : Int) = l.count (x : Int) := fun x h1 h2 => count_map_if _ l _ fun y _ => by
        constructor
        · intro e
          split at e
          · omega
          · exact e
        · intro e
          subst e
          rw [if_neg (by omega)]
      refine ⟨?_, ?_, fun x h1 h2 => ?_⟩
      · rw [e1, a1, f2]; omega
      · rw [e1, e1, f1]; omega
      · rw [e1, e1, f3 x h1 h2, a3 x h1 h2]
    · rename_i hcond
      have hle : c ≤ cnt p k := by
        by_cases h0 : 0 < c
        · have : l.count (k : Int) = 0 := List.count_eq_zero.2 fun hm => hcond ⟨h0, hm⟩
          omega
        · omega
      obtain ⟨a1, a2, a3⟩ := relabP_cnt hkn p c hp hle
      refine ⟨?_, ?_, fun x h1 h2 => ?_⟩
      · rw [e1, a1, hl.2]; omega
      · rw [e1, e1]; omega
      · rw [e1, e1, a3 x h1 h2]
/-- A run is divided into two. -/
theorem Feas.split {q q' : Qu} (hms : q'.ms.length = q.ms.length) (hrs : q'.rs.length = q.rs.length + 1) {k c : Nat} (hk : k < q.rs.length) (hmay : ∀ (r m h : Nat), r < q.rs.length → q.may r m h = true → q'.may r m h = true) (hmayk : ∀ (m h : Nat), q.may k m h = true → q'.may q.rs.length m h = true)
    (hc : (c : Int) ≤ (q.run k).hours) (hk' : (q'.run k).hours = (q.run k).hours - c) (hn' : (q'.run q.rs.length).hours = c) (hh : ∀ x, x < q.rs.length → x ≠ k → (q'.run x).hours = (q.run x).hours) {T : Nat} (hf : Feas q T) : Feas q' T := by
  obtain ⟨p, a, b, d⟩ := hf
  have hall : ∀ l ∈ p, l.count (k : Int) ≤ 1 ∧ l.count (q.rs.length : Int) = 0 := fun l hl => by
    obtain ⟨h, hr⟩ := a.row hl
    refine ⟨Row.cnt1 hr k, List.count_eq_zero.2 fun hm => ?_⟩
    obtain ⟨m, hm⟩ := List.mem_iff_getElem?.1 hm
    have : q.rs.length < q.rs.length := (hr.on m q.rs.length hm).2.2.1
    omega
  have hdk := d k hk
  obtain ⟨r1, r2, r3⟩ := relabP_cnt (n := q.rs.length) (by omega) p c hall (by omega)
  refine ⟨relabP k q.rs.length c p, ⟨fun h l e => ?_, by rw [relabP_len]; exact a.len⟩, by rw [relabP_len]; exact b, fun x hx => ?_⟩
  · obtain ⟨l0, h1, h2⟩ := relabP_get p c h l e
    have R := a.rows h l0 h1
    rcases h2 with rfl | rfl
    · refine ⟨R.len, R.ok, fun m r e => ?_, R.one⟩
      obtain ⟨o1, o2, o3, o4⟩ := R.on m r e
      have o3' : r < q.rs.length := o3
      exact ⟨o1, by rw [hms]; exact o2, (show r < q'.rs.length by omega), hmay r m h o3' o4⟩
    · refine R.map hms _ (by rw [if_neg (by omega)]) (fun m r e => ?_) (fun x1 x2 h1 h2 e hne => ?_)
      · obtain ⟨_, o2, o3, o4⟩ := R.on m r e
        have o3' : r < q.rs.length := o3
        split
        · rename_i hk2
          have : r = k := by omega
          subst this
          exact .inr ⟨q.rs.length, rfl, (show q.rs.length < q'.rs.length by omega), hmayk m h o4⟩
        · exact .inr ⟨r, rfl, (show r < q'.rs.length by omega), hmay r m h o3' o4⟩
      · have hx : ∀ r : Nat, (r : Int) ∈ l0 → r < q.rs.length := fun r hr => by
          obtain ⟨m, hm⟩ := List.mem_iff_getElem?.1 hr
          exact (R.on m r hm).2.2.1
        have := hx x1 h1
        have := hx x2 h2
        split at e <;> split at e <;> omega
  · rw [hrs] at hx
    by_cases e1 : x = q.rs.length
    · subst e1; rw [r1, hn']
    · by_cases e2 : x = k
      · subst e2; rw [hk']; omega
      · rw [r3 x e2 e1, d x (by omega), hh x (by omega) e2]
end Go.Proofs.Ytohhjnpiiackjaa
/-! Layer 10 (queue): the law QueueTwo. -/
namespace Go.Proofs.Ytohhjnpiiackjaa
open Go.RowKit
set_option maxRecDepth 10000
set_option linter.unusedSimpArgs false
attribute [local simp] AS.exp expG Box.ren AV.map AV.mapL outsOk noRet Site.isRet Box.allS AV.allS AV.allSL retB dropL AS.adds renL outG outOk lentBx inG fnOf lookA List.findIdx?_cons
attribute [local simp] Box.purge Site.isLoc
attribute [local simp] retFz frzL AS.frz AV.frz AV.frzL Box.frz AS.tidy AS.frzC
theorem Qu.check_of {q : Qu} (h : q.ok) : q.check = 0 := by
  have h1 := h.m
  have h2 := h.r
  have e1 : q.big = false := by
    unfold Qu.big
    have : (q.ms.all fun l => decide ((l.length : Int) ≤ 6)) = true := List.all_eq_true.2 fun l hl => by have := h.s l hl; simp; omega
    rw [this, decide_eq_false (by omega), decide_eq_false (by omega)]; rfl
  have e2 : q.bad = false := by
    unfold Qu.bad
    have a1 : (q.ms.all fun l => l.all Rg.hoursB) = true := List.all_eq_true.2 fun l hl => List.all_eq_true.2 fun y hy => by
      have := h.x l hl y hy
      simp only [Rg.hoursB, hourB, Bool.and_eq_true, decide_eq_true_eq]; omega
    have a2 : (q.rs.all fun r => r.okB q.ms.length) = true := List.all_eq_true.2 fun r hr => by
      have b1 := h.h r hr
      have b2 := h.d r hr
      have b3 := h.f r hr
      simp only [Rq.okB, manyB, Bool.and_eq_true, decide_eq_true_eq]; omega
    rw [a1, a2]; rfl
  unfold Qu.check
  rw [e1, e2]; rfl
theorem Qu.ok.small {q : Qu} (h : q.ok) : q.small := ⟨by have := h.m; omega, by have := h.r; omega, fun l hl => by have := h.s l hl; omega, fun r hr => by have := h.f r hr; have := h.m; omega⟩
def Rq.put (r : Rq) (n : Int) : Rq := ⟨n, r.ready, r.on⟩
/-- A run is divided. -/
def Qu.two (q : Qu) (k : Nat) (c : Int) : Qu := ⟨q.ms, q.rs.set k ((q.run k).put ((q.run k).hours - c)) ++ [(q.run k).put c]⟩
theorem run_of {q : Qu} {k : Nat} {r : Rq} (h : q.rs[k]? = some r) : q.run k = r := by unfold Qu.run; rw [h]; rfl
theorem Qu.two_ok {q : Qu} (hq : q.ok) {k c : Nat} (hk : k < q.rs.length) (h5 : q.rs.length ≤ 5) (hc : (c : Int) ≤ (q.run k).hours) : (q.two k c).ok := by
  have hr : q.rs[k]? = some q.rs[k] := List.getElem?_eq_getElem hk
  have hmem := List.mem_of_getElem? hr
  have e := run_of hr
  rw [e] at hc
  have hh := hq.h _ hmem
  have hd := hq.d _ hmem
  have hf := hq.f _ hmem
  have hall : ∀ r ∈ (q.two k c).rs, r ∈ q.rs ∨ r = q.rs[k].put (q.rs[k].hours - c) ∨ r = q.rs[k].put c := fun r hr => by
    unfold Qu.two at hr
    rw [e] at hr
    rcases List.mem_append.1 hr with h1 | h1
    · rcases List.mem_or_eq_of_mem_set h1 with h2 | h2
      · exact .inl h2
      · exact .inr (.inl h2)
    · exact .inr (.inr (by simpa using h1))
  refine ⟨hq.m, by simp [Qu.two]; omega, hq.s, hq.x, fun r h => ?_, fun r h => ?_, fun r h => ?_⟩
  · rcases hall r h with h1 | rfl | rfl
    · exact hq.h r h1
    · show 0 ≤ q.rs[k].hours - c ∧ q.rs[k].hours - (c : Int) ≤ 40; omega
    · show 0 ≤ (c : Int) ∧ (c : Int) ≤ 40; omega
  · rcases hall r h with h1 | rfl | rfl
    · exact hq.d r h1
    · exact hd
    · exact hd
  · rcases hall r h with h1 | rfl | rfl
    · exact hq.f r h1
    · exact hf
    · exact hf
theorem Qu.two_feas {q : Qu} {k c : Nat} (hk : k < q.rs.length) (hc : (c : Int) ≤ (q.run k).hours) {T : Nat} (h : Feas q T) : Feas (q.two k c) T := by
  have hold : ∀ x, x < q.rs.length → x ≠ k → (q.two k c).run x = q.run x := fun x hx hxk => by
    unfold Qu.run Qu.two
    rw [List.getElem?_append_left (by simpa using hx), List.getElem?_set_ne (fun e => hxk e.symm)]
  have hkk : (q.two k c).run k = (q.run k).put ((q.run k).hours - c) := by
    refine run_of ?_
    unfold Qu.two
    rw [List.getElem?_append_left (by simpa using hk), List.getElem?_set_self hk]
  have hnn : (q.two k c).run q.rs.length = (q.run k).put c := by
    refine run_of ?_
    unfold Qu.two
    rw [List.getElem?_append_right (by simp)]
    simp
  have hmay : ∀ (r r' m h : Nat), (q.two k c).run r' = q.run r ∨ (∃ z, (q.two k c).run r' = (q.run r).put z) → q.may r m h = true → (q.two k c).may r' m h = true := fun r r' m h hr hm => by
    unfold Qu.may at hm ⊢
    have e : (q.two k c).stops m = q.stops m := rfl
    rw [e]
    rcases hr with hr | ⟨z, hr⟩ <;> rw [hr] <;> exact hm
  refine h.split (q := q) (q' := q.two k c) rfl (by simp [Qu.two]) hk (fun r m h hr hm => ?_) (fun m h hm => hmay k q.rs.length m h (.inr ⟨_, hnn⟩) hm) hc (by rw [hkk]; rfl) (by rw [hnn]; rfl) (fun x hx hxk => by rw [hold x hx hxk])
  by_cases e : r = k
  · subst e; exact hmay r r m h (.inr ⟨_, hkk⟩) hm
  · exact hmay r r m h (.inl (hold r hr e)) hm
set_option maxHeartbeats 8000000 in
theorem two_law (q : Qu) (b1 b2 : Int) (hb1 : 0 ≤ b1 ∧ b1 < 256) (hb2 : 0 ≤ b2 ∧ b2 < 256) : Gives Try.prog 14 [q.pv, .int .u8 b1, .int .u8 b2] (.bool true) := by
  have hF : 407 < 408 := by decide
  generalize 408 = F at hF
  have hw := wakes_c
  refine calls_of_awpS mixed L14_ok (Nat.le_of_ble_eq_true rfl) ?_
  simp [-getElem?_pos, L14, Qu.pv]
  refine call_gives (k := 0) (fs := []) (xs := [q.pv]) (cs := []) rfl rfl (light_c q) rfl ?_
  by_cases ht : q.light = true
  case neg =>
    simp [-getElem?_pos, ht]
    refine call_gives (k := 0) (fs := []) (xs := []) (cs := []) rfl rfl hw rfl ?_
    simp [-getElem?_pos]
  obtain ⟨hs, hc, hq, _⟩ := Qu.light_of ht
  by_cases hn0 : q.rs = []
  · simp [-getElem?_pos, ht, Qu.cells, hn0]
    refine call_gives (k := 0) (fs := []) (xs := []) (cs := []) rfl rfl hw rfl ?_
    simp [-getElem?_pos]
  have hnp : 0 < q.rs.length := List.length_pos_iff.2 hn0
  by_cases hn5 : q.rs.length ≤ 5
  case neg =>
    have h5 : (5 : Int) < (q.rs.length : Int) := by omega
    have h5' : 5 < q.rs.length := by omega
    simp [-getElem?_pos, ht, Qu.cells, hn0, h5, h5']
    refine call_gives (k := 0) (fs := []) (xs := []) (cs := []) rfl rfl hw rfl ?_
    simp [-getElem?_pos]
  have h5 : ¬ (5 : Int) < (q.rs.length : Int) := by omega
  have h5' : ¬ 5 < q.rs.length := by omega
  have h1 := hs.m
  have h2 := hs.r
  have hbo := back_o q (by omega) (by omega) (fun l h => by have := hs.s l h; omega) (fun l h => by have := hs.f l h; omega)
  have hqc := queue_of hs
  have w1 : IntKind.i64.wrap b1 = b1 := wrap64 (by omega)
  have w2 : IntKind.i64.wrap b2 = b2 := wrap64 (by omega)
  obtain ⟨k, hk, hkn⟩ : ∃ k : Nat, b1.tmod (q.rs.length : Int) = (k : Int) ∧ k < q.rs.length := by
    have a1 := Int.tmod_eq_emod_of_nonneg (b := (q.rs.length : Int)) hb1.1
    have a2 := Int.emod_nonneg b1 (b := (q.rs.length : Int)) (by omega)
    have a3 := Int.emod_lt_of_pos b1 (b := (q.rs.length : Int)) (by omega)
    exact ⟨(b1.tmod (q.rs.length : Int)).toNat, by omega, by omega⟩
  obtain ⟨r, hr⟩ : ∃ r, q.rs[k]? = some r := ⟨q.rs[k], List.getElem?_eq_getElem hkn⟩
  have hg : (q.rs.map Rq.pv)[k]? = some (.agg [.int .i64 r.hours, .int .i64 r.ready, .lst false 1 (r.on.map PV.bool)]) := by rw [List.getElem?_map, hr]; rfl
  have hrh := hq.h r (List.mem_of_getElem? hr)
  have w3 : IntKind.i64.wrap (r.hours + 1) = r.hours + 1 := wrap64 (by omega)
  obtain ⟨c, hcc, hcn⟩ : ∃ c : Nat, b2.tmod (r.hours + 1) = (c : Int) ∧ (c : Int) ≤ r.hours := by
    have a1 := Int.tmod_eq_emod_of_nonneg (b := r.hours + 1) hb2.1
    have a2 := Int.emod_nonneg b2 (b := r.hours + 1) (by omega)
    have a3 := Int.emod_lt_of_pos b2 (b := r.hours + 1) (by omega)
    exact ⟨(b2.tmod (r.hours + 1)).toNat, by omega, by omega⟩
  have w4 : IntKind.i64.wrap (r.hours - c) = r.hours - c := wrap64 (by omega)
  have hrun := run_of hr
  have hX := Qu.two_ok hq hkn hn5 (by rw [hrun]; exact hcn)
  have hf1 := first_c hF hs hc
  have hf2 := first_c hF hX.small (Qu.check_of hX)
  have hle := first_le hF hq hX fun T h => Qu.two_feas hkn (by rw [hrun]; exact hcn) h
  have hXe : (q.two k c).pv = .agg [.lst false 1 (q.ms.map rgsP), .lst false 3 ((q.rs.map Rq.pv).set k (.agg [.int .i64 (r.hours - c), .int .i64 r.ready, .lst false 1 (r.on.map PV.bool)]) ++ [.agg [.int .i64 c, .int .i64 r.ready, .lst false 1 (r.on.map PV.bool)]])] := by
    unfold Qu.two Qu.pv
    rw [hrun, List.map_append, List.map_set]; rfl
  generalize firstV F q = V1 at *
  generalize firstV F (q.two k c) = V2 at *
  clear hX
  have hr0 : ¬ (q.rs.length : Int) = 0 := by omega
  simp [-getElem?_pos, ht, Qu.cells, hn0, h5, h5']
  refine .inl (call_pv [] (fs := []) (xs := [q.pv]) (cs := []) rfl rfl hqc ?_)
  simp [-getElem?_pos, frzsL]
  refine call_lent (as' := [.pv q.pv]) (B := []) (fs := []) (cs := []) 33 [] ?_ rfl rfl rfl ?_ ?_ hbo ?_
  · rfl
  · rfl
  · rfl
  rintro x B ⟨rfl, rfl⟩
  refine ⟨rfl, by simp, ?_⟩
  have hr1 : ¬ r.hours + 1 = 0 := by omega
  have hlen6 : q.rs.length + 1 ≤ 1000000 := by omega
  have hlen9 : q.rs.length ≤ 999999 := by omega
  simp [-getElem?_pos, -List.getElem?_map, -List.map_set, Qu.cells, w1, w2, w3, w4, hr0, hr1, hcc, hn0, hk, hkn, hg, nblt, nble, setAt, hlen6, hlen9]
  refine .inl (call_pv [] (fs := []) (xs := [q.pv]) (cs := []) rfl rfl hf1 ?_)
  simp [-getElem?_pos, -List.getElem?_map, -List.map_set, frzsL]
  have ht1 : List.take q.ms.length (List.map rgsP q.ms) = List.map rgsP q.ms := List.take_of_length_le (by simp)
  have ht2 : ∀ (x y : PV), List.take (q.rs.length + 1) ((List.map Rq.pv q.rs).set k x ++ [y]) = (List.map Rq.pv q.rs).set k x ++ [y] := fun x y => List.take_of_length_le (by simp)
  refine .inl (call_pv [.loc 33 0, .loc 67 0] (fs := []) (xs := [(q.two k c).pv]) (cs := []) rfl ?_ hf2 ?_)
  · rw [hXe]; simp [frzsL, -List.map_set, ht1, ht2, onP]
  simp [-getElem?_pos, -List.getElem?_map, -List.map_set, frzsL, hle]
  refine .inl (call_pv [] (fs := []) (xs := []) (cs := []) rfl rfl hw ?_)
  simp [-getElem?_pos, -List.getElem?_map, frzsL]
end Go.Proofs.Ytohhjnpiiackjaa
