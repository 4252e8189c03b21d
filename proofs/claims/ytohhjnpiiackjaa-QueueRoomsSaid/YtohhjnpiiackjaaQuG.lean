/- Layer 10 (queue), plain law: what a search for a machine does to who is on the machines. (Several texts in one.) -/
import Derived.Test.YtohhjnpiiackjaaQuC
import Derived.Test.YtohhjnpiiackjaaQuE
set_option linter.unusedVariables false
set_option linter.unusedSimpArgs false
/-! Layer 10 (queue), plain law: what a search for a machine does to who is on the machines. -/
namespace Go.Proofs.Ytohhjnpiiackjaa
open Go.RowKit

set_option linter.unusedSimpArgs false
theorem set_perm {w : List Int} {m : Nat} {x y : Int} (h : w[m]? = some x) : (x :: w.set m y).Perm (y :: w) := by
  induction w generalizing m with
  | nil => simp at h
  | cons a r ih =>
    cases m with
    | zero =>
      simp at h; subst h
      simp only [List.set_cons_zero]
      exact List.Perm.swap y a r
    | succ m =>
      have h' : r[m]? = some x := by simpa using h
      simp only [List.set_cons_succ]
      exact (List.Perm.swap a x _).trans (((ih h').cons a).trans (List.Perm.swap y a r))
/-- What a search says that began so. -/
structure Said (q : Qu) (h : Int) (run : Nat) (ms : List Nat) (t : List Bool) (w : List Int) (g : GR) : Prop where
  up : ∀ m : Nat, t[m]? = some true → g.1[m]? = some true
  same : ∀ m : Nat, t[m]? = some true → g.2.1[m]? = w[m]?
  yes : g.2.2 = true → (-1 :: g.2.1).Perm ((run : Int) :: w)
  no : g.2.2 = false → g.2.1 = w ∧ (∀ m ∈ ms, g.1[m]? = some true) ∧ ∀ m : Nat, g.1[m]? = some true → t[m]? = some false → ∃ r : Nat, w[m]? = some (r : Int) ∧ ∀ m' ∈ q.macs r h q.ms.length, g.1[m']? = some true
theorem set_true {t : List Bool} {m m' : Nat} (h : t[m']? = some true) : (t.set m true)[m']? = some true := by
  by_cases e : m' = m
  · subst e
    rw [List.getElem?_set_self (List.getElem?_eq_some_iff.1 h).1]
  · rw [List.getElem?_set_ne (fun e' => e e'.symm)]; exact h
theorem ne_of_tried {t : List Bool} {m m' : Nat} (h : t[m]? = some false) (h' : t[m']? = some true) : m ≠ m' := fun e => by subst e; rw [h] at h'; cases h'
theorem loopG_said {q : Qu} {h : Int} {rec : Nat → List Bool → List Int → GR} {n : Nat}
    (hok : ∀ run t w, run < q.rs.length → GW q t w → GW q (rec run t w).1 (rec run t w).2.1 ∧ unt (rec run t w).1 ≤ unt t)
    (hrec : ∀ r t w, r < q.rs.length → GW q t w → unt t ≤ n → Said q h r (q.macs r h q.ms.length) t w (rec r t w)) {run : Nat} (hr : run < q.rs.length) :
    ∀ (l : List Nat), (∀ m ∈ l, m < 4) → ∀ (t : List Bool) (w : List Int), GW q t w → unt t ≤ n + 1 → Said q h run l t w (loopG rec run l t w)
  | [], _, t, w, _, _ => ⟨fun _ h => h, fun _ _ => rfl, fun h => (by cases h), fun _ => ⟨rfl, fun m hm => (by cases hm), fun m h1 h2 => by rw [show (loopG rec run [] t w).1 = t from rfl, h2] at h1; cases h1⟩⟩
  | m :: r, hl, t, w, hw, hu => by
    obtain ⟨b, x, h1, h2, h3⟩ := hw.at (hl m (by simp))
    have hl' : ∀ m ∈ r, m < 4 := fun m hm => hl m (by simp [hm])
    unfold loopG
    rw [h1, h2]
    simp only [Option.getD_some]
    cases b with
    | true =>
      rw [if_pos rfl]
      have S := loopG_said hok hrec hr r hl' t w hw hu
      exact ⟨S.up, S.same, S.yes, fun h0 => ⟨(S.no h0).1, fun m' hm' => by
        rcases List.mem_cons.1 hm' with e | e
        · subst e; exact S.up _ h1
        · exact (S.no h0).2.1 m' e, (S.no h0).2.2⟩⟩
    | false =>
      rw [if_neg (by simp)]
      have hu' := unt_set h1
      have hm4 : m < t.length := (List.getElem?_eq_some_iff.1 h1).1
      have hset : (t.set m true)[m]? = some true := List.getElem?_set_self hm4
      split
      · rename_i hx
        subst hx
        exact ⟨fun m' h' => set_true h', fun m' h' => by
          show (w.set m run)[m']? = _
          rw [List.getElem?_set_ne (ne_of_tried h1 h')], fun _ => set_perm h2, fun h0 => by cases h0⟩
      · rename_i hx
        obtain ⟨i, rfl⟩ : ∃ i : Nat, x = i := ⟨x.toNat, by rcases h3 with h3 | h3; exact absurd h3 hx; omega⟩
        have hi : i < q.rs.length := by rcases h3 with h3 | h3; exact absurd h3 hx; omega
        simp only [Int.toNat_natCast]
        have S := hrec i (t.set m true) w hi (hw.set m) (by omega)
        obtain ⟨k1, k2⟩ := hok i (t.set m true) w hi (hw.set m)
        generalize rec i (t.set m true) w = g at *
        obtain ⟨t', w', b'⟩ := g
        simp only at *
        split
        · rename_i hb
          subst hb
          have hsm : w'[m]? = some (i : Int) := (S.same m hset).trans h2
          refine ⟨fun m' h' => S.up m' (set_true h'), fun m' h' => ?_, fun _ => ?_, fun h0 => by cases h0⟩
          · show (w'.set m run)[m']? = _
            rw [List.getElem?_set_ne (ne_of_tried h1 h')]
            exact S.same m' (set_true h')
          · have p1 := set_perm (y := (run : Int)) hsm
            have p2 := S.yes rfl
            show (-1 :: w'.set m run).Perm _
            refine List.Perm.cons_inv (a := (i : Int)) ?_
            exact (List.Perm.swap _ _ _).trans ((p1.cons (-1)).trans ((List.Perm.swap _ _ _).trans ((p2.cons _).trans (List.Perm.swap _ _ _))))
        · rename_i hb
          have hb' : b' = false := by cases b'; rfl; exact absurd rfl hb
          subst hb'
          obtain ⟨n1, n2, n3⟩ := S.no rfl
          subst n1
          have T := loopG_said hok hrec hr r hl' t' w' k1 (by omega)
          refine ⟨fun m' h' => T.up m' (S.up m' (set_true h')), fun m' h' => T.same m' (S.up m' (set_true h')), T.yes, fun h0 => ?_⟩
          obtain ⟨o1, o2, o3⟩ := T.no h0
          refine ⟨o1, fun m' hm' => ?_, fun m' h1' h2' => ?_⟩
          · rcases List.mem_cons.1 hm' with e | e
            · subst e; exact T.up _ (S.up _ hset)
            · exact o2 m' e
          · have hm' : m' < t'.length := by rw [k1.t4, ← hw.t4]; exact (List.getElem?_eq_some_iff.1 h2').1
            cases ht' : t'[m'] with
            | false => exact o3 m' h1' (by rw [List.getElem?_eq_getElem hm', ht'])
            | true =>
              have ht2 : t'[m']? = some true := by rw [List.getElem?_eq_getElem hm', ht']
              by_cases e : m' = m
              · subst e
                exact ⟨i, h2, fun m2 hm2 => T.up _ (n2 m2 hm2)⟩
              · obtain ⟨r0, e1, e2⟩ := n3 m' ht2 (by rw [List.getElem?_set_ne (fun e' => e e'.symm)]; exact h2')
                exact ⟨r0, e1, fun m2 hm2 => T.up _ (e2 m2 hm2)⟩
theorem unt_all {t : List Bool} (h : unt t = 0) {m : Nat} (hm : m < t.length) : t[m]? = some true := by
  have : ∀ b ∈ t, b ≠ false := fun b hb e => by
    subst e
    have := List.count_pos_iff.2 hb
    unfold unt at h; omega
  have h2 := this t[m] (List.getElem_mem hm)
  rw [List.getElem?_eq_getElem hm]
  cases hh : t[m]
  · rw [hh] at h2; exact absurd rfl h2
  · rfl
theorem giveM_said {q : Qu} (hq : q.ok) (h : Int) : ∀ (n run : Nat) (t : List Bool) (w : List Int), run < q.rs.length → GW q t w → unt t ≤ n → Said q h run (q.macs run h q.ms.length) t w (q.giveM h n run t w)
  | 0, run, t, w, _, hw, hu => ⟨fun _ h => h, fun _ _ => rfl, fun h => (by cases h), fun _ => ⟨rfl, fun m hm => unt_all (t := t) (Nat.le_zero.1 hu) (by have := macs_lt hq m hm; have := hq.m; rw [hw.t4]; omega), fun m h1 h2 => by rw [show (q.giveM h 0 run t w).1 = t from rfl, h2] at h1; cases h1⟩⟩
  | n + 1, run, t, w, hr, hw, hu => loopG_said (n := n) (fun run t w hr hw => giveM_ok hq h n run t w hr hw) (fun r t w hr hw hu => giveM_said hq h n r t w hr hw hu) hr _ (fun m hm => by have := macs_lt hq m hm; have := hq.m; omega) t w hw hu
end Go.Proofs.Ytohhjnpiiackjaa

/-! Layer 10 (queue), plain law: the search gives as many runs machines at an hour as can be. -/
namespace Go.Proofs.Ytohhjnpiiackjaa
open Go.RowKit

set_option linter.unusedSimpArgs false
theorem mem_macs {q : Qu} {i : Nat} {h : Int} {m : Nat} : m ∈ q.macs i h q.ms.length ↔ m < q.ms.length ∧ q.may i m h = true := by
  unfold Qu.macs
  rw [List.take_of_length_le (by simp)]
  simp [List.mem_filter, List.mem_range]
/-- Who is on the machines, from one on: some runs, each once, each where it may be. -/
structure Mt (q : Qu) (h : Int) (P : Nat → Prop) (j : Nat) (w : List Int) : Prop where
  len : w.length = 4
  ok : ∀ x ∈ w, x = -1 ∨ 0 ≤ x
  on : ∀ m r : Nat, w[m]? = some (r : Int) → j ≤ m ∧ m < q.ms.length ∧ P r ∧ q.may r m h = true
  one : ∀ m m' r : Nat, w[m]? = some (r : Int) → w[m']? = some (r : Int) → m = m'
def OnOk (q : Qu) (h : Int) (w : List Int) : Prop := ∀ m r : Nat, w[m]? = some (r : Int) → m ∈ q.macs r h q.ms.length
theorem OnOk.set {q : Qu} {h : Int} {w : List Int} (hw : OnOk q h w) {m run : Nat} (hm : m ∈ q.macs run h q.ms.length) : OnOk q h (w.set m run) := by
  intro m' r e
  rw [List.getElem?_set] at e
  split at e
  · rename_i e1
    split at e
    · have h1 : (run : Int) = r := by simpa using e
      have h2 : run = r := by omega
      subst h2; subst e1; exact hm
    · cases e
  · exact hw m' r e
theorem loopG_on {q : Qu} {h : Int} {rec : Nat → List Bool → List Int → GR} (hrec : ∀ r t w, OnOk q h w → OnOk q h (rec r t w).2.1) {run : Nat} : ∀ (l : List Nat), (∀ m ∈ l, m ∈ q.macs run h q.ms.length) → ∀ (t : List Bool) (w : List Int), OnOk q h w → OnOk q h (loopG rec run l t w).2.1
  | [], _, t, w, hw => hw
  | m :: r, hl, t, w, hw => by
    have hm := hl m (by simp)
    have hl' : ∀ m ∈ r, m ∈ q.macs run h q.ms.length := fun m hm => hl m (by simp [hm])
    unfold loopG
    split
    · exact loopG_on hrec r hl' t w hw
    · split
      · exact hw.set hm
      · split
        · exact (hrec _ _ _ hw).set hm
        · exact loopG_on hrec r hl' _ _ (hrec _ _ _ hw)
theorem giveM_on {q : Qu} {h : Int} : ∀ (n run : Nat) (t : List Bool) (w : List Int), OnOk q h w → OnOk q h (q.giveM h n run t w).2.1
  | 0, run, t, w, hw => hw
  | n + 1, run, t, w, hw => loopG_on (fun r t w hw => giveM_on n r t w hw) _ (fun m hm => hm) t w hw
theorem cnt1 {l : List Int} {x : Int} : l.count x ≤ 1 ↔ ∀ m m' : Nat, l[m]? = some x → l[m']? = some x → m = m' := by
  induction l with
  | nil => simp
  | cons a l ih =>
    rw [List.count_cons]
    constructor
    · intro hc m m' e e'
      have hl : ∀ k : Nat, l[k]? = some x → 1 ≤ l.count x := fun k hk => List.count_pos_iff.2 (List.mem_of_getElem? hk)
      cases m with
      | zero =>
        cases m' with
        | zero => rfl
        | succ m' =>
          have ha : a = x := by simpa using e
          have h2 := hl m' (by simpa using e')
          rw [if_pos (by simp [ha])] at hc
          omega
      | succ m =>
        cases m' with
        | zero =>
          have ha : a = x := by simpa using e'
          have h2 := hl m (by simpa using e)
          rw [if_pos (by simp [ha])] at hc
          omega
        | succ m' =>
          have := ih.1 (by omega) m m' (by simpa using e) (by simpa using e')
          omega
    · intro hi
      have h1 := ih.2 fun m m' e e' => by have := hi (m + 1) (m' + 1) (by simpa using e) (by simpa using e'); omega
      by_cases ha : a = x
      · have : l.count x = 0 := by
          rcases Nat.eq_zero_or_pos (l.count x) with h0 | h0
          · exact h0
          · obtain ⟨k, hk⟩ := List.mem_iff_getElem?.1 (List.count_pos_iff.1 h0)
            have := hi 0 (k + 1) (by simpa using ha) (by simpa using hk)
            omega
        rw [this]; split <;> omega
      · rw [if_neg (by simpa using ha)]; omega
theorem cnt_mono {A B : List Int} (hl : A.length = B.length) (h : ∀ m : Nat, A[m]? = some (-1) → B[m]? = some (-1)) : A.count (-1) ≤ B.count (-1) := by
  induction A generalizing B with
  | nil => simp
  | cons a A ih =>
    cases B with
    | nil => simp at hl
    | cons b B =>
      have h1 := ih (B := B) (by simpa using hl) fun m e => by have := h (m + 1) (by simpa using e); simpa using this
      rw [List.count_cons, List.count_cons]
      by_cases ha : a = -1
      · have hb : b = -1 := by have := h 0 (by simpa using ha); simpa using this
        rw [if_pos (by simp [ha]), if_pos (by simp [hb])]; omega
      · rw [if_neg (by simpa using ha)]; omega
theorem Mt.mono {q : Qu} {h : Int} {P P' : Nat → Prop} {j : Nat} {w : List Int} (hw : Mt q h P j w) (hP : ∀ r, P r → P' r) : Mt q h P' j w :=
  ⟨hw.len, hw.ok, fun m r e => ⟨(hw.on m r e).1, (hw.on m r e).2.1, hP _ (hw.on m r e).2.2.1, (hw.on m r e).2.2.2⟩, hw.one⟩
theorem Mt.down {q : Qu} {h : Int} {P : Nat → Prop} {j : Nat} {w : List Int} (hw : Mt q h P (j + 1) w) : Mt q h P j w :=
  ⟨hw.len, hw.ok, fun m r e => ⟨by have := (hw.on m r e).1; omega, (hw.on m r e).2⟩, hw.one⟩
theorem Mt.next {q : Qu} {h : Int} {P : Nat → Prop} {j : Nat} {w : List Int} (hw : Mt q h P j w) (hj : w[j]? = some (-1)) : Mt q h P (j + 1) w :=
  ⟨hw.len, hw.ok, fun m r e => ⟨by
    have := (hw.on m r e).1
    have hne : m ≠ j := fun e' => by subst e'; rw [hj] at e; have := Option.some.inj e; omega
    omega, (hw.on m r e).2⟩, hw.one⟩
theorem Mt.cut {q : Qu} {h : Int} {P : Nat → Prop} {j : Nat} {w : List Int} (hw : Mt q h P j w) {m run : Nat} (hm : w[m]? = some (run : Int)) : Mt q h (fun r => P r ∧ r ≠ run) j (w.set m (-1)) := by
  have key : ∀ m' r : Nat, (w.set m (-1))[m']? = some (r : Int) → w[m']? = some (r : Int) ∧ m' ≠ m := fun m' r e => by
    rw [List.getElem?_set] at e
    split at e
    · split at e
      · have := Option.some.inj e; omega
      · cases e
    · rename_i hne; exact ⟨e, fun e' => hne e'.symm⟩
  refine ⟨by simpa using hw.len, fun x hx => ?_, fun m' r e => ?_, fun m1 m2 r e1 e2 => hw.one m1 m2 r (key m1 r e1).1 (key m2 r e2).1⟩
  · rcases List.mem_or_eq_of_mem_set hx with hx | hx
    · exact hw.ok x hx
    · exact .inl hx
  · obtain ⟨e1, e2⟩ := key m' r e
    obtain ⟨o1, o2, o3, o4⟩ := hw.on m' r e1
    exact ⟨o1, o2, ⟨o3, fun e' => by subst e'; exact e2 (hw.one _ _ _ e1 hm)⟩, o4⟩
theorem Mt.put {q : Qu} {h : Int} {P P' : Nat → Prop} {i j : Nat} {w : List Int} (hw : Mt q h P i w) {x : Nat} (hij : i ≤ j) (hj : j < q.ms.length) (hx : q.may x j h = true) (hP : P' x) (hPP : ∀ r, P r → P' r ∧ r ≠ x) : Mt q h P' i (w.set j x) := by
  have key : ∀ m' r : Nat, (w.set j x)[m']? = some (r : Int) → (m' = j ∧ r = x) ∨ (m' ≠ j ∧ w[m']? = some (r : Int)) := fun m' r e => by
    rw [List.getElem?_set] at e
    split at e
    · rename_i e1
      split at e
      · have := Option.some.inj e; exact .inl ⟨e1.symm, by omega⟩
      · cases e
    · rename_i hne; exact .inr ⟨fun e' => hne e'.symm, e⟩
  refine ⟨by simpa using hw.len, fun y hy => ?_, fun m' r e => ?_, fun m1 m2 r e1 e2 => ?_⟩
  · rcases List.mem_or_eq_of_mem_set hy with hy | hy
    · exact hw.ok y hy
    · right; omega
  · rcases key m' r e with ⟨rfl, rfl⟩ | ⟨_, e⟩
    · exact ⟨hij, hj, hP, hx⟩
    · obtain ⟨o1, o2, o3, o4⟩ := hw.on m' r e
      exact ⟨o1, o2, (hPP r o3).1, o4⟩
  · rcases key m1 r e1 with ⟨a1, b1⟩ | ⟨a1, b1⟩ <;> rcases key m2 r e2 with ⟨a2, b2⟩ | ⟨a2, b2⟩
    · omega
    · exact absurd b1 (hPP r (hw.on _ _ b2).2.2.1).2
    · exact absurd b2 (hPP r (hw.on _ _ b1).2.2.1).2
    · exact hw.one _ _ _ b1 b2
theorem Mt.idle {q : Qu} {h : Int} {P : Nat → Prop} {j : Nat} : Mt q h P j idle4 := by
  have key : ∀ x ∈ idle4, x = -1 := fun x hx => by simpa [idle4] using hx
  refine ⟨rfl, fun x hx => .inl (key x hx), fun m r e => ?_, fun m m' r e => ?_⟩
  all_goals
    have := key _ (List.mem_of_getElem? e)
    omega
theorem Mt.none {q : Qu} {h : Int} {P : Nat → Prop} {j : Nat} {w : List Int} (hw : Mt q h P j w) (hP : ∀ m r : Nat, P r → j ≤ m → m < q.ms.length → False) : w.count (-1) = 4 := by
  rw [← hw.len, List.count_eq_length]
  intro x hx
  rcases hw.ok x hx with h1 | h1
  · exact h1.symm
  · obtain ⟨m, hm⟩ := List.mem_iff_getElem?.1 hx
    obtain ⟨r, rfl⟩ : ∃ r : Nat, x = r := ⟨x.toNat, by omega⟩
    have := hw.on m r hm
    exact (hP m r this.2.2.1 this.1 this.2.1).elim
theorem cnt_set {w : List Int} {m run : Nat} (h : w[m]? = some (run : Int)) : (w.set m (-1)).count (-1) = w.count (-1) + 1 := by
  have p := (set_perm (y := -1) h).count_eq (-1)
  rw [List.count_cons, List.count_cons] at p
  simp only [beq_iff_eq, if_neg (by omega : ¬ (run : Int) = -1), if_true] at p
  omega
theorem cnt_put {w : List Int} {m run : Nat} (h : w[m]? = some (-1)) : (w.set m run).count (-1) + 1 = w.count (-1) := by
  have p := (set_perm (y := (run : Int)) h).count_eq (-1)
  rw [List.count_cons, List.count_cons] at p
  simp only [beq_iff_eq, if_neg (by omega : ¬ (run : Int) = -1), if_true] at p
  omega
/-- One of the first k runs. -/
def Pk (runs : List Int) (k r : Nat) : Prop := ∃ i : Nat, i < k ∧ runs[i]? = some (r : Int)
theorem Pk.next {runs : List Int} {k r : Nat} (h : Pk runs k r) : Pk runs (k + 1) r := by
  obtain ⟨i, h1, h2⟩ := h
  exact ⟨i, by omega, h2⟩
theorem Pk.split {runs : List Int} {k r run : Nat} (hx : runs[k]? = some (run : Int)) (h : Pk runs (k + 1) r) (hne : r ≠ run) : Pk runs k r := by
  obtain ⟨i, h1, h2⟩ := h
  refine ⟨i, ?_, h2⟩
  have : i ≠ k := fun e => by subst e; rw [hx] at h2; have := Option.some.inj h2; omega
  omega
def mixW (T : List Bool) (w M : List Int) : List Int := (List.range 4).map fun m => if T[m]? = some true then (w[m]?).getD (-1) else (M[m]?).getD (-1)
theorem mixW_get {T : List Bool} {w M : List Int} (hw : w.length = 4) (hM : M.length = 4) {m : Nat} {x : Int} (h : (mixW T w M)[m]? = some x) : (T[m]? = some true ∧ w[m]? = some x) ∨ (T[m]? ≠ some true ∧ M[m]? = some x) := by
  have hm : m < 4 := by have := (List.getElem?_eq_some_iff.1 h).1; simpa [mixW] using this
  have h2 : (if T[m]? = some true then (w[m]?).getD (-1) else (M[m]?).getD (-1)) = x := by
    simpa [mixW, List.getElem?_map, List.getElem?_range hm] using h
  split at h2
  · rename_i ht
    refine .inl ⟨ht, ?_⟩
    rw [List.getElem?_eq_getElem (by omega)] at h2 ⊢
    simpa using h2
  · rename_i ht
    refine .inr ⟨ht, ?_⟩
    rw [List.getElem?_eq_getElem (by omega)] at h2 ⊢
    simpa using h2
theorem atK_most {q : Qu} (hq : q.ok) {h : Int} {runs : List Int} (hin : ∀ x ∈ runs, 0 ≤ x ∧ x < q.rs.length) (hnd : ∀ i j r : Nat, runs[i]? = some (r : Int) → runs[j]? = some (r : Int) → i = j) : ∀ k, k ≤ runs.length →
    Mt q h (Pk runs k) 0 (q.atK h runs k).2 ∧ (q.atK h runs k).1 + (q.atK h runs k).2.count (-1) = 4 ∧ ∀ M, Mt q h (Pk runs k) 0 M → (q.atK h runs k).2.count (-1) ≤ M.count (-1)
  | 0, _ => ⟨Mt.idle, (show 0 + idle4.count (-1) = 4 by decide), fun M hM => by
      rw [hM.none (fun m r hP _ _ => by obtain ⟨i, hi, _⟩ := hP; omega)]
      exact (show idle4.count (-1) ≤ 4 by decide)⟩
  | k + 1, hk => by
    obtain ⟨A, B, C⟩ := atK_most hq (h := h) hin hnd k (by omega)
    have G := (Qu.atK_ok hq (h := h) hin k (by omega)).1
    have hx : runs[k]? = some runs[k] := List.getElem?_eq_getElem (by omega)
    have hr := hin _ (List.mem_of_getElem? hx)
    obtain ⟨run, hrun⟩ : ∃ run : Nat, runs[k] = run := ⟨runs[k].toNat, by omega⟩
    rw [hrun] at hx hr
    have hstep : q.atK h runs (k + 1) = ((q.atK h runs k).1 + (if (q.giveM h 5 run no4 (q.atK h runs k).2).2.2 = true then 1 else 0), (q.giveM h 5 run no4 (q.atK h runs k).2).2.1) := by simp [Qu.atK, hx]
    have S := giveM_said hq h 5 run no4 (q.atK h runs k).2 (by omega) G (by decide)
    have O := (giveM_ok hq h 5 run no4 (q.atK h runs k).2 (by omega) G).1
    have On := giveM_on (q := q) (h := h) 5 run no4 (q.atK h runs k).2 fun m r e => mem_macs.2 ⟨(A.on m r e).2.1, (A.on m r e).2.2.2⟩
    rw [hstep]
    generalize q.atK h runs k = a at *
    obtain ⟨n, w⟩ := a
    generalize q.giveM h 5 run no4 (n, w).2 = g at *
    obtain ⟨T, w', b⟩ := g
    simp only at *
    have hout : ∀ m : Nat, w[m]? = some (run : Int) → False := fun m e => by
      obtain ⟨i, h1, h2⟩ := (A.on m run e).2.2.1
      have := hnd _ _ _ h2 hx
      omega
    cases b with
    | true =>
      have p := S.yes rfl
      have hc : w'.count (-1) + 1 = w.count (-1) := by
        have := p.count_eq (-1)
        rw [List.count_cons, List.count_cons] at this
        simp only [beq_iff_eq, if_neg (by omega : ¬ (run : Int) = -1), if_true] at this
        omega
      refine ⟨⟨O.w4, fun x hx' => by rcases O.ok x hx' with h1 | h1; exact .inl h1; exact .inr h1.1, fun m r e => ?_, fun m m' r e e' => ?_⟩, ?_, fun M hM => ?_⟩
      · obtain ⟨o1, o2⟩ := mem_macs.1 (On m r e)
        refine ⟨Nat.zero_le _, o1, ?_, o2⟩
        have hmem : (r : Int) ∈ (run : Int) :: w := p.mem_iff.1 (List.mem_cons_of_mem _ (List.mem_of_getElem? e))
        rcases List.mem_cons.1 hmem with e1 | e1
        · have : r = run := by omega
          subst this; exact ⟨k, by omega, hx⟩
        · obtain ⟨m2, hm2⟩ := List.mem_iff_getElem?.1 e1
          exact (A.on m2 r hm2).2.2.1.next
      · refine cnt1.1 ?_ m m' e e'
        have hp := p.count_eq (r : Int)
        rw [List.count_cons, List.count_cons] at hp
        simp only [beq_iff_eq, if_neg (by omega : ¬ (-1 : Int) = (r : Int))] at hp
        by_cases hrr : r = run
        · subst hrr
          have : w.count (r : Int) = 0 := List.count_eq_zero.2 fun hmem => by
            obtain ⟨m2, hm2⟩ := List.mem_iff_getElem?.1 hmem
            exact hout m2 hm2
          rw [if_pos rfl] at hp
          omega
        · have := cnt1.2 (fun m m' e e' => A.one m m' r e e')
          rw [if_neg (by omega)] at hp
          omega
      · rw [if_pos rfl]; omega
      · by_cases hM1 : ∃ m : Nat, M[m]? = some (run : Int)
        · obtain ⟨m, hm⟩ := hM1
          have h1 := C _ ((hM.cut hm).mono fun r hr' => Pk.split hx hr'.1 hr'.2)
          rw [cnt_set hm] at h1
          omega
        · have h1 := C M ⟨hM.len, hM.ok, fun m r e => ⟨(hM.on m r e).1, (hM.on m r e).2.1, Pk.split hx (hM.on m r e).2.2.1 (fun e' => hM1 ⟨m, by rw [← e']; exact e⟩), (hM.on m r e).2.2.2⟩, hM.one⟩
          omega
    | false =>
      obtain ⟨n1, n2, n3⟩ := S.no rfl
      subst n1
      refine ⟨A.mono fun r hr' => hr'.next, by rw [if_neg (by simp)]; exact B, fun M hM => ?_⟩
      have hT : ∀ m : Nat, T[m]? = some true → ∃ r : Nat, w'[m]? = some (r : Int) ∧ ∀ m' ∈ q.macs r h q.ms.length, T[m']? = some true := fun m hm => by
        have hm4 : m < 4 := by rw [← O.t4]; exact (List.getElem?_eq_some_iff.1 hm).1
        exact n3 m hm (by
          have : ∀ m : Nat, m < 4 → no4[m]? = some false := by decide
          exact this m hm4)
      have hmix : Mt q h (Pk runs k) 0 (mixW T w' M) := by
        refine ⟨by simp [mixW], fun x hx' => ?_, fun m r e => ?_, fun m m' r e e' => ?_⟩
        · obtain ⟨m, hm⟩ := List.mem_iff_getElem?.1 hx'
          rcases mixW_get A.len hM.len hm with ⟨_, h1⟩ | ⟨_, h1⟩
          · exact A.ok _ (List.mem_of_getElem? h1)
          · exact hM.ok _ (List.mem_of_getElem? h1)
        · rcases mixW_get A.len hM.len e with ⟨_, h1⟩ | ⟨ht, h1⟩
          · exact A.on m r h1
          · obtain ⟨o1, o2, o3, o4⟩ := hM.on m r h1
            exact ⟨o1, o2, Pk.split hx o3 (fun e' => by subst e'; exact ht (n2 m (mem_macs.2 ⟨o2, o4⟩))), o4⟩
        · have hno : ∀ m m' : Nat, T[m]? = some true → w'[m]? = some (r : Int) → T[m']? ≠ some true → M[m']? = some (r : Int) → False := fun m m' t1 h1 t2 h2 => by
            obtain ⟨r0, e1, e2⟩ := hT m t1
            rw [h1] at e1
            have : r = r0 := by have := Option.some.inj e1; omega
            subst this
            exact t2 (e2 m' (mem_macs.2 ⟨(hM.on m' r h2).2.1, (hM.on m' r h2).2.2.2⟩))
          rcases mixW_get A.len hM.len e with ⟨t1, h1⟩ | ⟨t1, h1⟩ <;> rcases mixW_get A.len hM.len e' with ⟨t2, h2⟩ | ⟨t2, h2⟩
          · exact A.one _ _ _ h1 h2
          · exact (hno _ _ t1 h1 t2 h2).elim
          · exact (hno _ _ t2 h2 t1 h1).elim
          · exact hM.one _ _ _ h1 h2
      refine Nat.le_trans (C _ hmix) (cnt_mono (by rw [hM.len]; simp [mixW]) fun m e => ?_)
      rcases mixW_get A.len hM.len e with ⟨t1, h1⟩ | ⟨t1, h1⟩
      · obtain ⟨r, e1, _⟩ := hT m t1
        rw [h1] at e1
        have := Option.some.inj e1; omega
      · exact h1
theorem Pk.all {runs : List Int} {r : Nat} : Pk runs runs.length r ↔ (r : Int) ∈ runs :=
  ⟨fun ⟨i, _, h⟩ => List.mem_of_getElem? h, fun h => by
    obtain ⟨i, hi⟩ := List.mem_iff_getElem?.1 h
    exact ⟨i, (List.getElem?_eq_some_iff.1 hi).1, hi⟩⟩
/-- Numbers of runs, each once. -/
structure Runs (q : Qu) (l : List Int) : Prop where
  inn : ∀ x ∈ l, 0 ≤ x ∧ x < q.rs.length
  one : ∀ i j r : Nat, l[i]? = some (r : Int) → l[j]? = some (r : Int) → i = j
theorem atM_ge {q : Qu} (hq : q.ok) {h : Int} {l : List Int} (hl : Runs q l) {M : List Int} (hM : Mt q h (fun r => (r : Int) ∈ l) 0 M) : 4 ≤ q.atM h l + M.count (-1) := by
  obtain ⟨_, B, C⟩ := atK_most hq (h := h) hl.inn hl.one l.length (Nat.le_refl _)
  have := C M (hM.mono fun r hr => Pk.all.2 hr)
  unfold Qu.atM; omega
theorem atM_is {q : Qu} (hq : q.ok) {h : Int} {l : List Int} (hl : Runs q l) : ∃ M, Mt q h (fun r => (r : Int) ∈ l) 0 M ∧ q.atM h l + M.count (-1) = 4 := by
  obtain ⟨A, B, _⟩ := atK_most hq (h := h) hl.inn hl.one l.length (Nat.le_refl _)
  exact ⟨_, A.mono fun r hr => Pk.all.1 hr, B⟩
/-- With more runs it is not less. -/
theorem atM_mono {q : Qu} (hq : q.ok) {h : Int} {l l' : List Int} (hl : Runs q l) (hl' : Runs q l') (hs : ∀ x ∈ l, x ∈ l') : q.atM h l ≤ q.atM h l' := by
  obtain ⟨M, h1, h2⟩ := atM_is hq (h := h) hl
  have := atM_ge hq hl' (h1.mono fun r hr => hs _ hr)
  omega
theorem atM_ms {q : Qu} (hq : q.ok) {h : Int} {l : List Int} (hl : Runs q l) : q.atM h l ≤ q.ms.length := by
  obtain ⟨M, h1, h2⟩ := atM_is hq (h := h) hl
  have hm := hq.m
  have : (4 - q.ms.length) ≤ M.count (-1) := by
    have e : M.drop q.ms.length = List.replicate (4 - q.ms.length) (-1) := by
      rw [List.eq_replicate_iff]
      refine ⟨by rw [List.length_drop, h1.len], fun x hx => ?_⟩
      rcases h1.ok x (List.mem_of_mem_drop hx) with h3 | h3
      · exact h3
      · obtain ⟨m, hm'⟩ := List.mem_iff_getElem?.1 hx
        rw [List.getElem?_drop] at hm'
        obtain ⟨r, rfl⟩ : ∃ r : Nat, x = r := ⟨x.toNat, by omega⟩
        have := (h1.on _ r hm').2.1
        omega
    have h4 : (M.drop q.ms.length).count (-1) = 4 - q.ms.length := by rw [e]; simp
    have h5 : (M.drop q.ms.length).count (-1) ≤ M.count (-1) := List.Sublist.count_le _ (List.drop_sublist _ _)
    omega
  omega
theorem roomM_mono {q : Qu} (hq : q.ok) {l l' : List Int} (hl : Runs q l) (hl' : Runs q l') (hs : ∀ x ∈ l, x ∈ l') : ∀ h, q.roomM l h ≤ q.roomM l' h
  | 0 => Nat.le_refl _
  | h + 1 => by
    have := roomM_mono hq hl hl' hs h
    have := atM_mono hq (h := h) hl hl' hs
    show q.roomM l h + q.atM h l ≤ q.roomM l' h + q.atM h l'
    omega
end Go.Proofs.Ytohhjnpiiackjaa

/-! Layer 10 (queue), the reference: the most runs that may be on machines at an hour. -/
namespace Go.Proofs.Ytohhjnpiiackjaa
open Go.RowKit

set_option maxRecDepth 10000
set_option linter.unusedSimpArgs false

attribute [local simp] AS.exp expG Box.ren AV.map AV.mapL outsOk noRet Site.isRet Box.allS AV.allS AV.allSL retB dropL AS.adds renL outG outOk lentBx inG fnOf lookA List.findIdx?_cons
attribute [local simp] Box.purge Site.isLoc
/-- The next machine gets one of the first i runs of the list, or none. -/
def mostL (q : Qu) (h : Int) (l : List Int) (j : Nat) (rec : List Bool → Nat) (t : List Bool) : Nat → Nat
  | 0 => rec t
  | i + 1 => if (t[((l[i]?).getD 0).toNat]?).getD true = true ∨ q.may ((l[i]?).getD 0).toNat j h = false then mostL q h l j rec t i else max (mostL q h l j rec t i) (1 + rec (t.set ((l[i]?).getD 0).toNat true))
/-- How many runs of a list the last k machines can have, apart from those that are taken. -/
def Qu.mostM (q : Qu) (h : Int) (l : List Int) : Nat → List Bool → Nat
  | 0, _ => 0
  | k + 1, t => mostL q h l (q.ms.length - (k + 1)) (q.mostM h l k) t l.length
theorem mostL_bd {q : Qu} {h : Int} {l : List Int} {j k : Nat} {rec : List Bool → Nat} {t : List Bool} (hr : ∀ t, rec t ≤ k) : ∀ i, mostL q h l j rec t i ≤ k + 1
  | 0 => by have := hr t; unfold mostL; omega
  | i + 1 => by
    have h1 := mostL_bd (q := q) (h := h) (l := l) (j := j) (t := t) hr i
    have h2 := hr (t.set ((l[i]?).getD 0).toNat true)
    unfold mostL
    split <;> omega
theorem mostM_bd {q : Qu} {h : Int} {l : List Int} : ∀ (k : Nat) (t : List Bool), q.mostM h l k t ≤ k
  | 0, _ => Nat.le_refl _
  | k + 1, t => mostL_bd (mostM_bd k) _
theorem bools_set {t : List Bool} {i : Nat} {b : Bool} : (t.map PV.bool).set i (.bool b) = (t.set i b).map PV.bool := by rw [List.map_set]
def MostC (q : Qu) (h : Int) (l : List Int) (k : Nat) : Prop := ∀ t : List Bool, t.length = q.rs.length → CallsA Try.prog 60 [.pv q.pv, .pv (intsP l), .pv (.int .i64 h), .pv (.int .i64 ((q.ms.length - k : Nat) : Int)), .vec (.par 0) 1 0 q.rs.length] [(.par 0, .arr 4 1 (t.map PV.bool))] (fun r B => r = .pv (.int .i64 (q.mostM h l k t)) ∧ B = [(.par 0, .arr 4 1 (t.map PV.bool))])
def mostS (q : Qu) (h : Int) (l : List Int) (j : Nat) (t : List Bool) (b i : Nat) : AS := ⟨[(1, .pv (intsP l)), (2, .pv (.int .i64 h)), (3, .pv (.int .i64 j)), (4, .vec (.par 0) 1 0 q.rs.length), (5, .ptr (.loc 5 0) 0), (11, .pv (.int .i64 b)), (12, .pv (.int .i64 i))], [(.par 0, .arr 4 1 (t.map PV.bool)), (.loc 5 0, .cells q.cells)]⟩
set_option maxHeartbeats 8000000 in
theorem most_c (q : Qu) (hq : q.ok) (h : Int) (l : List Int) (hl : l.length ≤ 1000) (hin : ∀ x ∈ l, 0 ≤ x ∧ x < q.rs.length) : ∀ k, k ≤ q.ms.length → MostC q h l k
  | 0, _ => fun t ht => by
    refine calls_of_awpB [.par 0] mixed L60_ok (Nat.le_of_ble_eq_true rfl) ?_
    simp [-getElem?_pos, L60, Qu.pv, Qu.mostM]
  | k + 1, hk => fun t ht => by
    have ih := most_c q hq h l hl hin k (by omega)
    have hm4 := hq.m
    have hr6 := hq.r
    have hb1 := mostM_bd (q := q) (h := h) (l := l) k
    have hb2 := mostL_bd (q := q) (h := h) (l := l) (j := q.ms.length - (k + 1)) (t := t) hb1
    have hval : q.mostM h l (k + 1) t = mostL q h l (q.ms.length - (k + 1)) (q.mostM h l k) t l.length := rfl
    rw [hval]
    unfold MostC at ih
    obtain ⟨j, hj⟩ : ∃ j, q.ms.length - (k + 1) = j := ⟨_, rfl⟩
    have hj1 : q.ms.length - k = j + 1 := by omega
    rw [hj] at hb2 ⊢
    rw [hj1] at ih
    generalize hR : q.mostM h l k = R at *
    have hjm : ¬ (j : Int) = (q.ms.length : Int) := by omega
    have hwj := wrapS (k := j) (by omega)
    refine calls_of_awpB [.par 0] mixed L60_ok (Nat.le_of_ble_eq_true rfl) ?_
    have hjm2 : ¬ j = q.ms.length := by omega
    have ih0 := ih t ht
    simp [-getElem?_pos, -List.getElem?_map, L60, Qu.pv, hjm, hjm2, hwj]
    refine call_lent (as' := [.pv q.pv, .pv (intsP l), .pv (.int .i64 h), .pv (.int .i64 ((j + 1 : Nat) : Int)), .vec (.par 0) 1 0 q.rs.length]) (B := [(.par 0, .arr 4 1 (t.map PV.bool))]) (fs := []) (cs := []) 24 [.par 0] ?_ rfl rfl ?_ ?_ ?_ ih0 ?_
    · rfl
    · simp
    · simp
    · simp [Qu.pv]
    rintro r0 B0 ⟨rfl, rfl⟩
    refine ⟨rfl, by simp, ?_⟩
    simp [-getElem?_pos, -List.getElem?_map]
    refine awp_loopS (fun n τ => ∃ i : Nat, i ≤ l.length ∧ n = l.length - i ∧ τ = mostS q h l j t (mostL q h l j R t i) i)
      ⟨l.length, mostS q h l j t (mostL q h l j R t 0) 0, Sub.mk (by simp [mostS, mostL]) (by simp [Qu.cells, mostS]), 0, Nat.zero_le _, rfl, rfl⟩ ?_
    rintro J hJ n τ ⟨i, hi, rfl, rfl⟩
    by_cases hlt : i < l.length
    · obtain ⟨x, hx⟩ : ∃ x, l[i]? = some x := ⟨l[i], List.getElem?_eq_getElem hlt⟩
      obtain ⟨hx0, hx1⟩ := hin x (List.mem_of_getElem? hx)
      obtain ⟨r, rfl⟩ : ∃ r : Nat, x = r := ⟨x.toNat, by omega⟩
      have hrl : r < q.rs.length := by omega
      have hg : (l.map intP)[i]? = some (.int .i64 r) := by rw [List.getElem?_map, hx]; rfl
      have hw := wrapS (k := i) (by omega)
      have hmeas : l.length - (i + 1) < l.length - i := by omega
      have hround := hJ _ _ ⟨i + 1, hlt, rfl, rfl⟩
      obtain ⟨b, hb⟩ : ∃ b, t[r]? = some b := ⟨t[r], List.getElem?_eq_getElem (by omega)⟩
      have hgb : (t.map PV.bool)[r]? = some (.bool b) := by rw [List.getElem?_map, hb]; rfl
      have hmay := rmay_c q hq r j h hrl (by omega)
      have hnx : mostL q h l j R t (i + 1) = if b = true ∨ q.may r j h = false then mostL q h l j R t i else max (mostL q h l j R t i) (1 + R (t.set r true)) := by
        rw [mostL, hx]
        simp only [Option.getD_some, Int.toNat_natCast, hb]
      have hrt : r < t.length := by omega
      rw [hnx] at hround
      have hb3 := hb2 i
      clear hJ hnx hval
      generalize mostL q h l j R t i = E at *
      cases b with
      | true =>
        rw [if_pos (.inl rfl)] at hround
        simp [-getElem?_pos, -List.getElem?_map, mostS, intsP, hlt, hg, hgb, hw, ht, hrl, nblt]
        refine ⟨_, _, hmeas, Sub.mk ?_ ?_, hround⟩
        · simp [mostS, intsP]
        · simp [mostS, Qu.cells]
      | false =>
        simp [-getElem?_pos, -List.getElem?_map, mostS, intsP, hlt, hg, hgb, hw, ht, hrl, Qu.cells, nblt]
        refine call_gives (k := 0) (fs := []) (xs := [q.pv, .int .i64 r, .int .i64 j, .int .i64 h]) (cs := []) rfl rfl hmay rfl ?_
        cases hc : q.may r j h with
        | false =>
          rw [if_pos (.inr hc)] at hround
          simp [-getElem?_pos, -List.getElem?_map, hw]
          refine ⟨_, _, hmeas, Sub.mk ?_ ?_, hround⟩
          · simp [mostS, intsP]
          · simp [mostS, Qu.cells]
        | true =>
          rw [if_neg (by rw [hc]; simp)] at hround
          have ih2 := ih (t.set r true) (by simpa using ht)
          have hback : t.set r false = t := by
            apply List.ext_getElem?
            intro j'
            by_cases e : j' = r
            · subst e; rw [List.getElem?_set_self hrt, hb]
            · rw [List.getElem?_set_ne (fun e' => e e'.symm)]
          have hgb2 : ((t.set r true).map PV.bool)[r]? = some (.bool true) := by rw [List.getElem?_map, List.getElem?_set_self hrt]; rfl
          have hb4 := hb1 (t.set r true)
          have hw1 : IntKind.i64.wrap (1 + (R (t.set r true) : Int)) = ((1 + R (t.set r true) : Nat) : Int) := by rw [wrap64 (by omega)]; omega
          simp [-getElem?_pos, -List.getElem?_map, -List.map_set, intsP, hlt, hg, hgb, hw, hwj, ht, hrl, setAt, bools_set, nblt]
          refine call_lent (as' := [.pv q.pv, .pv (intsP l), .pv (.int .i64 h), .pv (.int .i64 ((j + 1 : Nat) : Int)), .vec (.par 0) 1 0 q.rs.length]) (B := [(.par 0, .arr 4 1 ((t.set r true).map PV.bool))]) (fs := []) (cs := []) 62 [.par 0] ?_ rfl rfl ?_ ?_ ?_ ih2 ?_
          · rfl
          · simp
          · simp
          · simp [Qu.pv, intsP]
          rintro r0 B0 ⟨rfl, rfl⟩
          refine ⟨rfl, by simp, ?_⟩
          simp [-getElem?_pos, -List.getElem?_map, -List.map_set, intsP, hlt, hg, hgb2, hw, hw1, ht, hrl, setAt, bools_set, nblt, hback]
          have hmax : (if (E : Int) < 1 + (R (t.set r true) : Int) then 1 + (R (t.set r true) : Int) else (E : Int)) = ((max E (1 + R (t.set r true)) : Nat) : Int) := by split <;> omega
          refine ⟨_, _, hmeas, Sub.mk ?_ ?_, hround⟩
          · simp [mostS, intsP, hmax]
          · simp [mostS, Qu.cells]
    · have he : i = l.length := by omega
      subst he
      simp [-getElem?_pos, -List.getElem?_map, mostS, intsP, Qu.cells]
end Go.Proofs.Ytohhjnpiiackjaa

/-! Layer 10 (queue): the reference's room of some runs is the program's. -/
namespace Go.Proofs.Ytohhjnpiiackjaa
open Go.RowKit

set_option maxRecDepth 10000
set_option linter.unusedSimpArgs false

attribute [local simp] AS.exp expG Box.ren AV.map AV.mapL outsOk noRet Site.isRet Box.allS AV.allS AV.allSL retB dropL AS.adds renL outG outOk lentBx inG fnOf lookA List.findIdx?_cons
attribute [local simp] Box.purge Site.isLoc
theorem mostL_up {q : Qu} {h : Int} {l : List Int} {j : Nat} {rec : List Bool → Nat} {t : List Bool} {n : Nat} : mostL q h l j rec t n ≤ mostL q h l j rec t (n + 1) := by
  show _ ≤ (if _ then _ else _)
  split
  · exact Nat.le_refl _
  · exact Nat.le_max_left _ _
theorem mostL_base {q : Qu} {h : Int} {l : List Int} {j : Nat} {rec : List Bool → Nat} {t : List Bool} : ∀ n, rec t ≤ mostL q h l j rec t n
  | 0 => Nat.le_refl _
  | n + 1 => Nat.le_trans (mostL_base n) mostL_up
theorem mostL_ge {q : Qu} {h : Int} {l : List Int} {j : Nat} {rec : List Bool → Nat} {t : List Bool} {i r : Nat} (hx : l[i]? = some (r : Int)) (ht : t[r]? = some false) (hm : q.may r j h = true) : ∀ n, i < n → 1 + rec (t.set r true) ≤ mostL q h l j rec t n
  | n + 1, hi => by
    by_cases e : i = n
    · subst e
      show _ ≤ (if _ then _ else _)
      rw [hx]
      simp only [Option.getD_some, Int.toNat_natCast, ht]
      rw [if_neg (by rw [hm]; simp)]
      exact Nat.le_max_right _ _
    · exact Nat.le_trans (mostL_ge hx ht hm n (by omega)) mostL_up
/-- What may still be chosen. -/
def Free (l : List Int) (t : List Bool) (r : Nat) : Prop := (r : Int) ∈ l ∧ t[r]? = some false
theorem mostM_ge {q : Qu} (hq : q.ok) {h : Int} {l : List Int} : ∀ k, k ≤ q.ms.length → ∀ (t : List Bool) (w : List Int), Mt q h (Free l t) (q.ms.length - k) w → 4 ≤ q.mostM h l k t + w.count (-1)
  | 0, _, t, w, hw => by
    have := hw.none (fun m r _ h1 h2 => by omega)
    omega
  | k + 1, hk, t, w, hw => by
    have hm4 := hq.m
    obtain ⟨j, hj⟩ : ∃ j, q.ms.length - (k + 1) = j := ⟨_, rfl⟩
    have hj1 : q.ms.length - k = j + 1 := by omega
    have hval : q.mostM h l (k + 1) t = mostL q h l j (q.mostM h l k) t l.length := by rw [← hj]; rfl
    rw [hval]
    rw [hj] at hw
    have hjl : j < w.length := by rw [hw.len]; omega
    have hx : w[j]? = some w[j] := List.getElem?_eq_getElem hjl
    rcases hw.ok _ (List.getElem_mem hjl) with h1 | h1
    · rw [h1] at hx
      have := mostM_ge hq (h := h) (l := l) k (by omega) t w (by rw [hj1]; exact hw.next hx)
      have := mostL_base (q := q) (h := h) (l := l) (j := j) (rec := q.mostM h l k) (t := t) l.length
      omega
    · obtain ⟨r, hr⟩ : ∃ r : Nat, w[j] = r := ⟨w[j].toNat, by omega⟩
      rw [hr] at hx
      obtain ⟨_, _, ⟨o1, o2⟩, o3⟩ := hw.on j r hx
      obtain ⟨i, hi⟩ := List.mem_iff_getElem?.1 o1
      have := mostL_ge (rec := q.mostM h l k) hi o2 o3 l.length (List.getElem?_eq_some_iff.1 hi).1
      have hc := hw.cut hx
      have h2 := mostM_ge hq (h := h) (l := l) k (by omega) (t.set r true) (w.set j (-1)) (by
        rw [hj1]
        exact (hc.mono fun r' hr' => ⟨hr'.1.1, by rw [List.getElem?_set_ne (fun e => hr'.2 e.symm)]; exact hr'.1.2⟩).next (List.getElem?_set_self hjl))
      rw [cnt_set hx] at h2
      omega
theorem mostM_is {q : Qu} (hq : q.ok) {h : Int} {l : List Int} (hin : ∀ x ∈ l, 0 ≤ x ∧ x < q.rs.length) : ∀ k, k ≤ q.ms.length → ∀ t : List Bool, ∃ w, Mt q h (Free l t) (q.ms.length - k) w ∧ q.mostM h l k t + w.count (-1) = 4
  | 0, _, t => ⟨idle4, Mt.idle, by show 0 + _ = _; decide⟩
  | k + 1, hk, t => by
    have hm4 := hq.m
    obtain ⟨j, hj⟩ : ∃ j, q.ms.length - (k + 1) = j := ⟨_, rfl⟩
    have hj1 : q.ms.length - k = j + 1 := by omega
    have hval : q.mostM h l (k + 1) t = mostL q h l j (q.mostM h l k) t l.length := by rw [← hj]; rfl
    rw [hval, hj]
    have ih := mostM_is hq (h := h) hin k (by omega)
    rw [hj1] at ih
    have step : ∀ n, n ≤ l.length → ∃ w, Mt q h (Free l t) j w ∧ mostL q h l j (q.mostM h l k) t n + w.count (-1) = 4 := by
      intro n
      induction n with
      | zero =>
          intro _
          obtain ⟨w, h1, h2⟩ := ih t
          exact ⟨w, h1.down, h2⟩
      | succ n ihn =>
          intro hn
          obtain ⟨w0, k1, k2⟩ := ihn (by omega)
          have hx : l[n]? = some l[n] := List.getElem?_eq_getElem (by omega)
          have hr0 := hin _ (List.mem_of_getElem? hx)
          obtain ⟨r, hr⟩ : ∃ r : Nat, l[n] = r := ⟨l[n].toNat, by omega⟩
          rw [hr] at hx
          have hst : mostL q h l j (q.mostM h l k) t (n + 1) = if (t[r]?).getD true = true ∨ q.may r j h = false then mostL q h l j (q.mostM h l k) t n else max (mostL q h l j (q.mostM h l k) t n) (1 + q.mostM h l k (t.set r true)) := by
            rw [mostL, hx]
            simp only [Option.getD_some, Int.toNat_natCast]
          rw [hst]
          split
          · exact ⟨w0, k1, k2⟩
          · rename_i hc
            rw [not_or] at hc
            have ht : t[r]? = some false := by
              cases e : t[r]? with
              | none => rw [e] at hc; exact absurd rfl hc.1
              | some b => cases b; rfl; rw [e] at hc; exact absurd rfl hc.1
            have hm : q.may r j h = true := by simpa using hc.2
            rcases Nat.le_total (1 + q.mostM h l k (t.set r true)) (mostL q h l j (q.mostM h l k) t n) with h1 | h1
            · rw [Nat.max_eq_left h1]
              exact ⟨w0, k1, k2⟩
            · rw [Nat.max_eq_right h1]
              obtain ⟨w, a1, a2⟩ := ih (t.set r true)
              have hjl : j < w.length := by rw [a1.len]; omega
              have hwj : w[j]? = some (-1) := by
                rcases a1.ok _ (List.getElem_mem hjl) with h3 | h3
                · rw [List.getElem?_eq_getElem hjl, h3]
                · obtain ⟨r', hr'⟩ : ∃ r' : Nat, w[j] = r' := ⟨w[j].toNat, by omega⟩
                  have := (a1.on j r' (by rw [List.getElem?_eq_getElem hjl, hr'])).1
                  omega
              refine ⟨w.set j r, a1.down.put (Nat.le_refl _) (by omega) hm ⟨List.mem_of_getElem? hx, ht⟩ (fun r' hr' => ?_), ?_⟩
              · have hne : r' ≠ r := fun e => by
                  have h4 := hr'.2
                  rw [e, List.getElem?_set_self (List.getElem?_eq_some_iff.1 ht).1] at h4
                  cases h4
                refine ⟨⟨hr'.1, ?_⟩, hne⟩
                have h4 := hr'.2
                rwa [List.getElem?_set_ne (fun e => hne e.symm)] at h4
              · have := cnt_put (run := r) hwj
                omega
    exact step l.length (Nat.le_refl _)
def noB (q : Qu) : List Bool := List.replicate q.rs.length false
theorem most_is {q : Qu} (hq : q.ok) {h : Int} {l : List Int} (hl : Runs q l) : q.mostM h l q.ms.length (noB q) = q.atM h l := by
  have hf : ∀ r : Nat, Free l (noB q) r ↔ (r : Int) ∈ l := fun r => ⟨fun h => h.1, fun h => ⟨h, by
    have := hl.inn _ h
    unfold noB
    rw [List.getElem?_replicate, if_pos (by omega)]⟩⟩
  obtain ⟨w, h1, h2⟩ := mostM_is hq (h := h) hl.inn q.ms.length (Nat.le_refl _) (noB q)
  obtain ⟨M, h3, h4⟩ := atM_is hq (h := h) hl
  rw [Nat.sub_self] at h1
  have h5 := atM_ge hq hl (h1.mono fun r hr => (hf r).1 hr)
  have h6 := mostM_ge hq (h := h) (l := l) q.ms.length (Nat.le_refl _) (noB q) M (by rw [Nat.sub_self]; exact h3.mono fun r hr => (hf r).2 hr)
  omega
def Qu.rroomM (q : Qu) (l : List Int) : Nat → Nat
  | 0 => 0
  | h + 1 => q.rroomM l h + q.mostM h l q.ms.length (noB q)
theorem rroom_is {q : Qu} (hq : q.ok) {l : List Int} (hl : Runs q l) : ∀ h, q.rroomM l h = q.roomM l h
  | 0 => rfl
  | h + 1 => by
    show q.rroomM l h + _ = q.roomM l h + _
    rw [rroom_is hq hl h, most_is hq hl]
theorem rroom_bd {q : Qu} (hq : q.ok) {l : List Int} : ∀ h, q.rroomM l h ≤ 4 * h
  | 0 => Nat.le_refl _
  | h + 1 => by
    have h1 := rroom_bd hq (l := l) h
    have h2 := mostM_bd (q := q) (h := h) (l := l) q.ms.length (noB q)
    have := hq.m
    show q.rroomM l h + _ ≤ _
    omega
set_option maxHeartbeats 4000000 in
theorem rroom_c (q : Qu) (hq : q.ok) (l : List Int) (hl : l.length ≤ 1000) (hin : ∀ x ∈ l, 0 ≤ x ∧ x < q.rs.length) (u : Nat) (hu : u ≤ 100) : Gives Try.prog 25 [q.pv, intsP l, .int .i64 u] (.int .i64 (q.rroomM l u)) := by
  have hqr := hq.r
  refine calls_of_awpS mixed L25_ok (Nat.le_of_ble_eq_true rfl) ?_
  have hR6 : q.rs.length ≤ 1000000 := by omega
  simp [-getElem?_pos, L25, Qu.pv]
  refine awp_loopS (fun n τ => ∃ k : Nat, k ≤ u ∧ n = u - k ∧ τ = ⟨[(1, .pv (intsP l)), (2, .pv (.int .i64 u)), (3, .ptr (.loc 3 0) 0), (7, .pv (.int .i64 (q.rroomM l k))), (8, .pv (.int .i64 k))], [(.loc 3 0, .cells q.cells)]⟩)
    ⟨u, ⟨[(1, .pv (intsP l)), (2, .pv (.int .i64 u)), (3, .ptr (.loc 3 0) 0), (7, .pv (.int .i64 0)), (8, .pv (.int .i64 0))], [(.loc 3 0, .cells q.cells)]⟩, Sub.mk (by simp) (by simp [Qu.cells]), 0, Nat.zero_le _, rfl, rfl⟩ ?_
  rintro J hJ n τ ⟨k, hk, rfl, rfl⟩
  by_cases hlt : k < u
  · have hw := wrapS (k := k) (by omega)
    have hmeas : u - (k + 1) < u - k := by omega
    have hround := hJ _ _ ⟨k + 1, hlt, rfl, rfl⟩
    have hmo := most_c q hq k l hl hin q.ms.length (Nat.le_refl _) (noB q) (by simp [noB])
    rw [Nat.sub_self] at hmo
    have hb := rroom_bd hq (l := l) (k + 1)
    have hst : q.rroomM l (k + 1) = q.rroomM l k + q.mostM k l q.ms.length (noB q) := rfl
    have hno : (noB q).map PV.bool = List.replicate q.rs.length (.bool false) := by simp [noB]
    rw [hno] at hmo
    clear hJ hno
    generalize q.rroomM l (k + 1) = E2 at *
    subst hst
    generalize q.rroomM l k = E at *
    generalize q.mostM k l q.ms.length (noB q) = A at *
    have hw2 : IntKind.i64.wrap ((E : Int) + (A : Int)) = (E : Int) + (A : Int) := wrap64 (by omega)
    simp [-getElem?_pos, Qu.cells, hlt, nble, hR6]
    refine call_lent (as' := [.pv q.pv, .pv (intsP l), .pv (.int .i64 k), .pv (.int .i64 ((0 : Nat) : Int)), .vec (.par 0) 1 0 q.rs.length]) (B := [(.par 0, .arr 4 1 (List.replicate q.rs.length (.bool false)))]) (fs := []) (cs := []) 22 [.loc 21 0] ?_ rfl rfl ?_ ?_ ?_ hmo ?_
    · rfl
    · simp
    · simp
    · simp [Qu.pv]
    rintro r0 B0 ⟨rfl, rfl⟩
    refine ⟨rfl, by simp, ?_⟩
    simp [-getElem?_pos, hw, hw2]
    refine ⟨_, _, hmeas, Sub.mk ?_ ?_, hround⟩
    · simp
    · simp [Qu.cells]
  · have he : k = u := by omega
    subst he
    simp [-getElem?_pos, Qu.cells]
end Go.Proofs.Ytohhjnpiiackjaa

/-! Layer 10 (queue): the law QueueRooms. -/
namespace Go.Proofs.Ytohhjnpiiackjaa
open Go.RowKit

set_option maxRecDepth 10000
set_option linter.unusedSimpArgs false

attribute [local simp] AS.exp expG Box.ren AV.map AV.mapL outsOk noRet Site.isRet Box.allS AV.allS AV.allSL retB dropL AS.adds renL outG outOk lentBx inG fnOf lookA List.findIdx?_cons
attribute [local simp] Box.purge Site.isLoc
attribute [local simp] retFz frzL AS.frz AV.frz AV.frzL Box.frz AS.tidy AS.frzC
/-- Rising numbers of runs are those of runs, each once. -/
theorem Runs.of_rising {q : Qu} {l : List Int} (h : q.rising l = true) : Runs q l := by
  refine ⟨Qu.rising_in h, ?_⟩
  have hs : ∀ i : Nat, i + 1 < l.length → ∀ x y : Int, l[i]? = some x → l[i + 1]? = some y → x < y := fun i hi x y hx hy => by
    simp only [Qu.rising, List.all_eq_true, List.mem_range] at h
    have := h (i + 1) hi
    simp only [Qu.risAt, hx, hy, Option.getD_some, Bool.and_eq_true, Bool.or_eq_true, decide_eq_true_eq, Nat.add_sub_cancel] at this
    omega
  have hm : ∀ d i : Nat, ∀ x y : Int, l[i]? = some x → l[i + d + 1]? = some y → x < y := by
    intro d
    induction d with
    | zero => exact fun i x y hx hy => hs i (List.getElem?_eq_some_iff.1 hy).1 x y hx hy
    | succ d ih =>
        intro i x y hx hy
        have hl := (List.getElem?_eq_some_iff.1 hy).1
        have hz : l[i + d + 1]? = some l[i + d + 1] := List.getElem?_eq_getElem (by omega)
        have h1 := ih i x _ hx hz
        have h2 := hs (i + d + 1) (by omega) _ y hz (by rw [← hy]; congr 1)
        omega
  intro i j r hi hj
  rcases Nat.lt_trichotomy i j with h1 | h1 | h1
  · obtain ⟨d, rfl⟩ : ∃ d, j = i + d + 1 := ⟨j - i - 1, by omega⟩
    have := hm d i _ _ hi hj
    omega
  · exact h1
  · obtain ⟨d, rfl⟩ : ∃ d, i = j + d + 1 := ⟨i - j - 1, by omega⟩
    have := hm d j _ _ hj hi
    omega
set_option maxHeartbeats 4000000 in
theorem rooms_law (q : Qu) (l : List Int) (u : Int) : Gives Try.prog 3 [q.pv, intsP l, .int .i64 u] (.bool true) := by
  have hw := wakes_c
  refine calls_of_awpS mixed L3_ok (Nat.le_of_ble_eq_true rfl) ?_
  simp [-getElem?_pos, L3, Qu.pv]
  refine call_gives (k := 0) (fs := []) (xs := [q.pv]) (cs := []) rfl rfl (thin_c q) rfl ?_
  by_cases ht : q.thin = true
  case neg =>
    simp [-getElem?_pos, ht]
    refine call_gives (k := 0) (fs := []) (xs := []) (cs := []) rfl rfl hw rfl ?_
    simp [-getElem?_pos]
  by_cases hl : l.length ≤ 10
  case neg =>
    have hl2 : (10 : Int) < (l.length : Int) := by omega
    have hl3 : 10 < l.length := by omega
    simp [-getElem?_pos, ht, intsP, hl2, hl3]
    refine call_gives (k := 0) (fs := []) (xs := []) (cs := []) rfl rfl hw rfl ?_
    simp [-getElem?_pos]
  have hs := Qu.small_of ht
  have h1 := hs.m
  have h2 := hs.r
  have h3 : ∀ l ∈ q.ms, l.length ≤ 1000 := fun l h => by have := hs.s l h; omega
  have h36 : ∀ l ∈ q.ms, l.length ≤ 1000000 := fun l h => by have := hs.s l h; omega
  have h4 : ∀ r ∈ q.rs, r.on.length ≤ 1000 := fun l h => by have := hs.f l h; omega
  have hl2 : ¬ (10 : Int) < (l.length : Int) := by omega
  have hl3 : ¬ 10 < l.length := by omega
  have hqc := queue_c q (by omega) (by omega) h3 h4
  have hli := list_c l (by omega)
  have hch := check_c q (by omega) (by omega) h36
  have hfa := lfault_c q (by omega) (by omega) h36
  have hro := Room_c q hs l (by omega) u
  have hri := rising_c q (by omega) l (by omega)
  have hin := in_c u 0 40
  have hmu : (decide (0 ≤ u) && decide (u ≤ 40)) = manyB u := rfl
  rw [hmu] at hin
  unfold Qu.roomP at hro
  obtain ⟨E, hE⟩ : ∃ E, E = q.roomErr l u := ⟨_, rfl⟩
  rw [← hE] at hro
  unfold Qu.roomErr at hE
  simp [-getElem?_pos, ht, intsP, hl2, hl3]
  refine .inl (call_pv [] (fs := []) (xs := [q.pv]) (cs := []) rfl rfl hqc ?_)
  simp [-getElem?_pos, frzsL]
  refine .inl (call_pv [] (fs := []) (xs := [q.pv]) (cs := []) rfl rfl hch ?_)
  simp [-getElem?_pos, frzsL]
  refine .inl (call_pv [] (fs := []) (xs := [q.pv]) (cs := []) rfl rfl hqc ?_)
  simp [-getElem?_pos, frzsL]
  refine .inl (call_pv [] (fs := []) (xs := [intsP l]) (cs := []) rfl rfl hli ?_)
  simp [-getElem?_pos, frzsL]
  refine .inl (call_pv [] (fs := []) (xs := [q.pv, intsP l, .int .i64 u]) (cs := []) rfl rfl hro ?_)
  clear hro hli hch
  by_cases hc : q.check = 0
  case neg =>
    rw [if_pos hc] at hE
    subst hE
    simp [-getElem?_pos, frzsL, hc]
    refine .inl (call_pv [] (fs := []) (xs := [q.pv]) (cs := []) rfl rfl hfa ?_)
    simp [-getElem?_pos, frzsL, hc]
    refine .inl (call_pv [] (fs := []) (xs := []) (cs := []) rfl rfl hw ?_)
    simp [-getElem?_pos, frzsL]
  have hq := Qu.ok_of hc
  rw [hc] at hfa
  rw [if_neg (by rw [hc]; simp)] at hE
  cases hris : q.rising l with
  | false =>
    rw [hris] at hri
    rw [hris, if_neg (by simp)] at hE
    subst hE
    simp [-getElem?_pos, frzsL, hc]
    refine .inl (call_pv [] (fs := []) (xs := [q.pv]) (cs := []) rfl rfl hfa ?_)
    simp [-getElem?_pos, frzsL, hc]
    refine .inl (call_pv [] (fs := []) (xs := [q.pv, intsP l]) (cs := []) rfl rfl hri ?_)
    simp [-getElem?_pos, frzsL, hc]
    refine .inl (call_pv [] (fs := []) (xs := []) (cs := []) rfl rfl hw ?_)
    simp [-getElem?_pos, frzsL, hc]
  | true =>
    have hR := Runs.of_rising hris
    rw [hris] at hri
    cases hm : manyB u with
    | false =>
      rw [hm] at hin
      rw [hris, hm, if_neg (by simp)] at hE
      subst hE
      simp [-getElem?_pos, frzsL, hc]
      refine .inl (call_pv [] (fs := []) (xs := [q.pv]) (cs := []) rfl rfl hfa ?_)
      simp [-getElem?_pos, frzsL, hc]
      refine .inl (call_pv [] (fs := []) (xs := [q.pv, intsP l]) (cs := []) rfl rfl hri ?_)
      simp [-getElem?_pos, frzsL, hc]
      refine .inl (call_pv [] (fs := []) (xs := [.int .i64 u, .int .i64 0, .int .i64 40]) (cs := []) rfl rfl hin ?_)
      simp [-getElem?_pos, frzsL, hc]
      refine .inl (call_pv [] (fs := []) (xs := []) (cs := []) rfl rfl hw ?_)
      simp [-getElem?_pos, frzsL, hc]
    | true =>
      rw [hm] at hin
      rw [hris, hm, if_pos ⟨rfl, rfl⟩] at hE
      subst hE
      have hu : 0 ≤ u ∧ u ≤ 40 := by simpa [manyB] using hm
      obtain ⟨n, rfl⟩ : ∃ n : Nat, u = n := ⟨u.toNat, by omega⟩
      have hrr := rroom_c q hq l (by omega) hR.inn n (by omega)
      rw [rroom_is hq hR] at hrr
      simp only [Int.toNat_natCast]
      simp [-getElem?_pos, frzsL, hc]
      refine .inl (call_pv [] (fs := []) (xs := [q.pv]) (cs := []) rfl rfl hfa ?_)
      simp [-getElem?_pos, frzsL, hc]
      refine .inl (call_pv [] (fs := []) (xs := [q.pv, intsP l]) (cs := []) rfl rfl hri ?_)
      simp [-getElem?_pos, frzsL, hc]
      refine .inl (call_pv [] (fs := []) (xs := [.int .i64 n, .int .i64 0, .int .i64 40]) (cs := []) rfl rfl hin ?_)
      simp [-getElem?_pos, frzsL, hc]
      refine .inl (call_pv [] (fs := []) (xs := [q.pv, intsP l, .int .i64 n]) (cs := []) rfl rfl hrr ?_)
      simp [-getElem?_pos, frzsL, hc]
      refine .inl (call_pv [] (fs := []) (xs := []) (cs := []) rfl rfl hw ?_)
      simp [-getElem?_pos, frzsL, hc]
end Go.Proofs.Ytohhjnpiiackjaa
