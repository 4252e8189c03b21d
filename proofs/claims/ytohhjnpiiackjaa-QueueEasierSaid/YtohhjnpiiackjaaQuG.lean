/- Layer 10 (queue), plain law: what a search for a machine does to who is on the machines. (Several texts in one.) -/
import Derived.Test.YtohhjnpiiackjaaQuC
set_option linter.unusedVariables false
set_option linter.unusedSimpArgs false
/-! Layer 10 (queue), plain law: what a search for a machine does to who is on the machines. -/
namespace Go.Proofs.Ytohhjnpiiackjaa
open Go.RowKit
set_option linter.unusedSimpArgs false
theorem set_perm {w : List Int} {m : Nat} {x y : Int} (h : w[m]? = some x) : (x :: w.set m y).Perm (y :: w) := by
  induction w generalizing m with
  | nil => simp at h
  | cons a r ih =>
    cases m with
    | zero =>
      simp at h; subst h
      simp only [List.set_cons_zero]
      exact List.Perm.swap y a r
    | succ m =>
      have h' : r[m]? = some x := by simpa using h
      simp only [List.set_cons_succ]
      exact (List.Perm.swap a x _).trans (((ih h').cons a).trans (List.Perm.swap y a r))
/-- What a search says that began so. -/
structure Said (q : Qu) (h : Int) (run : Nat) (ms : List Nat) (t : List Bool) (w : List Int) (g : GR) : Prop where
  up : ∀ m : Nat, t[m]? = some true → g.1[m]? = some true
  same : ∀ m : Nat, t[m]? = some true → g.2.1[m]? = w[m]?
  yes : g.2.2 = true → (-1 :: g.2.1).Perm ((run : Int) :: w)
  no : g.2.2 = false → g.2.1 = w ∧ (∀ m ∈ ms, g.1[m]? = some true) ∧ ∀ m : Nat, g.1[m]? = some true → t[m]? = some false → ∃ r : Nat, w[m]? = some (r : Int) ∧ ∀ m' ∈ q.macs r h q.ms.length, g.1[m']? = some true
theorem set_true {t : List Bool} {m m' : Nat} (h : t[m']? = some true) : (t.set m true)[m']? = some true := by
  by_cases e : m' = m
  · subst e
    rw [List.getElem?_set_self (List.getElem?_eq_some_iff.1 h).1]
  · rw [List.getElem?_set_ne (fun e' => e e'.symm)]; exact h
theorem ne_of_tried {t : List Bool} {m m' : Nat} (h : t[m]? = some false) (h' : t[m']? = some true) : m ≠ m' := fun e => by subst e; rw [h] at h'; cases h'
theorem loopG_said {q : Qu} {h : Int} {rec : Nat → List Bool → List Int → GR} {n : Nat}
    (hok : ∀ run t w, run < q.rs.length → GW q t w → GW q (rec run t w).1 (rec run t w).2.1 ∧ unt (rec run t w).1 ≤ unt t)
    (hrec : ∀ r t w, r < q.rs.length → GW q t w → unt t ≤ n → Said q h r (q.macs r h q.ms.length) t w (rec r t w)) {run : Nat} (hr : run < q.rs.length) :
    ∀ (l : List Nat), (∀ m ∈ l, m < 4) → ∀ (t : List Bool) (w : List Int), GW q t w → unt t ≤ n + 1 → Said q h run l t w (loopG rec run l t w)
  | [], _, t, w, _, _ => ⟨fun _ h => h, fun _ _ => rfl, fun h => (by cases h), fun _ => ⟨rfl, fun m hm => (by cases hm), fun m h1 h2 => by rw [show (loopG rec run [] t w).1 = t from rfl, h2] at h1; cases h1⟩⟩
  | m :: r, hl, t, w, hw, hu => by
    obtain ⟨b, x, h1, h2, h3⟩ := hw.at (hl m (by simp))
    have hl' : ∀ m ∈ r, m < 4 := fun m hm => hl m (by simp [hm])
    unfold loopG
    rw [h1, h2]
    simp only [Option.getD_some]
    cases b with
    | true =>
      rw [if_pos rfl]
      have S := loopG_said hok hrec hr r hl' t w hw hu
      exact ⟨S.up, S.same, S.yes, fun h0 => ⟨(S.no h0).1, fun m' hm' => by
        rcases List.mem_cons.1 hm' with e | e
        · subst e; exact S.up _ h1
        · exact (S.no h0).2.1 m' e, (S.no h0).2.2⟩⟩
    | false =>
      rw [if_neg (by simp)]
      have hu' := unt_set h1
      have hm4 : m < t.length := (List.getElem?_eq_some_iff.1 h1).1
      have hset : (t.set m true)[m]? = some true := List.getElem?_set_self hm4
      split
      · rename_i hx
        subst hx
        exact ⟨fun m' h' => set_true h', fun m' h' => by
          show (w.set m run)[m']? = _
          rw [List.getElem?_set_ne (ne_of_tried h1 h')], fun _ => set_perm h2, fun h0 => by cases h0⟩
      · rename_i hx
        obtain ⟨i, rfl⟩ : ∃ i : Nat, x = i := ⟨x.toNat, by rcases h3 with h3 | h3; exact absurd h3 hx; omega⟩
        have hi : i < q.rs.length := by rcases h3 with h3 | h3; exact absurd h3 hx; omega
        simp only [Int.toNat_natCast]
        have S := hrec i (t.set m true) w hi (hw.set m) (by omega)
        obtain ⟨k1, k2⟩ := hok i (t.set m true) w hi (hw.set m)
        generalize rec i (t.set m true) w = g at *
        obtain ⟨t', w', b'⟩ := g
        simp only at *
        split
        · rename_i hb
          subst hb
          have hsm : w'[m]? = some (i : Int) := (S.same m hset).trans h2
          refine ⟨fun m' h' => S.up m' (set_true h'), fun m' h' => ?_, fun _ => ?_, fun h0 => by cases h0⟩
          · show (w'.set m run)[m']? = _
            rw [List.getElem?_set_ne (ne_of_tried h1 h')]
            exact S.same m' (set_true h')
          · have p1 := set_perm (y := (run : Int)) hsm
            have p2 := S.yes rfl
            show (-1 :: w'.set m run).Perm _
            refine List.Perm.cons_inv (a := (i : Int)) ?_
            exact (List.Perm.swap _ _ _).trans ((p1.cons (-1)).trans ((List.Perm.swap _ _ _).trans ((p2.cons _).trans (List.Perm.swap _ _ _))))
        · rename_i hb
          have hb' : b' = false := by cases b'; rfl; exact absurd rfl hb
          subst hb'
          obtain ⟨n1, n2, n3⟩ := S.no rfl
          subst n1
          have T := loopG_said hok hrec hr r hl' t' w' k1 (by omega)
          refine ⟨fun m' h' => T.up m' (S.up m' (set_true h')), fun m' h' => T.same m' (S.up m' (set_true h')), T.yes, fun h0 => ?_⟩
          obtain ⟨o1, o2, o3⟩ := T.no h0
          refine ⟨o1, fun m' hm' => ?_, fun m' h1' h2' => ?_⟩
          · rcases List.mem_cons.1 hm' with e | e
            · subst e; exact T.up _ (S.up _ hset)
            · exact o2 m' e
          · have hm' : m' < t'.length := by rw [k1.t4, ← hw.t4]; exact (List.getElem?_eq_some_iff.1 h2').1
            cases ht' : t'[m'] with
            | false => exact o3 m' h1' (by rw [List.getElem?_eq_getElem hm', ht'])
            | true =>
              have ht2 : t'[m']? = some true := by rw [List.getElem?_eq_getElem hm', ht']
              by_cases e : m' = m
              · subst e
                exact ⟨i, h2, fun m2 hm2 => T.up _ (n2 m2 hm2)⟩
              · obtain ⟨r0, e1, e2⟩ := n3 m' ht2 (by rw [List.getElem?_set_ne (fun e' => e e'.symm)]; exact h2')
                exact ⟨r0, e1, fun m2 hm2 => T.up _ (e2 m2 hm2)⟩
theorem unt_all {t : List Bool} (h : unt t = 0) {m : Nat} (hm : m < t.length) : t[m]? = some true := by
  have : ∀ b ∈ t, b ≠ false := fun b hb e => by
    subst e
    have := List.count_pos_iff.2 hb
    unfold unt at h; omega
  have h2 := this t[m] (List.getElem_mem hm)
  rw [List.getElem?_eq_getElem hm]
  cases hh : t[m]
  · rw [hh] at h2; exact absurd rfl h2
  · rfl
theorem giveM_said {q : Qu} (hq : q.ok) (h : Int) : ∀ (n run : Nat) (t : List Bool) (w : List Int), run < q.rs.length → GW q t w → unt t ≤ n → Said q h run (q.macs run h q.ms.length) t w (q.giveM h n run t w)
  | 0, run, t, w, _, hw, hu => ⟨fun _ h => h, fun _ _ => rfl, fun h => (by cases h), fun _ => ⟨rfl, fun m hm => unt_all (t := t) (Nat.le_zero.1 hu) (by have := macs_lt hq m hm; have := hq.m; rw [hw.t4]; omega), fun m h1 h2 => by rw [show (q.giveM h 0 run t w).1 = t from rfl, h2] at h1; cases h1⟩⟩
  | n + 1, run, t, w, hr, hw, hu => loopG_said (n := n) (fun run t w hr hw => giveM_ok hq h n run t w hr hw) (fun r t w hr hw hu => giveM_said hq h n r t w hr hw hu) hr _ (fun m hm => by have := macs_lt hq m hm; have := hq.m; omega) t w hw hu
end Go.Proofs.Ytohhjnpiiackjaa
/-! Layer 10 (queue), plain law: the search gives as many runs machines at an hour as can be. -/
namespace Go.Proofs.Ytohhjnpiiackjaa
open Go.RowKit
set_option linter.unusedSimpArgs false
theorem mem_macs {q : Qu} {i : Nat} {h : Int} {m : Nat} : m ∈ q.macs i h q.ms.length ↔ m < q.ms.length ∧ q.may i m h = true := by
  unfold Qu.macs
  rw [List.take_of_length_le (by simp)]
  simp [List.mem_filter, List.mem_range]
/-- Who is on the machines, from one on: some runs, each once, each where it may be. -/
structure Mt (q : Qu) (h : Int) (P : Nat → Prop) (j : Nat) (w : List Int) : Prop where
  len : w.length = 4
  ok : ∀ x ∈ w, x = -1 ∨ 0 ≤ x
  on : ∀ m r : Nat, w[m]? = some (r : Int) → j ≤ m ∧ m < q.ms.length ∧ P r ∧ q.may r m h = true
  one : ∀ m m' r : Nat, w[m]? = some (r : Int) → w[m']? = some (r : Int) → m = m'
def OnOk (q : Qu) (h : Int) (w : List Int) : Prop := ∀ m r : Nat, w[m]? = some (r : Int) → m ∈ q.macs r h q.ms.length
theorem OnOk.set {q : Qu} {h : Int} {w : List Int} (hw : OnOk q h w) {m run : Nat} (hm : m ∈ q.macs run h q.ms.length) : OnOk q h (w.set m run) := by
  intro m' r e
  rw [List.getElem?_set] at e
  split at e
  · rename_i e1
    split at e
    · have h1 : (run : Int) = r := by simpa using e
      have h2 : run = r := by omega
      subst h2; subst e1; exact hm
    · cases e
  · exact hw m' r e
theorem loopG_on {q : Qu} {h : Int} {rec : Nat → List Bool → List Int → GR} (hrec : ∀ r t w, OnOk q h w → OnOk q h (rec r t w).2.1) {run : Nat} : ∀ (l : List Nat), (∀ m ∈ l, m ∈ q.macs run h q.ms.length) → ∀ (t : List Bool) (w : List Int), OnOk q h w → OnOk q h (loopG rec run l t w).2.1
  | [], _, t, w, hw => hw
  | m :: r, hl, t, w, hw => by
    have hm := hl m (by simp)
    have hl' : ∀ m ∈ r, m ∈ q.macs run h q.ms.length := fun m hm => hl m (by simp [hm])
    unfold loopG
    split
    · exact loopG_on hrec r hl' t w hw
    · split
      · exact hw.set hm
      · split
        · exact (hrec _ _ _ hw).set hm
        · exact loopG_on hrec r hl' _ _ (hrec _ _ _ hw)
theorem giveM_on {q : Qu} {h : Int} : ∀ (n run : Nat) (t : List Bool) (w : List Int), OnOk q h w → OnOk q h (q.giveM h n run t w).2.1
  | 0, run, t, w, hw => hw
  | n + 1, run, t, w, hw => loopG_on (fun r t w hw => giveM_on n r t w hw) _ (fun m hm => hm) t w hw
theorem cnt1 {l : List Int} {x : Int} : l.count x ≤ 1 ↔ ∀ m m' : Nat, l[m]? = some x → l[m']? = some x → m = m' := by
  induction l with
  | nil => simp
  | cons a l ih =>
    rw [List.count_cons]
    constructor
    · intro hc m m' e e'
      have hl : ∀ k : Nat, l[k]? = some x → 1 ≤ l.count x := fun k hk => List.count_pos_iff.2 (List.mem_of_getElem? hk)
      cases m with
      | zero =>
        cases m' with
        | zero => rfl
        | succ m' =>
          have ha : a = x := by simpa using e
          have h2 := hl m' (by simpa using e')
          rw [if_pos (by simp [ha])] at hc
          omega
      | succ m =>
        cases m' with
        | zero =>
          have ha : a = x := by simpa using e'
          have h2 := hl m (by simpa using e)
          rw [if_pos (by simp [ha])] at hc
          omega
        | succ m' =>
          have := ih.1 (by omega) m m' (by simpa using e) (by simpa using e')
          omega
    · intro hi
      have h1 := ih.2 fun m m' e e' => by have := hi (m + 1) (m' + 1) (by simpa using e) (by simpa using e'); omega
      by_cases ha : a = x
      · have : l.count x = 0 := by
          rcases Nat.eq_zero_or_pos (l.count x) with h0 | h0
          · exact h0
          · obtain ⟨k, hk⟩ := List.mem_iff_getElem?.1 (List.count_pos_iff.1 h0)
            have := hi 0 (k + 1) (by simpa using ha) (by simpa using hk)
            omega
        rw [this]; split <;> omega
      · rw [if_neg (by simpa using ha)]; omega
theorem cnt_mono {A B : List Int} (hl : A.length = B.length) (h : ∀ m : Nat, A[m]? = some (-1) → B[m]? = some (-1)) : A.count (-1) ≤ B.count (-1) := by
  induction A generalizing B with
  | nil => simp
  | cons a A ih =>
    cases B with
    | nil => simp at hl
    | cons b B =>
      have h1 := ih (B := B) (by simpa using hl) fun m e => by have := h (m + 1) (by simpa using e); simpa using this
      rw [List.count_cons, List.count_cons]
      by_cases ha : a = -1
      · have hb : b = -1 := by have := h 0 (by simpa using ha); simpa using this
        rw [if_pos (by simp [ha]), if_pos (by simp [hb])]; omega
      · rw [if_neg (by simpa using ha)]; omega
theorem Mt.mono {q : Qu} {h : Int} {P P' : Nat → Prop} {j : Nat} {w : List Int} (hw : Mt q h P j w) (hP : ∀ r, P r → P' r) : Mt q h P' j w :=
  ⟨hw.len, hw.ok, fun m r e => ⟨(hw.on m r e).1, (hw.on m r e).2.1, hP _ (hw.on m r e).2.2.1, (hw.on m r e).2.2.2⟩, hw.one⟩
theorem Mt.next {q : Qu} {h : Int} {P : Nat → Prop} {j : Nat} {w : List Int} (hw : Mt q h P j w) (hj : w[j]? = some (-1)) : Mt q h P (j + 1) w :=
  ⟨hw.len, hw.ok, fun m r e => ⟨by
    have := (hw.on m r e).1
    have hne : m ≠ j := fun e' => by subst e'; rw [hj] at e; have := Option.some.inj e; omega
    omega, (hw.on m r e).2⟩, hw.one⟩
theorem Mt.cut {q : Qu} {h : Int} {P : Nat → Prop} {j : Nat} {w : List Int} (hw : Mt q h P j w) {m run : Nat} (hm : w[m]? = some (run : Int)) : Mt q h (fun r => P r ∧ r ≠ run) j (w.set m (-1)) := by
  have key : ∀ m' r : Nat, (w.set m (-1))[m']? = some (r : Int) → w[m']? = some (r : Int) ∧ m' ≠ m := fun m' r e => by
    rw [List.getElem?_set] at e
    split at e
    · split at e
      · have := Option.some.inj e; omega
      · cases e
    · rename_i hne; exact ⟨e, fun e' => hne e'.symm⟩
  refine ⟨by simpa using hw.len, fun x hx => ?_, fun m' r e => ?_, fun m1 m2 r e1 e2 => hw.one m1 m2 r (key m1 r e1).1 (key m2 r e2).1⟩
  · rcases List.mem_or_eq_of_mem_set hx with hx | hx
    · exact hw.ok x hx
    · exact .inl hx
  · obtain ⟨e1, e2⟩ := key m' r e
    obtain ⟨o1, o2, o3, o4⟩ := hw.on m' r e1
    exact ⟨o1, o2, ⟨o3, fun e' => by subst e'; exact e2 (hw.one _ _ _ e1 hm)⟩, o4⟩
theorem Mt.put {q : Qu} {h : Int} {P P' : Nat → Prop} {i j : Nat} {w : List Int} (hw : Mt q h P i w) {x : Nat} (hij : i ≤ j) (hj : j < q.ms.length) (hx : q.may x j h = true) (hP : P' x) (hPP : ∀ r, P r → P' r ∧ r ≠ x) : Mt q h P' i (w.set j x) := by
  have key : ∀ m' r : Nat, (w.set j x)[m']? = some (r : Int) → (m' = j ∧ r = x) ∨ (m' ≠ j ∧ w[m']? = some (r : Int)) := fun m' r e => by
    rw [List.getElem?_set] at e
    split at e
    · rename_i e1
      split at e
      · have := Option.some.inj e; exact .inl ⟨e1.symm, by omega⟩
      · cases e
    · rename_i hne; exact .inr ⟨fun e' => hne e'.symm, e⟩
  refine ⟨by simpa using hw.len, fun y hy => ?_, fun m' r e => ?_, fun m1 m2 r e1 e2 => ?_⟩
  · rcases List.mem_or_eq_of_mem_set hy with hy | hy
    · exact hw.ok y hy
    · right; omega
  · rcases key m' r e with ⟨rfl, rfl⟩ | ⟨_, e⟩
    · exact ⟨hij, hj, hP, hx⟩
    · obtain ⟨o1, o2, o3, o4⟩ := hw.on m' r e
      exact ⟨o1, o2, (hPP r o3).1, o4⟩
  · rcases key m1 r e1 with ⟨a1, b1⟩ | ⟨a1, b1⟩ <;> rcases key m2 r e2 with ⟨a2, b2⟩ | ⟨a2, b2⟩
    · omega
    · exact absurd b1 (hPP r (hw.on _ _ b2).2.2.1).2
    · exact absurd b2 (hPP r (hw.on _ _ b1).2.2.1).2
    · exact hw.one _ _ _ b1 b2
theorem Mt.idle {q : Qu} {h : Int} {P : Nat → Prop} {j : Nat} : Mt q h P j idle4 := by
  have key : ∀ x ∈ idle4, x = -1 := fun x hx => by simpa [idle4] using hx
  refine ⟨rfl, fun x hx => .inl (key x hx), fun m r e => ?_, fun m m' r e => ?_⟩
  all_goals
    have := key _ (List.mem_of_getElem? e)
    omega
theorem Mt.none {q : Qu} {h : Int} {P : Nat → Prop} {j : Nat} {w : List Int} (hw : Mt q h P j w) (hP : ∀ m r : Nat, P r → j ≤ m → m < q.ms.length → False) : w.count (-1) = 4 := by
  rw [← hw.len, List.count_eq_length]
  intro x hx
  rcases hw.ok x hx with h1 | h1
  · exact h1.symm
  · obtain ⟨m, hm⟩ := List.mem_iff_getElem?.1 hx
    obtain ⟨r, rfl⟩ : ∃ r : Nat, x = r := ⟨x.toNat, by omega⟩
    have := hw.on m r hm
    exact (hP m r this.2.2.1 this.1 this.2.1).elim
theorem cnt_set {w : List Int} {m run : Nat} (h : w[m]? = some (run : Int)) : (w.set m (-1)).count (-1) = w.count (-1) + 1 := by
  have p := (set_perm (y := -1) h).count_eq (-1)
  rw [List.count_cons, List.count_cons] at p
  simp only [beq_iff_eq, if_neg (by omega : ¬ (run : Int) = -1), if_true] at p
  omega
/-- One of the first k runs. -/
def Pk (runs : List Int) (k r : Nat) : Prop := ∃ i : Nat, i < k ∧ runs[i]? = some (r : Int)
theorem Pk.next {runs : List Int} {k r : Nat} (h : Pk runs k r) : Pk runs (k + 1) r := by
  obtain ⟨i, h1, h2⟩ := h
  exact ⟨i, by omega, h2⟩
theorem Pk.split {runs : List Int} {k r run : Nat} (hx : runs[k]? = some (run : Int)) (h : Pk runs (k + 1) r) (hne : r ≠ run) : Pk runs k r := by
  obtain ⟨i, h1, h2⟩ := h
  refine ⟨i, ?_, h2⟩
  have : i ≠ k := fun e => by subst e; rw [hx] at h2; have := Option.some.inj h2; omega
  omega
def mixW (T : List Bool) (w M : List Int) : List Int := (List.range 4).map fun m => if T[m]? = some true then (w[m]?).getD (-1) else (M[m]?).getD (-1)
theorem mixW_get {T : List Bool} {w M : List Int} (hw : w.length = 4) (hM : M.length = 4) {m : Nat} {x : Int} (h : (mixW T w M)[m]? = some x) : (T[m]? = some true ∧ w[m]? = some x) ∨ (T[m]? ≠ some true ∧ M[m]? = some x) := by
  have hm : m < 4 := by have := (List.getElem?_eq_some_iff.1 h).1; simpa [mixW] using this
  have h2 : (if T[m]? = some true then (w[m]?).getD (-1) else (M[m]?).getD (-1)) = x := by
    simpa [mixW, List.getElem?_map, List.getElem?_range hm] using h
  split at h2
  · rename_i ht
    refine .inl ⟨ht, ?_⟩
    rw [List.getElem?_eq_getElem (by omega)] at h2 ⊢
    simpa using h2
  · rename_i ht
    refine .inr ⟨ht, ?_⟩
    rw [List.getElem?_eq_getElem (by omega)] at h2 ⊢
    simpa using h2
theorem atK_most {q : Qu} (hq : q.ok) {h : Int} {runs : List Int} (hin : ∀ x ∈ runs, 0 ≤ x ∧ x < q.rs.length) (hnd : ∀ i j r : Nat, runs[i]? = some (r : Int) → runs[j]? = some (r : Int) → i = j) : ∀ k, k ≤ runs.length →
    Mt q h (Pk runs k) 0 (q.atK h runs k).2 ∧ (q.atK h runs k).1 + (q.atK h runs k).2.count (-1) = 4 ∧ ∀ M, Mt q h (Pk runs k) 0 M → (q.atK h runs k).2.count (-1) ≤ M.count (-1)
  | 0, _ => ⟨Mt.idle, (show 0 + idle4.count (-1) = 4 by decide), fun M hM => by
      rw [hM.none (fun m r hP _ _ => by obtain ⟨i, hi, _⟩ := hP; omega)]
      exact (show idle4.count (-1) ≤ 4 by decide)⟩
  | k + 1, hk => by
    obtain ⟨A, B, C⟩ := atK_most hq (h := h) hin hnd k (by omega)
    have G := (Qu.atK_ok hq (h := h) hin k (by omega)).1
    have hx : runs[k]? = some runs[k] := List.getElem?_eq_getElem (by omega)
    have hr := hin _ (List.mem_of_getElem? hx)
    obtain ⟨run, hrun⟩ : ∃ run : Nat, runs[k] = run := ⟨runs[k].toNat, by omega⟩
    rw [hrun] at hx hr
    have hstep : q.atK h runs (k + 1) = ((q.atK h runs k).1 + (if (q.giveM h 5 run no4 (q.atK h runs k).2).2.2 = true then 1 else 0), (q.giveM h 5 run no4 (q.atK h runs k).2).2.1) := by simp [Qu.atK, hx]
    have S := giveM_said hq h 5 run no4 (q.atK h runs k).2 (by omega) G (by decide)
    have O := (giveM_ok hq h 5 run no4 (q.atK h runs k).2 (by omega) G).1
    have On := giveM_on (q := q) (h := h) 5 run no4 (q.atK h runs k).2 fun m r e => mem_macs.2 ⟨(A.on m r e).2.1, (A.on m r e).2.2.2⟩
    rw [hstep]
    generalize q.atK h runs k = a at *
    obtain ⟨n, w⟩ := a
    generalize q.giveM h 5 run no4 (n, w).2 = g at *
    obtain ⟨T, w', b⟩ := g
    simp only at *
    have hout : ∀ m : Nat, w[m]? = some (run : Int) → False := fun m e => by
      obtain ⟨i, h1, h2⟩ := (A.on m run e).2.2.1
      have := hnd _ _ _ h2 hx
      omega
    cases b with
    | true =>
      have p := S.yes rfl
      have hc : w'.count (-1) + 1 = w.count (-1) := by
        have := p.count_eq (-1)
        rw [List.count_cons, List.count_cons] at this
        simp only [beq_iff_eq, if_neg (by omega : ¬ (run : Int) = -1), if_true] at this
        omega
      refine ⟨⟨O.w4, fun x hx' => by rcases O.ok x hx' with h1 | h1; exact .inl h1; exact .inr h1.1, fun m r e => ?_, fun m m' r e e' => ?_⟩, ?_, fun M hM => ?_⟩
      · obtain ⟨o1, o2⟩ := mem_macs.1 (On m r e)
        refine ⟨Nat.zero_le _, o1, ?_, o2⟩
        have hmem : (r : Int) ∈ (run : Int) :: w := p.mem_iff.1 (List.mem_cons_of_mem _ (List.mem_of_getElem? e))
        rcases List.mem_cons.1 hmem with e1 | e1
        · have : r = run := by omega
          subst this; exact ⟨k, by omega, hx⟩
        · obtain ⟨m2, hm2⟩ := List.mem_iff_getElem?.1 e1
          exact (A.on m2 r hm2).2.2.1.next
      · refine cnt1.1 ?_ m m' e e'
        have hp := p.count_eq (r : Int)
        rw [List.count_cons, List.count_cons] at hp
        simp only [beq_iff_eq, if_neg (by omega : ¬ (-1 : Int) = (r : Int))] at hp
        by_cases hrr : r = run
        · subst hrr
          have : w.count (r : Int) = 0 := List.count_eq_zero.2 fun hmem => by
            obtain ⟨m2, hm2⟩ := List.mem_iff_getElem?.1 hmem
            exact hout m2 hm2
          rw [if_pos rfl] at hp
          omega
        · have := cnt1.2 (fun m m' e e' => A.one m m' r e e')
          rw [if_neg (by omega)] at hp
          omega
      · rw [if_pos rfl]; omega
      · by_cases hM1 : ∃ m : Nat, M[m]? = some (run : Int)
        · obtain ⟨m, hm⟩ := hM1
          have h1 := C _ ((hM.cut hm).mono fun r hr' => Pk.split hx hr'.1 hr'.2)
          rw [cnt_set hm] at h1
          omega
        · have h1 := C M ⟨hM.len, hM.ok, fun m r e => ⟨(hM.on m r e).1, (hM.on m r e).2.1, Pk.split hx (hM.on m r e).2.2.1 (fun e' => hM1 ⟨m, by rw [← e']; exact e⟩), (hM.on m r e).2.2.2⟩, hM.one⟩
          omega
    | false =>
      obtain ⟨n1, n2, n3⟩ := S.no rfl
      subst n1
      refine ⟨A.mono fun r hr' => hr'.next, by rw [if_neg (by simp)]; exact B, fun M hM => ?_⟩
      have hT : ∀ m : Nat, T[m]? = some true → ∃ r : Nat, w'[m]? = some (r : Int) ∧ ∀ m' ∈ q.macs r h q.ms.length, T[m']? = some true := fun m hm => by
        have hm4 : m < 4 := by rw [← O.t4]; exact (List.getElem?_eq_some_iff.1 hm).1
        exact n3 m hm (by
          have : ∀ m : Nat, m < 4 → no4[m]? = some false := by decide
          exact this m hm4)
      have hmix : Mt q h (Pk runs k) 0 (mixW T w' M) := by
        refine ⟨by simp [mixW], fun x hx' => ?_, fun m r e => ?_, fun m m' r e e' => ?_⟩
        · obtain ⟨m, hm⟩ := List.mem_iff_getElem?.1 hx'
          rcases mixW_get A.len hM.len hm with ⟨_, h1⟩ | ⟨_, h1⟩
          · exact A.ok _ (List.mem_of_getElem? h1)
          · exact hM.ok _ (List.mem_of_getElem? h1)
        · rcases mixW_get A.len hM.len e with ⟨_, h1⟩ | ⟨ht, h1⟩
          · exact A.on m r h1
          · obtain ⟨o1, o2, o3, o4⟩ := hM.on m r h1
            exact ⟨o1, o2, Pk.split hx o3 (fun e' => by subst e'; exact ht (n2 m (mem_macs.2 ⟨o2, o4⟩))), o4⟩
        · have hno : ∀ m m' : Nat, T[m]? = some true → w'[m]? = some (r : Int) → T[m']? ≠ some true → M[m']? = some (r : Int) → False := fun m m' t1 h1 t2 h2 => by
            obtain ⟨r0, e1, e2⟩ := hT m t1
            rw [h1] at e1
            have : r = r0 := by have := Option.some.inj e1; omega
            subst this
            exact t2 (e2 m' (mem_macs.2 ⟨(hM.on m' r h2).2.1, (hM.on m' r h2).2.2.2⟩))
          rcases mixW_get A.len hM.len e with ⟨t1, h1⟩ | ⟨t1, h1⟩ <;> rcases mixW_get A.len hM.len e' with ⟨t2, h2⟩ | ⟨t2, h2⟩
          · exact A.one _ _ _ h1 h2
          · exact (hno _ _ t1 h1 t2 h2).elim
          · exact (hno _ _ t2 h2 t1 h1).elim
          · exact hM.one _ _ _ h1 h2
      refine Nat.le_trans (C _ hmix) (cnt_mono (by rw [hM.len]; simp [mixW]) fun m e => ?_)
      rcases mixW_get A.len hM.len e with ⟨t1, h1⟩ | ⟨t1, h1⟩
      · obtain ⟨r, e1, _⟩ := hT m t1
        rw [h1] at e1
        have := Option.some.inj e1; omega
      · exact h1
theorem Pk.all {runs : List Int} {r : Nat} : Pk runs runs.length r ↔ (r : Int) ∈ runs :=
  ⟨fun ⟨i, _, h⟩ => List.mem_of_getElem? h, fun h => by
    obtain ⟨i, hi⟩ := List.mem_iff_getElem?.1 h
    exact ⟨i, (List.getElem?_eq_some_iff.1 hi).1, hi⟩⟩
/-- Numbers of runs, each once. -/
structure Runs (q : Qu) (l : List Int) : Prop where
  inn : ∀ x ∈ l, 0 ≤ x ∧ x < q.rs.length
  one : ∀ i j r : Nat, l[i]? = some (r : Int) → l[j]? = some (r : Int) → i = j
theorem atM_ge {q : Qu} (hq : q.ok) {h : Int} {l : List Int} (hl : Runs q l) {M : List Int} (hM : Mt q h (fun r => (r : Int) ∈ l) 0 M) : 4 ≤ q.atM h l + M.count (-1) := by
  obtain ⟨_, B, C⟩ := atK_most hq (h := h) hl.inn hl.one l.length (Nat.le_refl _)
  have := C M (hM.mono fun r hr => Pk.all.2 hr)
  unfold Qu.atM; omega
theorem atM_is {q : Qu} (hq : q.ok) {h : Int} {l : List Int} (hl : Runs q l) : ∃ M, Mt q h (fun r => (r : Int) ∈ l) 0 M ∧ q.atM h l + M.count (-1) = 4 := by
  obtain ⟨A, B, _⟩ := atK_most hq (h := h) hl.inn hl.one l.length (Nat.le_refl _)
  exact ⟨_, A.mono fun r hr => Pk.all.1 hr, B⟩
end Go.Proofs.Ytohhjnpiiackjaa
/-! Layer 10 (queue), plain: lists of runs that are chosen; bits. -/
namespace Go.Proofs.Ytohhjnpiiackjaa
open Go.RowKit
set_option linter.unusedSimpArgs false
/-- Rising numbers of runs are those of runs, each once. -/
theorem Runs.of_rising {q : Qu} {l : List Int} (h : q.rising l = true) : Runs q l := by
  refine ⟨Qu.rising_in h, ?_⟩
  have hs : ∀ i : Nat, i + 1 < l.length → ∀ x y : Int, l[i]? = some x → l[i + 1]? = some y → x < y := fun i hi x y hx hy => by
    simp only [Qu.rising, List.all_eq_true, List.mem_range] at h
    have := h (i + 1) hi
    simp only [Qu.risAt, hx, hy, Option.getD_some, Bool.and_eq_true, Bool.or_eq_true, decide_eq_true_eq, Nat.add_sub_cancel] at this
    omega
  have hm : ∀ d i : Nat, ∀ x y : Int, l[i]? = some x → l[i + d + 1]? = some y → x < y := by
    intro d
    induction d with
    | zero => exact fun i x y hx hy => hs i (List.getElem?_eq_some_iff.1 hy).1 x y hx hy
    | succ d ih =>
        intro i x y hx hy
        have hl := (List.getElem?_eq_some_iff.1 hy).1
        have hz : l[i + d + 1]? = some l[i + d + 1] := List.getElem?_eq_getElem (by omega)
        have h1 := ih i x _ hx hz
        have h2 := hs (i + d + 1) (by omega) _ y hz (by rw [← hy]; congr 1)
        omega
  intro i j r hi hj
  rcases Nat.lt_trichotomy i j with h1 | h1 | h1
  · obtain ⟨d, rfl⟩ : ∃ d, j = i + d + 1 := ⟨j - i - 1, by omega⟩
    have := hm d i _ _ hi hj
    omega
  · exact h1
  · obtain ⟨d, rfl⟩ : ∃ d, i = j + d + 1 := ⟨i - j - 1, by omega⟩
    have := hm d j _ _ hj hi
    omega
theorem u8_bd {n : Int} (h : (Lit.int .u8 n).wf = true) : 0 ≤ n ∧ n < 256 := by
  have h1 : IntKind.u8.min ≤ n ∧ n ≤ IntKind.u8.max := by simpa [Lit.wf] using h
  have e1 : IntKind.u8.min = 0 := by decide
  have e2 : IntKind.u8.max = 255 := by decide
  omega
def selL (f : Nat → Bool) (k : Nat) : List Int := ((List.range k).filter f).map Int.ofNat
theorem mem_selL {f : Nat → Bool} {k : Nat} {x : Int} : x ∈ selL f k ↔ ∃ r : Nat, x = r ∧ r < k ∧ f r = true := by
  unfold selL
  rw [List.mem_map]
  constructor
  · rintro ⟨r, h, rfl⟩
    rw [List.mem_filter, List.mem_range] at h
    exact ⟨r, rfl, h.1, h.2⟩
  · rintro ⟨r, rfl, h1, h2⟩
    exact ⟨r, by rw [List.mem_filter, List.mem_range]; exact ⟨h1, h2⟩, rfl⟩
theorem selL_rising {q : Qu} {f : Nat → Bool} : q.rising (selL f q.rs.length) = true := by
  have hp : (selL f q.rs.length).Pairwise (· < ·) := by
    unfold selL
    rw [List.pairwise_map]
    exact (List.pairwise_lt_range.filter _).imp fun h => by simpa using h
  unfold Qu.rising
  rw [List.all_eq_true]
  intro i hi
  rw [List.mem_range] at hi
  have hx : (selL f q.rs.length)[i]? = some (selL f q.rs.length)[i] := List.getElem?_eq_getElem hi
  obtain ⟨r, e, hr, _⟩ := mem_selL.1 (List.getElem_mem hi)
  unfold Qu.risAt
  rw [hx, Option.getD_some]
  simp only [Bool.and_eq_true, Bool.or_eq_true, decide_eq_true_eq]
  refine ⟨⟨by omega, by omega⟩, ?_⟩
  by_cases h0 : i = 0
  · exact .inl h0
  · right
    have hy : (selL f q.rs.length)[i - 1]? = some ((selL f q.rs.length)[i - 1]'(by omega)) := List.getElem?_eq_getElem (by omega)
    rw [hy, Option.getD_some]
    exact List.pairwise_iff_getElem.1 hp (i - 1) i (by omega) hi (by omega)
end Go.Proofs.Ytohhjnpiiackjaa
