/- Layer 10 (queue), plain law: what a search for one hour more of a run does to a plan. (Several texts in one.) -/
import Derived.Test.YtohhjnpiiackjaaQuG
import Derived.Test.YtohhjnpiiackjaaQuD
import Derived.Test.YtohhjnpiiackjaaQuE
set_option linter.unusedVariables false
set_option linter.unusedSimpArgs false
/-! Layer 10 (queue), plain law: what a search for one hour more of a run does to a plan. -/
namespace Go.Proofs.Ytohhjnpiiackjaa
open Go.RowKit
set_option linter.unusedSimpArgs false
/-- An hour of a plan: each run where it may be, once. -/
abbrev Row (q : Qu) (h : Nat) (l : List Int) : Prop := Mt q h (fun r => r < q.rs.length) 0 l
structure LP (q : Qu) (p : List (List Int)) : Prop where
  rows : ∀ (h : Nat) (l : List Int), p[h]? = some l → Row q h l
  len : p.length ≤ 40
theorem LP.pw {q : Qu} {p : List (List Int)} (hp : LP q p) : PW q p := by
  refine ⟨fun l hl => ?_, fun l hl x hx => ?_, hp.len⟩
  · obtain ⟨h, hh⟩ := List.mem_iff_getElem?.1 hl
    exact (hp.rows h l hh).len
  · obtain ⟨h, hh⟩ := List.mem_iff_getElem?.1 hl
    have R := hp.rows h l hh
    rcases R.ok x hx with h1 | h1
    · exact .inl h1
    · obtain ⟨m, hm⟩ := List.mem_iff_getElem?.1 hx
      obtain ⟨r, rfl⟩ : ∃ r : Nat, x = r := ⟨x.toNat, by omega⟩
      have : r < q.rs.length := (R.on m r hm).2.2.1
      right; omega
theorem who_row {p : List (List Int)} {h m r : Nat} (hw : who p h m = (r : Int)) : ∃ l, p[h]? = some l ∧ l[m]? = some (r : Int) := by
  unfold who at hw
  cases h1 : p[h]? with
  | none => rw [h1] at hw; simp at hw
  | some l =>
    rw [h1] at hw
    simp only [Option.getD_some] at hw
    refine ⟨l, rfl, ?_⟩
    cases h2 : l[m]? with
    | none => rw [h2] at hw; simp at hw
    | some x => rw [h2] at hw; simp at hw; rw [hw]
theorem who_is {p : List (List Int)} {h m : Nat} {l : List Int} {x : Int} (hl : p[h]? = some l) (hm : l[m]? = some x) : who p h m = x := by
  unfold who; rw [hl, Option.getD_some, hm]; rfl
theorem who_set {p : List (List Int)} {h m : Nat} {l : List Int} {x : Int} (hl : p[h]? = some l) (hm : m < l.length) (h' m' : Nat) : who (setP p h m x) h' m' = if h' = h ∧ m' = m then x else who p h' m' := by
  have hh := (List.getElem?_eq_some_iff.1 hl).1
  unfold who setP
  rw [hl, Option.getD_some]
  by_cases e : h' = h
  · subst e
    rw [List.getElem?_set_self hh, Option.getD_some, hl, Option.getD_some]
    by_cases e2 : m' = m
    · subst e2
      rw [List.getElem?_set_self hm, if_pos ⟨rfl, rfl⟩]; rfl
    · rw [List.getElem?_set_ne (fun e' => e2 e'.symm), if_neg (fun h => e2 h.2)]
  · rw [List.getElem?_set_ne (fun e' => e e'.symm), if_neg (fun h => e h.1)]
theorem onI_no {p : List (List Int)} {r h : Nat} (ho : onI p r h = -1) (m : Nat) : who p h m ≠ (r : Int) := fun hw => by
  obtain ⟨l, h1, h2⟩ := who_row hw
  unfold onI onR at ho
  rw [h1, Option.getD_some] at ho
  cases hf : l.findIdx? (fun x => decide ((r : Int) = x)) with
  | none =>
    rw [List.findIdx?_eq_none_iff] at hf
    have := hf _ (List.mem_of_getElem? h2)
    simp at this
  | some i => rw [hf] at ho; simp only at ho; omega
theorem nx_ru {q : Qu} {p : List (List Int)} {r : Nat} {x : Nd} : x ∈ nx q p (.ru r) ↔ ∃ h, h < p.length ∧ onI p r h = -1 ∧ x = .rh r h := by
  simp only [nx, needsM, needsK, List.mem_map, List.mem_filter, decide_eq_true_eq]
  rw [List.take_of_length_le (by simp)]
  constructor
  · rintro ⟨h, ⟨h1, h2⟩, h3⟩
    exact ⟨h, by simpa using h1, h2, h3.symm⟩
  · rintro ⟨h, h1, h2, h3⟩
    exact ⟨h, ⟨by simpa using h1, h2⟩, h3.symm⟩
theorem nx_rh {q : Qu} {p : List (List Int)} {r h : Nat} {x : Nd} : x ∈ nx q p (.rh r h) ↔ (∃ m, m < q.ms.length ∧ q.may r m h = true ∧ who p h m ≠ (r : Int) ∧ x = .mh m h) ∨ (onI p r h ≠ -1 ∧ x = .ru r) := by
  simp only [nx, seeksM, seekK, List.mem_append, List.mem_map, List.mem_filter]
  constructor
  · rintro (⟨m, ⟨h1, h2⟩, h3⟩ | h1)
    · obtain ⟨a, b⟩ := mem_macs.1 h1
      exact .inl ⟨m, a, b, by simpa using h2, h3.symm⟩
    · split at h1
      · cases h1
      · rename_i ho; exact .inr ⟨ho, by simpa using h1⟩
  · rintro (⟨m, h1, h2, h3, h4⟩ | ⟨h1, h2⟩)
    · exact .inl ⟨m, ⟨mem_macs.2 ⟨h1, h2⟩, by simpa using h3⟩, h4.symm⟩
    · right; rw [if_neg h1]; simpa using h2
theorem nx_mh {q : Qu} {p : List (List Int)} {m h : Nat} {x : Nd} : x ∈ nx q p (.mh m h) ↔ x = .rh (who p h m).toNat h := by simp [nx]
abbrev keys (by' : By) : List Nd := by'.map (·.1)
theorem par_some {by' : By} {n : Nd} (h : (par by' n).isSome = true) : n ∈ keys by' := by
  unfold par at h
  rw [Option.isSome_map, List.find?_isSome] at h
  obtain ⟨e, he, h2⟩ := h
  simp only [decide_eq_true_eq] at h2
  exact List.mem_map.2 ⟨e, he, h2.symm⟩
/-- What a search has found grows. -/
structure Grow (s s' : By × List Nd) : Prop where
  k : ∀ x ∈ keys s.1, x ∈ keys s'.1
  t : ∀ x ∈ s.2, x ∈ s'.2
  n : ∀ x ∈ keys s'.1, x ∈ keys s.1 ∨ x ∈ s'.2
  i : ∀ (i : Nat) (e : Nd × Nd), s.1[i]? = some e → s'.1[i]? = some e
theorem Grow.refl (s : By × List Nd) : Grow s s := ⟨fun _ h => h, fun _ h => h, fun _ h => .inl h, fun _ _ h => h⟩
theorem Grow.trans {s s' s'' : By × List Nd} (h : Grow s s') (h' : Grow s' s'') : Grow s s'' :=
  ⟨fun x hx => h'.k x (h.k x hx), fun x hx => h'.t x (h.t x hx), fun x hx => by
    rcases h'.n x hx with h1 | h1
    · rcases h.n x h1 with h2 | h2
      · exact .inl h2
      · exact .inr (h'.t x h2)
    · exact .inr h1, fun i e hi => h'.i i e (h.i i e hi)⟩
/-- From where each node was found. -/
def Came (q : Qu) (p : List (List Int)) (run : Nat) (by' : By) : Prop := ∀ (i : Nat) (e : Nd × Nd), by'[i]? = some e → (i = 0 ∧ e = (.ru run, .ru run)) ∨ ∃ (j : Nat) (b : Nd), j < i ∧ by'[j]? = some (e.2, b) ∧ e.1 ∈ nx q p e.2 ∧ isFree p e.2 = false
theorem grow_push {q : Qu} {p : List (List Int)} {run : Nat} {n x : Nd} {s : By × List Nd} (hc : Came q p run s.1) (hn : ∃ (i : Nat) (b : Nd), s.1[i]? = some (n, b)) (hx : x ∈ nx q p n) (hf : isFree p n = false) : Grow s (push1 n s x) ∧ Came q p run (push1 n s x).1 ∧ x ∈ keys (push1 n s x).1 := by
  unfold push1
  split
  · rename_i h1
    exact ⟨Grow.refl s, hc, par_some h1⟩
  · have old : ∀ (j : Nat) (e : Nd × Nd), s.1[j]? = some e → (s.1 ++ [(x, n)])[j]? = some e := fun j e hj => by
      rw [List.getElem?_append_left (List.getElem?_eq_some_iff.1 hj).1]; exact hj
    refine ⟨⟨fun y hy => ?_, fun y hy => by simp [hy], fun y hy => ?_, old⟩, fun i e hi => ?_, by simp [keys]⟩
    · simp only [keys, List.map_append, List.mem_append]; exact .inl hy
    · simp only [keys, List.map_append, List.mem_append] at hy
      rcases hy with hy | hy
      · exact .inl hy
      · simp at hy; subst hy; simp
    · rw [List.getElem?_append] at hi
      split at hi
      · rcases hc i e hi with h1 | ⟨j, b, h1, h2, h3⟩
        · exact .inl h1
        · exact .inr ⟨j, b, h1, old j _ h2, h3⟩
      · rename_i hl
        have h0 : i - s.1.length = 0 := by
          have := (List.getElem?_eq_some_iff.1 hi).1
          simp at this; omega
        rw [h0] at hi
        simp at hi
        subst hi
        obtain ⟨j, b, hj⟩ := hn
        exact .inr ⟨j, b, by have := (List.getElem?_eq_some_iff.1 hj).1; omega, old j _ hj, hx, hf⟩
theorem grow_pushes {q : Qu} {p : List (List Int)} {run : Nat} {n : Nd} (hf : isFree p n = false) : ∀ (l : List Nd) {s : By × List Nd}, Came q p run s.1 → (∃ (i : Nat) (b : Nd), s.1[i]? = some (n, b)) → (∀ x ∈ l, x ∈ nx q p n) → Grow s (l.foldl (push1 n) s) ∧ Came q p run (l.foldl (push1 n) s).1 ∧ ∀ x ∈ l, x ∈ keys (l.foldl (push1 n) s).1
  | [], s, hc, _, _ => ⟨Grow.refl s, hc, fun x hx => by cases hx⟩
  | x :: l, s, hc, hn, hl => by
    obtain ⟨g1, c1, k1⟩ := grow_push hc hn (hl x (by simp)) hf
    obtain ⟨i, b, hi⟩ := hn
    obtain ⟨g2, c2, k2⟩ := grow_pushes hf l (s := push1 n s x) c1 ⟨i, b, g1.i i _ hi⟩ (fun y hy => hl y (by simp [hy]))
    rw [List.foldl_cons]
    exact ⟨g1.trans g2, c2, fun y hy => by
      rcases List.mem_cons.1 hy with e | e
      · subst e; exact g2.k _ k1
      · exact k2 y e⟩
/-- What is kept of a search. -/
structure BX (q : Qu) (p : List (List Int)) (run : Nat) (s : By × List Nd) : Prop where
  b : BW q p s
  c : Came q p run s.1
  r : .ru run ∈ keys s.1
  cl : ∀ n ∈ keys s.1, n ∈ s.2 ∨ (isFree p n = false ∧ ∀ x ∈ nx q p n, x ∈ keys s.1)
theorem BX.start {q : Qu} {p : List (List Int)} {run : Nat} (hr : run < q.rs.length) : BX q p run ([(.ru run, .ru run)], [.ru run]) :=
  ⟨BW.start hr, fun i e hi => by
    cases i with
    | zero => simp at hi; subst hi; exact .inl ⟨rfl, rfl⟩
    | succ i => simp at hi, by simp [keys], fun n hn => by simp [keys] at hn; subst hn; left; simp⟩
theorem BX.step {q : Qu} (hq : q.ok) {p : List (List Int)} (hp : PW q p) {run : Nat} {by' : By} {n : Nd} {rest : List Nd} (h : BX q p run (by', n :: rest)) (hf : isFree p n = false) :
    BX q p run ((nx q p n).foldl (push1 n) (by', rest)) ∧ ((nx q p n).foldl (push1 n) (by', rest)).2.length + by'.length = rest.length + ((nx q p n).foldl (push1 n) (by', rest)).1.length := by
  obtain ⟨i0, b0, hi0⟩ := h.b.t n (by simp)
  have okn := (h.b.b.ok _ (List.mem_of_getElem? hi0)).1
  obtain ⟨w1, _, w3, _⟩ := BW.pushes (nx q p n) h.b.tail ⟨i0, b0, hi0⟩ (nx_ok hq hp okn hf)
  obtain ⟨g, c, k⟩ := grow_pushes (run := run) hf (nx q p n) (s := (by', rest)) h.c ⟨i0, b0, hi0⟩ (fun x hx => hx)
  refine ⟨⟨w1, c, g.k _ h.r, fun x hx => ?_⟩, w3⟩
  rcases g.n x hx with h1 | h1
  · rcases h.cl x h1 with h2 | ⟨h2, h3⟩
    · rcases List.mem_cons.1 h2 with e | e
      · subst e
        exact .inr ⟨hf, k⟩
      · exact .inl (g.t x e)
    · exact .inr ⟨h2, fun y hy => g.k y (h3 y hy)⟩
  · exact .inl h1
/-- How a search ends. -/
theorem bfs_ends {q : Qu} (hq : q.ok) {p : List (List Int)} (hp : PW q p) {run : Nat} : ∀ (f : Nat) (by' : By) (todo : List Nd), BX q p run (by', todo) → todo.length + 407 < f + by'.length →
    (∃ (by2 : By) (todo2 : List Nd) (n : Nd) (i : Nat) (b : Nd), BX q p run (by2, todo2) ∧ by2[i]? = some (n, b) ∧ isFree p n = true ∧ bfs q p f by' todo = some (chg by2 by2.length n p)) ∨ (bfs q p f by' todo = none ∧ ∃ by2 : By, BX q p run (by2, []))
  | 0, by', todo, hB, hF => by
    have := hB.b.len hq hp
    simp only at this
    omega
  | f + 1, by', [], hB, hF => .inr ⟨rfl, by', hB⟩
  | f + 1, by', n :: rest, hB, hF => by
    obtain ⟨i0, b0, hi0⟩ := hB.b.t n (by simp)
    rw [bfs]
    by_cases hf : isFree p n = true
    · rw [if_pos hf]
      exact .inl ⟨by', n :: rest, n, i0, b0, hB, hi0, hf, rfl⟩
    · rw [if_neg hf]
      have hff : isFree p n = false := by simpa using hf
      obtain ⟨h1, h2⟩ := hB.step hq hp hff
      refine bfs_ends hq hp f _ _ h1 ?_
      simp only [List.length_cons] at hF
      omega
end Go.Proofs.Ytohhjnpiiackjaa
/-! Layer 10 (queue), plain law: a way that was found gives the run an hour more. -/
namespace Go.Proofs.Ytohhjnpiiackjaa
open Go.RowKit
set_option linter.unusedSimpArgs false
theorem cnt_set_row {p : List (List Int)} {h : Nat} {l l' : List Int} (hl : p[h]? = some l) (r : Nat) : cnt (p.set h l') r + l.count (r : Int) = cnt p r + l'.count (r : Int) := by
  induction p generalizing h with
  | nil => simp at hl
  | cons a p ih =>
    cases h with
    | zero => simp at hl; subst hl; simp [cnt]; omega
    | succ h =>
      have h1 := ih (h := h) (by simpa using hl)
      simp [cnt] at h1 ⊢
      omega
theorem setP_eq {p : List (List Int)} {h m : Nat} {l : List Int} {x : Int} (hl : p[h]? = some l) : setP p h m x = p.set h (l.set m x) := by unfold setP; rw [hl]; rfl
theorem cnt_setP {p : List (List Int)} {h m : Nat} {l : List Int} {x y : Int} (hl : p[h]? = some l) (hm : l[m]? = some y) (r : Nat) : cnt (setP p h m x) r + (if y = (r : Int) then 1 else 0) = cnt p r + (if x = (r : Int) then 1 else 0) := by
  have h1 := cnt_set_row (l' := l.set m x) hl r
  have h2 := (set_perm (y := x) hm).count_eq (r : Int)
  rw [List.count_cons, List.count_cons] at h2
  rw [setP_eq hl]
  simp only [beq_iff_eq] at h2
  omega
theorem LP.setRow {q : Qu} {p : List (List Int)} (hp : LP q p) {h : Nat} {l' : List Int} (hl : h < p.length) (hr : Row q h l') : LP q (p.set h l') := by
  refine ⟨fun k l e => ?_, by simpa using hp.len⟩
  rw [List.getElem?_set] at e
  split at e
  · rename_i e1
    subst e1
    first
      | (cases e; exact hr)
      | (rw [if_pos hl] at e; cases e; exact hr)
  · exact hp.rows k l e
theorem Mt.avoid {q : Qu} {h : Int} {P : Nat → Prop} {j : Nat} {w : List Int} (hw : Mt q h P j w) {r : Nat} (hr : ∀ m : Nat, w[m]? ≠ some (r : Int)) : Mt q h (fun x => P x ∧ x ≠ r) j w :=
  ⟨hw.len, hw.ok, fun m x e => ⟨(hw.on m x e).1, (hw.on m x e).2.1, ⟨(hw.on m x e).2.2.1, fun e' => hr m (e' ▸ e)⟩, (hw.on m x e).2.2.2⟩, hw.one⟩
theorem LP.cut {q : Qu} {p : List (List Int)} (hp : LP q p) {h m r : Nat} (hw : who p h m = (r : Int)) : LP q (setP p h m (-1)) := by
  obtain ⟨l, h1, h2⟩ := who_row hw
  rw [setP_eq h1]
  exact hp.setRow (List.getElem?_eq_some_iff.1 h1).1 (((hp.rows h l h1).cut h2).mono fun _ h => h.1)
theorem LP.put {q : Qu} {p : List (List Int)} (hp : LP q p) {h m r : Nat} (hh : h < p.length) (hm : m < q.ms.length) (hr : r < q.rs.length) (hx : q.may r m h = true) (hno : ∀ m', who p h m' ≠ (r : Int)) : LP q (setP p h m r) := by
  have h1 : p[h]? = some p[h] := List.getElem?_eq_getElem hh
  rw [setP_eq h1]
  refine hp.setRow hh (((hp.rows h _ h1).avoid (r := r) fun m' e => hno m' (who_is h1 e)).put (Nat.zero_le _) hm hx hr fun x hx => ⟨hx.1, hx.2⟩)
theorem LP.move {q : Qu} {p : List (List Int)} (hp : LP q p) {h m m' r : Nat} (hw : who p h m' = (r : Int)) (hmm : m ≠ m') (hm : m < q.ms.length) (hx : q.may r m h = true) : LP q (setP (setP p h m r) h m' (-1)) := by
  obtain ⟨l, h1, h2⟩ := who_row hw
  have hh := (List.getElem?_eq_some_iff.1 h1).1
  have e : setP (setP p h m r) h m' (-1) = p.set h ((l.set m' (-1)).set m r) := by
    rw [setP_eq h1, setP_eq (l := l.set m r) (by rw [List.getElem?_set_self hh]), List.set_set, List.set_comm _ _ hmm]
  rw [e]
  have R := hp.rows h l h1
  refine hp.setRow hh ((R.cut h2).put (Nat.zero_le _) hm hx (R.on m' r h2).2.2.1 fun x hx => ⟨hx.1, hx.2⟩)
/-- What is true at a node of the way back. -/
def CurS (p : List (List Int)) (cur : List (List Int)) : Nd → Prop
  | .ru r => ∀ x, cnt cur x = cnt p x + (if r = x then 1 else 0)
  | .mh m h => who cur h m = -1 ∧ ∀ x, cnt cur x = cnt p x
  | .rh _ _ => False
structure Cur (q : Qu) (p : List (List Int)) (by' : By) (i : Nat) (n : Nd) (cur : List (List Int)) : Prop where
  lp : LP q cur
  len : cur.length = p.length
  c1 : ∀ h m, who cur h m = who p h m ∨ ∃ k b, i ≤ k ∧ by'[k]? = some (Nd.mh m h, b)
  c2 : ∀ h m (r : Nat), who cur h m = (r : Int) → who p h m = (r : Int) ∨ ∃ k b, i ≤ k ∧ by'[k]? = some (Nd.rh r h, b)
  st : CurS p cur n
theorem key_ix {by' : By} (hn : (by'.map (·.1)).Nodup) {i k : Nat} {n b b' : Nd} (hi : by'[i]? = some (n, b)) (hk : by'[k]? = some (n, b')) : i = k := by
  refine (List.getElem?_inj (l := by'.map (·.1)) ?_ hn).1 ?_
  · rw [List.length_map]; exact (List.getElem?_eq_some_iff.1 hi).1
  · rw [List.getElem?_map, List.getElem?_map, hi, hk]; rfl
theorem chg_step {by' : By} {f : Nat} {n b : Nd} {p : List (List Int)} (hp : par by' n = some b) (hne : n ≠ b) : chg by' (f + 1) n p = chg by' f b (chg1 n b p) := by
  rw [chg, hp]; simp only; rw [if_neg hne]
theorem chg_root {by' : By} {f : Nat} {n : Nd} {p : List (List Int)} (hp : par by' n = some n) : chg by' f n p = p := by
  cases f with
  | zero => rfl
  | succ f => rw [chg, hp]; simp
theorem chg_right {q : Qu} (hq : q.ok) {p : List (List Int)} (hp : LP q p) {run : Nat} {by' : By} (hB : ByOk q p by') (hC : Came q p run by') : ∀ (i f : Nat) (n b : Nd) (cur : List (List Int)), by'[i]? = some (n, b) → i ≤ f → Cur q p by' i n cur →
    LP q (chg by' f n cur) ∧ (chg by' f n cur).length = p.length ∧ ∀ x, cnt (chg by' f n cur) x = cnt p x + (if run = x then 1 else 0) := by
  intro i
  induction i using Nat.strongRecOn with
  | _ i ih =>
    intro f n b cur hi hf hc
    have hpar := par_at hB.nd hi
    simp only at hpar
    cases n with
    | rh r h => exact hc.st.elim
    | ru r =>
      rcases hC i _ hi with ⟨h0, he⟩ | ⟨j, b1, hj, hbj, hnx, hfr⟩
      · simp only [Prod.mk.injEq] at he
        obtain ⟨e1, e2⟩ := he
        have e3 : r = run := by injection e1
        subst e3 e2
        rw [chg_root hpar]
        exact ⟨hc.lp, hc.len, hc.st⟩
      · simp only at hbj hnx hfr
        obtain ⟨h, rfl, ho⟩ : ∃ h, b = .rh r h ∧ onI p r h ≠ -1 := by
          cases b with
          | ru r' => obtain ⟨_, _, _, e⟩ := nx_ru.1 hnx; cases e
          | mh m' h' => cases nx_mh.1 hnx
          | rh r' h' =>
            rcases nx_rh.1 hnx with ⟨_, _, _, _, e⟩ | ⟨e1, e2⟩
            · cases e
            · injection e2 with e3; subst e3; exact ⟨h', rfl, e1⟩
        have hpar2 := par_at hB.nd hbj
        simp only at hpar2
        rcases hC j _ hbj with ⟨_, he⟩ | ⟨j2, b2, hj2, hbj2, hnx2, hfr2⟩
        · simp at he
        · simp only at hbj2 hnx2 hfr2
          obtain ⟨m, rfl, hwm⟩ : ∃ m, b1 = .mh m h ∧ who p h m = (r : Int) := by
            cases b1 with
            | ru r' => obtain ⟨h', _, e1, e2⟩ := nx_ru.1 hnx2; injection e2 with e3 e4; subst e3 e4; exact absurd e1 ho
            | rh r' h' =>
              rcases nx_rh.1 hnx2 with ⟨_, _, _, _, e⟩ | ⟨_, e⟩
              · cases e
              · cases e
            | mh m' h' =>
              have e := nx_mh.1 hnx2
              injection e with e1 e2
              subst e2
              have h1 : ¬ who p h m' = -1 := by simpa [isFree] using hfr2
              have := hp.pw.who h m'
              exact ⟨m', rfl, by omega⟩
          obtain ⟨f2, rfl⟩ : ∃ f2, f = f2 + 1 + 1 := ⟨f - 2, by omega⟩
          rw [chg_step hpar (by simp), chg_step hpar2 (by simp)]
          have okm := (hB.ok _ (List.mem_of_getElem? hbj2)).1
          have hcm : who cur h m = (r : Int) := by
            rcases hc.c1 h m with h1 | ⟨k, b', hk1, hk2⟩
            · rw [h1]; exact hwm
            · have := key_ix hB.nd hbj2 hk2; omega
          obtain ⟨l, hl1, hl2⟩ := who_row hcm
          have hml := (List.getElem?_eq_some_iff.1 hl2).1
          have hws := who_set (x := -1) hl1 hml
          refine ih j2 (by omega) f2 _ b2 _ hbj2 (by omega) ⟨hc.lp.cut hcm, by rw [← hc.len]; exact setP_len, fun h' m' => ?_, fun h' m' r' e => ?_, ?_, fun x => ?_⟩
          · show who (setP cur h m (-1)) h' m' = _ ∨ _
            rw [hws]
            split
            · rename_i e; obtain ⟨rfl, rfl⟩ := e; exact .inr ⟨j2, b2, Nat.le_refl _, hbj2⟩
            · rcases hc.c1 h' m' with h1 | ⟨k, b', hk1, hk2⟩
              · exact .inl h1
              · exact .inr ⟨k, b', by omega, hk2⟩
          · have e : who (setP cur h m (-1)) h' m' = (r' : Int) := e
            rw [hws] at e
            split at e
            · omega
            · rcases hc.c2 h' m' r' e with h1 | ⟨k, b', hk1, hk2⟩
              · exact .inl h1
              · exact .inr ⟨k, b', by omega, hk2⟩
          · show who (setP cur h m (-1)) h m = -1
            rw [hws, if_pos ⟨rfl, rfl⟩]
          · show cnt (setP cur h m (-1)) x = cnt p x
            have h1 := cnt_setP (x := -1) hl1 hl2 x
            have h2 : cnt cur x = cnt p x + (if r = x then 1 else 0) := hc.st x
            rw [if_neg (by omega : ¬ (-1 : Int) = (x : Int))] at h1
            by_cases e : r = x
            · rw [if_pos e] at h2; rw [if_pos (by omega)] at h1; omega
            · rw [if_neg e] at h2; rw [if_neg (by omega)] at h1; omega
    | mh m h =>
      obtain ⟨hidle, hcnt⟩ : who cur h m = -1 ∧ ∀ x, cnt cur x = cnt p x := hc.st
      rcases hC i _ hi with ⟨_, he⟩ | ⟨j, b1, hj, hbj, hnx, hfr⟩
      · simp at he
      · simp only at hbj hnx hfr
        obtain ⟨r, rfl, hmN, hmay, hwne⟩ : ∃ r, b = .rh r h ∧ m < q.ms.length ∧ q.may r m h = true ∧ who p h m ≠ (r : Int) := by
          cases b with
          | ru r' => obtain ⟨_, _, _, e⟩ := nx_ru.1 hnx; cases e
          | mh m' h' => cases nx_mh.1 hnx
          | rh r' h' =>
            rcases nx_rh.1 hnx with ⟨m', a1, a2, a3, e⟩ | ⟨_, e2⟩
            · injection e with e3 e4; subst e3 e4; exact ⟨r', rfl, a1, a2, a3⟩
            · cases e2
        have okr : r < q.rs.length ∧ h < p.length := (hB.ok _ (List.mem_of_getElem? hbj)).1
        have hpar2 := par_at hB.nd hbj
        simp only at hpar2
        have hh : h < cur.length := by rw [hc.len]; exact okr.2
        have hl1 : cur[h]? = some cur[h] := List.getElem?_eq_getElem hh
        have R := hc.lp.rows h _ hl1
        have hm4 : m < cur[h].length := by rw [R.len]; have := hq.m; omega
        have hl2 : cur[h][m]? = some (-1) := by
          have e : cur[h][m]? = some cur[h][m] := List.getElem?_eq_getElem hm4
          have := who_is hl1 e
          rw [hidle] at this
          rw [e, ← this]
        have hws := who_set (x := (r : Int)) hl1 hm4
        have hrc : ∀ m' : Nat, who cur h m' = (r : Int) → who p h m' = (r : Int) := fun m' e => by
          rcases hc.c2 h m' r e with h1 | ⟨k, b', hk1, hk2⟩
          · exact h1
          · have := key_ix hB.nd hbj hk2; omega
        rcases hC j _ hbj with ⟨_, he⟩ | ⟨j2, b2, hj2, hbj2, hnx2, hfr2⟩
        · simp at he
        · simp only at hbj2 hnx2 hfr2
          obtain ⟨f2, rfl⟩ : ∃ f2, f = f2 + 1 + 1 := ⟨f - 2, by omega⟩
          rw [chg_step hpar (by simp), chg_step hpar2 (by intro e; cases b1 <;> cases e <;> (first | (obtain ⟨_, _, _, e⟩ := nx_ru.1 hnx2; cases e) | (rcases nx_rh.1 hnx2 with ⟨_, _, _, _, e⟩ | ⟨_, e⟩ <;> cases e) | skip))]
          cases b1 with
          | rh r' h' =>
            rcases nx_rh.1 hnx2 with ⟨_, _, _, _, e⟩ | ⟨_, e⟩
            · cases e
            · cases e
          | ru r' =>
            obtain ⟨h', _, e1, e2⟩ := nx_ru.1 hnx2
            injection e2 with e3 e4
            subst e3 e4
            have hno : ∀ m', who cur h m' ≠ (r : Int) := fun m' e => onI_no e1 m' (hrc m' e)
            refine ih j2 (by omega) f2 _ b2 _ hbj2 (by omega) ⟨hc.lp.put hh hmN okr.1 hmay hno, by rw [← hc.len]; exact setP_len, fun h' m' => ?_, fun h' m' r' e => ?_, fun x => ?_⟩
            · show who (setP cur h m r) h' m' = _ ∨ _
              rw [hws]
              split
              · rename_i e; obtain ⟨rfl, rfl⟩ := e; exact .inr ⟨i, _, by omega, hi⟩
              · rcases hc.c1 h' m' with h1 | ⟨k, b', hk1, hk2⟩
                · exact .inl h1
                · exact .inr ⟨k, b', by omega, hk2⟩
            · have e : who (setP cur h m r) h' m' = (r' : Int) := e
              rw [hws] at e
              split at e
              · rename_i e'; obtain ⟨rfl, rfl⟩ := e'
                have : r = r' := by omega
                subst this
                exact .inr ⟨j, _, by omega, hbj⟩
              · rcases hc.c2 h' m' r' e with h1 | ⟨k, b', hk1, hk2⟩
                · exact .inl h1
                · exact .inr ⟨k, b', by omega, hk2⟩
            · show cnt (setP cur h m r) x = _
              have h1 := cnt_setP (x := (r : Int)) hl1 hl2 x
              have h2 := hcnt x
              rw [if_neg (by omega : ¬ (-1 : Int) = (x : Int))] at h1
              by_cases e : r = x
              · rw [if_pos e]; rw [if_pos (by omega)] at h1; omega
              · rw [if_neg e]; rw [if_neg (by omega)] at h1; omega
          | mh m' h' =>
            have e := nx_mh.1 hnx2
            injection e with e1 e2
            subst e2
            have hwp : who p h m' = (r : Int) := by
              have h1 : ¬ who p h m' = -1 := by simpa [isFree] using hfr2
              have := hp.pw.who h m'
              omega
            have hcm : who cur h m' = (r : Int) := by
              rcases hc.c1 h m' with h1 | ⟨k, b', hk1, hk2⟩
              · rw [h1]; exact hwp
              · have := key_ix hB.nd hbj2 hk2; omega
            have hmm : m ≠ m' := fun e => by subst e; exact hwne hwp
            obtain ⟨l, k1, k2⟩ := who_row hcm
            rw [hl1] at k1
            cases k1
            have hl3 : (setP cur h m r)[h]? = some (cur[h].set m r) := by rw [setP_eq hl1, List.getElem?_set_self hh]
            have k3 : (cur[h].set m (r : Int))[m']? = some (r : Int) := by rw [List.getElem?_set_ne hmm]; exact k2
            have hws2 := who_set (x := -1) hl3 (List.getElem?_eq_some_iff.1 k3).1
            refine ih j2 (by omega) f2 _ b2 _ hbj2 (by omega) ⟨hc.lp.move hcm hmm hmN hmay, by rw [← hc.len]; exact setP_len.trans setP_len, fun h' m2 => ?_, fun h' m2 r' e => ?_, ?_, fun x => ?_⟩
            · show who (setP (setP cur h m r) h m' (-1)) h' m2 = _ ∨ _
              rw [hws2]
              split
              · rename_i e; obtain ⟨rfl, rfl⟩ := e; exact .inr ⟨j2, _, by omega, hbj2⟩
              · rw [hws]
                split
                · rename_i e; obtain ⟨rfl, rfl⟩ := e; exact .inr ⟨i, _, by omega, hi⟩
                · rcases hc.c1 h' m2 with h1 | ⟨k, b', hk1, hk2⟩
                  · exact .inl h1
                  · exact .inr ⟨k, b', by omega, hk2⟩
            · have e : who (setP (setP cur h m r) h m' (-1)) h' m2 = (r' : Int) := e
              rw [hws2] at e
              split at e
              · omega
              · rw [hws] at e
                split at e
                · rename_i e'; obtain ⟨rfl, rfl⟩ := e'
                  have : r = r' := by omega
                  subst this
                  exact .inr ⟨j, _, by omega, hbj⟩
                · rcases hc.c2 h' m2 r' e with h1 | ⟨k, b', hk1, hk2⟩
                  · exact .inl h1
                  · exact .inr ⟨k, b', by omega, hk2⟩
            · show who (setP (setP cur h m r) h m' (-1)) h m' = -1
              rw [hws2, if_pos ⟨rfl, rfl⟩]
            · show cnt (setP (setP cur h m r) h m' (-1)) x = cnt p x
              have h1 := cnt_setP (x := (r : Int)) hl1 hl2 x
              have h2 := hcnt x
              have h3 := cnt_setP (x := -1) hl3 k3 x
              rw [if_neg (by omega : ¬ (-1 : Int) = (x : Int))] at h1 h3
              omega
/-- A search that finds a way gives the run an hour more, and takes none of another. -/
theorem giveP_some {F : Nat} (hF : 407 < F) {q : Qu} (hq : q.ok) {p p' : List (List Int)} (hp : LP q p) {run : Nat} (hr : run < q.rs.length) (h : giveP F q p run = some p') : LP q p' ∧ p'.length = p.length ∧ ∀ x, cnt p' x = cnt p x + (if run = x then 1 else 0) := by
  rcases bfs_ends hq hp.pw F _ _ (BX.start (q := q) (p := p) hr) (by simp; omega) with ⟨by2, todo2, n, i, b, hB, hi, hf, he⟩ | ⟨he, _⟩
  · unfold giveP at h
    rw [he] at h
    cases h
    have hil := (List.getElem?_eq_some_iff.1 hi).1
    cases n with
    | ru r => cases hf
    | rh r h => cases hf
    | mh m h =>
      refine chg_right hq hp hB.b.b hB.c i by2.length _ b p hi (by omega) ⟨hp, rfl, fun _ _ => .inl rfl, fun _ _ _ e => .inl e, by simpa [isFree] using hf, fun _ => rfl⟩
  · unfold giveP at h
    rw [he] at h
    cases h
end Go.Proofs.Ytohhjnpiiackjaa
/-! Layer 10 (queue), plain law: a search that finds no way shows runs that fill all their room. -/
namespace Go.Proofs.Ytohhjnpiiackjaa
open Go.RowKit
set_option linter.unusedSimpArgs false
theorem nodup_sub {l : List Nat} : ∀ {l' : List Nat}, l.Nodup → (∀ x ∈ l, x ∈ l') → l.length ≤ l'.length := by
  induction l with
  | nil => exact fun _ _ => Nat.zero_le _
  | cons a l ih =>
    intro l' hn hs
    rw [List.nodup_cons] at hn
    have ha := hs a (by simp)
    have h1 := ih (l' := l'.erase a) hn.2 fun x hx => by
      have hne : x ≠ a := fun e => hn.1 (e ▸ hx)
      exact (List.mem_erase_of_ne hne).2 (hs x (by simp [hx]))
    rw [List.length_erase_of_mem ha] at h1
    have := List.length_pos_of_mem ha
    rw [List.length_cons]; omega
theorem nodup_inj {l l' : List Nat} {f : Nat → Nat} (hn : l.Nodup) (hi : ∀ x ∈ l, ∀ y ∈ l, f x = f y → x = y) (hs : ∀ x ∈ l, f x ∈ l') : l.length ≤ l'.length := by
  have h1 : (l.map f).Nodup := by
    rw [List.nodup_iff_pairwise_ne, List.pairwise_map]
    refine List.Pairwise.imp_of_mem ?_ (List.nodup_iff_pairwise_ne.1 hn)
    exact fun {a b} ha hb hne e => hne (hi a ha b hb e)
  have := nodup_sub (l' := l') h1 (fun x hx => by
    obtain ⟨y, hy, rfl⟩ := List.mem_map.1 hx
    exact hs y hy)
  simpa using this
theorem range_get (w : List Int) : (List.range w.length).map (fun m => (w[m]?).getD (-1)) = w := by
  apply List.ext_getElem?
  intro i
  rw [List.getElem?_map]
  by_cases hi : i < w.length
  · rw [List.getElem?_range hi, List.getElem?_eq_getElem hi]; simp [List.getElem?_eq_getElem hi]
  · rw [List.getElem?_eq_none (by simp; omega), List.getElem?_eq_none (by omega)]; rfl
theorem countP_ix (P : Int → Bool) (w : List Int) : w.countP P = ((List.range w.length).filter fun m => P ((w[m]?).getD (-1))).length := by
  conv => lhs; rw [← range_get w, List.countP_map, List.countP_eq_length_filter]
  rfl
def busy (x : Int) : Bool := decide (x ≠ -1)
theorem count_busy (w : List Int) : w.count (-1) + w.countP busy = w.length := by
  induction w with
  | nil => rfl
  | cons a w ih =>
    rw [List.count_cons, List.countP_cons, List.length_cons]
    by_cases h : a = -1
    · simp [h, busy] at ih ⊢; omega
    · simp [h, busy] at ih ⊢; omega
/-- How many machines of an hour have some of these runs. -/
def inR (R : List Int) (l : List Int) : Nat := l.countP fun x => R.contains x
/-- The runs that a search has reached. -/
def gotR (q : Qu) (by' : By) : List Int := selL (fun r => decide (Nd.ru r ∈ keys by')) q.rs.length
theorem mem_got {q : Qu} {by' : By} {r : Nat} : (r : Int) ∈ gotR q by' ↔ r < q.rs.length ∧ Nd.ru r ∈ keys by' := by
  unfold gotR
  rw [mem_selL]
  constructor
  · rintro ⟨x, e, h1, h2⟩
    have : r = x := by omega
    subst this
    exact ⟨h1, by simpa using h2⟩
  · rintro ⟨h1, h2⟩
    exact ⟨r, rfl, h1, by simpa using h2⟩
theorem row_full {q : Qu} (hq : q.ok) {p : List (List Int)} (hp : LP q p) {run : Nat} {by' : By} (hB : BX q p run (by', [])) {h : Nat} {l : List Int} (hl : p[h]? = some l) : q.atM h (gotR q by') ≤ inR (gotR q by') l := by
  have hh := (List.getElem?_eq_some_iff.1 hl).1
  have Rw := hp.rows h l hl
  have hrr : Runs q (gotR q by') := Runs.of_rising selL_rising
  obtain ⟨M, hM, hM4⟩ := atM_is hq (h := h) hrr
  have hcl : ∀ n ∈ keys by', isFree p n = false ∧ ∀ x ∈ nx q p n, x ∈ keys by' := fun n hn => by
    rcases hB.cl n hn with h1 | h1
    · cases h1
    · exact h1
  have okr : ∀ n ∈ keys by', n.ok q p := fun n hn => by
    obtain ⟨e, he, rfl⟩ := List.mem_map.1 hn
    exact (hB.b.b.ok e he).1
  have fa : ∀ r : Nat, Nd.ru r ∈ keys by' → onI p r h = -1 → Nd.rh r h ∈ keys by' := fun r hr ho => (hcl _ hr).2 _ (nx_ru.2 ⟨h, hh, ho, rfl⟩)
  have fb : ∀ r m : Nat, Nd.rh r h ∈ keys by' → m < q.ms.length → q.may r m h = true → who p h m ≠ (r : Int) → Nd.mh m h ∈ keys by' := fun r m hr h1 h2 h3 => (hcl _ hr).2 _ (nx_rh.2 (.inl ⟨m, h1, h2, h3, rfl⟩))
  have fc : ∀ r : Nat, Nd.rh r h ∈ keys by' → onI p r h ≠ -1 → Nd.ru r ∈ keys by' := fun r hr h1 => (hcl _ hr).2 _ (nx_rh.2 (.inr ⟨h1, rfl⟩))
  have fd : ∀ m : Nat, Nd.mh m h ∈ keys by' → ∃ r : Nat, who p h m = (r : Int) ∧ Nd.rh r h ∈ keys by' ∧ (r : Int) ∈ gotR q by' := fun m hm => by
    obtain ⟨f1, f2⟩ := hcl _ hm
    have h1 : ¬ who p h m = -1 := by simpa [isFree] using f1
    have h2 := hp.pw.who h m
    obtain ⟨r, hr⟩ : ∃ r : Nat, who p h m = r := ⟨(who p h m).toNat, by omega⟩
    have h3 := f2 _ (nx_mh.2 rfl)
    rw [hr, Int.toNat_natCast] at h3
    exact ⟨r, hr, h3, mem_got.2 ⟨by omega, fc r h3 fun ho => onI_no ho m hr⟩⟩
  have hcM := count_busy M
  rw [hM.len] at hcM
  have hA : q.atM h (gotR q by') = M.countP busy := by omega
  rw [hA, inR, countP_ix, countP_ix, hM.len, Rw.len]
  have hcell : ∀ m : Nat, m ∈ (List.range 4).filter (fun m => busy ((M[m]?).getD (-1))) → ∃ r : Nat, M[m]? = some (r : Int) ∧ m < q.ms.length ∧ q.may r m h = true ∧ Nd.ru r ∈ keys by' ∧ r < q.rs.length := fun m hm => by
    rw [List.mem_filter, List.mem_range] at hm
    have hm4 : m < M.length := by rw [hM.len]; exact hm.1
    have e : M[m]? = some M[m] := List.getElem?_eq_getElem hm4
    have h1 : M[m] ≠ -1 := by have := hm.2; rw [e] at this; simpa [busy] using this
    have h2 := hM.ok _ (List.getElem_mem hm4)
    obtain ⟨r, hr⟩ : ∃ r : Nat, M[m] = r := ⟨M[m].toNat, by omega⟩
    rw [hr] at e
    obtain ⟨_, o2, o3, o4⟩ := hM.on m r e
    obtain ⟨o5, o6⟩ := mem_got.1 o3
    exact ⟨r, e, o2, o4, o6, o5⟩
  have hoff : ∀ r : Nat, Nd.ru r ∈ keys by' → Nd.rh r h ∉ keys by' → ∃ i : Nat, (onI p r h).toNat = i ∧ l[i]? = some (r : Int) := fun r h1 h2 => by
    have ho : onI p r h ≠ -1 := fun e => h2 (fa r h1 e)
    unfold onI at ho ⊢
    rw [hl, Option.getD_some] at ho ⊢
    rcases onR_lt (l := l) (v := (r : Int)) with e | ⟨i, e1, _, e2⟩
    · exact absurd e ho
    · exact ⟨i, by rw [e1, Int.toNat_natCast], e2⟩
  refine nodup_inj (f := fun m => if Nd.rh ((M[m]?).getD (-1)).toNat h ∈ keys by' then m else (onI p ((M[m]?).getD (-1)).toNat h).toNat) (List.nodup_range.filter _) (fun m1 hm1 m2 hm2 e => ?_) (fun m hm => ?_)
  · obtain ⟨r1, a1, a2, a3, a4, _⟩ := hcell m1 hm1
    obtain ⟨r2, b1, b2, b3, b4, _⟩ := hcell m2 hm2
    simp only [a1, b1, Option.getD_some, Int.toNat_natCast] at e
    have key : ∀ (m1 m2 r1 r2 : Nat), M[m1]? = some (r1 : Int) → m1 < q.ms.length → q.may r1 m1 h = true → Nd.ru r2 ∈ keys by' → Nd.rh r1 h ∈ keys by' → Nd.rh r2 h ∉ keys by' → m1 = (onI p r2 h).toNat → False := fun m1 m2 r1 r2 a1 a2 a3 b4 c1 c2 e => by
      obtain ⟨i, e1, e2⟩ := hoff r2 b4 c2
      rw [e1] at e
      subst e
      have hw := who_is hl e2
      by_cases hrr : r2 = r1
      · subst hrr; exact c2 c1
      · have := fb r1 m1 c1 a2 a3 (by rw [hw]; omega)
        obtain ⟨r3, d1, d2, _⟩ := fd m1 this
        rw [hw] at d1
        have : r2 = r3 := by omega
        subst this
        exact c2 d2
    by_cases c1 : Nd.rh r1 h ∈ keys by' <;> by_cases c2 : Nd.rh r2 h ∈ keys by'
    · rw [if_pos c1, if_pos c2] at e; exact e
    · rw [if_pos c1, if_neg c2] at e; exact (key m1 m2 r1 r2 a1 a2 a3 b4 c1 c2 e).elim
    · rw [if_neg c1, if_pos c2] at e; exact (key m2 m1 r2 r1 b1 b2 b3 a4 c2 c1 e.symm).elim
    · rw [if_neg c1, if_neg c2] at e
      obtain ⟨i, e1, e2⟩ := hoff r1 a4 c1
      obtain ⟨j, f1, f2⟩ := hoff r2 b4 c2
      rw [e1, f1] at e
      subst e
      rw [e2] at f2
      have : r1 = r2 := by have := Option.some.inj f2; omega
      subst this
      exact hM.one _ _ _ a1 b1
  · obtain ⟨r, a1, a2, a3, a4, a5⟩ := hcell m hm
    rw [List.mem_filter, List.mem_range] at hm ⊢
    simp only [a1, Option.getD_some, Int.toNat_natCast]
    split
    · rename_i c1
      refine ⟨hm.1, ?_⟩
      have hml : m < l.length := by rw [Rw.len]; exact hm.1
      have e : l[m]? = some l[m] := List.getElem?_eq_getElem hml
      have hw := who_is hl e
      rw [e, Option.getD_some, ← hw, List.contains_iff_mem]
      by_cases hwr : who p h m = (r : Int)
      · rw [hwr]; exact mem_got.2 ⟨a5, a4⟩
      · obtain ⟨r3, d1, _, d3⟩ := fd m (fb r m c1 a2 a3 hwr)
        rw [d1]; exact d3
    · rename_i c1
      obtain ⟨i, e1, e2⟩ := hoff r a4 c1
      rw [e1, e2, Option.getD_some, List.contains_iff_mem]
      refine ⟨by rw [← Rw.len]; exact (List.getElem?_eq_some_iff.1 e2).1, mem_got.2 ⟨a5, a4⟩⟩
end Go.Proofs.Ytohhjnpiiackjaa
/-! Layer 10 (queue), plain law: the plan that is laid is right, and none that is shorter is. -/
namespace Go.Proofs.Ytohhjnpiiackjaa
open Go.RowKit
set_option linter.unusedSimpArgs false
/-- How many hours of a plan some runs have. -/
def tot (R : List Int) (p : List (List Int)) : Nat := (p.map (inR R)).sum
theorem Runs.nodup {q : Qu} {R : List Int} (h : Runs q R) : R.Nodup := by
  rw [List.nodup_iff_pairwise_ne, List.pairwise_iff_getElem]
  intro i j hi hj hij e
  have hx := h.inn R[i] (List.getElem_mem hi)
  obtain ⟨r, hr⟩ : ∃ r : Nat, R[i] = r := ⟨R[i].toNat, by omega⟩
  have := h.one i j r (by rw [List.getElem?_eq_getElem hi, hr]) (by rw [List.getElem?_eq_getElem hj, ← e, hr])
  omega
theorem inR_cons {a : Int} {R : List Int} (ha : a ∉ R) (l : List Int) : inR (a :: R) l = l.count a + inR R l := by
  unfold inR
  induction l with
  | nil => rfl
  | cons x l ih =>
    rw [List.countP_cons, List.countP_cons, List.count_cons, ih]
    by_cases e : x = a
    · subst e
      have h1 : R.contains x = false := by
        rw [Bool.eq_false_iff]; intro h; exact ha (List.contains_iff_mem.1 h)
      simp [ha]; omega
    · have h1 : (a :: R).contains x = R.contains x := by
        rw [List.contains_cons]
        have : (x == a) = false := by simpa using e
        rw [this, Bool.false_or]
      have h2 : (x == a) = false := by simpa using e
      rw [h1, h2]
      simp only [Bool.false_eq_true, if_false]
      omega
theorem inR_sum {R : List Int} (hn : R.Nodup) (l : List Int) : inR R l = (R.map fun x => l.count x).sum := by
  induction R with
  | nil => unfold inR; simp
  | cons a R ih =>
    rw [List.nodup_cons] at hn
    rw [inR_cons hn.1, List.map_cons, List.sum_cons, ih hn.2]
theorem sum_add (R : List Int) (f g : Int → Nat) : (R.map fun x => f x + g x).sum = (R.map f).sum + (R.map g).sum := by
  induction R with
  | nil => rfl
  | cons a R ih => simp only [List.map_cons, List.sum_cons, ih]; omega
theorem tot_cnt {R : List Int} (hn : R.Nodup) (h0 : ∀ x ∈ R, 0 ≤ x) : ∀ p : List (List Int), tot R p = (R.map fun x => cnt p x.toNat).sum
  | [] => by
    have : ∀ R : List Int, (R.map fun x => cnt [] x.toNat).sum = 0 := fun R => by
      induction R with
      | nil => rfl
      | cons a R ih => rw [List.map_cons, List.sum_cons, ih]; rfl
    rw [this]; rfl
  | l :: p => by
    have h1 : tot R (l :: p) = inR R l + tot R p := by unfold tot; rw [List.map_cons, List.sum_cons]
    have h2 : (R.map fun x => cnt (l :: p) x.toNat) = R.map fun x => l.count x + cnt p x.toNat := by
      refine List.map_congr_left fun x hx => ?_
      have := h0 x hx
      unfold cnt
      rw [List.map_cons, List.sum_cons, Int.toNat_of_nonneg this]
    rw [h1, h2, sum_add, tot_cnt hn h0 p, inR_sum hn]
theorem room_tot {q : Qu} {R : List Int} {p : List (List Int)} (h : ∀ (k : Nat) (l : List Int), p[k]? = some l → q.atM k R ≤ inR R l) : ∀ k, k ≤ p.length → q.roomM R k ≤ tot R (p.take k)
  | 0, _ => Nat.zero_le _
  | k + 1, hk => by
    have e : p[k]? = some p[k] := List.getElem?_eq_getElem (by omega)
    have h1 := room_tot h k (by omega)
    have h2 := h k _ e
    have h3 : tot R (p.take (k + 1)) = tot R (p.take k) + inR R p[k] := by unfold tot; rw [take_next e, List.map_append, List.sum_append]; simp
    show q.roomM R k + q.atM k R ≤ _
    omega
theorem tot_room {q : Qu} {R : List Int} {p : List (List Int)} (h : ∀ (k : Nat) (l : List Int), p[k]? = some l → inR R l ≤ q.atM k R) : ∀ k, k ≤ p.length → tot R (p.take k) ≤ q.roomM R k
  | 0, _ => by simp [tot]
  | k + 1, hk => by
    have e : p[k]? = some p[k] := List.getElem?_eq_getElem (by omega)
    have h1 := tot_room h k (by omega)
    have h2 := h k _ e
    have h3 : tot R (p.take (k + 1)) = tot R (p.take k) + inR R p[k] := by unfold tot; rw [take_next e, List.map_append, List.sum_append]; simp
    show _ ≤ q.roomM R k + q.atM k R
    omega
/-- No plan gives runs more hours than they have room. -/
theorem LP.tot_le {q : Qu} (hq : q.ok) {p : List (List Int)} (hp : LP q p) {R : List Int} (hR : Runs q R) : tot R p ≤ q.roomM R p.length := by
  have := tot_room (q := q) (R := R) (p := p) (fun k l hl => by
    have Rw := hp.rows k l hl
    have hg : ∀ (m : Nat) (x : Int), (l.map fun x => if R.contains x = true then x else -1)[m]? = some x → ∃ y, l[m]? = some y ∧ ((R.contains y = true ∧ x = y) ∨ (R.contains y = false ∧ x = -1)) := fun m x e => by
      rw [List.getElem?_map, Option.map_eq_some_iff] at e
      obtain ⟨y, h1, h2⟩ := e
      refine ⟨y, h1, ?_⟩
      split at h2
      · rename_i hc; exact .inl ⟨hc, h2.symm⟩
      · rename_i hc; exact .inr ⟨by simpa using hc, h2.symm⟩
    have hM : Mt q k (fun r => (r : Int) ∈ R) 0 (l.map fun x => if R.contains x = true then x else -1) := by
      refine ⟨by simpa using Rw.len, fun x hx => ?_, fun m r e => ?_, fun m m' r e e' => ?_⟩
      · obtain ⟨m, hm⟩ := List.mem_iff_getElem?.1 hx
        obtain ⟨y, h1, h2⟩ := hg m x hm
        rcases h2 with ⟨_, rfl⟩ | ⟨_, rfl⟩
        · exact Rw.ok _ (List.mem_of_getElem? h1)
        · exact .inl rfl
      · obtain ⟨y, h1, h2⟩ := hg m r e
        rcases h2 with ⟨h2, rfl⟩ | ⟨_, h2⟩
        · obtain ⟨o1, o2, o3, o4⟩ := Rw.on m r h1
          exact ⟨o1, o2, List.contains_iff_mem.1 h2, o4⟩
        · omega
      · obtain ⟨y, h1, h2⟩ := hg m r e
        obtain ⟨y', h1', h2'⟩ := hg m' r e'
        rcases h2 with ⟨_, rfl⟩ | ⟨_, h2⟩
        · rcases h2' with ⟨_, rfl⟩ | ⟨_, h2'⟩
          · exact Rw.one _ _ _ h1 h1'
          · omega
        · omega
    have h1 := atM_ge hq hR hM
    have h2 := count_busy (l.map fun x => if R.contains x = true then x else -1)
    rw [hM.len, List.countP_map] at h2
    have h3 : l.countP (busy ∘ fun x => if R.contains x = true then x else -1) = inR R l := by
      unfold inR
      refine List.countP_congr fun x _ => ?_
      simp only [Function.comp, busy]
      rw [decide_eq_true_eq]
      by_cases hc : R.contains x = true
      · have := hR.inn x (List.contains_iff_mem.1 hc)
        simp only [hc, iff_true, if_true]
        omega
      · simp only [hc, iff_false]
        simp
    rw [h3] at h2
    omega) p.length (Nat.le_refl _)
  rwa [List.take_length] at this
/-- Some runs, this one with them, fill all their room. -/
def Stuck (q : Qu) (p : List (List Int)) (r : Nat) : Prop := ∃ R, q.rising R = true ∧ (r : Int) ∈ R ∧ q.roomM R p.length ≤ tot R p
theorem giveP_none {F : Nat} (hF : 407 < F) {q : Qu} (hq : q.ok) {p : List (List Int)} (hp : LP q p) {run : Nat} (hr : run < q.rs.length) (h : giveP F q p run = none) : Stuck q p run := by
  rcases bfs_ends hq hp.pw F _ _ (BX.start (q := q) (p := p) hr) (by simp; omega) with ⟨by2, todo2, n, i, b, hB, hi, hf, he⟩ | ⟨_, by2, hB⟩
  · unfold giveP at h
    rw [he] at h; cases h
  · refine ⟨gotR q by2, selL_rising, mem_got.2 ⟨hr, hB.r⟩, ?_⟩
    have := room_tot (fun k l hl => row_full hq hp hB hl) p.length (Nat.le_refl _)
    rwa [List.take_length] at this
theorem tot_mono {R : List Int} (hn : R.Nodup) (h0 : ∀ x ∈ R, 0 ≤ x) {p p' : List (List Int)} (h : ∀ x, cnt p x ≤ cnt p' x) : tot R p ≤ tot R p' := by
  rw [tot_cnt hn h0, tot_cnt hn h0]
  clear hn h0
  induction R with
  | nil => exact Nat.le_refl _
  | cons a R ih => simp only [List.map_cons, List.sum_cons]; have := h a.toNat; omega
theorem Stuck.mono {q : Qu} {p p' : List (List Int)} {r : Nat} (h : Stuck q p r) (hl : p'.length = p.length) (hc : ∀ x, cnt p x ≤ cnt p' x) : Stuck q p' r := by
  obtain ⟨R, h1, h2, h3⟩ := h
  have hR := Runs.of_rising h1
  exact ⟨R, h1, h2, by rw [hl]; exact Nat.le_trans h3 (tot_mono hR.nodup (fun x hx => (hR.inn x hx).1) hc)⟩
theorem delM_spec {F : Nat} (hF : 407 < F) {q : Qu} (hq : q.ok) : ∀ (l : List Nat) (p : List (List Int)), LP q p → (∀ r ∈ l, r < q.rs.length) →
    LP q (delM F q p l).1 ∧ (delM F q p l).1.length = p.length ∧ (∀ x, cnt (delM F q p l).1 x + (delM F q p l).2.count x = cnt p x + l.count x) ∧ (∀ x, cnt p x ≤ cnt (delM F q p l).1 x) ∧ (∀ r ∈ (delM F q p l).2, r ∈ l ∧ Stuck q (delM F q p l).1 r)
  | [], p, hp, _ => ⟨hp, rfl, fun _ => rfl, fun _ => Nat.le_refl _, fun r hr => by cases hr⟩
  | r :: l, p, hp, hl => by
    have hl' : ∀ x ∈ l, x < q.rs.length := fun x hx => hl x (by simp [hx])
    have hr := hl r (by simp)
    unfold delM
    cases hg : giveP F q p r with
    | some p' =>
      obtain ⟨g1, g2, g3⟩ := giveP_some hF hq hp hr hg
      obtain ⟨k1, k2, k3, k4, k5⟩ := delM_spec hF hq l p' g1 hl'
      refine ⟨k1, k2.trans g2, fun x => ?_, fun x => Nat.le_trans (by rw [g3]; omega) (k4 x), fun y hy => ⟨by simp [(k5 y hy).1], (k5 y hy).2⟩⟩
      simp only
      rw [k3, g3, List.count_cons]
      by_cases e : r = x
      · simp [e]; omega
      · simp [e]
    | none =>
      have hst := giveP_none hF hq hp hr hg
      obtain ⟨k1, k2, k3, k4, k5⟩ := delM_spec hF hq l p hp hl'
      refine ⟨k1, k2, fun x => ?_, k4, fun y hy => ?_⟩
      · simp only
        rw [List.count_cons, List.count_cons, ← Nat.add_assoc, k3, Nat.add_assoc]
      · simp only at hy ⊢
        rcases List.mem_cons.1 hy with e | e
        · subst e
          exact ⟨by simp, hst.mono k2 k4⟩
        · exact ⟨by simp [(k5 y e).1], (k5 y e).2⟩
/-- Some runs need more hours than they have room for. -/
def Lack (q : Qu) (T : Nat) : Prop := ∃ R, q.rising R = true ∧ (q.roomM R T : Int) < q.needs R
/-- Each run has its hours. -/
def Done (q : Qu) (p : List (List Int)) : Prop := ∀ x, x < q.rs.length → (cnt p x : Int) = (q.run x).hours
theorem needs_sum {q : Qu} {R : List Int} (h0 : ∀ x ∈ R, 0 ≤ x ∧ x < q.rs.length) {f : Nat → Nat} (hf : ∀ x, x < q.rs.length → (f x : Int) = (q.run x).hours) : q.needs R = ((R.map fun x => f x.toNat).sum : Nat) := by
  unfold Qu.needs
  induction R with
  | nil => rfl
  | cons a R ih =>
    rw [List.map_cons, List.sum_cons, List.map_cons, List.sum_cons, ih fun x hx => h0 x (by simp [hx])]
    have ha := h0 a (by simp)
    have h1 := hf a.toNat (by omega)
    have h2 : q.hrs a = (q.run a.toNat).hours := by unfold Qu.hrs Qu.run; cases q.rs[a.toNat]? <;> rfl
    rw [h2, ← h1]; omega
theorem stuck_lack {q : Qu} {p : List (List Int)} {l : List Nat} {r : Nat} (hs : Stuck q p r) (hr : r ∈ l) (hc : ∀ x, x < q.rs.length → ((cnt p x + l.count x : Nat) : Int) = (q.run x).hours) : Lack q p.length := by
  obtain ⟨R, h1, h2, h3⟩ := hs
  have hR := Runs.of_rising h1
  refine ⟨R, h1, ?_⟩
  rw [needs_sum hR.inn hc, sum_add R (fun x => cnt p x.toNat) (fun x => l.count x.toNat), ← tot_cnt hR.nodup fun x hx => (hR.inn x hx).1]
  have h4 : 1 ≤ (R.map fun x => l.count x.toNat).sum := by
    clear h1 h3 hR hc
    induction R with
    | nil => cases h2
    | cons a R ih =>
      rw [List.map_cons, List.sum_cons]
      rcases List.mem_cons.1 h2 with e | e
      · subst e
        have : 1 ≤ l.count r := List.count_pos_iff.2 hr
        rw [Int.toNat_natCast]; omega
      · have := ih e; omega
  omega
theorem LP.nil {q : Qu} : LP q [] := ⟨fun h l e => by simp at e, by simp⟩
theorem LP.more {q : Qu} {p : List (List Int)} (hp : LP q p) (hl : p.length < 40) : LP q (p ++ [idle4]) := by
  refine ⟨fun h l e => ?_, by simp; omega⟩
  rw [List.getElem?_append] at e
  split at e
  · exact hp.rows h l e
  · have h0 : h - p.length = 0 := by
      have := (List.getElem?_eq_some_iff.1 e).1
      simp at this; omega
    rw [h0] at e
    simp at e
    subst e
    exact Mt.idle
theorem cnt_more {p : List (List Int)} {x : Nat} : cnt (p ++ [idle4]) x = cnt p x := by
  rw [cnt_app, cnt_one]
  have : idle4.count (x : Int) = 0 := List.count_eq_zero.2 fun h => by simp [idle4] at h
  rw [this]; rfl
theorem layM_spec {F : Nat} (hF : 407 < F) {q : Qu} (hq : q.ok) : ∀ (n : Nat) (p : List (List Int)) (l : List Nat), LP q p → (∀ r ∈ l, r < q.rs.length) → (∀ x, x < q.rs.length → ((cnt p x + l.count x : Nat) : Int) = (q.run x).hours) → (∀ r ∈ l, Stuck q p r) → (p.length = 0 ∨ Lack q (p.length - 1)) → p.length + n = 41 →
    (∃ p', layM F q n p l = some p' ∧ LP q p' ∧ Done q p' ∧ (p'.length = 0 ∨ Lack q (p'.length - 1))) ∨ (layM F q n p l = none ∧ Lack q 40)
  | n, p, [], hp, _, hc, _, hL, _ => .inl ⟨p, by cases n <;> rfl, hp, fun x hx => by have := hc x hx; simpa using this, hL⟩
  | 0, p, r :: l, hp, _, _, _, _, hn => by have := hp.len; omega
  | n + 1, p, r :: l, hp, hl, hc, hs, hL, hn => by
    have hk := stuck_lack (hs r (by simp)) (by simp) hc
    unfold layM
    split
    · rename_i h40
      rw [h40] at hk
      exact .inr ⟨rfl, hk⟩
    · rename_i h40
      have h1 := hp.len
      obtain ⟨k1, k2, k3, _, k5⟩ := delM_spec hF hq (r :: l) _ (hp.more (by omega)) hl
      have e : (p ++ [idle4]).length = p.length + 1 := by simp
      rw [e] at k2
      refine layM_spec hF hq n _ _ k1 (fun x hx => hl x (k5 x hx).1) (fun x hx => ?_) (fun x hx => (k5 x hx).2) (.inr ?_) (by omega)
      · rw [k3, cnt_more]; exact hc x hx
      · rw [k2, Nat.add_sub_cancel]; exact hk
theorem units_count {q : Qu} {x : Nat} : ∀ k, ((List.range k).flatMap fun i => List.replicate (q.run i).hours.toNat i).count x = if x < k then (q.run x).hours.toNat else 0
  | 0 => rfl
  | k + 1 => by
    rw [List.range_succ, List.flatMap_append, List.count_append, units_count k]
    simp only [List.flatMap_cons, List.flatMap_nil, List.append_nil, List.count_replicate]
    by_cases e : k = x
    · subst e; simp
    · have : (k == x) = false := by simpa using e
      rw [this]
      by_cases h : x < k
      · have h' : x < k + 1 := by omega
        simp [h, h']
      · have h' : ¬ x < k + 1 := fun h' => h (by omega)
        simp [h, h']
/-- What is laid: a right plan, and some runs lack room in a shorter one; or some runs lack room in 40 hours. -/
theorem lay_spec {F : Nat} (hF : 407 < F) {q : Qu} (hq : q.ok) : (∃ p, q.layP F = some p ∧ LP q p ∧ Done q p ∧ (p.length = 0 ∨ Lack q (p.length - 1))) ∨ (q.layP F = none ∧ Lack q 40) := by
  refine layM_spec hF hq 41 [] q.units LP.nil units_lt (fun x hx => ?_) (fun r hr => ?_) (.inl rfl) rfl
  · have h1 : q.units.count x = _ := units_count (q := q) (x := x) q.rs.length
    rw [h1, if_pos hx]
    have h2 : cnt [] x = 0 := rfl
    have hx' : q.rs[x]? = some q.rs[x] := List.getElem?_eq_getElem hx
    have h3 := (hq.h _ (List.getElem_mem hx)).1
    have h4 : q.run x = q.rs[x] := by unfold Qu.run; rw [hx']; rfl
    rw [h2, h4]; omega
  · have hr' := units_lt r hr
    refine ⟨[(r : Int)], ?_, by simp, Nat.zero_le _⟩
    simp [Qu.rising, Qu.risAt]
    omega
/-- In no plan do runs lack room for what they have run. -/
theorem Lack.no {q : Qu} (hq : q.ok) {p : List (List Int)} (hp : LP q p) (hd : Done q p) : ¬ Lack q p.length := by
  rintro ⟨R, h1, h2⟩
  have hR := Runs.of_rising h1
  have h3 := hp.tot_le hq hR
  rw [tot_cnt hR.nodup fun x hx => (hR.inn x hx).1] at h3
  rw [needs_sum hR.inn hd] at h2
  omega
end Go.Proofs.Ytohhjnpiiackjaa
/-! Layer 10 (queue), plain law: right plans; the earliest end. -/
namespace Go.Proofs.Ytohhjnpiiackjaa
open Go.RowKit
set_option linter.unusedSimpArgs false
/-- There is a right plan of so many hours. -/
def Feas (q : Qu) (T : Nat) : Prop := ∃ p, LP q p ∧ p.length = T ∧ Done q p
theorem Feas.up {q : Qu} {T : Nat} (h : Feas q T) : ∀ {T' : Nat}, T ≤ T' → T' ≤ 40 → Feas q T'
  | 0, h1, _ => by
    have : T = 0 := by omega
    subst this
    exact h
  | T' + 1, h1, h2 => by
    by_cases e : T = T' + 1
    · subst e; exact h
    · obtain ⟨p, a, b, c⟩ := Feas.up h (T' := T') (by omega) (by omega)
      exact ⟨p ++ [idle4], a.more (by omega), by simp [b], fun x hx => by rw [cnt_more]; exact c x hx⟩
theorem Lack.feas {q : Qu} (hq : q.ok) {T T' : Nat} (h : Lack q T) (h1 : T' ≤ T) (h2 : T ≤ 40) : ¬ Feas q T' := fun hf => by
  obtain ⟨p, a, b, c⟩ := hf.up h1 h2
  rw [← b] at h
  exact h.no hq a c
theorem row_cells {q : Qu} (hq : q.ok) {h : Nat} {l : List Int} (hl : Row q h l) : q.rowB h (l.take q.ms.length) = true := by
  have hm4 := hq.m
  have hlen : (l.take q.ms.length).length = q.ms.length := by rw [List.length_take, hl.len]; omega
  unfold Qu.rowB
  rw [hlen, decide_eq_true rfl, Bool.true_and]
  refine allR_true fun m hm => ?_
  have hml : m < l.length := by rw [hl.len]; omega
  have e : l[m]? = some l[m] := List.getElem?_eq_getElem hml
  have e2 : (l.take q.ms.length)[m]? = some l[m] := by rw [List.getElem?_take, if_pos hm, e]
  unfold Qu.cellB
  rw [e2, Option.getD_some]
  rcases hl.ok _ (List.getElem_mem hml) with h1 | h1
  · rw [h1]; rfl
  · obtain ⟨r, hr⟩ : ∃ r : Nat, l[m] = r := ⟨l[m].toNat, by omega⟩
    rw [hr] at e ⊢
    obtain ⟨_, o2, o3, o4⟩ := hl.on m r e
    have o5 : r < q.rs.length := o3
    have hno : ((l.take q.ms.length).take m).contains (r : Int) = false := by
      rw [Bool.eq_false_iff]
      intro hc
      obtain ⟨j, hj⟩ := List.mem_iff_getElem?.1 (List.contains_iff_mem.1 hc)
      rw [List.getElem?_take] at hj
      split at hj
      · rw [List.getElem?_take] at hj
        split at hj
        · have := hl.one _ _ _ hj e; omega
        · cases hj
      · cases hj
    rw [hno, Int.toNat_natCast, o4]
    simp; omega
theorem count_cut {q : Qu} {h : Nat} {l : List Int} (hl : Row q h l) (x : Nat) : (l.take q.ms.length).count (x : Int) = l.count (x : Int) := by
  conv => rhs; rw [← List.take_append_drop q.ms.length l]
  rw [List.count_append]
  have : (l.drop q.ms.length).count (x : Int) = 0 := List.count_eq_zero.2 fun hx => by
    obtain ⟨m, hm⟩ := List.mem_iff_getElem?.1 hx
    rw [List.getElem?_drop] at hm
    have := (hl.on _ x hm).2.1
    omega
  omega
theorem cnt_map {p : List (List Int)} {f : List Int → List Int} {x : Nat} (h : ∀ l ∈ p, (f l).count (x : Int) = l.count (x : Int)) : cnt (p.map f) x = cnt p x := by
  induction p with
  | nil => rfl
  | cons l p ih =>
    have h1 := ih fun l hl => h l (by simp [hl])
    have h2 := h l (by simp)
    unfold cnt at h1 ⊢
    simp only [List.map_cons, List.sum_cons] at h1 ⊢
    omega
theorem LP.row {q : Qu} {p : List (List Int)} (hp : LP q p) {l : List Int} (hl : l ∈ p) : ∃ h : Nat, Row q h l := by
  obtain ⟨h, hh⟩ := List.mem_iff_getElem?.1 hl
  exact ⟨h, hp.rows h l hh⟩
theorem right_of {q : Qu} (hq : q.ok) {p : List (List Int)} (hp : LP q p) (hd : Done q p) : q.right (q.cutP p) = true := by
  have hlen : (q.cutP p).length = p.length := by simp [Qu.cutP]
  have h1 := hp.len
  unfold Qu.right
  rw [Bool.and_eq_true, Bool.and_eq_true]
  refine ⟨⟨?_, ?_⟩, ?_⟩
  · rw [decide_eq_true_eq, hlen]; omega
  · refine allR_true fun h hh => ?_
    rw [hlen] at hh
    have e : (q.cutP p)[h]? = some (p[h].take q.ms.length) := by unfold Qu.cutP; rw [List.getElem?_map, List.getElem?_eq_getElem hh]; rfl
    rw [e, Option.getD_some]
    exact row_cells hq (hp.rows h _ (List.getElem?_eq_getElem hh))
  · refine allR_true fun i hi => ?_
    rw [decide_eq_true_eq]
    unfold Qu.cutP
    rw [cnt_map fun l hl => by obtain ⟨h, hh⟩ := hp.row hl; exact count_cut hh i]
    exact hd i hi
/-- Rows of four machines. -/
def padL (q : Qu) (l : List Int) : List Int := l ++ List.replicate (4 - q.ms.length) (-1)
theorem padL_get {q : Qu} {l : List Int} (hl : l.length = q.ms.length) {m r : Nat} (h : (padL q l)[m]? = some (r : Int)) : l[m]? = some (r : Int) := by
  unfold padL at h
  rw [List.getElem?_append] at h
  split at h
  · exact h
  · have := List.mem_of_getElem? h
    rw [List.mem_replicate] at this
    omega
theorem pad_row {q : Qu} (hq : q.ok) {h : Nat} {l : List Int} (hl : q.rowB h l = true) : Row q h (padL q l) := by
  have hm4 := hq.m
  unfold Qu.rowB at hl
  rw [Bool.and_eq_true, decide_eq_true_eq, List.all_eq_true] at hl
  obtain ⟨hlen, hc⟩ := hl
  have hcell : ∀ (m : Nat) (x : Int), l[m]? = some x → x = -1 ∨ (0 ≤ x ∧ x < q.rs.length ∧ q.may x.toNat m h = true ∧ x ∉ l.take m) := fun m x e => by
    have h1 := hc m (List.mem_range.2 (List.getElem?_eq_some_iff.1 e).1)
    unfold Qu.cellB at h1
    rw [e, Option.getD_some] at h1
    simp only [Bool.or_eq_true, Bool.and_eq_true, decide_eq_true_eq, Bool.not_eq_true', Bool.eq_false_iff] at h1
    rcases h1 with h1 | ⟨⟨⟨h1, h2⟩, h3⟩, h4⟩
    · exact .inl h1
    · exact .inr ⟨h1, by omega, h4, fun hm => h3 (List.contains_iff_mem.2 hm)⟩
  refine ⟨by unfold padL; rw [List.length_append, List.length_replicate]; omega, fun x hx => ?_, fun m r e => ?_, fun m m' r e e' => ?_⟩
  · unfold padL at hx
    rcases List.mem_append.1 hx with hx | hx
    · obtain ⟨m, hm⟩ := List.mem_iff_getElem?.1 hx
      rcases hcell m x hm with h1 | h1
      · exact .inl h1
      · exact .inr h1.1
    · rw [List.mem_replicate] at hx; exact .inl hx.2
  · have e1 := padL_get hlen e
    rcases hcell m r e1 with h1 | ⟨h1, h2, h3, _⟩
    · omega
    · rw [Int.toNat_natCast] at h3
      exact ⟨Nat.zero_le _, by rw [← hlen]; exact (List.getElem?_eq_some_iff.1 e1).1, (show r < q.rs.length by omega), h3⟩
  · have e1 := padL_get hlen e
    have e2 := padL_get hlen e'
    have key : ∀ a b : Nat, a < b → l[a]? = some (r : Int) → l[b]? = some (r : Int) → False := fun a b hab ha hb => by
      rcases hcell b r hb with h1 | ⟨_, _, _, h4⟩
      · omega
      · exact h4 (List.mem_of_getElem? (i := a) (by rw [List.getElem?_take, if_pos hab]; exact ha))
    rcases Nat.lt_trichotomy m m' with h1 | h1 | h1
    · exact (key m m' h1 e1 e2).elim
    · exact h1
    · exact (key m' m h1 e2 e1).elim
theorem count_pad {q : Qu} {l : List Int} {x : Nat} : (padL q l).count (x : Int) = l.count (x : Int) := by
  unfold padL
  rw [List.count_append]
  have : (List.replicate (4 - q.ms.length) (-1 : Int)).count (x : Int) = 0 := List.count_eq_zero.2 fun hx => by
    rw [List.mem_replicate] at hx; omega
  omega
theorem of_right {q : Qu} (hq : q.ok) {p : List (List Int)} (h : q.right p = true) : LP q (p.map (padL q)) ∧ Done q (p.map (padL q)) ∧ p.length ≤ 40 := by
  unfold Qu.right at h
  rw [Bool.and_eq_true, Bool.and_eq_true, decide_eq_true_eq] at h
  obtain ⟨⟨h1, h2⟩, h3⟩ := h
  unfold Qu.rowsB at h2
  unfold Qu.needB at h3
  rw [List.all_eq_true] at h2 h3
  refine ⟨⟨fun k l e => ?_, by rw [List.length_map]; omega⟩, fun x hx => ?_, by omega⟩
  · rw [List.getElem?_map, Option.map_eq_some_iff] at e
    obtain ⟨l0, e1, rfl⟩ := e
    have := h2 k (List.mem_range.2 (List.getElem?_eq_some_iff.1 e1).1)
    rw [e1, Option.getD_some] at this
    exact pad_row hq this
  · rw [cnt_map fun l _ => count_pad]
    simpa using h3 x (List.mem_range.2 hx)
theorem endK_dead {p : List (List Int)} : ∀ (k j : Nat), endK p k ≤ j → j < k → liveL ((p[j]?).getD []) = false
  | k + 1, j, h1, h2 => by
    unfold endK at h1
    by_cases hl : liveL ((p[k]?).getD []) = true
    · rw [if_pos hl] at h1; omega
    · rw [if_neg hl] at h1
      by_cases e : j = k
      · subst e; simpa using hl
      · exact endK_dead k j h1 (by omega)
theorem live_count {l : List Int} (h : liveL l = false) (x : Nat) : l.count (x : Int) = 0 := List.count_eq_zero.2 fun hx => by
  unfold liveL at h
  rw [List.any_eq_false] at h
  have := h _ hx
  simp at this
theorem LP.take {q : Qu} {p : List (List Int)} (hp : LP q p) (T : Nat) : LP q (p.take T) := by
  refine ⟨fun h l e => ?_, by have := hp.len; rw [List.length_take]; omega⟩
  rw [List.getElem?_take] at e
  split at e
  · exact hp.rows h l e
  · cases e
theorem cnt_zero {p : List (List Int)} {x : Nat} (h : ∀ l ∈ p, l.count (x : Int) = 0) : cnt p x = 0 := by
  induction p with
  | nil => rfl
  | cons l p ih =>
    have h1 := ih fun l hl => h l (by simp [hl])
    have h2 := h l (by simp)
    unfold cnt at h1 ⊢
    simp only [List.map_cons, List.sum_cons] at h1 ⊢
    omega
/-- A right plan is one of as many hours as its end says. -/
theorem feas_end {q : Qu} (hq : q.ok) {p : List (List Int)} (h : q.right p = true) : Feas q (endP p).toNat := by
  obtain ⟨h1, h2, h3⟩ := of_right hq h
  have hb := endK_bd p p.length
  have he : endP p = endK p p.length := rfl
  have hT : (endP p).toNat ≤ p.length := by omega
  refine ⟨(p.map (padL q)).take (endP p).toNat, h1.take _, by rw [List.length_take, List.length_map]; omega, fun x hx => ?_⟩
  rw [← h2 x hx]
  have : cnt (p.map (padL q)) x = cnt ((p.map (padL q)).take (endP p).toNat) x + cnt ((p.map (padL q)).drop (endP p).toNat) x := by
    rw [← cnt_app, List.take_append_drop]
  rw [this, cnt_zero (p := (p.map (padL q)).drop _)]
  · omega
  · intro l hl
    obtain ⟨j, hj⟩ := List.mem_iff_getElem?.1 hl
    rw [List.getElem?_drop, List.getElem?_map, Option.map_eq_some_iff] at hj
    obtain ⟨l0, e1, rfl⟩ := hj
    have hd := endK_dead (p := p) p.length ((endP p).toNat + j) (by omega) (List.getElem?_eq_some_iff.1 e1).1
    rw [e1, Option.getD_some] at hd
    rw [count_pad, live_count hd]
/-- What Earliest tells. -/
theorem early_spec {F : Nat} (hF : 407 < F) {q : Qu} (hq : q.ok) : (∃ p, q.layP F = some p ∧ q.right (q.cutP p) = true ∧ endP (q.cutP p) = p.length ∧ p.length ≤ 40 ∧ Feas q p.length ∧ (∀ T, T < p.length → ¬ Feas q T) ∧ (p.length = 0 ∨ Lack q (p.length - 1))) ∨ (q.layP F = none ∧ (∀ T, T ≤ 40 → ¬ Feas q T) ∧ Lack q 40) := by
  rcases lay_spec hF hq with ⟨p, h1, h2, h3, h4⟩ | ⟨h1, h2⟩
  · have hr := right_of hq h2 h3
    have hlen : (q.cutP p).length = p.length := by simp [Qu.cutP]
    have hno : ∀ T, T < p.length → ¬ Feas q T := fun T hT => by
      rcases h4 with h4 | h4
      · omega
      · exact h4.feas hq (by omega) (by have := h2.len; omega)
    have hf := feas_end hq hr
    have hb := endK_bd (q.cutP p) (q.cutP p).length
    have he : endP (q.cutP p) = endK (q.cutP p) (q.cutP p).length := rfl
    have hge : ¬ (endP (q.cutP p)).toNat < p.length := fun hlt => hno _ hlt hf
    exact .inl ⟨p, h1, hr, by omega, h2.len, ⟨p, h2, rfl, h3⟩, hno, h4⟩
  · exact .inr ⟨h1, fun T hT => h2.feas hq hT (by omega), h2⟩
/-- The earliest end; behind all hours, if there is none. -/
def firstV (F : Nat) (q : Qu) : Int := match q.layP F with
  | none => 1000
  | some p => p.length
theorem first_le {F : Nat} (hF : 407 < F) {q q' : Qu} (hq : q.ok) (hq' : q'.ok) (h : ∀ T, Feas q T → Feas q' T) : firstV F q' ≤ firstV F q := by
  unfold firstV
  rcases early_spec hF hq with ⟨p, e, _, _, hl, hf, _⟩ | ⟨e, _⟩ <;> rcases early_spec hF hq' with ⟨p', e', _, _, hl', _, hn', _⟩ | ⟨e', hn', _⟩ <;> rw [e, e']
  · simp only
    have : ¬ p.length < p'.length := fun hlt => hn' _ hlt (h _ hf)
    omega
  · exact (hn' _ hl (h _ hf)).elim
  · simp only; omega
  · exact Int.le_refl _
end Go.Proofs.Ytohhjnpiiackjaa
/-! Contracts of layer 10 (queue): whether runs need at most 40 hours together; the earliest end. -/
namespace Go.Proofs.Ytohhjnpiiackjaa
open Go.RowKit
set_option maxRecDepth 10000
set_option linter.unusedSimpArgs false
attribute [local simp] AS.exp expG Box.ren AV.map AV.mapL outsOk noRet Site.isRet Box.allS AV.allS AV.allSL retB dropL AS.adds renL outG outOk lentBx inG fnOf lookA List.findIdx?_cons
attribute [local simp] Box.purge Site.isLoc
attribute [local simp] retFz frzL AS.frz AV.frz AV.frzL Box.frz AS.tidy AS.frzC
def allR (q : Qu) : List Int := (List.range q.rs.length).map Int.ofNat
theorem allR_in {q : Qu} : ∀ x ∈ allR q, 0 ≤ x ∧ x < q.rs.length := fun x hx => by
  obtain ⟨r, hr, rfl⟩ := List.mem_map.1 hx
  rw [List.mem_range] at hr
  simp; omega
def Qu.light (q : Qu) : Bool := q.readyB && decide (q.needs (allR q) ≤ 40)
theorem Qu.light_of {q : Qu} (h : q.light = true) : q.small ∧ q.check = 0 ∧ q.ok ∧ q.needs (allR q) ≤ 40 := by
  unfold Qu.light Qu.readyB at h
  simp only [Bool.and_eq_true, decide_eq_true_eq] at h
  exact ⟨Qu.small_of h.1.1, h.1.2, Qu.ok_of h.1.2, h.2⟩
theorem light_c (q : Qu) : Gives Try.prog 46 [q.pv] (.bool q.light) := by
  refine calls_of_awpS mixed L46_ok (Nat.le_of_ble_eq_true rfl) ?_
  simp [-getElem?_pos, L46, Qu.pv]
  refine call_give (k := 0) (fs := []) (xs := [q.pv]) (cs := []) rfl rfl (ready_c q) rfl ?_
  cases ht : q.readyB with
  | false =>
    have : q.light = false := by unfold Qu.light; rw [ht]; rfl
    simp [-getElem?_pos, this]
  | true =>
    have ht2 : q.thin = true ∧ q.check = 0 := by simpa [Qu.readyB] using ht
    have hq := Qu.ok_of ht2.2
    have hr := hq.r
    have hl : q.light = decide (q.needs (allR q) ≤ 40) := by unfold Qu.light; rw [ht]; rfl
    rw [hl]
    have hal := all_c q (by omega)
    have hne := needs_c q (allR q) (by unfold allR; simp; omega) (by omega) hq.h allR_in
    have e : (List.range q.rs.length).map Int.ofNat = allR q := rfl
    rw [e] at hal
    generalize allR q = A at *
    simp [-getElem?_pos, frzsL]
    refine call_pv [] (fs := []) (xs := [q.pv]) (cs := []) rfl rfl hal ?_
    simp [-getElem?_pos, frzsL]
    refine .inl (call_pv [] (fs := []) (xs := [q.pv, intsP A]) (cs := []) rfl rfl hne ?_)
    simp [-getElem?_pos, frzsL]
/-- Earliest of a queue as the law has it. -/
theorem earl_of {F : Nat} (hF : 407 < F) {q : Qu} (hs : q.small) (hc : q.check = 0) : Gives Try.prog 27 [q.pv] (match q.layP F with
  | none => .tup [planP [], .int .i64 0, .int .i64 9]
  | some p => .tup [planP (q.cutP p), .int .i64 p.length, .int .i64 0]) := by
  have h1 := hs.m
  have h2 := hs.r
  have := earliest_c hF q (by omega) (by omega) (fun l h => by have := hs.s l h; omega)
  unfold Qu.earlP at this
  rw [if_neg (by simp [hc])] at this
  exact this
theorem queue_of {q : Qu} (hs : q.small) : CallsA Try.prog 19 ([q.pv].map .pv) [] (fun r B => r = .pv q.pv ∧ B = []) := by
  have h1 := hs.m
  have h2 := hs.r
  exact queue_c q (by omega) (by omega) (fun l h => by have := hs.s l h; omega) (fun l h => by have := hs.f l h; omega)
theorem first_c {F : Nat} (hF : 407 < F) {q : Qu} (hs : q.small) (hc : q.check = 0) : Gives Try.prog 48 [q.pv] (.tup [.int .i64 (firstV F q), .bool true]) := by
  have he := earl_of hF hs hc
  have hqc := queue_of hs
  refine calls_of_awpS mixed L48_ok (Nat.le_of_ble_eq_true rfl) ?_
  unfold firstV
  simp [-getElem?_pos, L48, Qu.pv]
  refine .inl (call_pv [] (fs := []) (xs := [q.pv]) (cs := []) rfl rfl hqc ?_)
  simp [-getElem?_pos, frzsL]
  refine .inl (call_pv [] (fs := []) (xs := [q.pv]) (cs := []) rfl rfl he ?_)
  cases q.layP F with
  | none => simp [-getElem?_pos, frzsL]
  | some p => simp [-getElem?_pos, frzsL]
end Go.Proofs.Ytohhjnpiiackjaa
