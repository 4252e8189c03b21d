/- Contracts of layer 10 (queue): an hour's row of nobody; the machines of a run, one after the other, for any loop. (Several texts in one.) -/
import Derived.Test.YtohhjnpiiackjaaQuB
import Derived.Test.YtohhjnpiiackjaaBaseD
set_option linter.unusedVariables false
set_option linter.unusedSimpArgs false
/-! Contracts of layer 10 (queue): an hour's row of nobody; the machines of a run, one after the other, for any loop. -/
namespace Go.Proofs.Ytohhjnpiiackjaa
open Go.RowKit
set_option maxRecDepth 10000
set_option linter.unusedSimpArgs false
/-- A loop over what an iterator hands out: its boxes by its state; a round: the next state, goes it on? -/
structure Cons (P : Program) where
  m : Nat
  S : Type
  X : S → List Box
  step : S → PV → S × Bool
  good : PV → Prop
  live : S → Prop
  m0 : 0 < m
  len : ∀ s, (X s).length = m
  cl : ∀ s, closedB m (X s)
  yields : ∀ s x, live s → good x → YieldsA P 0 [.pv x] (laid 0 (X s)) (fun r B => r = .pv (.bool (step s x).2) ∧ B = laid 0 (X (step s x).1))
  goes : ∀ s x, live s → good x → (step s x).2 = true → live (step s x).1
def Cons.run {P : Program} (C : Cons P) : C.S → List PV → C.S × Bool
  | s, [] => (s, true)
  | s, x :: r => match (C.step s x).2 with
    | true => C.run (C.step s x).1 r
    | false => ((C.step s x).1, false)
theorem Cons.run_app {P : Program} {C : Cons P} : ∀ (a b : List PV) (s : C.S), C.run s (a ++ b) = match (C.run s a).2 with
    | true => C.run (C.run s a).1 b
    | false => C.run s a
  | [], b, s => rfl
  | x :: a, b, s => by
    rw [List.cons_append, Cons.run, Cons.run]
    split
    · exact Cons.run_app a b _
    · rfl
theorem Cons.run_one {P : Program} {C : Cons P} (s : C.S) (x : PV) : C.run s [x] = C.step s x := by
  rw [Cons.run]
  split
  · rename_i h; rw [Cons.run]; exact Prod.ext rfl h.symm
  · rename_i h; exact Prod.ext rfl h.symm
theorem laid_purgeC {P : Program} {C : Cons P} {c : C.S} {k : Nat} : ((laid 0 (C.X c)).filter fun p => !p.1.isLoc k).map (fun p => (p.1, p.2.purge k)) = laid 0 (C.X c) := laid_purge (C.cl c)
theorem laid_outC {P : Program} {C : Cons P} {c : C.S} : (laid 0 (C.X c)).filter (fun p => !p.1.lt C.m) = [] := laid_out (by rw [C.len]; omega)
theorem sees_laid0 {tm : List (Nat × AV)} {X : List Box} : sees ⟨tm, laid 0 X⟩ X := by
  have := sees_laid (tm := tm) (X := X) (r := [])
  rwa [List.append_nil] at this
section
attribute [local simp] Box.purge Site.isLoc
attribute [local simp] retFz frzL AS.frz AV.frz AV.frzL Box.frz AS.tidy AS.frzC
theorem idle_c : Gives Try.prog 86 [] (.agg [.int .i64 (-1), .int .i64 (-1), .int .i64 (-1), .int .i64 (-1)]) := by
  refine calls_of_awpS mixed L86_ok (Nat.le_of_ble_eq_true rfl) ?_
  simp [-getElem?_pos, L86]
  refine awp_loopS (fun n τ => (n = 4 ∧ τ = ⟨[(0, .ptr (.loc 0 0) 0), (2, .pv (.int .i64 0))], [(.loc 0 0, .cells [.pv (.int .i64 0), .pv (.int .i64 0), .pv (.int .i64 0), .pv (.int .i64 0)])]⟩) ∨
    (n = 3 ∧ τ = ⟨[(0, .ptr (.loc 0 0) 0), (2, .pv (.int .i64 1))], [(.loc 0 0, .cells [.pv (.int .i64 (-1)), .pv (.int .i64 0), .pv (.int .i64 0), .pv (.int .i64 0)])]⟩) ∨
    (n = 2 ∧ τ = ⟨[(0, .ptr (.loc 0 0) 0), (2, .pv (.int .i64 2))], [(.loc 0 0, .cells [.pv (.int .i64 (-1)), .pv (.int .i64 (-1)), .pv (.int .i64 0), .pv (.int .i64 0)])]⟩) ∨
    (n = 1 ∧ τ = ⟨[(0, .ptr (.loc 0 0) 0), (2, .pv (.int .i64 3))], [(.loc 0 0, .cells [.pv (.int .i64 (-1)), .pv (.int .i64 (-1)), .pv (.int .i64 (-1)), .pv (.int .i64 0)])]⟩) ∨
    (n = 0 ∧ τ = ⟨[(0, .ptr (.loc 0 0) 0), (2, .pv (.int .i64 4))], [(.loc 0 0, .cells [.pv (.int .i64 (-1)), .pv (.int .i64 (-1)), .pv (.int .i64 (-1)), .pv (.int .i64 (-1))])]⟩)) ⟨4, _, Sub.mk (by simp) (by simp), .inl ⟨rfl, rfl⟩⟩ ?_
  have w1 : IntKind.i64.wrap 1 = 1 := rfl
  have w2 : IntKind.i64.wrap 2 = 2 := rfl
  have w3 : IntKind.i64.wrap 3 = 3 := rfl
  have w4 : IntKind.i64.wrap 4 = 4 := rfl
  have n3 : natI 3 = some 3 := rfl
  rintro J hJ n τ (⟨rfl, rfl⟩ | ⟨rfl, rfl⟩ | ⟨rfl, rfl⟩ | ⟨rfl, rfl⟩ | ⟨rfl, rfl⟩)
  · have hround := hJ _ _ (.inr (.inl ⟨rfl, rfl⟩))
    clear hJ
    simp [-getElem?_pos, w1, nblt, nble]
    exact ⟨_, _, (by omega : 3 < 4), Sub.mk (by simp) (by simp), hround⟩
  · have hround := hJ _ _ (.inr (.inr (.inl ⟨rfl, rfl⟩)))
    clear hJ
    simp [-getElem?_pos, w2, nblt, nble]
    exact ⟨_, _, (by omega : 2 < 3), Sub.mk (by simp) (by simp), hround⟩
  · have hround := hJ _ _ (.inr (.inr (.inr (.inl ⟨rfl, rfl⟩))))
    clear hJ
    simp [-getElem?_pos, w3, nblt, nble]
    exact ⟨_, _, (by omega : 1 < 2), Sub.mk (by simp) (by simp), hround⟩
  · have hround := hJ _ _ (.inr (.inr (.inr (.inr ⟨rfl, rfl⟩))))
    clear hJ
    simp [-getElem?_pos, w4, n3, nblt, nble]
    exact ⟨_, _, (by omega : 0 < 1), Sub.mk (by simp) (by simp), hround⟩
  · simp [-getElem?_pos]
/-- The iterator. -/
def macF (q : Qu) (i : Nat) (h : Int) : PV := .fn 107 [] [.ref [.lst false 1 (q.ms.map rgsP), .lst false 3 (q.rs.map Rq.pv)], .ref [.int .i64 i], .ref [.int .i64 h]]
theorem machines_c (q : Qu) (i : Nat) (h : Int) : Gives Try.prog 99 [q.pv, .int .i64 i, .int .i64 h] (macF q i h) := by
  refine calls_of_awpF [.loc 3 0, .loc 4 0, .loc 5 0] mixed L99_ok (Nat.le_of_ble_eq_true rfl) ?_
  simp [-getElem?_pos, L99, Qu.pv, unpvs, fnA]
  rfl
end
attribute [local simp] isLoc_loc isLoc_par isLoc_ret purge_cells purge_map purge_arr purge_loop laid_purgeC
attribute [local simp] AV.map AV.mapL noRet Site.isRet Box.allS AV.allS AV.allSL AS.adds
/-- The machines on which a run may be, of the first k. -/
def Qu.macs (q : Qu) (i : Nat) (h : Int) (k : Nat) : List Nat := ((List.range q.ms.length).take k).filter (fun m => q.may i m h)
def natsP (l : List Nat) : List PV := l.map fun m : Nat => .int .i64 m
theorem Qu.macs_next (q : Qu) {i : Nat} {h : Int} {k : Nat} (hk : k < q.ms.length) : q.macs i h (k + 1) = q.macs i h k ++ (if q.may i k h = true then [k] else []) := by
  have : (List.range q.ms.length)[k]? = some k := by rw [List.getElem?_range hk]
  unfold Qu.macs
  rw [take_next this, List.filter_append, List.filter_cons, List.filter_nil]
theorem Qu.macs_all (q : Qu) {i : Nat} {h : Int} (k : Nat) : q.macs i h q.ms.length = q.macs i h k ++ ((List.range q.ms.length).drop k).filter (fun m => q.may i m h) := by
  unfold Qu.macs
  rw [← List.filter_append, List.take_append_drop, List.take_of_length_le (by simp)]
set_option maxHeartbeats 4000000 in
theorem iter_c (C : Cons Try.prog) (q : Qu) (hq : q.ok) (i : Nat) (hi : i < q.rs.length) (h : Int) (c : C.S) (hc : C.live c) (hg : ∀ m : Nat, m < q.ms.length → C.good (.int .i64 m)) :
    CallsA Try.prog 107 [.yld (.par 0), .pv (.ref [.lst false 1 (q.ms.map rgsP), .lst false 3 (q.rs.map Rq.pv)]), .pv (.ref [.int .i64 i]), .pv (.ref [.int .i64 h])] (laid 0 (C.X c)) (fun r B => r = .pv (.tup []) ∧ B = laid 0 (C.X (C.run c (natsP (q.macs i h q.ms.length))).1)) := by
  have hqm := hq.m
  refine calls_of_awpB (parsN C.m) mixed L107_ok (Nat.le_of_ble_eq_true rfl) ?_
  generalize hR : (fun (r : AV) (B : List (Site × Box)) => r = .pv (.tup []) ∧ B = laid 0 (C.X (C.run c (natsP (q.macs i h q.ms.length))).1)) = R
  simp [-getElem?_pos, L107]
  refine awp_loopS (fun n τ => ∃ (k : Nat) (c' : C.S), k ≤ q.ms.length ∧ n = q.ms.length - k ∧ C.run c (natsP (q.macs i h k)) = (c', true) ∧ C.live c' ∧ τ = ⟨[(0, .yld (.par 0)), (2, .pv (.ref [.int .i64 i])), (3, .pv (.ref [.int .i64 h])), (5, .pv (.fn 90 [q.pv] [])), (11, .pv (.int .i64 q.ms.length)), (12, .pv (.int .i64 k))], laid 0 (C.X c')⟩)
    ⟨q.ms.length, ⟨[(0, .yld (.par 0)), (2, .pv (.ref [.int .i64 i])), (3, .pv (.ref [.int .i64 h])), (5, .pv (.fn 90 [q.pv] [])), (11, .pv (.int .i64 q.ms.length)), (12, .pv (.int .i64 0))], laid 0 (C.X c)⟩, Sub.mk (by simp [Qu.pv]) (subB_sees sees_laid0), 0, c, Nat.zero_le _, rfl, by simp [Qu.macs, natsP, Cons.run], hc, rfl⟩ ?_
  rintro J hJ n τ ⟨k, c', hk, rfl, hrun, hlive, rfl⟩
  by_cases hlt : k < q.ms.length
  · have hw := wrapS (k := k) (by omega)
    have hmeas : q.ms.length - (k + 1) < q.ms.length - k := by omega
    have hmay := may_c q hq i k h hi hlt
    have hnx := q.macs_next (i := i) (h := h) hlt
    have hlt' : (k : Int) < (q.ms.length : Int) := by omega
    simp [-getElem?_pos, -List.getElem?_map, hlt, hlt']
    refine call_gives (k := 0) (fs := [q.pv]) (xs := [.int .i64 i, .int .i64 k, .int .i64 h]) (cs := []) rfl rfl hmay rfl ?_
    cases hm : q.may i k h
    · rw [hm, if_neg (by simp), List.append_nil] at hnx
      have hround := hJ _ _ ⟨k + 1, c', hlt, rfl, by rw [hnx]; exact hrun, hlive, rfl⟩
      simp [-getElem?_pos, -List.getElem?_map, hw]
      exact ⟨_, _, hmeas, Sub.mk (by simp) (subB_sees sees_laid0), hround⟩
    · rw [hm, if_pos rfl] at hnx
      simp [-getElem?_pos, -List.getElem?_map]
      refine yield_pars 23 C.m (C.X c') rfl C.m0 (C.len c') sees_laid0 (C.cl c') rfl (C.yields c' (.int .i64 k) hlive (hg k hlt)) ?_
      rintro r B ⟨rfl, rfl⟩
      refine ⟨C.X (C.step c' (.int .i64 k)).1, rfl, C.len _, C.cl _, rfl, ?_⟩
      have hstep : C.run c (natsP (q.macs i h (k + 1))) = C.step c' (.int .i64 k) := by
        rw [hnx, natsP, List.map_append, Cons.run_app]
        rw [show List.map (fun m : Nat => PV.int .i64 m) (q.macs i h k) = natsP (q.macs i h k) from rfl, hrun]
        exact Cons.run_one c' _
      cases hs : (C.step c' (.int .i64 k)).2
      · simp [-getElem?_pos, -List.getElem?_map, laid_outC]
        refine retB_pars (L := C.X (C.step c' (.int .i64 k)).1) rfl rfl (C.len _) sees_laid0 (C.cl _) ?_
        rw [← hR]
        refine ⟨rfl, ?_⟩
        have hall : C.run c (natsP (q.macs i h q.ms.length)) = C.step c' (.int .i64 k) := by
          rw [q.macs_all (k + 1), natsP, List.map_append, Cons.run_app]
          rw [show List.map (fun m : Nat => PV.int .i64 m) (q.macs i h (k + 1)) = natsP (q.macs i h (k + 1)) from rfl, hstep, hs]
        rw [hall]
      · have hround := hJ _ _ ⟨k + 1, (C.step c' (.int .i64 k)).1, hlt, rfl, by rw [hstep]; exact Prod.ext rfl hs, C.goes _ _ hlive (hg k hlt) hs, rfl⟩
        simp [-getElem?_pos, -List.getElem?_map, laid_outC, hw]
        exact ⟨_, _, hmeas, Sub.mk (by simp) (subB_sees sees_laid0), hround⟩
  · have he : k = q.ms.length := by omega
    subst he
    simp [-getElem?_pos, -List.getElem?_map]
    refine retB_pars (L := C.X c') rfl rfl (C.len _) sees_laid0 (C.cl _) ?_
    rw [← hR]
    exact ⟨rfl, by rw [hrun]⟩
end Go.Proofs.Ytohhjnpiiackjaa
/-! Contracts of layer 10 (queue): a run is given a machine, taking it from another one that finds a new one. -/
namespace Go.Proofs.Ytohhjnpiiackjaa
open Go.RowKit
set_option maxRecDepth 10000
set_option linter.unusedSimpArgs false
abbrev GR := List Bool × List Int × Bool
/-- The machines of a run are tried, one after the other. -/
def loopG (rec : Nat → List Bool → List Int → GR) (run : Nat) : List Nat → List Bool → List Int → GR
  | [], t, w => (t, w, false)
  | m :: r, t, w => if (t[m]?).getD true = true then loopG rec run r t w else
    if (w[m]?).getD (-1) = -1 then (t.set m true, w.set m run, true) else
    if (rec ((w[m]?).getD (-1)).toNat (t.set m true) w).2.2 = true then ((rec ((w[m]?).getD (-1)).toNat (t.set m true) w).1, (rec ((w[m]?).getD (-1)).toNat (t.set m true) w).2.1.set m run, true)
    else loopG rec run r (rec ((w[m]?).getD (-1)).toNat (t.set m true) w).1 (rec ((w[m]?).getD (-1)).toNat (t.set m true) w).2.1
def Qu.giveM (q : Qu) (h : Int) : Nat → Nat → List Bool → List Int → GR
  | 0, _, t, w => (t, w, false)
  | n + 1, run, t, w => loopG (q.giveM h n) run (q.macs run h q.ms.length) t w
/-- How many machines were not tried. -/
def unt (t : List Bool) : Nat := t.count false
structure GW (q : Qu) (t : List Bool) (w : List Int) : Prop where
  t4 : t.length = 4
  w4 : w.length = 4
  ok : ∀ x ∈ w, x = -1 ∨ (0 ≤ x ∧ x < q.rs.length)
theorem unt_set {t : List Bool} {m : Nat} (h : t[m]? = some false) : unt (t.set m true) + 1 = unt t := by
  induction t generalizing m with
  | nil => simp at h
  | cons a r ih =>
    cases m with
    | zero => simp at h; subst h; simp [unt]
    | succ m =>
      have h' : r[m]? = some false := by simpa using h
      have := ih h'
      cases a <;> simp [unt] at this ⊢ <;> omega
theorem GW.set {q : Qu} {t : List Bool} {w : List Int} (h : GW q t w) (m : Nat) : GW q (t.set m true) w := ⟨by simpa using h.t4, h.w4, h.ok⟩
theorem GW.put {q : Qu} {t : List Bool} {w : List Int} (h : GW q t w) (m : Nat) {run : Nat} (hr : run < q.rs.length) : GW q t (w.set m run) :=
  ⟨h.t4, by simpa using h.w4, fun x hx => by
    rcases List.mem_or_eq_of_mem_set hx with hx | hx
    · exact h.ok x hx
    · subst hx; right; omega⟩
theorem GW.at {q : Qu} {t : List Bool} {w : List Int} (h : GW q t w) {m : Nat} (hm : m < 4) : ∃ b x, t[m]? = some b ∧ w[m]? = some x ∧ (x = -1 ∨ (0 ≤ x ∧ x < q.rs.length)) := by
  have h1 : m < t.length := by rw [h.t4]; exact hm
  have h2 : m < w.length := by rw [h.w4]; exact hm
  exact ⟨t[m], w[m], List.getElem?_eq_getElem h1, List.getElem?_eq_getElem h2, h.ok _ (List.getElem_mem h2)⟩
theorem loopG_ok {q : Qu} {rec : Nat → List Bool → List Int → GR} {n : Nat} (hrec : ∀ run t w, run < q.rs.length → GW q t w → GW q (rec run t w).1 (rec run t w).2.1 ∧ unt (rec run t w).1 ≤ unt t) {run : Nat} (hr : run < q.rs.length) :
    ∀ (l : List Nat), (∀ m ∈ l, m < 4) → ∀ (t : List Bool) (w : List Int), GW q t w → GW q (loopG rec run l t w).1 (loopG rec run l t w).2.1 ∧ unt (loopG rec run l t w).1 ≤ unt t
  | [], _, t, w, h => ⟨h, Nat.le_refl _⟩
  | m :: r, hl, t, w, h => by
    obtain ⟨b, x, h1, h2, h3⟩ := h.at (hl m (by simp))
    have hl' : ∀ m ∈ r, m < 4 := fun m hm => hl m (by simp [hm])
    unfold loopG
    rw [h1, h2]
    simp only [Option.getD_some]
    cases b with
    | true => rw [if_pos rfl]; exact loopG_ok (n := n) hrec hr r hl' t w h
    | false =>
      rw [if_neg (by simp)]
      have hu := unt_set h1
      split
      · exact ⟨(h.set m).put m hr, by show unt (t.set m true) ≤ _; omega⟩
      · rename_i hx
        have hx2 : x.toNat < q.rs.length := by rcases h3 with h3 | h3; exact absurd h3 hx; omega
        obtain ⟨k1, k2⟩ := hrec x.toNat (t.set m true) w hx2 (h.set m)
        split
        · exact ⟨k1.put m hr, by show unt (rec x.toNat (t.set m true) w).1 ≤ _; omega⟩
        · obtain ⟨k3, k4⟩ := loopG_ok (n := n) hrec hr r hl' _ _ k1
          exact ⟨k3, by omega⟩
theorem macs_lt {q : Qu} (hq : q.ok) {i : Nat} {h : Int} {k : Nat} : ∀ m ∈ q.macs i h k, m < q.ms.length := fun m hm => by
  unfold Qu.macs at hm
  have := List.mem_of_mem_take (List.mem_filter.1 hm).1
  simpa using this
theorem giveM_ok {q : Qu} (hq : q.ok) (h : Int) : ∀ (n run : Nat) (t : List Bool) (w : List Int), run < q.rs.length → GW q t w → GW q (q.giveM h n run t w).1 (q.giveM h n run t w).2.1 ∧ unt (q.giveM h n run t w).1 ≤ unt t
  | 0, run, t, w, _, hw => ⟨hw, Nat.le_refl _⟩
  | n + 1, run, t, w, hr, hw => loopG_ok (n := n) (fun run t w hr hw => giveM_ok hq h n run t w hr hw) hr _ (fun m hm => by have := macs_lt hq m hm; have := hq.m; omega) t w hw
def bl (t : List Bool) : List AV := t.map fun b => .pv (.bool b)
def il (w : List Int) : List AV := w.map fun n => .pv (.int .i64 n)
theorem bl_get {t : List Bool} {m : Nat} {b : Bool} (h : t[m]? = some b) : (bl t)[m]? = some (.pv (.bool b)) := by rw [bl, List.getElem?_map, h]; rfl
theorem il_get {w : List Int} {m : Nat} {x : Int} (h : w[m]? = some x) : (il w)[m]? = some (.pv (.int .i64 x)) := by rw [il, List.getElem?_map, h]; rfl
theorem bl_len {t : List Bool} : (bl t).length = t.length := by simp [bl]
theorem il_len {t : List Int} : (il t).length = t.length := by simp [il]
theorem bl_set {t : List Bool} {m : Nat} {b : Bool} (h : m < t.length) : splice (bl t) m [.pv (.bool b)] = bl (t.set m b) := by
  have hs : m + [AV.pv (.bool b)].length ≤ (bl t).length := by rw [bl_len]; simp; omega
  apply List.ext_getElem?
  intro j
  rw [splice_get hs, bl, bl, List.getElem?_map, List.getElem?_map]
  by_cases e : j = m
  · subst e
    rw [if_neg (by omega), if_pos (by simp), List.getElem?_set_self h]; simp
  · rw [List.getElem?_set_ne (fun e' => e e'.symm)]
    split
    · rfl
    · rw [if_neg (by simp; omega)]
theorem il_set {t : List Int} {m : Nat} {b : Int} (h : m < t.length) : splice (il t) m [.pv (.int .i64 b)] = il (t.set m b) := by
  have hs : m + [AV.pv (.int .i64 b)].length ≤ (il t).length := by rw [il_len]; simp; omega
  apply List.ext_getElem?
  intro j
  rw [splice_get hs, il, il, List.getElem?_map, List.getElem?_map]
  by_cases e : j = m
  · subst e
    rw [if_neg (by omega), if_pos (by simp), List.getElem?_set_self h]; simp
  · rw [List.getElem?_set_ne (fun e' => e e'.symm)]
    split
    · rfl
    · rw [if_neg (by simp; omega)]
theorem pvs_allS {q : Site → Bool} : ∀ (l : List PV), AV.allSL q (l.map .pv) = true
  | [] => rfl
  | a :: r => by simp [AV.allSL, AV.allS, pvs_allS r]
theorem pvs_mapL {g : Site → Site} : ∀ (l : List PV), AV.mapL g (l.map .pv) = l.map .pv
  | [] => rfl
  | a :: r => by simp [AV.mapL, AV.map, pvs_mapL r]
theorem pvs_purge {d : Nat} (l : List PV) : (l.map AV.pv).map (AV.purge d) = l.map .pv := by rw [List.map_map]; rfl
theorem bl_pv (t : List Bool) : bl t = (t.map PV.bool).map .pv := by rw [List.map_map]; rfl
theorem il_pv (t : List Int) : il t = (t.map (PV.int .i64)).map .pv := by rw [List.map_map]; rfl
theorem bl_allS {q : Site → Bool} {t : List Bool} : AV.allSL q (bl t) = true := by rw [bl_pv]; exact pvs_allS _
theorem il_allS {q : Site → Bool} {t : List Int} : AV.allSL q (il t) = true := by rw [il_pv]; exact pvs_allS _
theorem bl_mapL {g : Site → Site} {t : List Bool} : AV.mapL g (bl t) = bl t := by rw [bl_pv]; exact pvs_mapL _
theorem il_mapL {g : Site → Site} {t : List Int} : AV.mapL g (il t) = il t := by rw [il_pv]; exact pvs_mapL _
theorem bl_purge {d : Nat} {t : List Bool} : (bl t).map (AV.purge d) = bl t := by rw [bl_pv]; exact pvs_purge _
theorem il_purge {d : Nat} {t : List Int} : (il t).map (AV.purge d) = il t := by rw [il_pv]; exact pvs_purge _
/-- The closure that gives; the boxes that it needs. -/
def gvF (b : Nat) : AV := .fn 98 [] [.ptr (.par b) 0, .ptr (.par (b + 1)) 0, .ptr (.par (b + 2)) 0, .ptr (.par (b + 3)) 0, .ptr (.par (b + 4)) 0]
def gvB (q : Qu) (h : Int) (b : Nat) (t : List Bool) (w : List Int) : List Box := [.cells q.cells, .cells [.pv (.int .i64 h)], .cells (bl t), .cells (il w), .cells [gvF b]]
def GiveC (q : Qu) (h : Int) (n : Nat) : Prop := ∀ (run : Nat) (t : List Bool) (w : List Int), run < q.rs.length → GW q t w → unt t < n →
  CallsA Try.prog 98 [.pv (.int .i64 run), .ptr (.par 0) 0, .ptr (.par 1) 0, .ptr (.par 2) 0, .ptr (.par 3) 0, .ptr (.par 4) 0] (laid 0 (gvB q h 0 t w))
    (fun r B => r = .pv (.bool (q.giveM h n run t w).2.2) ∧ B = laid 0 (gvB q h 0 (q.giveM h n run t w).1 (q.giveM h n run t w).2.1))
structure GS where
  t : List Bool
  w : List Int
  stop : Bool
theorem cok98 : COk Try.prog (tyOf tys) L98.code := litF_ok L98_ok L98_tab
noncomputable def gvX (q : Qu) (h : Int) (run : Nat) (s : GS) : List Box := [.loop (rcode Try.prog 98 0) [13] 33 [(3, .ptr (.par 3) 0), (4, .ptr (.par 4) 0), (5, .ptr (.par 5) 0), (6, .ptr (.par 6) 0), (7, .ptr (.par 7) 0)] (match s.stop with
  | true => some .ret
  | false => none)] ++ gvB q h 1 s.t s.w ++ [.cells [.pv (.int .i64 run)], .cells [.pv (.bool s.stop)]]
def gvStep (rec : Nat → List Bool → List Int → GR) (run : Nat) (s : GS) : PV → GS × Bool
  | .int _ z => if (s.t[z.toNat]?).getD true = true then (s, true) else
    if (s.w[z.toNat]?).getD (-1) = -1 then (⟨s.t.set z.toNat true, s.w.set z.toNat run, true⟩, false) else
    if (rec ((s.w[z.toNat]?).getD (-1)).toNat (s.t.set z.toNat true) s.w).2.2 = true then (⟨(rec ((s.w[z.toNat]?).getD (-1)).toNat (s.t.set z.toNat true) s.w).1, (rec ((s.w[z.toNat]?).getD (-1)).toNat (s.t.set z.toNat true) s.w).2.1.set z.toNat run, true⟩, false)
    else (⟨(rec ((s.w[z.toNat]?).getD (-1)).toNat (s.t.set z.toNat true) s.w).1, (rec ((s.w[z.toNat]?).getD (-1)).toNat (s.t.set z.toNat true) s.w).2.1, false⟩, true)
  | _ => (s, true)
attribute [local simp] AS.exp expG Box.ren AV.map AV.mapL outsOk noRet Site.isRet Box.allS AV.allS AV.allSL retB dropL AS.adds renL outG outOk lentBx inG fnOf lookA List.findIdx?_cons
attribute [local simp] bl_allS il_allS bl_mapL il_mapL bl_purge il_purge
attribute [local simp] Box.purge Site.isLoc
set_option maxHeartbeats 8000000 in
theorem gv_yields (q : Qu) (hq : q.ok) (h : Int) (n run : Nat) (hrun : run < q.rs.length) (ih : GiveC q h n) (s : GS) (m : Nat) (hm : m < 4) (hs : s.stop = false) (hw : GW q s.t s.w) (hu : unt s.t ≤ n) :
    YieldsA Try.prog 0 [.pv (.int .i64 m)] (laid 0 (gvX q h run s)) (fun r B => r = .pv (.bool (gvStep (q.giveM h n) run s (.int .i64 m)).2) ∧ B = laid 0 (gvX q h run (gvStep (q.giveM h n) run s (.int .i64 m)).1)) := by
  obtain ⟨t, w, st⟩ := s
  simp only at hs hw hu
  subst hs
  have hcok : COk Try.prog (tyOf tys) (.rng 33 (.t 12) (rcode Try.prog 98 0) Y98_0a Y98_0b [13]) := cok98.2.1.2
  obtain ⟨b, x, h1, h2, h3⟩ := hw.at hm
  have hb := bl_get h1
  have hx := il_get h2
  have ht4 := hw.t4
  have hw4 := hw.w4
  have hbs := bl_set (t := t) (m := m) (b := true) (by omega)
  have hbl := bl_len (t := t)
  have hm4 : (m : Int) < 4 := by omega
  have hm3 : m ≤ 3 := by omega
  refine yields_of_awpS mixed hcok.1 hcok.2.1 rfl rfl (by simp) rfl ?_
  generalize hR : (fun (r : AV) (B : List (Site × Box)) => r = .pv (.bool (gvStep (q.giveM h n) run ⟨t, w, false⟩ (.int .i64 m)).2) ∧ B = laid 0 (gvX q h run (gvStep (q.giveM h n) run ⟨t, w, false⟩ (.int .i64 m)).1)) = R
  cases b with
  | true =>
    simp [-getElem?_pos, -splice, Y98_0a, Y98_0b, gvX, gvB, laid, putL, hm, hm4, hb, nblt, nble]
    refine ⟨[], [.par 1, .par 2, .par 3, .par 4, .par 5, .par 6, .par 7], rfl, rfl, ?_, ?_⟩
    · simp [frzL, gvF, Qu.cells]
    · rw [← hR]
      simp [gvStep, h1, gvX, gvB, laid, frzL, gvF, Qu.cells]
  | false =>
    by_cases hxn : x = -1
    · subst hxn
      have hws := il_set (t := w) (m := m) (b := run) (by omega)
      have hwl := il_len (t := w)
      simp [-getElem?_pos, -splice, Y98_0a, Y98_0b, gvX, gvB, laid, putL, hm, hm4, hm3, hb, hx, hbs, hbl, ht4, hws, hwl, hw4, nblt, nble]
      refine ⟨[], [.par 1, .par 2, .par 3, .par 4, .par 5, .par 6, .par 7], rfl, rfl, ?_, ?_⟩
      · simp [frzL, gvF, Qu.cells]
      · rw [← hR]
        simp [gvStep, h1, h2, gvX, gvB, laid, frzL, gvF, Qu.cells]
    · have hx2 : 0 ≤ x ∧ x < q.rs.length := by rcases h3 with h3 | h3; exact absurd h3 hxn; exact h3
      obtain ⟨j, rfl⟩ : ∃ j : Nat, x = j := ⟨x.toNat, by omega⟩
      have hj : j < q.rs.length := by omega
      have hu2 := unt_set h1
      have hC := ih j (t.set m true) w hj (hw.set m) (by omega)
      have hG := giveM_ok hq h n j (t.set m true) w hj (hw.set m)
      have hstep : gvStep (q.giveM h n) run ⟨t, w, false⟩ (.int .i64 m) = if (q.giveM h n j (t.set m true) w).2.2 = true then (⟨(q.giveM h n j (t.set m true) w).1, (q.giveM h n j (t.set m true) w).2.1.set m run, true⟩, false) else (⟨(q.giveM h n j (t.set m true) w).1, (q.giveM h n j (t.set m true) w).2.1, false⟩, true) := by
        simp [gvStep, h1, h2, hxn]
      rw [hstep] at hR
      clear hstep ih
      generalize q.giveM h n j (t.set m true) w = g at *
      obtain ⟨t2, w2, b2⟩ := g
      obtain ⟨hG, hG2⟩ := hG
      simp only at hR hC hG hG2
      simp [-getElem?_pos, -splice, Y98_0a, Y98_0b, gvX, gvB, gvF, laid, putL, hm, hm4, hm3, hb, hx, hbs, hbl, ht4, hw4, hxn, nblt, nble]
      refine call_lent (as' := [.pv (.int .i64 j), .ptr (.par 0) 0, .ptr (.par 1) 0, .ptr (.par 2) 0, .ptr (.par 3) 0, .ptr (.par 4) 0]) (B := laid 0 (gvB q h 0 (t.set m true) w)) (fs := []) (cs := [.ptr (.par 1) 0, .ptr (.par 2) 0, .ptr (.par 3) 0, .ptr (.par 4) 0, .ptr (.par 5) 0]) 28 [.par 1, .par 2, .par 3, .par 4, .par 5] ?_ rfl rfl ?_ ?_ ?_ hC ?_
      · rfl
      · simp [laid, gvB, gvF, Qu.cells]
      · rfl
      · rfl
      rintro r0 B0 ⟨rfl, rfl⟩
      have hwl := il_len (t := w2)
      have hw24 := hG.w4
      have hws := il_set (t := w2) (m := m) (b := run) (by omega)
      refine ⟨rfl, by simp [laid, gvB, gvF, Qu.cells], ?_⟩
      cases b2
      · simp [-getElem?_pos, -splice, gvB, gvF, laid, Qu.cells, hm, hm4, hm3, nblt, nble]
        refine ⟨[], [.par 1, .par 2, .par 3, .par 4, .par 5, .par 6, .par 7], rfl, rfl, ?_, ?_⟩
        · simp [frzL, gvF, Qu.cells]
        · rw [← hR]
          simp [gvX, gvB, laid, frzL, gvF, Qu.cells]
      · simp [-getElem?_pos, -splice, gvB, gvF, laid, Qu.cells, hm, hm4, hm3, hws, hwl, hw24, nblt, nble]
        refine ⟨[], [.par 1, .par 2, .par 3, .par 4, .par 5, .par 6, .par 7], rfl, rfl, ?_, ?_⟩
        · simp [frzL, gvF, Qu.cells]
        · rw [← hR]
          simp [gvX, gvB, laid, frzL, gvF, Qu.cells]
end Go.Proofs.Ytohhjnpiiackjaa
/-! Contracts of layer 10 (queue): the closure that gives, as a whole. -/
namespace Go.Proofs.Ytohhjnpiiackjaa
open Go.RowKit
set_option maxRecDepth 10000
set_option linter.unusedSimpArgs false
attribute [local simp] AS.exp expG Box.ren AV.map AV.mapL outsOk noRet Site.isRet Box.allS AV.allS AV.allSL retB dropL AS.adds renL outG outOk lentBx inG fnOf lookA List.findIdx?_cons
attribute [local simp] bl_allS il_allS bl_mapL il_mapL bl_purge il_purge
attribute [local simp] Box.purge Site.isLoc
theorem gvX_cl {q : Qu} {h : Int} {run : Nat} {s : GS} : closedB 8 (gvX q h run s) := by
  intro b hb
  simp [gvX, gvB, Qu.cells] at hb
  rcases hb with rfl | rfl | rfl | rfl | rfl | rfl | rfl | rfl
  all_goals simp [gvF, Site.lt, Qu.cells]
theorem gvStep_goes {q : Qu} (hq : q.ok) {h : Int} {n run : Nat} (hrun : run < q.rs.length) {s : GS} {m : Nat} (hm : m < 4) (hs : s.stop = false) (hw : GW q s.t s.w) (hu : unt s.t ≤ n) (h2 : (gvStep (q.giveM h n) run s (.int .i64 m)).2 = true) :
    (gvStep (q.giveM h n) run s (.int .i64 m)).1.stop = false ∧ GW q (gvStep (q.giveM h n) run s (.int .i64 m)).1.t (gvStep (q.giveM h n) run s (.int .i64 m)).1.w ∧ unt (gvStep (q.giveM h n) run s (.int .i64 m)).1.t ≤ n := by
  obtain ⟨t, w, st⟩ := s
  simp only at hs hw hu
  subst hs
  obtain ⟨b, x, h1, h3, h4⟩ := hw.at hm
  cases b with
  | true =>
    simp only [gvStep, Int.toNat_natCast, h1, Option.getD_some, if_true] at h2 ⊢
    exact ⟨trivial, hw, hu⟩
  | false =>
    have hx2 : ¬ x = -1 → x.toNat < q.rs.length := fun hx => by rcases h4 with h4 | h4; exact absurd h4 hx; omega
    have hut := unt_set h1
    simp only [gvStep, Int.toNat_natCast, h1, h3, Option.getD_some, if_neg (show ¬ (false = true) by simp)] at h2 ⊢
    split at h2
    · cases h2
    · rename_i hx
      rw [if_neg hx]
      obtain ⟨k1, k2⟩ := giveM_ok hq h n x.toNat (t.set m true) w (hx2 hx) (hw.set m)
      split at h2
      · cases h2
      · rename_i hb
        rw [if_neg hb]
        exact ⟨rfl, k1, by show unt (q.giveM h n x.toNat (t.set m true) w).1 ≤ n; omega⟩
noncomputable def givC (q : Qu) (hq : q.ok) (h : Int) (n run : Nat) (hrun : run < q.rs.length) (ih : GiveC q h n) : Cons Try.prog where
  m := 8
  S := GS
  X := gvX q h run
  step := gvStep (q.giveM h n) run
  good x := ∃ m : Nat, m < q.ms.length ∧ x = .int .i64 m
  live s := s.stop = false ∧ GW q s.t s.w ∧ unt s.t ≤ n
  m0 := by omega
  len _ := rfl
  cl _ := gvX_cl
  yields s x hl hg := by
    obtain ⟨m, hm, rfl⟩ := hg
    exact gv_yields q hq h n run hrun ih s m (by have := hq.m; omega) hl.1 hl.2.1 hl.2.2
  goes s x hl hg h2 := by
    obtain ⟨m, hm, rfl⟩ := hg
    exact gvStep_goes hq hrun (by have := hq.m; omega) hl.1 hl.2.1 hl.2.2 h2
def runF {S : Type} (step : S → PV → S × Bool) : S → List PV → S × Bool
  | s, [] => (s, true)
  | s, x :: r => match (step s x).2 with
    | true => runF step (step s x).1 r
    | false => ((step s x).1, false)
theorem Cons.run_eq {P : Program} (C : Cons P) : ∀ (l : List PV) (s : C.S), C.run s l = runF C.step s l
  | [], s => rfl
  | x :: r, s => by
    rw [Cons.run, runF]
    cases (C.step s x).2 with
    | true => exact Cons.run_eq C r _
    | false => rfl
theorem runF_gv (rec : Nat → List Bool → List Int → GR) (run : Nat) : ∀ (l : List Nat) (t : List Bool) (w : List Int),
    (runF (gvStep rec run) ⟨t, w, false⟩ (natsP l)).1 = ⟨(loopG rec run l t w).1, (loopG rec run l t w).2.1, (loopG rec run l t w).2.2⟩
  | [], t, w => rfl
  | m :: r, t, w => by
    have e : natsP (m :: r) = .int .i64 m :: natsP r := rfl
    rw [e, runF, loopG]
    unfold gvStep
    simp only [Int.toNat_natCast]
    split
    · rename_i h
      split at h
      · rename_i h1
        rw [if_pos h1, if_pos h1]
        exact runF_gv rec run r t w
      · rename_i h1
        split at h
        · cases h
        · rename_i h2
          split at h
          · cases h
          · rename_i h3
            rw [if_neg h1, if_neg h2, if_neg h3, if_neg h1, if_neg h2, if_neg h3]
            exact runF_gv rec run r _ _
    · rename_i h
      split at h
      · cases h
      · rename_i h1
        split at h
        · rename_i h2
          rw [if_neg h1, if_pos h2, if_neg h1, if_pos h2]
        · rename_i h2
          split at h
          · rename_i h3
            rw [if_neg h1, if_neg h2, if_pos h3, if_neg h1, if_neg h2, if_pos h3]
          · cases h
theorem givC_run {q : Qu} {hq : q.ok} {h : Int} {n run : Nat} {hrun : run < q.rs.length} {ih : GiveC q h n} (l : List Nat) (t : List Bool) (w : List Int) :
    ((givC q hq h n run hrun ih).run ⟨t, w, false⟩ (natsP l)).1 = ⟨(loopG (q.giveM h n) run l t w).1, (loopG (q.giveM h n) run l t w).2.1, (loopG (q.giveM h n) run l t w).2.2⟩ := by
  have h1 := Cons.run_eq (givC q hq h n run hrun ih) (natsP l) (show GS from ⟨t, w, false⟩)
  exact (congrArg Prod.fst h1).trans (runF_gv (q.giveM h n) run l t w)
set_option maxHeartbeats 8000000 in
theorem give_c (q : Qu) (hq : q.ok) (h : Int) : ∀ n : Nat, GiveC q h n
  | 0 => fun run t w _ _ hu => by omega
  | n + 1 => fun run t w hrun hw hu => by
    have ih := give_c q hq h n
    have hm := hq.m
    refine calls_of_awpB [.par 0, .par 1, .par 2, .par 3, .par 4] mixed L98_ok (Nat.le_of_ble_eq_true rfl) ?_
    have hit := iter_c (givC q hq h n run hrun ih) q hq run hrun h ⟨t, w, false⟩ ⟨rfl, hw, by show unt t ≤ n; omega⟩ (fun m hm => ⟨m, hm, rfl⟩)
    have hX : (givC q hq h n run hrun ih).X ⟨t, w, false⟩ = gvX q h run ⟨t, w, false⟩ := rfl
    have hX2 : (givC q hq h n run hrun ih).X ((givC q hq h n run hrun ih).run ⟨t, w, false⟩ (natsP (q.macs run h q.ms.length))).1 = gvX q h run ⟨(q.giveM h (n + 1) run t w).1, (q.giveM h (n + 1) run t w).2.1, (q.giveM h (n + 1) run t w).2.2⟩ := by
      rw [givC_run]; rfl
    rw [hX, hX2] at hit
    clear hX hX2 ih
    generalize q.giveM h (n + 1) run t w = g at *
    obtain ⟨t2, w2, b2⟩ := g
    simp only at hit ⊢
    generalize hR : (fun (r : AV) (B : List (Site × Box)) => r = .pv (.bool b2) ∧ B = laid 0 (gvB q h 0 t2 w2)) = R
    simp [-getElem?_pos, L98, gvB, gvF, laid, Qu.cells]
    refine .inl (call_pv [] (fs := []) (xs := [q.pv, .int .i64 run, .int .i64 h]) (cs := []) rfl rfl (machines_c q run h) ?_)
    simp [-getElem?_pos, frzsL, macF]
    refine rng_lent [.loc 33 0, .par 0, .par 1, .par 2, .par 3, .par 4, .loc 6 0, .loc 7 0] [(3, .ptr (.par 2) 0), (4, .ptr (.par 3) 0), (5, .ptr (.par 4) 0), (6, .ptr (.loc 6 0) 0), (7, .ptr (.loc 7 0) 0)] (gf := 107) (fs := []) (cs := [.pv (.ref [.lst false 1 (q.ms.map rgsP), .lst false 3 (q.rs.map Rq.pv)]), .pv (.ref [.int .i64 run]), .pv (.ref [.int .i64 h])]) ?_ ?_ rfl rfl ?_ ?_ ?_ hit ?_
    · rfl
    · simp
    · simp [gvX, gvB, gvF, laid, Qu.cells]
    · rfl
    · rfl
    rintro r B' ⟨rfl, rfl⟩
    refine ⟨rfl, ?_, ?_⟩
    · exact fun p hp => laid_ok (n := 8) (L := gvX q h run ⟨t2, w2, b2⟩) (by simp [gvX, gvB]) gvX_cl p hp
    · cases b2
      · refine ⟨_, _, _, _, _, rfl, ?_⟩
        simp [-getElem?_pos, gvX, gvB, gvF, laid, jumpQ, Qu.cells]
        rw [← hR]
        simp [gvB, gvF, laid, Qu.cells]
      · refine ⟨_, _, _, _, _, rfl, ?_⟩
        simp [-getElem?_pos, gvX, gvB, gvF, laid, jumpQ, Qu.cells]
        rw [← hR]
        simp [gvB, gvF, laid, Qu.cells]
end Go.Proofs.Ytohhjnpiiackjaa
/-! Contracts of layer 10 (queue): how many of some runs may be on machines at an hour; their room. -/
namespace Go.Proofs.Ytohhjnpiiackjaa
open Go.RowKit
set_option maxRecDepth 10000
set_option linter.unusedSimpArgs false
attribute [local simp] AS.exp expG Box.ren AV.map AV.mapL outsOk noRet Site.isRet Box.allS AV.allS AV.allSL dropL AS.adds renL outG outOk lentBx inG fnOf lookA List.findIdx?_cons
attribute [local simp] bl_allS il_allS bl_mapL il_mapL bl_purge il_purge
attribute [local simp] Box.purge Site.isLoc
def idle4 : List Int := [-1, -1, -1, -1]
def no4 : List Bool := [false, false, false, false]
/-- The first k runs are given machines: how many got one; who is on the machines. -/
def Qu.atK (q : Qu) (h : Int) (runs : List Int) : Nat → Nat × List Int
  | 0 => (0, idle4)
  | k + 1 => ((q.atK h runs k).1 + (if (q.giveM h 5 ((runs[k]?).getD 0).toNat no4 (q.atK h runs k).2).2.2 = true then 1 else 0), (q.giveM h 5 ((runs[k]?).getD 0).toNat no4 (q.atK h runs k).2).2.1)
def Qu.atM (q : Qu) (h : Int) (runs : List Int) : Nat := (q.atK h runs runs.length).1
theorem GW.idle {q : Qu} : GW q no4 idle4 := ⟨rfl, rfl, fun x hx => by simp [idle4] at hx; exact .inl hx⟩
theorem GW.fresh {q : Qu} {t : List Bool} {w : List Int} (h : GW q t w) : GW q no4 w := ⟨rfl, h.w4, h.ok⟩
theorem Qu.atK_ok {q : Qu} (hq : q.ok) {h : Int} {runs : List Int} (hin : ∀ x ∈ runs, 0 ≤ x ∧ x < q.rs.length) : ∀ k, k ≤ runs.length → GW q no4 (q.atK h runs k).2 ∧ (q.atK h runs k).1 ≤ k
  | 0, _ => ⟨GW.idle, Nat.le_refl _⟩
  | k + 1, hk => by
    obtain ⟨h1, h2⟩ := Qu.atK_ok hq (h := h) hin k (by omega)
    have hx : runs[k]? = some runs[k] := List.getElem?_eq_getElem (by omega)
    have hr := hin _ (List.mem_of_getElem? hx)
    have := giveM_ok hq h 5 ((runs[k]?).getD 0).toNat no4 (q.atK h runs k).2 (by rw [hx]; simp only [Option.getD_some]; omega) h1
    refine ⟨this.1.fresh, ?_⟩
    show (q.atK h runs k).1 + _ ≤ k + 1
    split <;> omega
def atS (q : Qu) (h : Int) (runs : List Int) (k : Nat) : AS := ⟨[(3, .ptr (.loc 3 0) 0), (5, .ptr (.loc 5 0) 0), (6, .pv (.int .i64 (q.atK h runs k).1)), (7, .ptr (.loc 7 0) 0), (13, .pv (intsP runs)), (14, .pv (.int .i64 runs.length)), (15, .pv (.int .i64 k))],
  [(.loc 7 0, .cells (il (q.atK h runs k).2)), (.loc 3 0, .cells q.cells), (.loc 5 0, .cells [.pv (.int .i64 h)])]⟩
set_option maxHeartbeats 8000000 in
theorem at_c (q : Qu) (hq : q.ok) (h : Int) (runs : List Int) (hl : runs.length ≤ 1000) (hin : ∀ x ∈ runs, 0 ≤ x ∧ x < q.rs.length) : Gives Try.prog 84 [q.pv, intsP runs, .int .i64 h] (.int .i64 (q.atM h runs)) := by
  refine calls_of_awpS mixed L84_ok (Nat.le_of_ble_eq_true rfl) ?_
  simp [-getElem?_pos, L84, Qu.pv]
  refine .inl (call_pv [] (fs := []) (xs := []) (cs := []) rfl rfl idle_c ?_)
  simp [-getElem?_pos, frzsL, nble]
  refine awp_loopS (fun n τ => ∃ k : Nat, k ≤ runs.length ∧ n = runs.length - k ∧ τ = atS q h runs k) ⟨runs.length, atS q h runs 0, Sub.mk (by simp [Qu.atK, intsP]) (by simp [Qu.cells]; rfl), 0, Nat.zero_le _, rfl, rfl⟩ ?_
  rintro J hJ n τ ⟨k, hk, rfl, rfl⟩
  obtain ⟨hG, hn⟩ := Qu.atK_ok hq (h := h) hin k hk
  by_cases hlt : k < runs.length
  · obtain ⟨x, hx⟩ : ∃ x, runs[k]? = some x := ⟨runs[k], List.getElem?_eq_getElem hlt⟩
    obtain ⟨hx0, hx1⟩ := hin x (List.mem_of_getElem? hx)
    obtain ⟨i, rfl⟩ : ∃ i : Nat, x = i := ⟨x.toNat, by omega⟩
    have hg : (runs.map intP)[k]? = some (.int .i64 i) := by rw [List.getElem?_map, hx]; rfl
    have hw := wrapS (k := k) (by omega)
    have hmeas : runs.length - (k + 1) < runs.length - k := by omega
    have hround := hJ _ _ ⟨k + 1, hlt, rfl, rfl⟩
    have hC := give_c q hq h 5 i no4 (q.atK h runs k).2 (by omega) hG (by decide)
    have hGo := giveM_ok hq h 5 i no4 (q.atK h runs k).2 (by omega) hG
    have hnx : q.atK h runs (k + 1) = ((q.atK h runs k).1 + (if (q.giveM h 5 i no4 (q.atK h runs k).2).2.2 = true then 1 else 0), (q.giveM h 5 i no4 (q.atK h runs k).2).2.1) := by simp [Qu.atK, hx]
    unfold atS at hround
    rw [hnx] at hround
    clear hJ hnx
    simp only [atS]
    generalize q.atK h runs k = a at *
    obtain ⟨a1, a2⟩ := a
    generalize q.giveM h 5 i no4 (a1, a2).2 = g at *
    obtain ⟨t2, w2, b2⟩ := g
    simp only at hround hC hn
    have hw1 : IntKind.i64.wrap ((a1 : Int) + 1) = ((a1 + 1 : Nat) : Int) := wrapS (by omega)
    simp [-getElem?_pos, -List.getElem?_map, intsP, hlt, hg]
    refine call_lent (as' := [.pv (.int .i64 i), .ptr (.par 0) 0, .ptr (.par 1) 0, .ptr (.par 2) 0, .ptr (.par 3) 0, .ptr (.par 4) 0]) (B := laid 0 (gvB q h 0 no4 a2)) (fs := []) (cs := [.ptr (.loc 3 0) 0, .ptr (.loc 5 0) 0, .ptr (.loc 10 0) 0, .ptr (.loc 7 0) 0, .ptr (.loc 11 0) 0]) 22 [.loc 3 0, .loc 5 0, .loc 10 0, .loc 7 0, .loc 11 0] ?_ rfl rfl ?_ ?_ ?_ hC ?_
    · rfl
    · simp [laid, gvB, gvF, Qu.cells, bl, no4]
    · rfl
    · rfl
    rintro r0 B0 ⟨rfl, rfl⟩
    refine ⟨rfl, by simp [laid, gvB, gvF, Qu.cells], ?_⟩
    cases b2
    · simp [-getElem?_pos, gvB, gvF, laid, Qu.cells, hw]
      refine ⟨_, _, hmeas, Sub.mk ?_ ?_, hround⟩
      · simp [intsP]
      · simp [Qu.cells]
    · simp [-getElem?_pos, gvB, gvF, laid, Qu.cells, hw, hw1]
      refine ⟨_, _, hmeas, Sub.mk ?_ ?_, hround⟩
      · simp [intsP]
      · simp [Qu.cells]
  · have he : k = runs.length := by omega
    subst he
    simp [-getElem?_pos, -List.getElem?_map, atS, Qu.atM]
/-- The room of some runs up to an hour. -/
def Qu.roomM (q : Qu) (runs : List Int) : Nat → Nat
  | 0 => 0
  | h + 1 => q.roomM runs h + q.atM h runs
theorem Qu.roomM_bd {q : Qu} (hq : q.ok) {runs : List Int} (hin : ∀ x ∈ runs, 0 ≤ x ∧ x < q.rs.length) : ∀ h, q.roomM runs h ≤ runs.length * h
  | 0 => by simp [Qu.roomM]
  | h + 1 => by
    have h1 := Qu.roomM_bd hq hin h
    have h2 := (Qu.atK_ok hq (h := h) hin runs.length (Nat.le_refl _)).2
    show q.roomM runs h + q.atM h runs ≤ _
    rw [Nat.mul_add, Nat.mul_one]
    unfold Qu.atM; omega
theorem room_c (q : Qu) (hq : q.ok) (runs : List Int) (hl : runs.length ≤ 1000) (hin : ∀ x ∈ runs, 0 ≤ x ∧ x < q.rs.length) (u : Nat) (hu : u ≤ 100) : Gives Try.prog 59 [q.pv, intsP runs, .int .i64 u] (.int .i64 (q.roomM runs u)) := by
  refine calls_of_awpS mixed L59_ok (Nat.le_of_ble_eq_true rfl) ?_
  simp [-getElem?_pos, L59, Qu.pv]
  refine awp_loopS (fun n τ => ∃ k : Nat, k ≤ u ∧ n = u - k ∧ τ = ⟨[(1, .pv (intsP runs)), (3, .ptr (.loc 3 0) 0), (6, .pv (.int .i64 (q.roomM runs k))), (8, .pv (.int .i64 u)), (9, .pv (.int .i64 k))], [(.loc 3 0, .cells q.cells)]⟩)
    ⟨u, ⟨[(1, .pv (intsP runs)), (3, .ptr (.loc 3 0) 0), (6, .pv (.int .i64 0)), (8, .pv (.int .i64 u)), (9, .pv (.int .i64 0))], [(.loc 3 0, .cells q.cells)]⟩, Sub.mk (by simp) (by simp [Qu.cells]), 0, Nat.zero_le _, rfl, rfl⟩ ?_
  rintro J hJ n τ ⟨k, hk, rfl, rfl⟩
  by_cases hlt : k < u
  · have hw := wrapS (k := k) (by omega)
    have hmeas : u - (k + 1) < u - k := by omega
    have hround := hJ _ _ ⟨k + 1, hlt, rfl, rfl⟩
    have hat := at_c q hq k runs hl hin
    have hb := Qu.roomM_bd hq hin (k + 1)
    have hb2 : runs.length * (k + 1) ≤ 1000 * 100 := Nat.mul_le_mul hl (by omega)
    have hst : q.roomM runs (k + 1) = q.roomM runs k + q.atM k runs := rfl
    clear hJ
    generalize q.roomM runs (k + 1) = E2 at *
    subst hst
    generalize q.roomM runs k = E at *
    generalize q.atM k runs = A at *
    have hw2 : IntKind.i64.wrap ((E : Int) + (A : Int)) = (E : Int) + (A : Int) := wrap64 (by omega)
    simp [-getElem?_pos, Qu.cells, hlt]
    refine call_gives (k := 0) (fs := []) (xs := [q.pv, intsP runs, .int .i64 k]) (cs := []) rfl rfl hat rfl ?_
    simp [-getElem?_pos, hw, hw2]
    refine ⟨_, _, hmeas, Sub.mk ?_ ?_, hround⟩
    · simp
    · simp [Qu.cells]
  · have he : k = u := by omega
    subst he
    simp [-getElem?_pos, Qu.cells]
def Qu.roomErr (q : Qu) (l : List Int) (u : Int) : Int := if q.check ≠ 0 then q.check else if q.rising l = true ∧ manyB u = true then 0 else 2
def Qu.roomP (q : Qu) (l : List Int) (u : Int) : PV := .tup [.int .i64 (if q.roomErr l u = 0 then (q.roomM l u.toNat : Int) else 0), .int .i64 (q.roomErr l u)]
theorem Qu.rising_in {q : Qu} {l : List Int} (h : q.rising l = true) : ∀ x ∈ l, 0 ≤ x ∧ x < q.rs.length := fun x hx => by
  obtain ⟨i, hi⟩ := List.mem_iff_getElem?.1 hx
  have hl := (List.getElem?_eq_some_iff.1 hi).1
  simp only [Qu.rising, List.all_eq_true, List.mem_range] at h
  have := h i hl
  simp only [Qu.risAt, hi, Option.getD_some, Bool.and_eq_true, decide_eq_true_eq] at this
  omega
set_option maxHeartbeats 4000000 in
theorem Room_c (q : Qu) (hs : q.small) (l : List Int) (hl : l.length ≤ 1000) (u : Int) : Gives Try.prog 20 [q.pv, intsP l, .int .i64 u] (q.roomP l u) := by
  have hr6 := hs.r
  have hm6 := hs.m
  refine calls_of_awpS mixed L20_ok (Nat.le_of_ble_eq_true rfl) ?_
  simp [-getElem?_pos, L20, Qu.pv]
  refine call_gives (k := 0) (fs := []) (xs := [q.pv]) (cs := []) rfl rfl (check_c q (by omega) (by omega) (fun l h => by have := hs.s l h; omega)) rfl ?_
  by_cases hc : q.check = 0
  · have hq := Qu.ok_of hc
    obtain ⟨T, hT⟩ : ∃ T, T = q.rising l := ⟨_, rfl⟩
    have hE : ∀ u, q.roomErr l u = if T = true ∧ manyB u = true then 0 else 2 := fun u => by unfold Qu.roomErr; rw [if_neg (by simpa using hc), hT]
    simp [-getElem?_pos, hc, intsP]
    refine awp_loopS (fun n τ => ∃ k : Nat, k ≤ l.length ∧ n = l.length - k ∧ (∀ i, i < k → q.risAt l i = true) ∧ τ = ⟨[(1, .pv (intsP l)), (2, .pv (.int .i64 u)), (3, .ptr (.loc 3 0) 0), (16, .pv (intsP l)), (17, .pv (.int .i64 l.length)), (18, .pv (.int .i64 k))], [(.loc 3 0, .cells q.cells)]⟩)
      ⟨l.length, ⟨[(1, .pv (intsP l)), (2, .pv (.int .i64 u)), (3, .ptr (.loc 3 0) 0), (16, .pv (intsP l)), (17, .pv (.int .i64 l.length)), (18, .pv (.int .i64 0))], [(.loc 3 0, .cells q.cells)]⟩, Sub.mk (by simp [intsP]) (by simp [Qu.cells]), 0, Nat.zero_le _, rfl, (fun i hi => by omega), rfl⟩ ?_
    rintro J hJ n τ ⟨k, hk, rfl, hinv, rfl⟩
    by_cases hlt : k < l.length
    · obtain ⟨x, hx⟩ : ∃ x, l[k]? = some x := ⟨l[k], List.getElem?_eq_getElem hlt⟩
      have hg : (l.map intP)[k]? = some (.int .i64 x) := by rw [List.getElem?_map, hx]; rfl
      have hw := wrapS (k := k) (by omega)
      have hwR : IntKind.i64.wrap ((q.rs.length : Int) - 1) = (q.rs.length : Int) - 1 := wrap64 (by omega)
      have hnext : q.risAt l k = true → J (l.length - (k + 1)) _ := fun hc => hJ _ _ ⟨k + 1, hlt, rfl, (fun i hi => by
        rcases Nat.lt_succ_iff_lt_or_eq.1 hi with h | h
        · exact hinv i h
        · subst h; exact hc), rfl⟩
      have hF : q.risAt l k = false → q.roomP l u = .tup [.int .i64 0, .int .i64 2] := fun hc => by
        have : T = false := by rw [hT]; exact allR_false hlt hc
        unfold Qu.roomP
        rw [hE, this]; rfl
      have hmeas : l.length - (k + 1) < l.length - k := by omega
      have hris : q.risAt l k = (decide (0 ≤ x) && decide (x ≤ (q.rs.length : Int) - 1) && (decide (k = 0) || decide ((l[k - 1]?).getD (-1) < x))) := by simp [Qu.risAt, hx]
      clear hJ hinv hT hE
      simp [-getElem?_pos, -List.getElem?_map, -decide_eq_true_eq, Qu.cells, intsP, hlt, hg, hwR]
      refine call_gives (k := 0) (fs := []) (cs := []) rfl rfl (within_c x 0 ((q.rs.length : Int) - 1)) rfl ?_
      cases hin : (decide (0 ≤ x) && decide (x ≤ (q.rs.length : Int) - 1))
      · have hTF := hF (by rw [hris, hin]; rfl)
        simp [-getElem?_pos, -List.getElem?_map, -decide_eq_true_eq, hTF]
      · rw [hin, Bool.true_and] at hris
        cases k with
        | zero =>
          have hround := hnext (by rw [hris]; rfl)
          simp [-getElem?_pos, -List.getElem?_map, intsP, hw]
          exact ⟨_, _, hmeas, Sub.mk (by simp [intsP]; rfl) (by simp [Qu.cells]), hround⟩
        | succ k =>
          obtain ⟨y, hy⟩ : ∃ y, l[k]? = some y := ⟨l[k], List.getElem?_eq_getElem (by omega)⟩
          have hg2 : (l.map intP)[k]? = some (.int .i64 y) := by rw [List.getElem?_map, hy]; rfl
          have hwk : IntKind.i64.wrap ((k : Int) + 1 - 1) = (k : Int) := by rw [wrap64 (by omega)]; omega
          have hwk2 : IntKind.i64.wrap (k : Int) = (k : Int) := wrap64 (by omega)
          have h0 : (0 : Int) < (k : Int) + 1 := by omega
          have hk0 : ¬ (k + 1 = 0) := by omega
          rw [show ((k + 1 : Nat) : Int) = (k : Int) + 1 by omega] at hw
          simp only [Nat.add_sub_cancel, hy, Option.getD_some, decide_eq_false hk0, Bool.false_or] at hris
          by_cases hyx : y < x
          · have hround := hnext (by rw [hris]; simpa using hyx)
            have hn : ¬ (x ≤ y) := by omega
            simp [-getElem?_pos, -List.getElem?_map, intsP, hlt, hg, hg2, hw, hwk, hwk2, h0, hn]
            exact ⟨_, _, hmeas, Sub.mk (by simp [intsP]) (by simp [Qu.cells]), hround⟩
          · have hTF := hF (by rw [hris]; simpa using hyx)
            have hn : x ≤ y := by omega
            simp [-getElem?_pos, -List.getElem?_map, intsP, hlt, hg, hg2, hw, hwk, hwk2, h0, hn, hTF]
    · have hTT : T = true := by rw [hT]; exact allR_true (fun i hi => hinv i (by omega))
      have hin := Qu.rising_in (q := q) (l := l) (by rw [← hT]; exact hTT)
      have he : k = l.length := by omega
      subst he
      clear hJ hinv
      simp [-getElem?_pos, -List.getElem?_map, intsP, Qu.cells]
      refine call_gives (k := 0) (fs := []) (cs := []) rfl rfl (many_c u) rfl ?_
      cases hm : manyB u
      · have hP : q.roomP l u = .tup [.int .i64 0, .int .i64 2] := by unfold Qu.roomP; rw [hE, hm]; simp
        simp [-getElem?_pos, hP]
      · have hub : 0 ≤ u ∧ u ≤ 40 := by simp only [manyB, Bool.and_eq_true, decide_eq_true_eq] at hm; exact hm
        obtain ⟨v, rfl⟩ : ∃ v : Nat, u = v := ⟨u.toNat, by omega⟩
        have hP : q.roomP l v = .tup [.int .i64 (q.roomM l v : Nat), .int .i64 0] := by unfold Qu.roomP; rw [hE, hm, hTT]; simp
        simp [-getElem?_pos]
        refine call_gives (k := 0) (fs := []) (xs := [q.pv, intsP l, .int .i64 v]) (cs := []) rfl rfl (room_c q hq l hl hin v (by omega)) rfl ?_
        simp [-getElem?_pos, hP]
  · have hP : q.roomP l u = .tup [.int .i64 0, .int .i64 q.check] := by
      have : q.roomErr l u = q.check := by unfold Qu.roomErr; rw [if_pos (by simpa using hc)]
      unfold Qu.roomP
      rw [this, if_neg hc]
    simp [-getElem?_pos, hc, hP]
end Go.Proofs.Ytohhjnpiiackjaa
/-! Contracts of layer 10 (queue): where ways can be; a run's hours; a machine's run. -/
namespace Go.Proofs.Ytohhjnpiiackjaa
open Go.RowKit
set_option maxRecDepth 10000
set_option linter.unusedSimpArgs false
/-- Where a way can be: at a run; at a run of an hour; at a machine of an hour. -/
inductive Nd where
  | ru (r : Nat)
  | rh (r h : Nat)
  | mh (m h : Nat)
  deriving DecidableEq
def Nd.pv : Nd → PV
  | .ru r => .agg [.int .i64 r, .int .i64 (-1), .int .i64 (-1)]
  | .rh r h => .agg [.int .i64 r, .int .i64 (-1), .int .i64 h]
  | .mh m h => .agg [.int .i64 (-1), .int .i64 m, .int .i64 h]
def Nd.kind : Nd → Nat
  | .ru _ => 0
  | .rh _ _ => 1
  | .mh _ _ => 2
def rowP (r : List Int) : PV := .agg (r.map (PV.int .i64))
def plP (p : List (List Int)) : List PV := p.map rowP
/-- The machine on which a run is. -/
def onR (l : List Int) (run : Int) : Int := match l.findIdx? (fun x => decide (run = x)) with
  | some i => i
  | none => -1
def onI (p : List (List Int)) (run : Int) (h : Nat) : Int := onR ((p[h]?).getD []) run
/-- Who is on a machine. -/
def who (p : List (List Int)) (h m : Nat) : Int := (((p[h]?).getD [])[m]?).getD (-1)
def layB (q : Qu) (p : List (List Int)) (b : Nat) : List Box := [.cells [.pv (.lst false 1 (q.ms.map rgsP)), .pv (.lst false 3 (q.rs.map Rq.pv)), .vec (.par b) 4 0 p.length], .arr 111 4 (plP p)]
/-- Rows of four. -/
def four (p : List (List Int)) : Prop := ∀ l ∈ p, l.length = 4
section
attribute [local simp] Box.purge Site.isLoc
attribute [local simp] retFz frzL AS.frz AV.frz AV.frzL Box.frz AS.tidy AS.frzC
theorem ixInt_c (l : List Int) (hl : l.length ≤ 1000) (v : Int) : Gives Try.prog 114 [.lst false 1 (l.map (PV.int .i64)), .int .i64 v] (.int .i64 (onR l v)) := by
  refine calls_of_awpS mixed L114_ok (Nat.le_of_ble_eq_true rfl) ?_
  simp [-getElem?_pos, L114]
  refine awp_loopS (fun n τ => ∃ k : Nat, k ≤ l.length ∧ n = l.length - k ∧ (∀ (j : Nat) (x : Int), j < k → l[j]? = some x → decide (v = x) = false) ∧ τ = ⟨[(0, .pv (.lst false 1 (l.map (PV.int .i64)))), (1, .pv (.int .i64 v)), (7, .pv (.int .i64 l.length)), (8, .pv (.int .i64 k))], []⟩)
    ⟨l.length, ⟨[(0, .pv (.lst false 1 (l.map (PV.int .i64)))), (1, .pv (.int .i64 v)), (7, .pv (.int .i64 l.length)), (8, .pv (.int .i64 0))], []⟩, Sub.mk (by simp) (by simp), 0, Nat.zero_le _, rfl, (fun j x hj => by omega), rfl⟩ ?_
  rintro J hJ n τ ⟨k, hk, rfl, hinv, rfl⟩
  by_cases hlt : k < l.length
  · obtain ⟨x, hx⟩ : ∃ x, l[k]? = some x := ⟨l[k], List.getElem?_eq_getElem hlt⟩
    have hg : (l.map (PV.int .i64))[k]? = some (.int .i64 x) := by rw [List.getElem?_map, hx]; rfl
    have hw := wrapS (k := k) (by omega)
    have hmeas : l.length - (k + 1) < l.length - k := by omega
    by_cases h1 : v = x
    · have hf : l.findIdx? (fun x => decide (v = x)) = some k := by
        rw [List.findIdx?_eq_some_iff_getElem]
        refine ⟨hlt, by rw [(List.getElem?_eq_some_iff.1 hx).2]; simpa using h1, fun j hj => ?_⟩
        have := hinv j l[j] hj (List.getElem?_eq_getElem (by omega))
        simpa using this
      unfold onR
      rw [hf]
      simp [-getElem?_pos, -List.getElem?_map, hlt, hg, h1]
    · have hround := hJ _ _ ⟨k + 1, hlt, rfl, (fun j y hj hy => by
        rcases Nat.lt_succ_iff_lt_or_eq.1 hj with h | h
        · exact hinv j y h hy
        · subst h; rw [hx] at hy; cases hy; simpa using h1), rfl⟩
      clear hJ
      simp [-getElem?_pos, -List.getElem?_map, hlt, hg, h1, hw]
      exact ⟨_, _, hmeas, Sub.mk (by simp) (by simp), hround⟩
  · have hf : l.findIdx? (fun x => decide (v = x)) = none := by
      rw [List.findIdx?_eq_none_iff]
      intro x hx
      obtain ⟨j, hj⟩ := List.mem_iff_getElem?.1 hx
      exact hinv j x (by have := (List.getElem?_eq_some_iff.1 hj).1; omega) hj
    have he : k = l.length := by omega
    subst he
    unfold onR
    rw [hf]
    simp [-getElem?_pos, -List.getElem?_map]
theorem on_c (x y : PV) (p : List (List Int)) (hp : four p) (run : Int) (h : Nat) (hh : h < p.length) : Gives Try.prog 113 [.ref [x, y, .lst false 4 (plP p)], .int .i64 run, .int .i64 h] (.int .i64 (onI p run h)) := by
  obtain ⟨l, hl⟩ : ∃ l, p[h]? = some l := ⟨p[h], List.getElem?_eq_getElem hh⟩
  have h4 := hp l (List.mem_of_getElem? hl)
  have hg : (plP p)[h]? = some (.agg (l.map (PV.int .i64))) := by rw [plP, List.getElem?_map, hl]; rfl
  have ht : (l.map (PV.int .i64)).take 4 = l.map (PV.int .i64) := List.take_of_length_le (by simp [h4])
  have e : onI p run h = onR l run := by simp [onI, hl]
  rw [e]
  refine calls_of_awpS mixed L113_ok (Nat.le_of_ble_eq_true rfl) ?_
  have n4 : natI 4 = some 4 := rfl
  simp [-getElem?_pos, -List.getElem?_map, L113, hg, n4, h4, ht, nble]
  refine call_gives (k := 0) (fs := []) (cs := []) rfl rfl (ixInt_c l (by omega) run) rfl ?_
  simp [-getElem?_pos]
theorem kind_c (n : Nd) : Gives Try.prog 102 [n.pv] (.int .i64 n.kind) := by
  refine calls_of_awpS mixed L102_ok (Nat.le_of_ble_eq_true rfl) ?_
  cases n with
  | ru r => simp [-getElem?_pos, L102, Nd.pv, Nd.kind]
  | rh r h =>
    have : ¬ ((h : Int) = -1) := by omega
    simp [-getElem?_pos, L102, Nd.pv, Nd.kind, this]
  | mh m h =>
    have h1 : ¬ ((h : Int) = -1) := by omega
    have h2 : ¬ ((m : Int) = -1) := by omega
    simp [-getElem?_pos, L102, Nd.pv, Nd.kind, h1, h2]
def stepsP : List PV := [.agg [.fn 110 [] []], .agg [.fn 111 [] []], .agg [.fn 112 [] []]]
theorem steps_c : Gives Try.prog 104 [] (.lst false 1 stepsP) := by
  refine calls_of_awpF [.loc 4 0] mixed L104_ok (Nat.le_of_ble_eq_true rfl) ?_
  simp [-getElem?_pos, L104]
  rfl
end
/-- The hours at which a run is on no machine. -/
def needsK (p : List (List Int)) (r : Nat) (k : Nat) : List Nd := (((List.range p.length).take k).filter fun h => decide (onI p r h = -1)).map (Nd.rh r)
def needsM (p : List (List Int)) (r : Nat) : List Nd := needsK p r p.length
theorem needsK_next {p : List (List Int)} {r k : Nat} (hk : k < p.length) : needsK p r (k + 1) = needsK p r k ++ (if onI p r k = -1 then [.rh r k] else []) := by
  have : (List.range p.length)[k]? = some k := by rw [List.getElem?_range hk]
  unfold needsK
  rw [take_next this, List.filter_append, List.map_append, List.filter_cons, List.filter_nil]
  by_cases h : onI p r k = -1 <;> simp [h]
theorem needsK_len {p : List (List Int)} {r k : Nat} : (needsK p r k).length ≤ k := by
  unfold needsK
  rw [List.length_map]
  refine Nat.le_trans (List.length_filter_le _ _) ?_
  rw [List.length_take]; omega
attribute [local simp] AS.exp expG Box.ren AV.map AV.mapL outsOk noRet Site.isRet Box.allS AV.allS AV.allSL retB dropL AS.adds renL outG outOk lentBx inG fnOf lookA List.findIdx?_cons
attribute [local simp] Box.purge Site.isLoc
def nodB (l : List Nd) : List (Site × Box) := [(.ret 0, .arr 147 3 (l.map Nd.pv))]
set_option maxHeartbeats 4000000 in
theorem lneeds_c (q : Qu) (p : List (List Int)) (hp : four p) (hl : p.length ≤ 1000) (r : Nat) :
    CallsA Try.prog 110 [.ptr (.par 0) 0, .pv (Nd.ru r).pv] (laid 0 (layB q p 1)) (fun x B => x = .vec (.ret 0) 3 0 (needsM p r).length ∧ B = nodB (needsM p r) ++ laid 0 (layB q p 1)) := by
  refine calls_of_awpB [.loc 26 0, .par 0, .par 1] mixed L110_ok (Nat.le_of_ble_eq_true rfl) ?_
  generalize hR : (fun (x : AV) (B : List (Site × Box)) => x = .vec (.ret 0) 3 0 (needsM p r).length ∧ B = nodB (needsM p r) ++ laid 0 (layB q p 1)) = R
  simp [-getElem?_pos, L110, layB, laid, Nd.pv]
  refine awp_loopS (fun n τ => ∃ k : Nat, k ≤ p.length ∧ n = p.length - k ∧ τ = ⟨[(0, .ptr (.par 0) 0), (3, .ptr (.loc 3 0) 0), (4, .vec (.loc 26 0) 3 0 (needsK p r k).length), (10, .pv (.int .i64 p.length)), (11, .pv (.int .i64 k))], [(.loc 26 0, .arr 147 3 ((needsK p r k).map Nd.pv)), (.loc 3 0, .cells [.pv (.int .i64 r), .pv (.int .i64 (-1)), .pv (.int .i64 (-1))])] ++ laid 0 (layB q p 1)⟩)
    ⟨p.length, ⟨[(0, .ptr (.par 0) 0), (3, .ptr (.loc 3 0) 0), (4, .vec (.loc 26 0) 3 0 0), (10, .pv (.int .i64 p.length)), (11, .pv (.int .i64 0))], [(.loc 26 0, .arr 147 3 []), (.loc 3 0, .cells [.pv (.int .i64 r), .pv (.int .i64 (-1)), .pv (.int .i64 (-1))])] ++ laid 0 (layB q p 1)⟩, Sub.trans' (Sub.mk (by simp [AS.vecT]) (by simp [AS.vecT, layB, laid])) (vecT 26 147 3 4 rfl (by decide)), 0, Nat.zero_le _, rfl, by simp [needsK]⟩ ?_
  rintro J hJ n τ ⟨k, hk, rfl, rfl⟩
  by_cases hlt : k < p.length
  · have hw := wrapS (k := k) (by omega)
    have hmeas : p.length - (k + 1) < p.length - k := by omega
    have hround := hJ _ _ ⟨k + 1, hlt, rfl, rfl⟩
    have hnx := needsK_next (r := r) hlt
    have hln := needsK_len (p := p) (r := r) (k := k)
    have hon := on_c (.lst false 1 (q.ms.map rgsP)) (.lst false 3 (q.rs.map Rq.pv)) p hp r k hlt
    have hk6 : (needsK p r k).length + 1 ≤ 1000000 := by omega
    have hpt : (plP p).take p.length = plP p := List.take_of_length_le (by simp [plP])
    have hpl : (plP p).length = p.length := by simp [plP]
    clear hJ
    generalize needsK p r (k + 1) = N2 at *
    generalize needsK p r k = N1 at *
    simp [-getElem?_pos, -List.getElem?_map, layB, laid, hlt]
    refine call_gives (k := 3) (fs := []) (xs := [.ref [.lst false 1 (q.ms.map rgsP), .lst false 3 (q.rs.map Rq.pv), .lst false 4 (plP p)], .int .i64 r, .int .i64 k]) (cs := []) rfl ?_ hon rfl ?_
    · simp [snapW, AV.snap, AV.snap0, hpl, hpt]
    by_cases ho : onI p r k = -1
    · rw [if_pos ho] at hnx
      subst hnx
      simp [-getElem?_pos, -List.getElem?_map, ho, nble, hk6, hw]
      refine ⟨_, _, hmeas, Sub.mk ?_ ?_, hround⟩
      · simp
      · simp [layB, laid, Nd.pv]
    · rw [if_neg ho, List.append_nil] at hnx
      subst hnx
      simp [-getElem?_pos, -List.getElem?_map, ho, hw]
      refine ⟨_, _, hmeas, Sub.mk ?_ ?_, hround⟩
      · simp
      · simp [layB, laid]
  · have he : k = p.length := by omega
    subst he
    simp [-getElem?_pos, -List.getElem?_map, layB, laid]
    rw [← hR]
    exact ⟨rfl, by simp [nodB, layB, laid, needsM]⟩
theorem who_at {p : List (List Int)} {h m : Nat} {l : List Int} {x : Int} (h1 : p[h]? = some l) (h2 : l[m]? = some x) : who p h m = x := by simp [who, h1, h2]
theorem ltaken_c (q : Qu) (p : List (List Int)) (hp : four p) (m h : Nat) (hm : m < 4) (hh : h < p.length) (r : Nat) (hr : who p h m = r) :
    CallsA Try.prog 112 [.ptr (.par 0) 0, .pv (Nd.mh m h).pv] (laid 0 (layB q p 1)) (fun x B => x = .vec (.ret 0) 3 0 1 ∧ B = nodB [.rh r h] ++ laid 0 (layB q p 1)) := by
  obtain ⟨l, hl⟩ : ∃ l, p[h]? = some l := ⟨p[h], List.getElem?_eq_getElem hh⟩
  have h4 := hp l (List.mem_of_getElem? hl)
  obtain ⟨x, hx⟩ : ∃ x, l[m]? = some x := ⟨l[m]'(by omega), List.getElem?_eq_getElem _⟩
  rw [who_at hl hx] at hr
  subst hr
  have hg : (plP p)[h]? = some (.agg (l.map (PV.int .i64))) := by rw [plP, List.getElem?_map, hl]; rfl
  have hg2 : (l.map (PV.int .i64))[m]? = some (.int .i64 r) := by rw [List.getElem?_map, hx]; rfl
  refine calls_of_awpB [.loc 19 0, .par 0, .par 1] mixed L112_ok (Nat.le_of_ble_eq_true rfl) ?_
  simp [-getElem?_pos, -List.getElem?_map, L112, layB, laid, Nd.pv, nblt, nble, hh, hm, hg, hg2, nodB]
end Go.Proofs.Ytohhjnpiiackjaa
/-! Contracts of layer 10 (queue): the machines that a run may have at an hour. -/
namespace Go.Proofs.Ytohhjnpiiackjaa
open Go.RowKit
set_option maxRecDepth 10000
set_option linter.unusedSimpArgs false
attribute [local simp] AS.exp expG Box.ren AV.map AV.mapL outsOk noRet Site.isRet Box.allS AV.allS AV.allSL retB dropL AS.adds renL outG outOk lentBx inG fnOf lookA List.findIdx?_cons
attribute [local simp] Box.purge Site.isLoc
theorem cok111 : COk Try.prog (tyOf tys) L111.code := litF_ok L111_ok L111_tab
noncomputable def skR : Box := .loop (rcode Try.prog 111 0) [15] 50 [(2, .ptr (.par 3) 0), (3, .ptr (.par 4) 0), (4, .ptr (.par 5) 0)] none
def skL (q : Qu) (p : List (List Int)) (r h : Nat) (e : Site) (s : List Nd) : List (Site × Box) :=
  [(.par 1, .cells [.pv (.lst false 1 (q.ms.map rgsP)), .pv (.lst false 3 (q.rs.map Rq.pv)), .vec (.par 2) 4 0 p.length]), (.par 2, .arr 111 4 (plP p)), (.par 3, .cells [.ptr (.par 1) 0]), (.par 4, .cells [.pv (.int .i64 r), .pv (.int .i64 (-1)), .pv (.int .i64 h)]), (.par 5, .cells [.vec e 3 0 s.length])]
noncomputable def skB (q : Qu) (p : List (List Int)) (r h : Nat) (e : Site) (s : List Nd) : List (Site × Box) := (.par 0, skR) :: skL q p r h e s ++ [(e, .arr 147 3 (s.map Nd.pv))]
noncomputable def skA (q : Qu) (p : List (List Int)) (r h : Nat) (s : List Nd) : List (Site × Box) := (.par 0, skR) :: (.ret 0, .arr 147 3 (s.map Nd.pv)) :: skL q p r h (.ret 0) s
set_option maxHeartbeats 4000000 in
theorem sk_yields (q : Qu) (p : List (List Int)) (hp : four p) (r h : Nat) (hh : h < p.length) (s : List Nd) (hs : s.length ≤ 1000) (m : Nat) (hm : m < 4) :
    YieldsA Try.prog 0 [.pv (.int .i64 m)] (skB q p r h (.par 6) s) (fun x B => x = .pv (.bool true) ∧ B = if who p h m = r then skB q p r h (.par 6) s else skA q p r h (s ++ [.mh m h])) := by
  obtain ⟨l, hl⟩ : ∃ l, p[h]? = some l := ⟨p[h], List.getElem?_eq_getElem hh⟩
  have h4 := hp l (List.mem_of_getElem? hl)
  obtain ⟨x, hx⟩ : ∃ x, l[m]? = some x := ⟨l[m]'(by omega), List.getElem?_eq_getElem _⟩
  have hwho := who_at hl hx
  have hg : (plP p)[h]? = some (.agg (l.map (PV.int .i64))) := by rw [plP, List.getElem?_map, hl]; rfl
  have hg2 : (l.map (PV.int .i64))[m]? = some (.int .i64 x) := by rw [List.getElem?_map, hx]; rfl
  have hs6 : s.length + 1 ≤ 1000000 := by omega
  have hcok : COk Try.prog (tyOf tys) (.rng 50 (.t 14) (rcode Try.prog 111 0) Y111_0a Y111_0b [15]) := cok111.2.1.2
  refine yields_of_awpS mixed hcok.1 hcok.2.1 rfl rfl (by simp) rfl ?_
  rw [hwho]
  generalize hR : (fun (z : AV) (B : List (Site × Box)) => z = .pv (.bool true) ∧ B = if x = (r : Int) then skB q p r h (.par 6) s else skA q p r h (s ++ [.mh m h])) = R
  by_cases hxr : x = (r : Int)
  · subst hxr
    simp [-getElem?_pos, -List.getElem?_map, Y111_0a, Y111_0b, skB, skR, skL, putL, nblt, nble, hh, hm, hg, hg2]
    refine ⟨[], [.par 1, .par 2, .par 3, .par 4, .par 5, .par 6], rfl, rfl, ?_, ?_⟩
    · simp [frzL]
    · rw [← hR]
      simp [skB, skR, skL, frzL]
  · simp [-getElem?_pos, -List.getElem?_map, Y111_0a, Y111_0b, skB, skR, skL, putL, nblt, nble, hh, hm, hg, hg2, hxr, hs6]
    refine ⟨[], [.loc 35 0, .par 1, .par 2, .par 3, .par 4, .par 5], rfl, rfl, ?_, ?_⟩
    · simp [frzL]
    · rw [← hR]
      simp [skA, skR, skL, frzL, hxr, Nd.pv]
/-- The machines that a run may have, of the first k. -/
def seekK (q : Qu) (p : List (List Int)) (r h k : Nat) : List Nd := ((q.macs r h k).filter fun m => !decide (who p h m = r)).map (Nd.mh · h)
theorem seekK_next (q : Qu) {p : List (List Int)} {r h k : Nat} (hk : k < q.ms.length) : seekK q p r h (k + 1) = seekK q p r h k ++ (if q.may r k h = true ∧ ¬ who p h k = r then [.mh k h] else []) := by
  unfold seekK
  rw [q.macs_next hk, List.filter_append, List.map_append]
  cases hm : q.may r k h <;> by_cases hw : who p h k = r <;> simp [hw]
theorem seekK_len {q : Qu} {p : List (List Int)} {r h k : Nat} : (seekK q p r h k).length ≤ k := by
  unfold seekK Qu.macs
  rw [List.length_map]
  refine Nat.le_trans (List.length_filter_le _ _) (Nat.le_trans (List.length_filter_le _ _) ?_)
  rw [List.length_take]; omega
noncomputable def skF (q : Qu) (p : List (List Int)) (r h : Nat) (s : List Nd) : List (Site × Box) := (.ret 0, .arr 147 3 (s.map Nd.pv)) :: (.par 0, skR) :: skL q p r h (.ret 0) s
def skV (q : Qu) (r h k : Nat) : List (Nat × AV) := [(0, .yld (.par 0)), (2, .pv (.ref [.int .i64 r])), (3, .pv (.ref [.int .i64 h])), (5, .pv (.fn 90 [q.pv] [])), (11, .pv (.int .i64 q.ms.length)), (12, .pv (.int .i64 k))]
set_option maxHeartbeats 8000000 in
theorem sk_iter (q : Qu) (hq : q.ok) (p : List (List Int)) (hp : four p) (r h : Nat) (hr : r < q.rs.length) (hh : h < p.length) :
    CallsA Try.prog 107 [.yld (.par 0), .pv (.ref [.lst false 1 (q.ms.map rgsP), .lst false 3 (q.rs.map Rq.pv)]), .pv (.ref [.int .i64 r]), .pv (.ref [.int .i64 h])] (skB q p r h (.par 6) []) (fun x B => x = .pv (.tup []) ∧ B = skF q p r h (seekK q p r h q.ms.length)) := by
  have hqm := hq.m
  refine calls_of_awpB [.loc 23 0, .par 0, .par 1, .par 2, .par 3, .par 4, .par 5] mixed L107_ok (Nat.le_of_ble_eq_true rfl) ?_
  generalize hR : (fun (x : AV) (B : List (Site × Box)) => x = .pv (.tup []) ∧ B = skF q p r h (seekK q p r h q.ms.length)) = R
  simp [-getElem?_pos, L107]
  refine awp_loopS (fun n τ => ∃ (k : Nat), k ≤ q.ms.length ∧ n = q.ms.length - k ∧ τ = ⟨skV q r h k, skB q p r h (.loc 23 0) (seekK q p r h k)⟩)
    ⟨q.ms.length, ⟨skV q r h 0, skB q p r h (.loc 23 0) []⟩, Sub.trans' (Sub.mk ?_ ?_) (Sub.ren 23 (.par 6) _), 0, Nat.zero_le _, rfl, by simp [seekK, Qu.macs]⟩ ?_
  · simp [AS.ren, skV, skB, skL, skR, renS, Qu.pv]
  · simp [AS.ren, skV, skB, skL, skR, renS]
  rintro J hJ n τ ⟨k, hk, rfl, rfl⟩
  by_cases hlt : k < q.ms.length
  · have hw := wrapS (k := k) (by omega)
    have hmeas : q.ms.length - (k + 1) < q.ms.length - k := by omega
    have hmay := may_c q hq r k h hr hlt
    have hnx := seekK_next q (p := p) (r := r) (h := h) hlt
    have hlt' : (k : Int) < (q.ms.length : Int) := by omega
    have hround := hJ _ _ ⟨k + 1, hlt, rfl, rfl⟩
    have hsl := seekK_len (q := q) (p := p) (r := r) (h := h) (k := k)
    have hY := sk_yields q p hp r h hh (seekK q p r h k) (by omega) k (by omega)
    clear hJ
    generalize seekK q p r h (k + 1) = S2 at *
    generalize seekK q p r h k = S1 at *
    simp [-getElem?_pos, -List.getElem?_map, skV, hlt, hlt']
    refine call_gives (k := 0) (fs := [q.pv]) (xs := [.int .i64 r, .int .i64 k, .int .i64 h]) (cs := []) rfl rfl hmay rfl ?_
    cases hm : q.may r k h
    · rw [hm, if_neg (by simp), List.append_nil] at hnx
      subst hnx
      simp [-getElem?_pos, -List.getElem?_map, hw]
      refine ⟨_, _, hmeas, Sub.mk ?_ ?_, hround⟩
      · simp [skV]
      · simp [skB, skL, skR]
    · simp [-getElem?_pos, -List.getElem?_map, skB, skL, skR]
      refine yield_lent 1023 0 [.par 0, .par 1, .par 2, .par 3, .par 4, .par 5, .loc 23 0] (as' := [.pv (.int .i64 k)]) rfl rfl rfl rfl ?_ rfl rfl hY ?_
      · simp [skB, skL, skR]
      rintro x B ⟨rfl, rfl⟩
      by_cases hwr : who p h k = r
      · rw [if_neg (by simp [hwr]), List.append_nil] at hnx
        subst hnx
        rw [if_pos hwr]
        refine ⟨rfl, by simp [skB, skL, skR], ?_⟩
        simp [-getElem?_pos, -List.getElem?_map, skB, skL, skR, hw]
        refine ⟨_, _, hmeas, Sub.mk ?_ ?_, hround⟩
        · simp [skV]
        · simp [skB, skL, skR]
      · rw [if_pos ⟨hm, hwr⟩] at hnx
        subst hnx
        rw [if_neg hwr]
        refine ⟨rfl, by simp [skA, skL, skR], ?_⟩
        simp [-getElem?_pos, -List.getElem?_map, skA, skL, skR, hw]
        refine ⟨_, _, hmeas, Sub.trans' (Sub.mk ?_ ?_) (Sub.ren 23 (.loc 1023 0) _), hround⟩
        · simp [AS.ren, renS, skV]
        · simp [AS.ren, renS, skB, skL, skR, Nd.pv]
  · have he : k = q.ms.length := by omega
    subst he
    simp [-getElem?_pos, -List.getElem?_map, skV, skB, skL, skR]
    rw [← hR]
    simp [skF, skL, skR]
/-- Where a run of an hour can go. -/
def seeksM (q : Qu) (p : List (List Int)) (r h : Nat) : List Nd := seekK q p r h q.ms.length ++ (if onI p r h = -1 then [] else [.ru r])
set_option maxHeartbeats 8000000 in
theorem lseeks_c (q : Qu) (hq : q.ok) (p : List (List Int)) (hp : four p) (r h : Nat) (hr : r < q.rs.length) (hh : h < p.length) :
    CallsA Try.prog 111 [.ptr (.par 0) 0, .pv (Nd.rh r h).pv] (laid 0 (layB q p 1)) (fun x B => x = .vec (.ret 0) 3 0 (seeksM q p r h).length ∧ B = nodB (seeksM q p r h) ++ laid 0 (layB q p 1)) := by
  have hqm := hq.m
  have hit := sk_iter q hq p hp r h hr hh
  have hon := on_c (.lst false 1 (q.ms.map rgsP)) (.lst false 3 (q.rs.map Rq.pv)) p hp r h hh
  have hsl := seekK_len (q := q) (p := p) (r := r) (h := h) (k := q.ms.length)
  have hpt : (plP p).take p.length = plP p := List.take_of_length_le (by simp [plP])
  have hpl : (plP p).length = p.length := by simp [plP]
  have hS : seeksM q p r h = seekK q p r h q.ms.length ++ (if onI p r h = -1 then [] else [.ru r]) := rfl
  refine calls_of_awpE mixed L111_ok (Nat.le_of_ble_eq_true rfl) ?_
  generalize hR : (fun (x : AV) (B : List (Site × Box)) => x = .vec (.ret 0) 3 0 (seeksM q p r h).length ∧ B = nodB (seeksM q p r h) ++ laid 0 (layB q p 1)) = R
  generalize seeksM q p r h = S at *
  generalize seekK q p r h q.ms.length = S1 at *
  have hs6 : S1.length + 1 ≤ 1000000 := by omega
  simp [-getElem?_pos, -List.getElem?_map, L111, layB, laid, Nd.pv]
  refine .inl (call_pv [] (fs := []) (xs := [q.pv, .int .i64 r, .int .i64 h]) (cs := []) rfl rfl (machines_c q r h) ?_)
  simp [-getElem?_pos, -List.getElem?_map, frzsL, macF]
  refine rng_sub (vecC 60 147 3 (s := .loc 4 0) (cs := [.pv (.emp (some true))]) 0 rfl rfl (by decide)) ?_
  refine rng_lent [.loc 50 0, .par 0, .par 1, .loc 2 0, .loc 3 0, .loc 4 0, .loc 60 0] [(2, .ptr (.loc 2 0) 0), (3, .ptr (.loc 3 0) 0), (4, .ptr (.loc 4 0) 0)] (gf := 107) (fs := []) (cs := [.pv (.ref [.lst false 1 (q.ms.map rgsP), .lst false 3 (q.rs.map Rq.pv)]), .pv (.ref [.int .i64 r]), .pv (.ref [.int .i64 h])]) ?_ ?_ rfl rfl ?_ ?_ ?_ hit ?_
  · rfl
  · simp [AS.vecC]
  · simp [AS.vecC, skB, skL, skR]
  · rfl
  · rfl
  rintro x B ⟨rfl, rfl⟩
  refine ⟨rfl, by simp [skF, skL, skR], ?_⟩
  refine ⟨_, _, _, _, _, rfl, ?_⟩
  simp [-getElem?_pos, -List.getElem?_map, AS.vecC, skF, skL, skR, jumpQ]
  refine call_gives (k := 3) (fs := []) (xs := [.ref [.lst false 1 (q.ms.map rgsP), .lst false 3 (q.rs.map Rq.pv), .lst false 4 (plP p)], .int .i64 r, .int .i64 h]) (cs := []) rfl ?_ hon rfl ?_
  · simp [snapW, AV.snap, AV.snap0, hpl, hpt]
  by_cases ho : onI p r h = -1
  · rw [if_pos ho, List.append_nil] at hS
    subst hS
    simp [-getElem?_pos, -List.getElem?_map, ho]
    refine ⟨[.loc 51 0, .par 0, .par 1], ?_⟩
    simp
    rw [← hR]
    simp [nodB, layB, laid]
  · rw [if_neg ho] at hS
    subst hS
    simp [-getElem?_pos, -List.getElem?_map, ho, nble, hs6]
    refine ⟨[.loc 48 0, .par 0, .par 1], ?_⟩
    simp
    rw [← hR]
    simp [nodB, layB, laid, Nd.pv]
end Go.Proofs.Ytohhjnpiiackjaa
