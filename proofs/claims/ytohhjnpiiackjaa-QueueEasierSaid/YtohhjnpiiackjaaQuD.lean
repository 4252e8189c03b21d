/- Contracts of layer 10 (queue): the runs of a way are laid on the machines to which it leads. (Several texts in one.) -/
import Derived.Test.YtohhjnpiiackjaaQuC
import Derived.Test.YtohhjnpiiackjaaBaseD
set_option linter.unusedVariables false
set_option linter.unusedSimpArgs false
/-! Contracts of layer 10 (queue): the runs of a way are laid on the machines to which it leads. -/
namespace Go.Proofs.Ytohhjnpiiackjaa
open Go.RowKit
set_option maxRecDepth 10000
set_option linter.unusedSimpArgs false
/-- From where a way came to each node. -/
abbrev By := List (Nd × Nd)
def par (by' : By) (n : Nd) : Option Nd := (by'.find? fun e => decide (n = e.1)).map (·.2)
def byP (by' : By) : List (PV × PV) := by'.map fun e => (e.1.pv, e.2.pv)
def Nd.a : Nd → Int
  | .ru r => r
  | .rh r _ => r
  | .mh _ _ => -1
def Nd.b : Nd → Int
  | .mh m _ => m
  | _ => -1
def Nd.c : Nd → Int
  | .ru _ => -1
  | .rh _ h => h
  | .mh _ h => h
theorem Nd.pv_eq (n : Nd) : n.pv = .agg [.int .i64 n.a, .int .i64 n.b, .int .i64 n.c] := by cases n <;> rfl
theorem nd_eqK (a b : Nd) : eqK a.pv b.pv = decide (a = b) := by
  rw [Bool.eq_iff_iff]
  cases a <;> cases b <;> simp [eqK, Nd.pv, eqL, eqC, PV.cells] <;> omega
theorem findV_by (n : Nd) : ∀ by' : By, findV n.pv (byP by') = (par by' n).map Nd.pv
  | [] => rfl
  | e :: r => by
    have ih := findV_by n r
    unfold byP at ih ⊢
    rw [List.map_cons, findV, nd_eqK]
    unfold par at ih ⊢
    rw [List.find?_cons]
    cases decide (n = e.1) with
    | true => rfl
    | false => exact ih
theorem putK_by {n b : Nd} : ∀ {by' : By}, par by' n = none → putK n.pv b.pv (byP by') = byP (by' ++ [(n, b)])
  | [], _ => rfl
  | e :: r, h => by
    unfold par at h
    rw [List.find?_cons] at h
    unfold byP
    rw [List.map_cons, putK, nd_eqK]
    cases hd : decide (n = e.1) with
    | true => rw [hd] at h; simp at h
    | false =>
      rw [hd] at h
      have := putK_by (n := n) (b := b) (by' := r) h
      unfold byP at this
      simp [this]
theorem kt_nd (n : Nd) : KT.ok ⟨true, [.int .i64, .int .i64, .int .i64]⟩ n.pv = true := by cases n <;> rfl
theorem keys_by (by' : By) : keysOk ⟨true, [.int .i64, .int .i64, .int .i64]⟩ (byP by') = true := by
  unfold keysOk byP
  rw [List.all_map, List.all_eq_true]
  exact fun e _ => kt_nd e.1
def setP (p : List (List Int)) (h m : Nat) (x : Int) : List (List Int) := p.set h (((p[h]?).getD []).set m x)
def chg1 (n b : Nd) (p : List (List Int)) : List (List Int) := match n, b with
  | .mh m h, b => setP p h m b.a
  | .rh _ h, .mh m _ => setP p h m (-1)
  | _, _ => p
/-- The way is gone back, from its end on. -/
def chg (by' : By) : Nat → Nd → List (List Int) → List (List Int)
  | 0, _, p => p
  | f + 1, n, p => match par by' n with
    | none => p
    | some b => if n = b then p else chg by' f b (chg1 n b p)
theorem setP_len {p : List (List Int)} {h m : Nat} {x : Int} : (setP p h m x).length = p.length := by simp [setP]
theorem setP_four {p : List (List Int)} (hp : four p) {h m : Nat} {x : Int} (hh : h < p.length) : four (setP p h m x) := fun l hl => by
  rcases List.mem_or_eq_of_mem_set hl with h1 | h1
  · exact hp l h1
  · subst h1
    have : p[h]? = some p[h] := List.getElem?_eq_getElem hh
    rw [this]
    simp [hp _ (List.getElem_mem hh)]
theorem chg1_len {n b : Nd} {p : List (List Int)} : (chg1 n b p).length = p.length := by
  cases n <;> cases b <;> simp [chg1, setP_len]
theorem splice_set {l : List PV} {m : Nat} {x : PV} (hm : m < l.length) : splice l m [x] = l.set m x := by
  have hs : m + [x].length ≤ l.length := by simp; omega
  apply List.ext_getElem?
  intro j
  rw [splice_get hs]
  by_cases e : j = m
  · subst e
    rw [if_neg (by omega), if_pos (by simp), List.getElem?_set_self hm]; simp
  · rw [List.getElem?_set_ne (fun e' => e e'.symm)]
    split
    · rfl
    · rw [if_neg (by simp; omega)]
theorem plP_set {p : List (List Int)} {h m : Nat} {l : List Int} {x : Int} (hl : p[h]? = some l) (hm : m < l.length) : (plP p).set h (.agg (splice (l.map (PV.int .i64)) m [.int .i64 x])) = plP (setP p h m x) := by
  rw [splice_set (by simpa using hm), plP, plP, setP, hl, List.map_set]
  simp only [Option.getD_some, rowP]
  rw [List.map_set]
/-- Nodes of a queue and a plan. -/
def Nd.ok (q : Qu) (p : List (List Int)) : Nd → Prop
  | .ru r => r < q.rs.length
  | .rh r h => r < q.rs.length ∧ h < p.length
  | .mh m h => m < q.ms.length ∧ h < p.length
/-- Each node came from one that stands ahead of it, but the first. -/
structure ByOk (q : Qu) (p : List (List Int)) (by' : By) : Prop where
  nd : (by'.map (·.1)).Nodup
  ok : ∀ e ∈ by', e.1.ok q p ∧ e.2.ok q p
  up : ∀ (i : Nat) (e : Nd × Nd), by'[i]? = some e → e.1 = e.2 ∨ ∃ (j : Nat) (e' : Nd × Nd), j < i ∧ by'[j]? = some e' ∧ e'.1 = e.2
theorem par_at {by' : By} (hn : (by'.map (·.1)).Nodup) {i : Nat} {e : Nd × Nd} (h : by'[i]? = some e) : par by' e.1 = some e.2 := by
  induction by' generalizing i with
  | nil => simp at h
  | cons a r ih =>
    rw [List.map_cons, List.nodup_cons] at hn
    unfold par
    rw [List.find?_cons]
    cases i with
    | zero => simp at h; subst h; simp
    | succ i =>
      have h' : r[i]? = some e := by simpa using h
      have hne : ¬ e.1 = a.1 := fun e' => hn.1 (by rw [← e']; exact List.mem_map.2 ⟨e, List.mem_of_getElem? h', rfl⟩)
      rw [decide_eq_false hne]
      exact ih hn.2 h'
theorem Nd.ok_len {q : Qu} {p p' : List (List Int)} (h : p'.length = p.length) {n : Nd} (hn : n.ok q p) : n.ok q p' := by
  cases n with
  | ru r => exact hn
  | rh r k => exact ⟨hn.1, by rw [h]; exact hn.2⟩
  | mh m k => exact ⟨hn.1, by rw [h]; exact hn.2⟩
attribute [local simp] AS.exp expG Box.ren AV.map AV.mapL outsOk noRet Site.isRet Box.allS AV.allS AV.allSL retB dropL AS.adds renL outG outOk lentBx inG fnOf lookA List.findIdx?_cons
attribute [local simp] Box.purge Site.isLoc
def chgB (q : Qu) (p : List (List Int)) (by' : By) : List Box := layB q p 1 ++ [.map (byP by')]
def chgS (q : Qu) (p : List (List Int)) (by' : By) (n : Nd) : AS := ⟨[(0, .ptr (.par 0) 0), (2, .mp (.par 2)), (4, .ptr (.loc 4 0) 0)], (.loc 4 0, .cells [.pv (.int .i64 n.a), .pv (.int .i64 n.b), .pv (.int .i64 n.c)]) :: laid 0 (chgB q p by')⟩
set_option maxHeartbeats 16000000 in
theorem change_c (q : Qu) (hq : q.ok) (by' : By) (p0 : List (List Int)) (hb : ByOk q p0 by') (hp0 : four p0) (i0 : Nat) (n0 b0 : Nd) (hi0 : by'[i0]? = some (n0, b0)) :
    CallsA Try.prog 103 [.ptr (.par 0) 0, .pv n0.pv, .mp (.par 2)] (laid 0 (chgB q p0 by')) (fun x B => x = .pv (.tup []) ∧ B = laid 0 (chgB q (chg by' by'.length n0 p0) by')) := by
  have hqm := hq.m
  refine calls_of_awpB [.par 0, .par 1, .par 2] mixed L103_ok (Nat.le_of_ble_eq_true rfl) ?_
  generalize hR : (fun (x : AV) (B : List (Site × Box)) => x = .pv (.tup []) ∧ B = laid 0 (chgB q (chg by' by'.length n0 p0) by')) = R
  obtain ⟨RES, hRES⟩ : ∃ z, z = chg by' by'.length n0 p0 := ⟨_, rfl⟩
  rw [← hRES] at hR
  rw [Nd.pv_eq]
  simp [-getElem?_pos, L103, chgB, layB, laid]
  refine awp_loopS (fun k τ => ∃ (p : List (List Int)) (n b : Nd) (f : Nat), by'[k]? = some (n, b) ∧ k < f ∧ chg by' f n p = RES ∧ four p ∧ p.length = p0.length ∧ τ = chgS q p by' n)
    ⟨i0, chgS q p0 by' n0, Sub.mk (by simp) (by simp [chgB, layB, laid]), p0, n0, b0, by'.length, hi0, (List.getElem?_eq_some_iff.1 hi0).1, hRES.symm, hp0, rfl, rfl⟩ ?_
  clear hRES
  rintro J hJ k τ ⟨p, n, b, f, hk, hf, hres, hp, hlen, rfl⟩
  have hpar := par_at hb.nd hk
  have hfind := findV_by n by'
  rw [hpar] at hfind
  simp only [Option.map_some] at hfind
  have hE := nd_eqK n b
  have hkn := kind_c n
  have hkb := kind_c b
  have hkt := kt_nd n
  have hktb := kt_nd b
  have hks := keys_by by'
  obtain ⟨okn, okb⟩ := hb.ok _ (List.mem_of_getElem? hk)
  have okn := Nd.ok_len hlen okn
  have okb := Nd.ok_len hlen okb
  obtain ⟨f', rfl⟩ : ∃ f', f = f' + 1 := ⟨f - 1, by omega⟩
  have hch : chg by' (f' + 1) n p = if n = b then p else chg by' f' b (chg1 n b p) := by rw [chg, hpar]
  rw [hch] at hres
  by_cases hnb : n = b
  · rw [if_pos hnb] at hres
    subst hres
    clear hJ
    rw [decide_eq_true hnb] at hE
    rw [Nd.pv_eq, Nd.pv_eq] at hE
    rw [Nd.pv_eq, Nd.pv_eq] at hfind
    rw [Nd.pv_eq] at hkt hktb
    simp [-getElem?_pos, -eqK, -KT.ok, chgS, chgB, layB, laid, hE, hfind, hkt, hktb, hks]
    rw [← hR]
    simp [chgB, layB, laid]
  · rw [if_neg hnb] at hres
    rw [decide_eq_false hnb] at hE
    obtain ⟨j, e', hj, hj1, hj2⟩ : ∃ (j : Nat) (e' : Nd × Nd), j < k ∧ by'[j]? = some e' ∧ e'.1 = b := by
      rcases hb.up k _ hk with h | h
      · exact absurd h hnb
      · exact h
    have hround := hJ j (chgS q (chg1 n b p) by' b) ⟨chg1 n b p, b, e'.2, f', by rw [hj1, ← hj2], by omega, hres, (by
      cases n <;> cases b <;> first | exact hp | exact setP_four hp okn.2), by rw [chg1_len]; exact hlen, rfl⟩
    clear hJ hres hch hb
    cases n with
    | mh m h =>
      obtain ⟨l, hl⟩ : ∃ l, p[h]? = some l := ⟨p[h]'okn.2, List.getElem?_eq_getElem _⟩
      have h4 := hp l (List.mem_of_getElem? hl)
      have hmm : m < q.ms.length := okn.1
      have hm4 : m < 4 := by omega
      have hh : h < p.length := okn.2
      have hg : (plP p)[h]? = some (.agg (l.map (PV.int .i64))) := by rw [plP, List.getElem?_map, hl]; rfl
      have hset := plP_set (x := b.a) hl (m := m) (by omega)
      have hpl : (plP p).length = p.length := by simp [plP]
      have hm1 : m + 1 ≤ 4 := by omega
      rw [Nd.pv_eq b] at hE hfind hktb hkb
      simp only [Nd.pv, Nd.kind] at hE hfind hkt hkn
      rw [show chg1 (.mh m h) b p = setP p h m b.a from rfl] at hround
      unfold chgS at hround
      generalize b.a = ba at *
      generalize b.b = bb at *
      generalize b.c = bc at *
      simp [-getElem?_pos, -List.getElem?_map, -eqK, -KT.ok, chgS, chgB, layB, laid, Nd.a, Nd.b, Nd.c, hE, hfind, hkt, hktb, hks]
      refine call_gives (k := 0) (fs := []) (cs := []) rfl rfl hkn rfl ?_
      simp [-getElem?_pos, -List.getElem?_map, -eqK, -KT.ok, -splice, nblt, nble, hh, hm4, hm1, hg, h4, setAt, hset, hpl]
      refine ⟨_, _, hj, Sub.mk ?_ ?_, hround⟩
      · simp
      · simp [chgB, layB, laid, chg1, setP_len]
    | ru r =>
      rw [Nd.pv_eq b] at hE hfind hktb hkb
      simp only [Nd.pv, Nd.kind] at hE hfind hkt hkn
      rw [show chg1 (.ru r) b p = p by cases b <;> rfl] at hround
      unfold chgS at hround
      generalize b.a = ba at *
      generalize b.b = bb at *
      generalize b.c = bc at *
      simp [-getElem?_pos, -List.getElem?_map, -eqK, -KT.ok, chgS, chgB, layB, laid, Nd.a, Nd.b, Nd.c, hE, hfind, hkt, hktb, hks]
      refine call_gives (k := 0) (fs := []) (cs := []) rfl rfl hkn rfl ?_
      simp [-getElem?_pos, -List.getElem?_map, -eqK, -KT.ok]
      refine call_gives (k := 0) (fs := []) (cs := []) rfl rfl hkn rfl ?_
      simp [-getElem?_pos, -List.getElem?_map, -eqK, -KT.ok]
      refine ⟨_, _, hj, Sub.mk ?_ ?_, hround⟩
      · simp
      · simp [chgB, layB, laid]
    | rh r h =>
      cases b with
      | mh m h' =>
        obtain ⟨l, hl⟩ : ∃ l, p[h]? = some l := ⟨p[h]'okn.2, List.getElem?_eq_getElem _⟩
        have h4 := hp l (List.mem_of_getElem? hl)
        have hmm : m < q.ms.length := okb.1
        have hm4 : m < 4 := by omega
        have hh : h < p.length := okn.2
        have hg : (plP p)[h]? = some (.agg (l.map (PV.int .i64))) := by rw [plP, List.getElem?_map, hl]; rfl
        have hset := plP_set (x := -1) hl (m := m) (by omega)
        have hpl : (plP p).length = p.length := by simp [plP]
        have hm1 : m + 1 ≤ 4 := by omega
        simp only [Nd.pv, Nd.kind] at hE hfind hkt hktb hkn hkb
        simp [-getElem?_pos, -List.getElem?_map, -eqK, -KT.ok, chgS, chgB, layB, laid, Nd.a, Nd.b, Nd.c, hE, hfind, hkt, hktb, hks]
        refine call_gives (k := 0) (fs := []) (cs := []) rfl rfl hkn rfl ?_
        simp [-getElem?_pos, -List.getElem?_map, -eqK, -KT.ok]
        refine call_gives (k := 0) (fs := []) (cs := []) rfl rfl hkn rfl ?_
        simp [-getElem?_pos, -List.getElem?_map, -eqK, -KT.ok]
        refine call_gives (k := 0) (fs := []) (cs := []) rfl rfl hkb rfl ?_
        simp [-getElem?_pos, -List.getElem?_map, -eqK, -KT.ok, -splice, nblt, nble, hh, hm4, hm1, hg, h4, setAt, hset, hpl]
        refine ⟨_, _, hj, Sub.mk ?_ ?_, hround⟩
        · simp
        · simp [chgB, layB, laid, chg1, setP_len, Nd.a, Nd.b, Nd.c]
      | ru r' =>
        simp only [Nd.pv, Nd.kind] at hE hfind hkt hktb hkn hkb
        simp [-getElem?_pos, -List.getElem?_map, -eqK, -KT.ok, chgS, chgB, layB, laid, Nd.a, Nd.b, Nd.c, hE, hfind, hkt, hktb, hks]
        refine call_gives (k := 0) (fs := []) (cs := []) rfl rfl hkn rfl ?_
        simp [-getElem?_pos, -List.getElem?_map, -eqK, -KT.ok]
        refine call_gives (k := 0) (fs := []) (cs := []) rfl rfl hkn rfl ?_
        simp [-getElem?_pos, -List.getElem?_map, -eqK, -KT.ok]
        refine call_gives (k := 0) (fs := []) (cs := []) rfl rfl hkb rfl ?_
        simp [-getElem?_pos, -List.getElem?_map, -eqK, -KT.ok]
        refine ⟨_, _, hj, Sub.mk ?_ ?_, hround⟩
        · simp
        · simp [chgB, layB, laid, chg1, Nd.a, Nd.b, Nd.c]
      | rh r' h' =>
        simp only [Nd.pv, Nd.kind] at hE hfind hkt hktb hkn hkb
        simp [-getElem?_pos, -List.getElem?_map, -eqK, -KT.ok, chgS, chgB, layB, laid, Nd.a, Nd.b, Nd.c, hE, hfind, hkt, hktb, hks]
        refine call_gives (k := 0) (fs := []) (cs := []) rfl rfl hkn rfl ?_
        simp [-getElem?_pos, -List.getElem?_map, -eqK, -KT.ok]
        refine call_gives (k := 0) (fs := []) (cs := []) rfl rfl hkn rfl ?_
        simp [-getElem?_pos, -List.getElem?_map, -eqK, -KT.ok]
        refine call_gives (k := 0) (fs := []) (cs := []) rfl rfl hkb rfl ?_
        simp [-getElem?_pos, -List.getElem?_map, -eqK, -KT.ok]
        refine ⟨_, _, hj, Sub.mk ?_ ?_, hround⟩
        · simp
        · simp [chgB, layB, laid, chg1, Nd.a, Nd.b, Nd.c]
end Go.Proofs.Ytohhjnpiiackjaa
/-! Layer 10 (queue): a search for an hour: nodes, what is kept of them. -/
namespace Go.Proofs.Ytohhjnpiiackjaa
open Go.RowKit
set_option maxRecDepth 10000
set_option linter.unusedSimpArgs false
def isFree (p : List (List Int)) : Nd → Bool
  | .mh m h => decide (who p h m = -1)
  | _ => false
/-- Where a way can go on. -/
def nx (q : Qu) (p : List (List Int)) : Nd → List Nd
  | .ru r => needsM p r
  | .rh r h => seeksM q p r h
  | .mh m h => [.rh (who p h m).toNat h]
def push1 (n : Nd) (s : By × List Nd) (x : Nd) : By × List Nd := if (par s.1 x).isSome = true then s else (s.1 ++ [(x, n)], s.2 ++ [x])
def bfs (q : Qu) (p : List (List Int)) : Nat → By → List Nd → Option (List (List Int))
  | 0, _, _ => none
  | _ + 1, _, [] => none
  | f + 1, by', n :: rest => if isFree p n = true then some (chg by' by'.length n p) else bfs q p f ((nx q p n).foldl (push1 n) (by', rest)).1 ((nx q p n).foldl (push1 n) (by', rest)).2
/-- A run gets an hour more. (F: how long is searched at most.) -/
def giveP (F : Nat) (q : Qu) (p : List (List Int)) (run : Nat) : Option (List (List Int)) := bfs q p F [(.ru run, .ru run)] [.ru run]
/-- A plan whose rows name runs alone. -/
structure PW (q : Qu) (p : List (List Int)) : Prop where
  f : four p
  ok : ∀ l ∈ p, ∀ x ∈ l, x = -1 ∨ (0 ≤ x ∧ x < q.rs.length)
  l : p.length ≤ 40
theorem PW.who {q : Qu} {p : List (List Int)} (hp : PW q p) (h m : Nat) : who p h m = -1 ∨ (0 ≤ Go.Proofs.Ytohhjnpiiackjaa.who p h m ∧ Go.Proofs.Ytohhjnpiiackjaa.who p h m < q.rs.length) := by
  unfold Go.Proofs.Ytohhjnpiiackjaa.who
  cases h1 : p[h]? with
  | none => left; simp
  | some l =>
    simp only [Option.getD_some]
    cases h2 : l[m]? with
    | none => left; rfl
    | some x => exact hp.ok l (List.mem_of_getElem? h1) x (List.mem_of_getElem? h2)
theorem onR_lt {l : List Int} {v : Int} : onR l v = -1 ∨ ∃ i : Nat, onR l v = i ∧ i < l.length ∧ l[i]? = some v := by
  unfold onR
  cases h : l.findIdx? (fun x => decide (v = x)) with
  | none => exact .inl rfl
  | some i =>
    obtain ⟨hi, h1, _⟩ := List.findIdx?_eq_some_iff_getElem.1 h
    refine .inr ⟨i, rfl, hi, ?_⟩
    rw [List.getElem?_eq_getElem hi]
    simp only [decide_eq_true_eq] at h1
    rw [h1]
theorem nx_ok {q : Qu} (hq : q.ok) {p : List (List Int)} (hp : PW q p) {n : Nd} (hn : n.ok q p) (hf : isFree p n = false) : ∀ x ∈ nx q p n, x.ok q p := by
  intro x hx
  cases n with
  | ru r =>
    simp only [nx, needsM, needsK, List.mem_map, List.mem_filter] at hx
    obtain ⟨h, ⟨h1, _⟩, rfl⟩ := hx
    have := List.mem_of_mem_take h1
    exact ⟨hn, by simpa using this⟩
  | rh r h =>
    simp only [nx, seeksM, List.mem_append] at hx
    rcases hx with hx | hx
    · simp only [seekK, List.mem_map, List.mem_filter] at hx
      obtain ⟨m, ⟨h1, _⟩, rfl⟩ := hx
      exact ⟨macs_lt hq m h1, hn.2⟩
    · split at hx
      · cases hx
      · simp at hx; subst hx; exact hn.1
  | mh m h =>
    simp only [nx, List.mem_singleton] at hx
    subst hx
    have h1 : ¬ who p h m = -1 := by simpa [isFree] using hf
    have := hp.who h m
    exact ⟨by omega, hn.2⟩
def Nd.code : Nd → Nat
  | .ru r => r
  | .rh r h => 6 + 6 * h + r
  | .mh m h => 246 + 4 * h + m
theorem Nd.code_lt {q : Qu} (hq : q.ok) {p : List (List Int)} (hp : PW q p) {n : Nd} (hn : n.ok q p) : n.code < 406 := by
  have h1 := hq.r
  have h2 := hq.m
  have h3 := hp.l
  cases n with
  | ru r => have : r < q.rs.length := hn; show r < 406; omega
  | rh r h => obtain ⟨a, b⟩ := hn; show 6 + 6 * h + r < 406; omega
  | mh m h => obtain ⟨a, b⟩ := hn; show 246 + 4 * h + m < 406; omega
theorem Nd.code_inj {q : Qu} (hq : q.ok) {p : List (List Int)} (hp : PW q p) {n n' : Nd} (hn : n.ok q p) (hn' : n'.ok q p) (h : n.code = n'.code) : n = n' := by
  have h1 := hq.r
  have h2 := hq.m
  have h3 := hp.l
  cases n with
  | ru r =>
    have a : r < q.rs.length := hn
    cases n' with
    | ru r' => have : r = r' := h; subst this; rfl
    | rh r' h' => have e : r = 6 + 6 * h' + r' := h; omega
    | mh m' h' => have e : r = 246 + 4 * h' + m' := h; omega
  | rh r k =>
    obtain ⟨a, b⟩ := hn
    cases n' with
    | ru r' => have e : 6 + 6 * k + r = r' := h; have a' : r' < q.rs.length := hn'; omega
    | rh r' k' =>
      obtain ⟨a', b'⟩ := hn'
      have e : 6 + 6 * k + r = 6 + 6 * k' + r' := h
      have e1 : k = k' := by omega
      have e2 : r = r' := by omega
      rw [e1, e2]
    | mh m' k' => obtain ⟨a', b'⟩ := hn'; have e : 6 + 6 * k + r = 246 + 4 * k' + m' := h; omega
  | mh m k =>
    obtain ⟨a, b⟩ := hn
    cases n' with
    | ru r' => have e : 246 + 4 * k + m = r' := h; have a' : r' < q.rs.length := hn'; omega
    | rh r' k' => obtain ⟨a', b'⟩ := hn'; have e : 246 + 4 * k + m = 6 + 6 * k' + r' := h; omega
    | mh m' k' =>
      obtain ⟨a', b'⟩ := hn'
      have e : 246 + 4 * k + m = 246 + 4 * k' + m' := h
      have e1 : k = k' := by omega
      have e2 : m = m' := by omega
      rw [e1, e2]
theorem nodup_lt : ∀ (N : Nat) (l : List Nat), l.Nodup → (∀ x ∈ l, x < N) → l.length ≤ N
  | 0, [], _, _ => Nat.le_refl _
  | 0, x :: r, _, h => absurd (h x (by simp)) (by omega)
  | N + 1, l, hn, h => by
    by_cases hm : N ∈ l
    · have h1 := nodup_lt N (l.erase N) (hn.erase N) (fun x hx => by
        have h2 := (hn.mem_erase_iff).1 hx
        have := h x h2.2
        have := h2.1
        omega)
      rw [List.length_erase_of_mem hm] at h1
      omega
    · have := nodup_lt N l hn (fun x hx => by
        have := h x hx
        have : x ≠ N := fun e => hm (e ▸ hx)
        omega)
      omega
/-- What is kept of a search. -/
structure BW (q : Qu) (p : List (List Int)) (s : By × List Nd) : Prop where
  b : ByOk q p s.1
  t : ∀ n ∈ s.2, ∃ (i : Nat) (b : Nd), s.1[i]? = some (n, b)
theorem BW.len {q : Qu} (hq : q.ok) {p : List (List Int)} (hp : PW q p) {s : By × List Nd} (h : BW q p s) : s.1.length ≤ 406 := by
  have h1 : ((s.1.map (·.1)).map Nd.code).Nodup := by
    rw [List.nodup_iff_pairwise_ne, List.pairwise_map]
    refine List.Pairwise.imp_of_mem ?_ (List.nodup_iff_pairwise_ne.1 h.b.nd)
    intro a b ha hb hne e
    obtain ⟨x, hx, rfl⟩ := List.mem_map.1 ha
    obtain ⟨y, hy, rfl⟩ := List.mem_map.1 hb
    exact hne (Nd.code_inj hq hp (h.b.ok x hx).1 (h.b.ok y hy).1 e)
  have := nodup_lt 406 _ h1 (fun x hx => by
    obtain ⟨n, hn, rfl⟩ := List.mem_map.1 hx
    obtain ⟨e, he, rfl⟩ := List.mem_map.1 hn
    exact Nd.code_lt hq hp (h.b.ok e he).1)
  simpa using this
theorem par_none {by' : By} {n : Nd} (h : par by' n = none) : n ∉ by'.map (·.1) := fun hm => by
  obtain ⟨e, he, rfl⟩ := List.mem_map.1 hm
  unfold par at h
  rw [Option.map_eq_none_iff, List.find?_eq_none] at h
  exact h e he (by simp)
theorem BW.push {q : Qu} {p : List (List Int)} {s : By × List Nd} (h : BW q p s) {n x : Nd} (hn : ∃ (i : Nat) (b : Nd), s.1[i]? = some (n, b)) (hx : x.ok q p) : BW q p (push1 n s x) ∧ (∃ (i : Nat) (b : Nd), (push1 n s x).1[i]? = some (n, b)) ∧
    (push1 n s x).2.length + s.1.length = s.2.length + (push1 n s x).1.length ∧ s.1.length ≤ (push1 n s x).1.length := by
  unfold push1
  split
  · exact ⟨h, hn, by omega, Nat.le_refl _⟩
  · rename_i hp
    have hpn : par s.1 x = none := by cases hh : par s.1 x with
      | none => rfl
      | some b => rw [hh] at hp; exact absurd rfl hp
    have hnot := par_none hpn
    obtain ⟨i, b, hi⟩ := hn
    have hil := (List.getElem?_eq_some_iff.1 hi).1
    have old : ∀ (j : Nat) (e : Nd × Nd), s.1[j]? = some e → (s.1 ++ [(x, n)])[j]? = some e := fun j e hj => by
      rw [List.getElem?_append_left (List.getElem?_eq_some_iff.1 hj).1]; exact hj
    refine ⟨⟨⟨?_, fun e he => ?_, fun j e hj => ?_⟩, fun y hy => ?_⟩, ⟨i, b, old i _ hi⟩, by simp; omega, by simp⟩
    · rw [List.map_append, List.nodup_append]
      refine ⟨h.b.nd, by simp, fun a ha c hc e => ?_⟩
      simp at hc
      subst hc e
      exact hnot ha
    · rcases List.mem_append.1 he with he | he
      · exact h.b.ok e he
      · simp at he; subst he
        exact ⟨hx, (h.b.ok _ (List.mem_of_getElem? hi)).1⟩
    · rw [List.getElem?_append] at hj
      split at hj
      · rcases h.b.up j e hj with h1 | ⟨k, e', h1, h2, h3⟩
        · exact .inl h1
        · exact .inr ⟨k, e', h1, old k e' h2, h3⟩
      · rename_i hjl
        have : j - s.1.length = 0 := by
          have := (List.getElem?_eq_some_iff.1 hj).1
          simp at this; omega
        rw [this] at hj
        simp at hj
        subst hj
        exact .inr ⟨i, (n, b), by omega, old i _ hi, rfl⟩
    · rcases List.mem_append.1 hy with hy | hy
      · obtain ⟨k, c, hk⟩ := h.t y hy
        exact ⟨k, c, old k _ hk⟩
      · simp at hy; subst hy
        exact ⟨s.1.length, n, by simp⟩
theorem BW.pushes {q : Qu} {p : List (List Int)} {n : Nd} : ∀ (l : List Nd) {s : By × List Nd}, BW q p s → (∃ (i : Nat) (b : Nd), s.1[i]? = some (n, b)) → (∀ x ∈ l, x.ok q p) → BW q p (l.foldl (push1 n) s) ∧ (∃ (i : Nat) (b : Nd), (l.foldl (push1 n) s).1[i]? = some (n, b)) ∧
    (l.foldl (push1 n) s).2.length + s.1.length = s.2.length + (l.foldl (push1 n) s).1.length ∧ s.1.length ≤ (l.foldl (push1 n) s).1.length
  | [], s, h, hn, _ => ⟨h, hn, by simp, Nat.le_refl _⟩
  | x :: l, s, h, hn, hl => by
    obtain ⟨h1, h2, h3, h4⟩ := h.push hn (hl x (by simp))
    obtain ⟨k1, k2, k3, k4⟩ := BW.pushes l h1 h2 (fun y hy => hl y (by simp [hy]))
    rw [List.foldl_cons]
    exact ⟨k1, k2, by omega, by omega⟩
theorem BW.tail {q : Qu} {p : List (List Int)} {by' : By} {n : Nd} {rest : List Nd} (h : BW q p (by', n :: rest)) : BW q p (by', rest) := ⟨h.b, fun x hx => h.t x (by simp [hx])⟩
theorem BW.start {q : Qu} {p : List (List Int)} {run : Nat} (hr : run < q.rs.length) : BW q p ([(.ru run, .ru run)], [.ru run]) :=
  ⟨⟨by simp, fun e he => by simp at he; subst he; exact ⟨hr, hr⟩, fun i e hi => by
    cases i with
    | zero => simp at hi; subst hi; exact .inl rfl
    | succ i => simp at hi⟩, fun n hn => by simp at hn; subst hn; exact ⟨0, _, rfl⟩⟩
end Go.Proofs.Ytohhjnpiiackjaa
/-! Contracts of layer 10 (queue): a run gets an hour more. -/
namespace Go.Proofs.Ytohhjnpiiackjaa
open Go.RowKit
set_option maxRecDepth 10000
set_option linter.unusedSimpArgs false
attribute [local simp] AS.exp expG Box.ren AV.map AV.mapL outsOk noRet Site.isRet Box.allS AV.allS AV.allSL retB dropL AS.adds renL outG outOk lentBx inG fnOf lookA List.findIdx?_cons
attribute [local simp] Box.purge Site.isLoc
def fidOf : Nd → FuncId
  | .ru _ => 110
  | .rh _ _ => 111
  | .mh _ _ => 112
theorem nexts_c (q : Qu) (hq : q.ok) (p : List (List Int)) (hp : PW q p) (n : Nd) (hn : n.ok q p) (hf : isFree p n = false) :
    CallsA Try.prog (fidOf n) [.ptr (.par 0) 0, .pv n.pv] (laid 0 (layB q p 1)) (fun x B => x = .vec (.ret 0) 3 0 (nx q p n).length ∧ B = nodB (nx q p n) ++ laid 0 (layB q p 1)) := by
  have hl := hp.l
  cases n with
  | ru r => exact lneeds_c q p hp.f (by omega) r
  | rh r h => exact lseeks_c q hq p hp.f r h hn.1 hn.2
  | mh m h =>
    have h1 : ¬ who p h m = -1 := by simpa [isFree] using hf
    have h2 := hp.who h m
    have := hq.m
    have hm : m < q.ms.length := hn.1
    exact ltaken_c q p hp.f m h (by omega) hn.2 (who p h m).toNat (by omega)
theorem steps_get (n : Nd) : stepsP[n.kind]? = some (.agg [.fn (fidOf n) [] []]) := by cases n <;> rfl
/-- A goal that nobody looks into. -/
structure Lock (A : Prop) : Prop where
  out : A
def gvS (q : Qu) (p : List (List Int)) (by' : By) (todo : List Nd) : AS := ⟨[(0, .ptr (.par 0) 0), (6, .mp (.loc 15 0)), (7, .vec (.loc 78 0) 3 0 todo.length)], (.loc 78 0, .arr 147 3 (todo.map Nd.pv)) :: (.loc 15 0, .map (byP by')) :: laid 0 (layB q p 1)⟩
def gvI (q : Qu) (p : List (List Int)) (n : Nd) (L : List Nd) (s : By × List Nd) (i : Nat) : AS := ⟨[(0, .ptr (.par 0) 0), (6, .mp (.loc 15 0)), (7, .vec (.loc 78 0) 3 0 s.2.length), (8, .ptr (.loc 8 0) 0), (58, .vec (.loc 58 0) 3 0 L.length), (59, .pv (.int .i64 L.length)), (60, .pv (.int .i64 i))],
  (.loc 78 0, .arr 147 3 (s.2.map Nd.pv)) :: (.loc 15 0, .map (byP s.1)) :: (.loc 8 0, .cells [.pv (.int .i64 n.a), .pv (.int .i64 n.b), .pv (.int .i64 n.c)]) :: (.loc 58 0, .arr 147 3 (L.map Nd.pv)) :: laid 0 (layB q p 1)⟩
set_option maxHeartbeats 16000000 in
theorem lgive_c {F : Nat} (hF : 407 < F) (q : Qu) (hq : q.ok) (p : List (List Int)) (hp : PW q p) (run : Nat) (hrun : run < q.rs.length) :
    CallsA Try.prog 88 [.ptr (.par 0) 0, .pv (.int .i64 run)] (laid 0 (layB q p 1)) (fun x B => x = .pv (.bool (giveP F q p run).isSome) ∧ B = laid 0 (layB q ((giveP F q p run).getD p) 1)) := by
  have hqm := hq.m
  have hpl := hp.l
  obtain ⟨RES, hRES⟩ : ∃ z, z = giveP F q p run := ⟨_, rfl⟩
  rw [← hRES]
  generalize hR : (fun (x : AV) (B : List (Site × Box)) => x = .pv (.bool RES.isSome) ∧ B = laid 0 (layB q (RES.getD p) 1)) = R
  refine calls_of_awpB [.par 0, .par 1] mixed L88_ok (Nat.le_of_ble_eq_true rfl) ?_
  simp [-getElem?_pos, L88, layB, laid]
  refine awp_loopS (fun k τ => ∃ (by' : By) (todo : List Nd) (f : Nat), BW q p (by', todo) ∧ todo.length ≤ by'.length ∧ k = 406 - by'.length + todo.length ∧ k < f ∧ bfs q p f by' todo = RES ∧ τ = gvS q p by' todo)
    ⟨406 - 1 + 1, gvS q p [(.ru run, .ru run)] [.ru run], Sub.trans' (Sub.mk ?_ ?_) (mvV 78 7 [(Nd.ru run).pv] (s := .loc 20 0) (e := 147) rfl rfl rfl rfl), [(.ru run, .ru run)], [.ru run], F, BW.start hrun, Nat.le_refl _, rfl, by omega, hRES.symm, rfl⟩ ?_
  · simp [AS.mvV]
  · simp [AS.mvV, layB, laid, byP, Nd.pv, putK]
  clear hRES
  intro J hJ k τ hst
  refine Lock.out ?_
  obtain ⟨by', todo, f, hB, hTL, hk, hf, hres, rfl⟩ := hst
  obtain ⟨f', rfl⟩ : ∃ f', f = f' + 1 := ⟨f - 1, by omega⟩
  cases todo with
  | nil =>
    have hno : RES = none := by rw [← hres]; rfl
    subst hno
    refine ⟨?_⟩
    simp [-getElem?_pos, gvS, layB, laid]
    rw [← hR]
    simp [layB, laid]
  | cons n rest =>
    obtain ⟨i0, b0, hi0⟩ := hB.t n (by simp)
    have okn := (hB.b.ok _ (List.mem_of_getElem? hi0)).1
    simp only at okn
    have hkn := kind_c n
    have hst := steps_get n
    have hsl : n.kind < 3 := by cases n <;> simp [Nd.kind]
    rw [bfs] at hres
    have hlen := hB.len hq hp
    by_cases hfree : isFree p n = true
    · rw [if_pos hfree] at hres
      subst hres
      clear hJ
      cases n with
      | ru r => simp [isFree] at hfree
      | rh r h => simp [isFree] at hfree
      | mh m h =>
        have hfw : who p h m = -1 := by simpa [isFree] using hfree
        obtain ⟨l, hl⟩ : ∃ l, p[h]? = some l := ⟨p[h]'okn.2, List.getElem?_eq_getElem _⟩
        have h4 := hp.f l (List.mem_of_getElem? hl)
        have hmm : m < q.ms.length := okn.1
        have hh : h < p.length := okn.2
        have hm4 : m < 4 := by omega
        obtain ⟨x, hx⟩ : ∃ x, l[m]? = some x := ⟨l[m]'(by omega), List.getElem?_eq_getElem _⟩
        rw [who_at hl hx] at hfw
        subst hfw
        have hg : (plP p)[h]? = some (.agg (l.map (PV.int .i64))) := by rw [plP, List.getElem?_map, hl]; rfl
        have hg2 : (l.map (PV.int .i64))[m]? = some (.int .i64 (-1)) := by rw [List.getElem?_map, hx]; rfl
        have hch := change_c q hq by' p hB.b hp.f i0 (.mh m h) b0 hi0
        simp only [Nd.pv, Nd.kind] at hkn hch
        refine ⟨?_⟩
        simp [-getElem?_pos, -List.getElem?_map, gvS, layB, laid, Nd.pv, nblt, nble]
        refine call_give (k := 0) (fs := []) (cs := []) rfl rfl hkn rfl ?_
        simp [-getElem?_pos, -List.getElem?_map, nblt, nble, hh, hm4, hg, hg2]
        refine call_lent (as' := [.ptr (.par 0) 0, .pv (.agg [.int .i64 (-1), .int .i64 m, .int .i64 h]), .mp (.par 2)]) (B := laid 0 (chgB q p by')) (fs := []) (cs := []) 49 [.par 0, .par 1, .loc 15 0] ?_ rfl rfl ?_ ?_ ?_ hch ?_
        · rfl
        · simp [chgB, layB, laid]
        · rfl
        · rfl
        rintro r0 B0 ⟨rfl, rfl⟩
        refine ⟨rfl, by simp [chgB, layB, laid], ?_⟩
        simp [-getElem?_pos, chgB, layB, laid]
        rw [← hR]
        simp [layB, laid]
    · have hff : isFree p n = false := by simpa using hfree
      rw [if_neg hfree] at hres
      have hnx := nexts_c q hq p hp n okn hff
      have hoks := nx_ok hq hp okn hff
      obtain ⟨L, hL⟩ : ∃ L, L = nx q p n := ⟨_, rfl⟩
      rw [← hL] at hres hnx hoks
      have hLl : L.length ≤ 1000 := by
        rw [hL]
        cases n with
        | ru r => have := needsK_len (p := p) (r := r) (k := p.length); show (needsK p r p.length).length ≤ 1000; omega
        | rh r h =>
          have := seekK_len (q := q) (p := p) (r := r) (h := h) (k := q.ms.length)
          show (seekK q p r h q.ms.length ++ _).length ≤ 1000
          rw [List.length_append]
          split <;> simp <;> omega
        | mh m h => simp [nx]
      have hpush : ∀ i, BW q p ((L.take i).foldl (push1 n) (by', rest)) ∧ ((L.take i).foldl (push1 n) (by', rest)).2.length + by'.length = rest.length + ((L.take i).foldl (push1 n) (by', rest)).1.length ∧ by'.length ≤ ((L.take i).foldl (push1 n) (by', rest)).1.length := fun i => by
        obtain ⟨h1, _, h3, h4⟩ := BW.pushes (L.take i) hB.tail ⟨i0, b0, hi0⟩ (fun x hx => hoks x (List.mem_of_mem_take hx))
        exact ⟨h1, h3, h4⟩
      have hend : BW q p (L.foldl (push1 n) (by', rest)) ∧ (L.foldl (push1 n) (by', rest)).2.length + by'.length = rest.length + (L.foldl (push1 n) (by', rest)).1.length := by
        have := hpush L.length
        rw [List.take_length] at this
        exact ⟨this.1, this.2.1⟩
      have hel := hend.1.len hq hp
      have hround := hJ (406 - (L.foldl (push1 n) (by', rest)).1.length + (L.foldl (push1 n) (by', rest)).2.length) _ ⟨_, _, f', hend.1, by have h1 := hend.2; rw [List.length_cons] at hTL; show (L.foldl (push1 n) (by', rest)).2.length ≤ (L.foldl (push1 n) (by', rest)).1.length; omega, rfl, by
        have h1 := hend.2
        rw [List.length_cons] at hk
        omega, hres, rfl⟩
      have hmeas : 406 - (L.foldl (push1 n) (by', rest)).1.length + (L.foldl (push1 n) (by', rest)).2.length < k := by
        have h1 := hend.2
        rw [List.length_cons] at hk
        omega
      have hbd : ∀ i, ((L.take i).foldl (push1 n) (by', rest)).2.length ≤ 406 := fun i => by
        obtain ⟨h1, h2, h3⟩ := hpush i
        have := h1.len hq hp
        rw [List.length_cons] at hTL
        omega
      rw [Nd.pv_eq] at hkn hnx
      obtain ⟨N, hN⟩ : ∃ N, N = n := ⟨_, rfl⟩
      rw [← hN] at hround hmeas hbd
      clear hend hpush hel
      have hmf : ∀ m h, n = .mh m h → ∃ (l : List Int) (x : Int), natI n.c = some h ∧ natI n.b = some m ∧ h < p.length ∧ m < 4 ∧ (plP p)[h]? = some (.agg (l.map (PV.int .i64))) ∧ (l.map (PV.int .i64))[m]? = some (.int .i64 x) ∧ x ≠ -1 := fun m h e => by
        subst e
        obtain ⟨l, hl⟩ : ∃ l, p[h]? = some l := ⟨p[h]'okn.2, List.getElem?_eq_getElem _⟩
        have h4 := hp.f l (List.mem_of_getElem? hl)
        have hmm : m < q.ms.length := okn.1
        obtain ⟨x, hx⟩ : ∃ x, l[m]? = some x := ⟨l[m]'(by omega), List.getElem?_eq_getElem _⟩
        have hfw : ¬ who p h m = -1 := by simpa [isFree] using hff
        rw [who_at hl hx] at hfw
        exact ⟨l, x, natI_nat, natI_nat, okn.2, by omega, by rw [plP, List.getElem?_map, hl]; rfl, by rw [List.getElem?_map, hx]; rfl, hfw⟩
      clear hJ hres hoks hB okn hff hfree hL hi0
      cases n
      case' mh m h =>
        obtain ⟨l, x, e1, e2, e3, e4, e5, e6, e7⟩ := hmf m h rfl
        simp only [Nd.a, Nd.b, Nd.c, Nd.kind] at e1 e2 hkn hnx hst hround
        refine ⟨?_⟩
        simp [-getElem?_pos, -List.getElem?_map, gvS, layB, laid, Nd.pv, nblt, nble]
        refine call_give (k := 0) (fs := []) (cs := []) rfl rfl hkn rfl ?_
        simp [-getElem?_pos, -List.getElem?_map, nblt, nble, e1, e2, e3, e4, e5, e6, e7]
      case' ru r =>
        simp only [Nd.a, Nd.b, Nd.c, Nd.kind] at hkn hnx hst hround
        refine ⟨?_⟩
        simp [-getElem?_pos, -List.getElem?_map, gvS, layB, laid, Nd.pv, nblt, nble]
        refine call_give (k := 0) (fs := []) (cs := []) rfl rfl hkn rfl ?_
        simp [-getElem?_pos, -List.getElem?_map, nblt, nble]
      case' rh r h =>
        simp only [Nd.a, Nd.b, Nd.c, Nd.kind] at hkn hnx hst hround
        refine ⟨?_⟩
        simp [-getElem?_pos, -List.getElem?_map, gvS, layB, laid, Nd.pv, nblt, nble]
        refine call_give (k := 0) (fs := []) (cs := []) rfl rfl hkn rfl ?_
        simp [-getElem?_pos, -List.getElem?_map, nblt, nble]
      all_goals
        clear hmf
        refine call_pv [] (fs := []) (xs := []) (cs := []) rfl rfl steps_c ?_
        simp [-getElem?_pos, -List.getElem?_map, frzsL]
        refine call_give (k := 0) (fs := []) (cs := []) rfl rfl hkn rfl ?_
        simp [-getElem?_pos, -List.getElem?_map, hst, stepsP]
        refine call_lent (B := laid 0 (layB q p 1)) (fs := []) (cs := []) 58 [.par 0, .par 1] ?_ rfl rfl ?_ ?_ ?_ hnx ?_
        · rfl
        · simp [layB, laid]
        · rfl
        · simp [Nd.pv_eq, Nd.a, Nd.b, Nd.c]
        rintro r0 B0 ⟨rfl, rfl⟩
        refine ⟨rfl, by simp [nodB, layB, laid], ?_⟩
        simp [-getElem?_pos, -List.getElem?_map, nodB, layB, laid]
        refine awp_loopS (fun k τ => ∃ i : Nat, i ≤ L.length ∧ k = L.length - i ∧ τ = gvI q p N L ((L.take i).foldl (push1 N) (by', rest)) i)
          ⟨L.length, gvI q p N L (by', rest) 0, Sub.trans' (Sub.mk ?_ ?_) (mvV 78 7 (rest.map Nd.pv) (s := .loc 78 0) (e := 147) rfl rfl ?_ rfl), 0, Nat.zero_le _, rfl, rfl⟩ ?_
        · simp [AS.mvV]
        · simp [AS.mvV, layB, laid, hN, Nd.a, Nd.b, Nd.c]
        · simp; omega
        clear hN hkn hnx hst
        rintro J2 hJ2 k2 τ ⟨i, hi, rfl, rfl⟩
        by_cases hlt : i < L.length
        · obtain ⟨x, hx⟩ : ∃ x, L[i]? = some x := ⟨L[i], List.getElem?_eq_getElem hlt⟩
          have hgx : (L.map Nd.pv)[i]? = some (.agg [.int .i64 x.a, .int .i64 x.b, .int .i64 x.c]) := by rw [List.getElem?_map, hx]; simp [Nd.pv_eq]
          have hw := wrapS (k := i) (by omega)
          have hnx2 : (L.take (i + 1)).foldl (push1 N) (by', rest) = push1 N ((L.take i).foldl (push1 N) (by', rest)) x := by rw [take_next hx, List.foldl_append]; rfl
          have hround2 := hJ2 _ _ ⟨i + 1, hlt, rfl, rfl⟩
          rw [hnx2] at hround2
          have hbi := hbd i
          have hmeas2 : L.length - (i + 1) < L.length - i := by omega
          clear hJ2 hnx2 hround hmeas hbd
          generalize (L.take i).foldl (push1 N) (by', rest) = S1 at *
          obtain ⟨b1, t1⟩ := S1
          simp only at hbi
          have hfind := findV_by x b1
          have hkt := kt_nd x
          have hks := keys_by b1
          have ht6 : t1.length + 1 ≤ 1000000 := by omega
          cases hpx : par b1 x with
          | none =>
            have hput := putK_by (b := N) hpx
            have hpu : push1 N (b1, t1) x = (b1 ++ [(x, N)], t1 ++ [x]) := by unfold push1; rw [hpx]; rfl
            rw [hpu] at hround2
            rw [hpx] at hfind
            rw [Nd.pv_eq x, Nd.pv_eq N] at hput
            rw [Nd.pv_eq x] at hfind hkt
            simp only [Option.map_none] at hfind
            simp [-getElem?_pos, -List.getElem?_map, -eqK, -KT.ok, gvI, layB, laid, nblt, nble, hlt, hgx, hfind, hkt, hks, hput, ht6, hw]
            refine ⟨_, _, hmeas2, Sub.mk ?_ ?_, hround2⟩
            · simp
            · simp [layB, laid, Nd.pv_eq]
          | some b =>
            have hpu : push1 N (b1, t1) x = (b1, t1) := by unfold push1; rw [hpx]; rfl
            rw [hpu] at hround2
            rw [hpx] at hfind
            rw [Nd.pv_eq x] at hfind hkt
            simp only [Option.map_some, Nd.pv_eq b] at hfind
            simp [-getElem?_pos, -List.getElem?_map, -eqK, -KT.ok, gvI, layB, laid, nblt, nble, hlt, hgx, hfind, hkt, hks, hw]
            refine ⟨_, _, hmeas2, Sub.mk ?_ ?_, hround2⟩
            · simp
            · simp [layB, laid]
        · have he : i = L.length := by omega
          subst he
          rw [List.take_length]
          clear hJ2 hbd
          generalize L.foldl (push1 N) (by', rest) = S1 at *
          obtain ⟨b1, t1⟩ := S1
          simp [-getElem?_pos, -List.getElem?_map, gvI, layB, laid]
          refine ⟨_, _, hmeas, Sub.mk ?_ ?_, hround⟩
          · simp
          · simp [layB, laid]
end Go.Proofs.Ytohhjnpiiackjaa
/-! Layer 10 (queue): how a plan is laid: plain. -/
namespace Go.Proofs.Ytohhjnpiiackjaa
open Go.RowKit
set_option maxRecDepth 10000
set_option linter.unusedSimpArgs false
theorem PW.set {q : Qu} {p : List (List Int)} (hp : PW q p) {h m : Nat} {x : Int} (hh : h < p.length) (hx : x = -1 ∨ (0 ≤ x ∧ x < q.rs.length)) : PW q (setP p h m x) := by
  refine ⟨setP_four hp.f hh, fun l hl y hy => ?_, by rw [setP_len]; exact hp.l⟩
  rcases List.mem_or_eq_of_mem_set hl with h1 | h1
  · exact hp.ok l h1 y hy
  · subst h1
    have e : p[h]? = some p[h] := List.getElem?_eq_getElem hh
    rw [e] at hy
    simp only [Option.getD_some] at hy
    rcases List.mem_or_eq_of_mem_set hy with h2 | h2
    · exact hp.ok _ (List.getElem_mem hh) y h2
    · subst h2; exact hx
theorem PW.chg1 {q : Qu} {p : List (List Int)} (hp : PW q p) {n b : Nd} (hn : n.ok q p) (hb : b.ok q p) : PW q (chg1 n b p) := by
  cases n with
  | ru r => cases b <;> exact hp
  | rh r h =>
    cases b with
    | mh m h' => exact hp.set hn.2 (.inl rfl)
    | ru r' => exact hp
    | rh r' h' => exact hp
  | mh m h =>
    refine hp.set hn.2 ?_
    cases b with
    | ru r => right; have : r < q.rs.length := hb; show 0 ≤ (r : Int) ∧ (r : Int) < _; omega
    | rh r h' => right; have : r < q.rs.length := hb.1; show 0 ≤ (r : Int) ∧ (r : Int) < _; omega
    | mh m' h' => exact .inl rfl
theorem PW.chg {q : Qu} {p0 : List (List Int)} {by' : By} (hb : ByOk q p0 by') : ∀ (f : Nat) (n : Nd) (p : List (List Int)), PW q p → p.length = p0.length → PW q (chg by' f n p) ∧ (Go.Proofs.Ytohhjnpiiackjaa.chg by' f n p).length = p0.length
  | 0, n, p, hp, hl => ⟨hp, hl⟩
  | f + 1, n, p, hp, hl => by
    unfold Go.Proofs.Ytohhjnpiiackjaa.chg
    cases hpn : par by' n with
    | none => exact ⟨hp, hl⟩
    | some b =>
      simp only
      split
      · exact ⟨hp, hl⟩
      · have hmem : (n, b) ∈ by' := by
          unfold par at hpn
          obtain ⟨e, he, rfl⟩ := Option.map_eq_some_iff.1 hpn
          have h1 := List.find?_some he
          simp only [decide_eq_true_eq] at h1
          subst h1
          exact List.mem_of_find?_eq_some he
        obtain ⟨h1, h2⟩ := hb.ok _ hmem
        exact PW.chg hb f b _ (hp.chg1 (Nd.ok_len hl h1) (Nd.ok_len hl h2)) (by rw [chg1_len]; exact hl)
theorem bfs_PW {q : Qu} (hq : q.ok) {p : List (List Int)} (hp : PW q p) : ∀ (f : Nat) (by' : By) (todo : List Nd), BW q p (by', todo) → ∀ p', bfs q p f by' todo = some p' → PW q p' ∧ p'.length = p.length
  | 0, by', todo, _, p', h => by cases h
  | f + 1, by', [], _, p', h => by cases h
  | f + 1, by', n :: rest, hB, p', h => by
    obtain ⟨i0, b0, hi0⟩ := hB.t n (by simp)
    have okn := (hB.b.ok _ (List.mem_of_getElem? hi0)).1
    rw [bfs] at h
    by_cases hf : isFree p n = true
    · rw [if_pos hf] at h
      cases h
      exact PW.chg hB.b _ _ _ hp rfl
    · rw [if_neg hf] at h
      have hff : isFree p n = false := by simpa using hf
      exact bfs_PW hq hp f _ _ (BW.pushes _ hB.tail ⟨i0, b0, hi0⟩ (nx_ok hq hp okn hff)).1 p' h
theorem giveP_PW {F : Nat} {q : Qu} (hq : q.ok) {p : List (List Int)} (hp : PW q p) {run : Nat} (hr : run < q.rs.length) {p' : List (List Int)} (h : giveP F q p run = some p') : PW q p' ∧ p'.length = p.length :=
  bfs_PW hq hp F _ _ (BW.start hr) p' h
/-- The runs that wait get an hour each, if they can; those that cannot wait on. -/
def delM (F : Nat) (q : Qu) : List (List Int) → List Nat → List (List Int) × List Nat
  | p, [] => (p, [])
  | p, r :: l => match giveP F q p r with
    | some p' => delM F q p' l
    | none => ((delM F q p l).1, r :: (delM F q p l).2)
/-- The first run that can. -/
def ixM (F : Nat) (q : Qu) (p : List (List Int)) : List Nat → Option (Nat × List (List Int))
  | [] => none
  | r :: l => match giveP F q p r with
    | some p' => some (0, p')
    | none => (ixM F q p l).map fun s => (s.1 + 1, s.2)
theorem delM_ix {F : Nat} {q : Qu} {p : List (List Int)} : ∀ l : List Nat, delM F q p l = match ixM F q p l with
    | none => (p, l)
    | some (i, p') => ((delM F q p' (l.drop (i + 1))).1, l.take i ++ (delM F q p' (l.drop (i + 1))).2)
  | [] => rfl
  | r :: l => by
    have ih := delM_ix (F := F) (q := q) (p := p) l
    have e1 : delM F q p (r :: l) = match giveP F q p r with
      | some p' => delM F q p' l
      | none => ((delM F q p l).1, r :: (delM F q p l).2) := rfl
    have e2 : ixM F q p (r :: l) = match giveP F q p r with
      | some p' => some (0, p')
      | none => (ixM F q p l).map fun s => (s.1 + 1, s.2) := rfl
    rw [e1, e2]
    cases hg : giveP F q p r with
    | some p' => simp
    | none =>
      simp only
      rw [ih]
      cases hx : ixM F q p l with
      | none => rfl
      | some s => obtain ⟨i, p'⟩ := s; simp
theorem delM_PW {F : Nat} {q : Qu} (hq : q.ok) : ∀ (l : List Nat) (p : List (List Int)), PW q p → (∀ r ∈ l, r < q.rs.length) → PW q (delM F q p l).1 ∧ (delM F q p l).1.length = p.length ∧ (∀ r ∈ (delM F q p l).2, r ∈ l) ∧ (delM F q p l).2.length ≤ l.length
  | [], p, hp, _ => ⟨hp, rfl, fun r h => h, Nat.le_refl _⟩
  | r :: l, p, hp, hl => by
    unfold delM
    cases hg : giveP F q p r with
    | some p' =>
      obtain ⟨h1, h2⟩ := giveP_PW hq hp (hl r (by simp)) hg
      obtain ⟨k1, k2, k3, k4⟩ := delM_PW hq l p' h1 (fun r h => hl r (by simp [h]))
      exact ⟨k1, k2.trans h2, fun r h => by simp [k3 r h], by rw [List.length_cons]; exact Nat.le_succ_of_le k4⟩
    | none =>
      obtain ⟨k1, k2, k3, k4⟩ := delM_PW hq l p hp (fun r h => hl r (by simp [h]))
      refine ⟨k1, k2, fun r' h => ?_, by simpa using k4⟩
      rcases List.mem_cons.1 h with h | h
      · simp [h]
      · simp [k3 r' h]
/-- A plan is laid, hour by hour. -/
def layM (F : Nat) (q : Qu) : Nat → List (List Int) → List Nat → Option (List (List Int))
  | _, p, [] => some p
  | 0, _, _ :: _ => none
  | n + 1, p, r :: l => if p.length = 40 then none else layM F q n (delM F q (p ++ [idle4]) (r :: l)).1 (delM F q (p ++ [idle4]) (r :: l)).2
/-- The runs, each as often as it needs hours. -/
def Qu.units (q : Qu) : List Nat := (List.range q.rs.length).flatMap fun i => List.replicate (q.run i).hours.toNat i
def Qu.layP (F : Nat) (q : Qu) : Option (List (List Int)) := layM F q 41 [] q.units
theorem PW.more {q : Qu} {p : List (List Int)} (hp : PW q p) (hl : p.length < 40) : PW q (p ++ [idle4]) :=
  ⟨fun l h => by
    rcases List.mem_append.1 h with h | h
    · exact hp.f l h
    · simp at h; subst h; rfl, fun l h x hx => by
    rcases List.mem_append.1 h with h | h
    · exact hp.ok l h x hx
    · simp at h; subst h; simp [idle4] at hx; exact .inl hx, by simp; omega⟩
theorem PW.nil {q : Qu} : PW q [] := ⟨fun l h => (by simp at h), fun l h => (by simp at h), by simp⟩
theorem layM_PW {F : Nat} {q : Qu} (hq : q.ok) : ∀ (n : Nat) (p : List (List Int)) (l : List Nat), PW q p → (∀ r ∈ l, r < q.rs.length) → ∀ p', layM F q n p l = some p' → PW q p'
  | n, p, [], hp, _, p', h => by cases n <;> (simp only [layM] at h; cases h; exact hp)
  | 0, p, r :: l, _, _, p', h => by cases h
  | n + 1, p, r :: l, hp, hl, p', h => by
    unfold layM at h
    split at h
    · cases h
    · rename_i h40
      have h1 := hp.l
      obtain ⟨k1, k2, k3, k4⟩ := delM_PW (F := F) hq (r :: l) _ (hp.more (by omega)) hl
      exact layM_PW hq n _ _ k1 (fun x hx => hl x (k3 x hx)) p' h
theorem units_lt {q : Qu} : ∀ r ∈ q.units, r < q.rs.length := fun r hr => by
  unfold Qu.units at hr
  obtain ⟨i, hi, h⟩ := List.mem_flatMap.1 hr
  rw [List.mem_replicate] at h
  rw [h.2]
  simpa using hi
end Go.Proofs.Ytohhjnpiiackjaa
/-! Contracts of layer 10 (queue): a list of the same runs. -/
namespace Go.Proofs.Ytohhjnpiiackjaa
open Go.RowKit
attribute [local simp] Box.purge Site.isLoc
set_option maxRecDepth 10000
set_option linter.unusedSimpArgs false
attribute [local simp] retFz frzL AS.frz AV.frz AV.frzL Box.frz AS.tidy AS.frzC
theorem and32 (c : Fin 41) : (BitVec.ofNat 64 c.1 &&& 4294967295#64).toNat = c.1 := by revert c; decide
theorem mul64_c (c : Nat) (hc : c ≤ 40) : Gives Try.prog 109 [.int .u64 1, .int .u64 c] (.tup [.int .u64 0, .int .u64 c]) := by
  have h1 := and32 ⟨c, by omega⟩
  simp only at h1
  have w0 : IntKind.u64.wrap 0 = 0 := rfl
  have w1 : IntKind.u64.wrap 1 = 1 := rfl
  have hw : ∀ n : Nat, n ≤ 40 → IntKind.u64.wrap (n : Int) = n := fun n hn => by rw [show IntKind.u64.wrap (n : Int) = (n : Int) % 18446744073709551616 from rfl]; omega
  have hd : ∀ n : Nat, n ≤ 40 → (n : Int).fdiv 4294967296 = 0 := fun n hn => by rw [Int.fdiv_eq_ediv_of_nonneg _ (by omega)]; omega
  refine calls_of_awpS mixed L109_ok (Nat.le_of_ble_eq_true rfl) ?_
  simp [-getElem?_pos, L109, IntKind.bits, h1, w0, w1, hw c hc, hd c hc]
  exact (by decide +kernel : ∀ c : Fin 41, IntKind.u64.wrap
      (IntKind.u64.wrap
          ((IntKind.u64.wrap
                ((IntKind.u64.wrap (IntKind.u64.wrap ((BitVec.ofNat 64 c.1 &&& 4294967295#64).toNat : Int))).fdiv
                  4294967296)).fdiv
            4294967296) +
        (IntKind.u64.wrap
              (IntKind.u64.wrap
                ((BitVec.ofInt 64
                        (IntKind.u64.wrap
                          ((IntKind.u64.wrap (IntKind.u64.wrap ((BitVec.ofNat 64 c.1 &&& 4294967295#64).toNat : Int))).fdiv
                            4294967296)) &&&
                      4294967295#64).toNat : Int))).fdiv
          4294967296) =
    0) ⟨c, by omega⟩
theorem mul_c (c : Nat) (hc : c ≤ 40) : Gives Try.prog 100 [.int .u64 1, .int .u64 c] (.tup [.int .u64 0, .int .u64 c]) := by
  refine calls_of_awpS mixed L100_ok (Nat.le_of_ble_eq_true rfl) ?_
  simp [-getElem?_pos, L100]
  refine call_gives (k := 0) (fs := []) (cs := []) rfl rfl (mul64_c c hc) rfl ?_
  simp [-getElem?_pos]
/-- A run's number, so many times; what is behind is 0. -/
def repV (v : Int) (c n : Nat) : List PV := List.replicate n (.int .i64 v) ++ List.replicate (c - n) (.int .i64 0)
theorem repV_len {v : Int} {c n : Nat} (h : n ≤ c) : (repV v c n).length = c := by simp [repV]; omega
theorem repV_take {v : Int} {c n : Nat} : (repV v c n).take n = List.replicate n (.int .i64 v) := by simp [repV]
theorem repV_next {v : Int} {c n : Nat} (h : n ≤ c) : splice (repV v c n) n ((List.replicate n (PV.int .i64 v)).take (c - n)) = repV v c (n + min n (c - n)) := by
  unfold splice repV
  rw [List.take_replicate, List.length_replicate, List.take_append_of_le_length (by simp), List.take_of_length_le (by simp), List.drop_append, List.length_replicate, List.drop_replicate, List.drop_replicate, ← List.append_assoc]
  rw [show n - (n + min (c - n) n) = 0 by omega, List.replicate_zero, List.append_nil, List.replicate_append_replicate]
  congr 2 <;> omega
set_option maxHeartbeats 4000000 in
theorem repeat_c (v : Int) (c : Nat) (hc : c ≤ 40) : Gives Try.prog 85 [.lst false 1 [.int .i64 v], .int .i64 c] (.lst false 1 (List.replicate c (.int .i64 v))) := by
  have hw : ∀ n : Nat, n ≤ 40 → IntKind.u64.wrap (n : Int) = n := fun n hn => by rw [show IntKind.u64.wrap (n : Int) = (n : Int) % 18446744073709551616 from rfl]; omega
  have hi : ∀ n : Nat, n ≤ 1000 → IntKind.i64.wrap (n : Int) = n := fun n hn => wrap64 (by omega)
  have w1 : IntKind.u64.wrap 1 = 1 := rfl
  have hc0 : ¬ ((c : Int) < 0) := by omega
  have hcb : ¬ ((9223372036854775807 : Int) < (c : Int)) := by omega
  have hc6 : c ≤ 1000000 := by omega
  refine calls_of_awpF [.loc 30 0] mixed L85_ok (Nat.le_of_ble_eq_true rfl) ?_
  simp [-getElem?_pos, L85, hw c hc, w1, hc0]
  refine call_gives (k := 0) (fs := []) (cs := []) rfl rfl (mul_c c hc) rfl ?_
  simp [-getElem?_pos, -splice, hcb, hi c (by omega), nble, hc6]
  refine awp_loopS (fun k τ => ∃ n : Nat, n ≤ c ∧ (0 < n ∨ c = 0) ∧ k = c - n ∧ τ = ⟨[(7, .vec (.loc 30 0) 1 0 c), (8, .pv (.int .i64 n))], [(.loc 30 0, .arr 3 1 (repV v c n))]⟩)
    ⟨c - min c 1, ⟨[(7, .vec (.loc 30 0) 1 0 c), (8, .pv (.int .i64 (min c 1 : Nat)))], [(.loc 30 0, .arr 3 1 (repV v c (min c 1)))]⟩, Sub.mk ?_ ?_, min c 1, by omega, by omega, rfl, rfl⟩ ?_
  · simp
  · cases c with
    | zero => simp [-splice, repV, splice]
    | succ c => simp [-splice, repV, splice]
  rintro J hJ k τ ⟨n, hn, hn0, rfl, rfl⟩
  have hln := repV_len (v := v) hn
  by_cases hlt : n < c
  · have hround := hJ _ _ ⟨n + min n (c - n), by omega, by omega, rfl, rfl⟩
    have htk := repV_take (v := v) (c := c) (n := n)
    have hnx := repV_next (v := v) hn
    have hlt' : (n : Int) < (c : Int) := by omega
    have hmeas : c - (n + min n (c - n)) < c - n := by omega
    have hwn : IntKind.i64.wrap ((n : Int) + (min (c - n) n : Nat)) = ((n + min n (c - n) : Nat) : Int) := by rw [wrap64 (by omega)]; omega
    have hnc : n + (c - n) = c := by omega
    clear hJ
    simp [-getElem?_pos, -splice, -List.take_replicate, hlt, hlt', nble, nblt, hn, hln, htk, hnx, hnc, hwn]
    refine ⟨_, _, hmeas, Sub.mk ?_ ?_, hround⟩
    · simp
    · simp
  · have he : n = c := by omega
    subst he
    have htk := repV_take (v := v) (c := n) (n := n)
    simp [-getElem?_pos, -splice, htk, hln]
end Go.Proofs.Ytohhjnpiiackjaa
/-! Contracts of layer 10 (queue): the runs that get an hour are deleted from those that wait. -/
namespace Go.Proofs.Ytohhjnpiiackjaa
open Go.RowKit
set_option maxRecDepth 10000
set_option linter.unusedSimpArgs false
attribute [local simp] AS.exp expG Box.ren AV.map AV.mapL outsOk noRet Site.isRet Box.allS AV.allS AV.allSL retB dropL AS.adds renL outG outOk lentBx inG fnOf lookA List.findIdx?_cons
attribute [local simp] Box.purge Site.isLoc
def natV (l : List Nat) : List PV := l.map fun r : Nat => .int .i64 r
theorem natV_get {l : List Nat} {i r : Nat} (h : l[i]? = some r) : (natV l)[i]? = some (.int .i64 r) := by rw [natV, List.getElem?_map, h]; rfl
theorem natV_len {l : List Nat} : (natV l).length = l.length := by simp [natV]
def delB (q : Qu) (p : List (List Int)) (l : List Nat) : List Box := .arr 3 1 (natV l) :: layB q p 2
def ixI : Option (Nat × List (List Int)) → Int
  | some s => s.1
  | none => -1
def ixQ (p : List (List Int)) : Option (Nat × List (List Int)) → List (List Int)
  | some s => s.2
  | none => p
def delF : AV := .fn 88 [.ptr (.par 1) 0] []
set_option maxHeartbeats 4000000 in
theorem ix_c {F : Nat} (hF : 407 < F) (q : Qu) (hq : q.ok) (p : List (List Int)) (hp : PW q p) (l : List Nat) (hl : l.length ≤ 1000) (hin : ∀ r ∈ l, r < q.rs.length) :
    CallsA Try.prog 101 [.vec (.par 0) 1 0 l.length, delF] (laid 0 (delB q p l)) (fun x B => x = .pv (.int .i64 (ixI (ixM F q p l))) ∧ B = laid 0 (delB q (ixQ p (ixM F q p l)) l)) := by
  refine calls_of_awpB [.par 0, .par 1, .par 2] mixed L101_ok (Nat.le_of_ble_eq_true rfl) ?_
  obtain ⟨RES, hRES⟩ : ∃ z, z = ixM F q p l := ⟨_, rfl⟩
  rw [← hRES]
  generalize hR : (fun (x : AV) (B : List (Site × Box)) => x = .pv (.int .i64 (ixI RES)) ∧ B = laid 0 (delB q (ixQ p RES) l)) = R
  simp [-getElem?_pos, L101, delB, delF, layB, laid]
  refine awp_loopS (fun n τ => ∃ k : Nat, k ≤ l.length ∧ n = l.length - k ∧ (ixM F q p (l.drop k)).map (fun s => (s.1 + k, s.2)) = RES ∧ τ = ⟨[(0, .vec (.par 0) 1 0 l.length), (1, delF), (7, .pv (.int .i64 l.length)), (8, .pv (.int .i64 k))], laid 0 (delB q p l)⟩)
    ⟨l.length, ⟨[(0, .vec (.par 0) 1 0 l.length), (1, delF), (7, .pv (.int .i64 l.length)), (8, .pv (.int .i64 0))], laid 0 (delB q p l)⟩, Sub.mk (by simp [delF]) (by simp [delB, layB, laid]), 0, Nat.zero_le _, rfl, by rw [hRES]; simp, rfl⟩ ?_
  clear hRES
  rintro J hJ n τ ⟨k, hk, rfl, hres, rfl⟩
  by_cases hlt : k < l.length
  · obtain ⟨r, hx⟩ : ∃ x, l[k]? = some x := ⟨l[k], List.getElem?_eq_getElem hlt⟩
    have hg := natV_get hx
    have hln := natV_len (l := l)
    have hw := wrapS (k := k) (by omega)
    have hmeas : l.length - (k + 1) < l.length - k := by omega
    have hdr : l.drop k = r :: l.drop (k + 1) := by
      rw [List.drop_eq_getElem_cons hlt]
      have : l[k] = r := by rw [List.getElem?_eq_getElem hlt] at hx; exact Option.some.inj hx
      rw [this]
    have hC := lgive_c hF q hq p hp r (hin r (List.mem_of_getElem? hx))
    rw [hdr] at hres
    have e2 : ixM F q p (r :: l.drop (k + 1)) = match giveP F q p r with
      | some p' => some (0, p')
      | none => (ixM F q p (l.drop (k + 1))).map fun s => (s.1 + 1, s.2) := rfl
    rw [e2] at hres
    clear e2 hdr
    have hnext : giveP F q p r = none → J (l.length - (k + 1)) _ := fun hn => hJ _ _ ⟨k + 1, hlt, rfl, by
      rw [hn] at hres
      rw [← hres]
      cases ixM F q p (l.drop (k + 1)) with
      | none => rfl
      | some s => simp; omega, rfl⟩
    clear hJ
    simp [-getElem?_pos, -List.getElem?_map, delB, delF, layB, laid, hlt, hg, hln, nblt, nble]
    refine call_lent (as' := [.ptr (.par 0) 0, .pv (.int .i64 r)]) (B := laid 0 (layB q p 1)) (fs := [.ptr (.par 1) 0]) (cs := []) 16 [.par 1, .par 2] ?_ rfl rfl ?_ ?_ ?_ hC ?_
    · rfl
    · simp [layB, laid]
    · rfl
    · rfl
    rintro r0 B0 ⟨rfl, rfl⟩
    refine ⟨rfl, by simp [layB, laid], ?_⟩
    cases hgv : giveP F q p r with
    | none =>
      have hround := hnext hgv
      simp [-getElem?_pos, -List.getElem?_map, layB, laid, hw]
      refine ⟨_, _, hmeas, Sub.mk ?_ ?_, hround⟩
      · simp [delF]
      · simp [delB, layB, laid]
    | some p' =>
      rw [hgv] at hres
      simp only [Option.map_some, Nat.zero_add] at hres
      subst hres
      simp [-getElem?_pos, -List.getElem?_map, layB, laid]
      rw [← hR]
      simp [delB, layB, laid, ixI, ixQ]
  · have he : k = l.length := by omega
    subst he
    rw [List.drop_length] at hres
    have hno : RES = none := by rw [← hres]; rfl
    subst hno
    simp [-getElem?_pos, -List.getElem?_map, delB, delF, layB, laid]
    rw [← hR]
    simp [delB, layB, laid, ixI, ixQ]
theorem ixM_ok {F : Nat} {q : Qu} (hq : q.ok) {p : List (List Int)} (hp : PW q p) : ∀ (l : List Nat), (∀ r ∈ l, r < q.rs.length) → ∀ i p', ixM F q p l = some (i, p') → i < l.length ∧ PW q p' ∧ p'.length = p.length
  | [], _, i, p', h => by cases h
  | r :: l, hl, i, p', h => by
    have e2 : ixM F q p (r :: l) = match giveP F q p r with
      | some p' => some (0, p')
      | none => (ixM F q p l).map fun s => (s.1 + 1, s.2) := rfl
    rw [e2] at h
    cases hg : giveP F q p r with
    | some p2 =>
      rw [hg] at h
      simp only [Option.some.injEq, Prod.mk.injEq] at h
      obtain ⟨rfl, rfl⟩ := h
      obtain ⟨h1, h2⟩ := giveP_PW hq hp (hl r (by simp)) hg
      exact ⟨by simp, h1, h2⟩
    | none =>
      rw [hg] at h
      obtain ⟨s, hs, he⟩ := Option.map_eq_some_iff.1 h
      obtain ⟨k, p3⟩ := s
      simp only [Prod.mk.injEq] at he
      obtain ⟨rfl, rfl⟩ := he
      obtain ⟨h1, h2⟩ := ixM_ok hq hp l (fun x hx => hl x (by simp [hx])) k p3 hs
      exact ⟨by simp; omega, h2⟩
def dlH (q : Qu) (p : List (List Int)) (X : List Nat) (w j n : Nat) : AS := ⟨[(0, .vec (.par 0) 1 0 n), (1, delF), (5, .pv (.int .i64 w)), (6, .pv (.int .i64 j))], laid 0 (delB q p X)⟩
theorem natV_set {X : List Nat} {w r : Nat} : (natV X).set w (.int .i64 r) = natV (X.set w r) := by rw [natV, natV, List.map_set]
set_option maxHeartbeats 4000000 in
theorem delete_c {F : Nat} (hF : 407 < F) (q : Qu) (hq : q.ok) (p : List (List Int)) (hp : PW q p) (l : List Nat) (hl : l.length ≤ 1000) (hin : ∀ r ∈ l, r < q.rs.length) :
    CallsA Try.prog 87 [.vec (.par 0) 1 0 l.length, delF] (laid 0 (delB q p l)) (fun x B => x = .vec (.par 0) 1 0 (delM F q p l).2.length ∧ ∃ X : List Nat, X.take (delM F q p l).2.length = (delM F q p l).2 ∧ B = laid 0 (delB q (delM F q p l).1 X)) := by
  obtain ⟨RES, hRES⟩ : ∃ z, z = delM F q p l := ⟨_, rfl⟩
  rw [← hRES]
  have hC := ix_c hF q hq p hp l hl hin
  rw [delM_ix] at hRES
  refine calls_of_awpB [.par 0, .par 1, .par 2] mixed L87_ok (Nat.le_of_ble_eq_true rfl) ?_
  generalize hR : (fun (x : AV) (B : List (Site × Box)) => x = .vec (.par 0) 1 0 RES.2.length ∧ ∃ X : List Nat, X.take RES.2.length = RES.2 ∧ B = laid 0 (delB q RES.1 X)) = R
  have hixl := ixM_ok (F := F) hq hp l hin
  simp [-getElem?_pos, L87, delB, layB, laid]
  refine call_lent (as' := [.vec (.par 0) 1 0 l.length, delF]) (B := laid 0 (delB q p l)) (fs := []) (cs := []) 10 [.par 0, .par 1, .par 2] ?_ rfl rfl ?_ ?_ ?_ hC ?_
  · rfl
  · simp [delB, layB, laid]
  · simp [delF]
  · simp [delF]
  rintro r0 B0 ⟨rfl, rfl⟩
  refine ⟨rfl, by simp [delB, layB, laid], ?_⟩
  cases hx : ixM F q p l with
  | none =>
    rw [hx] at hRES
    simp only at hRES
    subst hRES
    simp [-getElem?_pos, delB, layB, laid, ixI, ixQ, delF]
    rw [← hR]
    exact ⟨rfl, l, by simp, by simp [delB, layB, laid]⟩
  | some s =>
    obtain ⟨i, p1⟩ := s
    obtain ⟨hi, hp1, _⟩ := hixl i p1 hx
    rw [hx] at hRES
    simp only at hRES
    have hw1 := wrapS (k := i) (by omega)
    have hni : ¬ ((i : Int) = -1) := by omega
    clear hixl hC
    simp [-getElem?_pos, delB, layB, laid, ixI, ixQ, delF, hw1, hni]
    refine awp_loopS (fun n τ => ∃ (j : Nat) (X K : List Nat) (p2 : List (List Int)), j ≤ l.length ∧ n = l.length - j ∧ X.length = l.length ∧ X.take K.length = K ∧ X.drop j = l.drop j ∧ K.length < j ∧ PW q p2 ∧ (delM F q p2 (l.drop j)).1 = RES.1 ∧ K ++ (delM F q p2 (l.drop j)).2 = RES.2 ∧ τ = dlH q p2 X K.length j l.length)
      ⟨l.length - (i + 1), dlH q p1 l i (i + 1) l.length, Sub.mk (by simp [delF]) (by simp [delB, layB, laid]), i + 1, l, l.take i, p1, by omega, rfl, rfl, by simp, rfl, by rw [List.length_take]; omega, hp1, by rw [hRES], by rw [hRES], by rw [List.length_take, Nat.min_eq_left (by omega)]⟩ ?_
    clear hRES hp1 hx hw1 hni
    rintro J hJ n τ ⟨j, X, K, p2, hj, rfl, hXl, hXt, hXd, hKj, hp2, hr1, hr2, rfl⟩
    have hln := natV_len (l := X)
    by_cases hlt : j < l.length
    · obtain ⟨r, hxr⟩ : ∃ x, l[j]? = some x := ⟨l[j], List.getElem?_eq_getElem hlt⟩
      have hXr : X[j]? = some r := by
        have h1 : (X.drop j)[0]? = (l.drop j)[0]? := by rw [hXd]
        rw [List.getElem?_drop, List.getElem?_drop, Nat.add_zero] at h1
        rw [h1]; exact hxr
      have hg := natV_get hXr
      have hw := wrapS (k := j) (by omega)
      have hw2 := wrapS (k := K.length) (by omega)
      have hmeas : l.length - (j + 1) < l.length - j := by omega
      have hdr : l.drop j = r :: l.drop (j + 1) := by
        rw [List.drop_eq_getElem_cons hlt]
        have : l[j] = r := by rw [List.getElem?_eq_getElem hlt] at hxr; exact Option.some.inj hxr
        rw [this]
      have hC := lgive_c hF q hq p2 hp2 r (hin r (List.mem_of_getElem? hxr))
      have hdn : X.drop (j + 1) = l.drop (j + 1) := by
        have := congrArg List.tail hXd
        simpa [List.tail_drop] using this
      rw [hdr] at hr1 hr2
      have e2 : delM F q p2 (r :: l.drop (j + 1)) = match giveP F q p2 r with
        | some p' => delM F q p' (l.drop (j + 1))
        | none => ((delM F q p2 (l.drop (j + 1))).1, r :: (delM F q p2 (l.drop (j + 1))).2) := rfl
      rw [e2] at hr1 hr2
      clear e2 hdr
      have hKl : K.length < X.length := by omega
      have hset : ∀ Y, Y = X.set K.length r → giveP F q p2 r = none → J (l.length - (j + 1)) (dlH q p2 Y (K.length + 1) (j + 1) l.length) := fun Y hY hn => hJ _ _ ⟨j + 1, Y, K ++ [r], p2, hlt, rfl, by rw [hY, List.length_set]; exact hXl, by
        rw [hY, List.length_append]
        show List.take (K.length + 1) _ = _
        rw [List.take_add_one, List.getElem?_set_self hKl, List.take_set_of_le (Nat.le_refl _), hXt]; rfl, by rw [hY, List.drop_set_of_lt (by omega)]; exact hdn, by simp; omega, hp2, by rw [hn] at hr1; exact hr1, by rw [hn] at hr2; rw [List.append_assoc]; exact hr2, by simp⟩
      have hgot : ∀ p3, giveP F q p2 r = some p3 → J (l.length - (j + 1)) (dlH q p3 X K.length (j + 1) l.length) := fun p3 hn => hJ _ _ ⟨j + 1, X, K, p3, hlt, rfl, hXl, hXt, hdn, by omega, (giveP_PW hq hp2 (hin r (List.mem_of_getElem? hxr)) hn).1, by rw [hn] at hr1; exact hr1, by rw [hn] at hr2; exact hr2, rfl⟩
      clear hJ
      have hlt2 : j < X.length := by omega
      have hKn : K.length < l.length := by omega
      have hKx : (natV X)[K.length]? = some (.int .i64 (X[K.length] : Nat)) := natV_get (List.getElem?_eq_getElem hKl)
      have hst := natV_set (X := X) (w := K.length) (r := r)
      simp [-getElem?_pos, -List.getElem?_map, dlH, delB, delF, layB, laid, hlt, hg, hln, nblt, nble]
      refine call_lent (as' := [.ptr (.par 0) 0, .pv (.int .i64 r)]) (B := laid 0 (layB q p2 1)) (fs := [.ptr (.par 1) 0]) (cs := []) 28 [.par 1, .par 2] ?_ rfl rfl ?_ ?_ ?_ hC ?_
      · rfl
      · simp [layB, laid]
      · rfl
      · rfl
      rintro r0 B0 ⟨rfl, rfl⟩
      refine ⟨rfl, by simp [layB, laid], ?_⟩
      cases hgv : giveP F q p2 r with
      | none =>
        have hround := hset _ rfl hgv
        simp [-getElem?_pos, -List.getElem?_map, layB, laid, hw, hw2, hKn, hKx, hst, nblt, nble, setAt]
        refine ⟨_, _, hmeas, Sub.mk ?_ ?_, hround⟩
        · simp [delF]
        · simp [delB, layB, laid]
      | some p3 =>
        have hround := hgot p3 hgv
        simp [-getElem?_pos, -List.getElem?_map, layB, laid, hw]
        refine ⟨_, _, hmeas, Sub.mk ?_ ?_, hround⟩
        · simp [delF]
        · simp [delB, layB, laid]
    · have he : j = l.length := by omega
      subst he
      rw [List.drop_length] at hr1 hr2
      have hr1' : p2 = RES.1 := hr1
      have hr2' : K = RES.2 := by rw [← hr2]; simp [delM]
      clear hJ hr1 hr2
      have hK2 : K.length ≤ l.length := by omega
      have hKs : K.length + (l.length - K.length) = l.length := by omega
      have hsp : splice (natV X) K.length (List.replicate (l.length - K.length) (PV.int .i64 0)) = natV (K ++ List.replicate (l.length - K.length) 0) := by
        unfold splice natV
        rw [List.length_replicate, hKs, List.drop_eq_nil_of_le (by simp; omega), List.append_nil, ← List.map_take, hXt, List.map_append, List.map_replicate]
        rfl
      simp [-getElem?_pos, -List.getElem?_map, -splice, dlH, delB, delF, layB, laid, nblt, nble, hK2, hKs, hln, hXl, hsp]
      rw [← hR, ← hr1', ← hr2']
      exact ⟨rfl, K ++ List.replicate (l.length - K.length) 0, by simp, by simp [delB, layB, laid]⟩
end Go.Proofs.Ytohhjnpiiackjaa
/-! Contracts of layer 10 (queue): a plan is laid. -/
namespace Go.Proofs.Ytohhjnpiiackjaa
open Go.RowKit
set_option maxRecDepth 10000
set_option linter.unusedSimpArgs false
attribute [local simp] AS.exp expG Box.ren AV.map AV.mapL outsOk noRet Site.isRet Box.allS AV.allS AV.allSL retB dropL AS.adds renL outG outOk lentBx inG fnOf lookA List.findIdx?_cons
attribute [local simp] Box.purge Site.isLoc
attribute [local simp] frzL AS.frz AV.frz AV.frzL Box.frz AS.tidy AS.frzC
def Qu.unitK (q : Qu) (k : Nat) : List Nat := ((List.range q.rs.length).take k).flatMap fun i => List.replicate (q.run i).hours.toNat i
theorem Qu.unitK_next {q : Qu} {k : Nat} (hk : k < q.rs.length) : q.unitK (k + 1) = q.unitK k ++ List.replicate (q.run k).hours.toNat k := by
  have : (List.range q.rs.length)[k]? = some k := by rw [List.getElem?_range hk]
  unfold Qu.unitK
  rw [take_next this, List.flatMap_append]; simp
theorem Qu.unitK_len {q : Qu} (hq : q.ok) : ∀ k, k ≤ q.rs.length → (q.unitK k).length ≤ 40 * k
  | 0, _ => by simp [Qu.unitK]
  | k + 1, hk => by
    have h1 := Qu.unitK_len hq k (by omega)
    obtain ⟨r, hr⟩ : ∃ r, q.rs[k]? = some r := ⟨q.rs[k], List.getElem?_eq_getElem (by omega)⟩
    have h2 := hq.h r (List.mem_of_getElem? hr)
    have h3 : q.run k = r := by simp [Qu.run, hr]
    rw [Qu.unitK_next (by omega), List.length_append, List.length_replicate, h3]
    omega
theorem Qu.unitK_all {q : Qu} : q.unitK q.rs.length = q.units := by
  unfold Qu.unitK Qu.units
  rw [List.take_of_length_le (by simp)]
/-- What comes back of a laying. -/
def layPost (q : Qu) : Option (List (List Int)) → AV → List (Site × Box) → Prop
  | none, x, B => x = .pv (.tup [.nilp, .bool false]) ∧ B = []
  | some p, x, B => x = .tup [.ptr (.ret 0) 0, .pv (.bool true)] ∧ B = [(.ret 0, .cells [.pv (.lst false 1 (q.ms.map rgsP)), .pv (.lst false 3 (q.rs.map Rq.pv)), .vec (.ret 1) 4 0 p.length]), (.ret 1, .arr 111 4 (plP p))]
def layS (q : Qu) (p : List (List Int)) (left : List Nat) : AS := ⟨[(4, .ptr (.loc 10 0) 0), (5, .vec (.loc 25 0) 1 0 left.length)], [(.loc 25 0, .arr 3 1 (natV left)), (.loc 10 0, .cells [.pv (.lst false 1 (q.ms.map rgsP)), .pv (.lst false 3 (q.rs.map Rq.pv)), .vec (.loc 43 0) 4 0 p.length]), (.loc 43 0, .arr 111 4 (plP p))]⟩
set_option maxHeartbeats 8000000 in
theorem lay_c {F : Nat} (hF : 407 < F) (q : Qu) (hq : q.ok) : CallsA Try.prog 61 [.pv q.pv] [] (layPost q (q.layP F)) := by
  have hqr := hq.r
  refine calls_of_awpE mixed L61_ok (Nat.le_of_ble_eq_true rfl) ?_
  obtain ⟨RES, hRES⟩ : ∃ z, z = q.layP F := ⟨_, rfl⟩
  rw [← hRES]
  generalize hR : layPost q RES = R
  simp [-getElem?_pos, L61, Qu.pv]
  refine awp_loopS (fun n τ => ∃ k : Nat, k ≤ q.rs.length ∧ n = q.rs.length - k ∧ τ = ⟨[(4, .ptr (.loc 10 0) 0), (5, .vec (.loc 25 0) 1 0 (q.unitK k).length), (12, .pv (.lst false 3 (q.rs.map Rq.pv))), (13, .pv (.int .i64 q.rs.length)), (14, .pv (.int .i64 k))], [(.loc 25 0, .arr 3 1 (natV (q.unitK k))), (.loc 10 0, .cells [.pv (.lst false 1 (q.ms.map rgsP)), .pv (.lst false 3 (q.rs.map Rq.pv)), .pv (.emp (some true))])]⟩)
    ⟨q.rs.length, ⟨[(4, .ptr (.loc 10 0) 0), (5, .vec (.loc 25 0) 1 0 0), (12, .pv (.lst false 3 (q.rs.map Rq.pv))), (13, .pv (.int .i64 q.rs.length)), (14, .pv (.int .i64 0))], [(.loc 25 0, .arr 3 1 []), (.loc 10 0, .cells [.pv (.lst false 1 (q.ms.map rgsP)), .pv (.lst false 3 (q.rs.map Rq.pv)), .pv (.emp (some true))])]⟩, Sub.trans' (Sub.mk (by simp [AS.vecT]) (by simp [AS.vecT])) (vecT 25 3 1 5 rfl (by decide)), 0, Nat.zero_le _, rfl, by simp [Qu.unitK, natV]⟩ ?_
  rintro J hJ n τ ⟨k, hk, rfl, rfl⟩
  have hul := Qu.unitK_len hq k hk
  by_cases hlt : k < q.rs.length
  · obtain ⟨r, hr⟩ : ∃ r, q.rs[k]? = some r := ⟨q.rs[k], List.getElem?_eq_getElem hlt⟩
    have hrun : q.run k = r := by simp [Qu.run, hr]
    have hh := hq.h r (List.mem_of_getElem? hr)
    have hg : (q.rs.map Rq.pv)[k]? = some (.agg [.int .i64 r.hours, .int .i64 r.ready, .lst false 1 (r.on.map PV.bool)]) := by rw [List.getElem?_map, hr]; rfl
    have hw := wrapS (k := k) (by omega)
    have hmeas : q.rs.length - (k + 1) < q.rs.length - k := by omega
    have hround := hJ _ _ ⟨k + 1, hlt, rfl, rfl⟩
    have hnx := Qu.unitK_next hlt
    rw [hrun] at hnx
    obtain ⟨c, hc⟩ : ∃ c : Nat, r.hours = c := ⟨r.hours.toNat, by omega⟩
    rw [hc] at hnx hg
    rw [Int.toNat_natCast] at hnx
    have hrep := repeat_c k c (by omega)
    have hln : (natV (q.unitK k)).length = (q.unitK k).length := natV_len
    have hs6 : (q.unitK k).length + c ≤ 1000000 := by omega
    have hnv : natV (q.unitK k ++ List.replicate c k) = natV (q.unitK k) ++ List.replicate c (.int .i64 k) := by simp [natV]
    clear hJ hRES
    generalize q.unitK (k + 1) = U2 at *
    subst hnx
    generalize q.unitK k = U1 at *
    generalize hTV : natV U1 = TV at *
    simp [-getElem?_pos, -List.getElem?_map, hlt, hg]
    refine .inl (call_pv [.loc 21 0] (fs := []) (xs := [.lst false 1 [.int .i64 k], .int .i64 c]) (cs := []) rfl ?_ hrep ?_)
    · simp [frzsL]
    simp [-getElem?_pos, -List.getElem?_map, frzsL, nble, nblt, hs6, hln, hw, hTV]
    refine ⟨_, _, hmeas, Sub.mk ?_ ?_, hround⟩
    · simp
    · simp [hnv, hTV]
  · have he : k = q.rs.length := by omega
    subst he
    rw [Qu.unitK_all] at hul ⊢
    clear hJ
    have hu := units_lt (q := q)
    have hRES' : layM F q 41 [] q.units = RES := hRES.symm
    clear hRES
    generalize q.units = U at *
    simp [-getElem?_pos, -List.getElem?_map]
    refine awp_loopS (fun n τ => ∃ (p : List (List Int)) (left : List Nat), PW q p ∧ left.length ≤ 1000 ∧ (∀ r ∈ left, r < q.rs.length) ∧ n + p.length = 41 ∧ layM F q n p left = RES ∧ τ = layS q p left)
      ⟨41, layS q [] U, Sub.trans' (Sub.mk (by simp [AS.vecC]) (by simp [AS.vecC, plP])) (vecC 43 111 4 (s := .loc 10 0) (cs := [.pv (.lst false 1 (q.ms.map rgsP)), .pv (.lst false 3 (q.rs.map Rq.pv)), .pv (.emp (some true))]) 2 rfl rfl (by decide)), [], U, PW.nil, by omega, hu, rfl, hRES', rfl⟩ ?_
    clear hRES' hu hul
    rintro J hJ n τ ⟨p, left, hp, hll, hin, hn, hres, rfl⟩
    have hpl := hp.l
    cases left with
    | nil =>
      have hres' : RES = some p := by rw [← hres]; cases n <;> rfl
      subst hres'
      simp [-getElem?_pos, -List.getElem?_map, layS]
      refine ⟨[.loc 10 0, .loc 43 0], ?_⟩
      simp
      rw [← hR]
      simp [layPost]
    | cons r0 rest =>
      obtain ⟨n', rfl⟩ : ∃ n', n = n' + 1 := ⟨n - 1, by omega⟩
      have hL : layM F q (n' + 1) p (r0 :: rest) = if p.length = 40 then none else layM F q n' (delM F q (p ++ [idle4]) (r0 :: rest)).1 (delM F q (p ++ [idle4]) (r0 :: rest)).2 := rfl
      rw [hL] at hres
      clear hL
      by_cases h40 : p.length = 40
      · rw [if_pos h40] at hres
        subst hres
        simp [-getElem?_pos, -List.getElem?_map, layS, h40]
        refine ⟨[], ?_⟩
        simp
        rw [← hR]
        exact ⟨rfl, rfl⟩
      · rw [if_neg h40] at hres
        have h40' : ¬ ((p.length : Int) = 40) := by omega
        have hp1 := hp.more (q := q) (by omega)
        have hdel := delete_c hF q hq (p ++ [idle4]) hp1 (r0 :: rest) hll hin
        obtain ⟨k1, k2, k3, k4⟩ := delM_PW (F := F) hq (r0 :: rest) (p ++ [idle4]) hp1 hin
        have hp6 : p.length + 1 ≤ 1000000 := by omega
        have hpv : plP (p ++ [idle4]) = plP p ++ [.agg [.int .i64 (-1), .int .i64 (-1), .int .i64 (-1), .int .i64 (-1)]] := by simp [plP, rowP, idle4]
        have hpln : (plP p).length = p.length := by simp [plP]
        have hround := hJ n' _ ⟨(delM F q (p ++ [idle4]) (r0 :: rest)).1, (delM F q (p ++ [idle4]) (r0 :: rest)).2, k1, by omega, fun r h => hin r (k3 r h), by rw [k2]; simp; omega, hres, rfl⟩
        clear hJ hres k1 k2 k3 k4
        generalize delM F q (p ++ [idle4]) (r0 :: rest) = D at *
        obtain ⟨p2, K⟩ := D
        simp only at hround hdel
        simp [-getElem?_pos, -List.getElem?_map, layS, h40, h40']
        refine call_pv [] (fs := []) (xs := []) (cs := []) rfl rfl idle_c ?_
        simp [-getElem?_pos, -List.getElem?_map, frzsL, nble, nblt, hp6, hpln]
        refine call_lent (as' := [.vec (.par 0) 1 0 (r0 :: rest).length, delF]) (B := laid 0 (delB q (p ++ [idle4]) (r0 :: rest))) (fs := []) (cs := []) 49 [.loc 25 0, .loc 10 0, .loc 43 0] ?_ rfl rfl ?_ ?_ ?_ hdel ?_
        · rfl
        · simp [delB, layB, laid, hpv]
        · rfl
        · simp [delF]
        rintro x B0 ⟨rfl, X, hX, rfl⟩
        refine ⟨rfl, by simp [delB, layB, laid], ?_⟩
        have hXK : (natV X).take K.length = natV K := by rw [natV, natV, ← List.map_take, hX]
        simp [-getElem?_pos, -List.getElem?_map, delB, layB, laid]
        refine ⟨_, _, Nat.lt_succ_self n', Sub.trans' (Sub.mk ?_ ?_) (cutW (.loc 25 0) (e := 3) (n := 1) (xs := natV X) K.length (natV K) rfl hXK), hround⟩
        · simp
        · simp
end Go.Proofs.Ytohhjnpiiackjaa
/-! Contracts of layer 10 (queue): Earliest. -/
namespace Go.Proofs.Ytohhjnpiiackjaa
open Go.RowKit
set_option maxRecDepth 10000
set_option linter.unusedSimpArgs false
attribute [local simp] AS.exp expG Box.ren AV.map AV.mapL outsOk noRet Site.isRet Box.allS AV.allS AV.allSL retB dropL AS.adds renL outG outOk lentBx inG fnOf lookA List.findIdx?_cons
attribute [local simp] Box.purge Site.isLoc
attribute [local simp] retFz frzL AS.frz AV.frz AV.frzL Box.frz AS.tidy AS.frzC
/-- The plan that Earliest returns. -/
def Qu.cutP (q : Qu) (p : List (List Int)) : List (List Int) := p.map (·.take q.ms.length)
def Qu.earlP (F : Nat) (q : Qu) : PV := if q.check ≠ 0 then .tup [planP [], .int .i64 0, .int .i64 q.check] else match q.layP F with
  | none => .tup [planP [], .int .i64 0, .int .i64 9]
  | some p => .tup [planP (q.cutP p), .int .i64 p.length, .int .i64 0]
theorem early_wk {m : Mem} {v : Value} {a b : PV} (h : RdP m v (.tup [.emp (some true), a, b])) : RdP m v (.tup [planP [], a, b]) := by
  refine tup_wk ?_ ?_ h
  · rfl
  intro j c c' d h1 h2 hd
  match j with
  | 0 => simp at h1 h2; subst h1 h2; exact emp_lst hd
  | 1 => simp at h1 h2; subst h1 h2; exact hd
  | 2 => simp at h1 h2; subst h1 h2; exact hd
  | j + 3 => simp at h1
set_option maxHeartbeats 8000000 in
theorem earliest_c {F : Nat} (hF : 407 < F) (q : Qu) (h1 : q.ms.length ≤ 1000000) (h2 : q.rs.length ≤ 1000000) (h3 : ∀ l ∈ q.ms, l.length ≤ 1000000) : Gives Try.prog 27 [q.pv] (q.earlP F) := by
  refine CallsA.weak2 ?_
  obtain ⟨OUT, hOUT⟩ : ∃ z, z = q.earlP F := ⟨_, rfl⟩
  rw [← hOUT]
  refine calls_of_awpF [.loc 38 0] mixed L27_ok (Nat.le_of_ble_eq_true rfl) ?_
  generalize hR : (fun (r : AV) (B : List (Site × Box)) => ∃ x, r = .pv x ∧ B = [] ∧ ∀ m v, RdP m v x → RdP m v OUT) = R
  simp [-getElem?_pos, L27, Qu.pv]
  refine call_gives (k := 0) (fs := []) (xs := [q.pv]) (cs := []) rfl rfl (check_c q h1 h2 h3) rfl ?_
  by_cases hc : q.check = 0
  · have hq := Qu.ok_of hc
    have hqm := hq.m
    have hlay := lay_c hF q hq
    have hO : OUT = match q.layP F with
      | none => .tup [planP [], .int .i64 0, .int .i64 9]
      | some p => .tup [planP (q.cutP p), .int .i64 p.length, .int .i64 0] := by rw [hOUT]; unfold Qu.earlP; rw [if_neg (by simpa using hc)]
    have hPW : ∀ p, q.layP F = some p → PW q p := fun p hp => layM_PW hq _ _ _ PW.nil (units_lt (q := q)) p hp
    clear hOUT
    generalize q.layP F = LAY at *
    simp [-getElem?_pos, hc]
    refine call_lent (as' := [.pv q.pv]) (B := []) (fs := []) (cs := []) 17 [] ?_ rfl rfl rfl ?_ ?_ hlay ?_
    · rfl
    · rfl
    · rfl
    intro x B hx
    cases LAY with
    | none =>
      obtain ⟨rfl, rfl⟩ := hx
      refine ⟨rfl, by simp, ?_⟩
      simp [-getElem?_pos]
      rw [← hR]
      refine ⟨_, rfl, rfl, fun m v h => ?_⟩
      rw [hO]
      exact early_wk h
    | some p =>
      obtain ⟨rfl, rfl⟩ := hx
      refine ⟨rfl, by simp, ?_⟩
      have hpw := hPW p rfl
      have hpl := hpw.l
      simp [-getElem?_pos]
      refine awp_loopS (fun n τ => ∃ k : Nat, k ≤ p.length ∧ n = p.length - k ∧ τ = ⟨[(1, .ptr (.loc 1 0) 0), (2, .vec (.loc 38 0) 1 0 k), (25, .vec (.loc 17 1) 4 0 p.length), (26, .pv (.int .i64 p.length)), (27, .pv (.int .i64 k))], [(.loc 38 0, .arr 26 1 ((q.cutP p).take k |>.map intsP)), (.loc 1 0, .cells q.cells), (.loc 17 1, .arr 111 4 (plP p))]⟩)
        ⟨p.length, ⟨[(1, .ptr (.loc 1 0) 0), (2, .vec (.loc 38 0) 1 0 0), (25, .vec (.loc 17 1) 4 0 p.length), (26, .pv (.int .i64 p.length)), (27, .pv (.int .i64 0))], [(.loc 38 0, .arr 26 1 []), (.loc 1 0, .cells q.cells), (.loc 17 1, .arr 111 4 (plP p))]⟩, Sub.trans' (Sub.mk (by simp [AS.vecT]) (by simp [AS.vecT, Qu.cells])) (vecT 38 26 1 2 rfl (by decide)), 0, Nat.zero_le _, rfl, by simp⟩ ?_
      rintro J hJ n τ ⟨k, hk, rfl, rfl⟩
      by_cases hlt : k < p.length
      · obtain ⟨l, hl⟩ : ∃ l, p[k]? = some l := ⟨p[k], List.getElem?_eq_getElem hlt⟩
        have h4 := hpw.f l (List.mem_of_getElem? hl)
        have hg : (plP p)[k]? = some (.agg (l.map (PV.int .i64))) := by rw [plP, List.getElem?_map, hl]; rfl
        have hcl : (q.cutP p)[k]? = some (l.take q.ms.length) := by rw [Qu.cutP, List.getElem?_map, hl]; rfl
        have hw := wrapS (k := k) (by omega)
        have hmeas : p.length - (k + 1) < p.length - k := by omega
        have hround := hJ _ _ ⟨k + 1, hlt, rfl, rfl⟩
        have htk : ((q.cutP p).take (k + 1)).map intsP = ((q.cutP p).take k).map intsP ++ [intsP (l.take q.ms.length)] := by rw [take_next hcl]; simp
        have hk6 : k + 1 ≤ 1000000 := by omega
        have hk5 : k ≤ 999999 := by omega
        have htl : (((q.cutP p).take k).map intsP).length = k := by simp [Qu.cutP]; omega
        have hcn := cloneI_c (l.take q.ms.length) (by rw [List.length_take]; omega)
        have hpn : (plP p).length = p.length := by simp [plP]
        match l, h4 with
        | [a, b, c, d], _ =>
        have hri : (([a, b, c, d] : List Int).map (PV.int .i64)).take q.ms.length = (([a, b, c, d] : List Int).take q.ms.length).map intP := by rw [← List.map_take]; rfl
        simp only [List.map_cons, List.map_nil] at hri hg
        clear hJ hPW hlay
        generalize hTL : ((q.cutP p).take k).map intsP = TL at *
        generalize hRW : ([a, b, c, d] : List Int).take q.ms.length = RW at *
        simp [-getElem?_pos, -List.getElem?_map, -List.map_take, Qu.cells, hlt, hg, nblt, nble, hqm, hri, hTL]
        refine .inl (call_pv [] (fs := []) (xs := [intsP RW]) (cs := []) rfl ?_ hcn ?_)
        · simp [frzsL, intsP]
        simp [-getElem?_pos, -List.getElem?_map, -List.map_take, frzsL, nblt, nble, hk6, hk5, htl, hw, intsP]
        refine ⟨_, _, hmeas, Sub.mk ?_ ?_, hround⟩
        · simp
        · simp [-List.map_take, htk, Qu.cells, intsP]
      · have he : k = p.length := by omega
        subst he
        have hmm : ((q.cutP p).take p.length).map intsP = (q.cutP p).map intsP := by rw [List.take_of_length_le (by simp [Qu.cutP])]
        have hm2 : ((q.cutP p).map intsP).take p.length = (q.cutP p).map intsP := List.take_of_length_le (by simp [Qu.cutP])
        have hcpl : (q.cutP p).length = p.length := by simp [Qu.cutP]
        simp [-getElem?_pos, -List.getElem?_map, -List.map_take, hmm, hm2, hcpl]
        rw [← hR]
        refine ⟨_, rfl, rfl, fun m v h => ?_⟩
        rw [hO]
        exact h
  · have hO : OUT = .tup [planP [], .int .i64 0, .int .i64 q.check] := by rw [hOUT]; unfold Qu.earlP; rw [if_pos (by simpa using hc)]
    simp [-getElem?_pos, hc]
    rw [← hR]
    refine ⟨_, rfl, rfl, fun m v h => ?_⟩
    rw [hO]
    exact early_wk h
end Go.Proofs.Ytohhjnpiiackjaa
