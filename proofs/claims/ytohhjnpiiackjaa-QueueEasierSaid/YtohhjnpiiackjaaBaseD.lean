/- What a call of the evaluation says of the model's calls; the rows' end. Over any program. (Several texts in one.) -/
import Derived.Test.YtohhjnpiiackjaaBaseE
import Derived.ChangeSame
import Derived.ProofKit
import Derived.Deep.Slices
import Derived.ReadAgain
import Derived.OpenShut
import Derived.Eval
set_option linter.unusedVariables false
set_option linter.unusedSimpArgs false
/-! What a call of the evaluation says of the model's calls; the rows' end. Over any program. -/
namespace Go.Proofs.Ytohhjnpiiackjaa
open Go.RowKit Go.ChangeShapes Go.WideShapes
theorem Keep.but {w w' : World} (h : Keep [] w w') (may : MemPlace → Prop) : w.keptBut w' may :=
  ⟨h.os, h.output, fun i hi => by
    rw [h.block i hi (by simp)]
    cases w.heap[i]? with
    | none => rfl
    | some o => cases o <;> first | exact ⟨rfl, rfl, rfl, fun _ _ => rfl⟩ | exact .inr ⟨rfl, rfl⟩ | rfl⟩
/-- Nothing that was there has turned. -/
theorem post_keep {H : Type} {enc : TypeId × Value → H} {P : Program} {f : Func} {s : ChangeSpec} {apart fresh handsOn again : Bool} {W W' : World} {args : Array Value} {v : Value} {ds gs : List (DataW H)} {before pa pv : List MemPlace}
    (hW : DataW.Whole enc P f.params.toList s.vars apart W args.toList ds gs before)
    (hres : ∀ (b : Nat) (sp : Nat → Bool) (hd : Bool), DataW.TrodAll enc P W' b sp hd f.resultTypes.toList (v.resultList f.resultTypes.size) (s.fn H (ds ++ gs)).results [])
    (hargs : ∀ sp : Nat → Bool, (∀ p ∈ before, sp p.block = true) → DataW.TrodAll enc P W' 0 sp true f.params.toList args.toList (s.fn H (ds ++ gs)).args pa)
    (hvars : ∀ sp : Nat → Bool, (∀ p ∈ before, sp p.block = true) → DataW.TrodVars enc P W' sp s.vars (s.fn H (ds ++ gs)).vars pv)
    (hps : before = pa ++ pv) (hk : Keep [] W W')
    (hok : ∀ (j : Nat) (t : TypeId) (r : Value), f.resultTypes[j]? = some t → (v.resultList f.resultTypes.size)[j]? = some r → Value.okWide P W' .any 0 t r) :
    s.post enc P f apart fresh handsOn again W args v W' := by
  have hlt := fun p hp => hW.lt p hp
  have hold : ∀ p ∈ before, (fun b => decide (b < W.heap.size)) p.block = true := fun p hp => by simpa using hW.lt p hp
  refine ⟨ds, gs, before, [], pa, pv, hW, hres _ _ _, hargs _ hold, hvars _ hold, World.keptBut_mono (fun p hp => ⟨hp, ?_⟩) (hk.but (· ∈ before)), fun _ => ?_⟩
  · rw [hps, List.mem_append] at hp
    exact Or.inr hp
  · obtain ⟨_, _, _, _, _, hz, hn⟩ := hW
    refine ⟨hok, _, _, ([] ++ pa) ++ pv, ⟨[] ++ pa, pv, trodAll_append (hargs _ (fun _ _ => rfl)) (hres _ _ _), hvars _ (fun _ _ => rfl), rfl, ?_, ?_⟩, ?_⟩
    · intro b off hp
      have hp' : MemPlace.cell b off ∈ before := by rw [hps]; simpa using hp
      have hb : b < W.heap.size := hlt _ hp'
      have := hz b off hp'
      unfold World.frozen? at this ⊢
      rw [hk.block b hb (by simp)]
      exact this
    · intro ha
      have := hn ha
      rw [hps] at this
      simpa using this
    · intro p hp _
      rw [hps]
      simpa using hp
/-- A call of plain values that answers a bool. -/
theorem calls_bool {P : Program} {f : FuncId} {xs : List PV} {b : Bool} (h : CallsA P f (xs.map .pv) [] (fun r _ => r = .pv (.bool b))) {w : World} {vs : Array Value} (hl : vs.size = xs.length) (hv : ∀ (j : Nat) (v : Value) (x : PV), vs[j]? = some v → xs[j]? = some x → RdP w.mem v x) (hg : Glob w.mem w := by exact trivial) :
    Calls P f vs w fun e w' => e = .returned (.bool b) ∧ Keep [] w w' := by
  refine (h.2 w w.mem (fun _ => default) vs (Bxs.nil _ _ _) ⟨Le.refl _, hg, List.nodup_nil⟩ (by simpa using hl) (fun j d c h1 h2 => ?_)).mono fun e w' ⟨v, r, B', ρ', m', he, hr, _, _, _, _, _, _, hrd, hk⟩ => ?_
  · rw [List.getElem?_map] at h2
    obtain ⟨x, k1, rfl⟩ := Option.map_eq_some_iff.1 h2
    exact .pv _ _ (hv j d x h1 k1)
  · subst hr
    rw [hrd.bool_inv] at he
    exact ⟨he, hk⟩
end Go.Proofs.Ytohhjnpiiackjaa
/-! The arguments of a law, read as plain values; what a law leaves. Over any program. -/
namespace Go.Proofs.Ytohhjnpiiackjaa
open Go.RowKit Go.ChangeShapes Go.WideShapes Go.Deep
section
variable {H : Type} {enc : TypeId × Value → H} {P : Program} {w W W' : World} {sp : Nat → Bool} {held : Bool}
theorem at_cells {b o n : Nat} {cs : List Value} (h : w.cells? 0 ⟨b, o, none⟩ n = some cs) : At w.mem b o cs := by
  obtain ⟨_, h1, h2⟩ := World.cells?_some h
  refine At.of_get fun j u hj => ?_
  have hlt := (List.getElem?_eq_some_iff.1 hj).1
  have h3 := h2 j (by omega)
  rw [hj] at h3
  have e : (⟨b, o, none⟩ : Addr).add j = ⟨b, o + j, none⟩ := by
    unfold Addr.add
    split
    · rename_i h0; subst h0; rfl
    · rfl
  rw [e] at h3
  exact h3
/-- These cells read as the cells of x. -/
structure CellsP (m : Mem) (n : Nat) (cs : List Value) (x : PV) : Prop where
  l1 : cs.length = n
  l2 : x.cells.length = n
  one : ∀ d ∈ cs, d.oneCell' = true
  rd : ∀ (j : Nat) (d : Value) (c : PV), cs[j]? = some d → x.cells[j]? = some c → RdP m d c
theorem choose_list {α β : Type} {p : Nat → α → β → Prop} : ∀ (l : List α), (∀ (i : Nat) (a : α), l[i]? = some a → ∃ b, p i a b) → ∃ r : List β, r.length = l.length ∧ ∀ (i : Nat) (a : α) (b : β), l[i]? = some a → r[i]? = some b → p i a b := by
  intro l
  induction l generalizing p with
  | nil => exact fun _ => ⟨[], rfl, fun i a b h => by simp at h⟩
  | cons x l ih =>
    intro h
    obtain ⟨b, hb⟩ := h 0 x rfl
    obtain ⟨r, h1, h2⟩ := ih (p := fun i => p (i + 1)) (fun i a ha => h (i + 1) a (by simpa using ha))
    refine ⟨b :: r, by simp [h1], fun i a b' ha hb' => ?_⟩
    cases i with
    | zero => simp at ha hb'; subst ha hb'; exact hb
    | succ i => exact h2 i a b' (by simpa using ha) (by simpa using hb')
/-- A slice read as a list, by a reading of its elements. -/
theorem rd_slice {α : Type} {t e : TypeId} {n : Nat} (f : α → PV) (Q : α → Prop) (ht : P.underlying t = some (.slice e)) (hn : P.cellsOf e = n) {fuel : Nat} {v : Value} {x : DataW H × List MemPlace} (h : DataW.trod enc P w 0 sp held fuel t [v] = some x)
    (hs : ∀ a len cap, v = .slice (some a) len cap → a.spot = none) (he : ∀ (k : Nat) (cs : List Value) (y : DataW H × List MemPlace), DataW.trod enc P w 0 sp held k e cs = some y → cs.length = n → ∃ a : α, Q a ∧ CellsP w.mem n cs (f a)) :
    ∃ l : List α, (∀ a ∈ l, Q a) ∧ l.length ≤ 9223372036854775807 ∧ RdP w.mem v (.lst false n (l.map f)) := by
  rcases open_slice ht h with ⟨h0, _⟩ | ⟨a, len, cap, m, k, D, Pl, h0, _, hl, hc, hm, _, hx⟩
  · have : v = .slice none 0 0 := by simpa using h0
    subst this
    refine ⟨[], fun a ha => by simp at ha, by simp, ?_⟩
    exact .lst none 0 false n [] (fun _ => []) (by simp) (by simp) (fun _ => rfl) (fun A hA => by cases hA) (fun hh => by cases hh) (fun i x hx => by simp at hx) (fun i x hx => by simp at hx) (fun i x j d c hx => by simp at hx)
  · have hv : v = .slice (some a) len cap := by simpa using h0
    subst hv
    have hsp := hs _ _ _ rfl
    obtain ⟨b, o, s⟩ := a
    simp only at hsp
    subst hsp
    have hml : len ≤ m := by rw [hm]; split <;> omega
    have hel : ∀ (i : Nat) (u : Nat), (List.range len)[i]? = some u → ∃ z : List Value × α, Q z.2 ∧ At w.mem b (o + i * n) z.1 ∧ CellsP w.mem n z.1 (f z.2) := by
      intro i u hu
      have hi : i < len := by have := (List.getElem?_eq_some_iff.1 hu).1; simpa using this
      obtain ⟨cs', h1, h2⟩ := hx i (by omega)
      rw [hn] at h1
      obtain ⟨_, hlen, _⟩ := World.cells?_some h1
      obtain ⟨z, hz1, hz2⟩ := he _ _ _ h2 hlen
      refine ⟨(cs', z), hz1, ?_, hz2⟩
      have e : (⟨b, o, none⟩ : Addr).add (i * n) = ⟨b, o + i * n, none⟩ := by
        unfold Addr.add
        split
        · rename_i h0; rw [h0]; rfl
        · rfl
      rw [e] at h1
      exact at_cells h1
    obtain ⟨r, hr1, hr2⟩ := choose_list (List.range len) hel
    simp only [List.length_range] at hr1
    have hr3 : ∀ (i : Nat) (z : List Value × α), r[i]? = some z → Q z.2 ∧ At w.mem b (o + i * n) z.1 ∧ CellsP w.mem n z.1 (f z.2) := fun i z hz => by
      have hi : i < len := by have := (List.getElem?_eq_some_iff.1 hz).1; omega
      exact hr2 i i z (by simp [hi]) hz
    refine ⟨r.map (·.2), fun a ha => ?_, ?_, ?_⟩
    · obtain ⟨z, hz, rfl⟩ := List.mem_map.1 ha
      obtain ⟨i, hi⟩ := List.mem_iff_getElem?.1 hz
      exact (hr3 i z hi).1
    · rw [List.length_map, hr1]; have : maxLen = 9223372036854775807 := rfl; omega
    · have hlen : ((r.map (·.2)).map f).length = len := by simp [hr1]
      have key : ∀ (i : Nat) (x : PV), ((r.map (·.2)).map f)[i]? = some x → ∃ z, r[i]? = some z ∧ x = f z.2 := fun i x hx => by
        rw [List.map_map, List.getElem?_map] at hx
        obtain ⟨z, h1, h2⟩ := Option.map_eq_some_iff.1 hx
        exact ⟨z, h1, h2.symm⟩
      have hds : ∀ (i : Nat) (z : List Value × α), r[i]? = some z → (r.getD i ([], z.2)).1 = z.1 := fun i z hz => by simp [List.getD_eq_getElem?_getD, hz]
      have hd2 : ∀ (i : Nat) (z : List Value × α), r[i]? = some z → (match r[i]? with | some z => z.1 | none => []) = z.1 := fun i z hz => by rw [hz]
      rw [← hlen]
      refine .lst (some ⟨b, o, none⟩) cap false n _ (fun i => match r[i]? with | some z => z.1 | none => []) (by omega) (by have : maxLen = 9223372036854775807 := rfl; omega) (fun hh => by cases hh) (fun A hA => by cases hA; rfl) (fun hh => by cases hh) (fun i x hx => ?_) (fun i x hx => ?_) (fun i x j d c hx => ?_)
      · obtain ⟨z, hz, rfl⟩ := key i x hx
        refine ⟨b, o, rfl, ?_⟩
        rw [hd2 i z hz]
        exact (hr3 i z hz).2.1
      · obtain ⟨z, hz, rfl⟩ := key i x hx
        rw [hd2 i z hz]
        exact ⟨(hr3 i z hz).2.2.l1, (hr3 i z hz).2.2.l2, (hr3 i z hz).2.2.one⟩
      · obtain ⟨z, hz, rfl⟩ := key i x hx
        rw [hd2 i z hz]
        exact (hr3 i z hz).2.2.rd j d c
theorem kind_range {k : IntKind} {n : Int} (h : (Lit.int k n).wf = true) : k.min ≤ n ∧ n ≤ k.max := by
  simpa [Lit.wf] using h
theorem rd_int {t : TypeId} {k : IntKind} (ht : P.underlying t = some (.int k)) {fuel : Nat} {cs : List Value} {x : DataW H × List MemPlace} (h : DataW.trod enc P w 0 sp held fuel t cs = some x) : ∃ n : Int, cs = [.int k n] ∧ (k.min ≤ n ∧ n ≤ k.max) ∧ CellsP w.mem 1 cs (.int k n) := by
  obtain ⟨n, rfl, _, hw⟩ := DataW.trod_int ht h
  refine ⟨n, rfl, kind_range hw, rfl, rfl, fun d hd => by simp at hd; subst hd; rfl, fun j d c h1 h2 => ?_⟩
  cases j with
  | zero => simp [PV.cells] at h1 h2; subst h1 h2; exact .int k n
  | succ j => simp at h1
theorem rd_bool {t : TypeId} (ht : P.underlying t = some .bool) {fuel : Nat} {cs : List Value} {x : DataW H × List MemPlace} (h : DataW.trod enc P w 0 sp held fuel t cs = some x) : ∃ b : Bool, cs = [.bool b] ∧ CellsP w.mem 1 cs (.bool b) := by
  obtain ⟨n, rfl, _⟩ := DataW.trod_bool ht h
  refine ⟨n, rfl, rfl, rfl, fun d hd => by simp at hd; subst hd; rfl, fun j d c h1 h2 => ?_⟩
  cases j with
  | zero => simp [PV.cells] at h1 h2; subst h1 h2; exact .bool n
  | succ j => simp at h1
/-- The arguments read behind the call as before. -/
theorem args_again (hl : laidOutB P = true) (hm : mapsRowed P = true) (hfull : ((List.range P.types.size).all fun t => match P.underlying t with | some (.slice e) => decide (0 < P.cellsOf e) | _ => true) = true) {ts : List TypeId} (hts : ∀ t ∈ ts, t < P.types.size)
    {vs : List Value} {ds : List (DataW H)} {p : List MemPlace} (h : DataW.TrodAll enc P W 0 (fun _ => true) true ts vs ds p) (hp : ∀ x ∈ p, sp x.block = true) (hk : Keep [] W W') : DataW.TrodAll enc P W' 0 sp true ts vs ds p := by
  have h1 := DataW.TrodAll.respare (kids_rows hl hm) (slices_full_of P hfull) hts h hp
  clear h hp
  induction ts generalizing vs ds p with
  | nil => 
    obtain ⟨rfl, rfl, rfl⟩ := trodAll_nil h1
    exact trodAll_mk0
  | cons t ts ih =>
    obtain ⟨v, vs', d, ds', a, b, rfl, rfl, rfl, ⟨n, hn⟩, h2⟩ := trodAll_cons h1
    refine ⟨a, b, ⟨n, DataW.trod_carry n _ _ _ hn fun x hx => ?_⟩, ih (fun t ht => hts t (by simp [ht])) h2, rfl⟩
    have hlt := DataW.trod_lt n _ _ _ hn x hx
    cases x with
    | cell b o =>
      show W'.cell? _ = W.cell? _
      unfold World.cell?
      rw [hk.block b hlt (by simp)]
    | map b =>
      show W'.heap[b]? = W.heap[b]?
      rw [hk.block b hlt (by simp)]
/-- What a law leaves. -/
theorem post_law {f : Func} {s : ChangeSpec} {args : Array Value} {ds gs : List (DataW H)} {before : List MemPlace} {tb : TypeId} (hl : laidOutB P = true) (hm : mapsRowed P = true) (hfull : ((List.range P.types.size).all fun t => match P.underlying t with | some (.slice e) => decide (0 < P.cellsOf e) | _ => true) = true)
    (hts : ∀ t ∈ f.params.toList, t < P.types.size) (hvars : s.vars = []) (hs : s.fn H (ds ++ gs) = { results := [.lit (.bool true)], args := ds }) (hres : f.resultTypes = #[tb]) (htb : P.underlying tb = some .bool)
    (hW : DataW.Whole enc P f.params.toList s.vars false W args.toList ds gs before) (hk : Keep [] W W') : s.post enc P f false true false false W args (.bool true) W' := by
  have hW' := hW
  obtain ⟨p, q, hA, hV, rfl, hfz, hnd⟩ := hW
  rw [hvars] at hV
  obtain ⟨rfl, rfl⟩ := trodVars_none hV
  refine post_keep (pa := p) (pv := []) hW' (fun b sp hd => ?_) (fun sp hsp => ?_) (fun sp hsp => ?_) rfl hk ?_
  · rw [hs, hres]
    exact trodAll_cons_mk (shut_bool htb _) trodAll_mk0
  · rw [hs]
    exact args_again hl hm hfull hts hA (fun x hx => hsp x (by simp [hx])) hk
  · rw [hs, hvars]
    rfl
  · intro j t r h1 h2
    rw [hres] at h1 h2
    exact ok_one (f := f) hres rfl (okWide_bool_mk htb _) j t r (by rw [hres]; exact h1) (by rw [hres]; exact h2)
end
end Go.Proofs.Ytohhjnpiiackjaa
/-! The arguments of a law, read as plain values: slices that lie in memory (slices in slices). Over any program. -/
namespace Go.Proofs.Ytohhjnpiiackjaa
open Go.RowKit Go.ChangeShapes Go.WideShapes Go.Deep
section
variable {H : Type} {enc : TypeId × Value → H} {P : Program} {w W W' : World} {sp : Nat → Bool} {held : Bool}
/-- As rd_slice, wherever the slice lies: what is read tells that the address is plain; of an empty slice nothing is asked. -/
theorem rd_slice2 {α : Type} {t e : TypeId} {n : Nat} (f : α → PV) (Q : α → Prop) (ht : P.underlying t = some (.slice e)) (hn : P.cellsOf e = n) (hn0 : 0 < n) {fuel : Nat} {v : Value} {x : DataW H × List MemPlace} (h : DataW.trod enc P w 0 sp held fuel t [v] = some x)
    (he : ∀ (k : Nat) (cs : List Value) (y : DataW H × List MemPlace), DataW.trod enc P w 0 sp held k e cs = some y → cs.length = n → ∃ a : α, Q a ∧ CellsP w.mem n cs (f a)) :
    ∃ l : List α, (∀ a ∈ l, Q a) ∧ l.length ≤ 9223372036854775807 ∧ RdP w.mem v (.lst false n (l.map f)) := by
  by_cases hv : ∃ a cap, v = .slice (some a) 0 cap ∧ cap ≤ maxLen
  · obtain ⟨a, cap, rfl, hc⟩ := hv
    refine ⟨[], fun a ha => by simp at ha, by simp, ?_⟩
    have hc' : cap ≤ 9223372036854775807 := by have : maxLen = 9223372036854775807 := rfl; omega
    exact .lst (some a) cap false n [] (fun _ => []) (by simp) hc' (fun e => by cases e) (fun _ _ => rfl) (fun hh => by cases hh) (fun i x hx => by simp at hx) (fun i x hx => by simp at hx) (fun i x j d c hx => by simp at hx)
  · refine rd_slice f Q ht hn h (fun a len cap e => ?_) he
    subst e
    rcases open_slice ht h with ⟨h0, _⟩ | ⟨a', len', cap', m, k, D, Pl, h0, _, hl, hc, hm, _, hx⟩
    · simp at h0
    · simp at h0
      obtain ⟨rfl, rfl, rfl⟩ := h0
      have hlen : 0 < len := by
        rcases Nat.eq_zero_or_pos len with e | e
        · subst e; exact absurd ⟨a, cap, rfl, hc⟩ hv
        · exact e
      have hml : len ≤ m := by rw [hm]; split <;> omega
      obtain ⟨cs, h1, _⟩ := hx 0 (by omega)
      obtain ⟨_, h2, h3⟩ := World.cells?_some h1
      have h4 := h3 0 (by omega)
      rw [List.getElem?_eq_getElem (by omega)] at h4
      have := World.cell?_spot h4
      simpa [Addr.add] using this
end
end Go.Proofs.Ytohhjnpiiackjaa
/-! Stepping through L-code: one operation at a time. Over any program. -/
namespace Go.Proofs.Ytohhjnpiiackjaa
open Go.RowKit
/-- Of plain values, a plain value. -/
def Gives (P : Program) (f : FuncId) (xs : List PV) (y : PV) : Prop := CallsA P f (xs.map .pv) [] (fun r B => r = .pv y ∧ B = [])
/-- What is to come: not looked into till the state stands. -/
def hold (K : AS → Prop) : AS → Prop := K
/-- An operation that was carried out, or else what it comes to. -/
def osel (r : Option (AV × AS)) (l : LOp) (d : Nat) (K : AV → AS → Prop) (σ : AS) : Prop := match r with
  | some (a, τ) => K a τ
  | none => opWp l d K σ
def runS (P : Program) (o : LO) (K : AV → AS → Prop) (σ : AS) : Prop := match o.op with
  | .call _ _ => runWp P o K σ
  | l => osel (opR l (o.dst.getD 0) σ) l (o.dst.getD 0) K σ
def gsel (P : Program) (a : Option AV) (want : Bool) (o : LO) (K : AS → Prop) (σ : AS) : Prop := match a with
  | some (.pv (.bool b)) => if b = want then runS P o (fun a τ => K (τ.putO o.dst a)) σ else K (σ.putO o.dst und)
  | some (.pv (.tup [])) => K (σ.putO o.dst und)
  | _ => False
def loS (P : Program) (o : LO) (K : AS → Prop) (σ : AS) : Prop := match o.g with
  | none => runS P o (fun a τ => K (τ.putO o.dst a)) σ
  | some (t, want) => gsel P (σ.t t) want o K σ
def opsS (P : Program) : List LO → (AS → Prop) → AS → Prop
  | [], K, σ => K σ
  | o :: r, K, σ => loS P o (hold (opsS P r K)) σ
def opsTS (P : Program) : LT → (AS → Prop) → AS → Prop
  | .done, K, σ => K σ
  | .op o t, K, σ => loS P o (hold (opsTS P t K)) σ
  | .alt o t r, K, σ => loS P o (hold (opsTS P t K)) σ ∧ opsTS P r K σ
  | .no, _, _ => True
  | .seq t r, K, σ => ∃ J : AS → Prop, opsTS P t (fun τ' => ∃ τ, Sub τ τ' ∧ J τ) σ ∧ ∀ τ, J τ → opsTS P r K τ
def csel (a : AV) (A B : AS → Prop) (σ : AS) : Prop := match a with
  | .pv (.bool true) => A σ
  | .pv (.bool false) => B σ
  | _ => False
def awpS (P : Program) : LCode → (AEx → AS → Prop) → AS → Prop
  | .skip, Q, σ => Q .normal σ
  | .region ops, Q, σ => opsS P ops (Q .normal) σ
  | .regT t, Q, σ => opsTS P t (Q .normal) σ
  | .seq a b, Q, σ => awpS P a (thenA (hold (awpS P b Q)) Q) σ
  | .cond c a b, Q, σ => csel (σ.o c) (hold (awpS P a Q)) (hold (awpS P b Q)) σ
  | .block id c, Q, σ => awpS P c (blockA id Q) σ
  | .loop c, Q, σ => ∃ (I : Nat → AS → Prop) (n : Nat) (τ : AS), Sub τ σ ∧ I n τ ∧ ∀ n τ, I n τ → awpS P c (thenA (again I n) Q) τ
  | .exit id, Q, σ => Q (.exit id) σ
  | .ret, Q, σ => Q .ret σ
  | .rng nt g C _ _ ps, Q, σ => rngWp P nt g C ps Q σ
section
variable {P : Program}
theorem osel_wp {l : LOp} {d : Nat} {K : AV → AS → Prop} {σ : AS} (h : osel (opR l d σ) l d K σ) : opWp l d K σ := by
  unfold osel at h
  split at h
  · rename_i e; exact opR_sound e h
  · exact h
theorem runS_wp {o : LO} {K : AV → AS → Prop} {σ : AS} (h : runS P o K σ) : runWp P o K σ := by
  unfold runS at h
  split at h
  · exact h
  · rename_i hne
    unfold runWp
    split
    · rename_i f args e; exact absurd e (hne f args)
    · exact osel_wp h
theorem loS_wp {o : LO} {K : AS → Prop} {σ : AS} (h : loS P o K σ) : loWp P o K σ := by
  unfold loS at h
  unfold loWp
  split at h
  · rename_i e; (try rw [e])
    exact runS_wp h
  · rename_i t want e
    (try rw [e])
    (try dsimp only)
    unfold gsel at h
    split at h
    · rename_i b hb
      (try rw [hb])
      (try dsimp only)
      split at h
      · rename_i e2; rw [if_pos e2]; exact runS_wp h
      · rename_i e2; rw [if_neg e2]; exact h
    · rename_i hb; (try rw [hb]); exact h
    · exact h.elim
theorem opsS_wp : ∀ {l : List LO} {K : AS → Prop} {σ : AS}, opsS P l K σ → opsWp P l K σ
  | [], K, σ, h => h
  | o :: r, K, σ, h => loWp_mono (fun τ q => Clo.of (opsS_wp q)) (loS_wp h)
theorem opsTS_wp : ∀ {l : LT} {K : AS → Prop} {σ : AS}, opsTS P l K σ → opsT P l K σ
  | .done, K, σ, h => h
  | .op o t, K, σ, h => loWp_mono (fun τ q => opsTS_wp q) (loS_wp h)
  | .alt o t r, K, σ, h => ⟨loWp_mono (fun τ q => opsTS_wp q) (loS_wp h.1), opsTS_wp h.2⟩
  | .no, K, σ, h => trivial
  | .seq t r, K, σ, ⟨J, h1, h2⟩ => ⟨J, opsTS_wp h1, fun τ hJ => opsTS_wp (h2 τ hJ)⟩
theorem awpS_wp : ∀ {c : LCode} {Q : AEx → AS → Prop} {σ : AS}, awpS P c Q σ → awp P c Q σ
  | .skip, Q, σ, h => h
  | .region ops, Q, σ, h => opsS_wp h
  | .regT t, Q, σ, h => opsTS_wp h
  | .seq a b, Q, σ, h => by
    have h' : awpS P a (thenA (hold (awpS P b Q)) Q) σ := h
    show awp P a (thenA (awp P b Q) Q) σ
    refine awp_mono (awpS_wp h') (fun e τ q => ?_)
    cases e with
    | normal =>
      have q' : awpS P b Q τ := q
      exact awpS_wp q'
    | exit id => exact q
    | ret => exact q
  | .cond c a b, Q, σ, h => by
    have h' : csel (σ.o c) (hold (awpS P a Q)) (hold (awpS P b Q)) σ := h
    unfold csel at h'
    unfold awp
    split at h'
    · rename_i e; rw [e]; exact awpS_wp (c := a) h'
    · rename_i e; rw [e]; exact awpS_wp (c := b) h'
    · exact h'.elim
  | .block id c, Q, σ, h => awpS_wp (c := c) h
  | .loop c, Q, σ, ⟨I, n, τ, h1, h2, h3⟩ => ⟨I, n, τ, h1, h2, fun n τ hI => awpS_wp (c := c) (h3 n τ hI)⟩
  | .exit id, Q, σ, h => h
  | .ret, Q, σ, h => h
  | .rng _ _ _ _ _ _, Q, σ, h => h
theorem calls_of_awpS {f : FuncId} {F : LFn} {args : List AV} {B : List (Site × Box)} {R : AV → List (Site × Box) → Prop} (hm : P.follows .mixedOrders = true) (hf : litF P f = some F) (hn : args.length ≤ F.nt)
    (h : awpS P F.code (finQ (retF F.res R)) ⟨initT 0 args, B⟩) : CallsA P f args B R := calls_of_awp hm hf hn (awpS_wp h)
/-- A loop: I k τ: the states at its head, with what is left of the measure. -/
theorem awp_loopS {c : LCode} {Q : AEx → AS → Prop} {σ : AS} (I : Nat → AS → Prop) (h0 : ∃ n τ, Sub τ σ ∧ I n τ) (round : ∀ J : Nat → AS → Prop, (∀ k τ, I k τ → J k τ) → ∀ n τ, I n τ → awpS P c (thenA (again J n) Q) τ) : awpS P (.loop c) Q σ :=
  let ⟨n, τ, h1, h2⟩ := h0; ⟨I, n, τ, h1, h2, fun n τ h => round I (fun _ _ h => h) n τ h⟩
end
section
variable {P : Program} {σ : AS} {K : AS → Prop} {Q : AEx → AS → Prop} {tm : List (Nat × AV)} {bx : List (Site × Box)}
/-- (Not by rfl: else the kernel would carry out all of a region to compare its two ends.) -/
theorem hold_mk : hold K ⟨tm, bx⟩ = K ⟨tm, bx⟩ := propext ⟨fun h => h, fun h => h⟩
theorem put_mk {d : Nat} {a : AV} : AS.put d a ⟨tm, bx⟩ = ⟨(d, a) :: tm, bx⟩ := rfl
theorem putO_mk {d : Nat} {a : AV} : AS.putO (some d) a ⟨tm, bx⟩ = ⟨(d, a) :: tm, bx⟩ := rfl
theorem putO_none {a : AV} : AS.putO none a ⟨tm, bx⟩ = ⟨tm, bx⟩ := rfl
theorem add_mk {s : Site} {b : Box} : AS.add s b ⟨tm, bx⟩ = ⟨tm, (s, b) :: bx⟩ := rfl
theorem set_mk {s : Site} {b : Box} : AS.set s b ⟨tm, bx⟩ = ⟨tm, (s, b) :: bx⟩ := rfl
theorem drop_mk {s : Site} : AS.drop s ⟨tm, bx⟩ = ⟨tm, bx.filter fun p => !decide (p.1 = s)⟩ := rfl
theorem purge_mk {d : Nat} : AS.purge d ⟨tm, bx⟩ = ⟨tm.map fun p => (p.1, p.2.purge d), (bx.filter fun p => !p.1.isLoc d).map fun p => (p.1, p.2.purge d)⟩ := rfl
theorem opsS_nil : opsS P [] K σ = K σ := propext ⟨fun h => h, fun h => h⟩
theorem opsS_cons {o : LO} {r : List LO} : opsS P (o :: r) K σ = loS P o (hold (opsS P r K)) σ := rfl
theorem ltS_done : opsTS P .done K σ = K σ := rfl
theorem ltS_op {o : LO} {t : LT} : opsTS P (.op o t) K σ = loS P o (hold (opsTS P t K)) σ := rfl
theorem loS_n {d : Option Nat} {op : LOp} {lt : Bool} : loS P ⟨d, none, op, lt⟩ K σ = runS P ⟨d, none, op, lt⟩ (fun a τ => K (τ.putO d a)) σ := rfl
theorem loS_g {d : Option Nat} {t : Nat} {want : Bool} {op : LOp} {lt : Bool} : loS P ⟨d, some (t, want), op, lt⟩ K σ = gsel P (σ.t t) want ⟨d, some (t, want), op, lt⟩ K σ := rfl
theorem gsel_b {b want : Bool} {o : LO} : gsel P (some (.pv (.bool b))) want o K σ = if b = want then runS P o (fun a τ => K (τ.putO o.dst a)) σ else K (σ.putO o.dst und) := rfl
theorem gsel_tt {o : LO} : gsel P (some (.pv (.bool true))) true o K σ = runS P o (fun a τ => K (τ.putO o.dst a)) σ := rfl
theorem gsel_ff {o : LO} : gsel P (some (.pv (.bool false))) false o K σ = runS P o (fun a τ => K (τ.putO o.dst a)) σ := rfl
theorem gsel_tf {o : LO} : gsel P (some (.pv (.bool true))) false o K σ = K (σ.putO o.dst und) := rfl
theorem gsel_ft {o : LO} : gsel P (some (.pv (.bool false))) true o K σ = K (σ.putO o.dst und) := rfl
theorem gsel_u {want : Bool} {o : LO} : gsel P (some (.pv (.tup []))) want o K σ = K (σ.putO o.dst und) := rfl
theorem osel_some {a : AV} {τ : AS} {l : LOp} {d : Nat} {K : AV → AS → Prop} : osel (some (a, τ)) l d K σ = K a τ := rfl
theorem csel_t {A B : AS → Prop} : csel (.pv (.bool true)) A B σ = A σ := propext ⟨fun h => h, fun h => h⟩
theorem csel_f {A B : AS → Prop} : csel (.pv (.bool false)) A B σ = B σ := propext ⟨fun h => h, fun h => h⟩
theorem awpS_skip : awpS P .skip Q σ = Q .normal σ := propext ⟨fun h => h, fun h => h⟩
theorem awpS_region {ops : List LO} : awpS P (.region ops) Q σ = opsS P ops (Q .normal) σ := rfl
theorem awpS_regT {t : LT} : awpS P (.regT t) Q σ = opsTS P t (Q .normal) σ := rfl
theorem awpS_seq {a b : LCode} : awpS P (.seq a b) Q σ = awpS P a (thenA (hold (awpS P b Q)) Q) σ := rfl
theorem awpS_cond {c : Opd} {a b : LCode} : awpS P (.cond c a b) Q σ = csel (σ.o c) (hold (awpS P a Q)) (hold (awpS P b Q)) σ := rfl
theorem awpS_block {id : Nat} {c : LCode} : awpS P (.block id c) Q σ = awpS P c (blockA id Q) σ := rfl
theorem awpS_exit {id : Nat} : awpS P (.exit id) Q σ = Q (.exit id) σ := propext ⟨fun h => h, fun h => h⟩
theorem awpS_ret : awpS P .ret Q σ = Q .ret σ := propext ⟨fun h => h, fun h => h⟩
theorem thenA_n : thenA K Q .normal σ = K σ := propext ⟨fun h => h, fun h => h⟩
theorem thenA_e {i : Nat} : thenA K Q (.exit i) σ = Q (.exit i) σ := propext ⟨fun h => h, fun h => h⟩
theorem thenA_r : thenA K Q .ret σ = Q .ret σ := propext ⟨fun h => h, fun h => h⟩
theorem blockA_n {i : Nat} : blockA i Q .normal σ = Q .normal σ := propext ⟨fun h => h, fun h => h⟩
theorem blockA_r {i : Nat} : blockA i Q .ret σ = Q .ret σ := propext ⟨fun h => h, fun h => h⟩
theorem blockA_e {i j : Nat} : blockA i Q (.exit j) σ = if j = i then Q .normal σ else Q (.exit j) σ := propext ⟨fun h => h, fun h => h⟩
theorem finQ_n {F : AS → Prop} : finQ F .normal σ = F σ := propext ⟨fun h => h, fun h => h⟩
theorem finQ_r {F : AS → Prop} : finQ F .ret σ = F σ := propext ⟨fun h => h, fun h => h⟩
/-- A call of plain values that answers a flat value. -/
theorem call_gives {f : Opd} {args : List Opd} {d : Nat} {K : AV → AS → Prop} {k : Nat} {g : FuncId} {fs xs cs : List PV} {y : PV} (h1 : (σ.o f).snap σ k = some (.fn g fs cs)) (h2 : snapW (AV.snap σ k) (args.map σ.o) = some xs)
    (hc : Gives P g (fs ++ xs ++ cs) y) (hy : y.flat = true) (hK : K (.pv y) σ) {X : Prop} : callWp P f args d K σ ∨ X :=
  .inl (call_flat h1 h2 (hc.mono (fun _ _ h => h.1)) hy hK)
end
theorem gl0 {α : Type} {a : α} {l : List α} : (a :: l)[0]? = some a := rfl
theorem gl1 {α : Type} {a b : α} {l : List α} : (a :: b :: l)[1]? = some b := rfl
theorem gl2 {α : Type} {a b c : α} {l : List α} : (a :: b :: c :: l)[2]? = some c := rfl
theorem gl3 {α : Type} {a b c d : α} {l : List α} : (a :: b :: c :: d :: l)[3]? = some d := rfl
attribute [simp] gl0 gl1 gl2 gl3 List.getElem?_cons_succ
theorem natI_nat {n : Nat} : natI (n : Int) = some n := natI_iff.2 rfl
theorem natI_succ {n : Nat} : natI ((n : Int) + 1) = some (n + 1) := natI_iff.2 (by omega)
theorem natI_0 : natI 0 = some 0 := rfl
theorem natI_1 : natI 1 = some 1 := rfl
theorem natI_2 : natI 2 = some 2 := rfl
attribute [simp] natI_nat natI_succ natI_0 natI_1 natI_2
theorem wrap64 {x : Int} (h : -9223372036854775808 ≤ x ∧ x ≤ 9223372036854775807) : IntKind.i64.wrap x = x := by rw [IntKind.wrap_i64]; omega
theorem site_ll {a b c d : Nat} : (Site.loc a b == Site.loc c d) = (a == c && b == d) := by rw [Bool.eq_iff_iff]; simp
theorem site_pp {a c : Nat} : (Site.par a == Site.par c) = (a == c) := by rw [Bool.eq_iff_iff]; simp
theorem site_rr {a c : Nat} : (Site.ret a == Site.ret c) = (a == c) := by rw [Bool.eq_iff_iff]; simp
theorem site_lp {a b c : Nat} : (Site.loc a b == Site.par c) = false := rfl
theorem site_pl {a b c : Nat} : (Site.par c == Site.loc a b) = false := rfl
theorem site_lr {a b c : Nat} : (Site.loc a b == Site.ret c) = false := rfl
theorem site_rl {a b c : Nat} : (Site.ret c == Site.loc a b) = false := rfl
theorem site_pr {a c : Nat} : (Site.par a == Site.ret c) = false := rfl
theorem site_rp {a c : Nat} : (Site.ret a == Site.par c) = false := rfl
attribute [simp] site_ll site_pp site_rr site_lp site_pl site_lr site_rl site_pr site_rp
attribute [simp] hold_mk put_mk putO_mk putO_none add_mk set_mk drop_mk purge_mk opsS_nil opsS_cons ltS_done ltS_op loS_n loS_g gsel_tt gsel_ff gsel_tf gsel_ft gsel_u gsel_b osel_some csel_t csel_f awpS_skip awpS_region awpS_regT awpS_seq awpS_cond awpS_block awpS_exit awpS_ret thenA_n thenA_e thenA_r blockA_n blockA_r blockA_e finQ_n finQ_r
attribute [simp] runS runWp opR opXR AS.purgeF_eq AS.bF_eq AS.o AS.t AS.b AV.purge AV.has AV.hasL AV.cells PV.cells AV.wide AV.one initT List.lookup binI binB retF AS.resA AS.res1 ofTup ofCells unpvs splice subT subB AS.cont AS.ob AS.pvs AS.frzs AS.frzA AS.frz1 und okCells fillA KT.ok ckAll CK.ok eqK eqL eqC
end Go.Proofs.Ytohhjnpiiackjaa
/-! Stepping: functions that hand boxes back; calls that are lent boxes. Over any program. -/
namespace Go.Proofs.Ytohhjnpiiackjaa
open Go.RowKit
attribute [local simp] Box.purge Site.isLoc
section
variable {P : Program} {σ : AS} {K : AV → AS → Prop}
def outsOk (σ : AS) : List Site → Prop
  | [] => True
  | s :: r => (∃ b, σ.b s = some b ∧ b.allS noRet = true) ∧ outsOk σ r
theorem outsOk_get : ∀ {l : List Site}, outsOk σ l → ∀ s ∈ l, ∀ b, σ.b s = some b → b.allS noRet = true
  | [], _, s, hs, _, _ => by cases hs
  | t :: r, h, s, hs, b, hb => by
    rcases List.mem_cons.1 hs with rfl | hs
    · obtain ⟨b', h1, h2⟩ := h.1
      rw [hb] at h1; cases h1; exact h2
    · exact outsOk_get h.2 s hs b hb
/-- What is handed back, with the boxes outs. -/
def retB (outs : List Site) (rs : List LRes) (R : AV → List (Site × Box) → Prop) (σ : AS) : Prop :=
  ∃ l, σ.resA rs = some l ∧ (ofTup l).allS noRet = true ∧ outs.all noRet = true ∧ outsOk σ outs ∧ R ((ofTup l).map (expG outs)) (σ.exp outs outs)
theorem retB_wp {outs : List Site} {rs : List LRes} {R : AV → List (Site × Box) → Prop} {σ : AS} (h : retB outs rs R σ) : retWp rs R σ := by
  obtain ⟨l, h1, h2, h3, h4, h5⟩ := h
  exact ⟨[], outs, l, h1, h2, h3, fun s hs b hb => outsOk_get h4 s hs b hb, h5⟩
theorem calls_of_awpB (outs : List Site) {f : FuncId} {F : LFn} {args : List AV} {B : List (Site × Box)} {R : AV → List (Site × Box) → Prop} (hm : P.follows .mixedOrders = true) (hf : litF P f = some F) (hn : args.length ≤ F.nt)
    (h : awpS P F.code (finQ (retB outs F.res R)) ⟨initT 0 args, B⟩) : CallsA P f args B R := calls_of_awp_gen hm hf hn (fun _ h => retB_wp h) (awpS_wp h)
/-- A call that is lent boxes. -/
theorem call_lent (d : Nat) (lent : List Site) {f : Opd} {args : List Opd} {d0 : Nat} {g : FuncId} {fs cs : List AV} {B : List (Site × Box)} {as' : List AV} {R : AV → List (Site × Box) → Prop} (h1 : fnOf (σ.o f) = some (g, fs, cs)) (h2 : nodupB lent = true) (h3 : lent.all (fun s => !s.isLoc d) = true)
    (hB : lentBx σ lent 0 lent = some B) (h4 : AV.allSL (fun x => lent.contains x) (fs ++ args.map σ.o ++ cs) = true) (ha : AV.mapL (inG lent) (fs ++ args.map σ.o ++ cs) = as') (hC : CallsA P g as' B R)
    (hK : ∀ r B', R r B' → r.allS (outOk lent) = true ∧ (∀ p ∈ B', outOk lent p.1 = true ∧ p.2.allS (outOk lent) = true) ∧ K (r.map (outG lent d)) (((dropL lent σ).purge d).adds (renL lent d B'))) :
    callWp P f args d0 K σ ∨ (callLwp P f args K σ ∨ callYwp P f args K σ) := by
  refine .inr (.inl ⟨d, [], lent, g, fs, cs, B, ?_, nodupB_spec h2, h3, hB, h4, ?_⟩)
  · unfold fnOf at h1
    split at h1
    · rename_i e; cases h1; exact .inl e
    · rename_i fs' cs' e; cases h1; exact .inr ⟨fs', cs', e, rfl, rfl⟩
    · cases h1
  · have : (fs ++ args.map (frzsL [] σ).o ++ cs) = fs ++ args.map σ.o ++ cs := rfl
    rw [this, ha]
    exact hC.mono hK
theorem call_give {f : Opd} {args : List Opd} {d : Nat} {K : AV → AS → Prop} {k : Nat} {g : FuncId} {fs xs cs : List PV} {y : PV} (h1 : (σ.o f).snap σ k = some (.fn g fs cs)) (h2 : snapW (AV.snap σ k) (args.map σ.o) = some xs)
    (hc : Gives P g (fs ++ xs ++ cs) y) (hy : y.flat = true) (hK : K (.pv y) σ) : callWp P f args d K σ := call_flat h1 h2 (hc.mono (fun _ _ h => h.1)) hy hK
end
end Go.Proofs.Ytohhjnpiiackjaa
/-! Stepping with the boxes of somebody else's loop among one's own. Over any program. -/
namespace Go.Proofs.Ytohhjnpiiackjaa
open Go.RowKit
attribute [local simp] Box.purge Site.isLoc
def parsN (n : Nat) : List Site := (List.range n).map .par
def laid : Nat → List Box → List (Site × Box)
  | _, [] => []
  | i, b :: r => (.par i, b) :: laid (i + 1) r
def Site.lt (n : Nat) : Site → Bool
  | .par i => decide (i < n)
  | _ => false
def closedB (n : Nat) (L : List Box) : Prop := ∀ b ∈ L, b.allS (Site.lt n) = true
theorem parsN_mem {n : Nat} {s : Site} : s ∈ parsN n ↔ s.lt n = true := by
  unfold parsN
  rw [List.mem_map]
  constructor
  · rintro ⟨i, hi, rfl⟩; simpa [Site.lt] using hi
  · intro h
    cases s with
    | par i => exact ⟨i, by simpa [Site.lt] using h, rfl⟩
    | loc d j => cases h
    | ret j => cases h
theorem parsN_contains {n : Nat} {s : Site} : (parsN n).contains s = s.lt n := by
  rw [Bool.eq_iff_iff, List.contains_iff_mem]; exact parsN_mem
theorem parsN_get {n i : Nat} (h : i < n) : (parsN n)[i]? = some (.par i) := by simp [parsN, h]
theorem parsN_nodup {n : Nat} : (parsN n).Nodup := by
  unfold parsN
  rw [List.nodup_iff_pairwise_ne, List.pairwise_map]
  exact List.Pairwise.imp (fun h e => h (by cases e; rfl)) (List.nodup_iff_pairwise_ne.1 List.nodup_range)
theorem parsN_idx {n i : Nat} (h : i < n) : (parsN n).findIdx? (fun x => decide (x = .par i)) = some i := by
  obtain ⟨j, h1, h2⟩ := inG_mem (lent := parsN n) (s := .par i) (parsN_mem.2 (by simpa [Site.lt] using h))
  rw [h1]
  have hj : j < n := by
    have := (List.getElem?_eq_some_iff.1 h2).1
    simpa [parsN] using this
  rw [parsN_get hj] at h2
  cases h2; rfl
theorem parsN_idx0 {n : Nat} {s : Site} (h : s.lt n = false) : (parsN n).findIdx? (fun x => decide (x = s)) = none := by
  rw [List.findIdx?_eq_none_iff]
  intro x hx
  rw [parsN_mem] at hx
  have : x ≠ s := fun e => by rw [e, h] at hx; cases hx
  simpa using this
theorem inG_parsN (n : Nat) : inG (parsN n) = id := by
  funext s
  unfold inG
  cases hs : s.lt n with
  | true =>
    cases s with
    | par i => rw [parsN_idx (by simpa [Site.lt] using hs)]; rfl
    | loc d j => cases hs
    | ret j => cases hs
  | false => rw [parsN_idx0 hs]; rfl
theorem outG_parsN {n d : Nat} {s : Site} (h : s.lt n = true) : outG (parsN n) d s = s := by
  cases s with
  | par i => show (parsN n).getD i default = _; rw [List.getD_eq_getElem?_getD, parsN_get (by simpa [Site.lt] using h)]; rfl
  | loc d j => cases h
  | ret j => cases h
theorem expG_parsN (n : Nat) : expG (parsN n) = id := by
  funext s
  unfold expG
  cases s with
  | par i => rfl
  | loc d j => dsimp only; rw [parsN_idx0 rfl]; rfl
  | ret j => dsimp only; rw [parsN_idx0 rfl]; rfl
mutual
theorem AV.map_fix {g : Site → Site} {q : Site → Bool} (hg : ∀ s, q s = true → g s = s) : ∀ a : AV, a.allS q = true → a.map g = a
  | .any, _ => rfl
  | .pv _, _ => rfl
  | .ptr _ _, h => by simp only [AV.map]; rw [hg _ h]
  | .elt _ _ _ _, h => by simp only [AV.map]; rw [hg _ h]
  | .vec _ _ _ _, h => by simp only [AV.map]; rw [hg _ h]
  | .mp _, h => by simp only [AV.map]; rw [hg _ h]
  | .yld _, h => by simp only [AV.map]; rw [hg _ h]
  | .fn f fs cs, h => by
    simp only [AV.allS, Bool.and_eq_true] at h
    simp only [AV.map, AV.mapL_fix hg fs h.1, AV.mapL_fix hg cs h.2]
  | .agg cs, h => by simp only [AV.map, AV.mapL_fix hg cs h]
  | .tup vs, h => by simp only [AV.map, AV.mapL_fix hg vs h]
theorem AV.mapL_fix {g : Site → Site} {q : Site → Bool} (hg : ∀ s, q s = true → g s = s) : ∀ l : List AV, AV.allSL q l = true → AV.mapL g l = l
  | [], _ => rfl
  | a :: r, h => by
    simp only [AV.allSL, Bool.and_eq_true] at h
    simp only [AV.mapL, AV.map_fix hg a h.1, AV.mapL_fix hg r h.2]
end
mutual
theorem AV.allS_imp {q q' : Site → Bool} (hq : ∀ s, q s = true → q' s = true) : ∀ a : AV, a.allS q = true → a.allS q' = true
  | .any, _ => rfl
  | .pv _, _ => rfl
  | .ptr _ _, h => hq _ h
  | .elt _ _ _ _, h => hq _ h
  | .vec _ _ _ _, h => hq _ h
  | .mp _, h => hq _ h
  | .yld _, h => hq _ h
  | .fn f fs cs, h => by
    simp only [AV.allS, Bool.and_eq_true] at h ⊢
    exact ⟨AV.allSL_imp hq fs h.1, AV.allSL_imp hq cs h.2⟩
  | .agg cs, h => AV.allSL_imp hq cs h
  | .tup vs, h => AV.allSL_imp hq vs h
theorem AV.allSL_imp {q q' : Site → Bool} (hq : ∀ s, q s = true → q' s = true) : ∀ l : List AV, AV.allSL q l = true → AV.allSL q' l = true
  | [], _ => rfl
  | a :: r, h => by
    simp only [AV.allSL, Bool.and_eq_true] at h ⊢
    exact ⟨AV.allS_imp hq a h.1, AV.allSL_imp hq r h.2⟩
end
theorem Box.allS_imp {q q' : Site → Bool} (hq : ∀ s, q s = true → q' s = true) {b : Box} (h : b.allS q = true) : b.allS q' = true := by
  cases b with
  | cells as => exact AV.allSL_imp hq as h
  | loop C ps nt tm st => exact AV.allSL_imp hq _ h
  | arr e n xs => rfl
  | map es => rfl
  | ext E => rfl
  | rows e e2 n els =>
    refine List.all_eq_true.2 (fun el hel => ?_)
    have := List.all_eq_true.1 h el hel
    cases el with
    | av a => exact AV.allS_imp hq a this
    | own xs => rfl
theorem Box.ren_fix {g : Site → Site} {q : Site → Bool} (hg : ∀ s, q s = true → g s = s) {b : Box} (h : b.allS q = true) : b.ren g = b := by
  cases b with
  | cells as => simp only [Box.ren]; rw [AV.mapL_fix hg as h]
  | loop C ps nt tm st =>
    simp only [Box.ren]
    congr 1
    have h' : ∀ p ∈ tm, p.2.allS q = true := fun p hp => by
      obtain ⟨i, hi⟩ := List.mem_iff_getElem?.1 hp
      exact allSL_get (i := i) h (by rw [List.getElem?_map, hi]; rfl)
    clear h
    induction tm with
    | nil => rfl
    | cons p r ih =>
      simp only [List.map_cons]
      rw [AV.map_fix hg p.2 (h' p (by simp)), ih (fun x hx => h' x (by simp [hx]))]
  | arr e n xs => rfl
  | map es => rfl
  | ext E => rfl
  | rows e e2 n els =>
    simp only [Box.ren]
    congr 1
    rw [List.map_congr_left (g := id) (fun el hel => ?_), List.map_id]
    have := List.all_eq_true.1 h el hel
    cases el with
    | av a => show RowE.av _ = _; rw [AV.map_fix hg a this]; rfl
    | own xs => rfl
theorem Box.ren_id (b : Box) : b.ren id = b := by
  cases b with
  | cells as => simp only [Box.ren, mapL_id]
  | loop C ps nt tm st =>
    simp only [Box.ren, map_id']
    congr 1
    exact List.map_id tm
  | arr e n xs => rfl
  | map es => rfl
  | ext E => rfl
  | rows e e2 n els =>
    have : AV.map id = id := funext map_id'
    simp only [Box.ren, this, RowE.map_id, List.map_id]
theorem lt_outOk {n : Nat} {s : Site} (h : s.lt n = true) : outOk (parsN n) s = true := by
  cases s with
  | par i => simpa [outOk, parsN, Site.lt] using h
  | loc d j => cases h
  | ret j => rfl
theorem lt_noRet {n : Nat} {s : Site} (h : s.lt n = true) : noRet s = true := by
  cases s with
  | par i => rfl
  | loc d j => rfl
  | ret j => cases h
theorem laid_get : ∀ (L : List Box) (i j : Nat), (laid i L).lookup (.par (i + j)) = L[j]?
  | [], i, j => by simp [laid, List.lookup]
  | b :: r, i, 0 => by simp [laid, List.lookup]
  | b :: r, i, j + 1 => by
    rw [laid, lookup_cons_ne (by simp), show i + (j + 1) = (i + 1) + j by omega, laid_get r (i + 1) j]
    rfl
theorem laid_mem : ∀ (L : List Box) (i : Nat) (p : Site × Box), p ∈ laid i L → ∃ j, L[j]? = some p.2 ∧ p.1 = .par (i + j)
  | [], i, p, h => by simp [laid] at h
  | b :: r, i, p, h => by
    rcases List.mem_cons.1 h with rfl | h
    · exact ⟨0, rfl, rfl⟩
    · obtain ⟨j, h1, h2⟩ := laid_mem r (i + 1) p h
      exact ⟨j + 1, h1, by rw [h2]; congr 1; omega⟩
theorem has_lt {n d : Nat} : ∀ {s : Site}, s.lt n = true → s.isLoc d = false := fun {s} h => by
  cases s with
  | par i => rfl
  | loc d j => cases h
  | ret j => cases h
mutual
theorem AV.has_fix {d : Nat} {q : Site → Bool} (hg : ∀ s, q s = true → s.isLoc d = false) : ∀ a : AV, a.allS q = true → a.has d = false
  | .any, _ => rfl
  | .pv _, _ => rfl
  | .ptr _ _, h => by simp only [AV.has]; exact hg _ h
  | .elt _ _ _ _, h => by simp only [AV.has]; exact hg _ h
  | .vec _ _ _ _, h => by simp only [AV.has]; exact hg _ h
  | .mp _, h => by simp only [AV.has]; exact hg _ h
  | .yld _, h => by simp only [AV.has]; exact hg _ h
  | .fn f fs cs, h => by
    simp only [AV.allS, Bool.and_eq_true] at h
    simp only [AV.has, AV.hasL_fix hg fs h.1, AV.hasL_fix hg cs h.2]; rfl
  | .agg cs, h => by simp only [AV.has]; exact AV.hasL_fix hg cs h
  | .tup vs, h => by simp only [AV.has]; exact AV.hasL_fix hg vs h
theorem AV.hasL_fix {d : Nat} {q : Site → Bool} (hg : ∀ s, q s = true → s.isLoc d = false) : ∀ l : List AV, AV.allSL q l = true → AV.hasL d l = false
  | [], _ => rfl
  | a :: r, h => by
    simp only [AV.allSL, Bool.and_eq_true] at h
    simp only [AV.hasL, AV.has_fix hg a h.1, AV.hasL_fix hg r h.2]; rfl
end
theorem AV.purge_fix {n d : Nat} {a : AV} (h : a.allS (Site.lt n) = true) : a.purge d = a := by
  unfold AV.purge
  rw [AV.has_fix (fun s hs => has_lt hs) a h]; rfl
theorem Box.purge_fix {n d : Nat} {b : Box} (h : b.allS (Site.lt n) = true) : b.purge d = b := by
  cases b with
  | cells as =>
    simp only [Box.purge]
    congr 1
    have h' : ∀ a ∈ as, a.allS (Site.lt n) = true := fun a ha => by
      obtain ⟨i, hi⟩ := List.mem_iff_getElem?.1 ha
      exact allSL_get h hi
    clear h
    induction as with
    | nil => rfl
    | cons a r ih => rw [List.map_cons, AV.purge_fix (h' a (by simp)), ih (fun x hx => h' x (by simp [hx]))]
  | loop C ps nt tm st =>
    simp only [Box.purge]
    congr 1
    have h' : ∀ p ∈ tm, p.2.allS (Site.lt n) = true := fun p hp => by
      obtain ⟨i, hi⟩ := List.mem_iff_getElem?.1 hp
      exact allSL_get (i := i) h (by rw [List.getElem?_map, hi]; rfl)
    clear h
    induction tm with
    | nil => rfl
    | cons p r ih => rw [List.map_cons, AV.purge_fix (h' p (by simp)), ih (fun x hx => h' x (by simp [hx]))]
  | arr e n xs => rfl
  | map es => rfl
  | ext E => rfl
  | rows e e2 n' els =>
    simp only [Box.purge]
    congr 1
    rw [List.map_congr_left (g := id) (fun el hel => ?_), List.map_id]
    have := List.all_eq_true.1 h el hel
    cases el with
    | av a => show RowE.av _ = _; rw [AV.purge_fix this]; rfl
    | own xs => rfl
theorem laid_purge {n d : Nat} : ∀ {X : List Box} {i : Nat}, closedB n X → ((laid i X).filter fun p => !p.1.isLoc d).map (fun p => (p.1, p.2.purge d)) = laid i X
  | [], i, h => rfl
  | b :: r, i, h => by
    have hb := h b (by simp)
    have hr : closedB n r := fun x hx => h x (by simp [hx])
    rw [laid, List.filter_cons_of_pos (by rfl), List.map_cons, laid_purge hr, Box.purge_fix hb]
/-- The others' boxes leave. -/
theorem laid_out {m : Nat} : ∀ {X : List Box} {i : Nat}, i + X.length ≤ m → (laid i X).filter (fun p => !p.1.lt m) = []
  | [], i, h => rfl
  | b :: r, i, h => by
    rw [List.length_cons] at h
    rw [laid, List.filter_cons_of_neg (by simp [Site.lt]; omega), laid_out (by omega)]
theorem dropL_parsN {m : Nat} {tm : List (Nat × AV)} {bx : List (Site × Box)} : dropL (parsN m) ⟨tm, bx⟩ = ⟨tm, bx.filter fun p => !p.1.lt m⟩ := by
  have : ∀ (l : List Site) (bx : List (Site × Box)), dropL l ⟨tm, bx⟩ = ⟨tm, bx.filter fun p => !l.contains p.1⟩ := by
    intro l
    induction l with
    | nil => intro bx; show (⟨tm, bx⟩ : AS) = ⟨tm, _⟩; rw [List.filter_eq_self.2]; intro _ _; rfl
    | cons s r ih =>
      intro bx
      rw [dropL, AS.drop, ih, List.filter_filter]
      congr 1
      apply List.filter_congr
      intro p hp
      rw [List.contains_cons]
      by_cases e : p.1 = s
      · simp [e]
      · simp [e]
  rw [this]
  congr 1
  apply List.filter_congr
  intro p hp
  rw [parsN_contains]
/-- The lent boxes by their numbers. -/
theorem lentBx_laid {σ : AS} {n : Nat} : ∀ (r : List Site) (i : Nat) (L : List Box), (∀ j s, r[j]? = some s → s = Site.par (i + j)) → r.length = L.length → (∀ j b, L[j]? = some b → σ.b (.par (i + j)) = some b) → closedB n L →
    lentBx σ (parsN n) i r = some (laid i L)
  | [], i, [], _, _, _, _ => rfl
  | [], i, b :: L, _, h, _, _ => by simp at h
  | s :: r, i, [], _, h, _, _ => by simp at h
  | s :: r, i, b :: L, hs, hl, hb, hc => by
    have h0 : s = .par i := hs 0 s rfl
    have h1 := lentBx_laid r (i + 1) L (fun j s' e => by rw [hs (j + 1) s' (by simpa using e)]; congr 1; omega) (by simpa using hl) (fun j b' e => by rw [show i + 1 + j = i + (j + 1) by omega]; exact hb (j + 1) b' (by simpa using e)) (fun x hx => hc x (by simp [hx]))
    subst h0
    have h2 : σ.b (.par i) = some b := hb 0 b rfl
    have h3 : b.allS (fun x => (parsN n).contains x) = true := Box.allS_imp (fun s hs => by rw [parsN_contains]; exact hs) (hc b (by simp))
    simp only [lentBx, h2, h1, h3, if_pos, inG_parsN, Box.ren_id, laid]
def sees (σ : AS) (L : List Box) : Prop := ∀ j b, L[j]? = some b → σ.b (.par j) = some b
theorem lentBx_pars {σ : AS} {n : Nat} {L : List Box} (hl : L.length = n) (hs : sees σ L) (hc : closedB n L) : lentBx σ (parsN n) 0 (parsN n) = some (laid 0 L) :=
  lentBx_laid _ _ _ (fun j s e => by
    have : j < n := by have := (List.getElem?_eq_some_iff.1 e).1; simpa [parsN] using this
    rw [parsN_get this] at e; cases e; simp) (by simp [parsN, hl]) (fun j b e => by simpa using hs j b e) hc
theorem renL_laid {n d : Nat} : ∀ {L : List Box} {i : Nat}, i + L.length ≤ n → closedB n L → renL (parsN n) d (laid i L) = laid i L
  | [], i, _, _ => rfl
  | b :: r, i, h, hc => by
    rw [List.length_cons] at h
    have h1 := renL_laid (L := r) (i := i + 1) (d := d) (by omega) (fun x hx => hc x (by simp [hx]))
    unfold renL at h1 ⊢
    rw [laid, List.map_cons, h1]
    rw [outG_parsN (by simp [Site.lt]; omega), Box.ren_fix (fun s hs => outG_parsN hs) (hc b (by simp))]
theorem laid_ok {n : Nat} {L : List Box} (h : L.length ≤ n) (hc : closedB n L) : ∀ p ∈ laid 0 L, outOk (parsN n) p.1 = true ∧ p.2.allS (outOk (parsN n)) = true := fun p hp => by
  obtain ⟨j, h1, h2⟩ := laid_mem L 0 p hp
  have hj := (List.getElem?_eq_some_iff.1 h1).1
  refine ⟨lt_outOk (by rw [h2]; simp [Site.lt]; omega), Box.allS_imp (fun s hs => lt_outOk hs) (hc _ (List.mem_of_getElem? h1))⟩
/-- What goes out. -/
theorem exp_laid {σ : AS} {n : Nat} : ∀ (r : List Site) (i : Nat) (L : List Box), (∀ j s, r[j]? = some s → s = Site.par (i + j)) → r.length = L.length → (∀ j b, L[j]? = some b → σ.b (.par (i + j)) = some b) → σ.exp (parsN n) r = laid i L
  | [], i, [], _, _, _ => rfl
  | [], i, b :: L, _, h, _ => by simp at h
  | s :: r, i, [], _, h, _ => by simp at h
  | s :: r, i, b :: L, hs, hl, hb => by
    have h0 : s = .par i := hs 0 s rfl
    have h1 := exp_laid (n := n) r (i + 1) L (fun j s' e => by rw [hs (j + 1) s' (by simpa using e)]; congr 1; omega) (by simpa using hl) (fun j b' e => by rw [show i + 1 + j = i + (j + 1) by omega]; exact hb (j + 1) b' (by simpa using e))
    subst h0
    have h2 : σ.b (.par i) = some b := hb 0 b rfl
    simp only [AS.exp, h2, h1, expG_parsN, Box.ren_id, laid, id]
theorem exp_pars {σ : AS} {n : Nat} {L : List Box} (hl : L.length = n) (hs : sees σ L) : σ.exp (parsN n) (parsN n) = laid 0 L :=
  exp_laid _ _ _ (fun j s e => by
    have : j < n := by have := (List.getElem?_eq_some_iff.1 e).1; simpa [parsN] using this
    rw [parsN_get this] at e; cases e; simp) (by simp [parsN, hl]) (fun j b e => by simpa using hs j b e)
theorem outsOk_of {σ : AS} : ∀ {l : List Site}, (∀ s ∈ l, ∃ b, σ.b s = some b ∧ b.allS noRet = true) → outsOk σ l
  | [], _ => trivial
  | s :: r, h => ⟨h s (by simp), outsOk_of (fun x hx => h x (by simp [hx]))⟩
theorem outsOk_pars {σ : AS} {n : Nat} {L : List Box} (hl : L.length = n) (hs : sees σ L) (hc : closedB n L) : outsOk σ (parsN n) := outsOk_of (fun s h => by
  rw [parsN_mem] at h
  cases s with
  | par i =>
    have hi : i < L.length := by rw [hl]; simpa [Site.lt] using h
    exact ⟨L[i], hs i _ (List.getElem?_eq_getElem hi), Box.allS_imp (fun s hs => lt_noRet hs) (hc _ (List.getElem_mem hi))⟩
  | loc d j => cases h
  | ret j => cases h)
theorem isLoc_loc {d e j : Nat} : Site.isLoc d (.loc e j) = (d == e) := rfl
theorem isLoc_par {d j : Nat} : Site.isLoc d (.par j) = false := rfl
theorem isLoc_ret {d j : Nat} : Site.isLoc d (.ret j) = false := rfl
theorem purge_cells {d : Nat} {l : List AV} : Box.purge d (.cells l) = .cells (l.map (AV.purge d)) := rfl
theorem purge_map {d : Nat} {l : List (PV × PV)} : Box.purge d (.map l) = .map l := rfl
theorem purge_arr {d n : Nat} {e : TypeId} {l : List PV} : Box.purge d (.arr e n l) = .arr e n l := rfl
theorem purge_loop {d nt : Nat} {C : Code × Code} {ps : List Nat} {tm : List (Nat × AV)} {st : Option Code} : Box.purge d (.loop C ps nt tm st) = .loop C ps nt (tm.map fun p => (p.1, p.2.purge d)) st := rfl
theorem sees_laid {tm : List (Nat × AV)} {X : List Box} {r : List (Site × Box)} : sees ⟨tm, laid 0 X ++ r⟩ X := fun j b h => by
  have h1 : (laid 0 X).lookup (.par j) = some b := by have := laid_get X 0 j; rw [Nat.zero_add] at this; rw [this]; exact h
  show (laid 0 X ++ r).lookup (.par j) = some b
  clear h
  generalize laid 0 X = l at h1
  induction l with
  | nil => cases h1
  | cons p l ih =>
    obtain ⟨a, c⟩ := p
    by_cases e : Site.par j = a
    · subst e; rw [lookup_cons_eq] at h1; rw [List.cons_append, lookup_cons_eq]; exact h1
    · rw [lookup_cons_ne e] at h1; rw [List.cons_append, lookup_cons_ne e]; exact ih h1
theorem subB_laid {σ : AS} : ∀ {X : List Box} {i : Nat}, (∀ j b, X[j]? = some b → σ.b (.par (i + j)) = some b) → subB (laid i X) σ
  | [], i, h => trivial
  | b :: r, i, h => ⟨h 0 b rfl, subB_laid (fun j b' e => by rw [show i + 1 + j = i + (j + 1) by omega]; exact h (j + 1) b' (by simpa using e))⟩
theorem subB_sees {σ : AS} {X : List Box} (h : sees σ X) : subB (laid 0 X) σ := subB_laid (fun j b e => by rw [Nat.zero_add]; exact h j b e)
section
variable {P : Program} {σ : AS} {K : AV → AS → Prop}
/-- Handing back with all boxes. -/
theorem retB_pars {n : Nat} {rs : List LRes} {R : AV → List (Site × Box) → Prop} {L : List Box} {l : List AV} (h : σ.resA rs = some l) (ho : (ofTup l).allS noRet = true) (hl : L.length = n) (hs : sees σ L) (hc : closedB n L) (hR : R (ofTup l) (laid 0 L)) : retB (parsN n) rs R σ := by
  refine ⟨l, h, ho, ?_, outsOk_pars hl hs hc, ?_⟩
  · rw [List.all_eq_true]
    intro s hs
    exact lt_noRet (parsN_mem.1 hs)
  · rw [exp_pars hl hs, expG_parsN, map_id']; exact hR
/-- A round of somebody else's loop. -/
theorem yield_pars (d m : Nat) (X : List Box) {f : Opd} {args : List Opd} {d0 : Nat} {R : AV → List (Site × Box) → Prop} (h1 : σ.o f = .yld (.par 0)) (hm : 0 < m) (hl : X.length = m) (hs : sees σ X) (hc : closedB m X)
    (h4 : AV.allSL (Site.lt m) (args.map σ.o) = true) (hC : YieldsA P 0 (args.map σ.o) (laid 0 X) R)
    (hK : ∀ r B', R r B' → ∃ L', B' = laid 0 L' ∧ L'.length = m ∧ closedB m L' ∧ r.allS (Site.lt m) = true ∧ K r ((((⟨σ.tm, σ.bx.filter fun p => !p.1.lt m⟩ : AS).purge d)).adds (laid 0 L'))) :
    callWp P f args d0 K σ ∨ (callLwp P f args K σ ∨ callYwp P f args K σ) := by
  refine .inr (.inr ⟨d, [], parsN m, .par 0, 0, laid 0 X, h1, parsN_get hm, parsN_nodup, ?_, lentBx_pars hl hs hc, ?_, ?_⟩)
  · rw [List.all_eq_true]
    intro s hs
    rw [has_lt (parsN_mem.1 hs)]; rfl
  · exact AV.allSL_imp (fun s hs => by rw [parsN_contains]; exact hs) _ h4
  · rw [inG_parsN, mapL_id]
    refine hC.mono (fun r B' h => ?_)
    obtain ⟨L', rfl, k1, k2, k3, k4⟩ := hK r B' h
    refine ⟨AV.allS_imp (fun s hs => lt_outOk hs) _ k3, laid_ok (by omega) k2, ?_⟩
    rw [AV.map_fix (fun s hs => outG_parsN hs) _ k3, renL_laid (by omega) k2]
    cases σ
    simp only [frzsL]
    rw [dropL_parsN]
    exact k4
end
end Go.Proofs.Ytohhjnpiiackjaa
/-! Stepping: a call that is lent all that came in, and some of one's own. Over any program. -/
namespace Go.Proofs.Ytohhjnpiiackjaa
open Go.RowKit
attribute [local simp] Box.purge Site.isLoc
section
variable {P : Program} {σ : AS} {K : AV → AS → Prop}
end
end Go.Proofs.Ytohhjnpiiackjaa
/-! Stepping: a round. Over any program. -/
namespace Go.Proofs.Ytohhjnpiiackjaa
open Go.RowKit
attribute [local simp] Box.purge Site.isLoc
theorem yields_of_awpS {P : Program} (hm : P.follows .mixedOrders = true) {C : Code × Code} {ps : List Nat} {nt i : Nat} {tm : List (Nat × AV)} {la lb : LCode} (hla : litC P nt C.1 = some la) (hlb : litC P nt C.2 = some lb) {as' : List AV} {B : List (Site × Box)}
    {R : AV → List (Site × Box) → Prop} (hB : B.lookup (.par i) = some (.loop C ps nt tm none)) (hps : ps.length = as'.length) (hpn : ∀ p ∈ ps, p < nt) (htm : AV.allSL Site.isPar (tm.map (·.2)) = true)
    (h : awpS P la (thenA (hold (awpS P lb (roundQ C ps nt tm i R))) (fun _ _ => False)) ⟨putL ps as' tm, B.filter fun p => !decide (p.1 = .par i)⟩) : YieldsA P i as' B R := by
  refine yields_of_awp hm hla hlb hB hps hpn htm ?_
  refine awp_mono (awpS_wp h) (fun e τ q => ?_)
  cases e with
  | normal =>
    have q' : awpS P lb (roundQ C ps nt tm i R) τ := q
    exact awpS_wp q'
  | exit id => exact q
  | ret => exact q
section
variable {P : Program} {σ : AS}
/-- A range over an iterator that is lent the record and other boxes. -/
theorem rng_lent (lent : List Site) (tm : List (Nat × AV)) {nt : Nat} {g : Opd} {C : Code × Code} {ps : List Nat} {la lb : LCode} {Q : AEx → AS → Prop} {gf : FuncId} {fs cs as' : List AV} {B : List (Site × Box)} {R : AV → List (Site × Box) → Prop}
    (h1 : fnOf (((σ.purge nt).add (.loc nt 0) (.loop C ps nt tm none)).o g) = some (gf, fs, cs)) (htm : subT tm (σ.purge nt)) (h2 : nodupB lent = true) (h3 : lent.all (fun s => !s.isLoc (nt + 1)) = true)
    (hB : lentBx ((σ.purge nt).add (.loc nt 0) (.loop C ps nt tm none)) lent 0 lent = some B) (h4 : AV.allSL (fun x => lent.contains x) (fs ++ [.yld (.loc nt 0)] ++ cs) = true) (ha : AV.mapL (inG lent) (fs ++ [.yld (.loc nt 0)] ++ cs) = as') (hC : CallsA P gf as' B R)
    (hK : ∀ r B', R r B' → r.allS (outOk lent) = true ∧ (∀ p ∈ B', outOk lent p.1 = true ∧ p.2.allS (outOk lent) = true) ∧
      ∃ C' ps' nt' tm' st, (((dropL lent ((σ.purge nt).add (.loc nt 0) (.loop C ps nt tm none))).purge (nt + 1)).adds (renL lent (nt + 1) B')).b (.loc nt 0) = some (.loop C' ps' nt' tm' st) ∧
        jumpQ Q st ((((dropL lent ((σ.purge nt).add (.loc nt 0) (.loop C ps nt tm none))).purge (nt + 1)).adds (renL lent (nt + 1) B')).drop (.loc nt 0))) :
    awpS P (.rng nt g C la lb ps) Q σ := by
  show rngWp P nt g C ps Q σ
  refine ⟨σ, Sub.refl' σ, [], lent, tm, _, gf, fs, cs, B, fun t a k => subT_spec htm t a k, rfl, ?_, nodupB_spec h2, h3, hB, h4, ?_⟩
  · unfold fnOf at h1
    split at h1
    · rename_i e; cases h1; exact .inl e
    · rename_i fs' cs' e; cases h1; exact .inr ⟨fs', cs', e, rfl, rfl⟩
    · cases h1
  · rw [ha]
    refine hC.mono (fun r B' h => ?_)
    obtain ⟨k1, k2, C', ps', nt', tm', st, k3, k4⟩ := hK r B' h
    refine ⟨k1, k2, ?_⟩
    have k3' : (((dropL lent ((((frzsL [] σ).purge nt).add (.loc nt 0) (.loop C ps nt tm none)))).purge (nt + 1)).adds (renL lent (nt + 1) B')).b (.loc nt 0) = some (.loop C' ps' nt' tm' st) := k3
    rw [k3']
    exact k4
/-- .. of a state that says less. -/
theorem rng_sub {nt : Nat} {g : Opd} {C : Code × Code} {ps : List Nat} {la lb : LCode} {Q : AEx → AS → Prop} {τ : AS} (hs : Sub τ σ) (h : awpS P (.rng nt g C la lb ps) Q τ) : awpS P (.rng nt g C la lb ps) Q σ := by
  obtain ⟨τ0, h1, h2⟩ : rngWp P nt g C ps Q τ := h
  exact ⟨τ0, h1.trans' hs, h2⟩
end
end Go.Proofs.Ytohhjnpiiackjaa
/-! Stepping: functions that hand back plain values which they have just built. Over any program. -/
namespace Go.Proofs.Ytohhjnpiiackjaa
open Go.RowKit
attribute [local simp] Box.purge Site.isLoc
def retFz (fz : List Site) (rs : List LRes) (R : AV → List (Site × Box) → Prop) (σ : AS) : Prop := retF rs R (frzL fz σ)
theorem retFz_wp {fz : List Site} {rs : List LRes} {R : AV → List (Site × Box) → Prop} {σ : AS} (h : retFz fz rs R σ) : retWp rs R σ := by
  unfold retFz retF at h
  split at h
  · rename_i l hl
    split at h
    · rename_i x hx
      exact ⟨fz, [], l, hl, by rw [hx]; rfl, rfl, (fun s hs => by cases hs), by rw [hx]; exact h⟩
    · exact h.elim
  · exact h.elim
theorem calls_of_awpF {P : Program} (fz : List Site) {f : FuncId} {F : LFn} {args : List AV} {B : List (Site × Box)} {R : AV → List (Site × Box) → Prop} (hm : P.follows .mixedOrders = true) (hf : litF P f = some F) (hn : args.length ≤ F.nt)
    (h : awpS P F.code (finQ (retFz fz F.res R)) ⟨initT 0 args, B⟩) : CallsA P f args B R := calls_of_awp_gen hm hf hn (fun _ h => retFz_wp h) (awpS_wp h)
theorem nble {a b : Nat} : Nat.ble a b = decide (a ≤ b) := by rw [Bool.eq_iff_iff, Nat.ble_eq]; simp
theorem nblt {a b : Nat} : Nat.blt a b = decide (a < b) := by rw [Bool.eq_iff_iff, Nat.blt_eq]; simp
end Go.Proofs.Ytohhjnpiiackjaa
/-! Boxes of lists: how one comes to be, how a list leaves it and comes back, how all of it is frozen. Over any program. -/
namespace Go.Proofs.Ytohhjnpiiackjaa
open Go.RowKit
section
variable {N : Nat} {w0 : World} {m0 : Env w0} {pl : List Nat} {σ : AS} {ρ : Site → Loc} {m : Mem} {act : Act} {w : World}
end
/-! ### As steps -/
end Go.Proofs.Ytohhjnpiiackjaa
/-! A slice that may be nil, read as a list of one's own without elements: loops need one form of state. Over any program. -/
namespace Go.Proofs.Ytohhjnpiiackjaa
open Go.RowKit
/-- Whatever reads as a reads as a'. -/
def AV.Wk (a a' : AV) : Prop := ∀ (ρ : Site → Loc) (m : Mem) (v : Value), RdA ρ m v a → RdA ρ m v a'
theorem wk_vec {nl : Option Bool} {s : Site} {n : Nat} : AV.Wk (.pv (.emp nl)) (.vec s n 0 0) := fun ρ m v h => by
  have := h.pv_inv
  cases this with
  | emp a _ h0 h1 h2 => exact .vec0 s n 0 a h2
theorem wk_pv {x x' : PV} (h : ∀ m v, RdP m v x → RdP m v x') : AV.Wk (.pv x) (.pv x') := fun ρ m v hv => .pv _ _ (h m v hv.pv_inv)
section
variable {N : Nat} {w0 : World} {m0 : Env w0} {pl : List Nat} {σ : AS} {ρ : Site → Loc} {m : Mem} {act : Act} {w : World}
theorem Sub.wkT {t : Nat} {a : AV} (a' : AV) (h : σ.t t = some a) (hw : a.Wk a') : Sub (σ.put t a') σ := fun _ _ _ _ ρ m act w hS => by
  refine ⟨ρ, m, hS.nod, hS.sz, fun t' b k => ?_, hS.bx, hS.injk, hS.mem, hS.offk, hS.ownk, hS.keep, hS.base, hS.fro, hS.par⟩
  rw [AS.t_put] at k
  split at k
  · rename_i e; subst e; cases k
    obtain ⟨v, h1, h2⟩ := hS.tm t' a h
    exact ⟨v, h1, hw _ _ _ h2⟩
  · exact hS.tm t' b k
theorem Sub.wkC {s : Site} {ax : List AV} {i : Nat} {a : AV} (a' : AV) (h : σ.b s = some (.cells ax)) (hi : ax[i]? = some a) (hw : a.Wk a') : Sub (σ.set s (.cells (ax.set i a'))) σ := fun _ _ _ _ ρ m act w hS => by
  refine ⟨ρ, m, hS.rebox h ?_ (fun k hk => ?_)⟩
  · obtain ⟨h0, cs, T, h1, h2, h3⟩ := hS.bx s _ h
    refine ⟨h0, cs, T, h1, by rw [List.length_set]; exact h2, fun j c b k1 k2 => ?_⟩
    by_cases e : j = i
    · subst e
      rw [List.getElem?_set_self (List.getElem?_eq_some_iff.1 hi).1] at k2
      cases k2
      obtain ⟨q1, q2⟩ := h3 j c a k1 hi
      exact ⟨q1, hw _ _ _ q2⟩
    · rw [List.getElem?_set_ne (fun e' => e e'.symm)] at k2
      exact h3 j c b k1 k2
  · obtain ⟨r1, r2⟩ := blk_plain rfl hk
    exact .inl ⟨r1, r2⟩
/-- A list without elements, and without a block. -/
theorem Sub.arr0 (D : Nat) (e : TypeId) {n : Nat} (hn : 0 < n) : Sub ((σ.purge D).add (.loc D 0) (.arr e n [])) σ := fun _ _ _ _ ρ m act w hS => by
  have h := hS.purge D
  have hN := NoD.purge D σ
  generalize σ.purge D = σ at h hN
  have hρ := upd_loc ρ D 0 ⟨0, 0, 0, false⟩
  have hu := upd_self ρ (.loc D 0) ⟨0, 0, 0, false⟩
  have look : ∀ s' b', (σ.add (.loc D 0) (.arr e n [])).b s' = some b' → (s' = .loc D 0 ∧ b' = .arr e n []) ∨ (s' ≠ .loc D 0 ∧ σ.b s' = some b') := fun s' b' k => by
    rw [AS.b_add] at k
    split at k
    · rename_i e; cases k; exact .inl ⟨e, rfl⟩
    · rename_i e; exact .inr ⟨e, k⟩
  have old : ∀ s' b' k, (σ.add (.loc D 0) (.arr e n [])).b s' = some b' → blk (upd ρ (.loc D 0) ⟨0, 0, 0, false⟩) w s' b' k → σ.b s' = some b' ∧ blk ρ w s' b' k := fun s' b' k k1 r => by
    rcases look s' b' k1 with ⟨rfl, rfl⟩ | ⟨q0, q1⟩
    · obtain ⟨r1, _⟩ := blk_plain rfl r
      rw [hu] at r1; cases r1
    · rw [blk_at (upd_ne ρ _ q0)] at r
      exact ⟨q1, r⟩
  refine ⟨upd ρ (.loc D 0) ⟨0, 0, 0, false⟩, m, h.nod, h.sz, fun t a k => ?_, fun s' b' k => ?_, fun s1 s2 b1 b2 k k1 k2 r1 r2 => ?_, h.mem, fun s' b' k k1 r => ?_, fun s' b' k k1 r => ?_, h.keep, h.base, h.fro, fun j => (hρ _ rfl).trans (h.par j)⟩
  · obtain ⟨v, k1, k2⟩ := h.tm t a k
    exact ⟨v, k1, k2.mono (Le.refl m) hρ (hN.t t a k)⟩
  · rcases look s' b' k with ⟨rfl, rfl⟩ | ⟨q0, q1⟩
    · exact ⟨hn, .inl ⟨by rw [hu], rfl, by rw [hu]⟩⟩
    · exact (h.bx s' b' q1).stay (Le.refl m) hρ (hN.b s' b' q1).1 (hN.b s' b' q1).2 (fun _ _ => rfl)
  · obtain ⟨p1, p2⟩ := old s1 b1 k k1 r1
    obtain ⟨q1, q2⟩ := old s2 b2 k k2 r2
    exact h.injk s1 s2 b1 b2 k p1 q1 p2 q2
  · obtain ⟨p1, p2⟩ := old s' b' k k1 r
    exact h.offk s' b' k p1 p2
  · obtain ⟨p1, p2⟩ := old s' b' k k1 r
    exact h.ownk s' b' k p1 p2
end
/-- A slot's nil slice becomes a list of one's own. -/
def AS.vecT (D : Nat) (e : TypeId) (n t : Nat) (σ : AS) : AS := ((σ.purge D).add (.loc D 0) (.arr e n [])).put t (.vec (.loc D 0) n 0 0)
theorem vecT {σ : AS} (D : Nat) (e : TypeId) (n t : Nat) {nl : Option Bool} (h : σ.t t = some (.pv (.emp nl))) (hn : 0 < n) : Sub (σ.vecT D e n t) σ := by
  refine Sub.trans' (b := (σ.purge D).add (.loc D 0) (.arr e n [])) ?_ (Sub.arr0 D e hn)
  refine Sub.wkT (a := .pv (.emp nl)) _ ?_ wk_vec
  show (σ.purge D).t t = _
  rw [AS.t_purge, h]
  rfl
/-- .. that of a variable in memory. -/
def AS.vecC (D : Nat) (e : TypeId) (n : Nat) (s : Site) (cs : List AV) (i : Nat) (σ : AS) : AS := ((σ.purge D).add (.loc D 0) (.arr e n [])).set s (.cells (cs.set i (.vec (.loc D 0) n 0 0)))
theorem vecC {σ : AS} (D : Nat) (e : TypeId) (n : Nat) {s : Site} {cs : List AV} (i : Nat) {nl : Option Bool} (h : (σ.purge D).b s = some (.cells cs)) (hi : cs[i]? = some (.pv (.emp nl))) (hn : 0 < n) : Sub (σ.vecC D e n s cs i) σ := by
  refine Sub.trans' (b := (σ.purge D).add (.loc D 0) (.arr e n [])) ?_ (Sub.arr0 D e hn)
  refine Sub.wkC (a := .pv (.emp nl)) _ ?_ hi wk_vec
  have hs : s ≠ .loc D 0 := fun e' => by
    subst e'
    rw [AS.b_purge, if_pos (by simp [Site.isLoc])] at h
    cases h
  rw [AS.b_add, if_neg hs]
  exact h
/-- A list of one's own, by another name, from its first element on. -/
theorem Sub.mvV {σ : AS} (D t : Nat) {s : Site} {e n lo len : Nat} {xs : List PV} (h : σ.t t = some (.vec s n lo len)) (hb : σ.b s = some (.arr e n xs)) (hl : lo + len = xs.length) :
    Sub ((((σ.drop s).purge D).add (.loc D 0) (.arr e n (xs.drop lo))).put t (.vec (.loc D 0) n 0 len)) σ := fun _ _ _ _ ρ m act w hS => by
  have hD := (hS.drop s).purge D
  have hN := NoD.purge D (σ.drop s)
  obtain ⟨v, hv1, hv2⟩ := hS.tm t _ h
  have hBx := hS.bx s _ hb
  have hn0 : 0 < n := hBx.1
  have hdl : (xs.drop lo).length = len := by rw [List.length_drop]; omega
  have gone : ∀ s' b', ((σ.drop s).purge D).b s' = some b' → s' ≠ s ∧ ∃ b2, σ.b s' = some b2 ∧ b' = b2.purge D := fun s' b' k => by
    rw [AS.b_purge] at k
    split at k
    · cases k
    · obtain ⟨b2, k2, rfl⟩ := Option.map_eq_some_iff.1 k
      rw [AS.b_drop] at k2
      split at k2
      · cases k2
      · rename_i hne; exact ⟨hne, b2, k2, rfl⟩
  -- where it lies
  obtain ⟨L, hL1, hL2, hL3⟩ : ∃ L : Loc, (L.real = true → (ρ s).real = true ∧ L.b = (ρ s).b) ∧ RdA (upd ρ (.loc D 0) L) m v (.vec (.loc D 0) n 0 len) ∧ RdB (upd ρ (.loc D 0) L) m w (.loc D 0) (.arr e n (xs.drop lo)) := by
    rcases hv2.vec_inv with ⟨cap, rfl, c0, c1, c2⟩ | ⟨a, rfl, c0, hsp⟩
    · have hu := upd_self ρ (.loc D 0) ⟨(ρ s).b, (ρ s).o + lo * n, cap, true⟩
      refine ⟨⟨(ρ s).b, (ρ s).o + lo * n, cap, true⟩, fun _ => ⟨c2, rfl⟩, ?_, ?_⟩
      · have := RdA.vec (ρ := upd ρ (.loc D 0) ⟨(ρ s).b, (ρ s).o + lo * n, cap, true⟩) (m := m) (.loc D 0) n 0 len cap c0 (by rw [hu]; simp) (by rw [hu])
        rw [hu] at this
        simpa using this
      · obtain ⟨_, hB | ⟨hr, cs, g1, g2, g3, g4, g5⟩⟩ := hBx
        · rw [hB.1] at c2; cases c2
        refine ⟨hn0, .inr ⟨by rw [hu], cs, by rw [hu]; exact g1, ?_, ?_, ?_, fun i x hi => ?_⟩⟩
        · rw [hu]
          have : (lo + cap) * n ≤ (ρ s).cap * n := Nat.mul_le_mul_right _ c1
          rw [Nat.add_mul] at this
          show (ρ s).o + lo * n + cap * n ≤ _
          omega
        · rw [hu, hdl]; exact c0
        · rw [hu]; show cap ≤ _; omega
        · rw [List.getElem?_drop] at hi
          obtain ⟨k1, k2⟩ := g5 (lo + i) x hi
          refine ⟨k1, fun j c hj => ?_⟩
          obtain ⟨d, q1, q2, q3⟩ := k2 j c hj
          rw [hu]
          refine ⟨d, ?_, q2, q3⟩
          rw [← q1, Nat.add_mul]
          show cs[(ρ s).o + lo * n + i * n + j]? = _
          congr 1; omega
    · have hu := upd_self ρ (.loc D 0) ⟨0, 0, 0, false⟩
      have hx : xs.drop lo = [] := List.eq_nil_of_length_eq_zero (by rw [hdl]; exact c0)
      refine ⟨⟨0, 0, 0, false⟩, fun e' => (by cases e'), ?_, ?_⟩
      · subst c0; exact .vec0 _ _ _ _ hsp
      · exact ⟨hn0, .inl ⟨by rw [hu], hx, by rw [hu]⟩⟩
  have hAdd : Sat _ _ _ _ (((σ.drop s).purge D).add (.loc D 0) (.arr e n (xs.drop lo))) (upd ρ (.loc D 0) L) m act w := hD.add hN hL3 (fun hr s' b' k r => by
      obtain ⟨k1, k2⟩ := hL1 hr
      obtain ⟨q1, b2, q2, rfl⟩ := gone s' b' k
      rw [k2] at r
      exact q1 (hS.injk s' s b2 _ _ q2 hb (blk_purge.1 r) (blk_own k1))) (fun hr => by
      obtain ⟨k1, k2⟩ := hL1 hr
      rw [k2]; exact hS.off s _ hb k1) (fun hr => by
      obtain ⟨k1, k2⟩ := hL1 hr
      rw [k2]; exact hS.own s _ hb k1)
  refine ⟨upd ρ (.loc D 0) L, m, hAdd.nod, hAdd.sz, fun t' b k => ?_, hAdd.bx, hAdd.injk, hAdd.mem, hAdd.offk, hAdd.ownk, hAdd.keep, hAdd.base, hAdd.fro, hAdd.par⟩
  rw [AS.t_put] at k
  split at k
  · rename_i e'; subst e'; cases k
    exact ⟨v, hv1, hL2⟩
  · exact hAdd.tm t' b k
def AS.mvV (D t : Nat) (s : Site) (e n len : Nat) (ys : List PV) (σ : AS) : AS := (((σ.drop s).purge D).add (.loc D 0) (.arr e n ys)).put t (.vec (.loc D 0) n 0 len)
theorem mvV {σ : AS} (D t : Nat) {s : Site} {e n lo len : Nat} {xs : List PV} (ys : List PV) (h : σ.t t = some (.vec s n lo len)) (hb : σ.b s = some (.arr e n xs)) (hl : lo + len = xs.length) (hy : xs.drop lo = ys) : Sub (σ.mvV D t s e n len ys) σ := by
  subst hy
  exact Sub.mvV D t h hb hl
/-- A slot's value, said more weakly. -/
theorem wkT {σ : AS} (t : Nat) {x : PV} (x' : PV) (h : σ.t t = some (.pv x)) (hw : ∀ m v, RdP m v x → RdP m v x') : Sub (σ.put t (.pv x')) σ := Sub.wkT _ h (wk_pv hw)
end Go.Proofs.Ytohhjnpiiackjaa
/-! Weaker readings: of results, of arguments; an empty slice as a list. Over any program. -/
namespace Go.Proofs.Ytohhjnpiiackjaa
open Go.RowKit
theorem CallsA.weak {P : Program} {f : FuncId} {xs : List AV} {B : List (Site × Box)} {x x' : PV} (h : CallsA P f xs B (fun r B => r = .pv x ∧ B = [])) (hw : ∀ m v, RdP m v x → RdP m v x') : CallsA P f xs B (fun r B => r = .pv x' ∧ B = []) := by
  refine ⟨h.1, fun w m ρ vs h1 h2 h3 h4 => (h.2 w m ρ vs h1 h2 h3 h4).mono fun e w' ⟨v, r, B', ρ', m', k1, ⟨k2, k3⟩, k4, k5, k6, k7, k8, k9, k10, k11⟩ => ?_⟩
  subst k2 k3
  exact ⟨v, .pv x', [], ρ', m', k1, ⟨rfl, rfl⟩, k4, k5, k6, k7, k8, k9, .pv _ _ (hw _ _ k10.pv_inv), k11⟩
theorem emp_lst {m : Mem} {v : Value} {nl : Option Bool} {n : Nat} (h : RdP m v (.emp nl)) : RdP m v (.lst false n []) := by
  cases h with
  | emp a _ h0 h1 h2 => exact .lst a 0 false n [] (fun _ => []) (by simp) (by simp) (fun _ => rfl) h2 (fun hh => by cases hh) (fun i x hx => by simp at hx) (fun i x hx => by simp at hx) (fun i x j d c hx => by simp at hx)
theorem agg_wk {m : Mem} {v : Value} {cs cs' : List PV} (hl : cs.length = cs'.length) (hw : ∀ (j : Nat) (c c' : PV) (d : Value), cs[j]? = some c → cs'[j]? = some c' → RdP m d c → RdP m d c') (h : RdP m v (.agg cs)) : RdP m v (.agg cs') := by
  cases h with
  | agg vs _ h0 h1 h2 =>
    refine .agg vs cs' (by omega) h1 (fun j d c k1 k2 => ?_)
    have hj : j < cs.length := by have := (List.getElem?_eq_some_iff.1 k2).1; omega
    exact hw j cs[j] c d (List.getElem?_eq_getElem hj) k2 (h2 j d _ k1 (List.getElem?_eq_getElem hj))
theorem CallsA.weak2 {P : Program} {f : FuncId} {xs : List AV} {B : List (Site × Box)} {x' : PV} (h : CallsA P f xs B (fun r B => ∃ x, r = .pv x ∧ B = [] ∧ ∀ m v, RdP m v x → RdP m v x')) : CallsA P f xs B (fun r B => r = .pv x' ∧ B = []) := by
  refine ⟨h.1, fun w m ρ vs h1 h2 h3 h4 => (h.2 w m ρ vs h1 h2 h3 h4).mono fun e w' ⟨v, r, B', ρ', m', k1, ⟨x, k2, k3, hw⟩, k4, k5, k6, k7, k8, k9, k10, k11⟩ => ?_⟩
  subst k2 k3
  exact ⟨v, .pv x', [], ρ', m', k1, ⟨rfl, rfl⟩, k4, k5, k6, k7, k8, k9, .pv _ _ (hw _ _ k10.pv_inv), k11⟩
theorem tup_wk {m : Mem} {v : Value} {cs cs' : List PV} (hl : cs.length = cs'.length) (hw : ∀ (j : Nat) (c c' : PV) (d : Value), cs[j]? = some c → cs'[j]? = some c' → RdP m d c → RdP m d c') (h : RdP m v (.tup cs)) : RdP m v (.tup cs') := by
  cases h with
  | tup vs _ h0 h2 =>
    refine .tup vs cs' (by omega) (fun j d c k1 k2 => ?_)
    have hj : j < cs.length := by have := (List.getElem?_eq_some_iff.1 k2).1; omega
    exact hw j cs[j] c d (List.getElem?_eq_getElem hj) k2 (h2 j d _ k1 (List.getElem?_eq_getElem hj))
theorem lst_wk {m : Mem} {v : Value} {nn : Bool} {n : Nat} {cs cs' : List PV} (hl : cs.length = cs'.length) (hc : ∀ (j : Nat) (c : PV), cs'[j]? = some c → c.cells.length = n) (hw : ∀ (j : Nat) (c c' : PV) (k : Nat) (d : Value) (x x' : PV), cs[j]? = some c → cs'[j]? = some c' → c.cells[k]? = some x → c'.cells[k]? = some x' → RdP m d x → RdP m d x') (h : RdP m v (.lst nn n cs)) : RdP m v (.lst nn n cs') := by
  cases h with
  | lst a cap _ _ _ ds h0 h1 h2 h3 h4 h5 h6 h7 =>
    rw [hl]
    have key : ∀ (i : Nat) (x : PV), cs'[i]? = some x → ∃ y, cs[i]? = some y := fun i x hx => by
      have : i < cs.length := by rw [hl]; exact (List.getElem?_eq_some_iff.1 hx).1
      exact ⟨cs[i], List.getElem?_eq_getElem this⟩
    refine .lst a cap nn n cs' ds (by omega) h1 h2 h3 h4 (fun i x hx => ?_) (fun i x hx => ?_) (fun i x j d c hx hd hc' => ?_)
    · obtain ⟨y, hy⟩ := key i x hx
      exact h5 i y hy
    · obtain ⟨y, hy⟩ := key i x hx
      obtain ⟨a1, a2, a3⟩ := h6 i y hy
      exact ⟨a1, hc i x hx, a3⟩
    · obtain ⟨y, hy⟩ := key i x hx
      obtain ⟨a1, a2, a3⟩ := h6 i y hy
      have hj : j < y.cells.length := by
        have := (List.getElem?_eq_some_iff.1 hd).1
        omega
      exact hw i y x j d _ c hy hx (List.getElem?_eq_getElem hj) hc' (h7 i y j d _ hy hd (List.getElem?_eq_getElem hj))
end Go.Proofs.Ytohhjnpiiackjaa
/-! A box by another name; rounds that are lent some boxes; functions that hand back boxes which are chosen at the end. Over any program. -/
namespace Go.Proofs.Ytohhjnpiiackjaa
open Go.RowKit
mutual
theorem AV.has_all {d : Nat} : ∀ a : AV, a.has d = false → a.allS (fun s => !s.isLoc d) = true
  | .any, _ => rfl
  | .pv _, _ => rfl
  | .ptr s _, h => by simp only [AV.has] at h; simp [AV.allS, h]
  | .elt s _ _ _, h => by simp only [AV.has] at h; simp [AV.allS, h]
  | .vec s _ _ _, h => by simp only [AV.has] at h; simp [AV.allS, h]
  | .mp s, h => by simp only [AV.has] at h; simp [AV.allS, h]
  | .yld s, h => by simp only [AV.has] at h; simp [AV.allS, h]
  | .fn _ fs cs, h => by
    simp only [AV.has, Bool.or_eq_false_iff] at h
    simp only [AV.allS, AV.hasL_all fs h.1, AV.hasL_all cs h.2, Bool.and_self]
  | .agg cs, h => by simp only [AV.has] at h; simp only [AV.allS, AV.hasL_all cs h]
  | .tup vs, h => by simp only [AV.has] at h; simp only [AV.allS, AV.hasL_all vs h]
theorem AV.hasL_all {d : Nat} : ∀ l : List AV, AV.hasL d l = false → AV.allSL (fun s => !s.isLoc d) l = true
  | [], _ => rfl
  | a :: r, h => by
    simp only [AV.hasL, Bool.or_eq_false_iff] at h
    simp only [AV.allSL, AV.has_all a h.1, AV.hasL_all r h.2, Bool.and_self]
end
theorem Box.has_all {d : Nat} {b : Box} (h : b.has d = false) : b.allS (fun s => !s.isLoc d) = true := by
  cases b with
  | cells as => exact AV.hasL_all as h
  | loop C ps nt tm st => exact AV.hasL_all _ h
  | arr e n xs => rfl
  | map es => rfl
  | ext E => rfl
  | rows e e2 n els =>
    refine List.all_eq_true.2 (fun el hel => ?_)
    have h' : els.any (RowE.has d) = false := h
    have := List.any_eq_false.1 h' el hel
    cases el with
    | av a => exact AV.has_all a (by simpa [RowE.has] using this)
    | own xs => rfl
def renS (D : Nat) (s x : Site) : Site := match decide (x = s) with
  | true => .loc D 0
  | false => x
def AS.ren (D : Nat) (s : Site) (σ : AS) : AS := ⟨(σ.purge D).tm.map fun p => (p.1, p.2.map (renS D s)), (σ.purge D).bx.map fun p => (renS D s p.1, p.2.ren (renS D s))⟩
/-- A box by another name. -/
theorem Sub.ren (D : Nat) (s : Site) (σ : AS) : Sub (σ.ren D s) σ := fun _ _ _ _ ρ m act w hS => by
  have h := hS.purge D
  have hN := NoD.purge D σ
  unfold AS.ren
  generalize σ.purge D = σ at h hN
  have hu := upd_self ρ (.loc D 0) (ρ s)
  have hg : ∀ x : Site, (!x.isLoc D) = true → upd ρ (.loc D 0) (ρ s) (renS D s x) = ρ x := fun x hx => by
    unfold renS
    by_cases e : x = s
    · subst e; rw [decide_eq_true rfl]; exact hu
    · rw [decide_eq_false e]
      exact upd_ne ρ _ (fun e' => by subst e'; simp [Site.isLoc] at hx)
  have look : ∀ (l : List (Site × Box)) (s' : Site) (b' : Box), (l.map fun p => (renS D s p.1, p.2.ren (renS D s))).lookup s' = some b' → ∃ s0 b0, l.lookup s0 = some b0 ∧ s' = renS D s s0 ∧ b' = b0.ren (renS D s) := by
    intro l
    induction l with
    | nil => intro s' b' k; simp [List.lookup] at k
    | cons p r ih =>
      obtain ⟨a, c⟩ := p
      intro s' b' k
      rw [List.map_cons] at k
      by_cases e : s' = renS D s a
      · subst e
        rw [lookup_cons_eq] at k
        cases k
        exact ⟨a, c, lookup_cons_eq, rfl, rfl⟩
      · rw [lookup_cons_ne e] at k
        obtain ⟨s0, b0, h1, h2, h3⟩ := ih s' b' k
        refine ⟨s0, b0, ?_, h2, h3⟩
        rw [lookup_cons_ne (fun e' => e (by rw [h2, e']))]
        exact h1
  have noD : ∀ s0 b0, σ.b s0 = some b0 → (!s0.isLoc D) = true ∧ b0.allS (fun s => !s.isLoc D) = true := fun s0 b0 k => by
    obtain ⟨k1, k2⟩ := hN.b s0 b0 k
    exact ⟨by rw [k1]; rfl, Box.has_all k2⟩
  refine ⟨upd ρ (.loc D 0) (ρ s), m, h.nod, h.sz, fun t a k => ?_, fun s' b' k => ?_, fun s1 s2 b1 b2 k k1 k2 r1 r2 => ?_, h.mem, fun s' b' k k1 r => ?_, fun s' b' k k1 r => ?_, h.keep, h.base, h.fro, fun j => (upd_ne ρ _ (by simp)).trans (h.par j)⟩
  · have k' : (σ.t t).map (AV.map (renS D s)) = some a := by rw [← k]; exact (lookup_map (AV.map (renS D s)) t σ.tm).symm
    obtain ⟨c, k1, rfl⟩ := Option.map_eq_some_iff.1 k'
    obtain ⟨v, k2, k3⟩ := h.tm t c k1
    exact ⟨v, k2, k3.map hg (AV.has_all c (hN.t t c k1))⟩
  · obtain ⟨s0, b0, k1, rfl, rfl⟩ := look σ.bx s' b' k
    obtain ⟨q1, q2⟩ := noD s0 b0 k1
    exact (h.bx s0 b0 k1).ren hg q1 q2
  · obtain ⟨a1, c1, p1, rfl, rfl⟩ := look σ.bx s1 b1 k1
    obtain ⟨a2, c2, p2, rfl, rfl⟩ := look σ.bx s2 b2 k2
    rw [h.injk a1 a2 c1 c2 k p1 p2 ((blk_ren (hg a1 (noD a1 c1 p1).1)).1 r1) ((blk_ren (hg a2 (noD a2 c2 p2).1)).1 r2)]
  · obtain ⟨a1, c1, p1, rfl, rfl⟩ := look σ.bx s' b' k1
    exact h.offk a1 c1 k p1 ((blk_ren (hg a1 (noD a1 c1 p1).1)).1 r)
  · obtain ⟨a1, c1, p1, rfl, rfl⟩ := look σ.bx s' b' k1
    exact h.ownk a1 c1 k p1 ((blk_ren (hg a1 (noD a1 c1 p1).1)).1 r)
section
variable {P : Program} {σ : AS} {K : AV → AS → Prop}
/-- A round that is lent some boxes. -/
theorem yield_lent (d i : Nat) (lent : List Site) {f : Opd} {args : List Opd} {d0 : Nat} {s : Site} {B : List (Site × Box)} {as' : List AV} {R : AV → List (Site × Box) → Prop} (h1 : σ.o f = .yld s) (hi : lent[i]? = some s) (h2 : nodupB lent = true) (h3 : lent.all (fun s => !s.isLoc d) = true)
    (hB : lentBx σ lent 0 lent = some B) (h4 : AV.allSL (fun x => lent.contains x) (args.map σ.o) = true) (ha : AV.mapL (inG lent) (args.map σ.o) = as') (hC : YieldsA P i as' B R)
    (hK : ∀ r B', R r B' → r.allS (outOk lent) = true ∧ (∀ p ∈ B', outOk lent p.1 = true ∧ p.2.allS (outOk lent) = true) ∧ K (r.map (outG lent d)) (((dropL lent σ).purge d).adds (renL lent d B'))) :
    callWp P f args d0 K σ ∨ (callLwp P f args K σ ∨ callYwp P f args K σ) := by
  refine .inr (.inr ⟨d, [], lent, s, i, B, h1, hi, nodupB_spec h2, h3, hB, h4, ?_⟩)
  have : args.map (frzsL [] σ).o = args.map σ.o := rfl
  rw [this, ha]
  exact hC.mono hK
end
/-- A function that hands back boxes, chosen at the end. -/
theorem calls_of_awpE {P : Program} {f : FuncId} {F : LFn} {args : List AV} {B : List (Site × Box)} {R : AV → List (Site × Box) → Prop} (hm : P.follows .mixedOrders = true) (hf : litF P f = some F) (hn : args.length ≤ F.nt)
    (h : awpS P F.code (finQ (fun σ => ∃ outs, retB outs F.res R σ)) ⟨initT 0 args, B⟩) : CallsA P f args B R := calls_of_awp_gen hm hf hn (fun _ ⟨_, h⟩ => retB_wp h) (awpS_wp h)
end Go.Proofs.Ytohhjnpiiackjaa
/-! A part of a list of one's own, as a list by itself. Over any program. -/
namespace Go.Proofs.Ytohhjnpiiackjaa
open Go.RowKit
/-- The elements behind a list are forgotten. -/
theorem Sub.cut {σ : AS} {s : Site} {e n : Nat} {xs : List PV} (k : Nat) (hb : σ.b s = some (.arr e n xs)) : Sub (σ.set s (.arr e n (xs.take k))) σ := fun _ _ _ _ ρ m act w hS => by
  refine ⟨ρ, m, hS.rebox hb ?_ (fun j hj => ?_)⟩
  · obtain ⟨hn, h | ⟨hr, cs, g1, g2, g3, g4, g5⟩⟩ := hS.bx s _ hb
    · exact ⟨hn, .inl ⟨h.1, by rw [h.2.1]; simp, h.2.2⟩⟩
    · refine ⟨hn, .inr ⟨hr, cs, g1, g2, by rw [List.length_take]; omega, g4, fun i x hi => ?_⟩⟩
      rw [List.getElem?_take] at hi
      split at hi
      · exact g5 i x hi
      · cases hi
  · obtain ⟨r1, r2⟩ := blk_plain rfl hj
    exact .inl ⟨r1, r2⟩
theorem cutW {σ : AS} (s : Site) {e n : Nat} {xs : List PV} (k : Nat) (ys : List PV) (hb : σ.b s = some (.arr e n xs)) (hy : xs.take k = ys) : Sub (σ.set s (.arr e n ys)) σ := by
  subst hy; exact Sub.cut k hb
end Go.Proofs.Ytohhjnpiiackjaa
/-! Stepping where appends are left open: the list that was there may be needed again. Over any program. -/
namespace Go.Proofs.Ytohhjnpiiackjaa
open Go.RowKit
def loX (P : Program) (o : LO) (K : AS → Prop) (σ : AS) : Prop := match o.op with
  | .app _ _ _ _ _ => loWp P o K σ
  | _ => loS P o K σ
def opsX (P : Program) : List LO → (AS → Prop) → AS → Prop
  | [], K, σ => K σ
  | o :: r, K, σ => loX P o (hold (opsX P r K)) σ
def opsTX (P : Program) : LT → (AS → Prop) → AS → Prop
  | .done, K, σ => K σ
  | .op o t, K, σ => loX P o (hold (opsTX P t K)) σ
  | .alt o t r, K, σ => loX P o (hold (opsTX P t K)) σ ∧ hold (opsTX P r K) σ
  | .no, _, _ => True
  | .seq t r, K, σ => ∃ J : AS → Prop, opsTX P t (fun τ' => ∃ τ, Sub τ τ' ∧ J τ) σ ∧ ∀ τ, J τ → opsTX P r K τ
def awpX (P : Program) : LCode → (AEx → AS → Prop) → AS → Prop
  | .skip, Q, σ => Q .normal σ
  | .region ops, Q, σ => opsX P ops (Q .normal) σ
  | .regT t, Q, σ => opsTX P t (Q .normal) σ
  | .seq a b, Q, σ => awpX P a (thenA (hold (awpX P b Q)) Q) σ
  | .cond c a b, Q, σ => csel (σ.o c) (hold (awpX P a Q)) (hold (awpX P b Q)) σ
  | .block id c, Q, σ => awpX P c (blockA id Q) σ
  | .loop c, Q, σ => ∃ (I : Nat → AS → Prop) (n : Nat) (τ : AS), Sub τ σ ∧ I n τ ∧ ∀ n τ, I n τ → awpX P c (thenA (again I n) Q) τ
  | .exit id, Q, σ => Q (.exit id) σ
  | .ret, Q, σ => Q .ret σ
  | .rng nt g C _ _ ps, Q, σ => rngWp P nt g C ps Q σ
section
variable {P : Program}
theorem loX_wp {o : LO} {K : AS → Prop} {σ : AS} (h : loX P o K σ) : loWp P o K σ := by
  unfold loX at h
  split at h
  · exact h
  · exact loS_wp h
theorem opsX_wp : ∀ {l : List LO} {K : AS → Prop} {σ : AS}, opsX P l K σ → opsWp P l K σ
  | [], K, σ, h => h
  | o :: r, K, σ, h => loWp_mono (fun τ q => Clo.of (opsX_wp q)) (loX_wp h)
theorem opsTX_wp : ∀ {l : LT} {K : AS → Prop} {σ : AS}, opsTX P l K σ → opsT P l K σ
  | .done, K, σ, h => h
  | .op o t, K, σ, h => loWp_mono (fun τ q => opsTX_wp q) (loX_wp h)
  | .alt o t r, K, σ, h => ⟨loWp_mono (fun τ q => opsTX_wp q) (loX_wp h.1), opsTX_wp h.2⟩
  | .no, K, σ, h => trivial
  | .seq t r, K, σ, ⟨J, h1, h2⟩ => ⟨J, opsTX_wp h1, fun τ hJ => opsTX_wp (h2 τ hJ)⟩
theorem awpX_wp : ∀ {c : LCode} {Q : AEx → AS → Prop} {σ : AS}, awpX P c Q σ → awp P c Q σ
  | .skip, Q, σ, h => h
  | .region ops, Q, σ, h => opsX_wp h
  | .regT t, Q, σ, h => opsTX_wp h
  | .seq a b, Q, σ, h => by
    have h' : awpX P a (thenA (hold (awpX P b Q)) Q) σ := h
    show awp P a (thenA (awp P b Q) Q) σ
    refine awp_mono (awpX_wp h') (fun e τ q => ?_)
    cases e with
    | normal =>
      have q' : awpX P b Q τ := q
      exact awpX_wp q'
    | exit id => exact q
    | ret => exact q
  | .cond c a b, Q, σ, h => by
    have h' : csel (σ.o c) (hold (awpX P a Q)) (hold (awpX P b Q)) σ := h
    unfold csel at h'
    unfold awp
    split at h'
    · rename_i e; rw [e]; exact awpX_wp (c := a) h'
    · rename_i e; rw [e]; exact awpX_wp (c := b) h'
    · exact h'.elim
  | .block id c, Q, σ, h => awpX_wp (c := c) h
  | .loop c, Q, σ, ⟨I, n, τ, h1, h2, h3⟩ => ⟨I, n, τ, h1, h2, fun n τ hI => awpX_wp (c := c) (h3 n τ hI)⟩
  | .exit id, Q, σ, h => h
  | .ret, Q, σ, h => h
  | .rng _ _ _ _ _ _, Q, σ, h => h
/-- A function; what is frozen and what goes out is chosen at the end. -/
theorem calls_of_awpX {f : FuncId} {F : LFn} {args : List AV} {B : List (Site × Box)} {R : AV → List (Site × Box) → Prop} (hm : P.follows .mixedOrders = true) (hf : litF P f = some F) (hn : args.length ≤ F.nt)
    (h : awpX P F.code (finQ (fun σ => ∃ fz outs, retB outs F.res R (frzL fz σ))) ⟨initT 0 args, B⟩) : CallsA P f args B R :=
  calls_of_awp_gen hm hf hn (fun σ ⟨fz, outs, h⟩ => by
    obtain ⟨l, h1, h2, h3, h4, h5⟩ := h
    exact ⟨fz, outs, l, h1, h2, h3, fun s hs b hb => outsOk_get h4 s hs b hb, h5⟩) (awpX_wp h)
theorem awp_loopX {c : LCode} {Q : AEx → AS → Prop} {σ : AS} (I : Nat → AS → Prop) (h0 : ∃ n τ, Sub τ σ ∧ I n τ) (round : ∀ J : Nat → AS → Prop, (∀ k τ, I k τ → J k τ) → ∀ n τ, I n τ → awpX P c (thenA (again J n) Q) τ) : awpX P (.loop c) Q σ :=
  let ⟨n, τ, h1, h2⟩ := h0; ⟨I, n, τ, h1, h2, fun n τ h => round I (fun _ _ h => h) n τ h⟩
/-- All orders come to one of two states. -/
theorem ltX_seq2 {t r : LT} {K : AS → Prop} {σ : AS} (A B : AS) (h1 : opsTX P t (fun τ' => Sub A τ' ∨ Sub B τ') σ) (hA : opsTX P r K A) (hB : opsTX P r K B) : opsTX P (.seq t r) K σ :=
  ⟨fun x => x = A ∨ x = B, by
    have : (fun τ' => ∃ x, Sub x τ' ∧ (x = A ∨ x = B)) = fun τ' => Sub A τ' ∨ Sub B τ' := by
      funext τ'
      refine propext ⟨fun ⟨x, h, e⟩ => ?_, fun h => ?_⟩
      · rcases e with rfl | rfl
        · exact .inl h
        · exact .inr h
      · rcases h with h | h
        · exact ⟨A, h, .inl rfl⟩
        · exact ⟨B, h, .inr rfl⟩
    rw [this]; exact h1, fun x e => by
    rcases e with rfl | rfl
    · exact hA
    · exact hB⟩
/-- An append that leaves the list that was there. -/
theorem app_keep {σ : AS} {d : Nat} {K : AV → AS → Prop} {e n bytes : Nat} {x y : Opd} {s : Site} {lo len : Nat} {xs ys : List PV} (hx : σ.o x = .vec s n lo len) (hb : σ.b s = some (.arr e n xs)) (hy : σ.cont (σ.o y) n = some ys) (hl : lo + len ≤ xs.length)
    (h1 : (len + ys.length) * bytes ≤ 140737488355328) (h2 : len + ys.length ≤ 9223372036854775807) (hK1 : K (.vec (.loc d 0) n 0 (len + ys.length)) ((σ.purge d).add (.loc d 0) (.arr e n ((xs.drop lo).take len ++ ys)))) (hK2 : K (.vec s n lo (len + ys.length)) (σ.set s (.arr e n (xs.take (lo + len) ++ ys)))) :
    opWp (.app e n bytes x y) d K σ := by
  simp only [opWp]
  rw [hy]
  dsimp only
  rw [hx]
  dsimp only
  rw [hb]
  dsimp only
  exact .inr ⟨⟨rfl, rfl, rfl, hl⟩, h1, h2, hK1, hK2⟩
end
section
variable {P : Program} {σ : AS} {K : AS → Prop} {Q : AEx → AS → Prop}
theorem opsX_nil : opsX P [] K σ = K σ := rfl
theorem opsX_cons {o : LO} {r : List LO} : opsX P (o :: r) K σ = loX P o (hold (opsX P r K)) σ := rfl
theorem ltX_done : opsTX P .done K σ = K σ := rfl
theorem ltX_op {o : LO} {t : LT} : opsTX P (.op o t) K σ = loX P o (hold (opsTX P t K)) σ := rfl
theorem ltX_alt {o : LO} {t r : LT} : opsTX P (.alt o t r) K σ = (loX P o (hold (opsTX P t K)) σ ∧ hold (opsTX P r K) σ) := rfl
theorem ltX_no : opsTX P .no K σ = True := rfl
theorem loX_app {d : Nat} {e n b : Nat} {x y : Opd} {lt : Bool} : loX P ⟨some d, none, .app e n b x y, lt⟩ K σ = opWp (.app e n b x y) d (fun a τ => K (τ.putO (some d) a)) σ := rfl
theorem loX_other {o : LO} (h : ∀ e n b x y, o.op ≠ .app e n b x y) : loX P o K σ = loS P o K σ := by
  unfold loX
  split
  · rename_i e; exact absurd e (h _ _ _ _ _)
  · rfl
theorem awpX_skip : awpX P .skip Q σ = Q .normal σ := rfl
theorem awpX_region {ops : List LO} : awpX P (.region ops) Q σ = opsX P ops (Q .normal) σ := rfl
theorem awpX_regT {t : LT} : awpX P (.regT t) Q σ = opsTX P t (Q .normal) σ := rfl
theorem awpX_seq {a b : LCode} : awpX P (.seq a b) Q σ = awpX P a (thenA (hold (awpX P b Q)) Q) σ := rfl
theorem awpX_cond {c : Opd} {a b : LCode} : awpX P (.cond c a b) Q σ = csel (σ.o c) (hold (awpX P a Q)) (hold (awpX P b Q)) σ := rfl
theorem awpX_block {id : Nat} {c : LCode} : awpX P (.block id c) Q σ = awpX P c (blockA id Q) σ := rfl
theorem awpX_exit {id : Nat} : awpX P (.exit id) Q σ = Q (.exit id) σ := rfl
theorem awpX_ret : awpX P .ret Q σ = Q .ret σ := rfl
end
attribute [simp] opsX_nil opsX_cons ltX_done ltX_op loX_app loX_other awpX_skip awpX_region awpX_regT awpX_seq awpX_cond awpX_block awpX_exit awpX_ret
end Go.Proofs.Ytohhjnpiiackjaa
/-! What is known told in other words between two operations (base of tplr alone): a list of one's own handed over to a plain value, and back. Over any program. -/
namespace Go.Proofs.Ytohhjnpiiackjaa
open Go.RowKit
section
variable {N : Nat} {w0 : World} {m0 : Env w0} {pl : List Nat} {σ : AS} {ρ : Site → Loc} {m : Mem} {act : Act} {w : World} {K : AS → Prop}
/-- A slot by another reading. -/
theorem Sat.told (hS : Sat N w0 m0 pl σ ρ m act w) {t : Nat} {a b : AV} (ht : σ.t t = some a) (h : ∀ v, act.tmps[t]? = some v → RdA ρ m v a → RdA ρ m v b) : Sat N w0 m0 pl (σ.put t b) ρ m act w :=
  ⟨hS.nod, hS.sz, fun t' a' k => by
    have k' : List.lookup t' ((t, b) :: σ.tm) = some a' := k
    rcases Nat.decEq t' t with hne | rfl
    · rw [lookup_cons_ne hne] at k'; exact hS.tm t' a' k'
    · rw [lookup_cons_eq] at k'; cases k'
      obtain ⟨v, k1, k2⟩ := hS.tm _ _ ht
      exact ⟨v, k1, h v k1 k2⟩, hS.bx, hS.injk, hS.mem, hS.offk, hS.ownk, hS.keep, hS.base, hS.fro, hS.par⟩
/-- A list of one's own: its slice value by itself, and its block aside. -/
theorem Clo.thaw {t n : Nat} {s : Site} {e : TypeId} {xs : List PV} (ht : σ.t t = some (.vec s n 0 xs.length)) (hb : σ.b s = some (.arr e n xs)) (hx : xs ≠ []) (h : ∀ D, K ((σ.put t (.pv (.raw D))).set s (.ext (lkE D e n xs)))) : Clo K σ := by
  intro N w0 m0 pl ρ m act w hS
  obtain ⟨v, k1, k2⟩ := hS.tm t _ ht
  obtain ⟨hn, hB | ⟨hr, cs, g1, g2, g3, g4, g5⟩⟩ := hS.bx s _ hb
  · exact absurd hB.2.1 hx
  have hv : ∃ cap, v = .slice (some ⟨(ρ s).b, (ρ s).o, none⟩) xs.length cap ∧ xs.length ≤ cap ∧ cap ≤ (ρ s).cap := by
    generalize hl : xs.length = L at k2
    cases k2 with
    | vec _ _ _ _ cap h0 h1 h2 => exact ⟨cap, by simp, h0, by omega⟩
    | vec0 => exact absurd (List.length_eq_zero_iff.1 hl) hx
  obtain ⟨cap, rfl, c1, c2⟩ := hv
  refine ⟨_, ρ, m, h (.slice (some ⟨(ρ s).b, (ρ s).o, none⟩) xs.length cap), ?_⟩
  have h1 : Sat N w0 m0 pl (σ.put t (.pv (.raw (.slice (some ⟨(ρ s).b, (ρ s).o, none⟩) xs.length cap)))) ρ m act w := hS.told ht (fun u hu _ => by rw [k1] at hu; cases hu; exact .pv _ _ (.raw _ rfl))
  exact h1.setboxk (s := s) (b := .arr e n xs) hb hr (Keep.rfl' _ _) ⟨hr, hn, ⟨cap, rfl, c1, c2⟩, cs, g1, g2, g3, g4, g5⟩ (fun k hk => by cases hk)
/-- A slot that holds such a value, as the list. -/
theorem Clo.hand {t n : Nat} {s : Site} {e : TypeId} {xs : List PV} {D : Value} (ht : σ.t t = some (.pv (.raw D))) (hb : σ.b s = some (.ext (lkE D e n xs))) (h : K (σ.put t (.vec s n 0 xs.length))) : Clo K σ := by
  intro N w0 m0 pl ρ m act w hS
  obtain ⟨hr, hn, ⟨cap, hD, c1, c2⟩, _⟩ := hS.bx s _ hb
  refine ⟨_, ρ, m, h, hS.told ht (fun v _ k => ?_)⟩
  have hv : v = D := by
    cases k with
    | pv _ _ k => cases k; rfl
  have := RdA.vec (ρ := ρ) (m := m) s n 0 xs.length cap c1 (by omega) hr
  rw [hv, hD]
  simpa using this
/-- The block is written no more: the value reads as the list, where it stands in a list of structs. -/
theorem Clo.back {s1 s2 : Site} {k off n1 n : Nat} {e1 e : TypeId} {ys l xs : List PV} {D : Value} (hb1 : σ.b s1 = some (.arr e1 n1 ys)) (hb2 : σ.b s2 = some (.ext (lkE D e n xs))) (hy : ys[k]? = some (.agg l)) (hc : l[off]? = some (.raw D))
    (h : K (((σ.set s2 (.arr e n xs)).frz s2).set s1 (.arr e1 n1 (ys.set k (.agg (l.set off (.lst false n xs))))))) : Clo K σ := by
  intro N w0 m0 pl ρ m act w hS
  obtain ⟨hr, hn, ⟨cap, hD, c1, c2⟩, cs2, q1, q2, q3, q4, q5⟩ := hS.bx s2 _ hb2
  have hA : RdB ρ m w s2 (.arr e n xs) := ⟨hn, .inr ⟨hr, cs2, q1, q2, q3, q4, q5⟩⟩
  have h1 := hS.setboxk hb2 hr (Keep.rfl' _ _) hA (fun k hk => by cases hk)
  have hs2 : (σ.set s2 (.arr e n xs)).b s2 = some (.arr e n xs) := lookup_cons_eq
  have hm := Mem.le_with hS.mem (ρ s2)
  have hm2 : (ρ s2).real = true → ∀ o v, w.cell? ⟨(ρ s2).b, o, none⟩ = some v → m.with w (ρ s2) (ρ s2).b o = some v := fun hr o v hv => by unfold Mem.with; rw [if_pos ⟨hr, rfl⟩]; exact hv
  have ef : (σ.set s2 (.arr e n xs)).frz s2 = ⟨(σ.set s2 (.arr e n xs)).tm.map fun p => (p.1, p.2.frz s2 n xs), ((σ.set s2 (.arr e n xs)).bx.filter fun p => !decide (p.1 = s2)).map fun p => (p.1, p.2.frz s2 n xs)⟩ := by
    unfold AS.frz
    rw [hs2]
  have h2 : Sat N w0 m0 pl ((σ.set s2 (.arr e n xs)).frz s2) ρ (m.with w (ρ s2)) act w := by
    rw [ef]
    exact h1.frzG s2 hs2 n xs (fun v a hv => hv.frz hA hm hm2)
  have hDl : RdP (m.with w (ρ s2)) D (.lst false n xs) := by
    have hv : RdA ρ m D (.vec s2 n 0 xs.length) := by
      have := RdA.vec (ρ := ρ) (m := m) s2 n 0 xs.length cap c1 (by omega) hr
      rw [hD]
      simpa using this
    have := arr_lst hA hm hm2 (lo := 0) (len := xs.length) (by omega) hv
    simpa using this
  have hne : s1 ≠ s2 := fun e => by subst e; rw [hb1] at hb2; cases hb2
  have hb1' : ((σ.set s2 (.arr e n xs)).frz s2).b s1 = some (.arr e1 n1 ys) := by
    rw [ef]
    show List.lookup s1 (((σ.set s2 (.arr e n xs)).bx.filter fun p => !decide (p.1 = s2)).map fun p => (p.1, p.2.frz s2 n xs)) = _
    rw [lookup_map (Box.frz s2 n xs) s1, show List.lookup s1 ((σ.set s2 (.arr e n xs)).bx.filter fun p => !decide (p.1 = s2)) = _ from lookup_filter (fun x => !decide (x = s2)) s1 _]
    rw [if_pos (by simpa using hne)]
    have : List.lookup s1 (σ.set s2 (.arr e n xs)).bx = some (.arr e1 n1 ys) := by
      show (σ.set s2 (.arr e n xs)).b s1 = _
      rw [AS.b_set, if_neg hne]; exact hb1
    rw [this]; rfl
  obtain ⟨hn1, hB | ⟨hr1, cs, g1, g2, g3, g4, g5⟩⟩ := h2.bx s1 _ hb1'
  · rw [hB.2.1] at hy; simp at hy
  have hkl : k < ys.length := (List.getElem?_eq_some_iff.1 hy).1
  have hol : off < l.length := (List.getElem?_eq_some_iff.1 hc).1
  refine ⟨_, ρ, m.with w (ρ s2), h, h2.setboxk hb1' hr1 (Keep.rfl' _ _) ⟨hn1, .inr ⟨hr1, cs, g1, g2, by rw [List.length_set]; exact g3, g4, fun i x hx => ?_⟩⟩ (fun k hk => by cases hk)⟩
  rcases Nat.decEq k i with hki | rfl
  · rw [List.getElem?_set_ne hki] at hx
    exact g5 i x hx
  · rw [List.getElem?_set_self hkl] at hx
    cases hx
    obtain ⟨a1, a2⟩ := g5 k _ hy
    refine ⟨by simpa [PV.cells] using a1, fun j c hj => ?_⟩
    have hj' : (l.set off (.lst false n xs))[j]? = some c := hj
    rcases Nat.decEq off j with hoj | rfl
    · rw [List.getElem?_set_ne hoj] at hj'
      exact a2 j c hj'
    · rw [List.getElem?_set_self hol] at hj'
      cases hj'
      obtain ⟨d, r1, r2, r3⟩ := a2 off _ hc
      refine ⟨d, r1, r2, ?_⟩
      cases r3
      exact hDl
end
section
variable {P : Program} {Q : AEx → AS → Prop} {σ : AS} {K : AS → Prop}
theorem opsWp_cut : ∀ (l1 l2 : List LO) {σ : AS}, l1 ≠ [] → opsS P l1 (Clo (opsWp P l2 K)) σ → opsWp P (l1 ++ l2) K σ
  | [], _, _, h, _ => absurd rfl h
  | [o], l2, σ, _, h => loS_wp (K := Clo (opsWp P l2 K)) h
  | o :: o' :: r, l2, σ, _, h => loWp_mono (fun τ q => Clo.of (opsWp_cut (o' :: r) l2 (by simp) q)) (loS_wp h)
theorem Clo.join (h : Clo (Clo K) σ) : Clo K σ := fun N w0 m0 pl ρ m act w hS => let ⟨_, ρ', m', k1, k2⟩ := h N w0 m0 pl ρ m act w hS; k1 N w0 m0 pl ρ' m' act w k2
theorem Clo.sub {τ : AS} (h : Sub τ σ) (k : K τ) : Clo K σ := fun N w0 m0 pl ρ m act w hS => let ⟨ρ', m', k2⟩ := h N w0 m0 pl ρ m act w hS; ⟨τ, ρ', m', k, k2⟩
theorem Sub.frzs (fz : List Site) (σ : AS) : Sub (frzsL fz σ) σ := fun _ _ _ _ ρ _ _ _ hS => let ⟨m', _, h⟩ := Sat.frzsL fz hS; ⟨ρ, m', h⟩
theorem opsWp_cutW : ∀ (l1 l2 : List LO) {σ : AS}, l1 ≠ [] → opsWp P l1 (Clo (opsWp P l2 K)) σ → opsWp P (l1 ++ l2) K σ
  | [], _, _, h, _ => absurd rfl h
  | [o], l2, σ, _, h => loWp_mono (fun τ (q : Clo (Clo (opsWp P l2 K)) τ) => q.join) h
  | o :: o' :: r, l2, σ, _, h => loWp_mono (fun τ q => q.mono fun τ q => opsWp_cutW (o' :: r) l2 (by simp) q) h
theorem awp_cutW (k : Nat) {ops : List LO} (hk : ops.take k ≠ []) (h : opsWp P (ops.take k) (Clo (opsWp P (ops.drop k) (Q .normal))) σ) : awp P (.region ops) Q σ := by
  have := opsWp_cutW (K := Q .normal) (ops.take k) (ops.drop k) hk h
  rwa [List.take_append_drop] at this
/-- A region, parted. -/
theorem awp_cut (k : Nat) {ops : List LO} (hk : ops.take k ≠ []) (h : opsS P (ops.take k) (Clo (opsWp P (ops.drop k) (Q .normal))) σ) : awp P (.region ops) Q σ := by
  have := opsWp_cut (K := Q .normal) (ops.take k) (ops.drop k) hk h
  rwa [List.take_append_drop] at this
theorem awp_seqS {a b : LCode} (h : awpS P a (thenA (hold (awp P b Q)) Q) σ) : awp P (.seq a b) Q σ := (awpS_wp (c := a) h : awp P a (thenA (hold (awp P b Q)) Q) σ)
theorem awp_seqA {a b : LCode} (h : awp P a (thenA (awp P b Q) Q) σ) : awp P (.seq a b) Q σ := h
theorem awp_blk {id : Nat} {c : LCode} (h : awp P c (blockA id Q) σ) : awp P (.block id c) Q σ := h
theorem awp_cF {c : Opd} {a b : LCode} (hc : σ.o c = .pv (.bool false)) (h : awp P b Q σ) : awp P (.cond c a b) Q σ := by
  unfold awp; rw [hc]; exact h
theorem awp_cT {c : Opd} {a b : LCode} (hc : σ.o c = .pv (.bool true)) (h : awp P a Q σ) : awp P (.cond c a b) Q σ := by
  unfold awp; rw [hc]; exact h
theorem calls_of_awpBW (outs : List Site) {f : FuncId} {F : LFn} {args : List AV} {B : List (Site × Box)} {R : AV → List (Site × Box) → Prop} (hm : P.follows .mixedOrders = true) (hf : litF P f = some F) (hn : args.length ≤ F.nt)
    (h : awp P F.code (finQ (retB outs F.res R)) ⟨initT 0 args, B⟩) : CallsA P f args B R := calls_of_awp_gen hm hf hn (fun _ h => retB_wp h) h
/-- A store into such a block. -/
theorem osel_storeE {d n n' i off : Nat} {x y : Opd} {K : AV → AS → Prop} {s : Site} {D : Value} {e : TypeId} {xs : List PV} {z p : PV} (h1 : σ.o x = .elt s n' i off) (h2 : σ.b s = some (.ext (lkE D e n' xs))) (h3 : σ.o y = .pv p) (hz : xs[i]? = some z) (h5 : 0 < n) (h6 : p.cells.length = n) (h7 : (AV.pv p).wide = true ∨ (AV.pv p).one = true) (h8 : off + n ≤ z.cells.length)
    (hK : K .any (σ.set s (.ext (lkE D e n' (xs.set i (setAt z off p)))))) : osel none (.store n x y) d K σ := by
  show opWp (.store n x y) d K σ
  have hf : σ.frzA (σ.o y) = σ := by rw [h3]; rfl
  simp only [opWp]
  rw [h1]
  dsimp only
  rw [h2]
  dsimp only
  rw [hf, h2, h3]
  exact ⟨D, e, xs, z, rfl, hz, h5, h6, h7, h8, hK⟩
end
end Go.Proofs.Ytohhjnpiiackjaa
