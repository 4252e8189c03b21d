/- Readings of Go data as plain Lean values (ints, bools, structs, slices of any depth) over a memory of some cells; what keeps them; slices and blocks that a call owns and writes. No program here. (Several texts in one.) -/
import Derived.WalkKit
import Derived.Lib.Hide
import Derived.WalkSpells
import Derived.Deep.MidRow
import Derived.Laws.CopyRow
import Derived.Laws.Tables
import Derived.Laws.MakeOwn
import Derived.Laws.Small
import Derived.Great.BuildSlice
import Derived.Laws.Cover3
import Derived.Laws.Pointers
set_option linter.unusedVariables false
set_option linter.unusedSimpArgs false
/-! Readings of Go data as plain Lean values (ints, bools, structs, slices of any depth) over a memory of some cells; what keeps them; slices and blocks that a call owns and writes. No program here. -/
namespace Go.Proofs.Ytohhjnpiiackjaa
open Go.RowKit
/-- The world has grown: nothing that was there has changed. -/
abbrev Ext (w w' : World) : Prop := Below w.heap.size w w'
theorem Ext.rfl' (w : World) : Ext w w := Below.refl _ _
theorem Ext.trans' {a b c : World} (h : Ext a b) (k : Ext b c) : Ext a c := Below.trans h (Below.mono k h.size)
theorem Ext.al (w : World) (o : Obj) : Ext w (w.alloc o) := (Below.refl _ _).alloc (Nat.le_refl _) o
theorem Ext.dr (w : World) : Ext w w.drew := (Below.refl _ _).drew
theorem up {b n : Nat} (h : b < n) : b < n + 1 ∧ b < n+1+1 ∧ b < n+1+1+1 ∧ b < n+1+1+1+1 ∧ b < n+1+1+1+1+1 ∧ b < n+1+1+1+1+1+1 := by omega
theorem lt_of_cell {w : World} {b o : Nat} {v : Value} (h : w.cell? ⟨b, o, none⟩ = some v) : b < w.heap.size := by
  unfold World.cell? at h
  cases hb : w.heap[b]? with
  | none => simp [hb] at h
  | some x => exact (Array.getElem?_eq_some_iff.1 hb).1
theorem Ext.cell {w w' : World} (h : Ext w w') {b o : Nat} {v : Value} (hc : w.cell? ⟨b, o, none⟩ = some v) : w'.cell? ⟨b, o, none⟩ = some v :=
  (Below.cell h (p := ⟨b, o, none⟩) (lt_of_cell hc)).trans hc
/-- What the walk uses of old cells behind a call. -/
theorem Ext.cells {w w' : World} (h : Ext w w') : (∀ b o, b < w.heap.size → w'.cell? ⟨b, o, none⟩ = w.cell? ⟨b, o, none⟩) ∧ (∀ b o, b < w.heap.size → w'.frozen? ⟨b, o, none⟩ = w.frozen? ⟨b, o, none⟩) :=
  ⟨fun b o hb => Below.cell h (p := ⟨b, o, none⟩) hb, fun b o hb => Below.frozen h (p := ⟨b, o, none⟩) hb⟩
/-! ### Memory as a map -/
abbrev Mem := Nat → Nat → Option Value
def _root_.Go.World.mem (w : World) : Mem := fun b o => w.cell? ⟨b, o, none⟩
instance : Coe World Mem := ⟨World.mem⟩
/-- The memory without some blocks. -/
def _root_.Go.World.off (w : World) (S : List Nat) : Mem := fun b o => if b ∈ S then none else w.cell? ⟨b, o, none⟩
def Le (m m' : Mem) : Prop := ∀ b o v, m b o = some v → m' b o = some v
theorem Le.refl (m : Mem) : Le m m := fun _ _ _ h => h
theorem Le.trans {a b c : Mem} (h : Le a b) (k : Le b c) : Le a c := fun x o v e => k x o v (h x o v e)
theorem Ext.le {w w' : World} (h : Ext w w') : Le w.mem w'.mem := fun _ _ _ hc => h.cell hc
theorem off_mono (w : World) {S T : List Nat} (h : ∀ x ∈ T, x ∈ S) : Le (w.off S) (w.off T) := fun b o v hv => by
  unfold World.off at *
  split at hv
  · cases hv
  · rename_i hn
    rw [if_neg (fun e => hn (h b e))]; exact hv
theorem off_some {w : World} {S : List Nat} {b o : Nat} {v : Value} (h : w.off S b o = some v) : b ∉ S ∧ w.cell? ⟨b, o, none⟩ = some v := by
  unfold World.off at h
  split at h
  · cases h
  · rename_i hn; exact ⟨hn, h⟩
theorem off_mk {w : World} {S : List Nat} {b o : Nat} {v : Value} (hn : b ∉ S) (h : w.cell? ⟨b, o, none⟩ = some v) : w.off S b o = some v := by
  unfold World.off
  rw [if_neg hn]; exact h
theorem Ext.off {w w' : World} (h : Ext w w') (S : List Nat) : Le (w.off S) (w'.off S) := fun b o v hv =>
  let ⟨h1, h2⟩ := off_some hv; off_mk h1 (h.cell h2)
/-- New blocks may be left out. -/
theorem Ext.off_new {w w' : World} (h : Ext w w') (S T : List Nat) (hT : ∀ x ∈ T, x ∈ S ∨ w.heap.size ≤ x) : Le (w.off S) (w'.off T) := fun b o v hv =>
  let ⟨h1, h2⟩ := off_some hv
  off_mk (fun e => by
    rcases hT b e with h' | h'
    · exact h1 h'
    · have := lt_of_cell h2; omega) (h.cell h2)
theorem off_setCell (w : World) {S : List Nat} {b : Nat} (hb : b ∈ S) (o : Nat) (v : Value) : Le (w.off S) ((w.setCell ⟨b, o, none⟩ v).off S) := fun b' o' v' hv =>
  let ⟨h1, h2⟩ := off_some hv
  off_mk h1 (by rw [World.cell?_setCell_other _ _ _ _ (fun e => h1 (by cases e; exact hb))]; exact h2)
/-- The values cs lie one behind the other from the cell o of the block b on. -/
def At (m : Mem) (b : Nat) : Nat → List Value → Prop
  | _, [] => True
  | o, c :: cs => m b o = some c ∧ At m b (o + 1) cs
theorem At.mono {m m' : Mem} (h : Le m m') {b : Nat} : ∀ {cs : List Value} {o : Nat}, At m b o cs → At m' b o cs
  | [], _, _ => trivial
  | _ :: _, _, ⟨h1, h2⟩ => ⟨h _ _ _ h1, At.mono h h2⟩
theorem At.get {m : Mem} {b : Nat} : ∀ {cs : List Value} {o : Nat}, At m b o cs → ∀ (j : Nat) (u : Value), cs[j]? = some u → m b (o + j) = some u
  | [], _, _, j, u, h => by simp at h
  | c :: cs, o, ⟨h1, h2⟩, 0, u, h => by simp at h; subst h; exact h1
  | c :: cs, o, ⟨h1, h2⟩, j + 1, u, h => by
    have := At.get h2 j u (by simpa using h)
    rwa [show o + (j + 1) = o + 1 + j by omega]
theorem At.of_get {m : Mem} {b : Nat} : ∀ {cs : List Value} {o : Nat}, (∀ (j : Nat) (u : Value), cs[j]? = some u → m b (o + j) = some u) → At m b o cs
  | [], _, _ => trivial
  | c :: cs, o, h => ⟨h 0 c rfl, At.of_get (fun j u hj => by have := h (j + 1) u (by simpa using hj); rwa [show o + 1 + j = o + (j + 1) by omega])⟩
/-- How a Go type's data read as values of α: n cells; r: these cells, in this memory, read as this. -/
structure R (α : Type) where
  n : Nat
  r : Mem → List Value → α → Prop
  mono : ∀ {m m' : Mem} {cs : List Value} {x : α}, Le m m' → r m cs x → r m' cs x
  len : ∀ {m : Mem} {cs : List Value} {x : α}, r m cs x → cs.length = n
  one : ∀ {m : Mem} {cs : List Value} {x : α}, r m cs x → ∀ u ∈ cs, u.oneCell' = true
  npos : 0 < n
theorem R.ext {α : Type} (a : R α) {w w' : World} {cs : List Value} {x : α} (h : Ext w w') (k : a.r w cs x) : a.r w' cs x := a.mono h.le k
/-- A slice's address, length and capacity read as a list. -/
def SlAt {α : Type} (a : R α) (m : Mem) (ad : Option Addr) (cap : Nat) (xs : List α) : Prop :=
  xs.length ≤ cap ∧ cap ≤ 9223372036854775807 ∧ (ad = none → cap = 0) ∧ (∀ A, ad = some A → A.spot = none) ∧
    ∀ (i : Nat) (x : α), xs[i]? = some x → ∃ b o ds, ad = some ⟨b, o, none⟩ ∧ At m b (o + i * a.n) ds ∧ a.r m ds x
theorem SlAt.mono {α : Type} {a : R α} {m m' : Mem} (h : Le m m') {ad : Option Addr} {cap : Nat} {xs : List α} (hs : SlAt a m ad cap xs) : SlAt a m' ad cap xs :=
  ⟨hs.1, hs.2.1, hs.2.2.1, hs.2.2.2.1, fun i x hx => let ⟨b, o, ds, e, h1, h2⟩ := hs.2.2.2.2 i x hx; ⟨b, o, ds, e, h1.mono h, a.mono h h2⟩⟩
theorem SlAt.ext {α : Type} {a : R α} {w w' : World} {ad : Option Addr} {cap : Nat} {xs : List α} (hs : SlAt a w ad cap xs) (h : Ext w w') : SlAt a w' ad cap xs := hs.mono h.le
def RSl {α : Type} (a : R α) : R (List α) :=
  ⟨1, fun m cs xs => ∃ ad cap, cs = [.slice ad xs.length cap] ∧ SlAt a m ad cap xs,
    fun h ⟨ad, cap, e, hs⟩ => ⟨ad, cap, e, hs.mono h⟩, fun ⟨ad, cap, e, hs⟩ => by rw [e]; rfl, fun ⟨ad, cap, e, hs⟩ u hu => by rw [e] at hu; simp at hu; rw [hu]; rfl, by decide⟩
theorem SlAt.nil {α : Type} (a : R α) (m : Mem) : SlAt a m none 0 [] := ⟨by simp, by simp, fun _ => rfl, (fun A h => by simp at h), (fun i x h => by simp at h)⟩
theorem RSl.nil {α : Type} (a : R α) (m : Mem) : (RSl a).r m [.slice none 0 0] [] := ⟨none, 0, by simp, SlAt.nil a m⟩
theorem RSl.mk {α : Type} {a : R α} {m : Mem} {ad : Option Addr} {cap len : Nat} {xs : List α} (hl : len = xs.length) (h : SlAt a m ad cap xs) : (RSl a).r m [.slice ad len cap] xs := ⟨ad, cap, by rw [hl], h⟩
/-- A slice's element: its address, its cells. -/
theorem SlAt.gett {α : Type} {a : R α} {m : Mem} {ad : Option Addr} {cap : Nat} {xs : List α} (hs : SlAt a m ad cap xs) {i : Nat} (hi : i < xs.length) :
    ∃ b o x ds, ad = some ⟨b, o, none⟩ ∧ xs[i]? = some x ∧ At m b (o + i * a.n) ds ∧ a.r m ds x := by
  obtain ⟨b, o, ds, e, h1, h2⟩ := hs.2.2.2.2 i xs[i] (List.getElem?_eq_getElem hi)
  exact ⟨b, o, xs[i], ds, e, List.getElem?_eq_getElem hi, h1, h2⟩
theorem SlAt.get {α : Type} {a : R α} {w : World} {ad : Option Addr} {cap : Nat} {xs : List α} (hs : SlAt a w ad cap xs) {i : Nat} (hi : i < xs.length) :
    ∃ b o x ds, ad = some ⟨b, o, none⟩ ∧ b < w.heap.size ∧ xs[i]? = some x ∧ At w b (o + i * a.n) ds ∧ a.r w ds x := by
  obtain ⟨b, o, x, ds, e, h0, h1, h2⟩ := hs.gett hi
  refine ⟨b, o, x, ds, e, ?_, h0, h1, h2⟩
  match ds, a.len h2, h1 with
  | c :: cs, _, h => exact lt_of_cell h.1
  | [], h, _ => have := a.npos; simp at h; omega
theorem SlAt.len {α : Type} {a : R α} {m : Mem} {ad : Option Addr} {cap : Nat} {xs : List α} (hs : SlAt a m ad cap xs) : xs.length ≤ 9223372036854775807 := Nat.le_trans hs.1 hs.2.1
/-! ### Blocks that a call owns -/
def Blk (w : World) (B : Nat) (T : TypeId) (cs : List Value) : Prop := w.heap[B]? = some (.cells cs.toArray T (0, 0))
theorem Blk.lt {w : World} {B : Nat} {T : TypeId} {cs : List Value} (h : Blk w B T cs) : B < w.heap.size := (Array.getElem?_eq_some_iff.1 h).1
theorem Blk.cell {w : World} {B : Nat} {T : TypeId} {cs : List Value} (h : Blk w B T cs) (k : Nat) : w.cell? ⟨B, k, none⟩ = cs[k]? := by
  unfold Blk at h
  simp [World.cell?, h]
theorem Blk.frozen {w : World} {B : Nat} {T : TypeId} {cs : List Value} (h : Blk w B T cs) (k : Nat) : w.frozen? ⟨B, k, none⟩ = false := by
  unfold Blk at h
  simp [World.frozen?, h]
theorem Blk.set {w : World} {B : Nat} {T : TypeId} {cs : List Value} (h : Blk w B T cs) (k : Nat) (v : Value) : Blk (w.setCell ⟨B, k, none⟩ v) B T (cs.set k v) := by
  have hlt := h.lt
  unfold Blk at *
  have h' : w.heap[B] = .cells cs.toArray T (0, 0) := by simpa [Array.getElem?_eq_getElem hlt] using h
  show (w.heap.modify B _)[B]? = _
  rw [Array.getElem?_eq_getElem (by simpa using hlt), Array.getElem_modify_self, h']
  simp
theorem Blk.other {w : World} {B C : Nat} {T : TypeId} {cs : List Value} (h : Blk w B T cs) (hne : B ≠ C) (k : Nat) (v : Value) : Blk (w.setCell ⟨C, k, none⟩ v) B T cs := by
  unfold Blk at *
  rw [Below.heap_setCell _ _ _ _ hne]; exact h
theorem Blk.ext {w w' : World} {B : Nat} {T : TypeId} {cs : List Value} (h : Blk w B T cs) (hx : Ext w w') : Blk w' B T cs := by
  have := h.lt
  unfold Blk at *
  rw [hx.block B this]; exact h
theorem Blk.new (w : World) (cs : Array Value) (T : TypeId) : Blk (w.alloc (.cells cs T)) w.heap.size T cs.toList := by
  unfold Blk
  rw [heap_alloc_new]
theorem Blk.al {w : World} {B : Nat} {T : TypeId} {cs : List Value} (h : Blk w B T cs) (o : Obj) : Blk (w.alloc o) B T cs := h.ext (Ext.al _ _)
theorem Blk.dr {w : World} {B : Nat} {T : TypeId} {cs : List Value} (h : Blk w B T cs) : Blk w.drew B T cs := h.ext (Ext.dr _)
/-! ### Slices that a call owns and appends to -/
/-- The slice value v, nil or the head of a block of the call's own (none of S), reads as xs; what its elements lead to lies neither in its own block nor in S. -/
def OwnSl {α : Type} (a : R α) (e : TypeId) (S : List Nat) (w : World) (v : Value) (xs : List α) : Prop :=
  (v = .slice none 0 0 ∧ xs = []) ∨
  ∃ g cap cur, v = .slice (some ⟨g, 0, none⟩) xs.length cap ∧ g ∉ S ∧ w.heap[g]? = some (.cells cur e (0, 0)) ∧ xs.length ≤ cap ∧ cap ≤ maxLen ∧ cur.size = cap * a.n ∧
    ∀ (i : Nat) (x : α), xs[i]? = some x → ∃ ds, (∀ (j : Nat) (u : Value), ds[j]? = some u → cur[i * a.n + j]? = some u) ∧ a.r (w.off (g :: S)) ds x
def _root_.Go.Value.own (v : Value) : List Nat := v.ownBlock.toList
section
variable {α : Type} {a : R α} {e : TypeId} {S : List Nat} {w w' : World} {v : Value} {xs : List α}
theorem OwnSl.nil (a : R α) (e : TypeId) (S : List Nat) (w : World) : OwnSl a e S w (.slice none 0 0) [] := .inl ⟨rfl, rfl⟩
theorem OwnSl.move (h : OwnSl a e S w v xs) (hb : ∀ g, v.ownBlock = some g → w'.heap[g]? = w.heap[g]?) {S' : List Nat} (hS : ∀ g, v.ownBlock = some g → g ∉ S') (hle : ∀ g, v.ownBlock = some g → Le (w.off (g :: S)) (w'.off (g :: S'))) : OwnSl a e S' w' v xs := by
  rcases h with h | ⟨g, cap, cur, rfl, hg, hc, h1, h2, h3, h4⟩
  · exact .inl h
  · refine .inr ⟨g, cap, cur, rfl, hS g rfl, ?_, h1, h2, h3, fun i x hx => ?_⟩
    · rw [hb g rfl]; exact hc
    · obtain ⟨ds, k1, k2⟩ := h4 i x hx
      exact ⟨ds, k1, a.mono (hle g rfl) k2⟩
theorem OwnSl.lt (h : OwnSl a e S w v xs) : ∀ g, v.ownBlock = some g → g < w.heap.size ∧ g ∉ S := by
  intro g hg
  rcases h with ⟨rfl, _⟩ | ⟨g', cap, cur, rfl, hg', hc, _⟩
  · simp [Value.ownBlock] at hg
  · simp [Value.ownBlock] at hg
    subst hg
    exact ⟨(Array.getElem?_eq_some_iff.1 hc).1, hg'⟩
theorem OwnSl.ext (h : OwnSl a e S w v xs) (hx : Ext w w') : OwnSl a e S w' v xs :=
  h.move (fun g hg => hx.block g (h.lt g hg).1) (fun g hg => (h.lt g hg).2) (fun g _ => hx.off _)
theorem OwnSl.less (h : OwnSl a e S w v xs) {T : List Nat} (hT : ∀ x ∈ T, x ∈ S) : OwnSl a e T w v xs :=
  h.move (fun _ _ => rfl) (fun g hg e => (h.lt g hg).2 (hT g e)) (fun g _ => off_mono _ (fun x hx => by
    rcases List.mem_cons.1 hx with rfl | h'
    · simp
    · simp [hT x h']))
theorem OwnSl.set (h : OwnSl a e S w v xs) {b : Nat} (hb : b ∈ S) (o : Nat) (u : Value) : OwnSl a e S (w.setCell ⟨b, o, none⟩ u) v xs :=
  h.move (fun g hg => Below.heap_setCell _ _ _ _ (fun e => (h.lt g hg).2 (by rw [show g = b from e]; exact hb))) (fun g hg => (h.lt g hg).2) (fun g _ => off_setCell _ (by simp [hb]) _ _)
/-- What a call has built reads as a list, wherever it goes. -/
theorem OwnSl.sl (h : OwnSl a e S w v xs) : ∃ ad cap, v = .slice ad xs.length cap ∧ SlAt a (w.off S) ad cap xs := by
  rcases h with ⟨rfl, rfl⟩ | ⟨g, cap, cur, rfl, hg, hc, h1, h2, h3, h4⟩
  · exact ⟨none, 0, rfl, SlAt.nil _ _⟩
  · refine ⟨_, cap, rfl, h1, by simpa [maxLen] using h2, fun e => (by cases e), fun A hA => (by cases hA; rfl), fun i x hx => ?_⟩
    obtain ⟨ds, k1, k2⟩ := h4 i x hx
    refine ⟨g, 0, ds, rfl, At.of_get (fun j u hj => off_mk hg ?_), a.mono (off_mono _ (by simp +contextual)) k2⟩
    have := k1 j u hj
    simp [World.cell?, hc, this]
/-- What an append leaves. -/
structure Stp (w w' : World) (v v' : Value) : Prop where
  g : w.grownBy w' v.ownBlock
  f : v'.ownBlock = v.ownBlock ∨ ∃ k, v'.ownBlock = some k ∧ w.heap.size ≤ k
theorem Stp.off {v' : Value} (h : Stp w w' v v') : Le (w.off (v.own ++ S)) (w'.off (v'.own ++ S)) := fun b o u hu => by
  obtain ⟨h1, h2⟩ := off_some hu
  have hb := lt_of_cell h2
  have hne : some b ≠ v.ownBlock := fun e => h1 (by simp [Value.own, ← e])
  refine off_mk (fun e => ?_) (h.g.cell h2 hne)
  rcases List.mem_append.1 e with e1 | e1
  · rcases h.f with h3 | ⟨k, h3, h4⟩
    · exact h1 (by simp [Value.own] at e1 ⊢; rw [← h3]; exact .inl e1)
    · simp [Value.own, h3] at e1; omega
  · exact h1 (by simp [e1])
end
/-- A slice type's facts: its element's type, cells and bytes. -/
structure EI (P : Program) (t e : TypeId) (size bytes : Nat) : Prop where
  under : P.underlying t = some (.slice e)
  info : ∃ i z, P.info? e = some i ∧ i.zero = some z ∧ i.size = size ∧ i.bytes = bytes ∧ z.cells.size = size
theorem EI.of {P : Program} {t e : TypeId} {size bytes : Nat} {z : Value} (h : P.underlying t = some (.slice e)) (hi : (P.info? e).map (fun i => (i.zero, i.size, i.bytes)) = some (some z, size, bytes)) (hz : z.cells.size = size) : EI P t e size bytes := by
  refine ⟨h, ?_⟩
  cases hx : P.info? e with
  | none => rw [hx] at hi; cases hi
  | some i =>
    rw [hx] at hi
    simp only [Option.map_some, Option.some.injEq, Prod.mk.injEq] at hi
    exact ⟨i, z, rfl, hi.1, hi.2.1, hi.2.2, hz⟩
end Go.Proofs.Ytohhjnpiiackjaa
/-! append onto a slice that the call owns, of a whole slice; make; over any program. -/
namespace Go.Proofs.Ytohhjnpiiackjaa
open Go.RowKit
theorem flat_cells {α : Type} (a : R α) (m : Mem) (b : Nat) : ∀ (ys : List α) (o : Nat), (∀ (i : Nat) (y : α), ys[i]? = some y → ∃ ds, At m b (o + i * a.n) ds ∧ a.r m ds y) →
    ∃ news : List Value, news.length = ys.length * a.n ∧ At m b o news ∧ (∀ u ∈ news, u.oneCell' = true) ∧
      ∀ (i : Nat) (y : α), ys[i]? = some y → ∃ ds, (∀ (j : Nat) (u : Value), ds[j]? = some u → news[i * a.n + j]? = some u) ∧ a.r m ds y := by
  intro ys
  induction ys with
  | nil => exact fun o _ => ⟨[], by simp, trivial, by simp, fun i y h => by simp at h⟩
  | cons y t ih =>
    intro o h
    obtain ⟨ds, h1, h2⟩ := h 0 y rfl
    obtain ⟨news, k1, k2, k3, k4⟩ := ih (o + a.n) (fun i z hz => by
      obtain ⟨ds, h1, h2⟩ := h (i + 1) z (by simpa using hz)
      exact ⟨ds, by rwa [show o + a.n + i * a.n = o + (i + 1) * a.n by rw [Nat.add_mul]; omega], h2⟩)
    have hl := a.len h2
    refine ⟨ds ++ news, ?_, ?_, ?_, ?_⟩
    · rw [List.length_append, hl, k1, List.length_cons, Nat.add_mul]; omega
    · refine At.of_get (fun j u hj => ?_)
      rw [List.getElem?_append] at hj
      split at hj
      · simpa using h1.get j u hj
      · have := k2.get _ u hj
        rwa [show o + a.n + (j - ds.length) = o + j by omega] at this
    · intro u hu
      rcases List.mem_append.1 hu with hu | hu
      · exact a.one h2 u hu
      · exact k3 u hu
    · intro i z hz
      cases i with
      | zero =>
        simp at hz; subst hz
        exact ⟨ds, fun j u hj => by rw [Nat.zero_mul, Nat.zero_add, List.getElem?_append_left (List.getElem?_eq_some_iff.1 hj).1]; exact hj, h2⟩
      | succ i =>
        obtain ⟨ds', h3, h4⟩ := k4 i z (by simpa using hz)
        refine ⟨ds', fun j u hj => ?_, h4⟩
        rw [List.getElem?_append_right (by rw [hl, Nat.add_mul]; omega), hl, show (i + 1) * a.n + j - a.n = i * a.n + j by rw [Nat.add_mul]; omega]
        exact h3 j u hj
theorem elems_app {α : Type} {n : Nat} {r : List Value → α → Prop} {xs ys : List α} {A B : List Value} (hA : A.length = xs.length * n)
    (h1 : ∀ (i : Nat) (x : α), xs[i]? = some x → ∃ ds, (∀ (j : Nat) (u : Value), ds[j]? = some u → A[i * n + j]? = some u) ∧ r ds x)
    (h2 : ∀ (i : Nat) (x : α), ys[i]? = some x → ∃ ds, (∀ (j : Nat) (u : Value), ds[j]? = some u → B[i * n + j]? = some u) ∧ r ds x) :
    ∀ (i : Nat) (x : α), (xs ++ ys)[i]? = some x → ∃ ds, (∀ (j : Nat) (u : Value), ds[j]? = some u → (A ++ B)[i * n + j]? = some u) ∧ r ds x := by
  intro i x hx
  rw [List.getElem?_append] at hx
  split at hx
  · obtain ⟨ds, k1, k2⟩ := h1 i x hx
    exact ⟨ds, fun j u hj => by
      have := k1 j u hj
      rw [List.getElem?_append_left (List.getElem?_eq_some_iff.1 this).1]; exact this, k2⟩
  · rename_i hn
    obtain ⟨ds, k1, k2⟩ := h2 _ x hx
    refine ⟨ds, fun j u hj => ?_, k2⟩
    have := k1 j u hj
    have e : i * n = A.length + (i - xs.length) * n := by rw [hA, ← Nat.add_mul]; congr 1; omega
    rw [List.getElem?_append_right (by omega), show i * n + j - A.length = (i - xs.length) * n + j by omega]
    exact this
theorem add_at {b o j : Nat} : (⟨b, o, none⟩ : Addr).add j = ⟨b, o + j, none⟩ := by unfold Addr.add; split <;> simp_all
section
variable {P : Program} {α : Type} {a : R α} {t ty e : TypeId} {bytes : Nat} {S : List Nat} {w : World} {v : Value} {xs ys : List α} {ad : Option Addr} {cp : Nat}
theorem run_app (E : EI P t e a.n bytes) (hown : OwnSl a e S w v xs) (hy : SlAt a (w.off (v.own ++ S)) ad cp ys)
    (h63 : xs.length + ys.length ≤ maxLen) (hbytes : (xs.length + ys.length) * bytes ≤ 140737488355328) (hS : ∀ x ∈ S, x < w.heap.size) :
    ∃ v' w', (Builtin.append_ #[t, t] ty #[v, .slice ad ys.length cp]).run P w = .ok v' w' ∧ OwnSl a e S w' v' (xs ++ ys) ∧ Stp w w' v v' := by
  obtain ⟨i, z, hi, hz, hsz, hby, hzs⟩ := E.info
  have hpos := a.npos
  have hsmall : xs.length + ys.length ≤ 9223372036854775807 := by simpa [maxLen] using h63
  have same : ys = [] → (Builtin.append_ #[t, t] ty #[v, .slice ad ys.length cp]).run P w = .ok v w →
      ∃ v' w', (Builtin.append_ #[t, t] ty #[v, .slice ad ys.length cp]).run P w = .ok v' w' ∧ OwnSl a e S w' v' (xs ++ ys) ∧ Stp w w' v v' := by
    intro hy0 hr
    exact ⟨v, w, hr, by rw [hy0, List.append_nil]; exact hown, ⟨rfl, rfl, rfl, Nat.le_refl _, fun _ _ _ => rfl⟩, .inl rfl⟩
  cases had : ad with
  | none =>
    subst had
    have hc := hy.2.2.1 rfl
    have hy0 : ys = [] := List.eq_nil_of_length_eq_zero (by have := hy.1; omega)
    refine same hy0 ?_
    subst hc; subst hy0
    rcases hown with ⟨rfl, rfl⟩ | ⟨g, cap, cur, rfl, hg, hc, h1, h2, h3, h4⟩
    · exact run_append_owned_none (P := P) w 0 t ty e i a.n E.under hi _ 0 [] (World.ownsRow_nil w 0 e a.n)
    · exact run_append_owned_none (P := P) w 0 t ty e i a.n E.under hi _ xs.length _ ⟨by rw [List.length_take, Array.length_toList]; exact Nat.min_eq_left (by show xs.length * a.n ≤ cur.size; rw [h3]; exact Nat.mul_le_mul_right _ h1), .inr ⟨g, cap, cur, rfl, Nat.zero_le _, hc, h1, h2, h3, rfl⟩⟩
  | some A =>
    obtain ⟨b, o, sp⟩ := A
    have hsp : sp = none := hy.2.2.2.1 _ had
    subst hsp
    subst had
    have hex : ∀ (i : Nat) (y : α), ys[i]? = some y → ∃ ds, At (w.off (v.own ++ S)) b (o + i * a.n) ds ∧ a.r (w.off (v.own ++ S)) ds y := by
      intro i y hiy
      obtain ⟨b', o', ds, e1, k1, k2⟩ := hy.2.2.2.2 i y hiy
      cases e1
      exact ⟨ds, k1, k2⟩
    obtain ⟨news, n1, n2, n3, n4⟩ := flat_cells a (w.off (v.own ++ S)) b ys o hex
    have hnews : ∀ (j : Nat) (u : Value), news[j]? = some u → w.cell? ((⟨b, o, none⟩ : Addr).add j) = some u := fun j u hj => by
      rw [add_at]; exact (off_some (n2.get j u hj)).2
    rw [← hsz] at n1
    -- a new block
    have fresh : ∀ (A : List Value) (old : Nat) (row : Option Nat), A.length = xs.length * a.n → old < xs.length + ys.length →
        (∀ (i : Nat) (x : α), xs[i]? = some x → ∃ ds, (∀ (j : Nat) (u : Value), ds[j]? = some u → A[i * a.n + j]? = some u) ∧ a.r (w.off (v.own ++ S)) ds x) →
        OwnSl a e S (w.drew.alloc (.cells (A.toArray ++ news.toArray ++ Builtin.zeroCells z.cells (grownCap w (xs.length + ys.length) old e - (xs.length + ys.length))) e))
          (.slice (some ⟨w.heap.size, 0, none⟩) (xs.length + ys.length) (grownCap w (xs.length + ys.length) old e)) (xs ++ ys) ∧
        Stp w (w.drew.alloc (.cells (A.toArray ++ news.toArray ++ Builtin.zeroCells z.cells (grownCap w (xs.length + ys.length) old e - (xs.length + ys.length))) e)) v
          (.slice (some ⟨w.heap.size, 0, none⟩) (xs.length + ys.length) (grownCap w (xs.length + ys.length) old e)) := by
      intro A old row hA ho hel
      have hge := grownCap_ge w (xs.length + ys.length) old e
      have hcm : grownCap w (xs.length + ys.length) old e ≤ maxLen := grownCap_le_maxLen w _ old e h63
      have hx : Ext w (w.drew.alloc (.cells (A.toArray ++ news.toArray ++ Builtin.zeroCells z.cells (grownCap w (xs.length + ys.length) old e - (xs.length + ys.length))) e)) :=
        (Ext.dr w).trans' (Ext.al _ _)
      refine ⟨.inr ⟨w.heap.size, _, _, by rw [List.length_append], fun h => Nat.lt_irrefl _ (hS _ h), heap_alloc_new w.drew _, by rw [List.length_append]; exact hge, hcm, ?_, ?_⟩, ⟨rfl, rfl, rfl, by simp, fun k hk _ => heap_alloc_old w.drew _ hk⟩, .inr ⟨_, rfl, Nat.le_refl _⟩⟩
      · simp only [Array.size_append, List.size_toArray, size_zeroCells, hzs, hA, n1, hsz, ← Nat.add_mul]
        congr 1
        omega
      · intro i x hix
        obtain ⟨ds, k1, k2⟩ := elems_app (r := fun ds x => a.r (w.off (v.own ++ S)) ds x) hA hel n4 i x hix
        refine ⟨ds, fun j u hj => ?_, a.mono (hx.off_new _ _ (fun x hx' => ?_)) k2⟩
        · have := k1 j u hj
          rw [← Array.getElem?_toList]
          simp only [Array.toList_append]
          rw [List.getElem?_append_left (List.getElem?_eq_some_iff.1 this).1]
          exact this
        · rcases List.mem_cons.1 hx' with rfl | h'
          · exact .inr (Nat.le_refl _)
          · exact .inl (by simp [h'])
    have hown0 := hown
    rcases hown with ⟨rfl, rfl⟩ | ⟨g, cap, cur, rfl, hg, hc, h1, h2, h3, h4⟩
    · by_cases hy0 : ys = []
      · subst hy0
        refine same rfl ?_
        simp [Builtin.append_, run_underlying E.under, sizeOf, typeInfo, hi, Builtin.lenOf, Builtin.firstCells, loadCells, loadCellsFrom]
      · have hl : 0 < ys.length := List.length_pos_iff.2 hy0
        have hr := run_append_nil (P := P) w t ty e i z E.under hi hz ⟨b, o, none⟩ ys.length cp news n1 hnews (by omega) (by simp at hsmall; omega) (by rw [hby]; simp at hbytes; omega)
        have hf := fresh [] 0 none (by simp) (by simpa using hl) (fun i x h => by simp at h)
        simp only [List.length_nil, Nat.zero_add, List.nil_append, Array.empty_append] at hf ⊢
        exact ⟨_, _, hr, hf⟩
    · have hle : xs.length * a.n ≤ cur.size := by rw [h3]; exact Nat.mul_le_mul_right _ h1
      have olds : (cur.toList.take (xs.length * a.n)).length = xs.length * a.n := by rw [List.length_take, Array.length_toList]; exact Nat.min_eq_left hle
      have hel : ∀ (i : Nat) (x : α), xs[i]? = some x → ∃ ds, (∀ (j : Nat) (u : Value), ds[j]? = some u → (cur.toList.take (xs.length * a.n))[i * a.n + j]? = some u) ∧ a.r (w.off (Value.own (.slice (some ⟨g, 0, none⟩) xs.length cap) ++ S)) ds x := by
        intro i x hix
        obtain ⟨ds, k1, k2⟩ := h4 i x hix
        have hdl := a.len k2
        refine ⟨ds, fun j u hj => ?_, k2⟩
        have hil : i < xs.length := (List.getElem?_eq_some_iff.1 hix).1
        have hjl : j < ds.length := (List.getElem?_eq_some_iff.1 hj).1
        have : i * a.n + j < xs.length * a.n := by
          have : (i + 1) * a.n ≤ xs.length * a.n := Nat.mul_le_mul_right _ hil
          rw [Nat.add_mul] at this; omega
        rw [List.getElem?_take_of_lt this, Array.getElem?_toList]
        exact k1 j u hj
      by_cases hroom : xs.length + ys.length ≤ cap
      · have hfit : xs.length * i.size + news.length ≤ cur.size := by rw [n1, h3, ← Nat.add_mul, hsz]; exact Nat.mul_le_mul_right _ hroom
        have hr := run_append_room (P := P) w t ty e i E.under hi g xs.length cap cur hc ⟨b, o, none⟩ ys.length cp news n1 hnews n3 hroom hfit
        have hstp : Stp w (w.setRow g (cur.toList.take (xs.length * i.size) ++ news ++ cur.toList.drop (xs.length * i.size + news.length)).toArray) (.slice (some ⟨g, 0, none⟩) xs.length cap) (.slice (some ⟨g, 0, none⟩) (xs.length + ys.length) cap) :=
          ⟨⟨rfl, rfl, rfl, by simp, fun k _ hk => setRow_other w g k _ (fun e => hk (by simp [Value.ownBlock, e]))⟩, .inl rfl⟩
        refine ⟨_, _, hr, .inr ⟨g, cap, _, by rw [List.length_append], hg, setRow_heap w g cur _ e _ hc, by rw [List.length_append]; exact hroom, h2, ?_, ?_⟩, hstp⟩
        · simp only [List.size_toArray, List.length_append, List.length_take, List.length_drop, Array.length_toList]
          omega
        · intro k x hkx
          obtain ⟨ds, k1, k2⟩ := elems_app (r := fun ds x => a.r (w.off (Value.own (.slice (some ⟨g, 0, none⟩) xs.length cap) ++ S)) ds x) olds hel n4 k x hkx
          refine ⟨ds, fun j u hj => ?_, a.mono hstp.off k2⟩
          have := k1 j u hj
          rw [List.getElem?_toArray, hsz, List.getElem?_append_left (List.getElem?_eq_some_iff.1 this).1]
          exact this
      · have holds : ∀ (j : Nat) (u : Value), (cur.toList.take (xs.length * a.n))[j]? = some u → w.cell? ((⟨g, 0, none⟩ : Addr).add j) = some u := by
          intro j u hj
          rw [add_at, Nat.zero_add, cell_of_row w g j cur e (0, 0) hc]
          rw [List.getElem?_take] at hj
          split at hj
          · simpa using hj
          · cases hj
        have hr := run_append_grow (P := P) w t ty e i z E.under hi hz ⟨g, 0, none⟩ xs.length cap _ (by rw [hsz]; exact olds) holds ⟨b, o, none⟩ ys.length cp news n1 hnews (by omega) (by omega) (growslice_fits (by omega) (by rw [hby]; exact hbytes))
        have hf := fresh _ cap none olds (by omega) hel
        exact ⟨_, _, hr, hf⟩
/-- One element behind a new one-element block, as 'append(s, x)' lays it. -/
theorem SlAt.one {w : World} {T : List Nat} {ds : List Value} {y : α} {B : Nat} {T' : TypeId} {cs : Array Value} (hb : w.heap[B]? = some (.cells cs T' (0, 0))) (hcs : cs.toList = ds) (hB : B ∉ T) (hy : a.r (w.off T) ds y) :
    SlAt a (w.off T) (some ⟨B, 0, none⟩) 1 [y] := by
  refine ⟨by simp, by decide, fun e => (by cases e), fun A hA => (by cases hA; rfl), fun i x hx => ?_⟩
  cases i with
  | succ i => simp at hx
  | zero =>
    simp at hx; subst hx
    refine ⟨B, 0, ds, rfl, At.of_get (fun j u hj => off_mk hB ?_), hy⟩
    rw [show 0 + 0 * a.n + j = j by omega, cell_of_row w B j cs T' (0, 0) hb, ← Array.getElem?_toList, hcs]
    exact hj
end
end Go.Proofs.Ytohhjnpiiackjaa
/-! What is known of variables that nobody writes. This seat's programs read none. -/
namespace Go.Proofs.Ytohhjnpiiackjaa
open Go.RowKit
def Glob (_ : Mem) (_ : World) : Prop := True
theorem Glob.mono {m m' : Mem} {w : World} (_ : Glob m w) (_ : Le m m') : Glob m' w := trivial
theorem Glob.keep {m : Mem} {w w' : World} (_ : Glob m w) (_ : ∀ k o v, k < w.heap.size → m k o = some v → w'.heap[k]? = w.heap[k]?) : Glob m w' := trivial
end Go.Proofs.Ytohhjnpiiackjaa
/-! An evaluation of Go's code over plain values. Values, boxes, what they say of a memory. No program here. -/
namespace Go.Proofs.Ytohhjnpiiackjaa
open Go.RowKit
/-- Plain values: nothing in them is written any more. 'emp': a slice without room; 'lst nn n xs': a slice of elements of n cells (nn: surely not nil); 'ref cs': a pointer to cells that nobody writes; 'opq': any value of one cell; 'raw': that value. -/
inductive PV where
  | int (k : IntKind) (n : Int)
  | bool (b : Bool)
  | str (s : ByteArray)
  | nilp
  | nilfn
  | nilmap
  | nilif
  | opq
  | raw (v : Value)
  | emp (nl : Option Bool)
  | lst (nn : Bool) (n : Nat) (xs : List PV)
  | ref (cs : List PV)
  | fn (f : FuncId) (fs cs : List PV)
  | agg (cs : List PV)
  | tup (vs : List PV)
  | iface (t : TypeId) (x : PV)
  deriving Inhabited
def PV.cells : PV → List PV
  | .agg cs => cs
  | x => [x]
/-- Nothing is asked of the address of an empty slice. -/
abbrev PlainA (A : Addr) : Prop := A.spot = A.spot
/-- The value v, in the memory m, reads as x. -/
inductive RdP (m : Mem) : Value → PV → Prop where
  | int (k n) : RdP m (.int k n) (.int k n)
  | bool (b) : RdP m (.bool b) (.bool b)
  | str (s) : RdP m (.string s) (.str s)
  | nilp : RdP m (.pointer none) .nilp
  | nilfn : RdP m .nilFunc .nilfn
  | nilmap : RdP m (.map none) .nilmap
  | nilif : RdP m .nilIface .nilif
  | opq (v : Value) (h : v.oneCell' = true) : RdP m v .opq
  | raw (v : Value) (h : v.oneCell' = true) : RdP m v (.raw v)
  | emp (a : Option Addr) (nl : Option Bool) (h0 : nl = some true → a = none) (h1 : nl = some false → a ≠ none) (h2 : ∀ A, a = some A → PlainA A) : RdP m (.slice a 0 0) (.emp nl)
  | lst (a : Option Addr) (cap : Nat) (nn : Bool) (n : Nat) (xs : List PV) (ds : Nat → List Value) (h0 : xs.length ≤ cap) (h1 : cap ≤ 9223372036854775807)
      (h2 : a = none → cap = 0) (h3 : ∀ A, a = some A → PlainA A) (h4 : nn = true → a ≠ none)
      (h5 : ∀ (i : Nat) (x : PV), xs[i]? = some x → ∃ b o, a = some ⟨b, o, none⟩ ∧ At m b (o + i * n) (ds i))
      (h6 : ∀ (i : Nat) (x : PV), xs[i]? = some x → (ds i).length = n ∧ x.cells.length = n ∧ ∀ d ∈ ds i, d.oneCell' = true)
      (h7 : ∀ (i : Nat) (x : PV) (j : Nat) (d : Value) (c : PV), xs[i]? = some x → (ds i)[j]? = some d → x.cells[j]? = some c → RdP m d c) : RdP m (.slice a xs.length cap) (.lst nn n xs)
  | ref (b o : Nat) (cs : List PV) (ds : List Value) (h0 : At m b o ds) (h1 : ds.length = cs.length) (h2 : ∀ d ∈ ds, d.oneCell' = true)
      (h3 : ∀ (j : Nat) (d : Value) (c : PV), ds[j]? = some d → cs[j]? = some c → RdP m d c) : RdP m (.pointer (some ⟨b, o, none⟩)) (.ref cs)
  | fn (f : FuncId) (vf vc : Array Value) (fs cs : List PV) (h0 : vf.size = fs.length) (h1 : vc.size = cs.length)
      (h2 : ∀ (j : Nat) (d : Value) (c : PV), vf[j]? = some d → fs[j]? = some c → RdP m d c) (h3 : ∀ (j : Nat) (d : Value) (c : PV), vc[j]? = some d → cs[j]? = some c → RdP m d c) : RdP m (.func (.func f) vf vc) (.fn f fs cs)
  | agg (vs : Array Value) (cs : List PV) (h0 : vs.size = cs.length) (h1 : ∀ d ∈ vs, d.oneCell' = true) (h2 : ∀ (j : Nat) (d : Value) (c : PV), vs[j]? = some d → cs[j]? = some c → RdP m d c) : RdP m (.agg vs) (.agg cs)
  | tup (vs : Array Value) (cs : List PV) (h0 : vs.size = cs.length) (h2 : ∀ (j : Nat) (d : Value) (c : PV), vs[j]? = some d → cs[j]? = some c → RdP m d c) : RdP m (.tuple vs) (.tup cs)
  | iface (t : TypeId) (v : Value) (x : PV) (h : RdP m v x) : RdP m (.iface t v) (.iface t x)
theorem RdP.mono {m m' : Mem} (hm : Le m m') {v : Value} {x : PV} (h : RdP m v x) : RdP m' v x := by
  induction h with
  | int k n => exact .int k n
  | bool b => exact .bool b
  | str s => exact .str s
  | nilp => exact .nilp
  | nilfn => exact .nilfn
  | nilmap => exact .nilmap
  | nilif => exact .nilif
  | opq v h => exact .opq v h
  | raw v h => exact .raw v h
  | emp a nl h0 h1 h2 => exact .emp a nl h0 h1 h2
  | lst a cap nn n xs ds h0 h1 h2 h3 h4 h5 h6 h7 ih => exact .lst a cap nn n xs ds h0 h1 h2 h3 h4 (fun i x hx => let ⟨b, o, e, k⟩ := h5 i x hx; ⟨b, o, e, k.mono hm⟩) h6 ih
  | ref b o cs ds h0 h1 h2 h3 ih => exact .ref b o cs ds (h0.mono hm) h1 h2 ih
  | fn f vf vc fs cs h0 h1 h2 h3 ih1 ih2 => exact .fn f vf vc fs cs h0 h1 ih1 ih2
  | agg vs cs h0 h1 h2 ih => exact .agg vs cs h0 h1 ih
  | tup vs cs h0 h2 ih => exact .tup vs cs h0 ih
  | iface t v x h ih => exact .iface t v x ih
/-- Who owns a block: the i-th of those that came in; the j-th that the operation with the slot d made. -/
inductive Site where
  | par (i : Nat)
  | loc (d j : Nat)
  | ret (j : Nat)
  deriving DecidableEq, Inhabited
def Site.isLoc (d : Nat) : Site → Bool
  | .loc e _ => d == e
  | _ => false
structure Loc where
  b : Nat
  o : Nat
  cap : Nat
  real : Bool
  deriving Inhabited
/-- Values with handles to boxes. -/
inductive AV where
  | any
  | pv (x : PV)
  | ptr (s : Site) (off : Nat)
  | elt (s : Site) (n i off : Nat)
  | vec (s : Site) (n lo len : Nat)
  | mp (s : Site)
  | yld (s : Site)
  | fn (f : FuncId) (fs cs : List AV)
  | agg (cs : List AV)
  | tup (vs : List AV)
  deriving Inhabited
def AV.cells : AV → List AV
  | .agg cs => cs
  | .pv (.agg cs) => cs.map .pv
  | a => [a]
inductive RdA (ρ : Site → Loc) (m : Mem) : Value → AV → Prop where
  | any (v) : RdA ρ m v .any
  | pv (v x) (h : RdP m v x) : RdA ρ m v (.pv x)
  | ptr (s off) : RdA ρ m (.pointer (some ⟨(ρ s).b, off, none⟩)) (.ptr s off)
  | elt (s n i off) : RdA ρ m (.pointer (some ⟨(ρ s).b, (ρ s).o + i * n + off, none⟩)) (.elt s n i off)
  | vec (s n lo len cap) (h0 : len ≤ cap) (h1 : lo + cap ≤ (ρ s).cap) (h2 : (ρ s).real = true) : RdA ρ m (.slice (some ⟨(ρ s).b, (ρ s).o + lo * n, none⟩) len cap) (.vec s n lo len)
  | vec0 (s n lo a) (h : ∀ A, a = some A → PlainA A) : RdA ρ m (.slice a 0 0) (.vec s n lo 0)
  | mp (s) : RdA ρ m (.map (some (ρ s).b)) (.mp s)
  | yld (s) : RdA ρ m (.func (.yield (ρ s).b) #[] #[]) (.yld s)
  | fn (f : FuncId) (vf vc : Array Value) (fs cs : List AV) (h0 : vf.size = fs.length) (h1 : vc.size = cs.length)
      (h2 : ∀ (j : Nat) (d : Value) (c : AV), vf[j]? = some d → fs[j]? = some c → RdA ρ m d c) (h3 : ∀ (j : Nat) (d : Value) (c : AV), vc[j]? = some d → cs[j]? = some c → RdA ρ m d c) : RdA ρ m (.func (.func f) vf vc) (.fn f fs cs)
  | agg (vs : Array Value) (cs : List AV) (h0 : vs.size = cs.length) (h1 : ∀ d ∈ vs, d.oneCell' = true) (h2 : ∀ (j : Nat) (d : Value) (c : AV), vs[j]? = some d → cs[j]? = some c → RdA ρ m d c) : RdA ρ m (.agg vs) (.agg cs)
  | tup (vs : Array Value) (cs : List AV) (h0 : vs.size = cs.length) (h2 : ∀ (j : Nat) (d : Value) (c : AV), vs[j]? = some d → cs[j]? = some c → RdA ρ m d c) : RdA ρ m (.tuple vs) (.tup cs)
mutual
def AV.has (d : Nat) : AV → Bool
  | .any => false
  | .pv _ => false
  | .ptr s _ => s.isLoc d
  | .elt s _ _ _ => s.isLoc d
  | .vec s _ _ _ => s.isLoc d
  | .mp s => s.isLoc d
  | .yld s => s.isLoc d
  | .fn _ fs cs => AV.hasL d fs || AV.hasL d cs
  | .agg cs => AV.hasL d cs
  | .tup vs => AV.hasL d vs
def AV.hasL (d : Nat) : List AV → Bool
  | [] => false
  | a :: r => AV.has d a || AV.hasL d r
end
theorem AV.hasL_get {d : Nat} : ∀ {l : List AV} {i : Nat} {a : AV}, AV.hasL d l = false → l[i]? = some a → a.has d = false
  | [], i, a, _, h => by simp at h
  | b :: r, 0, a, hl, h => by
    simp [AV.hasL] at hl h; subst h; exact hl.1
  | b :: r, i + 1, a, hl, h => by
    simp only [AV.hasL, Bool.or_eq_false_iff] at hl
    exact AV.hasL_get hl.2 (by simpa using h)
/-- Readings stay: more memory; other places of the sites that a slot makes anew. -/
theorem RdA.mono {ρ ρ' : Site → Loc} {m m' : Mem} (hm : Le m m') {d : Nat} (hρ : ∀ s, s.isLoc d = false → ρ' s = ρ s) {v : Value} {a : AV} (h : RdA ρ m v a) (ha : a.has d = false) : RdA ρ' m' v a := by
  induction h with
  | any v => exact .any v
  | pv v x h => exact .pv v x (h.mono hm)
  | ptr s off => rw [AV.has] at ha; rw [← hρ s ha]; exact .ptr s off
  | elt s n i off => rw [AV.has] at ha; rw [← hρ s ha]; exact .elt s n i off
  | vec s n lo len cap h0 h1 h2 => rw [AV.has] at ha; rw [← hρ s ha] at h1 h2 ⊢; exact .vec s n lo len cap h0 h1 h2
  | vec0 s n lo a h => exact .vec0 s n lo a h
  | mp s => rw [AV.has] at ha; rw [← hρ s ha]; exact .mp s
  | yld s => rw [AV.has] at ha; rw [← hρ s ha]; exact .yld s
  | fn f vf vc fs cs h0 h1 h2 h3 ih2 ih3 =>
    simp only [AV.has, Bool.or_eq_false_iff] at ha
    exact .fn f vf vc fs cs h0 h1 (fun j d c k1 k2 => ih2 j d c k1 k2 (AV.hasL_get ha.1 k2)) (fun j d c k1 k2 => ih3 j d c k1 k2 (AV.hasL_get ha.2 k2))
  | agg vs cs h0 h1 h2 ih =>
    rw [AV.has] at ha
    exact .agg vs cs h0 h1 (fun j d c k1 k2 => ih j d c k1 k2 (AV.hasL_get ha k2))
  | tup vs cs h0 h2 ih =>
    rw [AV.has] at ha
    exact .tup vs cs h0 (fun j d c k1 k2 => ih j d c k1 k2 (AV.hasL_get ha k2))
theorem RdA.more {ρ : Site → Loc} {m m' : Mem} (hm : Le m m') {v : Value} {a : AV} (h : RdA ρ m v a) : RdA ρ m' v a := by
  induction h with
  | any v => exact .any v
  | pv v x h => exact .pv v x (h.mono hm)
  | ptr s off => exact .ptr s off
  | elt s n i off => exact .elt s n i off
  | vec s n lo len cap h0 h1 h2 => exact .vec s n lo len cap h0 h1 h2
  | vec0 s n lo a h => exact .vec0 s n lo a h
  | mp s => exact .mp s
  | yld s => exact .yld s
  | fn f vf vc fs cs h0 h1 h2 h3 ih2 ih3 => exact .fn f vf vc fs cs h0 h1 ih2 ih3
  | agg vs cs h0 h1 h2 ih => exact .agg vs cs h0 h1 ih
  | tup vs cs h0 h2 ih => exact .tup vs cs h0 ih
/-- An element of a box of lists: a value; a list that no one else has. -/
inductive RowE where
  | av (a : AV)
  | own (xs : List PV)
  deriving Inhabited
def RowE.map (f : AV → AV) : RowE → RowE
  | .av a => .av (f a)
  | .own xs => .own xs
theorem RowE.map_id : RowE.map id = id := by funext x; cases x <;> rfl
def RowE.has (d : Nat) : RowE → Bool
  | .av a => a.has d
  | .own _ => false
/-- A box of any form: what it says of its place; the further blocks that it has. -/
structure ExtB where
  rd : Loc → Mem → World → Prop
  ins : Loc → World → List Nat
  same : ∀ (l : Loc) (w w' : World), w'.heap[l.b]? = w.heap[l.b]? → ins l w' = ins l w
  obj : ∀ (l : Loc) (m : Mem) (w : World), rd l m w → ∃ cs T, w.heap[l.b]? = some (.cells cs T (0, 0))
  insObj : ∀ (l : Loc) (m : Mem) (w : World) (k : Nat), rd l m w → k ∈ ins l w → ∃ cs T, w.heap[k]? = some (.cells cs T (0, 0))
  more : ∀ (l : Loc) (m m' : Mem) (w w' : World), rd l m w → Le m m' → w'.heap[l.b]? = w.heap[l.b]? → (∀ k ∈ ins l w, w'.heap[k]? = w.heap[k]?) → rd l m' w'
inductive Box where
  | rows (e e2 : TypeId) (n : Nat) (els : List RowE)
  | cells (cs : List AV)
  | arr (e : TypeId) (n : Nat) (xs : List PV)
  | map (es : List (PV × PV))
  | loop (C : Code × Code) (ps : List Nat) (nt : Nat) (tm : List (Nat × AV)) (st : Option Code)
  | ext (E : ExtB)
  deriving Inhabited
/-- The block of a list within a box of lists. -/
def insAt (w : World) (l : Loc) (els : List RowE) (i : Nat) : Option Nat := match els[i]? with
  | some (.own _) => match w.heap[l.b]? with
    | some (.cells cs _ _) => match cs[l.o + i]? with
      | some (.slice (some A) _ (_ + 1)) => some A.block
      | _ => none
    | _ => none
  | _ => none
def ins (w : World) (l : Loc) : Box → List Nat
  | .rows _ _ _ els => (List.range els.length).filterMap (insAt w l els)
  | .ext E => E.ins l w
  | _ => []
/-- The blocks of a box. -/
def blk (ρ : Site → Loc) (w : World) (s : Site) (b : Box) (k : Nat) : Prop := ((ρ s).real = true ∧ (ρ s).b = k) ∨ k ∈ ins w (ρ s) b
def ArrL (l : Loc) (m : Mem) (w : World) (e : TypeId) (n : Nat) (xs : List PV) : Prop :=
  ∃ cs, w.heap[l.b]? = some (.cells cs e (0, 0)) ∧ l.o + l.cap * n ≤ cs.size ∧ xs.length ≤ l.cap ∧ l.cap ≤ maxLen ∧
      ∀ (i : Nat) (x : PV), xs[i]? = some x → x.cells.length = n ∧ ∀ (j : Nat) (c : PV), x.cells[j]? = some c → ∃ d, cs[l.o + i * n + j]? = some d ∧ d.oneCell' = true ∧ RdP m d c
def OwnL (m : Mem) (w : World) (d : Value) (e : TypeId) (n : Nat) (xs : List PV) : Prop :=
  (xs = [] ∧ ∃ a : Option Addr, d = .slice a 0 0 ∧ ∀ A, a = some A → PlainA A) ∨
    ∃ (l : Loc) (cap : Nat), d = .slice (some ⟨l.b, l.o, none⟩) xs.length (cap + 1) ∧ xs.length ≤ cap + 1 ∧ cap + 1 ≤ l.cap ∧ l.real = true ∧ ArrL l m w e n xs
/-- Where a box lies. -/
def RdB (ρ : Site → Loc) (m : Mem) (w : World) (s : Site) : Box → Prop
  | .cells as => (ρ s).real = true ∧ ∃ cs T, w.heap[(ρ s).b]? = some (.cells cs T (0, 0)) ∧ cs.size = as.length ∧ ∀ (i : Nat) (c : Value) (a : AV), cs[i]? = some c → as[i]? = some a → c.oneCell' = true ∧ RdA ρ m c a
  | .arr e n xs => 0 < n ∧ (((ρ s).real = false ∧ xs = [] ∧ (ρ s).cap = 0) ∨ ((ρ s).real = true ∧ ∃ cs, w.heap[(ρ s).b]? = some (.cells cs e (0, 0)) ∧ (ρ s).o + (ρ s).cap * n ≤ cs.size ∧ xs.length ≤ (ρ s).cap ∧ (ρ s).cap ≤ maxLen ∧
      ∀ (i : Nat) (x : PV), xs[i]? = some x → x.cells.length = n ∧ ∀ (j : Nat) (c : PV), x.cells[j]? = some c → ∃ d, cs[(ρ s).o + i * n + j]? = some d ∧ d.oneCell' = true ∧ RdP m d c))
  | .map es => (ρ s).real = true ∧ ∃ ents clock, w.heap[(ρ s).b]? = some (.map ents clock) ∧ ents.size = es.length ∧ ∀ (i : Nat) (e : MapEntry) (p : PV × PV), ents[i]? = some e → es[i]? = some p → RdP m e.key p.1 ∧ RdP m e.val p.2
  | .rows e e2 n els => 0 < n ∧ (((ρ s).real = false ∧ els = [] ∧ (ρ s).cap = 0) ∨ ((ρ s).real = true ∧ ∃ cs, w.heap[(ρ s).b]? = some (.cells cs e (0, 0)) ∧ (ρ s).o + (ρ s).cap ≤ cs.size ∧ els.length ≤ (ρ s).cap ∧ (ρ s).cap ≤ maxLen ∧
      (∀ (i : Nat) (a : AV), els[i]? = some (.av a) → ∃ d, cs[(ρ s).o + i]? = some d ∧ d.oneCell' = true ∧ RdA ρ m d a) ∧ (∀ (i : Nat) (xs : List PV), els[i]? = some (.own xs) → ∃ d, cs[(ρ s).o + i]? = some d ∧ OwnL m w d e2 n xs) ∧
      (∀ (i j k : Nat), insAt w (ρ s) els i = some k → insAt w (ρ s) els j = some k → i = j) ∧ ∀ (i k : Nat), insAt w (ρ s) els i = some k → k ≠ (ρ s).b))
  | .loop C ps nt tm st => (ρ s).real = true ∧ ∃ r : Loop, w.heap[(ρ s).b]? = some (.loop r) ∧ (r.state = match st with | none => .ready | some _ => .done) ∧ r.pending = st ∧ r.params = ps.toArray ∧ r.assign = C.1 ∧ r.body = C.2 ∧ r.tmps.size = nt ∧
      ∀ (t : Nat) (a : AV), tm.lookup t = some a → ∃ v, r.tmps[t]? = some v ∧ RdA ρ m v a
  | .ext E => (ρ s).real = true ∧ E.rd (ρ s) m w
def Box.has (d : Nat) : Box → Bool
  | .rows _ _ _ els => els.any (RowE.has d)
  | .cells as => AV.hasL d as
  | .loop _ _ _ tm _ => AV.hasL d (tm.map (·.2))
  | _ => false
/-- What is known: of slots; of boxes. -/
structure AS where
  tm : List (Nat × AV)
  bx : List (Site × Box)
def AS.t (σ : AS) (k : Nat) : Option AV := σ.tm.lookup k
def AS.b (σ : AS) (s : Site) : Option Box := σ.bx.lookup s
/-- A call's own and lent blocks alone have changed. -/
structure Keep (bs : List Nat) (w w' : World) : Prop where
  os : w'.os = w.os
  tape : w'.tape = w.tape
  output : w'.output = w.output
  size : w.heap.size ≤ w'.heap.size
  block : ∀ k, k < w.heap.size → k ∉ bs → w'.heap[k]? = w.heap[k]?
theorem Keep.rfl' (bs : List Nat) (w : World) : Keep bs w w := ⟨rfl, rfl, rfl, Nat.le_refl _, fun _ _ _ => rfl⟩
theorem Keep.trans {bs : List Nat} {a b c : World} (h : Keep bs a b) (k : Keep bs b c) : Keep bs a c :=
  ⟨k.os.trans h.os, k.tape.trans h.tape, k.output.trans h.output, Nat.le_trans h.size k.size, fun i hi hn => (k.block i (Nat.lt_of_lt_of_le hi h.size) hn).trans (h.block i hi hn)⟩
theorem Keep.ext {w w' : World} (h : Keep [] w w') : Ext w w' := ⟨h.os, h.tape, h.output, h.size, fun k hk => h.block k hk (by simp)⟩
theorem Keep.of_ext {w w' : World} (h : Ext w w') (bs : List Nat) : Keep bs w w' := ⟨h.os, h.tape, h.output, h.size, fun k hk _ => h.block k hk⟩
/-- What nobody writes, and where the lent boxes lie, at the call's start; the calls that the frame itself has deferred; whether no marks may be. -/
structure Env (w0 : World) where
  m : Mem
  ρ : Site → Loc
  rest : List Deferred
  glob : Glob m w0
  strict : Bool
/-- The mark of a range over a function. -/
def markOf (D : Nat) : Deferred := { target := .collected D, args := #[] }
/-- What nobody writes has grown; of what is lent it knows nothing. -/
def BaseOk (m0 m : Mem) (pl : List Nat) : Prop := Le m0 m ∧ ∀ k ∈ pl, ∀ o, m0 k o = none
theorem BaseOk.trans {a b c : Mem} {pl : List Nat} (h : BaseOk a b pl) (k : Le b c) : BaseOk a c pl := ⟨h.1.trans k, h.2⟩
/-- Marks around the frame's own deferred calls. -/
def Mix (rest : List Deferred) (ds : List Nat) (l : List Deferred) : Prop := ∃ d1 d2, ds = d1 ++ d2 ∧ l = d1.map markOf ++ rest ++ d2.map markOf
theorem Mix.nil {ds : List Nat} {l : List Deferred} (h : Mix [] ds l) : l = ds.map markOf := by
  obtain ⟨d1, d2, rfl, rfl⟩ := h
  simp
/-- Marks that differ; none, if none may be. -/
def Nod (b : Bool) (ds : List Nat) : Prop := ds.Nodup ∧ (b = true → ds = [])
theorem nod0 {b : Bool} : Nod b [] := ⟨by simp, fun _ => rfl⟩
theorem mix0 : Mix [] [] [] := ⟨[], [], rfl, rfl⟩
/-- The frame act and the world w are as σ says; m: what nobody writes. w0: the world at the call's start; pl: the blocks lent to it. -/
structure Sat (N : Nat) (w0 : World) (m0 : Env w0) (pl : List Nat) (σ : AS) (ρ : Site → Loc) (m : Mem) (act : Act) (w : World) : Prop where
  nod : ∃ ds : List Nat, Mix m0.rest ds act.defers ∧ Nod m0.strict ds ∧ ∀ D ∈ ds, (w0.heap.size ≤ D ∨ D ∈ pl) ∧ w.heap[D]? = some (.deferred (some []))
  sz : act.tmps.size = N
  tm : ∀ t a, σ.t t = some a → ∃ v, act.tmps[t]? = some v ∧ RdA ρ m v a
  bx : ∀ s b, σ.b s = some b → RdB ρ m w s b
  injk : ∀ s s' b b' k, σ.b s = some b → σ.b s' = some b' → blk ρ w s b k → blk ρ w s' b' k → s = s'
  mem : Le m w.mem
  offk : ∀ s b k, σ.b s = some b → blk ρ w s b k → ∀ o, m k o = none
  ownk : ∀ s b k, σ.b s = some b → blk ρ w s b k → w0.heap.size ≤ k ∨ k ∈ pl
  keep : Keep pl w0 w
  base : BaseOk m0.m m pl
  fro : ∀ b o v, m b o = some v → m0.m b o = some v ∨ w0.heap.size ≤ b ∨ b ∈ pl
  par : ∀ i, ρ (.par i) = m0.ρ (.par i)
theorem lookup_cons_eq {α β : Type} [BEq α] [LawfulBEq α] {k : α} {v : β} {l : List (α × β)} : List.lookup k ((k, v) :: l) = some v := by simp [List.lookup]
theorem lookup_cons_ne {α β : Type} [BEq α] [LawfulBEq α] {k k' : α} {v : β} {l : List (α × β)} (h : k ≠ k') : List.lookup k ((k', v) :: l) = List.lookup k l := by
  have : (k == k') = false := by simpa using h
  simp [List.lookup, this]
theorem blk_own {ρ : Site → Loc} {w : World} {s : Site} {b : Box} (hr : (ρ s).real = true) : blk ρ w s b (ρ s).b := .inl ⟨hr, rfl⟩
section
variable {N : Nat} {w0 : World} {m0 : Env w0} {pl : List Nat} {σ : AS} {ρ : Site → Loc} {m : Mem} {act : Act} {w : World}
theorem Sat.inj (h : Sat N w0 m0 pl σ ρ m act w) (s s' : Site) (b b' : Box) (k : σ.b s = some b) (k' : σ.b s' = some b') (r : (ρ s).real = true) (r' : (ρ s').real = true) (e : (ρ s).b = (ρ s').b) : s = s' :=
  h.injk s s' b b' _ k k' (blk_own r) (by rw [e]; exact blk_own r')
theorem Sat.off (h : Sat N w0 m0 pl σ ρ m act w) (s : Site) (b : Box) (k : σ.b s = some b) (r : (ρ s).real = true) : ∀ o, m (ρ s).b o = none := h.offk s b _ k (blk_own r)
theorem Sat.own (h : Sat N w0 m0 pl σ ρ m act w) (s : Site) (b : Box) (k : σ.b s = some b) (r : (ρ s).real = true) : w0.heap.size ≤ (ρ s).b ∨ (ρ s).b ∈ pl := h.ownk s b _ k (blk_own r)
end
theorem Sat.glob {N : Nat} {w0 : World} {m0 : Env w0} {pl : List Nat} {σ : AS} {ρ : Site → Loc} {m : Mem} {act : Act} {w : World} (h : Sat N w0 m0 pl σ ρ m act w) : Glob m w :=
  (m0.glob.keep fun k o v hk hv => h.keep.block k hk fun hp => by rw [h.base.2 k hp o] at hv; cases hv).mono h.base.1
theorem ins_same {w w' : World} {l : Loc} {b : Box} (h : w'.heap[l.b]? = w.heap[l.b]?) : ins w' l b = ins w l b := by
  cases b with
  | rows e e2 n els =>
    have : insAt w' l els = insAt w l els := by funext i; unfold insAt; rw [h]
    show List.filterMap (insAt w' l els) _ = List.filterMap (insAt w l els) _
    rw [this]
  | ext E => exact E.same _ _ _ h
  | _ => rfl
theorem mem_ins {w : World} {l : Loc} {e e2 : TypeId} {n : Nat} {els : List RowE} {k : Nat} : k ∈ ins w l (.rows e e2 n els) ↔ ∃ i, insAt w l els i = some k := by
  unfold ins
  rw [List.mem_filterMap]
  constructor
  · rintro ⟨i, _, h⟩; exact ⟨i, h⟩
  · rintro ⟨i, h⟩
    refine ⟨i, ?_, h⟩
    rw [List.mem_range]
    rcases Nat.lt_or_ge i els.length with hl | hl
    · exact hl
    · unfold insAt at h
      rw [List.getElem?_eq_none hl] at h
      cases h
theorem insAt_inv {w : World} {l : Loc} {els : List RowE} {i k : Nat} (h : insAt w l els i = some k) : ∃ xs cs T t A len cap, els[i]? = some (.own xs) ∧ w.heap[l.b]? = some (.cells cs T t) ∧ cs[l.o + i]? = some (.slice (some A) len (cap + 1)) ∧ A.block = k := by
  unfold insAt at h
  split at h
  · rename_i xs h1
    split at h
    · rename_i cs T t h2
      split at h
      · rename_i A len cap h3
        cases h
        exact ⟨xs, cs, T, t, A, len, cap, h1, h2, h3, rfl⟩
      · cases h
    · cases h
  · cases h
theorem insAt_eq {w : World} {l : Loc} {els : List RowE} {i : Nat} {xs : List PV} {cs : Array Value} {T : TypeId} {t : Nat × Nat} {A : Addr} {len cap : Nat} (h1 : els[i]? = some (.own xs)) (h2 : w.heap[l.b]? = some (.cells cs T t)) (h3 : cs[l.o + i]? = some (.slice (some A) len (cap + 1))) : insAt w l els i = some A.block := by
  unfold insAt
  rw [h1]; dsimp only
  rw [h2]; dsimp only
  rw [h3]
theorem OwnL.blk {m : Mem} {w : World} {e : TypeId} {n : Nat} {xs : List PV} {A : Addr} {len cap : Nat} (h : OwnL m w (.slice (some A) len (cap + 1)) e n xs) : ∃ (l : Loc), A = ⟨l.b, l.o, none⟩ ∧ len = xs.length ∧ xs.length ≤ cap + 1 ∧ cap + 1 ≤ l.cap ∧ l.real = true ∧ ArrL l m w e n xs := by
  rcases h with ⟨_, a, e1, _⟩ | ⟨l, c, e1, e2, e3, e4, e5⟩
  · cases e1
  · injection e1 with q1 q2 q3
    cases q3
    exact ⟨l, by injection q1, q2, e2, e3, e4, e5⟩
theorem RdB.insObj {ρ : Site → Loc} {m : Mem} {w : World} {s : Site} {b : Box} (h : RdB ρ m w s b) {k : Nat} (hk : k ∈ ins w (ρ s) b) : ∃ cs T, w.heap[k]? = some (.cells cs T (0, 0)) := by
  cases b with
  | rows e e2 n els =>
    obtain ⟨i, hi⟩ := mem_ins.1 hk
    obtain ⟨xs, cs, T, t, A, len, cap, k1, k2, k3, rfl⟩ := insAt_inv hi
    obtain ⟨_, ⟨_, rfl, _⟩ | ⟨_, cs', g1, _, _, _, _, g5, _⟩⟩ := h
    · cases k1
    rw [g1] at k2; cases k2
    obtain ⟨d, q1, q2⟩ := g5 i xs k1
    rw [k3] at q1; cases q1
    obtain ⟨l, rfl, _, _, _, _, cs2, e1, _⟩ := q2.blk
    exact ⟨cs2, e2, e1⟩
  | ext E => exact E.insObj _ _ _ _ h.2 hk
  | _ => cases hk
theorem RdB.lt {ρ : Site → Loc} {m : Mem} {w : World} {s : Site} {b : Box} (h : RdB ρ m w s b) (hr : (ρ s).real = true) : (ρ s).b < w.heap.size := by
  cases b with
  | cells as => obtain ⟨_, cs, T, h1, _⟩ := h; exact (Array.getElem?_eq_some_iff.1 h1).1
  | arr e n xs =>
    obtain ⟨_, h | ⟨_, cs, h1, _⟩⟩ := h
    · rw [h.1] at hr; cases hr
    · exact (Array.getElem?_eq_some_iff.1 h1).1
  | map es => obtain ⟨_, en, cl, h1, _⟩ := h; exact (Array.getElem?_eq_some_iff.1 h1).1
  | loop C ps nt tm st => obtain ⟨_, r, h1, _⟩ := h; exact (Array.getElem?_eq_some_iff.1 h1).1
  | ext E => obtain ⟨cs, T, h1⟩ := E.obj _ _ _ h.2; exact (Array.getElem?_eq_some_iff.1 h1).1
  | rows e e2 n els =>
    obtain ⟨_, h | ⟨_, cs, h1, _⟩⟩ := h
    · rw [h.1] at hr; cases hr
    · exact (Array.getElem?_eq_some_iff.1 h1).1
theorem RdB.ltk {ρ : Site → Loc} {m : Mem} {w : World} {s : Site} {b : Box} {k : Nat} (h : RdB ρ m w s b) (hk : blk ρ w s b k) : k < w.heap.size := by
  rcases hk with ⟨hr, rfl⟩ | hk
  · exact h.lt hr
  · obtain ⟨cs, T, h1⟩ := h.insObj hk
    exact (Array.getElem?_eq_some_iff.1 h1).1
theorem RdB.obj {ρ : Site → Loc} {m : Mem} {w : World} {s : Site} {b : Box} (h : RdB ρ m w s b) (hr : (ρ s).real = true) : w.heap[(ρ s).b]? ≠ some (.deferred (some [])) := by
  intro e
  cases b with
  | cells as => obtain ⟨_, cs, T, h1, _⟩ := h; rw [h1] at e; cases e
  | arr e' n xs =>
    obtain ⟨_, h | ⟨_, cs, h1, _⟩⟩ := h
    · rw [h.1] at hr; cases hr
    · rw [h1] at e; cases e
  | map es => obtain ⟨_, en, cl, h1, _⟩ := h; rw [h1] at e; cases e
  | loop C ps nt tm st => obtain ⟨_, r, h1, _⟩ := h; rw [h1] at e; cases e
  | ext E => obtain ⟨cs, T, h1⟩ := E.obj _ _ _ h.2; rw [h1] at e; cases e
  | rows e' e2 n els =>
    obtain ⟨_, h | ⟨_, cs, h1, _⟩⟩ := h
    · rw [h.1] at hr; cases hr
    · rw [h1] at e; cases e
theorem RdB.objk {ρ : Site → Loc} {m : Mem} {w : World} {s : Site} {b : Box} {k : Nat} (h : RdB ρ m w s b) (hk : blk ρ w s b k) : w.heap[k]? ≠ some (.deferred (some [])) := by
  rcases hk with ⟨hr, rfl⟩ | hk
  · exact h.obj hr
  · obtain ⟨cs, T, h1⟩ := h.insObj hk
    intro e; rw [h1] at e; cases e
theorem ArrL.more {l : Loc} {m m' : Mem} {w w' : World} {e : TypeId} {n : Nat} {xs : List PV} (h : ArrL l m w e n xs) (hm : Le m m') (hb : w'.heap[l.b]? = w.heap[l.b]?) : ArrL l m' w' e n xs := by
  obtain ⟨cs, h1, h2, h3, h4, h5⟩ := h
  refine ⟨cs, by rw [hb]; exact h1, h2, h3, h4, fun i x k1 => ⟨(h5 i x k1).1, fun j c k2 => ?_⟩⟩
  obtain ⟨d, k3, k4, k5⟩ := (h5 i x k1).2 j c k2
  exact ⟨d, k3, k4, k5.mono hm⟩
/-- A list to which the slice value D points. -/
def lkE (D : Value) (e : TypeId) (n : Nat) (xs : List PV) : ExtB where
  rd l m w := 0 < n ∧ (∃ cap, D = .slice (some ⟨l.b, l.o, none⟩) xs.length cap ∧ xs.length ≤ cap ∧ cap ≤ l.cap) ∧ ArrL l m w e n xs
  ins _ _ := []
  same _ _ _ _ := rfl
  obj _ _ _ h := let ⟨_, _, cs, h1, _⟩ := h; ⟨cs, e, h1⟩
  insObj _ _ _ _ _ h := by cases h
  more _ _ _ _ _ h hm hb _ := ⟨h.1, h.2.1, h.2.2.more hm hb⟩
theorem OwnL.more {m m' : Mem} {w w' : World} {d : Value} {e : TypeId} {n : Nat} {xs : List PV} (h : OwnL m w d e n xs) (hm : Le m m') (hb : ∀ A len cap, d = .slice (some A) len (cap + 1) → w'.heap[A.block]? = w.heap[A.block]?) : OwnL m' w' d e n xs := by
  rcases h with h | ⟨l, c, e1, e2, e3, e4, e5⟩
  · exact .inl h
  · exact .inr ⟨l, c, e1, e2, e3, e4, e5.more hm (hb _ _ _ e1)⟩
theorem mem_of_lookup {α β : Type} [BEq α] [LawfulBEq α] {k : α} {v : β} : ∀ {l : List (α × β)}, l.lookup k = some v → ∃ i : Nat, (l.map (·.2))[i]? = some v
  | [], h => by simp [List.lookup] at h
  | (a, b) :: r, h => by
    by_cases e : k = a
    · subst e; rw [lookup_cons_eq] at h; cases h; exact ⟨0, rfl⟩
    · rw [lookup_cons_ne e] at h
      obtain ⟨i, hi⟩ := mem_of_lookup h
      exact ⟨i + 1, by simpa using hi⟩
theorem blk_same {ρ : Site → Loc} {w w' : World} {s : Site} {b : Box} (h : w'.heap[(ρ s).b]? = w.heap[(ρ s).b]?) {k : Nat} : blk ρ w' s b k ↔ blk ρ w s b k := by
  unfold blk; rw [ins_same h]
theorem RdB.blk_same {ρ : Site → Loc} {m : Mem} {w w' : World} {s : Site} {b : Box} (hB : RdB ρ m w s b) (h : (ρ s).real = true → w'.heap[(ρ s).b]? = w.heap[(ρ s).b]?) {k : Nat} : blk ρ w' s b k ↔ blk ρ w s b k := by
  cases b with
  | rows e e2 n els =>
    obtain ⟨_, ⟨h1, rfl, _⟩ | ⟨h1, _⟩⟩ := hB
    · exact Iff.rfl
    · exact Go.Proofs.Ytohhjnpiiackjaa.blk_same (h h1)
  | ext E => exact Go.Proofs.Ytohhjnpiiackjaa.blk_same (h hB.1)
  | _ => exact Iff.rfl
/-- Where the names of sites change. -/
theorem blk_at {ρ ρ' : Site → Loc} {w : World} {s : Site} {b : Box} {k : Nat} (h : ρ' s = ρ s) : blk ρ' w s b k ↔ blk ρ w s b k := by unfold blk; rw [h]
/-- A box stays where its block stays. -/
theorem RdB.gen {ρ ρ' : Site → Loc} {m m' : Mem} {w w' : World} {s s' : Site} {b b' : Box} (h : RdB ρ m w s b) (f : AV → AV) (hf : b' = match b with
      | .cells as => .cells (as.map f)
      | .loop C ps nt tm st => .loop C ps nt (tm.map fun p => (p.1, f p.2)) st
      | .rows e e2 n els => .rows e e2 n (els.map (RowE.map f))
      | b => b) (hm : Le m m') (hs : ρ' s' = ρ s) (hv : ∀ v a, RdA ρ m v a → (∃ as, b = .cells as ∧ a ∈ as) ∨ (∃ C ps nt tm st t, b = .loop C ps nt tm st ∧ (t, a) ∈ tm) ∨ (∃ e e2 n els, b = .rows e e2 n els ∧ .av a ∈ els) → RdA ρ' m' v (f a))
    (hb : ∀ k, blk ρ w s b k → w'.heap[k]? = w.heap[k]?) : RdB ρ' m' w' s' b' := by
  subst hf
  cases b with
  | cells as =>
    obtain ⟨h0, cs, T, h1, h2, h3⟩ := h
    refine ⟨by rw [hs]; exact h0, cs, T, by rw [hs, hb _ (blk_own h0)]; exact h1, by rw [List.length_map]; exact h2, fun i c a k1 k2 => ?_⟩
    rw [List.getElem?_map] at k2
    obtain ⟨a', k3, rfl⟩ := Option.map_eq_some_iff.1 k2
    exact ⟨(h3 i c a' k1 k3).1, hv _ _ (h3 i c a' k1 k3).2 (.inl ⟨as, rfl, List.mem_of_getElem? k3⟩)⟩
  | arr e n xs =>
    obtain ⟨h0, h | ⟨h1, cs, h2, h3, h4, h5, h6⟩⟩ := h
    · exact ⟨h0, .inl (by rw [hs]; exact h)⟩
    · refine ⟨h0, .inr ⟨by rw [hs]; exact h1, cs, by rw [hs, hb _ (blk_own h1)]; exact h2, by rw [hs]; exact h3, by rw [hs]; exact h4, by rw [hs]; exact h5, fun i x k1 => ⟨(h6 i x k1).1, fun j c k2 => ?_⟩⟩⟩
      obtain ⟨d, k3, k4, k5⟩ := (h6 i x k1).2 j c k2
      exact ⟨d, by rw [hs]; exact k3, k4, k5.mono hm⟩
  | map es =>
    obtain ⟨h0, en, cl, h1, h2, h3⟩ := h
    exact ⟨by rw [hs]; exact h0, en, cl, by rw [hs, hb _ (blk_own h0)]; exact h1, h2, fun i e p k1 k2 => ⟨(h3 i e p k1 k2).1.mono hm, (h3 i e p k1 k2).2.mono hm⟩⟩
  | loop C ps nt tm st =>
    obtain ⟨h0, r, h1, h2, h3, h4, h5, h6, h7, h8⟩ := h
    refine ⟨by rw [hs]; exact h0, r, by rw [hs, hb _ (blk_own h0)]; exact h1, h2, h3, h4, h5, h6, h7, fun t a k => ?_⟩
    have hl : ∀ l : List (Nat × AV), (l.map fun p => (p.1, f p.2)).lookup t = (l.lookup t).map f := by
      intro l
      induction l with
      | nil => rfl
      | cons p r ih =>
        obtain ⟨x, y⟩ := p
        by_cases e : t = x
        · subst e; simp [List.lookup]
        · rw [List.map_cons, lookup_cons_ne e, lookup_cons_ne e]; exact ih
    rw [hl] at k
    obtain ⟨a', k3, rfl⟩ := Option.map_eq_some_iff.1 k
    obtain ⟨v, k4, k5⟩ := h8 t a' k3
    have hmem : ∀ l : List (Nat × AV), l.lookup t = some a' → (t, a') ∈ l := by
      intro l
      induction l with
      | nil => intro h; simp [List.lookup] at h
      | cons p r ih =>
        obtain ⟨x, y⟩ := p
        intro h
        by_cases e : t = x
        · subst e; rw [lookup_cons_eq] at h; cases h; simp
        · rw [lookup_cons_ne e] at h; simp [ih h]
    exact ⟨v, k4, hv _ _ k5 (.inr (.inl ⟨C, ps, nt, tm, st, t, rfl, hmem _ k3⟩))⟩
  | rows e e2 n els =>
    obtain ⟨hn, ⟨h0, rfl, h1⟩ | ⟨h0, cs, h1, h2, h3, h4, h5, h6, h7, h8⟩⟩ := h
    · exact ⟨hn, .inl ⟨by rw [hs]; exact h0, rfl, by rw [hs]; exact h1⟩⟩
    have hi : insAt w' (ρ' s') (els.map (RowE.map f)) = insAt w (ρ s) els := by
      funext i
      unfold insAt
      rw [hs, hb _ (blk_own h0), List.getElem?_map]
      cases els[i]? with
      | none => rfl
      | some el => cases el <;> rfl
    refine ⟨hn, .inr ⟨by rw [hs]; exact h0, cs, by rw [hs, hb _ (blk_own h0)]; exact h1, by rw [hs]; exact h2, by rw [hs, List.length_map]; exact h3, by rw [hs]; exact h4, fun i a k => ?_, fun i xs k => ?_, by rw [hi]; exact h7, by rw [hi, hs]; exact h8⟩⟩
    · rw [List.getElem?_map] at k
      obtain ⟨el, k3, k4⟩ := Option.map_eq_some_iff.1 k
      cases el with
      | own xs => cases k4
      | av a' =>
        cases k4
        obtain ⟨d, q1, q2, q3⟩ := h5 i a' k3
        exact ⟨d, by rw [hs]; exact q1, q2, hv _ _ q3 (.inr (.inr ⟨e, e2, n, els, rfl, List.mem_of_getElem? k3⟩))⟩
    · rw [List.getElem?_map] at k
      obtain ⟨el, k3, k4⟩ := Option.map_eq_some_iff.1 k
      cases el with
      | av a => cases k4
      | own xs' =>
        cases k4
        obtain ⟨d, q1, q2⟩ := h6 i xs k3
        refine ⟨d, by rw [hs]; exact q1, q2.more hm (fun A len cap ed => ?_)⟩
        subst ed
        exact hb _ (.inr (mem_ins.2 ⟨i, insAt_eq k3 h1 q1⟩))
  | ext E =>
    refine ⟨by rw [hs]; exact h.1, ?_⟩
    rw [hs]
    exact E.more _ _ _ _ _ h.2 hm (hb _ (blk_own h.1)) (fun k hk => hb k (.inr hk))
theorem RdB.more {ρ : Site → Loc} {m m' : Mem} {w w' : World} {s : Site} {b : Box} (h : RdB ρ m w s b) (hm : Le m m') (hb : ∀ k, blk ρ w s b k → w'.heap[k]? = w.heap[k]?) : RdB ρ m' w' s b :=
  h.gen id (by cases b <;> simp [RowE.map_id]) hm rfl (fun v a hv _ => hv.more hm) hb
theorem Box.has_mem {d : Nat} {b : Box} (hd : b.has d = false) {a : AV} (h : (∃ as, b = .cells as ∧ a ∈ as) ∨ (∃ C ps nt tm st t, b = .loop C ps nt tm st ∧ (t, a) ∈ tm) ∨ (∃ e e2 n els, b = .rows e e2 n els ∧ .av a ∈ els)) : a.has d = false := by
  rcases h with ⟨as, rfl, h⟩ | ⟨C, ps, nt, tm, st, t, rfl, h⟩ | ⟨e, e2, n, els, rfl, h⟩
  · obtain ⟨i, hi⟩ := List.mem_iff_getElem?.1 h
    exact AV.hasL_get hd hi
  · obtain ⟨i, hi⟩ := List.mem_iff_getElem?.1 h
    have hd' : AV.hasL d (tm.map (·.2)) = false := hd
    exact AV.hasL_get (i := i) hd' (by rw [List.getElem?_map, hi]; rfl)
  · have := List.any_eq_false.1 hd _ h
    simpa [RowE.has] using this
/-- A box stays where its block stays. -/
theorem RdB.stay {ρ ρ' : Site → Loc} {m m' : Mem} {w w' : World} {s : Site} {b : Box} (h : RdB ρ m w s b) (hm : Le m m') {d : Nat} (hρ : ∀ s, s.isLoc d = false → ρ' s = ρ s) (hs : s.isLoc d = false) (hd : b.has d = false)
    (hb : ∀ k, blk ρ w s b k → w'.heap[k]? = w.heap[k]?) : RdB ρ' m' w' s b :=
  h.gen id (by cases b <;> simp [RowE.map_id]) hm (hρ s hs) (fun v a hv hw => hv.mono hm hρ (Box.has_mem hd hw)) hb
section
variable {N : Nat} {w0 : World} {m0 : Env w0} {pl : List Nat} {σ : AS} {ρ : Site → Loc} {m : Mem} {act : Act} {w w' : World}
/-- What came in may only be read less. -/
theorem Sat.weak (h : Sat N w0 m0 pl σ ρ m act w) {τ : AS} (ht : ∀ t a, τ.t t = some a → σ.t t = some a ∨ a = .any ∧ ∃ c, σ.t t = some c) (hb : ∀ s b, τ.b s = some b → σ.b s = some b) : Sat N w0 m0 pl τ ρ m act w :=
  ⟨h.nod, h.sz, fun t a k => by
    rcases ht t a k with k | ⟨rfl, c, k⟩
    · exact h.tm t a k
    · obtain ⟨v, k1, _⟩ := h.tm t c k
      exact ⟨v, k1, .any v⟩, fun s b k => h.bx s b (hb s b k), fun s s' b b' i k k' => h.injk s s' b b' i (hb s b k) (hb s' b' k'), h.mem, fun s b i k => h.offk s b i (hb s b k), fun s b i k => h.ownk s b i (hb s b k), h.keep, h.base, h.fro, h.par⟩
theorem Sat.put (h : Sat N w0 m0 pl σ ρ m act w) {d : Nat} (hd : d < N) {v : Value} {a : AV} (hv : RdA ρ m v a) : Sat N w0 m0 pl { σ with tm := (d, a) :: σ.tm } ρ m (act.put (some d) v) w := by
  refine ⟨h.nod, by simp [Act.put, h.sz], fun t a' k => ?_, h.bx, h.injk, h.mem, h.offk, h.ownk, h.keep, h.base, h.fro, h.par⟩
  unfold AS.t at k
  rcases Nat.decEq t d with hne | rfl
  · rw [lookup_cons_ne hne] at k
    obtain ⟨u, k1, k2⟩ := h.tm t a' k
    exact ⟨u, by show (act.tmps.setIfInBounds d v)[t]? = some u; rw [Array.getElem?_setIfInBounds_ne (fun e => hne e.symm)]; exact k1, k2⟩
  · rw [lookup_cons_eq] at k
    cases k
    exact ⟨v, by show (act.tmps.setIfInBounds t v)[t]? = some v; rw [Array.getElem?_setIfInBounds_self_of_lt (by rw [h.sz]; exact hd)], hv⟩
/-- The world has grown. -/
theorem Sat.ext (h : Sat N w0 m0 pl σ ρ m act w) (hx : Ext w w') : Sat N w0 m0 pl σ ρ m act w' := by
  have hq : ∀ s b, σ.b s = some b → ∀ k, blk ρ w' s b k ↔ blk ρ w s b k := fun s b k i => (h.bx s b k).blk_same (fun r => hx.block _ ((h.bx s b k).lt r))
  exact ⟨let ⟨ds, h1, h0, h2⟩ := h.nod; ⟨ds, h1, h0, fun D hD => ⟨(h2 D hD).1, by rw [hx.block _ (Array.getElem?_eq_some_iff.1 (h2 D hD).2).1]; exact (h2 D hD).2⟩⟩, h.sz, h.tm, fun s b k => (h.bx s b k).more (Le.refl _) (fun i r => hx.block _ ((h.bx s b k).ltk r)),
    fun s s' b b' i k k' r r' => h.injk s s' b b' i k k' ((hq s b k i).1 r) ((hq s' b' k' i).1 r'), h.mem.trans hx.le, fun s b i k r => h.offk s b i k ((hq s b k i).1 r), fun s b i k r => h.ownk s b i k ((hq s b k i).1 r), h.keep.trans (Keep.of_ext hx pl), h.base, h.fro, h.par⟩
end
end Go.Proofs.Ytohhjnpiiackjaa
/-! An evaluation of Go's code over plain values: what keeps a state: forgetting, new boxes, writes. No program here. -/
namespace Go.Proofs.Ytohhjnpiiackjaa
open Go.RowKit
def AV.purge (d : Nat) (a : AV) : AV := if a.has d = true then .any else a
def Box.purge (d : Nat) : Box → Box
  | .rows e e2 n els => .rows e e2 n (els.map (RowE.map (AV.purge d)))
  | .cells as => .cells (as.map (AV.purge d))
  | .loop C ps nt tm st => .loop C ps nt (tm.map fun p => (p.1, p.2.purge d)) st
  | b => b
/-- All that mentions what the slot d made is forgotten. -/
def AS.purge (d : Nat) (σ : AS) : AS := ⟨σ.tm.map fun p => (p.1, p.2.purge d), (σ.bx.filter fun p => !p.1.isLoc d).map fun p => (p.1, p.2.purge d)⟩
def AS.drop (s : Site) (σ : AS) : AS := ⟨σ.tm, σ.bx.filter fun p => !decide (p.1 = s)⟩
def AS.set (s : Site) (b : Box) (σ : AS) : AS := ⟨σ.tm, (s, b) :: σ.bx⟩
def AS.put (d : Nat) (a : AV) (σ : AS) : AS := ⟨(d, a) :: σ.tm, σ.bx⟩
def AS.add (s : Site) (b : Box) (σ : AS) : AS := ⟨σ.tm, (s, b) :: σ.bx⟩
theorem AV.purge_has (d : Nat) (a : AV) : (a.purge d).has d = false := by
  unfold AV.purge
  split
  · rfl
  · rename_i h; simpa using h
theorem AV.hasL_map_purge (d : Nat) : ∀ l : List AV, AV.hasL d (l.map (AV.purge d)) = false
  | [] => rfl
  | a :: r => by simp [AV.hasL, AV.purge_has, AV.hasL_map_purge d r]
theorem Box.purge_has (d : Nat) (b : Box) : (b.purge d).has d = false := by
  cases b with
  | rows e e2 n els =>
    show (els.map (RowE.map (AV.purge d))).any (RowE.has d) = false
    rw [List.any_map, List.any_eq_false]
    intro el _
    cases el with
    | av a => simp [RowE.map, RowE.has, AV.purge_has]
    | own xs => simp [RowE.map, RowE.has]
  | cells as => exact AV.hasL_map_purge d as
  | arr e n xs => rfl
  | map es => rfl
  | loop C ps nt tm st =>
    show AV.hasL d ((tm.map fun p => (p.1, p.2.purge d)).map (·.2)) = false
    rw [List.map_map]
    have : ((fun p : Nat × AV => p.2) ∘ fun p : Nat × AV => (p.1, p.2.purge d)) = AV.purge d ∘ (fun p : Nat × AV => p.2) := rfl
    rw [this, ← List.map_map]
    exact AV.hasL_map_purge d _
  | ext E => rfl
theorem lookup_map {α β γ : Type} [BEq α] [LawfulBEq α] (f : β → γ) (k : α) : ∀ l : List (α × β), (l.map fun p => (p.1, f p.2)).lookup k = (l.lookup k).map f
  | [] => rfl
  | (a, b) :: r => by
    by_cases h : k = a
    · subst h; simp [List.lookup]
    · rw [List.map_cons, lookup_cons_ne h, lookup_cons_ne h]; exact lookup_map f k r
theorem lookup_filter {α β : Type} [BEq α] [LawfulBEq α] (q : α → Bool) (k : α) : ∀ l : List (α × β), (l.filter fun p => q p.1).lookup k = if q k = true then l.lookup k else none
  | [] => by simp
  | (a, b) :: r => by
    rw [List.filter_cons]
    by_cases h : k = a
    · subst h
      cases hq : q k
      · simp only [hq, Bool.false_eq_true, if_false]
        rw [lookup_filter q k r]; simp [hq]
      · simp [hq, List.lookup]
    · cases hq : q a
      · simp only [Bool.false_eq_true, if_false]
        rw [lookup_filter q k r, lookup_cons_ne h]
      · simp only [if_true]
        rw [lookup_cons_ne h, lookup_cons_ne h]; exact lookup_filter q k r
theorem AS.t_purge (d : Nat) (σ : AS) (k : Nat) : (σ.purge d).t k = (σ.t k).map (AV.purge d) := lookup_map _ _ _
theorem AS.b_purge (d : Nat) (σ : AS) (s : Site) : (σ.purge d).b s = if s.isLoc d = true then none else (σ.b s).map (Box.purge d) := by
  show ((σ.bx.filter fun p => !p.1.isLoc d).map fun p => (p.1, p.2.purge d)).lookup s = _
  rw [lookup_map (Box.purge d) s, show List.lookup s (List.filter (fun p => !p.1.isLoc d) σ.bx) = _ from lookup_filter (fun s => !s.isLoc d) s σ.bx]
  cases s.isLoc d <;> simp [AS.b]
theorem AS.b_drop (s : Site) (σ : AS) (s' : Site) : (σ.drop s).b s' = if s' = s then none else σ.b s' := by
  show (σ.bx.filter fun p => !decide (p.1 = s)).lookup s' = _
  rw [show List.lookup s' (List.filter (fun p => !decide (p.1 = s)) σ.bx) = _ from lookup_filter (fun x => !decide (x = s)) s' σ.bx]
  by_cases h : s' = s <;> simp [h, AS.b]
theorem AS.b_add (s : Site) (b : Box) (σ : AS) (s' : Site) : (σ.add s b).b s' = if s' = s then some b else σ.b s' := by
  show ((s, b) :: σ.bx).lookup s' = _
  by_cases h : s' = s
  · subst h; rw [lookup_cons_eq, if_pos rfl]
  · rw [lookup_cons_ne h, if_neg h]; rfl
theorem AS.b_set (s : Site) (b : Box) (σ : AS) (s' : Site) : (σ.set s b).b s' = if s' = s then some b else σ.b s' := AS.b_add s b σ s'
theorem AS.t_put (d : Nat) (a : AV) (σ : AS) (k : Nat) : (σ.put d a).t k = if k = d then some a else σ.t k := by
  show ((d, a) :: σ.tm).lookup k = _
  by_cases h : k = d
  · subst h; rw [lookup_cons_eq, if_pos rfl]
  · rw [lookup_cons_ne h, if_neg h]; rfl
/-- Nothing in σ mentions what the slot d made. -/
structure NoD (d : Nat) (σ : AS) : Prop where
  t : ∀ k a, σ.t k = some a → a.has d = false
  b : ∀ s b, σ.b s = some b → s.isLoc d = false ∧ b.has d = false
theorem NoD.purge (d : Nat) (σ : AS) : NoD d (σ.purge d) := by
  refine ⟨fun k a h => ?_, fun s b h => ?_⟩
  · rw [AS.t_purge] at h
    obtain ⟨c, _, rfl⟩ := Option.map_eq_some_iff.1 h
    exact AV.purge_has d c
  · rw [AS.b_purge] at h
    split at h
    · cases h
    · rename_i hs
      obtain ⟨c, _, rfl⟩ := Option.map_eq_some_iff.1 h
      exact ⟨by simpa using hs, Box.purge_has d c⟩
section
variable {N : Nat} {w0 : World} {m0 : Env w0} {pl : List Nat} {σ : AS} {ρ : Site → Loc} {m : Mem} {act : Act} {w w' : World}
theorem purge_rd {d : Nat} {v : Value} {a : AV} (h : RdA ρ m v a) : RdA ρ m v (a.purge d) := by
  unfold AV.purge
  split
  · exact .any v
  · exact h
theorem RdB.purge {s : Site} {b : Box} (d : Nat) (h : RdB ρ m w s b) : RdB ρ m w s (b.purge d) :=
  h.gen (AV.purge d) (by cases b <;> rfl) (Le.refl m) rfl (fun v a hv _ => purge_rd hv) (fun _ _ => rfl)
theorem ins_row {w w' : World} {l : Loc} {e e2 : TypeId} {n : Nat} {els : List RowE} {f : AV → AV} (h : w'.heap[l.b]? = w.heap[l.b]?) : ins w' l (.rows e e2 n (els.map (RowE.map f))) = ins w l (.rows e e2 n els) := by
  have hi : insAt w' l (els.map (RowE.map f)) = insAt w l els := by
    funext i
    unfold insAt
    rw [h, List.getElem?_map]
    cases els[i]? with
    | none => rfl
    | some el => cases el <;> rfl
  show List.filterMap (insAt w' l (els.map (RowE.map f))) _ = List.filterMap (insAt w l els) _
  rw [hi, List.length_map]
theorem ins_purge {w : World} {l : Loc} {b : Box} {d : Nat} : ins w l (b.purge d) = ins w l b := by
  cases b with
  | rows e e2 n els => exact ins_row rfl
  | _ => rfl
theorem blk_purge {s : Site} {b : Box} {d k : Nat} : blk ρ w s (b.purge d) k ↔ blk ρ w s b k := by unfold blk; rw [ins_purge]
theorem Sat.purge (h : Sat N w0 m0 pl σ ρ m act w) (d : Nat) : Sat N w0 m0 pl (σ.purge d) ρ m act w := by
  have hb : ∀ s b, (σ.purge d).b s = some b → ∃ b', σ.b s = some b' ∧ b = b'.purge d := fun s b k => by
    rw [AS.b_purge] at k
    split at k
    · cases k
    · obtain ⟨b', k1, rfl⟩ := Option.map_eq_some_iff.1 k
      exact ⟨b', k1, rfl⟩
  refine ⟨h.nod, h.sz, fun t a k => ?_, fun s b k => ?_, fun s s' b b' i k k' r r' => ?_, h.mem, fun s b i k r => ?_, fun s b i k r => ?_, h.keep, h.base, h.fro, h.par⟩
  · rw [AS.t_purge] at k
    obtain ⟨c, k1, rfl⟩ := Option.map_eq_some_iff.1 k
    obtain ⟨v, k2, k3⟩ := h.tm t c k1
    refine ⟨v, k2, ?_⟩
    unfold AV.purge
    split
    · exact .any v
    · exact k3
  · obtain ⟨b', k1, rfl⟩ := hb s b k
    exact (h.bx s b' k1).purge d
  · obtain ⟨c, k1, rfl⟩ := hb s b k
    obtain ⟨c', k1', rfl⟩ := hb s' b' k'
    exact h.injk s s' c c' i k1 k1' (blk_purge.1 r) (blk_purge.1 r')
  · obtain ⟨c, k1, rfl⟩ := hb s b k
    exact h.offk s c i k1 (blk_purge.1 r)
  · obtain ⟨c, k1, rfl⟩ := hb s b k
    exact h.ownk s c i k1 (blk_purge.1 r)
theorem Sat.drop (h : Sat N w0 m0 pl σ ρ m act w) (s : Site) : Sat N w0 m0 pl (σ.drop s) ρ m act w :=
  h.weak (fun t a k => .inl k) (fun s' b k => by
    rw [AS.b_drop] at k
    split at k
    · cases k
    · exact k)
def upd (ρ : Site → Loc) (s : Site) (l : Loc) : Site → Loc := fun s' => if s' = s then l else ρ s'
theorem upd_self (ρ : Site → Loc) (s : Site) (l : Loc) : upd ρ s l s = l := by simp [upd]
theorem upd_ne (ρ : Site → Loc) {s s' : Site} (l : Loc) (h : s' ≠ s) : upd ρ s l s' = ρ s' := by simp [upd, h]
theorem upd_loc (ρ : Site → Loc) (d j : Nat) (l : Loc) : ∀ s, s.isLoc d = false → upd ρ (.loc d j) l s = ρ s := fun s hs => upd_ne ρ l (fun e => by subst e; simp [Site.isLoc] at hs)
def Box.plain : Box → Bool
  | .rows _ _ _ _ => false
  | .ext _ => false
  | _ => true
theorem blk_plain {s : Site} {b : Box} {k : Nat} (hb : b.plain = true) (h : blk ρ w s b k) : (ρ s).real = true ∧ (ρ s).b = k := by
  rcases h with h | h
  · exact h
  · cases b with
    | rows e e2 n els => cases hb
    | ext E => cases hb
    | _ => cases h
theorem plain_noins {w : World} {l : Loc} {b : Box} (hb : b.plain = true) (k : Nat) : k ∉ ins w l b := fun h => by
  cases b with
  | rows e e2 n els => cases hb
  | ext E => cases hb
  | _ => cases h
theorem blk_noins {s : Site} {b : Box} {k : Nat} (hb : ∀ k, k ∉ ins w (ρ s) b) (h : blk ρ w s b k) : (ρ s).real = true ∧ (ρ s).b = k := h.elim id fun h => absurd h (hb k)
/-- A box that the slot d made comes in. -/
theorem Sat.addk (h : Sat N w0 m0 pl σ ρ m act w) {d j : Nat} (hn : NoD d σ) {l : Loc} {box : Box} (hb : RdB (upd ρ (.loc d j) l) m w (.loc d j) box)
    (hi : l.real = true → ∀ s b, σ.b s = some b → ¬ blk ρ w s b l.b) (ho : l.real = true → ∀ o, m l.b o = none) (hw : l.real = true → w0.heap.size ≤ l.b ∨ l.b ∈ pl) (hpl : ∀ k, k ∉ ins w (upd ρ (.loc d j) l (.loc d j)) box) :
    Sat N w0 m0 pl (σ.add (.loc d j) box) (upd ρ (.loc d j) l) m act w := by
  have hne : ∀ s b, σ.b s = some b → s ≠ .loc d j := fun s b k e => by
    subst e
    have := (hn.b _ b k).1
    simp [Site.isLoc] at this
  have hρ := upd_loc ρ d j l
  have hu := upd_self ρ (.loc d j) l
  refine ⟨h.nod, h.sz, fun t a k => ?_, fun s b k => ?_, fun s s' b b' i k k' r r' => ?_, h.mem, fun s b i k r => ?_, fun s b i k r => ?_, h.keep, h.base, h.fro, fun i => (upd_ne ρ l (by simp)).trans (h.par i)⟩
  · obtain ⟨v, k1, k2⟩ := h.tm t a k
    exact ⟨v, k1, k2.mono (Le.refl m) hρ (hn.t t a k)⟩
  · rw [AS.b_add] at k
    split at k
    · rename_i e; subst e; cases k; exact hb
    · exact (h.bx s b k).stay (Le.refl m) hρ (hn.b s b k).1 (hn.b s b k).2 (fun _ _ => rfl)
  · rw [AS.b_add] at k k'
    split at k <;> split at k'
    · rename_i e1 e2; rw [e1, e2]
    · rename_i e1 e2
      subst e1; cases k
      obtain ⟨q1, q2⟩ := blk_noins hpl r
      rw [hu] at q1 q2
      rw [blk_at (upd_ne ρ l e2)] at r'
      exact absurd (by rw [q2]; exact r') (hi q1 s' b' k')
    · rename_i e1 e2
      subst e2; cases k'
      obtain ⟨q1, q2⟩ := blk_noins hpl r'
      rw [hu] at q1 q2
      rw [blk_at (upd_ne ρ l e1)] at r
      exact absurd (by rw [q2]; exact r) (hi q1 s b k)
    · rename_i e1 e2
      rw [blk_at (upd_ne ρ l e1)] at r
      rw [blk_at (upd_ne ρ l e2)] at r'
      exact h.injk s s' b b' i k k' r r'
  · rw [AS.b_add] at k
    split at k
    · rename_i e; subst e; cases k
      obtain ⟨q1, q2⟩ := blk_noins hpl r
      rw [hu] at q1 q2
      subst q2; exact ho q1
    · rename_i e; rw [blk_at (upd_ne ρ l e)] at r; exact h.offk s b i k r
  · rw [AS.b_add] at k
    split at k
    · rename_i e; subst e; cases k
      obtain ⟨q1, q2⟩ := blk_noins hpl r
      rw [hu] at q1 q2
      subst q2; exact hw q1
    · rename_i e; rw [blk_at (upd_ne ρ l e)] at r; exact h.ownk s b i k r
theorem Sat.add (h : Sat N w0 m0 pl σ ρ m act w) {d j : Nat} (hn : NoD d σ) {l : Loc} {box : Box} (hb : RdB (upd ρ (.loc d j) l) m w (.loc d j) box)
    (hi : l.real = true → ∀ s b, σ.b s = some b → ¬ blk ρ w s b l.b) (ho : l.real = true → ∀ o, m l.b o = none) (hw : l.real = true → w0.heap.size ≤ l.b ∨ l.b ∈ pl) (hpl : box.plain = true := by rfl) :
    Sat N w0 m0 pl (σ.add (.loc d j) box) (upd ρ (.loc d j) l) m act w := h.addk hn hb hi ho hw (plain_noins hpl)
/-- What nobody writes lies below the heap's end. -/
theorem Sat.mem_new (h : Sat N w0 m0 pl σ ρ m act w) {k : Nat} (hk : w.heap.size ≤ k) (o : Nat) : m k o = none := by
  cases hm : m k o with
  | none => rfl
  | some v => have := lt_of_cell (h.mem k o v hm); omega
theorem Sat.lt (h : Sat N w0 m0 pl σ ρ m act w) {s : Site} {b : Box} (hb : σ.b s = some b) (hr : (ρ s).real = true) : (ρ s).b < w.heap.size := (h.bx s b hb).lt hr
theorem Sat.ltk (h : Sat N w0 m0 pl σ ρ m act w) {s : Site} {b : Box} (hb : σ.b s = some b) {k : Nat} (hr : blk ρ w s b k) : k < w.heap.size := (h.bx s b hb).ltk hr
/-- A new block. -/
theorem Sat.newk (h : Sat N w0 m0 pl σ ρ m act w) (d j : Nat) (hn : NoD d σ) (cs : Array Value) (T : TypeId) (cap : Nat) {box : Box}
    (hb : RdB (upd ρ (.loc d j) ⟨w.heap.size, 0, cap, true⟩) m (w.alloc (.cells cs T)) (.loc d j) box) (hpl : ∀ k, k ∉ ins (w.alloc (.cells cs T)) (upd ρ (.loc d j) ⟨w.heap.size, 0, cap, true⟩ (.loc d j)) box) :
    Sat N w0 m0 pl (σ.add (.loc d j) box) (upd ρ (.loc d j) ⟨w.heap.size, 0, cap, true⟩) m act (w.alloc (.cells cs T)) :=
  (h.ext (Ext.al w _)).addk hn hb (fun _ s b k r => by
    have hx : Ext w (w.alloc (.cells cs T)) := Ext.al w _
    have := h.ltk k (((h.bx s b k).blk_same (fun r => hx.block _ (h.lt k r))).1 r)
    simp at this) (fun _ o => h.mem_new (Nat.le_refl _) o) (fun _ => .inl h.keep.size) hpl
theorem Sat.new (h : Sat N w0 m0 pl σ ρ m act w) (d j : Nat) (hn : NoD d σ) (cs : Array Value) (T : TypeId) (cap : Nat) {box : Box}
    (hb : RdB (upd ρ (.loc d j) ⟨w.heap.size, 0, cap, true⟩) m (w.alloc (.cells cs T)) (.loc d j) box) (hpl : box.plain = true := by rfl) :
    Sat N w0 m0 pl (σ.add (.loc d j) box) (upd ρ (.loc d j) ⟨w.heap.size, 0, cap, true⟩) m act (w.alloc (.cells cs T)) := h.newk d j hn cs T cap hb (plain_noins hpl)
/-- A block that no other box has is written. -/
theorem Sat.write (h : Sat N w0 m0 pl σ ρ m act w) {k : Nat} (hk : ∀ s b, σ.b s = some b → ¬ blk ρ w s b k) (hm : ∀ o, m k o = none) (hp : w0.heap.size ≤ k ∨ k ∈ pl) (hnd : w.heap[k]? ≠ some (.deferred (some [])) ∨ act.defers = [])
    (hx : Keep [k] w w') : Sat N w0 m0 pl σ ρ m act w' := by
  have hst : ∀ s b, σ.b s = some b → ∀ i, blk ρ w s b i → w'.heap[i]? = w.heap[i]? := fun s b hs i r => hx.block _ (h.ltk hs r) (by
    rw [List.mem_singleton]; intro e; subst e; exact hk s b hs r)
  have hq : ∀ s b, σ.b s = some b → ∀ i, blk ρ w' s b i ↔ blk ρ w s b i := fun s b k i => (h.bx s b k).blk_same (fun r => hst s b k _ (blk_own r))
  refine ⟨let ⟨ds, h1, h0, h2⟩ := h.nod; ⟨ds, h1, h0, fun D hD => ⟨(h2 D hD).1, by
    obtain ⟨k1, k2⟩ := h2 D hD
    rw [hx.block D (Array.getElem?_eq_some_iff.1 k2).1 (by
      rw [List.mem_singleton]
      intro e; subst e
      rcases hnd with hnd | hnd
      · exact hnd k2
      · rw [hnd] at h1
        obtain ⟨d1, d2, rfl, h3⟩ := h1
        have h4 := List.append_eq_nil_iff.1 h3.symm
        have h5 := List.map_eq_nil_iff.1 (List.append_eq_nil_iff.1 h4.1).1
        have h6 := List.map_eq_nil_iff.1 h4.2
        subst h5 h6; cases hD)]
    exact k2⟩⟩, h.sz, h.tm, fun s b hs => (h.bx s b hs).more (Le.refl _) (hst s b hs), fun s s' b b' i k k' r r' => h.injk s s' b b' i k k' ((hq s b k i).1 r) ((hq s' b' k' i).1 r'), fun b o v hv => ?_, fun s b i k r => h.offk s b i k ((hq s b k i).1 r), fun s b i k r => h.ownk s b i k ((hq s b k i).1 r), ?_, h.base, h.fro, h.par⟩
  · have hw := h.mem b o v hv
    have hlt := lt_of_cell hw
    have hne : b ≠ k := fun e => by subst e; rw [hm o] at hv; cases hv
    exact (World.cell?_of_block (a := ⟨b, o, none⟩) (hx.block b hlt (by simpa using hne))).trans hw
  · refine ⟨hx.os.trans h.keep.os, hx.tape.trans h.keep.tape, hx.output.trans h.keep.output, Nat.le_trans h.keep.size hx.size, fun i hi hn => ?_⟩
    have hne : i ≠ k := fun e => by
      subst e
      rcases hp with hp | hp
      · omega
      · exact hn hp
    exact (hx.block i (Nat.lt_of_lt_of_le hi h.keep.size) (by simpa using hne)).trans (h.keep.block i hi hn)
/-- A box's block is written. -/
theorem Sat.setboxk (h : Sat N w0 m0 pl σ ρ m act w) {s : Site} {b : Box} (hs : σ.b s = some b) (hr : (ρ s).real = true) (hx : Keep [(ρ s).b] w w') {box : Box} (hb : RdB ρ m w' s box) (hq : ∀ k, k ∈ ins w' (ρ s) box → k ∈ ins w (ρ s) b) :
    Sat N w0 m0 pl (σ.set s box) ρ m act w' := by
  have hd : Sat N w0 m0 pl (σ.drop s) ρ m act w' := (h.drop s).write (k := (ρ s).b) (fun s' b' k r => by
    rw [AS.b_drop] at k
    split at k
    · cases k
    · rename_i hne
      exact hne (h.injk s' s b' b _ k hs r (blk_own hr))) (h.off s b hs hr) (h.own s b hs hr) (.inl ((h.bx s b hs).obj hr)) hx
  have hbk : ∀ k, blk ρ w' s box k → blk ρ w s b k := fun k r => r.imp id (hq k)
  have hold : ∀ s' b', s' ≠ s → σ.b s' = some b' → ∀ k, blk ρ w' s' b' k → blk ρ w s' b' k := fun s' b' hne k i r =>
    ((h.bx s' b' k).blk_same (fun r' => hx.block _ (h.lt k r') (by
      rw [List.mem_singleton]
      exact fun e => hne (h.inj s' s b' b k hs r' hr e)))).1 r
  refine ⟨hd.nod, hd.sz, hd.tm, fun s' b' k => ?_, fun s1 s2 b1 b2 i k1 k2 r1 r2 => ?_, hd.mem, fun s' b' i k r => ?_, fun s' b' i k r => ?_, hd.keep, hd.base, hd.fro, hd.par⟩
  · rw [AS.b_set] at k
    split at k
    · rename_i e; subst e; cases k; exact hb
    · rename_i hne
      exact hd.bx s' b' (by rw [AS.b_drop, if_neg hne]; exact k)
  · have g : ∀ s' b', (σ.set s box).b s' = some b' → blk ρ w' s' b' i → ∃ c, σ.b s' = some c ∧ blk ρ w s' c i := fun s' b' k r => by
      rw [AS.b_set] at k
      split at k
      · rename_i e; subst e; cases k; exact ⟨b, hs, hbk i r⟩
      · rename_i hne; exact ⟨b', k, hold s' b' hne k i r⟩
    obtain ⟨c1, g1, r1⟩ := g s1 b1 k1 r1
    obtain ⟨c2, g2, r2⟩ := g s2 b2 k2 r2
    exact h.injk s1 s2 c1 c2 i g1 g2 r1 r2
  · rw [AS.b_set] at k
    split at k
    · rename_i e; subst e; cases k; exact h.offk s' b i hs (hbk i r)
    · rename_i hne; exact h.offk s' b' i k (hold s' b' hne k i r)
  · rw [AS.b_set] at k
    split at k
    · rename_i e; subst e; cases k; exact h.ownk s' b i hs (hbk i r)
    · rename_i hne; exact h.ownk s' b' i k (hold s' b' hne k i r)
theorem Sat.setbox (h : Sat N w0 m0 pl σ ρ m act w) {s : Site} {b : Box} (hs : σ.b s = some b) (hr : (ρ s).real = true) (hx : Keep [(ρ s).b] w w') {box : Box} (hb : RdB ρ m w' s box) (hpl : box.plain = true := by rfl) :
    Sat N w0 m0 pl (σ.set s box) ρ m act w' := h.setboxk hs hr hx hb (fun k hk => by
  cases box with
  | rows e e2 n els => cases hpl
  | ext E => cases hpl
  | _ => cases hk)
/-- More memory that nobody writes. -/
theorem Sat.mem' (h : Sat N w0 m0 pl σ ρ m act w) {m' : Mem} (hm : Le m m') (hw : Le m' w.mem) (ho : ∀ s b k, σ.b s = some b → blk ρ w s b k → ∀ o, m' k o = none) (hf : ∀ b o v, m' b o = some v → m b o = some v ∨ w0.heap.size ≤ b ∨ b ∈ pl) : Sat N w0 m0 pl σ ρ m' act w := by
  refine ⟨h.nod, h.sz, fun t a k => ?_, fun s b k => ?_, h.injk, hw, ho, h.ownk, h.keep, h.base.trans hm, fun b o v hv => by
    rcases hf b o v hv with k | k
    · exact h.fro b o v k
    · exact .inr k, h.par⟩
  · obtain ⟨v, k1, k2⟩ := h.tm t a k
    exact ⟨v, k1, k2.more hm⟩
  · exact (h.bx s b k).more hm (fun _ _ => rfl)
end
end Go.Proofs.Ytohhjnpiiackjaa
/-! An evaluation of Go's code over plain values: what single operations of the model do to values that lie somewhere. Over any program. -/
namespace Go.Proofs.Ytohhjnpiiackjaa
open Go.RowKit
section
variable {P : Program} {w : World}
def sizeT (P : Program) (t : TypeId) : Option Nat := (P.info? t).map (·.size)
def rowT (P : Program) (t : TypeId) : Bool := match P.underlying t with
  | some (.struct _) | some (.array _ _) => true
  | _ => false
theorem run_sizeOf {t : TypeId} {n : Nat} (h : sizeT P t = some n) (w : World) : (sizeOf t).run P w = .ok n w := by
  unfold sizeT at h
  cases hx : P.info? t with
  | none => simp [hx] at h
  | some i =>
    simp [hx] at h
    simp [sizeOf, typeInfo, hx, h]
theorem run_isAgg {t : TypeId} {d : TypeDesc} (h : P.underlying t = some d) (w : World) : (isAgg t).run P w = .ok (rowT P t) w := by
  unfold isAgg rowT
  rw [Sem.run_bind, run_underlying h w]
  simp only [Result.andThen_ok, h]
  cases d <;> rfl
theorem r_load1 {t : TypeId} {d : TypeDesc} (hu : P.underlying t = some d) (hr : rowT P t = false) {b o : Nat} {v : Value} (hc : w.cell? ⟨b, o, none⟩ = some v) :
    (Instr.loadAt t (.pointer (some ⟨b, o, none⟩))).run P w = .ok v w := by
  simp only [Instr.loadAt, Instr.sureAddr, Sem.run_bind, Sem.run_pure, Result.andThen_ok, loadVar, run_isAgg hu, hr]
  simp [load, Sem.run, hc]
theorem r_loadn {t : TypeId} {d : TypeDesc} (hu : P.underlying t = some d) (hr : rowT P t = true) {b o : Nat} {cs : List Value} (hc : At w.mem b o cs) (hi : sizeT P t = some cs.length) :
    (Instr.loadAt t (.pointer (some ⟨b, o, none⟩))).run P w = .ok (.agg cs.toArray) w := by
  refine run_loadAt_mid w b o t cs d (fun j v hv => hc.get j v hv) hu ?_ hi
  unfold rowT at hr
  rw [hu] at hr
  cases d <;> first | rfl | (simp at hr)
theorem r_store {t : TypeId} {b o : Nat} {v : Value} {cur : Array Value} {T : TypeId} (hi : sizeT P t = some v.cells.size) (hh : w.heap[b]? = some (.cells cur T (0, 0))) (hl : o + v.cells.size ≤ cur.size) (h1 : ∀ u ∈ v.cells, u.oneCell' = true) :
    (Instr.storeAt t (.pointer (some ⟨b, o, none⟩)) v).run P w = .ok () (w.setRow b (cur.toList.take o ++ v.cells.toList ++ cur.toList.drop (o + v.cells.size)).toArray) := by
  have hs := run_storeCells_at P b o T v.cells.toList 0 cur w hh (by simpa using hl) (fun u hu => h1 u (by simpa using hu))
  simp only [Nat.add_zero, Array.length_toList] at hs
  simp only [Instr.storeAt, Instr.sureAddr, Sem.run_bind, Sem.run_pure, Result.andThen_ok, storeVar, run_sizeOf hi]
  simp [hs]
def offT (P : Program) (t f : Nat) : Option Nat := match P.underlying t with
  | some (.struct fs) => match fs[f]? with
    | some fl => if (sizeT P fl.type).getD 0 = 0 then none else some fl.offset
    | none => none
  | _ => none
theorem add_off (b o k : Nat) : (⟨b, o, none⟩ : Addr).add k = ⟨b, o + k, none⟩ := add_at
theorem r_fa {t f off : Nat} (h : offT P t f = some off) (b o : Nat) : (Instr.fieldAt t (.pointer (some ⟨b, o, none⟩)) f).run P w = .ok (.pointer (some ⟨b, o + off, none⟩)) w := by
  unfold offT at h
  split at h
  · rename_i fs hu
    split at h
    · rename_i fl hf
      split at h
      · cases h
      · rename_i hz
        cases h
        cases hs : sizeT P fl.type with
        | none => rw [hs] at hz; simp at hz
        | some n =>
          rw [hs] at hz
          simp at hz
          simp [Instr.fieldAt, run_underlying hu, hf, Instr.sureAddr, fieldPlace, run_sizeOf hs, hz, add_off]
    · cases h
  · cases h
def elemT (P : Program) (t : TypeId) : Option (TypeId × Nat × Option Nat) := match P.underlying t with
  | some (.slice e) => (sizeT P e).map fun n => (e, n, none)
  | some (.array l e) => (sizeT P e).map fun n => (e, n, some l)
  | _ => none
theorem elemT_slice {t e n : Nat} (h : elemT P t = some (e, n, none)) : P.underlying t = some (.slice e) ∧ sizeT P e = some n := by
  unfold elemT at h
  split at h
  · rename_i e' hu
    cases hs : sizeT P e' with
    | none => rw [hs] at h; simp at h
    | some k =>
      rw [hs] at h
      simp only [Option.map_some, Option.some.injEq, Prod.mk.injEq] at h
      obtain ⟨rfl, rfl, _⟩ := h
      exact ⟨hu, hs⟩
  · rename_i l e' hu
    cases hs : sizeT P e' <;> rw [hs] at h <;> simp at h
  · cases h
theorem elemT_arr {t e n l : Nat} (h : elemT P t = some (e, n, some l)) : P.underlying t = some (.array l e) ∧ sizeT P e = some n := by
  unfold elemT at h
  split at h
  · rename_i e' hu
    cases hs : sizeT P e' <;> rw [hs] at h <;> simp at h
  · rename_i l' e' hu
    cases hs : sizeT P e' with
    | none => rw [hs] at h; simp at h
    | some k =>
      rw [hs] at h
      simp only [Option.map_some, Option.some.injEq, Prod.mk.injEq] at h
      obtain ⟨rfl, rfl, rfl⟩ := h
      exact ⟨hu, hs⟩
  · cases h
theorem r_ia {t e n : Nat} (h : elemT P t = some (e, n, none)) (b o len cap : Nat) (k : IntKind) {i : Int} (h0 : 0 ≤ i) (h1 : i < len) :
    (Instr.indexAt t (.slice (some ⟨b, o, none⟩) len cap) (.int k i)).run P w = .ok (.pointer (some ⟨b, o + i.toNat * n, none⟩)) w := by
  obtain ⟨hu, hs⟩ := elemT_slice h
  simp [Instr.indexAt, run_underlying hu, asIntOf, run_sizeOf hs, h0, h1, add_off]
theorem r_ia_arr {t e n l : Nat} (h : elemT P t = some (e, n, some l)) (b o : Nat) (k : IntKind) {i : Int} (h0 : 0 ≤ i) (h1 : i < l) :
    (Instr.indexAt t (.pointer (some ⟨b, o, none⟩)) (.int k i)).run P w = .ok (.pointer (some ⟨b, o + i.toNat * n, none⟩)) w := by
  obtain ⟨hu, hs⟩ := elemT_arr h
  simp [Instr.indexAt, run_underlying hu, asIntOf, Instr.sureAddr, run_sizeOf hs, h0, h1, add_off]
theorem r_len {t e n : Nat} (h : elemT P t = some (e, n, none)) (ty : TypeId) (a : Option Addr) (len cap : Nat) : (Builtin.len_ #[t] ty #[.slice a len cap]).run P w = .ok (.int .i64 len) w := by
  obtain ⟨hu, hs⟩ := elemT_slice h
  simp [Builtin.len_, run_underlying hu, goInt]
theorem r_len_arr {t e n l : Nat} (h : elemT P t = some (e, n, some l)) (ty : TypeId) (v : Value) : (Builtin.len_ #[t] ty #[v]).run P w = .ok (.int .i64 l) w := by
  obtain ⟨hu, hs⟩ := elemT_arr h
  cases v <;> simp [Builtin.len_, run_underlying hu, goInt]
def zeroT (P : Program) (t : TypeId) : Option Value := (P.info? t).bind (·.zero)
theorem run_zero {t : TypeId} {z : Value} (h : zeroT P t = some z) (w : World) : (zeroValue t).run P w = .ok z w := by
  unfold zeroT at h
  cases hx : P.info? t with
  | none => simp [hx] at h
  | some i =>
    simp [hx] at h
    simp [zeroValue, typeInfo, hx, h]
theorem r_alloc {t : TypeId} {z : Value} (h : zeroT P t = some z) : (Instr.alloc t true (.tuple #[])).run P w = .ok (.pointer (some ⟨w.heap.size, 0, none⟩)) (w.alloc (.cells z.cells t)) := by
  simp [Instr.alloc, run_zero h, newVar, newRow]
theorem r_box (t : TypeId) (v : Value) : (Instr.box t v).run P w = .ok (.pointer (some ⟨w.heap.size, 0, none⟩)) (w.alloc (.cells v.cells t)) := by
  simp [Instr.box, newVar, newRow]
end
end Go.Proofs.Ytohhjnpiiackjaa
/-! An evaluation of Go's code over plain values: the operations. Over any program. -/
namespace Go.Proofs.Ytohhjnpiiackjaa
open Go.RowKit
inductive Opd where
  | t (k : Nat)
  | c (x : PV)
  deriving Inhabited
def AS.o (σ : AS) : Opd → AV
  | .t k => (σ.t k).getD .any
  | .c x => .pv x
def pvOf : Value → Option PV
  | .int k n => some (.int k n)
  | .bool b => some (.bool b)
  | .string s => some (.str s)
  | .pointer none => some .nilp
  | .slice none 0 0 => some (.emp (some true))
  | .nilFunc => some .nilfn
  | .map none => some .nilmap
  | .nilIface => some .nilif
  | _ => none
def opd : Operand → Option Opd
  | .tmp k => some (.t k)
  | .const v => (pvOf v).map .c
  | .func f => some (.c (.fn f [] []))
  | .global _ => none
theorem pvOf_rd {v : Value} {x : PV} (h : pvOf v = some x) (m : Mem) : RdP m v x := by
  unfold pvOf at h
  split at h <;> first | (cases h; constructor) | (cases h)
  · intro _; rfl
  · intro e; cases e
  · intro A e; cases e
def AV.one : AV → Bool
  | .any => false
  | .pv (.agg _) => false
  | .pv (.tup _) => false
  | .agg _ => false
  | .tup _ => false
  | _ => true
theorem RdA.one {ρ : Site → Loc} {m : Mem} {v : Value} {a : AV} (h : RdA ρ m v a) (ha : a.one = true) : v.oneCell' = true := by
  cases h with
  | any => cases ha
  | pv v x h => cases h <;> first | rfl | assumption | (simp [AV.one] at ha)
  | _ => first | rfl | (simp [AV.one] at ha)
def unpvs : List AV → Option (List PV)
  | [] => some []
  | a :: r => match a, unpvs r with
    | .pv x, some l => some (x :: l)
    | _, _ => none
def ofCells (l : List AV) : AV := match unpvs l with
  | some xs => .pv (.agg xs)
  | none => .agg l
def splice {α : Type} (l : List α) (off : Nat) (c : List α) : List α := l.take off ++ c ++ l.drop (off + c.length)
theorem unpvs_spec : ∀ {l : List AV} {xs : List PV}, unpvs l = some xs → l = xs.map .pv
  | [], xs, h => by simp [unpvs] at h; subst h; rfl
  | a :: r, xs, h => by
    unfold unpvs at h
    split at h
    · rename_i x l h1
      cases h
      rw [List.map_cons, unpvs_spec h1]
    · cases h
section
variable {N : Nat} {w0 : World} {m0 : Env w0} {pl : List Nat} {σ : AS} {ρ : Site → Loc} {m : Mem} {act : Act} {w w' : World}
def AV.wide : AV → Bool
  | .agg _ => true
  | .pv (.agg _) => true
  | _ => false
theorem RdA.cells_rd {v : Value} {a : AV} (h : RdA ρ m v a) (ha : a ≠ .any) : v.cells.size = a.cells.length ∧ ∀ (j : Nat) (d : Value) (c : AV), v.cells[j]? = some d → a.cells[j]? = some c → RdA ρ m d c ∧ (a.wide = true → d.oneCell' = true) := by
  have single : ∀ {v : Value} {a : AV}, RdA ρ m v a → v.cells = #[v] → a.cells = [a] → a.wide = false → v.cells.size = a.cells.length ∧ ∀ (j : Nat) (d : Value) (c : AV), v.cells[j]? = some d → a.cells[j]? = some c → RdA ρ m d c ∧ (a.wide = true → d.oneCell' = true) := by
    intro v a h h1 h2 h3
    rw [h1, h2]
    refine ⟨rfl, fun j d c k1 k2 => ?_⟩
    cases j with
    | zero => simp at k1 k2; subst k1 k2; exact ⟨h, fun e => by rw [h3] at e; cases e⟩
    | succ j => simp at k2
  have h' := h
  cases h with
  | any => exact absurd rfl ha
  | agg vs cs h0 h1 h2 => exact ⟨h0, fun j d c k1 k2 => ⟨h2 j d c k1 k2, fun _ => h1 d (Array.mem_of_getElem? k1)⟩⟩
  | pv v x hx =>
    cases hx with
    | agg vs cs h0 h1 h2 =>
      refine ⟨by simp only [AV.cells, Value.cells, List.length_map]; exact h0, fun j d c k1 k2 => ?_⟩
      simp only [AV.cells, List.getElem?_map] at k2
      obtain ⟨x, k3, rfl⟩ := Option.map_eq_some_iff.1 k2
      exact ⟨.pv _ _ (h2 j d x k1 k3), fun _ => h1 d (Array.mem_of_getElem? k1)⟩
    | opq _ hv => exact single h' (by cases v <;> first | rfl | cases hv) rfl rfl
    | raw _ hv => exact single h' (by cases v <;> first | rfl | cases hv) rfl rfl
    | _ => exact single h' rfl rfl rfl
  | _ => exact single h' rfl rfl rfl
theorem Sat.opd (h : Sat N w0 m0 pl σ ρ m act w) {x : Operand} {y : Opd} (e : Go.Proofs.Ytohhjnpiiackjaa.opd x = some y) : RdA ρ m (act.eval x) (σ.o y) := by
  cases x with
  | tmp k =>
    simp [Go.Proofs.Ytohhjnpiiackjaa.opd] at e
    subst e
    show RdA ρ m (act.tmps.getD k undef) ((σ.t k).getD .any)
    cases ht : σ.t k with
    | none => exact .any _
    | some a =>
      obtain ⟨v, k1, k2⟩ := h.tm k a ht
      rw [Array.getD_eq_getD_getElem?, k1]
      exact k2
  | const v =>
    simp only [Go.Proofs.Ytohhjnpiiackjaa.opd, Option.map_eq_some_iff] at e
    obtain ⟨x, k1, rfl⟩ := e
    exact .pv _ _ (pvOf_rd k1 m)
  | func f =>
    simp [Go.Proofs.Ytohhjnpiiackjaa.opd] at e
    subst e
    exact .pv _ _ (.fn f #[] #[] [] [] rfl rfl (fun j d c k => by simp at k) (fun j d c k => by simp at k))
  | global g => simp [Go.Proofs.Ytohhjnpiiackjaa.opd] at e
theorem ofCells_rd {vs : Array Value} {l : List AV} (h0 : vs.size = l.length) (h1 : ∀ d ∈ vs, d.oneCell' = true) (h2 : ∀ (j : Nat) (d : Value) (c : AV), vs[j]? = some d → l[j]? = some c → RdA ρ m d c) : RdA ρ m (.agg vs) (ofCells l) := by
  unfold ofCells
  split
  · rename_i xs hx
    have e := unpvs_spec hx
    subst e
    refine .pv _ _ (.agg vs xs (by simpa using h0) h1 (fun j d c k1 k2 => ?_))
    have := h2 j d (.pv c) k1 (by rw [List.getElem?_map, k2]; rfl)
    cases this with
    | pv _ _ h => exact h
  · exact .agg vs l h0 h1 h2
def tupA (l : List AV) : AV := match unpvs l with
  | some xs => .pv (.tup xs)
  | none => .tup l
def fnA (f : FuncId) (fs cs : List AV) : AV := match unpvs fs, unpvs cs with
  | some a, some b => .pv (.fn f a b)
  | _, _ => .fn f fs cs
theorem tupA_rd {vs : Array Value} {l : List AV} (h0 : vs.size = l.length) (h2 : ∀ (j : Nat) (d : Value) (c : AV), vs[j]? = some d → l[j]? = some c → RdA ρ m d c) : RdA ρ m (.tuple vs) (tupA l) := by
  unfold tupA
  split
  · rename_i xs hx
    have e := unpvs_spec hx
    subst e
    refine .pv _ _ (.tup vs xs (by simpa using h0) (fun j d c k1 k2 => ?_))
    have := h2 j d (.pv c) k1 (by rw [List.getElem?_map, k2]; rfl)
    cases this with
    | pv _ _ h => exact h
  · exact .tup vs l h0 h2
theorem fnA_rd {f : FuncId} {vf vc : Array Value} {fs cs : List AV} (h0 : vf.size = fs.length) (h1 : vc.size = cs.length) (h2 : ∀ (j : Nat) (d : Value) (c : AV), vf[j]? = some d → fs[j]? = some c → RdA ρ m d c)
    (h3 : ∀ (j : Nat) (d : Value) (c : AV), vc[j]? = some d → cs[j]? = some c → RdA ρ m d c) : RdA ρ m (.func (.func f) vf vc) (fnA f fs cs) := by
  unfold fnA
  split
  · rename_i a b hx hy
    have e := unpvs_spec hx
    have e' := unpvs_spec hy
    subst e e'
    refine .pv _ _ (.fn f vf vc a b (by simpa using h0) (by simpa using h1) (fun j d c k1 k2 => ?_) (fun j d c k1 k2 => ?_))
    · have := h2 j d (.pv c) k1 (by rw [List.getElem?_map, k2]; rfl)
      cases this with
      | pv _ _ h => exact h
    · have := h3 j d (.pv c) k1 (by rw [List.getElem?_map, k2]; rfl)
      cases this with
      | pv _ _ h => exact h
  · exact .fn f vf vc fs cs h0 h1 h2 h3
/-- Integers' and bools' operators. -/
def binI (op : BinOp) (k k' : IntKind) (a b : Int) : Option PV :=
  match op with
  | .shl => if b < 0 then none else some (.int k (k.wrap (a * 2 ^ (min b.toNat k.bits))))
  | .shr => if b < 0 then none else some (.int k (a.fdiv (2 ^ (min b.toNat k.bits))))
  | .add => if k = k' then some (.int k (k.wrap (a + b))) else none
  | .sub => if k = k' then some (.int k (k.wrap (a - b))) else none
  | .mul => if k = k' then some (.int k (k.wrap (a * b))) else none
  | .quo => if k = k' then (if b = 0 then none else some (.int k (k.wrap (a.tdiv b)))) else none
  | .rem => if k = k' then (if b = 0 then none else some (.int k (a.tmod b))) else none
  | .eql => if k = k' then some (.bool (decide (a = b))) else none
  | .neq => if k = k' then some (.bool (decide (a ≠ b))) else none
  | .lss => if k = k' then some (.bool (decide (a < b))) else none
  | .leq => if k = k' then some (.bool (decide (a ≤ b))) else none
  | .gtr => if k = k' then some (.bool (decide (b < a))) else none
  | .geq => if k = k' then some (.bool (decide (b ≤ a))) else none
  | .and => if k = k' then some (.int k (k.wrap (BitVec.ofInt k.bits a &&& BitVec.ofInt k.bits b).toNat)) else none
  | .or => if k = k' then some (.int k (k.wrap (BitVec.ofInt k.bits a ||| BitVec.ofInt k.bits b).toNat)) else none
  | .xor => if k = k' then some (.int k (k.wrap (BitVec.ofInt k.bits a ^^^ BitVec.ofInt k.bits b).toNat)) else none
  | .andNot => none
def binB (op : BinOp) (a b : Bool) : Option PV :=
  match op with
  | .eql => some (.bool (a == b))
  | .neq => some (.bool (a != b))
  | _ => none
theorem dec_beq (a b : Int) : decide (a = b) = (a == b) := by rw [Bool.eq_iff_iff]; simp
theorem dec_bne (a b : Int) : decide (a ≠ b) = (a != b) := by rw [Bool.eq_iff_iff]; simp
theorem binI_run {P : Program} {op : BinOp} {k k' : IntKind} {a b : Int} {r : PV} (h : binI op k k' a b = some r) (t : TypeId) (x y : Operand) :
    ∃ v, (∀ w : World, (do eqGuard op t x y (.int k a) (.int k' b); binOp op t (.int k a) (.int k' b) : Sem Value).run P w = .ok v w) ∧ ∀ m, RdP m v r := by
  have hg : ∀ w, (eqGuard op t x y (.int k a) (.int k' b)).run P w = .ok () w := by
    intro w
    unfold eqGuard
    cases op <;> simp
  simp only [Sem.run_bind, hg, Result.andThen_ok]
  unfold binI at h
  cases op <;> simp only at h
  case shl => 
    split at h
    · cases h
    · rename_i hb; cases h
      (refine ⟨_, ?_, fun m => .int _ _⟩; intro w; simp [binOp, Op.shift, hb])
  case shr =>
    split at h
    · cases h
    · rename_i hb; cases h
      (refine ⟨_, ?_, fun m => .int _ _⟩; intro w; simp [binOp, Op.shift, hb])
  case quo =>
    split at h
    · rename_i hk; subst hk
      split at h
      · cases h
      · rename_i hb; cases h
        (refine ⟨_, ?_, fun m => .int _ _⟩; intro w; simp [binOp, Op.intDiv, hb])
    · cases h
  case rem =>
    split at h
    · rename_i hk; subst hk
      split at h
      · cases h
      · rename_i hb; cases h
        (refine ⟨_, ?_, fun m => .int _ _⟩; intro w; simp [binOp, Op.intDiv, hb])
    · cases h
  case andNot => cases h
  case eql =>
    split at h
    · rename_i hk; subst hk; cases h
      exact ⟨.bool (a == b), by intro w; simp [binOp, Op.intCmp], fun m => by rw [dec_beq]; exact .bool _⟩
    · cases h
  case neq =>
    split at h
    · rename_i hk; subst hk; cases h
      exact ⟨.bool (a != b), by intro w; simp [binOp, Op.intCmp], fun m => by rw [dec_bne]; exact .bool _⟩
    · cases h
  all_goals
    split at h
    · rename_i hk; subst hk; cases h
      first
      | (refine ⟨_, ?_, fun m => .int _ _⟩; intro w; simp [binOp, Op.intArith]; done)
      | (refine ⟨_, ?_, fun m => .int _ _⟩; intro w; simp [binOp, Op.intBits]; done)
      | (refine ⟨_, ?_, fun m => .bool _⟩; intro w; simp [binOp, Op.intCmp]; done)
    · cases h
theorem binB_run {P : Program} {op : BinOp} {a b : Bool} {r : PV} (h : binB op a b = some r) (t : TypeId) (x y : Operand) (ht : P.underlying t = some .bool) :
    ∃ v, (∀ w : World, (do eqGuard op t x y (.bool a) (.bool b); binOp op t (.bool a) (.bool b) : Sem Value).run P w = .ok v w) ∧ ∀ m, RdP m v r := by
  have hg : ∀ w, (eqGuard op t x y (.bool a) (.bool b)).run P w = .ok () w := by
    intro w
    unfold eqGuard
    cases op <;> simp
  simp only [Sem.run_bind, hg, Result.andThen_ok]
  unfold binB at h
  cases op <;> simp only at h <;> cases h
  · (refine ⟨_, ?_, fun m => .bool _⟩; intro w; simp only [binOp, Sem.run_bind, run_equal_bool w t a b ht, Result.andThen_ok]; rfl)
  · (refine ⟨_, ?_, fun m => .bool _⟩; intro w; simp only [binOp, Sem.run_bind, run_equal_bool w t a b ht, Result.andThen_ok]; rfl)
end
end Go.Proofs.Ytohhjnpiiackjaa
/-! An evaluation of Go's code over plain values: what the operations do. Over any program. -/
namespace Go.Proofs.Ytohhjnpiiackjaa
open Go.RowKit
mutual
def AV.frz (s : Site) (nb : Nat) (xs : List PV) : AV → AV
  | .any => .any
  | .pv x => .pv x
  | .ptr s' off => if s' = s then (if nb = 0 then .pv (.ref (xs.drop off)) else .any) else .ptr s' off
  | .elt s' n i off => if s' = s then .any else .elt s' n i off
  | .vec s' n lo len => if s' = s then (if 0 < n ∧ n = nb ∧ lo + len ≤ xs.length then .pv (.lst false n ((xs.drop lo).take len)) else .any) else .vec s' n lo len
  | .mp s' => if s' = s then .any else .mp s'
  | .yld s' => if s' = s then .any else .yld s'
  | .fn f fs cs => fnA f (AV.frzL s nb xs fs) (AV.frzL s nb xs cs)
  | .agg cs => ofCells (AV.frzL s nb xs cs)
  | .tup vs => tupA (AV.frzL s nb xs vs)
def AV.frzL (s : Site) (nb : Nat) (xs : List PV) : List AV → List AV
  | [] => []
  | a :: r => AV.frz s nb xs a :: AV.frzL s nb xs r
end
def Box.frz (s : Site) (nb : Nat) (xs : List PV) : Box → Box
  | .rows e e2 n els => .rows e e2 n (els.map (RowE.map (AV.frz s nb xs)))
  | .cells as => .cells (AV.frzL s nb xs as)
  | .loop C ps nt tm st => .loop C ps nt (tm.map fun p => (p.1, p.2.frz s nb xs)) st
  | b => b
mutual
def AV.allS (q : Site → Bool) : AV → Bool
  | .any => true
  | .pv _ => true
  | .ptr s _ => q s
  | .elt s _ _ _ => q s
  | .vec s _ _ _ => q s
  | .mp s => q s
  | .yld s => q s
  | .fn _ fs cs => AV.allSL q fs && AV.allSL q cs
  | .agg cs => AV.allSL q cs
  | .tup vs => AV.allSL q vs
def AV.allSL (q : Site → Bool) : List AV → Bool
  | [] => true
  | a :: r => AV.allS q a && AV.allSL q r
end
/-- What mentions a box that is not there says nothing. -/
def AV.live (q : Site → Bool) (a : AV) : AV := match a.allS q with
  | true => a
  | false => .any
def Box.live (q : Site → Bool) : Box → Box
  | .rows e e2 n els => .rows e e2 n (els.map (RowE.map (AV.live q)))
  | .cells as => .cells (as.map (AV.live q))
  | .loop C ps nt tm st => .loop C ps nt (tm.map fun p => (p.1, p.2.live q)) st
  | b => b
def AS.tidy (σ : AS) : AS := ⟨σ.tm, σ.bx.map fun p => (p.1, p.2.live fun s => (σ.b s).isSome)⟩
/-- An array box that nobody writes any more: its handles become plain lists. (Of no box at all: the state is tidied.) -/
def AS.frz (s : Site) (σ : AS) : AS := match σ.b s with
  | none => σ.tidy
  | some (.arr _ n xs) => ⟨σ.tm.map fun p => (p.1, p.2.frz s n xs), (σ.bx.filter fun p => !decide (p.1 = s)).map fun p => (p.1, p.2.frz s n xs)⟩
  | some (.cells as') => match unpvs as' with
    | some xs => ⟨σ.tm.map fun p => (p.1, p.2.frz s 0 xs), (σ.bx.filter fun p => !decide (p.1 = s)).map fun p => (p.1, p.2.frz s 0 xs)⟩
    | none => σ
  | _ => σ
def AS.frz1 (a : AV) (σ : AS) : AS := match a with
  | .vec s _ _ _ => σ.frz s
  | _ => σ
def AS.frzC : List AV → AS → AS
  | [], σ => σ
  | a :: r, σ => AS.frzC r (σ.frz1 a)
def AS.frzA (a : AV) (σ : AS) : AS := match a with
  | .agg cs => σ.frzC cs
  | a => σ.frz1 a
def AS.frzs : List Opd → AS → AS
  | [], σ => σ
  | x :: r, σ => AS.frzs r (σ.frzA (σ.o x))
def AS.pvs (σ : AS) : List Opd → Option (List PV)
  | [] => some []
  | x :: r => match σ.o x, σ.pvs r with
    | .pv x, some l => some (x :: l)
    | _, _ => none
def fillA (σ : AS) : List AV → List (Nat × Nat × Opd) → Option (List AV)
  | l, [] => some l
  | l, (off, n, x) :: r => if (σ.o x).cells.length = n ∧ off + n ≤ l.length ∧ ((σ.o x).wide = true ∨ (σ.o x).one = true) then fillA σ (splice l off (σ.o x).cells) r else none
def setAt (x : PV) (off : Nat) (p : PV) : PV := match x with
  | .agg l => .agg (splice l off p.cells)
  | _ => p
/-- What a slice holds. -/
def AS.cont (σ : AS) (a : AV) (n : Nat) : Option (List PV) := match a with
  | .pv (.lst _ n' xs) => if n' = n then some xs else none
  | .pv (.emp _) => some []
  | .vec s n' lo len => match σ.b s with
    | some (.arr _ n'' xs) => if n' = n ∧ n'' = n ∧ lo + len ≤ xs.length then some ((xs.drop lo).take len) else none
    | _ => none
  | _ => none
/-- What may be nil: a slice, a pointer, a map. -/
inductive QK where
  | sl
  | pt
  | mp
  deriving Inhabited, DecidableEq
/-- Is it nil? -/
def nilOf : QK → AV → Option Bool
  | .sl, .pv (.emp nl) => nl
  | .sl, .pv (.lst nn _ xs) => if nn = true then some false else match xs with
    | [] => none
    | _ :: _ => some false
  | .sl, .vec _ _ _ len => if len = 0 then none else some false
  | .pt, .pv .nilp => some true
  | .pt, .pv (.ref _) => some false
  | .pt, .ptr _ _ => some false
  | .pt, .elt _ _ _ _ => some false
  | .mp, .pv .nilmap => some true
  | .mp, .mp _ => some false
  | _, _ => none
def maybeNil : QK → AV → Prop
  | .sl, .pv (.emp _) => True
  | .sl, .pv (.lst _ _ _) => True
  | .sl, .vec _ _ _ _ => True
  | _, _ => False
/-- Kinds of cells; a type whose values are such cells alone ('wide': side by side). -/
inductive CK where
  | int (k : IntKind)
  | bool
  | str
  deriving DecidableEq, Inhabited
structure KT where
  wide : Bool
  ks : List CK
  deriving DecidableEq, Inhabited
def CK.ok : CK → PV → Bool
  | .int k, .int k' _ => decide (k' = k)
  | .bool, .bool _ => true
  | .str, .str _ => true
  | _, _ => false
def ckAll : List CK → List PV → Bool
  | [], [] => true
  | k :: ks, x :: xs => k.ok x && ckAll ks xs
  | _, _ => false
def KT.ok (t : KT) : PV → Bool
  | .agg cs => t.wide && ckAll t.ks cs
  | x => !t.wide && ckAll t.ks [x]
/-- The same value, cell by cell. -/
def eqC : PV → PV → Bool
  | .int _ a, .int _ b => a == b
  | .bool a, .bool b => a == b
  | .str a, .str b => a.toList == b.toList
  | _, _ => false
def eqL : List PV → List PV → Bool
  | [], [] => true
  | x :: xs, y :: ys => eqC x y && eqL xs ys
  | _, _ => false
def eqK (x y : PV) : Bool := eqL x.cells y.cells
/-- A map's entries. -/
def findV (k : PV) : List (PV × PV) → Option PV
  | [] => none
  | (k', v) :: r => match eqK k k' with
    | true => some v
    | false => findV k r
def putK (k v : PV) : List (PV × PV) → List (PV × PV)
  | [] => [(k, v)]
  | (k', v') :: r => match eqK k k' with
    | true => (k, v) :: r
    | false => (k', v') :: putK k v r
def keysOk (kt : KT) (es : List (PV × PV)) : Bool := es.all fun p => kt.ok p.1
def lookA (ok : Bool) (v : Option PV) (z : PV) : AV := match ok with
  | true => .pv (.tup [v.getD z, .bool v.isSome])
  | false => .pv (v.getD z)
/-- Cells, put together by so many. -/
def packW (W : Nat) : Nat → List PV → List PV
  | 0, _ => []
  | k + 1, xs => .agg (xs.take W) :: packW W k (xs.drop W)
/-- A string's byte; a string as a list of bytes, and back. -/
def sAt (s : ByteArray) (z : Int) : Option UInt8 := if 0 ≤ z then s[z.toNat]? else none
def bytesP (s : ByteArray) : List PV := s.data.toList.map fun b => .int .u8 b.toNat
def bytesN : List PV → Option (List Int)
  | [] => some []
  | .int .u8 n :: r => (bytesN r).map (n :: ·)
  | _ => none
def bytesS (ns : List Int) : ByteArray := ⟨(ns.map fun n => UInt8.ofNat n.toNat).toArray⟩
/-- A strings.Builder (of the type T) that holds bytes: its two cells, and the row of its buffer. -/
def bldRd (T e : TypeId) (l : List UInt8) (q : Loc) (_ : Mem) (w : World) : Prop :=
  ∃ p v, w.heap[q.b]? = some (.cells #[p, v] T (0, 0)) ∧ (p = .pointer none ∨ p = .pointer (some ⟨q.b, 0, none⟩)) ∧
    ((v = .slice none 0 0 ∧ l = []) ∨ ∃ g c cur, v = .slice (some ⟨g, 0, none⟩) l.length (c + 1) ∧ g ≠ q.b ∧ w.heap[g]? = some (.cells cur e (0, 0)) ∧ l.length ≤ c + 1 ∧ c + 1 ≤ cur.size ∧ c + 1 ≤ maxLen ∧ ∀ (i : Nat) (b : UInt8), l[i]? = some b → cur[i]? = some (.int .u8 b.toNat))
def bldIns (q : Loc) (w : World) : List Nat := match w.heap[q.b]? with
  | some (.cells cs _ _) => match cs[(1 : Nat)]? with
    | some (.slice (some A) _ (_ + 1)) => [A.block]
    | _ => []
  | _ => []
theorem bldIns_of {q : Loc} {w : World} {p : Value} {T : TypeId} {t : Nat × Nat} {g o n c : Nat} (h : w.heap[q.b]? = some (.cells #[p, .slice (some ⟨g, o, none⟩) n (c + 1)] T t)) : bldIns q w = [g] := by
  unfold bldIns
  rw [h]; rfl
theorem bldIns_no {q : Loc} {w : World} {p : Value} {T : TypeId} {t : Nat × Nat} (h : w.heap[q.b]? = some (.cells #[p, .slice none 0 0] T t)) : bldIns q w = [] := by
  unfold bldIns
  rw [h]; rfl
def bldE (T e : TypeId) (l : List UInt8) : ExtB where
  rd := bldRd T e l
  ins := bldIns
  same q w w' h := by unfold bldIns; rw [h]
  obj q m w h := by
    obtain ⟨p, v, h1, _⟩ := h
    exact ⟨_, _, h1⟩
  insObj q m w k h hk := by
    obtain ⟨p, v, h1, _, ⟨rfl, _⟩ | ⟨g, c, cur, rfl, _, h3, _⟩⟩ := h
    · rw [bldIns_no h1] at hk; cases hk
    · rw [bldIns_of h1] at hk
      rw [List.mem_singleton] at hk
      subst hk
      exact ⟨_, _, h3⟩
  more q m m' w w' h _ hb hk := by
    obtain ⟨p, v, h1, h2, ⟨rfl, h3⟩ | ⟨g, c, cur, rfl, h4, h3, h5⟩⟩ := h
    · exact ⟨p, _, by rw [hb]; exact h1, h2, .inl ⟨rfl, h3⟩⟩
    · have hg := hk g (by rw [bldIns_of h1]; exact List.mem_singleton_self _)
      exact ⟨p, _, by rw [hb]; exact h1, h2, .inr ⟨g, c, cur, rfl, h4, by rw [hg]; exact h3, h5⟩⟩
/-- Further operations. -/
inductive XOp where
  | eqv (neg : Bool) (kt : KT) (x y : Opd)
  | mmk
  | look (kt : KT) (z : PV) (ok : Bool) (x i : Opd)
  | upd (kt : KT) (x i v : Opd)
  | mlen (x : Opd)
  | copy (n : Nat) (x y : Opd)
  | clear (n : Nat) (z : PV) (x : Opd)
  | sla (n : Nat) (x hi : Opd)
  | slw (n W : Nat) (x hi : Opd)
  | slen (x : Opd)
  | sidx (x i : Opd)
  | ssl (x : Opd) (lo hi : Option Opd)
  | scat (x y : Opd)
  | sbyt (e : TypeId) (x : Opd)
  | sof (x : Opd)
  | mif (t : TypeId) (x : Opd)
  | nif (neg : Bool) (x : Opd)
  | tas (t : TypeId) (z : PV) (x : Opd)
  | pan (x : Opd)
  | aps (e : TypeId) (n bytes : Nat) (x y : Opd)
  | alB (T e : TypeId)
  deriving Inhabited
inductive LOp where
  | mov (x : Opd)
  | pick (c a b : Opd)
  | bin (bt : Bool) (op : BinOp) (x y : Opd)
  | not (x : Opd)
  | neg (x : Opd)
  | box (n : Nat) (x : Opd)
  | alloc (z : PV)
  | build (z : PV) (ps : List (Nat × Nat × Opd))
  | bslice (e n : Nat) (ps : List Opd)
  | load (row : Bool) (n : Nat) (x : Opd)
  | store (n : Nat) (x y : Opd)
  | fa (off : Nat) (x : Opd)
  | fld (row : Bool) (off n : Nat) (x : Opd)
  | ia (n : Nat) (arr : Option Nat) (x i : Opd)
  | len (arr : Option Nat) (x : Opd)
  | ext (x : Opd) (i : Nat)
  | mkf (f : FuncId) (fs cs : List Opd)
  | nilc (x : Opd)
  | minmax (mx : Bool) (x y : Opd)
  | conv (k : IntKind) (x : Opd)
  | app (e n bytes : Nat) (x y : Opd)
  | app0 (e n bytes : Nat) (x y : Opd)
  | mks (e n bytes : Nat) (z : PV) (l c : Opd)
  | slc (n : Nat) (arr : Option Nat) (x : Opd) (lo hi mx : Option Opd)
  | call (f : Opd) (args : List Opd)
  | nilq (k : QK) (neg : Bool) (x : Opd)
  | x (y : XOp)
  | other
  deriving Inhabited
/-- A bound of a slice. -/
def AS.ob (σ : AS) (x : Option Opd) (z : Int) : Option Int := match x with
  | none => some z
  | some x => match σ.o x with
    | .pv (.int _ a) => some a
    | _ => none
def opWpX (l : XOp) (d : Nat) (K : AV → AS → Prop) (σ : AS) : Prop :=
  match l with
  | .eqv neg kt x y => match σ.o x, σ.o y with
    | .pv a, .pv b => kt.ok a = true ∧ kt.ok b = true ∧ K (.pv (.bool (eqK a b != neg))) σ
    | _, _ => False
  | .mmk => K (.mp (.loc d 0)) ((σ.purge d).add (.loc d 0) (.map []))
  | .look kt z ok x i => match σ.o i with
    | .pv k => kt.ok k = true ∧ match σ.o x with
      | .mp s => match σ.b s with
        | some (.map es) => keysOk kt es = true ∧ K (lookA ok (findV k es) z) σ
        | _ => False
      | .pv .nilmap => K (lookA ok none z) σ
      | _ => False
    | _ => False
  | .upd kt x i v => match σ.o i with
    | .pv k => kt.ok k = true ∧ match σ.o x with
      | .mp s => match (σ.frzA (σ.o v)).b s, (σ.frzA (σ.o v)).o v with
        | some (.map es), .pv val => keysOk kt es = true ∧ K .any ((σ.frzA (σ.o v)).set s (.map (putK k val es)))
        | _, _ => False
      | _ => False
    | _ => False
  | .mlen x => match σ.o x with
    | .mp s => match σ.b s with
      | some (.map es) => K (.pv (.int .i64 es.length)) σ
      | _ => False
    | .pv .nilmap => K (.pv (.int .i64 0)) σ
    | _ => False
  | .copy n x y => match σ.cont (σ.o y) n with
    | some ys => match σ.o x with
      | .pv (.emp _) => K (.pv (.int .i64 0)) σ
      | .vec s n' lo len => match σ.b s with
        | some (.arr e n'' xs) => (n' = n ∧ n'' = n ∧ lo + len ≤ xs.length) ∧ K (.pv (.int .i64 (ys.take len).length)) (σ.set s (.arr e n (splice xs lo (ys.take len))))
        | _ => False
      | _ => False
    | none => False
  | .clear n z x => match σ.o x with
    | .pv (.emp _) => K (.pv (.tup [])) σ
    | .vec s n' lo len => match σ.b s with
      | some (.arr e n'' xs) => (n' = n ∧ n'' = n ∧ lo + len ≤ xs.length) ∧ K (.pv (.tup [])) (σ.set s (.arr e n (splice xs lo (List.replicate len z))))
      | _ => False
    | _ => False
  | .sla n x hi => match σ.o hi with
    | .pv (.int _ h) => match σ.o x with
      | .ptr s off => match σ.b s with
        | some (.cells as') => match unpvs as' with
          | some xs => (0 ≤ h ∧ h ≤ n ∧ off + n ≤ xs.length) ∧ K (.pv (.lst false 1 ((xs.drop off).take h.toNat))) (σ.frz s)
          | none => False
        | _ => False
      | .pv (.ref xs) => (0 ≤ h ∧ h ≤ n ∧ n ≤ xs.length) ∧ K (.pv (.lst false 1 (xs.take h.toNat))) σ
      | _ => False
    | _ => False
  | .slw n W x hi => match σ.o hi with
    | .pv (.int _ h) => match σ.o x with
      | .ptr s off => match σ.b s with
        | some (.cells as') => match unpvs as' with
          | some xs => (0 ≤ h ∧ h ≤ n ∧ off + n * W ≤ xs.length) ∧ K (.pv (.lst false W (packW W h.toNat (xs.drop off)))) (σ.frz s)
          | none => False
        | _ => False
      | _ => False
    | _ => False
  | .slen x => match σ.o x with
    | .pv (.str s) => K (.pv (.int .i64 s.size)) σ
    | _ => False
  | .sidx x i => match σ.o x, σ.o i with
    | .pv (.str s), .pv (.int _ z) => match sAt s z with
      | some b => K (.pv (.int .u8 b.toNat)) σ
      | none => False
    | _, _ => False
  | .ssl x lo hi => match σ.o x with
    | .pv (.str s) => match σ.ob lo 0, σ.ob hi s.size with
      | some l, some h => (0 ≤ l ∧ l ≤ h ∧ h ≤ s.size) ∧ K (.pv (.str (s.extract l.toNat h.toNat))) σ
      | _, _ => False
    | _ => False
  | .scat x y => match σ.o x, σ.o y with
    | .pv (.str a), .pv (.str b) => a.size + b.size ≤ 9223372036854775807 ∧ K (.pv (.str (a ++ b))) σ
    | _, _ => False
  | .sbyt e x => match σ.o x with
    | .pv (.str s) => s.size ≤ 1000000 ∧ K (.pv (.lst false 1 (bytesP s))) σ
    | _ => False
  | .sof x => match σ.cont (σ.o x) 1 with
    | some xs => match bytesN xs with
      | some ns => K (.pv (.str (bytesS ns))) σ
      | none => False
    | none => False
  | .mif t x => match σ.o x with
    | .pv a => K (.pv (.iface t a)) σ
    | _ => False
  | .nif neg x => match σ.o x with
    | .pv .nilif => K (.pv (.bool (!neg))) σ
    | .pv (.iface _ _) => K (.pv (.bool neg)) σ
    | _ => False
  | .tas t z x => match σ.o x with
    | .pv .nilif => K (.pv (.tup [z, .bool false])) σ
    | .pv (.iface u a) => K (.pv (.tup (if u = t then [a, .bool true] else [z, .bool false]))) σ
    | _ => False
  | .pan _ => False
  | .aps e n bytes x y => match σ.o y with
    | .pv (.str s0) => match σ.o x with
      | .pv (.emp _) => (bytesP s0).length * bytes ≤ 140737488355328 ∧ (bytesP s0).length ≤ 9223372036854775807 ∧ K (.vec (.loc d 0) n 0 (bytesP s0).length) ((σ.purge d).add (.loc d 0) (.arr e n (bytesP s0)))
      | .vec s n' lo len => match σ.b s with
        | some (.arr e' n'' xs) => (e' = e ∧ n' = n ∧ n'' = n ∧ lo + len = xs.length) ∧ (len + (bytesP s0).length) * bytes ≤ 140737488355328 ∧ len + (bytesP s0).length ≤ 9223372036854775807 ∧ K (.vec (.loc d 0) n 0 (len + (bytesP s0).length)) (((σ.drop s).purge d).add (.loc d 0) (.arr e n (xs.drop lo ++ bytesP s0)))
        | _ => False
      | _ => False
    | _ => False
  | .alB T e => K (.ptr (.loc d 0) 0) ((σ.purge d).add (.loc d 0) (.ext (bldE T e [])))
/-- What an operation with the slot d comes to: K is asked of its value and of the state behind it. -/
def opWp (l : LOp) (d : Nat) (K : AV → AS → Prop) (σ : AS) : Prop :=
  match l with
  | .mov x => K (σ.o x) σ
  | .pick c a b => match σ.o c with
    | .pv (.bool t) => K (if t = true then σ.o a else σ.o b) σ
    | _ => False
  | .bin bt op x y => match σ.o x, σ.o y with
    | .pv (.int k a), .pv (.int k' b) => match binI op k k' a b with
      | some r => K (.pv r) σ
      | none => False
    | .pv (.bool a), .pv (.bool b) => bt = true ∧ match binB op a b with
      | some r => K (.pv r) σ
      | none => False
    | _, _ => False
  | .not x => match σ.o x with
    | .pv (.bool a) => K (.pv (.bool (!a))) σ
    | _ => False
  | .nilq k neg x => match nilOf k (σ.o x) with
    | some b => K (.pv (.bool (b != neg))) σ
    | none => maybeNil k (σ.o x) ∧ K (.pv (.bool true)) σ ∧ K (.pv (.bool false)) σ
  | .x y => opWpX y d K σ
  | .neg x => match σ.o x with
    | .pv (.int k a) => K (.pv (.int k (k.wrap (0 - a)))) σ
    | _ => False
  | .box n x => ((σ.purge d).o x).cells.length = n ∧ (((σ.purge d).o x).wide = true ∨ ((σ.purge d).o x).one = true) ∧ K (.ptr (.loc d 0) 0) ((σ.purge d).add (.loc d 0) (.cells ((σ.purge d).o x).cells))
  | .alloc z => K (.ptr (.loc d 0) 0) ((σ.purge d).add (.loc d 0) (.cells (z.cells.map .pv)))
  | .build z ps => match fillA σ (z.cells.map .pv) ps with
    | some l => K (ofCells l) σ
    | none => False
  | .bslice e n ps => match (σ.frzs ps).pvs ps with
    | some [] => K (.pv (.emp (some false))) σ
    | some xs => (∀ x ∈ xs, x.cells.length = n ∧ ((AV.pv x).wide = true ∨ (AV.pv x).one = true)) ∧ K (.vec (.loc d 0) n 0 xs.length) (((σ.frzs ps).purge d).add (.loc d 0) (.arr e n xs))
    | none => (n = 1 ∧ 0 < ps.length ∧ ∀ p ∈ ps, ((σ.purge d).o p).one = true) ∧ K (.vec (.loc d 0) 1 0 ps.length) ((σ.purge d).add (.loc d 0) (.rows e e 1 (ps.map fun p => .av ((σ.purge d).o p))))
  | .load row n x => match σ.o x with
    | .pv (.ref cs) => if row = true then n ≤ cs.length ∧ K (.pv (.agg (cs.take n))) σ else match cs with
      | c :: _ => K (.pv c) σ
      | [] => False
    | .ptr s off => match σ.b s with
      | some (.cells as) => if row = true then off + n ≤ as.length ∧ K (ofCells ((as.drop off).take n)) σ else match as[off]? with
        | some a => K a σ
        | none => False
      | _ => False
    | .elt s n' i off => match σ.b s with
      | some (.arr _ n'' xs) => match xs[i]? with
        | some x => n' = n'' ∧ if row = true then off + n ≤ x.cells.length ∧ K (.pv (.agg ((x.cells.drop off).take n))) σ else match x.cells[off]? with
          | some c => K (.pv c) σ
          | none => False
        | none => False
      | some (.rows _ _ _ els) => match els[i]? with
        | some (.av a) => (n' = 1 ∧ off = 0 ∧ row = false) ∧ K a σ
        | _ => False
      | _ => False
    | _ => False
  | .store n x y => match σ.o x with
    | .ptr s off => match σ.b s with
      | some (.cells as) => (σ.o y).cells.length = n ∧ ((σ.o y).wide = true ∨ (σ.o y).one = true) ∧ off + n ≤ as.length ∧ K .any (σ.set s (.cells (splice as off (σ.o y).cells)))
      | _ => False
    | .elt s n' i off => match σ.b s with
      | some (.rows e e2 n2 els) => (n = 1 ∧ n' = 1 ∧ off = 0 ∧ i < els.length ∧ (σ.o y).one = true) ∧ K .any (σ.set s (.rows e e2 n2 (els.set i (.av (σ.o y)))))
      | _ => match (σ.frzA (σ.o y)).b s, (σ.frzA (σ.o y)).o y with
        | some (.arr e n'' xs), .pv p => match xs[i]? with
          | some x => n' = n'' ∧ 0 < n ∧ p.cells.length = n ∧ ((AV.pv p).wide = true ∨ (AV.pv p).one = true) ∧ off + n ≤ x.cells.length ∧ K .any ((σ.frzA (σ.o y)).set s (.arr e n'' (xs.set i (setAt x off p))))
          | none => False
        | some (.ext E), .pv p => ∃ D e xs x, E = lkE D e n' xs ∧ xs[i]? = some x ∧ 0 < n ∧ p.cells.length = n ∧ ((AV.pv p).wide = true ∨ (AV.pv p).one = true) ∧ off + n ≤ x.cells.length ∧ K .any ((σ.frzA (σ.o y)).set s (.ext (lkE D e n' (xs.set i (setAt x off p)))))
        | _, _ => False
    | _ => False
  | .fa off x => match σ.o x with
    | .pv (.ref cs) => off ≤ cs.length ∧ K (.pv (.ref (cs.drop off))) σ
    | .ptr s o => K (.ptr s (o + off)) σ
    | .elt s n i o => K (.elt s n i (o + off)) σ
    | _ => False
  | .fld row off n x => if row = true then off + n ≤ (σ.o x).cells.length ∧ (σ.o x).wide = true ∧ K (ofCells (((σ.o x).cells.drop off).take n)) σ else match (σ.o x).cells[off]? with
    | some a => (σ.o x).wide = true ∧ K a σ
    | none => False
  | .ia n arr x i => match σ.o i with
    | .pv (.int _ z) => match arr with
      | none => match σ.o x with
        | .pv (.lst _ n' xs) => if 0 ≤ z then match xs[z.toNat]? with
            | some y => n' = n ∧ K (.pv (.ref y.cells)) σ
            | none => False
          else False
        | .vec s n' lo len => n' = n ∧ 0 ≤ z ∧ z < len ∧ K (.elt s n (lo + z.toNat) 0) σ
        | _ => False
      | some l => 0 ≤ z ∧ z < l ∧ match σ.o x with
        | .pv (.ref cs) => z.toNat * n ≤ cs.length ∧ K (.pv (.ref (cs.drop (z.toNat * n)))) σ
        | .ptr s o => K (.ptr s (o + z.toNat * n)) σ
        | .elt s n' j o => K (.elt s n' j (o + z.toNat * n)) σ
        | _ => False
    | _ => False
  | .len arr x => match arr with
    | some l => K (.pv (.int .i64 l)) σ
    | none => match σ.o x with
      | .pv (.lst _ _ xs) => K (.pv (.int .i64 xs.length)) σ
      | .pv (.emp _) => K (.pv (.int .i64 0)) σ
      | .vec _ _ _ len => K (.pv (.int .i64 len)) σ
      | _ => False
  | .ext x i => match σ.o x with
    | .pv (.tup vs) => match vs[i]? with
      | some v => K (.pv v) σ
      | none => False
    | .tup vs => match vs[i]? with
      | some v => K v σ
      | none => False
    | _ => False
  | .mkf f fs cs => match σ.pvs fs, σ.pvs cs with
    | some a, some b => K (.pv (.fn f a b)) σ
    | _, _ => K (.fn f (fs.map σ.o) (cs.map σ.o)) σ
  | .nilc x => match σ.o x with
    | .pv (.ref cs) => K (.pv (.ref cs)) σ
    | .ptr s o => K (.ptr s o) σ
    | .elt s n i o => K (.elt s n i o) σ
    | _ => False
  | .minmax mx x y => match σ.o x, σ.o y with
    | .pv (.int k a), .pv (.int _ b) => K (.pv (.int k (if mx = true then (if b > a then b else a) else (if b < a then b else a)))) σ
    | _, _ => False
  | .conv k x => match σ.o x with
    | .pv (.int _ a) => K (.pv (.int k (k.wrap a))) σ
    | _ => False
  | .app e n bytes x y => match σ.cont (σ.o y) n with
    | some ys => match σ.o x with
      | .pv (.emp _) => ys.length * bytes ≤ 140737488355328 ∧ ys.length ≤ 9223372036854775807 ∧ K (.vec (.loc d 0) n 0 ys.length) ((σ.purge d).add (.loc d 0) (.arr e n ys))
      | .vec s n' lo len => match σ.b s with
        | some (.arr e' n'' xs) => ((e' = e ∧ n' = n ∧ n'' = n ∧ lo + len = xs.length) ∧ (len + ys.length) * bytes ≤ 140737488355328 ∧ len + ys.length ≤ 9223372036854775807 ∧ K (.vec (.loc d 0) n 0 (len + ys.length)) (((σ.drop s).purge d).add (.loc d 0) (.arr e n (xs.drop lo ++ ys)))) ∨
            ((e' = e ∧ n' = n ∧ n'' = n ∧ lo + len ≤ xs.length) ∧ (len + ys.length) * bytes ≤ 140737488355328 ∧ len + ys.length ≤ 9223372036854775807 ∧ K (.vec (.loc d 0) n 0 (len + ys.length)) ((σ.purge d).add (.loc d 0) (.arr e n ((xs.drop lo).take len ++ ys))) ∧ K (.vec s n lo (len + ys.length)) (σ.set s (.arr e n (xs.take (lo + len) ++ ys))))
        | _ => False
      | _ => False
    | none => False
  | .app0 e n bytes x y => match σ.cont (σ.o y) n with
    | some ys => match σ.o x with
      | .pv (.emp _) => ys.length * bytes ≤ 140737488355328 ∧ ys.length ≤ 9223372036854775807 ∧ K (.vec (.loc d 0) n 0 ys.length) ((σ.purge d).add (.loc d 0) (.arr e n ys))
      | _ => False
    | none => False
  | .mks e n bytes z l c => match σ.o l, σ.o c with
    | .pv (.int _ a), .pv (.int _ b) => 0 ≤ a ∧ a ≤ b ∧ b ≤ 1000000 ∧ bytes ≤ 1000 ∧ K (.vec (.loc d 0) n 0 a.toNat) ((σ.purge d).add (.loc d 0) (.arr e n (List.replicate a.toNat z)))
    | _, _ => False
  | .slc n arr x lo hi mx => match mx with
    | some _ => False
    | none => match σ.ob lo 0 with
      | some l => match arr with
        | none => match σ.o x with
          | .pv (.lst nn n' xs) => match σ.ob hi xs.length with
            | some h => 0 ≤ l ∧ l ≤ h ∧ h ≤ xs.length ∧ n' = n ∧ K (.pv (.lst nn n ((xs.take h.toNat).drop l.toNat))) σ
            | none => False
          | .pv (.emp nl) => match σ.ob hi 0 with
            | some h => l = 0 ∧ h = 0 ∧ K (.pv (.emp nl)) σ
            | none => False
          | .vec s n' lo0 len => match σ.ob hi len with
            | some h => 0 ≤ l ∧ l ≤ h ∧ h ≤ len ∧ n' = n ∧ K (.vec s n (lo0 + l.toNat) (h.toNat - l.toNat)) σ
            | none => False
          | _ => False
        | some _ => False
      | none => False
  | _ => False
end Go.Proofs.Ytohhjnpiiackjaa
/-! An evaluation of Go's code over plain values: freezing. Over any program. -/
namespace Go.Proofs.Ytohhjnpiiackjaa
open Go.RowKit
section
variable {N : Nat} {w0 : World} {m0 : Env w0} {pl : List Nat} {σ : AS} {ρ : Site → Loc} {m m' : Mem} {act : Act} {w w' : World}
/-- What nobody writes, and a block's cells too. -/
def Mem.with (m : Mem) (w : World) (l : Loc) : Mem := fun b o => if l.real = true ∧ b = l.b then w.cell? ⟨b, o, none⟩ else m b o
theorem Mem.le_with {m : Mem} (h : Le m w.mem) (l : Loc) : Le m (m.with w l) := fun b o v hv => by
  unfold Mem.with
  split
  · exact h b o v hv
  · exact hv
theorem Mem.with_le {m : Mem} (h : Le m w.mem) (l : Loc) : Le (m.with w l) w.mem := fun b o v hv => by
  unfold Mem.with at hv
  split at hv
  · exact hv
  · exact h b o v hv
theorem slice_get {cs : Array Value} {k n j : Nat} : ((cs.toList.drop k).take n)[j]? = if j < n then cs[k + j]? else none := by
  rw [List.getElem?_take]
  split
  · rw [List.getElem?_drop, Array.getElem?_toList]
  · rfl
theorem slice_len {cs : Array Value} {k n : Nat} (h : k + n ≤ cs.size) : ((cs.toList.drop k).take n).length = n := by
  rw [List.length_take, List.length_drop, Array.length_toList]; omega
theorem mul_lt_of {a c n : Nat} (h : a < c) : a * n + n ≤ c * n := by
  have : (a + 1) * n ≤ c * n := Nat.mul_le_mul_right _ h
  rw [Nat.add_mul] at this; omega
/-- An array box, read as a plain list. -/
theorem arr_lst {s : Site} {e n : Nat} {xs : List PV} (hb : RdB ρ m w s (.arr e n xs)) (hm : Le m m') (hm2 : (ρ s).real = true → ∀ o v, w.cell? ⟨(ρ s).b, o, none⟩ = some v → m' (ρ s).b o = some v) {lo len : Nat} (hl : lo + len ≤ xs.length) {v : Value} (hv : RdA ρ m v (.vec s n lo len)) :
    RdP m' v (.lst false n ((xs.drop lo).take len)) := by
  have hlen : ((xs.drop lo).take len).length = len := by rw [List.length_take, List.length_drop]; omega
  cases hv with
  | vec0 _ _ _ a h =>
    have e0 : ((xs.drop lo).take 0) = [] := by simp
    rw [e0]
    exact .lst a 0 false n [] (fun _ => []) (by simp) (by simp) (fun _ => rfl) h (fun e => (by cases e)) (fun i x hx => by simp at hx) (fun i x hx => by simp at hx) (fun i x j d c hx => by simp at hx)
  | vec _ _ _ _ cap h0 h1 h2 =>
    obtain ⟨hn, hb | ⟨_, cs, k1, k2, k3, k4, k5⟩⟩ := hb
    · rw [hb.1] at h2; cases h2
    have get : ∀ i x, ((xs.drop lo).take len)[i]? = some x → xs[lo + i]? = some x ∧ i < len := fun i x hx => by
      rw [List.getElem?_take] at hx
      split at hx
      · rename_i hi; rw [List.getElem?_drop] at hx; exact ⟨hx, hi⟩
      · cases hx
    have fit : ∀ i, i < len → (ρ s).o + (lo + i) * n + n ≤ cs.size := fun i hi => by
      have : (lo + i) * n + n ≤ (ρ s).cap * n := mul_lt_of (by omega)
      omega
    have hh := RdP.lst (m := m') (some ⟨(ρ s).b, (ρ s).o + lo * n, none⟩) cap false n ((xs.drop lo).take len) (fun i => (cs.toList.drop ((ρ s).o + (lo + i) * n)).take n) (by rw [hlen]; exact h0) (by have : (ρ s).cap ≤ 9223372036854775807 := (by simpa [maxLen] using k4); omega)
      (fun e => (by cases e)) (fun A hA => (by cases hA; rfl)) (fun e => (by cases e)) (fun i x hx => ?_) (fun i x hx => ?_) (fun i x j d c hx hd hc => ?_)
    · rw [hlen] at hh; exact hh
    · obtain ⟨g1, g2⟩ := get i x hx
      refine ⟨_, _, rfl, At.of_get (fun j u hj => ?_)⟩
      rw [slice_get] at hj
      split at hj
      · refine hm2 h2 _ _ ?_
        rw [show (ρ s).o + lo * n + i * n + j = (ρ s).o + (lo + i) * n + j by rw [Nat.add_mul]; omega]
        simp [World.cell?, k1, hj]
      · cases hj
    · obtain ⟨g1, g2⟩ := get i x hx
      refine ⟨slice_len (fit i g2), (k5 _ _ g1).1, fun d hd => ?_⟩
      obtain ⟨j, hj⟩ := List.mem_iff_getElem?.1 hd
      rw [slice_get] at hj
      split at hj
      · rename_i hjn
        obtain ⟨kc, kx⟩ := k5 _ _ g1
        have hjc : j < x.cells.length := by omega
        obtain ⟨d', q1, q2, _⟩ := kx j _ (List.getElem?_eq_getElem hjc)
        rw [hj] at q1; cases q1; exact q2
      · cases hj
    · obtain ⟨g1, g2⟩ := get i x hx
      rw [slice_get] at hd
      split at hd
      · obtain ⟨kc, kx⟩ := k5 _ _ g1
        obtain ⟨d', q1, _, q3⟩ := kx j c hc
        rw [hd] at q1; cases q1; exact q3.mono hm
      · cases hd
theorem frzL_get {s : Site} {nb : Nat} {xs : List PV} : ∀ {l : List AV} {i : Nat}, (AV.frzL s nb xs l)[i]? = (l[i]?).map (AV.frz s nb xs)
  | [], i => by simp [AV.frzL]
  | a :: r, 0 => by simp [AV.frzL]
  | a :: r, i + 1 => by
    simp only [AV.frzL, List.getElem?_cons_succ]
    exact frzL_get
theorem frzL_len {s : Site} {nb : Nat} {xs : List PV} : ∀ {l : List AV}, (AV.frzL s nb xs l).length = l.length
  | [] => rfl
  | a :: r => by simp only [AV.frzL, List.length_cons, frzL_len]
theorem RdA.frzG {s : Site} {nb : Nat} {xs : List PV} (hm : Le m m') (ptrc : ∀ v off, RdA ρ m v (.ptr s off) → RdA ρ m' v (if nb = 0 then .pv (.ref (xs.drop off)) else .any))
    (vecc : ∀ v n lo len, RdA ρ m v (.vec s n lo len) → RdA ρ m' v (if 0 < n ∧ n = nb ∧ lo + len ≤ xs.length then .pv (.lst false n ((xs.drop lo).take len)) else .any)) {v : Value} {a : AV} (h : RdA ρ m v a) : RdA ρ m' v (a.frz s nb xs) := by
  induction h with
  | any v => exact .any v
  | pv v x h => exact .pv v x (h.mono hm)
  | ptr s' off =>
    rw [AV.frz]
    split
    · rename_i e; subst e
      exact ptrc _ off (.ptr _ off)
    · exact .ptr s' off
  | elt s' n i off =>
    rw [AV.frz]
    split
    · exact .any _
    · exact .elt s' n i off
  | vec s' n lo len cap h0 h1 h2 =>
    rw [AV.frz]
    split
    · rename_i e; subst e
      exact vecc _ n lo len (.vec _ n lo len cap h0 h1 h2)
    · exact .vec s' n lo len cap h0 h1 h2
  | vec0 s' n lo a h =>
    rw [AV.frz]
    split
    · rename_i e; subst e
      exact vecc _ n lo 0 (.vec0 _ n lo a h)
    · exact .vec0 s' n lo a h
  | mp s' =>
    rw [AV.frz]
    split
    · exact .any _
    · exact .mp s'
  | yld s' =>
    rw [AV.frz]
    split
    · exact .any _
    · exact .yld s'
  | fn f vf vc fs cs h0 h1 h2 h3 ih2 ih3 =>
    rw [AV.frz]
    refine fnA_rd (by rw [frzL_len]; exact h0) (by rw [frzL_len]; exact h1) (fun j d c k1 k2 => ?_) (fun j d c k1 k2 => ?_)
    · rw [frzL_get] at k2
      obtain ⟨a, k3, rfl⟩ := Option.map_eq_some_iff.1 k2
      exact ih2 j d a k1 k3
    · rw [frzL_get] at k2
      obtain ⟨a, k3, rfl⟩ := Option.map_eq_some_iff.1 k2
      exact ih3 j d a k1 k3
  | agg vs cs h0 h1 h2 ih =>
    rw [AV.frz]
    refine ofCells_rd (by rw [frzL_len]; exact h0) h1 (fun j d c k1 k2 => ?_)
    rw [frzL_get] at k2
    obtain ⟨a, k3, rfl⟩ := Option.map_eq_some_iff.1 k2
    exact ih j d a k1 k3
  | tup vs cs h0 h2 ih =>
    rw [AV.frz]
    refine tupA_rd (by rw [frzL_len]; exact h0) (fun j d c k1 k2 => ?_)
    rw [frzL_get] at k2
    obtain ⟨a, k3, rfl⟩ := Option.map_eq_some_iff.1 k2
    exact ih j d a k1 k3
theorem RdA.frz {s : Site} {e nb : Nat} {xs : List PV} (hb : RdB ρ m w s (.arr e nb xs)) (hm : Le m m') (hm2 : (ρ s).real = true → ∀ o v, w.cell? ⟨(ρ s).b, o, none⟩ = some v → m' (ρ s).b o = some v) {v : Value} {a : AV} (h : RdA ρ m v a) : RdA ρ m' v (a.frz s nb xs) := by
  have h0 : ¬ nb = 0 := by have := hb.1; omega
  refine RdA.frzG hm (fun v off _ => ?_) (fun v n lo len hv => ?_) h
  · rw [if_neg h0]; exact .any v
  · split
    · rename_i hc
      obtain ⟨_, rfl, hl⟩ := hc
      exact .pv _ _ (arr_lst hb hm hm2 hl hv)
    · exact .any v
theorem RdP.cells1 {v : Value} {x : PV} (h : RdP m v x) (hv : v.oneCell' = true) : x.cells = [x] := by
  cases h <;> first | rfl | (simp [Value.oneCell'] at hv)
/-- Cells that nobody writes any more, read as plain values. -/
theorem cells_ref {s : Site} {as' : List AV} {xs : List PV} (hb : RdB ρ m w s (.cells as')) (hx : unpvs as' = some xs) (hm : Le m m') (hm2 : ∀ o v, w.cell? ⟨(ρ s).b, o, none⟩ = some v → m' (ρ s).b o = some v) :
    ∃ ds : List Value, ds.length = xs.length ∧ At m' (ρ s).b 0 ds ∧ ∀ (j : Nat) (d : Value) (c : PV), ds[j]? = some d → xs[j]? = some c → d.oneCell' = true ∧ RdP m' d c := by
  obtain ⟨_, cs, T, k1, k2, k3⟩ := hb
  have hu := unpvs_spec hx
  subst hu
  refine ⟨cs.toList, by rw [Array.length_toList, k2, List.length_map], At.of_get (fun j u hj => hm2 _ _ ?_), fun j d c h1 h2 => ?_⟩
  · rw [Array.getElem?_toList] at hj
    simp [World.cell?, k1, hj]
  · rw [Array.getElem?_toList] at h1
    have h3 : (xs.map AV.pv)[j]? = some (.pv c) := by rw [List.getElem?_map, h2]; rfl
    obtain ⟨q1, q2⟩ := k3 j d _ h1 h3
    refine ⟨q1, ?_⟩
    cases q2 with
    | pv _ _ h => exact h.mono hm
theorem RdA.frzc {s : Site} {as' : List AV} {xs : List PV} (hb : RdB ρ m w s (.cells as')) (hx : unpvs as' = some xs) (hm : Le m m') (hm2 : ∀ o v, w.cell? ⟨(ρ s).b, o, none⟩ = some v → m' (ρ s).b o = some v) {v : Value} {a : AV} (h : RdA ρ m v a) : RdA ρ m' v (a.frz s 0 xs) := by
  obtain ⟨ds, hl, hat, hrd⟩ := cells_ref hb hx hm hm2
  refine RdA.frzG hm (fun v off hv => ?_) (fun v n lo len hv => ?_) h
  · rw [if_pos rfl]
    cases hv
    refine .pv _ _ (.ref (ρ s).b off (xs.drop off) (ds.drop off) (At.of_get (fun j u hj => ?_)) (by simp [hl]) (fun d hd => ?_) (fun j d c h1 h2 => ?_))
    · rw [List.getElem?_drop] at hj
      have := hat.get _ _ hj
      rwa [Nat.zero_add] at this
    · obtain ⟨j, hj⟩ := List.mem_iff_getElem?.1 hd
      rw [List.getElem?_drop] at hj
      have hlt : off + j < xs.length := by rw [← hl]; exact (List.getElem?_eq_some_iff.1 hj).1
      exact (hrd _ d _ hj (List.getElem?_eq_getElem hlt)).1
    · rw [List.getElem?_drop] at h1 h2
      exact (hrd _ d c h1 h2).2
  · rw [if_neg (fun e => by omega)]
    exact .any v
theorem RdB.live (q : Site → Bool) {s : Site} {b : Box} (h : RdB ρ m w s b) : RdB ρ m w s (b.live q) := by
  have hl : ∀ (v : Value) (a : AV), RdA ρ m v a → RdA ρ m v (a.live q) := fun v a h => by
    unfold AV.live
    split
    · exact h
    · exact .any v
  exact h.gen (AV.live q) (by cases b <;> rfl) (Le.refl m) rfl (fun v a hv _ => hl v a hv) (fun _ _ => rfl)
theorem ins_live {w : World} {l : Loc} {b : Box} {q : Site → Bool} : ins w l (b.live q) = ins w l b := by
  cases b with
  | rows e e2 n els => exact ins_row rfl
  | _ => rfl
theorem ins_frz {w : World} {l : Loc} {b : Box} {s : Site} {n : Nat} {xs : List PV} : ins w l (b.frz s n xs) = ins w l b := by
  cases b with
  | rows e e2 n els => exact ins_row rfl
  | _ => rfl
theorem frzL_map {s : Site} {nb : Nat} {xs : List PV} : ∀ l : List AV, AV.frzL s nb xs l = l.map (AV.frz s nb xs)
  | [] => rfl
  | a :: r => by simp only [AV.frzL, List.map_cons, frzL_map r]
theorem Sat.tidy (h : Sat N w0 m0 pl σ ρ m act w) : Sat N w0 m0 pl σ.tidy ρ m act w := by
  have hb : ∀ s b, σ.tidy.b s = some b → ∃ b', σ.b s = some b' ∧ b = b'.live fun s => (σ.b s).isSome := fun s b k => by
    have k' : (σ.bx.map fun p => (p.1, p.2.live fun s => (σ.b s).isSome)).lookup s = some b := k
    rw [lookup_map (Box.live fun s => (σ.b s).isSome) s] at k'
    obtain ⟨b', k1, rfl⟩ := Option.map_eq_some_iff.1 k'
    exact ⟨b', k1, rfl⟩
  have hq : ∀ s b i, blk ρ w s (b.live fun s => (σ.b s).isSome) i ↔ blk ρ w s b i := fun s b i => by unfold blk; rw [ins_live]
  refine ⟨h.nod, h.sz, h.tm, fun s b k => ?_, fun s s' b b' i k k' r r' => ?_, h.mem, fun s b i k r => ?_, fun s b i k r => ?_, h.keep, h.base, h.fro, h.par⟩
  · obtain ⟨b', k1, rfl⟩ := hb s b k
    exact (h.bx s b' k1).live _
  · obtain ⟨c, k1, rfl⟩ := hb s b k
    obtain ⟨c', k1', rfl⟩ := hb s' b' k'
    exact h.injk s s' c c' i k1 k1' ((hq _ _ _).1 r) ((hq _ _ _).1 r')
  · obtain ⟨c, k1, rfl⟩ := hb s b k
    exact h.offk s c i k1 ((hq _ _ _).1 r)
  · obtain ⟨c, k1, rfl⟩ := hb s b k
    exact h.ownk s c i k1 ((hq _ _ _).1 r)
theorem Sat.frzG (h : Sat N w0 m0 pl σ ρ m act w) (s : Site) {b0 : Box} (hs : σ.b s = some b0) (n : Nat) (xs : List PV) (H : ∀ v a, RdA ρ m v a → RdA ρ (m.with w (ρ s)) v (a.frz s n xs)) :
    Sat N w0 m0 pl ⟨σ.tm.map fun p => (p.1, p.2.frz s n xs), (σ.bx.filter fun p => !decide (p.1 = s)).map fun p => (p.1, p.2.frz s n xs)⟩ ρ (m.with w (ρ s)) act w := by
  have hm := Mem.le_with h.mem (ρ s)
  have bq : ∀ s' b, AS.b ⟨σ.tm.map fun p => (p.1, p.2.frz s n xs), (σ.bx.filter fun p => !decide (p.1 = s)).map fun p => (p.1, p.2.frz s n xs)⟩ s' = some b → s' ≠ s ∧ ∃ b', σ.b s' = some b' ∧ b = b'.frz s n xs := fun s' b k => by
    have k' : List.lookup s' ((σ.bx.filter fun p => !decide (p.1 = s)).map fun p => (p.1, p.2.frz s n xs)) = some b := k
    rw [lookup_map (Box.frz s n xs) s', show List.lookup s' (σ.bx.filter fun p => !decide (p.1 = s)) = _ from lookup_filter (fun x => !decide (x = s)) s' σ.bx] at k'
    obtain ⟨b', k1, rfl⟩ := Option.map_eq_some_iff.1 k'
    split at k1
    · rename_i hne
      exact ⟨by simpa using hne, b', k1, rfl⟩
    · cases k1
  have hq : ∀ s' b i, blk ρ w s' (b.frz s n xs) i ↔ blk ρ w s' b i := fun s b i => by unfold blk; rw [ins_frz]
  refine ⟨h.nod, h.sz, fun t a k => ?_, fun s' b k => ?_, fun s1 s2 b1 b2 i k1 k2 r1 r2 => ?_, Mem.with_le h.mem _, fun s' b i k r o => ?_, fun s' b i k r => ?_, h.keep, h.base.trans hm, fun b o v hv => ?_, h.par⟩
  · have k' : List.lookup t (σ.tm.map fun p => (p.1, p.2.frz s n xs)) = some a := k
    rw [lookup_map (AV.frz s n xs) t] at k'
    obtain ⟨a', k1, rfl⟩ := Option.map_eq_some_iff.1 k'
    obtain ⟨v, k2, k3⟩ := h.tm t a' k1
    exact ⟨v, k2, H _ _ k3⟩
  · obtain ⟨hne, b', k1, rfl⟩ := bq s' b k
    exact (h.bx s' b' k1).gen (AV.frz s n xs) (by cases b' <;> first | rfl | (show Box.cells _ = _; rw [frzL_map])) hm rfl (fun v a hv _ => H v a hv) (fun _ _ => rfl)
  · obtain ⟨_, b1', g1, rfl⟩ := bq s1 b1 k1
    obtain ⟨_, b2', g2, rfl⟩ := bq s2 b2 k2
    exact h.injk s1 s2 b1' b2' i g1 g2 ((hq _ _ _).1 r1) ((hq _ _ _).1 r2)
  · obtain ⟨hne, b', k1, rfl⟩ := bq s' b k
    have r' := (hq _ _ _).1 r
    unfold Mem.with
    rw [if_neg (fun e => hne (h.injk s' s b' _ i k1 hs r' (.inl ⟨e.1, e.2.symm⟩)))]
    exact h.offk s' b' i k1 r' o
  · obtain ⟨_, b', g1, rfl⟩ := bq s' b k
    exact h.ownk s' b' i g1 ((hq _ _ _).1 r)
  · unfold Mem.with at hv
    split at hv
    · rename_i e
      rw [e.2]
      exact .inr (h.own s _ hs e.1)
    · exact h.fro b o v hv
theorem Sat.frzC1 (h : Sat N w0 m0 pl σ ρ m act w) {s : Site} {as' : List AV} {xs : List PV} (hs : σ.b s = some (.cells as')) (hx : unpvs as' = some xs) :
    σ.frz s = ⟨σ.tm.map fun p => (p.1, p.2.frz s 0 xs), (σ.bx.filter fun p => !decide (p.1 = s)).map fun p => (p.1, p.2.frz s 0 xs)⟩ ∧ Sat N w0 m0 pl (σ.frz s) ρ (m.with w (ρ s)) act w ∧ Le m (m.with w (ρ s)) ∧ ∀ o v, w.cell? ⟨(ρ s).b, o, none⟩ = some v → m.with w (ρ s) (ρ s).b o = some v := by
  have hb := h.bx s _ hs
  have hm := Mem.le_with h.mem (ρ s)
  have hm2 : ∀ o v, w.cell? ⟨(ρ s).b, o, none⟩ = some v → m.with w (ρ s) (ρ s).b o = some v := fun o v hv => by
    unfold Mem.with; rw [if_pos ⟨hb.1, rfl⟩]; exact hv
  have e : σ.frz s = ⟨σ.tm.map fun p => (p.1, p.2.frz s 0 xs), (σ.bx.filter fun p => !decide (p.1 = s)).map fun p => (p.1, p.2.frz s 0 xs)⟩ := by
    unfold AS.frz
    rw [hs]
    dsimp only
    rw [hx]
  refine ⟨e, ?_, hm, hm2⟩
  rw [e]
  exact h.frzG s hs 0 xs (fun v a hv => hv.frzc hb hx hm hm2)
theorem Sat.frz (h : Sat N w0 m0 pl σ ρ m act w) (s : Site) : ∃ m', Le m m' ∧ Sat N w0 m0 pl (σ.frz s) ρ m' act w := by
  cases hs : σ.b s with
  | none =>
    have e : σ.frz s = σ.tidy := by unfold AS.frz; rw [hs]
    rw [e]
    exact ⟨m, Le.refl m, h.tidy⟩
  | some bb =>
    cases bb with
    | arr e n xs =>
      have hb := h.bx s _ hs
      have hm := Mem.le_with h.mem (ρ s)
      have hm2 : (ρ s).real = true → ∀ o v, w.cell? ⟨(ρ s).b, o, none⟩ = some v → m.with w (ρ s) (ρ s).b o = some v := fun hr o v hv => by
        unfold Mem.with; rw [if_pos ⟨hr, rfl⟩]; exact hv
      have e : σ.frz s = ⟨σ.tm.map fun p => (p.1, p.2.frz s n xs), (σ.bx.filter fun p => !decide (p.1 = s)).map fun p => (p.1, p.2.frz s n xs)⟩ := by unfold AS.frz; rw [hs]
      rw [e]
      exact ⟨m.with w (ρ s), hm, h.frzG s hs n xs (fun v a hv => hv.frz hb hm hm2)⟩
    | cells as' =>
      cases hx : unpvs as' with
      | some xs =>
        obtain ⟨_, h2, h3, _⟩ := h.frzC1 hs hx
        exact ⟨_, h3, h2⟩
      | none =>
        have e : σ.frz s = σ := by unfold AS.frz; rw [hs]; dsimp only; rw [hx]
        rw [e]
        exact ⟨m, Le.refl m, h⟩
    | map es =>
      have e : σ.frz s = σ := by unfold AS.frz; rw [hs]
      rw [e]; exact ⟨m, Le.refl m, h⟩
    | loop C ps nt tm st =>
      have e : σ.frz s = σ := by unfold AS.frz; rw [hs]
      rw [e]; exact ⟨m, Le.refl m, h⟩
    | rows e1 e2 n els =>
      have e : σ.frz s = σ := by unfold AS.frz; rw [hs]
      rw [e]; exact ⟨m, Le.refl m, h⟩
    | ext E =>
      have e : σ.frz s = σ := by unfold AS.frz; rw [hs]
      rw [e]; exact ⟨m, Le.refl m, h⟩
theorem Sat.frz1 (a : AV) (h : Sat N w0 m0 pl σ ρ m act w) : ∃ m', Le m m' ∧ Sat N w0 m0 pl (σ.frz1 a) ρ m' act w := by
  unfold AS.frz1
  split
  · exact h.frz _
  · exact ⟨m, Le.refl m, h⟩
theorem Sat.frzC : ∀ (l : List AV) {σ : AS} {m : Mem}, Sat N w0 m0 pl σ ρ m act w → ∃ m', Le m m' ∧ Sat N w0 m0 pl (σ.frzC l) ρ m' act w
  | [], σ, m, h => ⟨m, Le.refl m, h⟩
  | a :: r, σ, m, h => by
    obtain ⟨m1, l1, h1⟩ := h.frz1 a
    obtain ⟨m2, l2, h2⟩ := Sat.frzC r h1
    exact ⟨m2, l1.trans l2, h2⟩
theorem Sat.frzA (a : AV) (h : Sat N w0 m0 pl σ ρ m act w) : ∃ m', Le m m' ∧ Sat N w0 m0 pl (σ.frzA a) ρ m' act w := by
  unfold AS.frzA
  split
  · exact h.frzC _
  · exact h.frz1 _
theorem Sat.frzs : ∀ (ps : List Opd) {σ : AS} {m : Mem}, Sat N w0 m0 pl σ ρ m act w → ∃ m', Le m m' ∧ Sat N w0 m0 pl (σ.frzs ps) ρ m' act w
  | [], σ, m, h => ⟨m, Le.refl m, h⟩
  | x :: r, σ, m, h => by
    have step : ∃ m', Le m m' ∧ Sat N w0 m0 pl (σ.frzA (σ.o x)) ρ m' act w := by
      unfold AS.frzA
      split
      · exact h.frzC _
      · exact h.frz1 _
    obtain ⟨m1, l1, h1⟩ := step
    obtain ⟨m2, l2, h2⟩ := Sat.frzs r h1
    exact ⟨m2, l1.trans l2, h2⟩
end
end Go.Proofs.Ytohhjnpiiackjaa
/-! An evaluation of Go's code over plain values: the operations are the model's. Over any program. -/
namespace Go.Proofs.Ytohhjnpiiackjaa
open Go.RowKit
def pvz (v : Value) : Option PV := match v with
  | .agg cs => (cs.toList.mapM pvOf).map .agg
  | v => pvOf v
theorem mapM_rd {m : Mem} : ∀ {l : List Value} {xs : List PV}, l.mapM pvOf = some xs → l.length = xs.length ∧ ∀ (j : Nat) (d : Value) (c : PV), l[j]? = some d → xs[j]? = some c → RdP m d c
  | [], xs, h => by simp at h; subst h; exact ⟨rfl, fun j d c k => by simp at k⟩
  | v :: r, xs, h => by
    simp only [List.mapM_cons, Option.bind_eq_bind, Option.pure_def] at h
    cases hv : pvOf v with
    | none => simp [hv] at h
    | some x =>
      cases hr : r.mapM pvOf with
      | none => simp [hv, hr] at h
      | some l =>
        simp [hv, hr] at h
        subst h
        obtain ⟨h1, h2⟩ := mapM_rd (m := m) hr
        refine ⟨by simp [h1], fun j d c k1 k2 => ?_⟩
        cases j with
        | zero => simp at k1 k2; subst k1 k2; exact pvOf_rd hv m
        | succ j => exact h2 j d c (by simpa using k1) (by simpa using k2)
theorem pvOf_one {v : Value} {x : PV} (h : pvOf v = some x) : v.oneCell' = true ∧ x.cells = [x] := by
  unfold pvOf at h
  split at h <;> first | (cases h; exact ⟨rfl, rfl⟩) | (cases h)
theorem pvz_cells {v : Value} {x : PV} (h : pvz v = some x) (m : Mem) : v.cells.size = x.cells.length ∧ (∀ d ∈ v.cells, d.oneCell' = true) ∧ ∀ (j : Nat) (d : Value) (c : PV), v.cells[j]? = some d → x.cells[j]? = some c → RdP m d c := by
  unfold pvz at h
  split at h
  · rename_i cs
    obtain ⟨xs, k1, rfl⟩ := Option.map_eq_some_iff.1 h
    obtain ⟨k2, k3⟩ := mapM_rd (m := m) k1
    refine ⟨by simpa [Value.cells, PV.cells] using k2, fun d hd => ?_, fun j d c h1 h2 => k3 j d c (by simpa [Value.cells] using h1) h2⟩
    have hd' : d ∈ cs.toList := by simpa [Value.cells] using hd
    obtain ⟨j, hj⟩ := List.mem_iff_getElem?.1 hd'
    have hall : ∀ {l : List Value} {xs : List PV}, l.mapM pvOf = some xs → ∀ d ∈ l, d.oneCell' = true := by
      intro l
      induction l with
      | nil => intro xs _ d hd; cases hd
      | cons v r ih =>
        intro xs h d hd
        simp only [List.mapM_cons, Option.bind_eq_bind, Option.pure_def] at h
        cases hv : pvOf v with
        | none => simp [hv] at h
        | some x =>
          cases hr : r.mapM pvOf with
          | none => simp [hv, hr] at h
          | some l =>
            rcases List.mem_cons.1 hd with rfl | hd
            · exact (pvOf_one hv).1
            · exact ih hr d hd
    exact hall k1 d hd'
  · rename_i hne
    obtain ⟨k1, k2⟩ := pvOf_one h
    have hv : v.cells = #[v] := by cases v <;> first | rfl | (exact (hne _ rfl).elim)
    rw [hv, k2]
    refine ⟨rfl, fun d hd => by simp at hd; subst hd; exact k1, fun j d c h1 h2 => ?_⟩
    cases j with
    | zero => simp at h1 h2; subst h1 h2; exact pvOf_rd h m
    | succ j => simp at h2
def zeroPV (P : Program) (t : TypeId) : Option PV := (zeroT P t).bind pvz
def opds : List Operand → Option (List Opd)
  | [] => some []
  | x :: r => match opd x, opds r with
    | some y, some l => some (y :: l)
    | _, _ => none
def placesT (P : Program) (t : TypeId) : Option (List (Nat × Nat)) := match P.underlying t with
  | some (.struct fs) => fs.toList.mapM fun f => (sizeT P f.type).map fun n => (f.offset, n)
  | some (.array l e) => (sizeT P e).map fun n => (List.range l).map fun i => (i * n, n)
  | _ => none
def partsT (pl : List (Nat × Nat)) : List (Nat × Operand) → Option (List (Nat × Nat × Opd))
  | [] => some []
  | (i, x) :: r => match pl[i]?, opd x, partsT pl r with
    | some (o, n), some y, some l => some ((o, n, y) :: l)
    | _, _, _ => none
def oopd : Option Operand → Option (Option Opd)
  | none => some none
  | some x => (opd x).map some
/-- The operation that an operation of the model is. -/
def nilK (k : QK) (op : BinOp) (x : Opd) : LOp := match op with
  | .eql => .nilq k false x
  | .neq => .nilq k true x
  | _ => .other
def litOp0 (P : Program) : Op → LOp
  | .move x => match opd x with
    | some y => .mov y
    | none => .other
  | .assign x => match opd x with
    | some y => .mov y
    | none => .other
  | .pick c a b => match opd c, opd a, opd b with
    | some c, some a, some b => .pick c a b
    | _, _, _ => .other
  | .binOp op t x y _ => match opd x, opd y, P.underlying t with
    | some x, some y, some (.int _) => .bin false op x y
    | some x, some y, some .bool => .bin true op x y
    | some x, some (.c (.emp (some true))), some (.slice _) => nilK .sl op x
    | some x, some (.c .nilp), some (.pointer _) => nilK .pt op x
    | some x, some (.c .nilmap), some (.map _ _) => nilK .mp op x
    | _, _, _ => .other
  | .unOp .not _ x => match opd x with
    | some y => .not y
    | none => .other
  | .unOp .neg _ x => match opd x with
    | some y => .neg y
    | none => .other
  | .box t x => match opd x, sizeT P t with
    | some y, some n => .box n y
    | _, _ => .other
  | .alloc t => match zeroPV P t with
    | some z => .alloc z
    | none => .other
  | .build t ps => match zeroPV P t, placesT P t with
    | some z, some pl => match partsT pl ps.toList with
      | some l => .build z l
      | none => .other
    | _, _ => .other
  | .buildSlice t len ps => match elemT P t, opds (ps.toList.map (·.2)) with
    | some (e, n, none), some l => if ps.toList.map (·.1) = List.range len ∧ 0 < n ∧ len * n ≤ 2 ^ 24 ∧ (zeroT P e).isSome = true then .bslice e n l else .other
    | _, _ => .other
  | .load t x => match opd x, sizeT P t, P.underlying t with
    | some y, some n, some _ => .load (rowT P t) n y
    | _, _, _ => .other
  | .store t x y => match opd x, opd y, sizeT P t with
    | some x, some y, some n => .store n x y
    | _, _, _ => .other
  | .fieldAddr t x f => match opd x, offT P t f with
    | some y, some o => .fa o y
    | _, _ => .other
  | .indexAddr t x i => match opd x, opd i, elemT P t with
    | some x, some i, some (_, n, a) => .ia n a x i
    | _, _, _ => .other
  | .extract x i => match opd x with
    | some y => .ext y i
    | none => .other
  | .makeFunc (.func f) fs cs => match opds fs.toList, opds cs.toList with
    | some a, some b => .mkf f a b
    | _, _ => .other
  | .nilCheck x => match opd x with
    | some y => .nilc y
    | none => .other
  | .convert src dst x => match opd x, P.underlying src, P.underlying dst with
    | some y, some _, some (.int k) => .conv k y
    | _, _, _ => .other
  | .slice t x lo hi none => match opd x, elemT P t, oopd lo, oopd hi with
    | some x, some (_, n, none), some lo, some hi => .slc n none x lo hi none
    | _, _, _, _ => .other
  | .field t x f => match opd x, P.underlying t with
    | some y, some (.struct fs) => match fs[f]? with
      | some fl => match sizeT P fl.type, P.underlying fl.type with
        | some n, some _ => .fld (rowT P fl.type) fl.offset n y
        | _, _ => .other
      | none => .other
    | _, _ => .other
  | .makeSlice t l c => match elemT P t, opd l, opd c with
    | some (e, n, none), some l, some c => match zeroPV P e, P.info? e with
      | some z, some i => if 0 < n ∧ z.cells.length = n then .mks e n i.bytes z l c else .other
      | _, _ => .other
    | _, _, _ => .other
  | .call c => match c.callee with
    | .builtin .len => match c.args.toList, c.argTypes.toList with
      | [x], [t] => match opd x, elemT P t with
        | some y, some (_, _, a) => .len a y
        | _, _ => .other
      | _, _ => .other
    | .builtin .append => match c.args.toList, c.argTypes.toList with
      | [x, y], [t, u] => match opd x, opd y, elemT P t with
        | some x, some y, some (e, n, none) => match zeroPV P e, P.info? e with
          | some z, some i => if t = u ∧ 0 < n ∧ z.cells.length = n then .app e n i.bytes x y else .other
          | _, _ => .other
        | _, _, _ => .other
      | _, _ => .other
    | .builtin .min => match opds c.args.toList with
      | some [x, y] => .minmax false x y
      | _ => .other
    | .builtin .max => match opds c.args.toList with
      | some [x, y] => .minmax true x y
      | _ => .other
    | .value f => match opd f, opds c.args.toList with
      | some g, some l => .call g l
      | _, _ => .other
    | _ => .other
  | _ => .other
section
variable {G : World → Prop} {P : Program} {N : Nat} {w0 : World} {m0 : Env w0} {pl : List Nat} {σ : AS} {ρ : Site → Loc} {m : Mem} {act : Act} {w : World} {o : Oper} {d : Nat} {K : AV → AS → Prop}
/-- Operations that write nothing that was there. -/
def _root_.Go.Op.mild : Op → Bool
  | .store _ _ _ => false
  | .call _ => false
  | .mapUpdate _ _ _ _ => false
  | .insert _ _ _ _ => false
  | .entryStore _ _ _ _ => false
  | _ => true
/-- What an operation comes to. -/
def ResE (E : Prop) (P : Program) (N : Nat) (w0 : World) (m0 : Env w0) (pl : List Nat) (o : Oper) (act : Act) (w : World) (K : AV → AS → Prop) : Prop :=
  ∃ v w' a σ' ρ' m', ((execOp act.eval o).run P w = .ok (.value v) w' ∨ ((execOp act.eval o).run P w = .ok .skip w' ∧ v = undef)) ∧ K a σ' ∧ Sat N w0 m0 pl σ' ρ' m' act w' ∧ RdA ρ' m' v a ∧ (E → Ext w w')
def Res (P : Program) (N : Nat) (w0 : World) (m0 : Env w0) (pl : List Nat) (o : Oper) (act : Act) (w : World) (K : AV → AS → Prop) : Prop := ResE (o.op.mild = true) P N w0 m0 pl o act w K
/-- What was there is there: what nobody writes; the boxes. -/
def Stay (σ : AS) (ρ : Site → Loc) (m : Mem) (w w' : World) : Prop := Le m w'.mem ∧ ∀ s b, σ.b s = some b → (ρ s).real = true → w'.heap[(ρ s).b]? = w.heap[(ρ s).b]?
/-- A read: in every such world it yields one value. -/
def ResP (G : World → Prop) (P : Program) (σ : AS) (ρ : Site → Loc) (m : Mem) (o : Oper) (act : Act) (w : World) (K : AV → AS → Prop) : Prop :=
  ∃ v a, (∀ w', G w' → (execOp act.eval o).run P w' = .ok (.value v) w') ∧ RdA ρ m v a ∧ K a σ
theorem ResP.pure (_ : Sat N w0 m0 pl σ ρ m act w) {v : Value} {a : AV} (hr : ∀ w', G w' → (execOp act.eval o).run P w' = .ok (.value v) w') (hv : RdA ρ m v a) (hK : K a σ) : ResP G P σ ρ m o act w K :=
  ⟨v, a, hr, hv, hK⟩
theorem Stay.refl (h : Sat N w0 m0 pl σ ρ m act w) : Stay σ ρ m w w := ⟨h.mem, fun _ _ _ _ => rfl⟩
theorem Stay.at' {w' : World} (h : Stay σ ρ m w w') {s : Site} {b : Box} (hs : σ.b s = some b) (hr : (ρ s).real = true) {o : Nat} {ds : List Value} (k : At w.mem (ρ s).b o ds) : At w'.mem (ρ s).b o ds :=
  At.of_get (fun j u hj => (World.cell?_of_block (a := ⟨(ρ s).b, o + j, none⟩) (h.2 s b hs hr)).trans (k.get j u hj))
theorem ResP.res (h : ResP G P σ ρ m o act w K) (hG : G w) (hS : Sat N w0 m0 pl σ ρ m act w) : Res P N w0 m0 pl o act w K :=
  let ⟨v, a, h1, h2, h3⟩ := h; ⟨v, w, a, σ, ρ, m, .inl (h1 w hG), h3, hS, h2, fun _ => Ext.rfl' _⟩
theorem Res.pure (h : Sat N w0 m0 pl σ ρ m act w) {v : Value} {a : AV} (hr : (execOp act.eval o).run P w = .ok (.value v) w) (hv : RdA ρ m v a) (hK : K a σ) : Res P N w0 m0 pl o act w K :=
  ⟨v, w, a, σ, ρ, m, .inl hr, hK, h, hv, fun _ => Ext.rfl' _⟩
theorem opds_get : ∀ {l : List Operand} {ys : List Opd}, opds l = some ys → l.length = ys.length ∧ ∀ (j : Nat) (x : Operand), l[j]? = some x → ∃ y : Opd, ys[j]? = some y ∧ opd x = some y
  | [], ys, h => by simp [opds] at h; subst h; exact ⟨rfl, fun j x k => by simp at k⟩
  | a :: r, ys, h => by
    unfold opds at h
    split at h
    · rename_i y l h1 h2
      cases h
      obtain ⟨k1, k2⟩ := opds_get h2
      refine ⟨by simp [k1], fun j x k => ?_⟩
      cases j with
      | zero => simp at k; subst k; exact ⟨y, rfl, h1⟩
      | succ j => simpa using k2 j x (by simpa using k)
    · cases h
/-- Slots that read as an int, a bool. -/
theorem RdA.int_inv {v : Value} {k : IntKind} {n : Int} (h : RdA ρ m v (.pv (.int k n))) : v = .int k n := by
  cases h with
  | pv _ _ h => cases h; rfl
theorem RdA.bool_inv {v : Value} {b : Bool} (h : RdA ρ m v (.pv (.bool b))) : v = .bool b := by
  cases h with
  | pv _ _ h => cases h; rfl
theorem RdA.pv_inv {v : Value} {x : PV} (h : RdA ρ m v (.pv x)) : RdP m v x := by cases h with | pv _ _ h => exact h
theorem RdA.ptr_inv {v : Value} {s : Site} {off : Nat} (h : RdA ρ m v (.ptr s off)) : v = .pointer (some ⟨(ρ s).b, off, none⟩) := by cases h; rfl
theorem RdA.elt_inv {v : Value} {s : Site} {n i off : Nat} (h : RdA ρ m v (.elt s n i off)) : v = .pointer (some ⟨(ρ s).b, (ρ s).o + i * n + off, none⟩) := by cases h; rfl
theorem RdA.ref_inv {v : Value} {cs : List PV} (h : RdA ρ m v (.pv (.ref cs))) : ∃ b o ds, v = .pointer (some ⟨b, o, none⟩) ∧ At m b o ds ∧ ds.length = cs.length ∧ (∀ d ∈ ds, d.oneCell' = true) ∧ ∀ (j : Nat) (d : Value) (c : PV), ds[j]? = some d → cs[j]? = some c → RdP m d c := by
  cases h with
  | pv _ _ h => cases h with
    | ref b o _ ds h0 h1 h2 h3 => exact ⟨b, o, ds, rfl, h0, h1, h2, h3⟩
theorem RdA.tup_inv {v : Value} {vs : List AV} (h : RdA ρ m v (.tup vs)) : ∃ us, v = .tuple us ∧ us.size = vs.length ∧ ∀ (j : Nat) (d : Value) (c : AV), us[j]? = some d → vs[j]? = some c → RdA ρ m d c := by
  cases h with
  | tup us _ h0 h2 => exact ⟨us, rfl, h0, h2⟩
theorem RdA.ptup_inv {v : Value} {vs : List PV} (h : RdA ρ m v (.pv (.tup vs))) : ∃ us, v = .tuple us ∧ us.size = vs.length ∧ ∀ (j : Nat) (d : Value) (c : PV), us[j]? = some d → vs[j]? = some c → RdP m d c := by
  cases h with
  | pv _ _ h => cases h with
    | tup us _ h0 h2 => exact ⟨us, rfl, h0, h2⟩
theorem snd_mov {x : Operand} {y : Opd} (he : opd x = some y) (ho : o.op = .move x ∨ o.op = .assign x) (h : opWp (.mov y) d K σ) (hS : Sat N w0 m0 pl σ ρ m act w) : ResP G P σ ρ m o act w K := by
  refine .pure hS (v := act.eval x) ?_ (hS.opd he) h
  rcases ho with ho | ho <;> · (intro w' hst; unfold execOp; simp only [ho]; rfl)
theorem snd_pick {c a b : Operand} {c' a' b' : Opd} (hc : opd c = some c') (ha : opd a = some a') (hb : opd b = some b') (ho : o.op = .pick c a b) (h : opWp (.pick c' a' b') d K σ) (hS : Sat N w0 m0 pl σ ρ m act w) : ResP G P σ ρ m o act w K := by
  simp only [opWp] at h
  split at h
  · rename_i t ht
    have h1 := (hS.opd hc)
    rw [ht] at h1
    have e := h1.bool_inv
    refine .pure hS (v := if t = true then act.eval a else act.eval b) ?_ ?_ h
    · intro w' hst
      unfold execOp
      simp only [ho, e]
      simp [asBool]
    · cases t
      · exact hS.opd hb
      · exact hS.opd ha
  · exact h.elim
theorem snd_bin {bt : Bool} {op : BinOp} {t u : TypeId} {x y : Operand} {x' y' : Opd} (hx : opd x = some x') (hy : opd y = some y') (ho : o.op = .binOp op t x y u) (h : opWp (.bin bt op x' y') d K σ) (hS : Sat N w0 m0 pl σ ρ m act w)
    (hbool : bt = true → P.underlying t = some .bool) : ResP G P σ ρ m o act w K := by
  simp only [opWp] at h
  have h1 := hS.opd hx
  have h2 := hS.opd hy
  split at h
  · rename_i k a k' b e1 e2
    rw [e1] at h1; rw [e2] at h2
    split at h
    · rename_i r hr
      obtain ⟨v, k1, k2⟩ := binI_run (P := P) hr t x y
      refine .pure hS (v := v) ?_ (.pv _ _ (k2 m)) h
      intro w' hst
      unfold execOp
      simp only [ho, h1.int_inv, h2.int_inv]
      simp only [Sem.run_bind] at k1 ⊢
      rw [k1]; rfl
    · exact h.elim
  · rename_i a b e1 e2
    rw [e1] at h1; rw [e2] at h2
    obtain ⟨hbt, h⟩ := h
    split at h
    · rename_i r hr
      obtain ⟨v, k1, k2⟩ := binB_run (P := P) hr t x y (hbool hbt)
      refine .pure hS (v := v) ?_ (.pv _ _ (k2 m)) h
      intro w' hst
      unfold execOp
      simp only [ho, h1.bool_inv, h2.bool_inv]
      simp only [Sem.run_bind] at k1 ⊢
      rw [k1]; rfl
    · exact h.elim
  · exact h.elim
def nilTy (P : Program) (t : TypeId) : QK → Prop
  | .sl => ∃ e, P.underlying t = some (.slice e)
  | .pt => ∃ e, P.underlying t = some (.pointer e)
  | .mp => ∃ k e, P.underlying t = some (.map k e)
def nilVal : QK → Value
  | .sl => .slice none 0 0
  | .pt => .pointer none
  | .mp => .map none
theorem nil_run {P : Program} {t : TypeId} {k : QK} (ht : nilTy P t k) {v : Value} {a : AV} (hv : RdA ρ m v a) (ha : (∃ b, nilOf k a = some b) ∨ maybeNil k a) : ∃ b, (∀ w : World, (Op.equal t v (nilVal k)).run P w = .ok b w) ∧ (∀ b', nilOf k a = some b' → b' = b) := by
  cases k with
  | sl =>
    obtain ⟨e, he⟩ := ht
    have hs : ∃ A l c, v = .slice A l c := by
      cases hv with
      | pv v x h => cases h <;> first | exact ⟨_, _, _, rfl⟩ | (simp [nilOf, maybeNil] at ha)
      | vec => exact ⟨_, _, _, rfl⟩
      | vec0 => exact ⟨_, _, _, rfl⟩
      | _ => simp [nilOf, maybeNil] at ha
    obtain ⟨A, l, c, rfl⟩ := hs
    refine ⟨A.isNone, fun w => run_equal_slice_nil w t e A l c he, fun b' hb => ?_⟩
    clear ha
    cases hv with
    | pv _ x h => cases h with
      | emp _ nl h0 h1 h2 =>
        simp only [nilOf] at hb
        subst hb
        cases b' with
        | true => rw [h0 rfl]; rfl
        | false => cases A with
          | none => exact absurd rfl (h1 rfl)
          | some A => rfl
      | lst _ cap nn n xs ds h0 h1 h2 h3 h4 h5 h6 h7 =>
        simp only [nilOf] at hb
        split at hb
        · rename_i hn
          cases hb
          cases A with
          | none => exact absurd rfl (h4 hn)
          | some A => rfl
        · split at hb
          · cases hb
          · cases hb
            obtain ⟨b, o, e1, _⟩ := h5 0 _ rfl
            subst e1; rfl
      | opq => simp [nilOf] at hb
      | raw => simp [nilOf] at hb
    | vec s n lo len cap h0 h1 h2 =>
      simp only [nilOf] at hb
      split at hb
      · cases hb
      · cases hb; rfl
    | vec0 s n lo a h =>
      simp [nilOf] at hb
    | _ => simp [nilOf] at hb
  | pt =>
    obtain ⟨e, he⟩ := ht
    have hp : P.underlying t = some (.pointer (P.pointee t)) := by simp [Program.pointee, he]
    have hs : ∃ A, v = .pointer A := by
      cases hv with
      | pv v x h => cases h <;> first | exact ⟨_, rfl⟩ | (simp [nilOf, maybeNil] at ha)
      | ptr => exact ⟨_, rfl⟩
      | elt => exact ⟨_, rfl⟩
      | _ => simp [nilOf, maybeNil] at ha
    obtain ⟨A, rfl⟩ := hs
    refine ⟨A.isNone, fun w => run_equal_pointer_nil w t A hp, fun b' hb => ?_⟩
    clear ha
    cases hv with
    | pv _ x h => cases h <;> simp [nilOf] at hb <;> subst hb <;> rfl
    | ptr => simp [nilOf] at hb; subst hb; rfl
    | elt => simp [nilOf] at hb; subst hb; rfl
    | _ => simp [nilOf] at hb
  | mp =>
    obtain ⟨k, e, he⟩ := ht
    have hs : ∃ A, v = .map A := by
      cases hv with
      | pv v x h => cases h <;> first | exact ⟨_, rfl⟩ | (simp [nilOf, maybeNil] at ha)
      | mp => exact ⟨_, rfl⟩
      | _ => simp [nilOf, maybeNil] at ha
    obtain ⟨A, rfl⟩ := hs
    refine ⟨A.isNone, fun w => run_equal_map_nil w t k e A he, fun b' hb => ?_⟩
    clear ha
    cases hv with
    | pv _ x h => cases h <;> simp [nilOf] at hb <;> subst hb <;> rfl
    | mp => simp [nilOf] at hb; subst hb; rfl
    | _ => simp [nilOf] at hb
theorem snd_nilq {k : QK} {op : BinOp} {t u : TypeId} {x y : Operand} {x' : Opd} (hx : opd x = some x') (hy : act.eval y = nilVal k) (ht : nilTy P t k) (ho : o.op = .binOp op t x y u) (h : opWp (nilK k op x') d K σ) (hS : Sat N w0 m0 pl σ ρ m act w) : ResP G P σ ρ m o act w K := by
  have h1 := hS.opd hx
  have hg : ∀ w, (eqGuard op t x y (act.eval x) (nilVal k)).run P w = .ok () w := by
    intro w
    unfold eqGuard
    cases k <;> cases op <;> cases act.eval x <;> rfl
  have main : ∀ neg, opWp (.nilq k neg x') d K σ → (op = .eql ∧ neg = false ∨ op = .neq ∧ neg = true) → ResP G P σ ρ m o act w K := fun neg h hop => by
    simp only [opWp] at h
    obtain ⟨b, hb1, hb2⟩ := nil_run (P := P) (k := k) ht h1 (by
      split at h
      · rename_i b hb; exact .inl ⟨b, hb⟩
      · exact .inr h.1)
    have hK : K (.pv (.bool (b != neg))) σ := by
      split at h
      · rename_i b' hb; rw [← hb2 b' hb]; exact h
      · cases b <;> cases neg <;> first | exact h.2.1 | exact h.2.2
    refine .pure hS (v := .bool (b != neg)) ?_ (.pv _ _ (.bool _)) hK
    intro w' hst
    unfold execOp
    simp only [ho, hy]
    rcases hop with ⟨rfl, rfl⟩ | ⟨rfl, rfl⟩
    · cases k <;> simp [binOp, nilVal] <;> simp_all [nilVal]
    · cases k <;> simp [hg, binOp, hb1, nilVal] <;> simp_all [nilVal, binOp]
  unfold nilK at h
  split at h
  · exact main false h (.inl ⟨rfl, rfl⟩)
  · exact main true h (.inr ⟨rfl, rfl⟩)
  · exact h.elim
theorem snd_not {t : TypeId} {x : Operand} {x' : Opd} (hx : opd x = some x') (ho : o.op = .unOp .not t x) (h : opWp (.not x') d K σ) (hS : Sat N w0 m0 pl σ ρ m act w) : ResP G P σ ρ m o act w K := by
  simp only [opWp] at h
  split at h
  · rename_i a e
    have h1 := hS.opd hx
    rw [e] at h1
    refine .pure hS (v := .bool (!a)) ?_ (.pv _ _ (.bool _)) h
    intro w' hst
    unfold execOp
    simp only [ho, h1.bool_inv]
    rfl
  · exact h.elim
theorem snd_neg {t : TypeId} {x : Operand} {x' : Opd} (hx : opd x = some x') (ho : o.op = .unOp .neg t x) (h : opWp (.neg x') d K σ) (hS : Sat N w0 m0 pl σ ρ m act w) : ResP G P σ ρ m o act w K := by
  simp only [opWp] at h
  split at h
  · rename_i k a e
    have h1 := hS.opd hx
    rw [e] at h1
    refine .pure hS (v := .int k (k.wrap (0 - a))) ?_ (.pv _ _ (.int _ _)) h
    intro w' hst
    unfold execOp
    simp only [ho, h1.int_inv]
    rfl
  · exact h.elim
theorem snd_conv {src dst : TypeId} {e : TypeDesc} {k : IntKind} {x : Operand} {x' : Opd} (hx : opd x = some x') (hs : P.underlying src = some e) (hd : P.underlying dst = some (.int k)) (ho : o.op = .convert src dst x) (h : opWp (.conv k x') d K σ) (hS : Sat N w0 m0 pl σ ρ m act w) : ResP G P σ ρ m o act w K := by
  simp only [opWp] at h
  split at h
  · rename_i k' a e'
    have h1 := hS.opd hx
    rw [e'] at h1
    refine .pure hS (v := .int k (k.wrap a)) ?_ (.pv _ _ (.int _ _)) h
    intro w' hst
    unfold execOp
    simp only [ho, h1.int_inv]
    simp [convert, run_underlying hs, run_underlying hd, Conv.intToInt]
  · exact h.elim
theorem snd_ext {x : Operand} {i : Nat} {x' : Opd} (hx : opd x = some x') (ho : o.op = .extract x i) (h : opWp (.ext x' i) d K σ) (hS : Sat N w0 m0 pl σ ρ m act w) : ResP G P σ ρ m o act w K := by
  simp only [opWp] at h
  have h1 := hS.opd hx
  have key : ∀ (vs : Array Value) (a : AV), act.eval x = .tuple vs → (∃ v, vs[i]? = some v ∧ RdA ρ m v a) → K a σ → ResP G P σ ρ m o act w K := by
    intro vs a e ⟨v, k1, k2⟩ hK
    refine .pure hS (v := v) ?_ k2 hK
    intro w' hst
    unfold execOp
    simp only [ho, e]
    simp [Instr.extract, k1]
  split at h
  · rename_i vs e
    rw [e] at h1
    obtain ⟨us, hX, h0, h2⟩ := h1.ptup_inv
    split at h
    · rename_i v hv
      have hlt : i < us.size := by rw [h0]; exact (List.getElem?_eq_some_iff.1 hv).1
      exact key us (.pv v) hX ⟨us[i], Array.getElem?_eq_getElem hlt, .pv _ _ (h2 i _ _ (Array.getElem?_eq_getElem hlt) hv)⟩ h
    · exact h.elim
  · rename_i vs e
    rw [e] at h1
    obtain ⟨us, hX, h0, h2⟩ := h1.tup_inv
    split at h
    · rename_i v hv
      have hlt : i < us.size := by rw [h0]; exact (List.getElem?_eq_some_iff.1 hv).1
      exact key us v hX ⟨us[i], Array.getElem?_eq_getElem hlt, h2 i _ _ (Array.getElem?_eq_getElem hlt) hv⟩ h
    · exact h.elim
  · exact h.elim
theorem snd_nilc {x : Operand} {x' : Opd} (hx : opd x = some x') (ho : o.op = .nilCheck x) (h : opWp (.nilc x') d K σ) (hS : Sat N w0 m0 pl σ ρ m act w) : ResP G P σ ρ m o act w K := by
  simp only [opWp] at h
  have h1 := hS.opd hx
  have key : ∀ (A : Addr) (a : AV), act.eval x = .pointer (some A) → RdA ρ m (act.eval x) a → K a σ → ResP G P σ ρ m o act w K := by
    intro A a e k2 hK
    refine .pure hS (v := act.eval x) ?_ k2 hK
    intro w' hst
    unfold execOp
    simp only [ho, e]
    rfl
  split at h
  · rename_i cs e
    rw [e] at h1
    obtain ⟨b, o, ds, hX, _⟩ := h1.ref_inv
    exact key _ _ hX h1 h
  · rename_i s off e
    rw [e] at h1
    exact key _ _ h1.ptr_inv h1 h
  · rename_i s n i off e
    rw [e] at h1
    exact key _ _ h1.elt_inv h1 h
  · exact h.elim
theorem snd_minmax {mx : Bool} {c : Call} {x y : Operand} {x' y' : Opd} (hx : opd x = some x') (hy : opd y = some y') (hc : c.callee = .builtin (if mx = true then .max else .min)) (ha : c.args.toList = [x, y]) (ho : o.op = .call c) (h : opWp (.minmax mx x' y') d K σ) (hS : Sat N w0 m0 pl σ ρ m act w) : ResP G P σ ρ m o act w K := by
  simp only [opWp] at h
  have h1 := hS.opd hx
  have h2 := hS.opd hy
  have hargs : c.args = #[x, y] := Array.toList_inj.1 (by simpa using ha)
  split at h
  · rename_i k a k' b e1 e2
    rw [e1] at h1; rw [e2] at h2
    refine .pure hS (v := .int k (if mx = true then (if b > a then b else a) else (if b < a then b else a))) ?_ (.pv _ _ (.int _ _)) h
    intro w' hst
    unfold execOp
    simp only [ho]
    cases mx
    · simp [resolve, hc, hargs, invoke, builtin, Builtin.min_, h1.int_inv, h2.int_inv, Builtin.min2]
    · simp [resolve, hc, hargs, invoke, builtin, Builtin.max_, h1.int_inv, h2.int_inv, Builtin.max2]
  · exact h.elim
end
end Go.Proofs.Ytohhjnpiiackjaa
/-! An evaluation of Go's code over plain values: the operations on memory are the model's. Over any program. -/
namespace Go.Proofs.Ytohhjnpiiackjaa
open Go.RowKit
section
variable {G : World → Prop} {P : Program} {N : Nat} {w0 : World} {m0 : Env w0} {pl : List Nat} {σ : AS} {ρ : Site → Loc} {m : Mem} {act : Act} {w : World} {o : Oper} {d : Nat} {K : AV → AS → Prop}
theorem wide_cells {v : Value} {a : AV} (h : RdA ρ m v a) (hw : a.wide = true ∨ a.one = true) : v.cells.size = a.cells.length ∧ (∀ u ∈ v.cells, u.oneCell' = true) ∧ ∀ (j : Nat) (d : Value) (c : AV), v.cells[j]? = some d → a.cells[j]? = some c → RdA ρ m d c := by
  have hne : a ≠ .any := fun e => by subst e; rcases hw with h | h <;> cases h
  obtain ⟨h1, h2⟩ := h.cells_rd hne
  refine ⟨h1, fun u hu => ?_, fun j d c k1 k2 => (h2 j d c k1 k2).1⟩
  obtain ⟨j, hj, rfl⟩ := Array.mem_iff_getElem.1 hu
  have hj' : j < a.cells.length := by omega
  obtain ⟨k1, k2⟩ := h2 j _ _ (Array.getElem?_eq_getElem hj) (List.getElem?_eq_getElem hj')
  rcases hw with hw | hw
  · exact k2 hw
  · refine k1.one ?_
    have : a.cells = [a] := by
      cases a with
      | agg cs => cases hw
      | pv x => cases x <;> first | rfl | cases hw
      | _ => rfl
    have hj0 : j = 0 := by rw [this] at hj'; simp at hj'; exact hj'
    subst hj0
    simp only [this, List.getElem_cons_zero]; exact hw
/-- A new box of the slot d. -/
theorem Res.newcells (h : Sat N w0 m0 pl σ ρ m act w) {cs : Array Value} {T : TypeId} {as : List AV} (h0 : cs.size = as.length) (h1 : ∀ u ∈ cs, u.oneCell' = true) (h2 : ∀ (j : Nat) (d : Value) (c : AV), cs[j]? = some d → as[j]? = some c → RdA ρ m d c)
    (hn : NoD d σ) (has : AV.hasL d as = false) (hr : (execOp act.eval o).run P w = .ok (.value (.pointer (some ⟨w.heap.size, 0, none⟩))) (w.alloc (.cells cs T))) (hK : K (.ptr (.loc d 0) 0) (σ.add (.loc d 0) (.cells as))) : Res P N w0 m0 pl o act w K := by
  have hu := upd_self ρ (.loc d 0) ⟨w.heap.size, 0, 0, true⟩
  refine ⟨_, _, _, _, _, _, .inl hr, hK, h.new d 0 hn cs T 0 ?_, ?_, fun _ => Ext.al _ _⟩
  · refine ⟨by rw [hu], cs, T, by rw [hu]; exact heap_alloc_new w _, h0, fun i c a k1 k2 => ⟨h1 c (Array.mem_of_getElem? k1), ?_⟩⟩
    exact (h2 i c a k1 k2).mono (Le.refl m) (upd_loc ρ d 0 _) (AV.hasL_get has k2)
  · have := RdA.ptr (ρ := upd ρ (.loc d 0) ⟨w.heap.size, 0, 0, true⟩) (m := m) (.loc d 0) 0
    rw [hu] at this
    exact this
theorem hasL_of {d : Nat} : ∀ {l : List AV}, (∀ a ∈ l, a.has d = false) → AV.hasL d l = false
  | [], _ => rfl
  | a :: r, h => by
    rw [AV.hasL, h a (by simp), hasL_of (fun b hb => h b (by simp [hb]))]; rfl
theorem cells_has {d : Nat} {a : AV} (h : a.has d = false) : AV.hasL d a.cells = false := by
  cases a with
  | agg cs => exact h
  | pv x =>
    cases x with
    | agg cs => exact hasL_of (fun a ha => by obtain ⟨c, _, rfl⟩ := List.mem_map.1 ha; rfl)
    | _ => rfl
  | _ => simp only [AV.cells, AV.hasL, h, Bool.or_false]
theorem o_has {d : Nat} (hn : NoD d σ) (x : Opd) : (σ.o x).has d = false := by
  cases x with
  | t k =>
    show ((σ.t k).getD .any).has d = false
    cases ht : σ.t k with
    | none => rfl
    | some a => exact hn.t k a ht
  | c x => rfl
theorem snd_box {t n : Nat} {x : Operand} {x' : Opd} (hx : opd x = some x') (hs : sizeT P t = some n) (ho : o.op = .box t x) (h : opWp (.box n x') d K σ) (hS : Sat N w0 m0 pl σ ρ m act w) : Res P N w0 m0 pl o act w K := by
  obtain ⟨h1, h2, h3⟩ := h
  have hP := hS.purge d
  obtain ⟨k1, k2, k3⟩ := wide_cells (hP.opd hx) h2
  refine Res.newcells hP k1 k2 k3 (NoD.purge d σ) (cells_has (o_has (NoD.purge d σ) x')) ?_ h3 (T := t)
  unfold execOp
  simp only [ho, Sem.run_bind, r_box, Result.andThen_ok]
  rfl
theorem snd_alloc {t : Nat} {z : PV} (hz : zeroPV P t = some z) (ho : o.op = .alloc t) (h : opWp (.alloc z) d K σ) (hS : Sat N w0 m0 pl σ ρ m act w) : Res P N w0 m0 pl o act w K := by
  unfold zeroPV at hz
  cases hv : zeroT P t with
  | none => simp [hv] at hz
  | some v =>
    simp only [hv, Option.bind_some] at hz
    obtain ⟨k1, k2, k3⟩ := pvz_cells hz m
    refine Res.newcells (hS.purge d) (cs := v.cells) (T := t) (as := z.cells.map .pv) (by simpa using k1) k2 (fun j dd c q1 q2 => ?_) (NoD.purge d σ) (hasL_of (fun a ha => by obtain ⟨c, _, rfl⟩ := List.mem_map.1 ha; rfl)) ?_ h
    · rw [List.getElem?_map] at q2
      obtain ⟨x, q3, rfl⟩ := Option.map_eq_some_iff.1 q2
      exact .pv _ _ (k3 j dd x q1 q3)
    · unfold execOp
      simp only [ho, Sem.run_bind, r_alloc hv, Result.andThen_ok]
      rfl
theorem snd_fa {t f off : Nat} {x : Operand} {x' : Opd} (hx : opd x = some x') (hf : offT P t f = some off) (ho : o.op = .fieldAddr t x f) (h : opWp (.fa off x') d K σ) (hS : Sat N w0 m0 pl σ ρ m act w) : ResP G P σ ρ m o act w K := by
  simp only [opWp] at h
  have h1 := hS.opd hx
  have key : ∀ (b q : Nat) (a : AV), act.eval x = .pointer (some ⟨b, q, none⟩) → RdA ρ m (.pointer (some ⟨b, q + off, none⟩)) a → K a σ → ResP G P σ ρ m o act w K := by
    intro b q a e k2 hK
    refine .pure hS ?_ k2 hK
    intro w' hst
    unfold execOp
    simp only [ho, e, Sem.run_bind, r_fa hf, Result.andThen_ok]
    rfl
  split at h
  · rename_i cs e
    rw [e] at h1
    obtain ⟨b, q, ds, hX, k1, k2, k3, k4⟩ := h1.ref_inv
    refine key b q _ hX ?_ h.2
    refine .pv _ _ (.ref b (q + off) (cs.drop off) (ds.drop off) (At.of_get (fun j u hj => ?_)) (by simp [k2]) (fun u hu => k3 u (List.mem_of_mem_drop hu)) (fun j u c q1 q2 => ?_))
    · rw [List.getElem?_drop] at hj
      have := k1.get _ u hj
      rwa [show q + off + j = q + (off + j) by omega]
    · rw [List.getElem?_drop] at q1 q2
      exact k4 _ u c q1 q2
  · rename_i s q e
    rw [e] at h1
    exact key _ q _ h1.ptr_inv (.ptr s (q + off)) h
  · rename_i s n i q e
    rw [e] at h1
    refine key _ _ _ h1.elt_inv ?_ h
    have := RdA.elt (ρ := ρ) (m := m) s n i (q + off)
    rwa [show (ρ s).o + i * n + (q + off) = (ρ s).o + i * n + q + off by omega] at this
  · exact h.elim
theorem cells_box {s : Site} {as : List AV} (hb : RdB ρ m w s (.cells as)) {off n : Nat} (hl : off + n ≤ as.length) :
    ∃ ds : List Value, ds.length = n ∧ At w.mem (ρ s).b off ds ∧ (∀ u ∈ ds, u.oneCell' = true) ∧ ∀ (j : Nat) (d : Value) (c : AV), ds[j]? = some d → ((as.drop off).take n)[j]? = some c → RdA ρ m d c := by
  obtain ⟨h0, cs, T, h1, h2, h3⟩ := hb
  refine ⟨(cs.toList.drop off).take n, slice_len (by omega), At.of_get (fun j u hj => ?_), fun u hu => ?_, fun j u c k1 k2 => ?_⟩
  · rw [slice_get] at hj
    split at hj
    · show w.cell? _ = _
      simp [World.cell?, h1, hj]
    · cases hj
  · obtain ⟨j, hj⟩ := List.mem_iff_getElem?.1 hu
    rw [slice_get] at hj
    split at hj
    · rename_i hjn
      exact (h3 _ u _ hj (List.getElem?_eq_getElem (by omega))).1
    · cases hj
  · rw [slice_get] at k1
    rw [List.getElem?_take] at k2
    split at k1
    · rename_i hjn
      rw [if_pos hjn, List.getElem?_drop] at k2
      exact (h3 _ u c k1 k2).2
    · cases k1
theorem snd_load {t n : Nat} {dd : TypeDesc} {x : Operand} {x' : Opd} (hx : opd x = some x') (hs : sizeT P t = some n) (hu : P.underlying t = some dd) (ho : o.op = .load t x) (h : opWp (.load (rowT P t) n x') d K σ) (hS : Sat N w0 m0 pl σ ρ m act w) : ResP (Stay σ ρ m w) P σ ρ m o act w K := by
  simp only [opWp] at h
  have h1 := hS.opd hx
  have row : ∀ (b q : Nat) (ds : List Value) (a : AV), rowT P t = true → act.eval x = .pointer (some ⟨b, q, none⟩) → (∀ w', Stay σ ρ m w w' → At w'.mem b q ds) → ds.length = n → RdA ρ m (.agg ds.toArray) a → K a σ → ResP (Stay σ ρ m w) P σ ρ m o act w K := by
    intro b q ds a hr e k1 k2 k3 hK
    refine .pure hS ?_ k3 hK
    intro w' hst
    unfold execOp
    simp only [ho, e, Sem.run_bind, r_loadn hu hr (k1 w' hst) (by rw [hs, k2]), Result.andThen_ok]
    rfl
  have one : ∀ (b q : Nat) (v : Value) (a : AV), rowT P t = false → act.eval x = .pointer (some ⟨b, q, none⟩) → (∀ w', Stay σ ρ m w w' → w'.cell? ⟨b, q, none⟩ = some v) → RdA ρ m v a → K a σ → ResP (Stay σ ρ m w) P σ ρ m o act w K := by
    intro b q v a hr e k1 k3 hK
    refine .pure hS ?_ k3 hK
    intro w' hst
    unfold execOp
    simp only [ho, e, Sem.run_bind, r_load1 hu hr (k1 w' hst), Result.andThen_ok]
    rfl
  split at h
  · rename_i cs e
    rw [e] at h1
    obtain ⟨b, q, ds, hX, k1, k2, k3, k4⟩ := h1.ref_inv
    split at h
    · rename_i hr
      obtain ⟨hn, hK⟩ := h
      refine row b q (ds.take n) _ hr hX (fun w' hst => At.of_get (fun j u hj => ?_)) (by rw [List.length_take]; omega) (.pv _ _ (.agg _ _ (by simp; omega) (fun u hu => k3 u (List.mem_of_mem_take (by simpa using hu))) (fun j u c q1 q2 => ?_))) hK
      · rw [List.getElem?_take] at hj
        split at hj
        · exact hst.1 _ _ _ (k1.get j u hj)
        · cases hj
      · have q1' : (ds.take n)[j]? = some u := by simpa using q1
        rw [List.getElem?_take] at q1' q2
        split at q1'
        · rename_i hjn
          rw [if_pos hjn] at q2
          exact k4 j u c q1' q2
        · cases q1'
    · rename_i hr
      split at h
      · rename_i c cs'
        cases ds with
        | nil => simp at k2
        | cons v ds' => exact one b q v _ (by simpa using hr) hX (fun w' hst => hst.1 _ _ _ k1.1) (.pv _ _ (k4 0 v c rfl rfl)) h
      · exact h.elim
  · rename_i s off e
    rw [e] at h1
    split at h
    · rename_i as hb
      have hB := hS.bx s _ hb
      split at h
      · rename_i hr
        obtain ⟨hl, hK⟩ := h
        obtain ⟨ds, k1, k2, k3, k4⟩ := cells_box hB hl
        refine row _ off ds _ hr h1.ptr_inv (fun w' hst => hst.at' hb hB.1 k2) k1 (ofCells_rd (by simp [k1, List.length_take, List.length_drop]; omega) (fun u hu => k3 u (by simpa using hu)) (fun j u c q1 q2 => k4 j u c (by simpa using q1) q2)) hK
      · rename_i hr
        split at h
        · rename_i a ha
          have hlt := (List.getElem?_eq_some_iff.1 ha).1
          obtain ⟨ds, k1, k2, k3, k4⟩ := cells_box hB (off := off) (n := 1) (by omega)
          match ds, k1 with
          | [v], _ => exact one _ off v _ (by simpa using hr) h1.ptr_inv (fun w' hst => (hst.at' hb hB.1 k2).1) (k4 0 v a rfl (by rw [List.getElem?_take, if_pos (by omega), List.getElem?_drop]; exact ha)) h
        · exact h.elim
    · exact h.elim
  · rename_i s n' i off e
    rw [e] at h1
    split at h
    · rename_i ee n'' xs hb
      have hB := hS.bx s _ hb
      split at h
      · rename_i y hy
        obtain ⟨rfl, h⟩ := h
        obtain ⟨hn0, hB | ⟨hr0, cs, g1, g2, g3, g4, g5⟩⟩ := hB
        · rw [hB.2.1] at hy; simp at hy
        obtain ⟨g6, g7⟩ := g5 i y hy
        have hX := h1.elt_inv
        have getc : ∀ j c, y.cells[j]? = some c → ∃ u, w.cell? ⟨(ρ s).b, (ρ s).o + i * n' + j, none⟩ = some u ∧ u.oneCell' = true ∧ RdP m u c := fun j c hc => by
          obtain ⟨u, q1, q2, q3⟩ := g7 j c hc
          exact ⟨u, by simp [World.cell?, g1, q1], q2, q3⟩
        split at h
        · rename_i hr
          obtain ⟨hl, hK⟩ := h
          have hfit : (ρ s).o + i * n' + off + n ≤ cs.size := by
            have : i * n' + n' ≤ (ρ s).cap * n' := mul_lt_of (by have := (List.getElem?_eq_some_iff.1 hy).1; omega)
            omega
          have hlen := slice_len hfit
          have geta : ∀ (j : Nat) (u : Value), ((cs.toList.drop ((ρ s).o + i * n' + off)).take n)[j]? = some u → j < n ∧ ∃ c, y.cells[off + j]? = some c ∧ u.oneCell' = true ∧ RdP m u c := fun j u hj => by
            rw [slice_get] at hj
            split at hj
            · rename_i hjn
              have hlt : off + j < y.cells.length := by omega
              obtain ⟨u', q1, q2, q3⟩ := g7 (off + j) _ (List.getElem?_eq_getElem hlt)
              rw [show (ρ s).o + i * n' + (off + j) = (ρ s).o + i * n' + off + j by omega, hj] at q1
              cases q1
              exact ⟨hjn, _, List.getElem?_eq_getElem hlt, q2, q3⟩
            · cases hj
          refine row _ _ ((cs.toList.drop ((ρ s).o + i * n' + off)).take n) _ hr hX (fun w' hst => hst.at' hb hr0 (At.of_get (fun j u hj => ?_))) hlen (.pv _ _ (.agg _ _ (by simp only [List.size_toArray]; rw [hlen, List.length_take, List.length_drop]; omega) (fun u hu => ?_) (fun j u c q1 q2 => ?_))) hK
          · rw [slice_get] at hj
            split at hj
            · show w.cell? _ = _
              simp [World.cell?, g1, hj]
            · cases hj
          · obtain ⟨j, hj⟩ := List.mem_iff_getElem?.1 (show u ∈ (cs.toList.drop ((ρ s).o + i * n' + off)).take n by simpa using hu)
            obtain ⟨_, c, _, q2, _⟩ := geta j u hj
            exact q2
          · obtain ⟨hjn, c', q3, _, q4⟩ := geta j u (by simpa using q1)
            rw [List.getElem?_take, if_pos hjn, List.getElem?_drop] at q2
            rw [q2] at q3; cases q3; exact q4
        · rename_i hr
          split at h
          · rename_i c hc
            obtain ⟨u, q1, _, q3⟩ := getc off c hc
            exact one _ _ u _ (by simpa using hr) hX (fun w' hst => (World.cell?_of_block (a := ⟨(ρ s).b, (ρ s).o + i * n' + off, none⟩) (hst.2 s _ hb hr0)).trans q1) (.pv _ _ q3) h
          · exact h.elim
      · exact h.elim
    · rename_i ee e2 n2 els hb
      have hB := hS.bx s _ hb
      split at h
      · rename_i a ha
        obtain ⟨⟨rfl, rfl, hr⟩, hK⟩ := h
        obtain ⟨_, ⟨_, rfl, _⟩ | ⟨hr0, cs, g1, g2, g3, g4, g5, _⟩⟩ := hB
        · cases ha
        obtain ⟨u, q1, q2, q3⟩ := g5 i a ha
        have hX := h1.elt_inv
        rw [Nat.mul_one, Nat.add_zero] at hX
        exact one _ _ u _ hr hX (fun w' hst => (World.cell?_of_block (a := ⟨(ρ s).b, (ρ s).o + i, none⟩) (hst.2 s _ hb hr0)).trans (by simp [World.cell?, g1, q1])) q3 hK
      · exact h.elim
    · exact h.elim
  · exact h.elim
end
end Go.Proofs.Ytohhjnpiiackjaa
/-! An evaluation of Go's code over plain values: stores, indices, lengths, functions, structs, slice literals. Over any program. -/
namespace Go.Proofs.Ytohhjnpiiackjaa
open Go.RowKit
section
variable {P : Program} {N : Nat} {w0 : World} {m0 : Env w0} {pl : List Nat} {σ : AS} {ρ : Site → Loc} {m : Mem} {act : Act} {w : World} {o : Oper} {d : Nat} {K : AV → AS → Prop}
theorem Keep.setRow (w : World) (b : Nat) (cs : Array Value) : Keep [b] w (w.setRow b cs) := by
  refine ⟨rfl, rfl, rfl, by simp [World.setRow], fun k _ hn => ?_⟩
  exact setRow_other w b k cs (by simpa using hn)
theorem splice_get {α : Type} {l c : List α} {off : Nat} (h : off + c.length ≤ l.length) (i : Nat) : (splice l off c)[i]? = if i < off then l[i]? else if i < off + c.length then c[i - off]? else l[i]? := by
  unfold splice
  rw [List.getElem?_append, List.getElem?_append]
  simp only [List.length_append, List.length_take]
  rw [show min off l.length = off by omega]
  by_cases h1 : i < off
  · have h3 : i < off + c.length := by omega
    simp only [h1, h3, if_true, List.getElem?_take]
  · by_cases h2 : i < off + c.length
    · simp only [h1, h2, if_true, if_false]
    · simp only [h1, h2, if_false, List.getElem?_drop]
      congr 1; omega
theorem splice_len {α : Type} {l c : List α} {off : Nat} (h : off + c.length ≤ l.length) : (splice l off c).length = l.length := by
  unfold splice
  simp; omega
theorem one_cells {a : AV} (h : a.one = true) : a.cells = [a] := by
  cases a with
  | agg cs => cases h
  | pv x => cases x <;> first | rfl | cases h
  | _ => rfl
/-- A cell of a box of lists is written. -/
theorem Sat.setrow (hS : Sat N w0 m0 pl σ ρ m act w) {s : Site} {e e2 : TypeId} {n2 : Nat} {els : List RowE} (hb : σ.b s = some (.rows e e2 n2 els)) {i : Nat} (hi : i < els.length) {u : Value} {a : AV} (h1 : u.oneCell' = true) (hu : RdA ρ m u a) {cs : Array Value} (g1 : w.heap[(ρ s).b]? = some (.cells cs e (0, 0))) :
    Sat N w0 m0 pl (σ.set s (.rows e e2 n2 (els.set i (.av a)))) ρ m act (w.setRow (ρ s).b (splice cs.toList ((ρ s).o + i) [u]).toArray) := by
  obtain ⟨hn, ⟨_, rfl, _⟩ | ⟨hr, cs', g1', g2, g3, g4, g5, g6, g7, g8⟩⟩ := hS.bx s _ hb
  · cases hi
  rw [g1] at g1'; cases g1'
  have hq : (ρ s).o + i + [u].length ≤ cs.toList.length := by simp; omega
  have hW := setRow_heap w (ρ s).b cs (splice cs.toList ((ρ s).o + i) [u]).toArray e (0, 0) g1
  have hget : ∀ j, j ≠ i → (splice cs.toList ((ρ s).o + i) [u]).toArray[(ρ s).o + j]? = cs[(ρ s).o + j]? := fun j hj => by
    rw [List.getElem?_toArray, splice_get hq]
    simp only [List.length_singleton, Array.getElem?_toList]
    by_cases c1 : (ρ s).o + j < (ρ s).o + i
    · rw [if_pos c1]
    · rw [if_neg c1, if_neg (by omega)]
  have hself : (splice cs.toList ((ρ s).o + i) [u]).toArray[(ρ s).o + i]? = some u := by
    rw [List.getElem?_toArray, splice_get hq, if_neg (by omega), if_pos (by simp)]
    simp
  have hins : ∀ j k, insAt (w.setRow (ρ s).b (splice cs.toList ((ρ s).o + i) [u]).toArray) (ρ s) (els.set i (.av a)) j = some k → j ≠ i ∧ insAt w (ρ s) els j = some k := fun j k h => by
    obtain ⟨xs, cs2, T, t, A, len, cap, k1, k2, k3, rfl⟩ := insAt_inv h
    rw [hW] at k2; cases k2
    by_cases e1 : j = i
    · subst e1
      rw [List.getElem?_set_self hi] at k1; cases k1
    · rw [List.getElem?_set_ne (fun e => e1 e.symm)] at k1
      rw [hget j e1] at k3
      exact ⟨e1, insAt_eq k1 g1 k3⟩
  refine hS.setboxk hb hr (Keep.setRow w _ _) ⟨hn, .inr ⟨hr, _, hW, ?_, by rw [List.length_set]; exact g3, g4, fun j a' k => ?_, fun j xs k => ?_, fun j j' k h h' => g7 j j' k (hins j k h).2 (hins j' k h').2, fun j k h => g8 j k (hins j k h).2⟩⟩ (fun k hk => ?_)
  · rw [List.size_toArray, splice_len hq, Array.length_toList]; exact g2
  · by_cases e1 : j = i
    · subst e1
      rw [List.getElem?_set_self hi] at k; cases k
      exact ⟨u, hself, h1, hu⟩
    · rw [List.getElem?_set_ne (fun e => e1 e.symm)] at k
      rw [hget j e1]
      exact g5 j a' k
  · by_cases e1 : j = i
    · subst e1
      rw [List.getElem?_set_self hi] at k; cases k
    · rw [List.getElem?_set_ne (fun e => e1 e.symm)] at k
      obtain ⟨d, q1, q2⟩ := g6 j xs k
      refine ⟨d, by rw [hget j e1]; exact q1, q2.more (Le.refl m) (fun A len cap ed => ?_)⟩
      subst ed
      exact (Keep.setRow w (ρ s).b _).block _ (hS.ltk hb (.inr (mem_ins.2 ⟨j, insAt_eq k g1 q1⟩))) (by
        rw [List.mem_singleton]; exact g8 j _ (insAt_eq k g1 q1))
  · obtain ⟨j, hj⟩ := mem_ins.1 hk
    exact mem_ins.2 ⟨j, (hins j k hj).2⟩
theorem snd_store {t n : Nat} {x y : Operand} {x' y' : Opd} (hx : opd x = some x') (hy : opd y = some y') (hs : sizeT P t = some n) (ho : o.op = .store t x y) (h : opWp (.store n x' y') d K σ) (hS : Sat N w0 m0 pl σ ρ m act w) : Res P N w0 m0 pl o act w K := by
  simp only [opWp] at h
  have h1 := hS.opd hx
  have h2 := hS.opd hy
  have run : ∀ (b q : Nat) (cur : Array Value) (T : TypeId), act.eval x = .pointer (some ⟨b, q, none⟩) → w.heap[b]? = some (.cells cur T (0, 0)) → (act.eval y).cells.size = n → q + n ≤ cur.size → (∀ u ∈ (act.eval y).cells, u.oneCell' = true) →
      (execOp act.eval o).run P w = .ok .skip (w.setRow b (splice cur.toList q (act.eval y).cells.toList).toArray) := by
    intro b q cur T e hh hn hl h1
    unfold execOp
    simp only [ho, e, Sem.run_bind]
    rw [r_store (by rw [hs, hn]) hh (by rw [hn]; exact hl) h1]
    simp only [Result.andThen_ok, Sem.run_pure, splice, Array.length_toList]
  split at h
  · rename_i s off e
    rw [e] at h1
    split at h
    · rename_i as hb
      obtain ⟨c1, c2, c3, hK⟩ := h
      obtain ⟨k1, k2, k3⟩ := wide_cells h2 c2
      obtain ⟨hr, cs, T, g1, g2, g3⟩ := hS.bx s _ hb
      have hq : off + (act.eval y).cells.toList.length ≤ cs.toList.length := by rw [Array.length_toList, Array.length_toList]; omega
      refine ⟨undef, _, .any, _, ρ, m, .inr ⟨run _ off cs T h1.ptr_inv g1 (by omega) (by omega) k2, rfl⟩, hK, ?_, .any _, fun hm => by rw [ho] at hm; cases hm⟩
      refine hS.setbox hb hr (Keep.setRow w _ _) ⟨hr, _, T, setRow_heap w _ cs _ T _ g1, ?_, fun i c a q1 q2 => ?_⟩
      · rw [List.size_toArray, splice_len hq, splice_len (by omega)]
        simpa using g2
      · have q1' : (splice cs.toList off (act.eval y).cells.toList)[i]? = some c := by simpa using q1
        rw [splice_get hq] at q1'
        rw [splice_get (by omega)] at q2
        rw [show (act.eval y).cells.toList.length = (σ.o y').cells.length by simp [k1]] at q1'
        split at q1'
        · rename_i hi
          rw [if_pos hi] at q2
          exact g3 i c a (by simpa using q1') q2
        · rename_i hi
          rw [if_neg hi] at q2
          split at q1'
          · rename_i hi2
            rw [if_pos hi2] at q2
            have q3 : (act.eval y).cells[i - off]? = some c := by simpa using q1'
            exact ⟨k2 c (Array.mem_of_getElem? q3), k3 _ c a q3 q2⟩
          · rename_i hi2
            rw [if_neg hi2] at q2
            exact g3 i c a (by simpa using q1') q2
    · exact h.elim
  · rename_i s n' i off e
    rw [e] at h1
    split at h
    · rename_i ee e2 n2 els hb
      obtain ⟨⟨rfl, rfl, rfl, hi, hone⟩, hK⟩ := h
      obtain ⟨k1, k2, k3⟩ := wide_cells h2 (.inr hone)
      obtain ⟨_, ⟨_, rfl, _⟩ | ⟨hr, cs, g1, g2, g3, _⟩⟩ := hS.bx s _ hb
      · cases hi
      have hX := h1.elt_inv
      rw [Nat.mul_one, Nat.add_zero] at hX
      rw [one_cells hone] at k1
      have hvs : (act.eval y).cells.size = 1 := k1
      obtain ⟨u, hu⟩ : ∃ u, (act.eval y).cells = #[u] := by
        generalize (act.eval y).cells = cc at hvs
        exact ⟨cc[0], by apply Array.ext (by simpa using hvs); intro j h1 h2; have : j = 0 := (by omega); subst this; rfl⟩
      have hrun := run _ ((ρ s).o + i) cs ee hX g1 hvs (by omega) k2
      rw [hu] at hrun
      refine ⟨undef, _, .any, _, ρ, m, .inr ⟨hrun, rfl⟩, hK, ?_, .any _, fun hm => by rw [ho] at hm; cases hm⟩
      exact hS.setrow hb hi (k2 u (by rw [hu]; simp)) (k3 0 u _ (by rw [hu]; rfl) (by rw [one_cells hone]; rfl)) g1
    obtain ⟨m2, hm2, hS2⟩ := Sat.frzA (σ.o y') hS
    replace h2 := hS2.opd hy
    generalize σ.frzA (σ.o y') = σ2 at h h2 hS2
    split at h
    · rename_i ee n'' xs p hb hpc
      split at h
      · rename_i z hz
        obtain ⟨rfl, c0, c1, c2, c3, hK⟩ := h
        rw [hpc] at h2
        obtain ⟨k1, k2, k3⟩ := wide_cells h2 c2
        have hpl : (AV.pv p).cells.length = p.cells.length := by cases p <;> simp [AV.cells, PV.cells]
        have hpg : ∀ j : Nat, (AV.pv p).cells[j]? = (p.cells[j]?).map AV.pv := fun j => by
          cases p <;> simp only [AV.cells, PV.cells, List.getElem?_map] <;> cases j <;> rfl
        obtain ⟨hn0, hB | ⟨hr, cs, g1, g2, g3, g4, g5⟩⟩ := hS2.bx s _ hb
        · rw [hB.2.1] at hz; simp at hz
        obtain ⟨g6, g7⟩ := g5 i z hz
        have hilt : i < xs.length := (List.getElem?_eq_some_iff.1 hz).1
        have hin : i * n' + n' ≤ (ρ s).cap * n' := mul_lt_of (by omega)
        have hfit : (ρ s).o + i * n' + off + n ≤ cs.size := by omega
        have hX := h1.elt_inv
        have hvs : (act.eval y).cells.size = n := by omega
        have hvl : (act.eval y).cells.toList.length = n := by rw [Array.length_toList]; exact hvs
        have hspl : (ρ s).o + i * n' + off + (act.eval y).cells.toList.length ≤ cs.toList.length := by rw [hvl, Array.length_toList]; exact hfit
        refine ⟨undef, _, .any, _, ρ, m2, .inr ⟨run _ ((ρ s).o + i * n' + off) cs ee hX g1 hvs hfit k2, rfl⟩, hK, ?_, .any _, fun hm => by rw [ho] at hm; cases hm⟩
        have hset : (setAt z off p).cells = splice z.cells off p.cells := by
          unfold setAt
          split
          · rfl
          · rename_i hne
            have hz1 : z.cells = [z] := by cases z <;> first | rfl | (exact (hne _ rfl).elim)
            rw [hz1] at c3 ⊢
            simp only [List.length_singleton] at c3
            have hn1 : n = 1 ∧ off = 0 ∨ n = 0 := by omega
            rcases hn1 with ⟨e1, e2⟩ | e0
            · subst e2
              simp [splice, c1, e1]
            · omega
        refine hS2.setbox hb hr (Keep.setRow w _ _) ⟨hn0, .inr ⟨hr, _, setRow_heap w _ cs _ ee _ g1, ?_, by rw [List.length_set]; exact g3, g4, fun k x hk => ?_⟩⟩
        · rw [List.size_toArray, splice_len hspl]
          simpa using g2
        · have getn : ∀ q u, ((splice cs.toList ((ρ s).o + i * n' + off) (act.eval y).cells.toList).toArray)[q]? = some u ↔ (if q < (ρ s).o + i * n' + off then cs[q]? else if q < (ρ s).o + i * n' + off + n then (act.eval y).cells[q - ((ρ s).o + i * n' + off)]? else cs[q]?) = some u := fun q u => by
            rw [List.getElem?_toArray, splice_get hspl, hvl]
            simp only [Array.getElem?_toList]
          rcases Nat.decEq k i with hne | rfl
          · rw [List.getElem?_set_ne (fun e => hne e.symm)] at hk
            obtain ⟨q1, q2⟩ := g5 k x hk
            refine ⟨q1, fun j c hj => ?_⟩
            obtain ⟨u, r1, r2, r3⟩ := q2 j c hj
            have hjn : j < n' := by have := (List.getElem?_eq_some_iff.1 hj).1; omega
            refine ⟨u, (getn _ u).2 ?_, r2, r3⟩
            rcases Nat.lt_or_gt_of_ne hne with hki | hki
            · have := mul_lt_of (n := n') hki
              rw [if_pos (by omega)]; exact r1
            · have := mul_lt_of (n := n') hki
              rw [if_neg (by omega), if_neg (by omega)]; exact r1
          · rw [List.getElem?_set_self hilt] at hk
            cases hk
            refine ⟨by rw [hset, splice_len (by omega)]; exact g6, fun j c hj => ?_⟩
            rw [hset, splice_get (by omega)] at hj
            split at hj
            · rename_i hjo
              obtain ⟨u, r1, r2, r3⟩ := g7 j c hj
              exact ⟨u, (getn _ u).2 (by rw [if_pos (by omega)]; exact r1), r2, r3⟩
            · rename_i hjo
              split at hj
              · rename_i hjo2
                have hjl : j - off < (act.eval y).cells.size := by omega
                refine ⟨(act.eval y).cells[j - off], (getn _ _).2 ?_, k2 _ (Array.getElem_mem hjl), ?_⟩
                · rw [if_neg (by omega), if_pos (by omega), show (ρ s).o + k * n' + j - ((ρ s).o + k * n' + off) = j - off by omega]
                  exact Array.getElem?_eq_getElem hjl
                · have := k3 (j - off) _ (.pv c) (Array.getElem?_eq_getElem hjl) (by rw [hpg, hj]; rfl)
                  exact this.pv_inv
              · rename_i hjo2
                obtain ⟨u, r1, r2, r3⟩ := g7 j c hj
                have hjn : j < n' := by have := (List.getElem?_eq_some_iff.1 hj).1; omega
                exact ⟨u, (getn _ u).2 (by rw [if_neg (by omega), if_neg (by omega)]; exact r1), r2, r3⟩
      · exact h.elim
    · rename_i E p hb hpc
      · obtain ⟨D, ee, xs, z, rfl, hz, c0, c1, c2, c3, hK⟩ := h
        rw [hpc] at h2
        obtain ⟨k1, k2, k3⟩ := wide_cells h2 c2
        have hpl : (AV.pv p).cells.length = p.cells.length := by cases p <;> simp [AV.cells, PV.cells]
        have hpg : ∀ j : Nat, (AV.pv p).cells[j]? = (p.cells[j]?).map AV.pv := fun j => by
          cases p <;> simp only [AV.cells, PV.cells, List.getElem?_map] <;> cases j <;> rfl
        obtain ⟨hr, hn0, hlk, cs, g1, g2, g3, g4, g5⟩ := hS2.bx s _ hb
        obtain ⟨g6, g7⟩ := g5 i z hz
        have hilt : i < xs.length := (List.getElem?_eq_some_iff.1 hz).1
        have hin : i * n' + n' ≤ (ρ s).cap * n' := mul_lt_of (by omega)
        have hfit : (ρ s).o + i * n' + off + n ≤ cs.size := by omega
        have hX := h1.elt_inv
        have hvs : (act.eval y).cells.size = n := by omega
        have hvl : (act.eval y).cells.toList.length = n := by rw [Array.length_toList]; exact hvs
        have hspl : (ρ s).o + i * n' + off + (act.eval y).cells.toList.length ≤ cs.toList.length := by rw [hvl, Array.length_toList]; exact hfit
        refine ⟨undef, _, .any, _, ρ, m2, .inr ⟨run _ ((ρ s).o + i * n' + off) cs ee hX g1 hvs hfit k2, rfl⟩, hK, ?_, .any _, fun hm => by rw [ho] at hm; cases hm⟩
        have hset : (setAt z off p).cells = splice z.cells off p.cells := by
          unfold setAt
          split
          · rfl
          · rename_i hne
            have hz1 : z.cells = [z] := by cases z <;> first | rfl | (exact (hne _ rfl).elim)
            rw [hz1] at c3 ⊢
            simp only [List.length_singleton] at c3
            have hn1 : n = 1 ∧ off = 0 ∨ n = 0 := by omega
            rcases hn1 with ⟨e1, e2⟩ | e0
            · subst e2
              simp [splice, c1, e1]
            · omega
        refine hS2.setboxk hb hr (Keep.setRow w _ _) ⟨hr, hn0, by rw [List.length_set]; exact hlk, _, setRow_heap w _ cs _ ee _ g1, ?_, by rw [List.length_set]; exact g3, g4, fun k x hk => ?_⟩ (fun k hk => by cases hk)
        · rw [List.size_toArray, splice_len hspl]
          simpa using g2
        · have getn : ∀ q u, ((splice cs.toList ((ρ s).o + i * n' + off) (act.eval y).cells.toList).toArray)[q]? = some u ↔ (if q < (ρ s).o + i * n' + off then cs[q]? else if q < (ρ s).o + i * n' + off + n then (act.eval y).cells[q - ((ρ s).o + i * n' + off)]? else cs[q]?) = some u := fun q u => by
            rw [List.getElem?_toArray, splice_get hspl, hvl]
            simp only [Array.getElem?_toList]
          rcases Nat.decEq k i with hne | rfl
          · rw [List.getElem?_set_ne (fun e => hne e.symm)] at hk
            obtain ⟨q1, q2⟩ := g5 k x hk
            refine ⟨q1, fun j c hj => ?_⟩
            obtain ⟨u, r1, r2, r3⟩ := q2 j c hj
            have hjn : j < n' := by have := (List.getElem?_eq_some_iff.1 hj).1; omega
            refine ⟨u, (getn _ u).2 ?_, r2, r3⟩
            rcases Nat.lt_or_gt_of_ne hne with hki | hki
            · have := mul_lt_of (n := n') hki
              rw [if_pos (by omega)]; exact r1
            · have := mul_lt_of (n := n') hki
              rw [if_neg (by omega), if_neg (by omega)]; exact r1
          · rw [List.getElem?_set_self hilt] at hk
            cases hk
            refine ⟨by rw [hset, splice_len (by omega)]; exact g6, fun j c hj => ?_⟩
            rw [hset, splice_get (by omega)] at hj
            split at hj
            · rename_i hjo
              obtain ⟨u, r1, r2, r3⟩ := g7 j c hj
              exact ⟨u, (getn _ u).2 (by rw [if_pos (by omega)]; exact r1), r2, r3⟩
            · rename_i hjo
              split at hj
              · rename_i hjo2
                have hjl : j - off < (act.eval y).cells.size := by omega
                refine ⟨(act.eval y).cells[j - off], (getn _ _).2 ?_, k2 _ (Array.getElem_mem hjl), ?_⟩
                · rw [if_neg (by omega), if_pos (by omega), show (ρ s).o + k * n' + j - ((ρ s).o + k * n' + off) = j - off by omega]
                  exact Array.getElem?_eq_getElem hjl
                · have := k3 (j - off) _ (.pv c) (Array.getElem?_eq_getElem hjl) (by rw [hpg, hj]; rfl)
                  exact this.pv_inv
              · rename_i hjo2
                obtain ⟨u, r1, r2, r3⟩ := g7 j c hj
                have hjn : j < n' := by have := (List.getElem?_eq_some_iff.1 hj).1; omega
                exact ⟨u, (getn _ u).2 (by rw [if_neg (by omega), if_neg (by omega)]; exact r1), r2, r3⟩
    · exact h.elim
  · exact h.elim
end
end Go.Proofs.Ytohhjnpiiackjaa
/-! An evaluation of Go's code over plain values: indices, lengths, functions, structs, slice literals. Over any program. -/
namespace Go.Proofs.Ytohhjnpiiackjaa
open Go.RowKit
section
variable {G : World → Prop} {P : Program} {N : Nat} {w0 : World} {m0 : Env w0} {pl : List Nat} {σ : AS} {ρ : Site → Loc} {m : Mem} {act : Act} {w : World} {o : Oper} {d : Nat} {K : AV → AS → Prop}
theorem RdA.lst_inv {v : Value} {nn : Bool} {n : Nat} {xs : List PV} (h : RdA ρ m v (.pv (.lst nn n xs))) : ∃ (a : Option Addr) (cap : Nat) (ds : Nat → List Value), v = .slice a xs.length cap ∧ xs.length ≤ cap ∧ cap ≤ 9223372036854775807 ∧ (a = none → cap = 0) ∧ (∀ A, a = some A → PlainA A) ∧
    (∀ (i : Nat) (x : PV), xs[i]? = some x → ∃ b o, a = some ⟨b, o, none⟩ ∧ At m b (o + i * n) (ds i)) ∧ (∀ (i : Nat) (x : PV), xs[i]? = some x → (ds i).length = n ∧ x.cells.length = n ∧ ∀ d ∈ ds i, d.oneCell' = true) ∧
    (∀ (i : Nat) (x : PV) (j : Nat) (d : Value) (c : PV), xs[i]? = some x → (ds i)[j]? = some d → x.cells[j]? = some c → RdP m d c) := by
  cases h.pv_inv with
  | lst a cap _ _ _ ds h0 h1 h2 h3 h4 h5 h6 h7 => exact ⟨a, cap, ds, rfl, h0, h1, h2, h3, h5, h6, h7⟩
theorem RdA.lst_nn {v : Value} {n : Nat} {xs : List PV} (h : RdA ρ m v (.pv (.lst true n xs))) {a : Option Addr} {len cap : Nat} (hv : v = .slice a len cap) : a ≠ none := by
  cases h.pv_inv with
  | lst a' cap' _ _ _ ds h0 h1 h2 h3 h4 h5 h6 h7 => cases hv; exact h4 rfl
theorem RdA.vec_inv {v : Value} {s : Site} {n lo len : Nat} (h : RdA ρ m v (.vec s n lo len)) : (∃ cap, v = .slice (some ⟨(ρ s).b, (ρ s).o + lo * n, none⟩) len cap ∧ len ≤ cap ∧ lo + cap ≤ (ρ s).cap ∧ (ρ s).real = true) ∨ (∃ a, v = .slice a 0 0 ∧ len = 0 ∧ ∀ A, a = some A → PlainA A) := by
  cases h with
  | vec _ _ _ _ cap h0 h1 h2 => exact .inl ⟨cap, rfl, h0, h1, h2⟩
  | vec0 _ _ _ a h => exact .inr ⟨a, rfl, rfl, h⟩
theorem RdA.emp_inv {v : Value} {nl : Option Bool} (h : RdA ρ m v (.pv (.emp nl))) : ∃ a, v = .slice a 0 0 ∧ (∀ A, a = some A → PlainA A) := by
  cases h.pv_inv with
  | emp a _ h0 h1 h2 => exact ⟨a, rfl, h2⟩
theorem snd_ia {t n : Nat} {arr : Option Nat} {e : Nat} {x i : Operand} {x' i' : Opd} (hx : opd x = some x') (hi : opd i = some i') (he : elemT P t = some (e, n, arr)) (ho : o.op = .indexAddr t x i) (h : opWp (.ia n arr x' i') d K σ) (hS : Sat N w0 m0 pl σ ρ m act w) : ResP G P σ ρ m o act w K := by
  simp only [opWp] at h
  have h1 := hS.opd hx
  have h2 := hS.opd hi
  split at h
  · rename_i k z ez
    rw [ez] at h2
    have hz := h2.int_inv
    split at h
    · -- a slice
      have sl : ∀ (b q len cap : Nat) (a : AV), act.eval x = .slice (some ⟨b, q, none⟩) len cap → 0 ≤ z → z < len → RdA ρ m (.pointer (some ⟨b, q + z.toNat * n, none⟩)) a → K a σ → ResP G P σ ρ m o act w K := by
        intro b q len cap a e0 z0 z1 k2 hK
        refine .pure hS ?_ k2 hK
        intro w' hst
        unfold execOp
        simp only [ho, e0, hz, Sem.run_bind, r_ia he b q len cap k z0 z1, Result.andThen_ok]
        rfl
      split at h
      · rename_i nn n' xs ex
        rw [ex] at h1
        obtain ⟨a, cap, ds, hv, l0, l1, l2, l3, l5, l6, l7⟩ := h1.lst_inv
        split at h
        · rename_i z0
          split at h
          · rename_i y hy
            obtain ⟨rfl, hK⟩ := h
            obtain ⟨b, q, rfl, k1⟩ := l5 _ y hy
            obtain ⟨k2, k3, k4⟩ := l6 _ y hy
            have hlt := (List.getElem?_eq_some_iff.1 hy).1
            exact sl b q _ cap _ hv z0 (by omega) (.pv _ _ (.ref b (q + z.toNat * n') y.cells _ k1 (by rw [k2, k3]) k4 (fun j u c q1 q2 => l7 _ y j u c hy q1 q2))) hK
          · exact h.elim
        · exact h.elim
      · rename_i s n' lo len ex
        rw [ex] at h1
        obtain ⟨rfl, z0, z1, hK⟩ := h
        rcases h1.vec_inv with ⟨cap, hv, c0, c1, c2⟩ | ⟨a, hv, c0, _⟩
        · refine sl _ _ _ cap _ hv z0 z1 ?_ hK
          have := RdA.elt (ρ := ρ) (m := m) s n' (lo + z.toNat) 0
          rwa [show (ρ s).o + (lo + z.toNat) * n' + 0 = (ρ s).o + lo * n' + z.toNat * n' by rw [Nat.add_mul]; omega] at this
        · omega
      · exact h.elim
    · rename_i l
      obtain ⟨z0, z1, h⟩ := h
      have ar : ∀ (b q : Nat) (a : AV), act.eval x = .pointer (some ⟨b, q, none⟩) → RdA ρ m (.pointer (some ⟨b, q + z.toNat * n, none⟩)) a → K a σ → ResP G P σ ρ m o act w K := by
        intro b q a e0 k2 hK
        refine .pure hS ?_ k2 hK
        intro w' hst
        unfold execOp
        simp only [ho, e0, hz, Sem.run_bind, r_ia_arr he b q k z0 z1, Result.andThen_ok]
        rfl
      split at h
      · rename_i cs ex
        rw [ex] at h1
        obtain ⟨b, q, ds, hX, k1, k2, k3, k4⟩ := h1.ref_inv
        refine ar b q _ hX ?_ h.2
        refine .pv _ _ (.ref b (q + z.toNat * n) (cs.drop (z.toNat * n)) (ds.drop (z.toNat * n)) (At.of_get (fun j u hj => ?_)) (by simp [k2]) (fun u hu => k3 u (List.mem_of_mem_drop hu)) (fun j u c q1 q2 => ?_))
        · rw [List.getElem?_drop] at hj
          have := k1.get _ u hj
          rwa [show q + z.toNat * n + j = q + (z.toNat * n + j) by omega]
        · rw [List.getElem?_drop] at q1 q2
          exact k4 _ u c q1 q2
      · rename_i s q ex
        rw [ex] at h1
        exact ar _ q _ h1.ptr_inv (.ptr s (q + z.toNat * n)) h
      · rename_i s n' j q ex
        rw [ex] at h1
        refine ar _ _ _ h1.elt_inv ?_ h
        have := RdA.elt (ρ := ρ) (m := m) s n' j (q + z.toNat * n)
        rwa [show (ρ s).o + j * n' + (q + z.toNat * n) = (ρ s).o + j * n' + q + z.toNat * n by omega] at this
      · exact h.elim
  · exact h.elim
theorem snd_len {t n : Nat} {arr : Option Nat} {e : Nat} {c : Call} {x : Operand} {x' : Opd} (hx : opd x = some x') (he : elemT P t = some (e, n, arr)) (hc : c.callee = .builtin .len) (ha : c.args.toList = [x]) (ht : c.argTypes.toList = [t]) (ho : o.op = .call c) (h : opWp (.len arr x') d K σ) (hS : Sat N w0 m0 pl σ ρ m act w) : ResP G P σ ρ m o act w K := by
  simp only [opWp] at h
  have h1 := hS.opd hx
  have hargs : c.args = #[x] := Array.toList_inj.1 (by simpa using ha)
  have htys : c.argTypes = #[t] := Array.toList_inj.1 (by simpa using ht)
  have go : ∀ (L : Nat), (∀ w : World, (Builtin.len_ #[t] o.type #[act.eval x]).run P w = .ok (.int .i64 L) w) → K (.pv (.int .i64 L)) σ → ResP G P σ ρ m o act w K := by
    intro L k hK
    refine .pure hS ?_ (.pv _ _ (.int _ _)) hK
    intro w' hst
    unfold execOp
    simp only [ho]
    simp [resolve, hc, hargs, htys, invoke, builtin, k]
  split at h
  · rename_i l
    exact go l (fun w => r_len_arr he _ _) h
  · split at h
    · rename_i ex
      rw [ex] at h1
      obtain ⟨a, cap, ds, hv, _⟩ := h1.lst_inv
      exact go _ (by intro w; rw [hv]; exact r_len he _ _ _ _) h
    · rename_i ex
      rw [ex] at h1
      obtain ⟨a, hv, _⟩ := h1.emp_inv
      exact go 0 (by intro w; rw [hv]; exact r_len he _ _ _ _) h
    · rename_i s n' lo len ex
      rw [ex] at h1
      rcases h1.vec_inv with ⟨cap, hv, c0, c1, c2⟩ | ⟨a, hv, c0, _⟩
      · exact go _ (by intro w; rw [hv]; exact r_len he _ _ _ _) h
      · subst c0
        exact go 0 (by intro w; rw [hv]; exact r_len he _ _ _ _) h
    · exact h.elim
theorem pvs_get : ∀ {ps : List Opd} {xs : List PV}, σ.pvs ps = some xs → ps.length = xs.length ∧ ∀ (j : Nat) (y : Opd), ps[j]? = some y → ∃ x, xs[j]? = some x ∧ σ.o y = .pv x
  | [], xs, h => by simp [AS.pvs] at h; subst h; exact ⟨rfl, fun j x k => by simp at k⟩
  | a :: r, xs, h => by
    unfold AS.pvs at h
    split at h
    · rename_i x l h1 h2
      cases h
      obtain ⟨k1, k2⟩ := pvs_get h2
      refine ⟨by simp [k1], fun j y k => ?_⟩
      cases j with
      | zero => simp at k; subst k; exact ⟨x, rfl, h1⟩
      | succ j => simpa using k2 j y (by simpa using k)
    · cases h
theorem snd_mkf {f : FuncId} {fs cs : Array Operand} {fs' cs' : List Opd} (hf : opds fs.toList = some fs') (hc : opds cs.toList = some cs') (ho : o.op = .makeFunc (.func f) fs cs) (h : opWp (.mkf f fs' cs') d K σ) (hS : Sat N w0 m0 pl σ ρ m act w) : ResP G P σ ρ m o act w K := by
  simp only [opWp] at h
  obtain ⟨f1, f2⟩ := opds_get hf
  obtain ⟨c1, c2⟩ := opds_get hc
  have hr : ∀ w', G w' → (execOp act.eval o).run P w' = .ok (.value (.func (.func f) (fs.map act.eval) (cs.map act.eval))) w' := by
    intro w' hst
    unfold execOp
    simp only [ho]; rfl
  have hget : ∀ (l : Array Operand) (l' : List Opd), (∀ (j : Nat) (x : Operand), l.toList[j]? = some x → ∃ y : Opd, l'[j]? = some y ∧ opd x = some y) → ∀ (j : Nat) (u : Value), (l.map act.eval)[j]? = some u → ∃ y : Opd, l'[j]? = some y ∧ RdA ρ m u (σ.o y) := by
    intro l l' hl j u hu
    rw [Array.getElem?_map] at hu
    obtain ⟨x, k1, rfl⟩ := Option.map_eq_some_iff.1 hu
    obtain ⟨y, k2, k3⟩ := hl j x (by simpa using k1)
    exact ⟨y, k2, hS.opd k3⟩
  split at h
  · rename_i a b ea eb
    obtain ⟨a1, a2⟩ := pvs_get ea
    obtain ⟨b1, b2⟩ := pvs_get eb
    refine .pure hS hr (.pv _ _ (.fn f _ _ a b (by simp; simpa using f1.trans a1) (by simp; simpa using c1.trans b1) (fun j u c q1 q2 => ?_) (fun j u c q1 q2 => ?_))) h
    · obtain ⟨y, k1, k2⟩ := hget fs fs' f2 j u q1
      obtain ⟨x, k3, k4⟩ := a2 j y k1
      rw [q2] at k3; cases k3
      rw [k4] at k2; exact k2.pv_inv
    · obtain ⟨y, k1, k2⟩ := hget cs cs' c2 j u q1
      obtain ⟨x, k3, k4⟩ := b2 j y k1
      rw [q2] at k3; cases k3
      rw [k4] at k2; exact k2.pv_inv
  · refine .pure hS hr (.fn f _ _ _ _ (by simp; simpa using f1) (by simp; simpa using c1) (fun j u c q1 q2 => ?_) (fun j u c q1 q2 => ?_)) h
    · obtain ⟨y, k1, k2⟩ := hget fs fs' f2 j u q1
      rw [List.getElem?_map, k1] at q2; cases q2; exact k2
    · obtain ⟨y, k1, k2⟩ := hget cs cs' c2 j u q1
      rw [List.getElem?_map, k1] at q2; cases q2; exact k2
/-- Parts of a struct go in. -/
theorem fill_rd {place : Nat → Option (Nat × Nat)} {pls : List (Nat × Nat)} (hpl : ∀ (i : Nat) (p : Nat × Nat), pls[i]? = some p → place i = some p) : ∀ (ps : List (Nat × Operand)) (qs : List (Nat × Nat × Opd)) (cells : Array Value) (l l' : List AV), partsT pls ps = some qs → fillA σ l qs = some l' → Sat N w0 m0 pl σ ρ m act w →
    cells.size = l.length → (∀ u ∈ cells, u.oneCell' = true) → (∀ (j : Nat) (u : Value) (c : AV), cells[j]? = some u → l[j]? = some c → RdA ρ m u c) →
    ∃ r, Instr.fill place cells (ps.map fun p => (p.1, act.eval p.2)) = some r ∧ r.size = l'.length ∧ (∀ u ∈ r, u.oneCell' = true) ∧ ∀ (j : Nat) (u : Value) (c : AV), r[j]? = some u → l'[j]? = some c → RdA ρ m u c
  | [], qs, cells, l, l', hq, hl, hS, h0, h1, h2 => by
    simp [partsT] at hq; subst hq
    simp [fillA] at hl; subst hl
    exact ⟨cells, rfl, h0, h1, h2⟩
  | (i, x) :: r, qs, cells, l, l', hq, hl, hS, h0, h1, h2 => by
    unfold partsT at hq
    split at hq
    · rename_i off n y l0 e1 e2 e3
      cases hq
      unfold fillA at hl
      split at hl
      · rename_i hc
        obtain ⟨c1, c2, c3⟩ := hc
        obtain ⟨k1, k2, k3⟩ := wide_cells (hS.opd e2) c3
        obtain ⟨g1, g2⟩ := Great.foldl_set off (act.eval x).cells.toList 0 cells
        have hfold : ((act.eval x).cells.zipIdx.foldl (fun cs (p : Value × Nat) => cs.setIfInBounds (off + p.2) p.1) cells) = (((act.eval x).cells.toList.zipIdx 0).foldl (fun cs (p : Value × Nat) => cs.setIfInBounds (off + p.2) p.1) cells) := by
          rw [← Array.foldl_toList, Array.toList_zipIdx]
        generalize hC : (((act.eval x).cells.toList.zipIdx 0).foldl (fun cs (p : Value × Nat) => cs.setIfInBounds (off + p.2) p.1) cells) = C at *
        have gC : ∀ j, C[j]? = if off ≤ j ∧ j < off + n then (act.eval x).cells[j - off]? else cells[j]? := fun j => by
          rw [g2 j, Array.length_toList, k1, c1, Nat.add_zero, Array.getElem?_toList]
          by_cases hj : off ≤ j ∧ j < off + n
          · rw [if_pos hj, if_pos ⟨hj.1, hj.2, by omega⟩]
          · rw [if_neg hj, if_neg (fun e => hj ⟨e.1, e.2.1⟩)]
        obtain ⟨r', q1, q2, q3, q4⟩ := fill_rd hpl r l0 C _ l' e3 hl hS (by rw [splice_len (by omega)]; omega) (fun u hu => by
          obtain ⟨j, hj⟩ := Array.mem_iff_getElem?.1 hu
          rw [gC j] at hj
          split at hj
          · exact k2 u (Array.mem_of_getElem? hj)
          · exact h1 u (Array.mem_of_getElem? hj)) (fun j u c a1 a2 => by
          rw [gC j] at a1
          rw [splice_get (by omega)] at a2
          split at a1
          · rename_i hj
            rw [if_neg (by omega), if_pos (by omega)] at a2
            exact k3 _ u c a1 a2
          · rename_i hj
            by_cases hj2 : j < off
            · rw [if_pos hj2] at a2; exact h2 j u c a1 a2
            · rw [if_neg hj2, if_neg (by omega)] at a2; exact h2 j u c a1 a2)
        refine ⟨r', ?_, q2, q3, q4⟩
        rw [List.map_cons]
        unfold Instr.fill
        simp only [hpl _ _ e1]
        rw [if_neg (by simp; omega), hfold]
        exact q1
      · cases hl
    · cases hq
end
end Go.Proofs.Ytohhjnpiiackjaa
/-! An evaluation of Go's code over plain values: struct literals, slice literals, parts of structs, make, slices of slices. Over any program. -/
namespace Go.Proofs.Ytohhjnpiiackjaa
open Go.RowKit
section
variable {G : World → Prop} {P : Program} {N : Nat} {w0 : World} {m0 : Env w0} {pl : List Nat} {σ : AS} {ρ : Site → Loc} {m : Mem} {act : Act} {w : World} {o : Oper} {d : Nat} {K : AV → AS → Prop}
theorem zeroT_info {t : TypeId} {z : Value} (h : zeroT P t = some z) : ∃ i, P.info? t = some i ∧ i.zero = some z := by
  unfold zeroT at h
  cases hx : P.info? t with
  | none => simp [hx] at h
  | some i => exact ⟨i, rfl, by simpa [hx] using h⟩
theorem sizeT_info {t : TypeId} {n : Nat} (h : sizeT P t = some n) : ∃ i, P.info? t = some i ∧ i.size = n := by
  unfold sizeT at h
  cases hx : P.info? t with
  | none => simp [hx] at h
  | some i => exact ⟨i, rfl, by simpa [hx] using h⟩
theorem snd_build {t : Nat} {ps : Array (Nat × Operand)} {z : PV} {pls : List (Nat × Nat)} {qs : List (Nat × Nat × Opd)} (hz : zeroPV P t = some z) (hp : placesT P t = some pls) (hq : partsT pls ps.toList = some qs) (ho : o.op = .build t ps) (h : opWp (.build z qs) d K σ) (hS : Sat N w0 m0 pl σ ρ m act w) : ResP G P σ ρ m o act w K := by
  simp only [opWp] at h
  split at h
  · rename_i l hl
    unfold zeroPV at hz
    cases hv : zeroT P t with
    | none => simp [hv] at hz
    | some v =>
      simp only [hv, Option.bind_some] at hz
      obtain ⟨k1, k2, k3⟩ := pvz_cells hz m
      obtain ⟨it, hi1, hi2⟩ := zeroT_info hv
      have fin : ∀ place : Nat → Option (Nat × Nat), (∀ (i : Nat) (p : Nat × Nat), pls[i]? = some p → place i = some p) → (∀ r, Instr.fill place v.cells (ps.toList.map fun p => (p.1, act.eval p.2)) = some r → P.built t (ps.map fun (i, x) => (i, act.eval x)).toList = some r) → ResP G P σ ρ m o act w K := by
        intro place hpl hb
        obtain ⟨r, q1, q2, q3, q4⟩ := fill_rd hpl ps.toList qs v.cells _ l hq hl hS (by simpa using k1) k2 (fun j u c a1 a2 => by
          rw [List.getElem?_map] at a2
          obtain ⟨x, a3, rfl⟩ := Option.map_eq_some_iff.1 a2
          exact .pv _ _ (k3 j u x a1 a3))
        refine .pure hS (v := .agg r) ?_ (ofCells_rd q2 q3 q4) h
        intro w' hst
        unfold execOp
        simp only [ho, Sem.run_bind]
        rw [run_build w' t _ r (hb r q1)]
        rfl
      unfold placesT at hp
      split at hp
      · rename_i fs hu
        have hp' : fs.toList.mapM (fun f => (P.info? f.type).map fun i => (f.offset, i.size)) = some pls := by
          rw [← hp]
          congr 1
          funext f
          unfold sizeT
          cases P.info? f.type <;> rfl
        refine fin (pls.toArray[·]?) (fun i p e => by simpa using e) (fun r hr => ?_)
        unfold Program.built
        simp only [hi1, hu, hi2, hp', Array.toList_map]
        exact hr
      · rename_i l' e hu
        cases hs : sizeT P e with
        | none => simp [hs] at hp
        | some n =>
          simp only [hs, Option.map_some, Option.some.injEq] at hp
          obtain ⟨ie, hie1, hie2⟩ := sizeT_info hs
          refine fin (fun i => some (i * n, n)) (fun i p e => ?_) (fun r hr => ?_)
          · rw [← hp, List.getElem?_map] at e
            obtain ⟨j, e1, rfl⟩ := Option.map_eq_some_iff.1 e
            have : j = i := by
              rw [List.getElem?_range] at e1
              · cases e1; rfl
              · have := (List.getElem?_eq_some_iff.1 e1).1; simpa using this
            rw [this]
          · unfold Program.built
            simp only [hi1, hu, hi2, hie1, hie2, Array.toList_map]
            exact hr
      · cases hp
  · exact h.elim
theorem snd_fld {t f : Nat} {fs : Array Field} {fl : Field} {n : Nat} {x : Operand} {x' : Opd} (hx : opd x = some x') (hu : P.underlying t = some (.struct fs)) (hf : fs[f]? = some fl) (hs : sizeT P fl.type = some n) (hu2 : (P.underlying fl.type).isSome = true) (ho : o.op = .field t x f) (h : opWp (.fld (rowT P fl.type) fl.offset n x') d K σ) (hS : Sat N w0 m0 pl σ ρ m act w) : ResP G P σ ρ m o act w K := by
  obtain ⟨dd, hd⟩ := Option.isSome_iff_exists.1 hu2
  simp only [opWp] at h
  have h1 := hS.opd hx
  have wide : (σ.o x').wide = true → ∃ vs, act.eval x = .agg vs := by
    intro hw
    generalize σ.o x' = a at h1 hw
    generalize act.eval x = v at h1
    cases h1 with
    | agg vs => exact ⟨vs, rfl⟩
    | pv v x h2 => cases h2 with
      | agg vs => exact ⟨vs, rfl⟩
      | _ => cases hw
    | _ => cases hw
  have run : ∀ vs, act.eval x = .agg vs → ∀ v, (∀ w : World, (part fl.type vs fl.offset).run P w = .ok v w) → ∀ w', G w' → (execOp act.eval o).run P w' = .ok (.value v) w' := by
    intro vs e v k
    intro w' hst
    unfold execOp
    simp only [ho, e, Sem.run_bind]
    simp [Instr.field, run_underlying hu, hf, asAgg, k]
  split at h
  · rename_i hr
    obtain ⟨c1, c2, hK⟩ := h
    obtain ⟨vs, hv⟩ := wide c2
    obtain ⟨k1, k2, k3⟩ := wide_cells h1 (.inl c2)
    rw [hv] at k1 k2 k3
    have hsz : (vs.extract fl.offset (fl.offset + n)).size = n := by simp [Value.cells] at k1; simp; omega
    have hget : ∀ j, (vs.extract fl.offset (fl.offset + n))[j]? = if j < n then vs[fl.offset + j]? else none := fun j => by
      rw [Array.getElem?_extract]
      simp only [Value.cells] at k1
      by_cases hj : j < n
      · rw [if_pos (by omega), if_pos hj]
      · rw [if_neg (by omega), if_neg hj]
    refine .pure hS (v := .agg (vs.extract fl.offset (fl.offset + n))) (run vs hv _ ?_) (ofCells_rd (by rw [hsz, List.length_take, List.length_drop]; omega) (fun u hu' => ?_) (fun j u c q1 q2 => ?_)) hK
    · intro w
      simp only [part, Sem.run_bind, run_isAgg hd, Result.andThen_ok, hr, if_true, run_sizeOf hs]
      rfl
    · obtain ⟨j, hj⟩ := Array.mem_iff_getElem?.1 hu'
      rw [hget] at hj
      split at hj
      · exact k2 u (Array.mem_of_getElem? hj)
      · cases hj
    · rw [hget] at q1
      rw [List.getElem?_take] at q2
      split at q1
      · rename_i hj
        rw [if_pos hj, List.getElem?_drop] at q2
        exact k3 _ u c q1 q2
      · cases q1
  · rename_i hr
    split at h
    · rename_i a ha
      obtain ⟨c2, hK⟩ := h
      obtain ⟨vs, hv⟩ := wide c2
      obtain ⟨k1, k2, k3⟩ := wide_cells h1 (.inl c2)
      rw [hv] at k1 k2 k3
      have hlt : fl.offset < vs.size := by
        have := (List.getElem?_eq_some_iff.1 ha).1
        simp [Value.cells] at k1; omega
      refine .pure hS (v := vs[fl.offset]) (run vs hv _ ?_) (k3 _ _ a (Array.getElem?_eq_getElem hlt) ha) hK
      intro w
      simp only [part, Sem.run_bind, run_isAgg hd, Result.andThen_ok, hr, if_false, Bool.false_eq_true]
      simp [Array.getElem?_eq_getElem hlt]
    · exact h.elim
theorem look_set {s s' : Site} {b b' : Box} (h : (σ.set s b).b s' = some b') : (s' = s ∧ b' = b) ∨ (s' ≠ s ∧ σ.b s' = some b') := by
  rw [AS.b_set] at h
  split at h
  · rename_i e; cases h; exact .inl ⟨e, rfl⟩
  · rename_i e; exact .inr ⟨e, h⟩
/-- A box read in another way. -/
theorem Sat.rebox (h : Sat N w0 m0 pl σ ρ m act w) {s : Site} {b box : Box} (hs : σ.b s = some b) (hb : RdB ρ m w s box) (hq : ∀ k, blk ρ w s box k → blk ρ w s b k) : Sat N w0 m0 pl (σ.set s box) ρ m act w := by
  have g : ∀ s' b' k, (σ.set s box).b s' = some b' → blk ρ w s' b' k → ∃ c, σ.b s' = some c ∧ blk ρ w s' c k := fun s' b' k h1 h2 => by
    rcases look_set h1 with ⟨rfl, rfl⟩ | ⟨_, h1⟩
    · exact ⟨b, hs, hq k h2⟩
    · exact ⟨b', h1, h2⟩
  refine ⟨h.nod, h.sz, h.tm, fun s' b' k => ?_, fun s1 s2 b1 b2 k k1 k2 r1 r2 => ?_, h.mem, fun s' b' k k1 r1 => ?_, fun s' b' k k1 r1 => ?_, h.keep, h.base, h.fro, h.par⟩
  · rcases look_set k with ⟨rfl, rfl⟩ | ⟨_, k⟩
    · exact hb
    · exact h.bx s' b' k
  · obtain ⟨c1, g1, q1⟩ := g s1 b1 k k1 r1
    obtain ⟨c2, g2, q2⟩ := g s2 b2 k k2 r2
    exact h.injk s1 s2 c1 c2 k g1 g2 q1 q2
  · obtain ⟨c1, g1, q1⟩ := g s' b' k k1 r1
    exact h.offk s' c1 k g1 q1
  · obtain ⟨c1, g1, q1⟩ := g s' b' k k1 r1
    exact h.ownk s' c1 k g1 q1
theorem Sat.congr {σ' : AS} (h : Sat N w0 m0 pl σ ρ m act w) (ht : ∀ t, σ'.t t = σ.t t) (hb : ∀ s, σ'.b s = σ.b s) : Sat N w0 m0 pl σ' ρ m act w :=
  ⟨h.nod, h.sz, fun t a k => h.tm t a (ht t ▸ k), fun s b k => h.bx s b (hb s ▸ k), fun s s' b b' k k1 k2 => h.injk s s' b b' k (hb s ▸ k1) (hb s' ▸ k2), h.mem, fun s b k k1 => h.offk s b k (hb s ▸ k1), fun s b k k1 => h.ownk s b k (hb s ▸ k1), h.keep, h.base, h.fro, h.par⟩
theorem NoD.od {d : Nat} {τ : AS} (h : NoD d τ) (y : Opd) : (τ.o y).has d = false := by
  cases y with
  | c x => rfl
  | t k =>
    show ((τ.t k).getD .any).has d = false
    cases hk : τ.t k with
    | none => rfl
    | some a => exact h.t k a hk
theorem snd_bslice {t e n len : Nat} {ps : Array (Nat × Operand)} {qs : List Opd} (he : elemT P t = some (e, n, none)) (hq : opds (ps.toList.map (·.2)) = some qs) (hi : ps.toList.map (·.1) = List.range len) (hn : 0 < n) (hsm : len * n ≤ 2 ^ 24) (hz : (zeroT P e).isSome = true) (ho : o.op = .buildSlice t len ps) (h : opWp (.bslice e n qs) d K σ) (hS : Sat N w0 m0 pl σ ρ m act w) : Res P N w0 m0 pl o act w K := by
  simp only [opWp] at h
  obtain ⟨hu, hs⟩ := elemT_slice he
  obtain ⟨ie, hie1, hie2⟩ := sizeT_info hs
  obtain ⟨z, hz⟩ := Option.isSome_iff_exists.1 hz
  obtain ⟨i2, hz1, hz2⟩ := zeroT_info hz
  rw [hie1] at hz1; cases hz1
  obtain ⟨q1, q2⟩ := opds_get hq
  rw [List.length_map] at q1
  have hlen : ps.toList.length = len := by
    have := congrArg List.length hi
    simpa using this
  obtain ⟨m', hm', hF⟩ := Sat.frzs qs hS
  split at h
  · rename_i hp
    obtain ⟨p1, _⟩ := pvs_get hp
    have h0 : len = 0 := by rw [List.length_nil] at p1; omega
    subst h0
    have hps : ps = #[] := by
      have : ps.toList = [] := List.eq_nil_of_length_eq_zero hlen
      exact Array.toList_inj.1 (by simpa using this)
    have hr : (execOp act.eval o).run P w = .ok (.value (.slice (some ⟨w.heap.size, 0, none⟩) 0 0)) (w.alloc (.cells #[] e)) := by
      unfold execOp
      simp only [ho, hps, Sem.run_bind]
      simp [Instr.buildSlice, run_underlying hu, run_sizeOf hs, Instr.fill, newRow]
      rw [show Array.map (fun _ => (default : Value)) (Array.range 0) = #[] from Array.eq_empty_of_size_eq_zero (by simp)]
    exact ⟨_, _, _, _, ρ, m, .inl hr, h, hS.ext (Ext.al w _), .pv _ _ (.emp _ _ (fun e => (by cases e)) (fun _ => by simp) (fun A hA => by cases hA; rfl)), fun _ => Ext.al _ _⟩
  · rename_i xs hp hxs
    obtain ⟨hx, hK⟩ := h
    obtain ⟨p1, p2⟩ := pvs_get hxs
    have hxl : xs.length = len := by omega
    -- the parts' values
    have hval : ∀ (j : Nat) (p : Nat × Operand), ps.toList[j]? = some p → p.1 = j ∧ ∃ x, xs[j]? = some x ∧ RdP m' (act.eval p.2) x := fun j p hj => by
      have hlt := (List.getElem?_eq_some_iff.1 hj).1
      have h1 : (ps.toList.map (·.1))[j]? = some p.1 := by rw [List.getElem?_map, hj]; rfl
      rw [hi, List.getElem?_range (by omega)] at h1
      obtain ⟨y, k1, k2⟩ := q2 j p.2 (by rw [List.getElem?_map, hj]; rfl)
      obtain ⟨x, k3, k4⟩ := p2 j y k1
      have k5 := hF.opd k2
      rw [k4] at k5
      exact ⟨(Option.some.inj h1).symm, x, k3, k5.pv_inv⟩
    let vs : List Value := ps.toList.map fun p => act.eval p.2
    have hvs : ∀ (j : Nat) (v : Value), vs[j]? = some v → ∃ x, xs[j]? = some x ∧ RdP m' v x := fun j v hj => by
      rw [List.getElem?_map] at hj
      obtain ⟨p, k1, rfl⟩ := Option.map_eq_some_iff.1 hj
      exact (hval j p k1).2
    have hpart : (ps.map fun (i, x) => (i, act.eval x)).toList = (vs.zipIdx 0).map fun x => (x.2, x.1) := by
      apply List.ext_getElem?
      intro j
      rw [Array.toList_map, List.getElem?_map, List.getElem?_map, List.getElem?_zipIdx, List.getElem?_map]
      cases hj : ps.toList[j]? with
      | none => simp
      | some p => simp [(hval j p hj).1]
    have hvn : ∀ v ∈ vs, v.cells.size = n ∧ (∀ u ∈ v.cells, u.oneCell' = true) := fun v hv => by
      obtain ⟨j, hj⟩ := List.mem_iff_getElem?.1 hv
      obtain ⟨x, k1, k2⟩ := hvs j v hj
      obtain ⟨k3, k4⟩ := hx x (List.mem_of_getElem? k1)
      obtain ⟨k5, k6, k7⟩ := wide_cells (RdA.pv (ρ := ρ) v x k2) k4
      have : (AV.pv x).cells.length = x.cells.length := by cases x <;> simp [AV.cells, PV.cells]
      exact ⟨by omega, k6⟩
    have hlv : vs.length = len := by simp [vs]; simpa using hlen
    have hpos : ¬ len * n = 0 := by
      intro e
      rcases Nat.mul_eq_zero.1 e with e | e
      · rw [e] at hxl
        have : xs = [] := List.eq_nil_of_length_eq_zero hxl
        exact hp this
      · omega
    obtain ⟨r, f1, f2, f3⟩ := Great.fill_dense (s := n) hn vs 0 ((Array.range (len * n)).map (z.cells[· % z.cells.size]!)) (fun v hv => (hvn v hv).1) (by simp [hlv])
    have f2' : r.size = len * n := by rw [f2]; simp
    have hr : (execOp act.eval o).run P w = .ok (.value (.slice (some ⟨w.heap.size, 0, none⟩) len len)) (w.alloc (.cells r e)) := by
      unfold execOp
      simp only [ho, Sem.run_bind]
      rw [run_buildSlice w t e len _ r ie z hu hie1 hz2 (by rw [hie2]; omega) (by rw [hie2]; exact hpos) (by rw [hie2, hpart]; exact f1)]
      rfl
    have hP := hF.purge d
    have hul := upd_self ρ (.loc d 0) ⟨w.heap.size, 0, len, true⟩
    refine ⟨_, _, _, _, _, m', .inl hr, hK, hP.new d 0 (NoD.purge d _) r e len ?_, ?_, fun _ => Ext.al _ _⟩
    · refine ⟨hn, .inr ⟨by rw [hul], r, by rw [hul]; exact heap_alloc_new w _, by rw [hul]; simp [f2'], by rw [hul]; simp; omega, by
        rw [hul]
        have : len ≤ len * n := Nat.le_mul_of_pos_right _ hn
        simp only [maxLen]; omega, fun i x hi => ?_⟩⟩
      obtain ⟨k3, k4⟩ := hx x (List.mem_of_getElem? hi)
      refine ⟨k3, fun j c hj => ?_⟩
      have hjn : j < n := by have := (List.getElem?_eq_some_iff.1 hj).1; omega
      have hil : i < len := by have := (List.getElem?_eq_some_iff.1 hi).1; omega
      have hiv : i < vs.length := by omega
      obtain ⟨x', k1, k2⟩ := hvs i _ (List.getElem?_eq_getElem hiv)
      rw [hi] at k1; cases k1
      obtain ⟨k5, k6, k7⟩ := wide_cells (RdA.pv (ρ := ρ) _ x k2) k4
      have k8 := (hvn _ (List.getElem_mem hiv)).1
      have hjv : j < vs[i].cells.size := by omega
      have hdiv : (i * n + j) / n = i := by rw [Nat.add_comm, Nat.add_mul_div_right _ _ hn, Nat.div_eq_of_lt hjn, Nat.zero_add]
      have hmod : (i * n + j) % n = j := by rw [Nat.add_comm, Nat.add_mul_mod_self_right, Nat.mod_eq_of_lt hjn]
      refine ⟨vs[i].cells[j], ?_, k6 _ (Array.getElem_mem hjv), ?_⟩
      · rw [hul]
        have hlt : i * n + j < (0 + vs.length) * n := by
          have := mul_lt_of (n := n) hil
          rw [Nat.zero_add, hlv]; omega
        show r[0 + i * n + j]? = _
        rw [Nat.zero_add, f3, if_pos ⟨by omega, hlt⟩, hdiv, hmod, Nat.sub_zero, List.getElem?_eq_getElem hiv, Option.bind_some, Array.getElem?_eq_getElem hjv]
      · have := k7 j _ (.pv c) (Array.getElem?_eq_getElem hjv) (by
          cases x <;> simp only [AV.cells, PV.cells, List.getElem?_map] at hj ⊢
          all_goals (first | (rw [hj]; rfl) | (cases j <;> simp at hj ⊢; exact hj)))
        exact this.pv_inv
    · rw [hxl]
      have := RdA.vec (ρ := upd ρ (.loc d 0) ⟨w.heap.size, 0, len, true⟩) (m := m') (.loc d 0) n 0 len len (Nat.le_refl _) (by rw [hul]; simp) (by rw [hul])
      rw [hul] at this
      simpa using this
  · obtain ⟨⟨rfl, hpos, hone⟩, hK⟩ := h
    have hP := hS.purge d
    rw [Nat.mul_one] at hsm
    have hlq : qs.length = len := by omega
    let vs : List Value := ps.toList.map fun p => act.eval p.2
    have hlv : vs.length = len := by simp [vs]; simpa using hlen
    have hvs : ∀ (j : Nat) (v : Value), vs[j]? = some v → ∃ y, qs[j]? = some y ∧ RdA ρ m v ((σ.purge d).o y) ∧ v.oneCell' = true := fun j v hj => by
      rw [List.getElem?_map] at hj
      obtain ⟨p, k1, rfl⟩ := Option.map_eq_some_iff.1 hj
      obtain ⟨y, k2, k3⟩ := q2 j p.2 (by rw [List.getElem?_map, k1]; rfl)
      have k4 := hP.opd k3
      exact ⟨y, k2, k4, k4.one (hone y (List.mem_of_getElem? k2))⟩
    have hpart : (ps.map fun (i, x) => (i, act.eval x)).toList = (vs.zipIdx 0).map fun x => (x.2, x.1) := by
      apply List.ext_getElem?
      intro j
      rw [Array.toList_map, List.getElem?_map, List.getElem?_map, List.getElem?_zipIdx, List.getElem?_map]
      cases hj : ps.toList[j]? with
      | none => simp
      | some p =>
        have hlt := (List.getElem?_eq_some_iff.1 hj).1
        have h1 : (ps.toList.map (·.1))[j]? = some p.1 := by rw [List.getElem?_map, hj]; rfl
        rw [hi, List.getElem?_range (by omega)] at h1
        simp [(Option.some.inj h1).symm]
    have hcell : ∀ v ∈ vs, v.cells = #[v] := fun v hv => by
      obtain ⟨j, hj⟩ := List.mem_iff_getElem?.1 hv
      obtain ⟨y, _, _, k3⟩ := hvs j v hj
      cases v <;> first | rfl | cases k3
    obtain ⟨r, f1, f2, f3⟩ := Great.fill_dense (s := 1) hn vs 0 ((Array.range (len * 1)).map (z.cells[· % z.cells.size]!)) (fun v hv => by rw [hcell v hv]; rfl) (by simp [hlv])
    have f2' : r.size = len := by rw [f2]; simp
    have hr : (execOp act.eval o).run P w = .ok (.value (.slice (some ⟨w.heap.size, 0, none⟩) len len)) (w.alloc (.cells r e)) := by
      unfold execOp
      simp only [ho, Sem.run_bind]
      rw [run_buildSlice w t e len _ r ie z hu hie1 hz2 (by rw [hie2]; omega) (by rw [hie2]; omega) (by rw [hie2, hpart]; exact f1)]
      rfl
    have hget : ∀ i, i < len → ∃ v y, r[i]? = some v ∧ qs[i]? = some y ∧ RdA ρ m v ((σ.purge d).o y) ∧ v.oneCell' = true := fun i hil => by
      have hiv : i < vs.length := by omega
      obtain ⟨y, k1, k2, k3⟩ := hvs i _ (List.getElem?_eq_getElem hiv)
      refine ⟨vs[i], y, ?_, k1, k2, k3⟩
      rw [f3, if_pos ⟨by omega, by omega⟩, Nat.div_one, Nat.mod_one, Nat.sub_zero, List.getElem?_eq_getElem hiv, Option.bind_some, hcell _ (List.getElem_mem hiv)]
      rfl
    have hul := upd_self ρ (.loc d 0) ⟨w.heap.size, 0, len, true⟩
    have hρ := upd_loc ρ d 0 ⟨w.heap.size, 0, len, true⟩
    have hNd := NoD.purge d σ
    have hrd : ∀ (i : Nat) (y : Opd) (v : Value), qs[i]? = some y → RdA ρ m v ((σ.purge d).o y) → RdA (upd ρ (.loc d 0) ⟨w.heap.size, 0, len, true⟩) m v ((σ.purge d).o y) := fun i y v _ k => k.mono (Le.refl m) hρ (hNd.od y)
    have hnone : ∀ W l i k, insAt W l (qs.map fun y => RowE.av ((σ.purge d).o y)) i ≠ some k := fun W l i k hk => by
      obtain ⟨ys, cs2, T, t', A, le, cap, k1, _⟩ := insAt_inv hk
      rw [List.getElem?_map] at k1
      obtain ⟨_, _, k5⟩ := Option.map_eq_some_iff.1 k1
      cases k5
    have hB1 : RdB (upd ρ (.loc d 0) ⟨w.heap.size, 0, len, true⟩) m (w.alloc (.cells r e)) (.loc d 0) (.cells (qs.map fun y => (σ.purge d).o y)) := by
      refine ⟨by rw [hul], r, e, by rw [hul]; exact heap_alloc_new w _, by rw [List.length_map, f2', hlq], fun i c a k1 k2 => ?_⟩
      rw [List.getElem?_map] at k2
      obtain ⟨y, k3, k4⟩ := Option.map_eq_some_iff.1 k2
      cases k4
      obtain ⟨v, y', g1, g2, g3, g4⟩ := hget i (by have := (List.getElem?_eq_some_iff.1 k3).1; omega)
      rw [k3] at g2; cases g2
      rw [k1] at g1; cases g1
      exact ⟨g4, hrd i y c k3 g3⟩
    have hB2 : RdB (upd ρ (.loc d 0) ⟨w.heap.size, 0, len, true⟩) m (w.alloc (.cells r e)) (.loc d 0) (.rows e e 1 (qs.map fun y => .av ((σ.purge d).o y))) := by
      refine ⟨by omega, .inr ⟨by rw [hul], r, by rw [hul]; exact heap_alloc_new w _, by rw [hul]; simp [f2'], by rw [hul]; simp [hlq], by rw [hul]; simp only [maxLen]; omega, fun i a k => ?_, fun i ys k => ?_, fun i j k h1 => absurd h1 (hnone _ _ i k), fun i k h1 => absurd h1 (hnone _ _ i k)⟩⟩
      · rw [List.getElem?_map] at k
        obtain ⟨y, k1, k2⟩ := Option.map_eq_some_iff.1 k
        cases k2
        obtain ⟨v, y', g1, g2, g3, g4⟩ := hget i (by have := (List.getElem?_eq_some_iff.1 k1).1; omega)
        rw [k1] at g2; cases g2
        exact ⟨v, by rw [hul]; simpa using g1, g4, hrd i y v k1 g3⟩
      · rw [List.getElem?_map] at k
        obtain ⟨_, _, k2⟩ := Option.map_eq_some_iff.1 k
        cases k2
    have hnew := hP.new d 0 hNd r e len hB1
    have hfin := hnew.rebox (box := .rows e e 1 (qs.map fun y => .av ((σ.purge d).o y))) (by rw [AS.b_add, if_pos rfl]) hB2 (fun k hk => by
      rcases hk with hk | hk
      · exact .inl hk
      · obtain ⟨i, hi⟩ := mem_ins.1 hk
        exact absurd hi (hnone _ _ i k))
    refine ⟨_, _, _, _, upd ρ (.loc d 0) ⟨w.heap.size, 0, len, true⟩, m, .inl hr, hK, ?_, ?_, fun _ => Ext.al _ _⟩
    · refine hfin.congr (fun _ => rfl) fun s => ?_
      rw [AS.b_set, AS.b_add, AS.b_add]
      split <;> rfl
    · rw [hlq]
      have := RdA.vec (ρ := upd ρ (.loc d 0) ⟨w.heap.size, 0, len, true⟩) (m := m) (.loc d 0) 1 0 len len (Nat.le_refl _) (by rw [hul]; simp) (by rw [hul])
      rw [hul] at this
      simpa using this
end
end Go.Proofs.Ytohhjnpiiackjaa
