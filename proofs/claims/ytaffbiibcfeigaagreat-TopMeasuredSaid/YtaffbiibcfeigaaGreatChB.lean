/- Contracts of layer 2 (chain): a list that is sorted. (Several texts in one.) -/
import Derived.Test.YtaffbiibcfeigaaGreatCodeB
import Derived.Test.YtaffbiibcfeigaaGreatBaseD
import Derived.Test.YtaffbiibcfeigaaGreatShelf
import Derived.Test.YtaffbiibcfeigaaGreatChA
import Derived.Test.YtaffbiibcfeigaaGreatProg
set_option linter.unusedVariables false
set_option linter.unusedSimpArgs false
/-! Contracts of layer 2 (chain): a list that is sorted. -/
namespace Go.Proofs.YtaffbiibcfeigaaGreat
open Go.RowKit Go.Sort
attribute [local simp] Box.purge Site.isLoc
set_option maxRecDepth 10000
set_option linter.unusedSimpArgs false
def intP (n : Int) : PV := .int .i64 n
/-- In rising order. -/
def insI (x : Int) : List Int → List Int
  | [] => [x]
  | y :: r => if x ≤ y then x :: y :: r else y :: insI x r
def sortI : List Int → List Int
  | [] => []
  | x :: r => insI x (sortI r)
theorem insI_perm (x : Int) : ∀ l : List Int, (insI x l).Perm (x :: l)
  | [] => .refl _
  | y :: r => by
    unfold insI
    split
    · exact .refl _
    · exact ((insI_perm x r).cons y).trans (.swap x y r)
theorem sortI_perm : ∀ l : List Int, (sortI l).Perm l
  | [] => .refl _
  | x :: r => (insI_perm x _).trans ((sortI_perm r).cons x)
theorem insI_sorted (x : Int) : ∀ l : List Int, l.Pairwise (· ≤ ·) → (insI x l).Pairwise (· ≤ ·)
  | [], _ => by simp [insI]
  | y :: r, h => by
    unfold insI
    split
    · rename_i hxy
      refine List.pairwise_cons.2 ⟨fun z hz => ?_, h⟩
      rcases List.mem_cons.1 hz with rfl | hz
      · exact hxy
      · exact Int.le_trans hxy ((List.pairwise_cons.1 h).1 z hz)
    · rename_i hxy
      refine List.pairwise_cons.2 ⟨fun z hz => ?_, insI_sorted x r (List.pairwise_cons.1 h).2⟩
      rcases List.mem_cons.1 ((insI_perm x r).mem_iff.1 hz) with rfl | hz
      · omega
      · exact (List.pairwise_cons.1 h).1 z hz
theorem sortI_sorted : ∀ l : List Int, (sortI l).Pairwise (· ≤ ·)
  | [] => .nil
  | x :: r => insI_sorted x _ (sortI_sorted r)
/-- Two lists in rising order with the same elements. -/
theorem sorted_eq : ∀ {a b : List Int}, a.Perm b → a.Pairwise (· ≤ ·) → b.Pairwise (· ≤ ·) → a = b
  | [], b, h, _, _ => by simpa using h.symm
  | x :: a, [], h, _, _ => by simp at h
  | x :: a, y :: b, h, ha, hb => by
    have e : x = y := by
      have h1 : x ∈ y :: b := h.mem_iff.1 (by simp)
      have h2 : y ∈ x :: a := h.mem_iff.2 (by simp)
      rcases List.mem_cons.1 h1 with rfl | h1
      · rfl
      rcases List.mem_cons.1 h2 with rfl | h2
      · rfl
      have k1 := (List.pairwise_cons.1 ha).1 y h2
      have k2 := (List.pairwise_cons.1 hb).1 x h1
      omega
    subst e
    rw [sorted_eq h.cons_inv (List.pairwise_cons.1 ha).2 (List.pairwise_cons.1 hb).2]
theorem sortI_len (l : List Int) : (sortI l).length = l.length := (sortI_perm l).length_eq
theorem merge_sortI (l : List Int) : (l.mergeSort fun x y => decide (x ≤ y)) = sortI l := by
  refine sorted_eq ((List.mergeSort_perm l _).trans (sortI_perm l).symm) ?_ (sortI_sorted l)
  have := List.pairwise_mergeSort (le := fun x y : Int => decide (x ≤ y)) (fun a b c h1 h2 => by simp at *; omega) (fun a b => by simp; omega) l
  exact this.imp (fun h => by simpa using h)
theorem holds_at {w : World} {g o : Nat} {cur : Array Value} {e : TypeId} {ss : List Int} (hb : w.heap[g]? = some (.cells cur e (0, 0))) (ht : ∀ (i : Nat) (x : Int), ss[i]? = some x → cur[o + i]? = some (.int .i64 x)) : Holds (Value.int .i64) w g o ss.toArray := by
  intro j hj
  have hj' : j < ss.length := by simpa using hj
  refine ⟨?_, by simp [World.frozen?, hb]⟩
  have h1 := ht j _ (List.getElem?_eq_getElem hj')
  simp only [World.cell?, hb]
  simp only [Option.isSome_none, Bool.false_eq_true, if_false]
  rw [h1]
  simp [hj']
theorem heap_sorted_at {w : World} {g n o : Nat} {os : Array Obj} {cur : Array Value} {e : TypeId} {fr : Nat × Nat} (d : Array Int) (hb : w.heap[g]? = some (.cells cur e fr)) :
    (grow (putRow (Value.int .i64) (Sort.ahead w n) g o d) os).heap[g]? = some (.cells (putCells (Value.int .i64) o d cur) e fr) := by
  have hg : g < w.heap.size := (Array.getElem?_eq_some_iff.1 hb).1
  rw [heap_grow_old _ _ (by simpa using hg)]
  simp [putRow, mapBlock, Sort.ahead, Array.getElem?_modify, hb, onCells]
theorem heap_other {w : World} {g n o k : Nat} {os : Array Obj} (d : Array Int) (hk : k < w.heap.size) (hne : k ≠ g) :
    (grow (putRow (Value.int .i64) (Sort.ahead w n) g o d) os).heap[k]? = w.heap[k]? := by
  rw [heap_grow_old _ _ (by simpa using hk)]
  have : g ≠ k := fun e => hne (by rw [e])
  simp [putRow, mapBlock, Sort.ahead, Array.getElem?_modify, this]
theorem sort_c (e : TypeId) (l : List Int) (h0 : l ≠ []) (hl : l.length ≤ 1000000) : CallsA Tryz.prog 140 [.vec (.par 0) 1 0 l.length] [(.par 0, .arr e 1 (l.map intP))] (fun r B => r = .pv (.tup []) ∧ B = [(.par 0, .arr e 1 ((sortI l).map intP))]) := by
  refine ⟨⟨_, _, Tryz.func140, by decide +kernel, rfl⟩, fun w m ρ vs hB hm hsz hrd => ?_⟩
  obtain ⟨v, rfl⟩ : ∃ v, vs = #[v] := by
    match vs, hsz with
    | ⟨[v]⟩, _ => exact ⟨v, rfl⟩
  have hv := hrd 0 v _ rfl rfl
  have hbx := hB.bx (.par 0) _ lookup_cons_eq
  obtain ⟨_, ⟨_, hx, _⟩ | ⟨hr, cs, k1, k2, k3, k4, k5⟩⟩ := hbx
  · exact absurd (List.map_eq_nil_iff.1 hx) h0
  have hlen : 0 < l.length := List.length_pos_iff.2 h0
  have hcell : ∀ (i : Nat) (x : Int), l[i]? = some x → cs[(ρ (.par 0)).o + i]? = some (.int .i64 x) := fun i x hi => by
    obtain ⟨_, h2⟩ := k5 i (intP x) (by rw [List.getElem?_map, hi]; rfl)
    obtain ⟨d, d1, d2, d3⟩ := h2 0 (intP x) rfl
    rw [Nat.mul_one, Nat.add_zero] at d1
    rw [d1]
    cases d3
    rfl
  have hlt := (Array.getElem?_eq_some_iff.1 k1).1
  have main : ∀ cap, Calls Tryz.prog 140 #[.slice (some ⟨(ρ (.par 0)).b, (ρ (.par 0)).o, none⟩) l.length cap] w (CPost w m ρ [(.par 0, .arr e 1 (l.map intP))] (fun r B => r = .pv (.tup []) ∧ B = [(.par 0, .arr e 1 ((sortI l).map intP))])) := fun cap => by
    have hent : lentB ρ w [(Site.par 0, Box.arr e 1 (l.map intP))] = [(ρ (.par 0)).b] := by simp [lentB, hr, ins]
    refine (Tryz.slices_Sort_int (ρ (.par 0)).b (ρ (.par 0)).o cap l w (holds_at k1 hcell) hlt (by omega)).mono ?_
    rintro en w' ⟨rfl, n, os, rfl⟩
    rw [merge_sortI]
    have hmb : ∀ b o v, m b o = some v → b ≠ (ρ (.par 0)).b := fun b o v hv e' => by
      subst e'
      have := hB.off (.par 0) _ lookup_cons_eq hr o
      rw [this] at hv; cases hv
    refine ⟨.tuple #[], .pv (.tup []), [(.par 0, .arr e 1 ((sortI l).map intP))], ρ, m, rfl, ⟨rfl, rfl⟩, ⟨fun s b hs => ?_, fun s s' b b' _ hs hs' _ _ => ?_, fun s b i hs hrs o => ?_⟩, Le.refl m, fun b o v hv => ?_, fun i => rfl, fun s b i hs hrs => ?_, fun b o v hv => .inl hv, ?_, ⟨rfl, rfl, rfl, ?_, fun k hk hkn => ?_⟩⟩
    · by_cases es : s = .par 0
      · subst es
        rw [lookup_cons_eq] at hs; cases hs
        refine ⟨by omega, .inr ⟨hr, _, heap_sorted_at _ k1, by rw [show (putCells (Value.int .i64) (ρ (.par 0)).o (sortI l).toArray cs).size = cs.size by simp [putCells]]; exact k2, by rw [List.length_map, sortI_len, ← List.length_map (f := intP)]; exact k3, k4, fun i x hx => ?_⟩⟩
        rw [List.getElem?_map] at hx
        obtain ⟨z, hz, rfl⟩ := Option.map_eq_some_iff.1 hx
        refine ⟨rfl, fun j c hj => ?_⟩
        cases j with
        | succ j => simp [intP, PV.cells] at hj
        | zero =>
          simp [intP, PV.cells] at hj
          subst hj
          have hi : i < l.length := by have := (List.getElem?_eq_some_iff.1 hz).1; rw [sortI_len] at this; exact this
          have hcs : (ρ (.par 0)).o + i < cs.size := (Array.getElem?_eq_some_iff.1 (hcell i _ (List.getElem?_eq_getElem hi))).1
          refine ⟨.int .i64 z, ?_, rfl, .int .i64 z⟩
          rw [Nat.mul_one, Nat.add_zero]
          have hz' : (sortI l)[i]! = z := by rw [List.getElem!_eq_getElem?_getD, hz]; rfl
          have hi2 : i < (sortI l).length := by rw [sortI_len]; exact hi
          have hz2 : (sortI l)[i] = z := by rw [List.getElem?_eq_getElem hi2] at hz; simpa using hz
          simp [putCells, hcs, sortI_len, hi, hz2]
      · rw [lookup_cons_ne es] at hs; simp [List.lookup] at hs
    · have q : ∀ {s : Site} {b : Box}, List.lookup s [(Site.par 0, Box.arr e 1 ((sortI l).map intP))] = some b → s = .par 0 := fun {s b} h => by
        by_cases es : s = .par 0
        · exact es
        · rw [lookup_cons_ne es] at h; simp [List.lookup] at h
      rw [q hs, q hs']
    · by_cases es : s = .par 0
      · subst es
        rw [lookup_cons_eq] at hs; cases hs
        obtain ⟨q1, rfl⟩ := blk_plain rfl hrs
        exact hB.off (.par 0) _ lookup_cons_eq q1 o
      · rw [lookup_cons_ne es] at hs; simp [List.lookup] at hs
    · have h1 := hm b o v hv
      have hne := hmb b o v hv
      show World.cell? _ _ = some v
      have h2 : w.cell? ⟨b, o, none⟩ = some v := h1
      have hb : b < w.heap.size := by
        unfold World.cell? at h2
        simp only at h2
        cases hh : w.heap[b]? with
        | none => rw [hh] at h2; simp at h2
        | some ob => exact (Array.getElem?_eq_some_iff.1 hh).1
      rw [← h2]
      unfold World.cell?
      rw [heap_other _ hb hne]
    · by_cases es : s = .par 0
      · subst es
        rw [lookup_cons_eq] at hs; cases hs
        obtain ⟨q1, rfl⟩ := blk_plain rfl hrs
        right; rw [hent]; simp
      · rw [lookup_cons_ne es] at hs; simp [List.lookup] at hs
    · exact .pv _ _ (.tup #[] [] rfl (fun j d c h => by simp at h))
    · simp [putRow, mapBlock, Sort.ahead]
    · rw [hent] at hkn
      exact heap_other _ hk (by simpa using hkn)
  generalize hn : l.length = N at hv main
  cases hv with
  | vec _ _ _ _ cap g0 g1 g2 =>
    have := main cap
    simpa using this
  | vec0 _ _ _ a h => omega
end Go.Proofs.YtaffbiibcfeigaaGreat
/-! Layer 2 (chain): a book as plain values, and how an argument reads as one. -/
namespace Go.Proofs.YtaffbiibcfeigaaGreat
open Go.RowKit Go.ChangeShapes Go.WideShapes Go.Deep
set_option maxRecDepth 100000
def Cr.pv (r : Cr) : PV := .agg [.int .i64 r.lo, .int .i64 r.hi]
def It.pv (x : It) : PV := .agg [.int .i64 x.drift, .bool x.std, .int .i64 x.val.lo, .int .i64 x.val.hi]
def Ct.pv (c : Ct) : PV := .agg [.int .i64 c.num, .int .i64 c.it, .int .i64 c.src, .int .i64 c.day, .int .i64 c.valid, .int .i64 c.diff.lo, .int .i64 c.diff.hi]
def itsP (l : List It) : PV := .lst false 4 (l.map It.pv)
def ctsP (l : List Ct) : PV := .lst false 7 (l.map Ct.pv)
def Bk.pv (b : Bk) : PV := .agg [itsP b.items, ctsP b.certs]
def fit64 (n : Int) : Prop := -9223372036854775808 ≤ n ∧ n ≤ 9223372036854775807
theorem kq64 {n : Int} (h : IntKind.i64.min ≤ n ∧ n ≤ IntKind.i64.max) : fit64 n := by
  have e1 : IntKind.i64.min = -9223372036854775808 := by decide
  have e2 : IntKind.i64.max = 9223372036854775807 := by decide
  rw [e1, e2] at h; exact h
def Cr.fit (r : Cr) : Prop := fit64 r.lo ∧ fit64 r.hi
def It.fit (x : It) : Prop := fit64 x.drift ∧ x.val.fit
def Ct.fit (c : Ct) : Prop := fit64 c.num ∧ fit64 c.it ∧ fit64 c.src ∧ fit64 c.day ∧ fit64 c.valid ∧ c.diff.fit
section
variable {H : Type} {enc : TypeId × Value → H} {W : World} {sp : Nat → Bool} {held : Bool} {r : Reach} {base : Nat}
theorem ck1 : Tryz.prog.cellsOf 3 = 1 := by kernel_rfl
theorem ck2 : Tryz.prog.cellsOf 4 = 1 := by kernel_rfl
theorem ckR : Tryz.prog.cellsOf 142 = 2 := by kernel_rfl
theorem ckI : Tryz.prog.cellsOf 144 = 4 := by kernel_rfl
theorem ckC : Tryz.prog.cellsOf 147 = 7 := by kernel_rfl
theorem ckLI : Tryz.prog.cellsOf 22 = 1 := by kernel_rfl
theorem ckLC : Tryz.prog.cellsOf 23 = 1 := by kernel_rfl
theorem ckB : Tryz.prog.cellsOf 25 = 2 := by kernel_rfl
theorem int_at {n : Nat} {d : Value} {x : DataW H × List MemPlace} (h : DataW.trod enc Tryz.prog W 0 sp held n 3 [d] = some x) : ∃ m : Int, d = .int .i64 m ∧ fit64 m := by
  obtain ⟨m, e, g, _⟩ := rd_int Tryz.underlying3 h
  simp at e
  exact ⟨m, e, kq64 g⟩
theorem rk_range {fuel : Nat} {cs : List Value} {y : DataW H × List MemPlace} (h : DataW.trod enc Tryz.prog W 0 sp held fuel 142 cs = some y) (hl : cs.length = 2) : ∃ q : Cr, q.fit ∧ cs = [.int .i64 q.lo, .int .i64 q.hi] := by
  match cs, hl with
  | [a, b], _ =>
  obtain ⟨xs, n, _, _, _, hxl, hf⟩ := DataW.trod_struct Tryz.underlying142 h
  have hxl' : xs.length = 2 := hxl
  have h0 : DataW.trod enc Tryz.prog W 0 sp held n 3 (([a, b].drop 0).take (Tryz.prog.cellsOf 3)) = xs[0]? := hf 0 _ rfl
  have h1 : DataW.trod enc Tryz.prog W 0 sp held n 3 (([a, b].drop 1).take (Tryz.prog.cellsOf 3)) = xs[1]? := hf 1 _ rfl
  rw [ck1, List.getElem?_eq_getElem (by omega)] at h0 h1
  obtain ⟨m, rfl, g0⟩ := int_at h0
  obtain ⟨k, rfl, g1⟩ := int_at h1
  exact ⟨⟨m, k⟩, ⟨g0, g1⟩, rfl⟩
theorem plain_cells {m : Mem} {n : Nat} {l : List PV} {cs : List Value} {x : PV} (hx : x.cells = l) (hn : l.length = n) (hc : cs.length = n) (h : ∀ (j : Nat) (d : Value) (c : PV), cs[j]? = some d → l[j]? = some c → d.oneCell' = true ∧ RdP m d c) : CellsP m n cs x := by
  refine ⟨hc, by rw [hx]; exact hn, fun d hd => ?_, fun j d c h1 h2 => (h j d c h1 (by rw [hx] at h2; exact h2)).2⟩
  obtain ⟨j, hj⟩ := List.mem_iff_getElem?.1 hd
  have hjl : j < l.length := by rw [hn, ← hc]; exact (List.getElem?_eq_some_iff.1 hj).1
  exact (h j d l[j] hj (List.getElem?_eq_getElem hjl)).1
theorem rk_item {fuel : Nat} {cs : List Value} {y : DataW H × List MemPlace} (h : DataW.trod enc Tryz.prog W 0 sp held fuel 144 cs = some y) (hl : cs.length = 4) : ∃ q : It, q.fit ∧ CellsP W.mem 4 cs q.pv := by
  match cs, hl with
  | [a, b, c, d], _ =>
  obtain ⟨xs, n, _, _, _, hxl, hf⟩ := DataW.trod_struct Tryz.underlying144 h
  have hxl' : xs.length = 3 := hxl
  have h0 : DataW.trod enc Tryz.prog W 0 sp held n 3 (([a, b, c, d].drop 0).take (Tryz.prog.cellsOf 3)) = xs[0]? := hf 0 _ rfl
  have h1 : DataW.trod enc Tryz.prog W 0 sp held n 4 (([a, b, c, d].drop 1).take (Tryz.prog.cellsOf 4)) = xs[1]? := hf 1 _ rfl
  have h2 : DataW.trod enc Tryz.prog W 0 sp held n 142 (([a, b, c, d].drop 2).take (Tryz.prog.cellsOf 142)) = xs[2]? := hf 2 _ rfl
  rw [ck1, List.getElem?_eq_getElem (by omega)] at h0
  rw [ck2, List.getElem?_eq_getElem (by omega)] at h1
  rw [ckR, List.getElem?_eq_getElem (by omega)] at h2
  obtain ⟨m, rfl, g0⟩ := int_at h0
  obtain ⟨t, e1, _⟩ := rd_bool Tryz.underlying4 h1
  obtain ⟨v, g2, e2⟩ := rk_range h2 rfl
  simp at e1 e2
  obtain ⟨rfl, rfl⟩ := e2
  subst e1
  refine ⟨⟨m, t, v⟩, ⟨g0, g2⟩, plain_cells (l := [.int .i64 m, .bool t, .int .i64 v.lo, .int .i64 v.hi]) rfl rfl rfl fun j d c k1 k2 => ?_⟩
  match j with
  | 0 => simp at k1 k2; subst k1 k2; exact ⟨rfl, .int .i64 _⟩
  | 1 => simp at k1 k2; subst k1 k2; exact ⟨rfl, .bool _⟩
  | 2 => simp at k1 k2; subst k1 k2; exact ⟨rfl, .int .i64 _⟩
  | 3 => simp at k1 k2; subst k1 k2; exact ⟨rfl, .int .i64 _⟩
  | j + 4 => simp at k1
theorem rk_cert {fuel : Nat} {cs : List Value} {y : DataW H × List MemPlace} (h : DataW.trod enc Tryz.prog W 0 sp held fuel 147 cs = some y) (hl : cs.length = 7) : ∃ q : Ct, q.fit ∧ CellsP W.mem 7 cs q.pv := by
  match cs, hl with
  | [a, b, c, d, e, f, g], _ =>
  obtain ⟨xs, n, _, _, _, hxl, hf⟩ := DataW.trod_struct Tryz.underlying147 h
  have hxl' : xs.length = 6 := hxl
  have h0 : DataW.trod enc Tryz.prog W 0 sp held n 3 (([a, b, c, d, e, f, g].drop 0).take (Tryz.prog.cellsOf 3)) = xs[0]? := hf 0 _ rfl
  have h1 : DataW.trod enc Tryz.prog W 0 sp held n 3 (([a, b, c, d, e, f, g].drop 1).take (Tryz.prog.cellsOf 3)) = xs[1]? := hf 1 _ rfl
  have h2 : DataW.trod enc Tryz.prog W 0 sp held n 3 (([a, b, c, d, e, f, g].drop 2).take (Tryz.prog.cellsOf 3)) = xs[2]? := hf 2 _ rfl
  have h3 : DataW.trod enc Tryz.prog W 0 sp held n 3 (([a, b, c, d, e, f, g].drop 3).take (Tryz.prog.cellsOf 3)) = xs[3]? := hf 3 _ rfl
  have h4 : DataW.trod enc Tryz.prog W 0 sp held n 3 (([a, b, c, d, e, f, g].drop 4).take (Tryz.prog.cellsOf 3)) = xs[4]? := hf 4 _ rfl
  have h5 : DataW.trod enc Tryz.prog W 0 sp held n 142 (([a, b, c, d, e, f, g].drop 5).take (Tryz.prog.cellsOf 142)) = xs[5]? := hf 5 _ rfl
  rw [ck1, List.getElem?_eq_getElem (by omega)] at h0 h1 h2 h3 h4
  rw [ckR, List.getElem?_eq_getElem (by omega)] at h5
  obtain ⟨m0, rfl, g0⟩ := int_at h0
  obtain ⟨m1, rfl, g1⟩ := int_at h1
  obtain ⟨m2, rfl, g2⟩ := int_at h2
  obtain ⟨m3, rfl, g3⟩ := int_at h3
  obtain ⟨m4, rfl, g4⟩ := int_at h4
  obtain ⟨v, g5, e5⟩ := rk_range h5 rfl
  simp at e5
  obtain ⟨rfl, rfl⟩ := e5
  refine ⟨⟨m0, m1, m2, m3, m4, v⟩, ⟨g0, g1, g2, g3, g4, g5⟩, plain_cells (l := [.int .i64 m0, .int .i64 m1, .int .i64 m2, .int .i64 m3, .int .i64 m4, .int .i64 v.lo, .int .i64 v.hi]) rfl rfl rfl fun j d c k1 k2 => ?_⟩
  match j with
  | 0 => simp at k1 k2; subst k1 k2; exact ⟨rfl, .int .i64 _⟩
  | 1 => simp at k1 k2; subst k1 k2; exact ⟨rfl, .int .i64 _⟩
  | 2 => simp at k1 k2; subst k1 k2; exact ⟨rfl, .int .i64 _⟩
  | 3 => simp at k1 k2; subst k1 k2; exact ⟨rfl, .int .i64 _⟩
  | 4 => simp at k1 k2; subst k1 k2; exact ⟨rfl, .int .i64 _⟩
  | 5 => simp at k1 k2; subst k1 k2; exact ⟨rfl, .int .i64 _⟩
  | 6 => simp at k1 k2; subst k1 k2; exact ⟨rfl, .int .i64 _⟩
  | j + 7 => simp at k1
/-- What a book holds fits its kinds. -/
structure Bk.wf (b : Bk) : Prop where
  i : ∀ x ∈ b.items, x.fit
  c : ∀ x ∈ b.certs, x.fit
  il : b.items.length ≤ 9223372036854775807
  cl : b.certs.length ≤ 9223372036854775807
theorem rk_book {v : Value} {fuel : Nat} {x : DataW H × List MemPlace} (hok : Value.okWide Tryz.prog W r base 25 v) (h : DataW.trod enc Tryz.prog W 0 sp held fuel 25 v.cells.toList = some x) :
    ∃ q : Bk, q.wf ∧ RdP W.mem v q.pv := by
  obtain ⟨cs, rfl, hsz⟩ := okWide_struct Tryz.underlying25 hok
  rw [ckB] at hsz
  obtain ⟨l⟩ := cs
  match l, hsz with
  | [a, b], _ =>
  obtain ⟨xs, n, _, _, _, hxl, hf⟩ := DataW.trod_struct Tryz.underlying25 h
  have hxl' : xs.length = 2 := hxl
  have h0 : DataW.trod enc Tryz.prog W 0 sp held n 22 (([a, b].drop 0).take (Tryz.prog.cellsOf 22)) = xs[0]? := hf 0 _ rfl
  have h1 : DataW.trod enc Tryz.prog W 0 sp held n 23 (([a, b].drop 1).take (Tryz.prog.cellsOf 23)) = xs[1]? := hf 1 _ rfl
  rw [ckLI, List.getElem?_eq_getElem (by omega)] at h0
  rw [ckLC, List.getElem?_eq_getElem (by omega)] at h1
  have h0' : DataW.trod enc Tryz.prog W 0 sp held n 22 [a] = some xs[0] := h0
  have h1' : DataW.trod enc Tryz.prog W 0 sp held n 23 [b] = some xs[1] := h1
  obtain ⟨ms, m1, m2, m3⟩ := rd_slice2 It.pv It.fit Tryz.underlying22 ckI (by omega) h0' (fun k cs y hy hl => rk_item hy hl)
  obtain ⟨rs, n1, n2, n3⟩ := rd_slice2 Ct.pv Ct.fit Tryz.underlying23 ckC (by omega) h1' (fun k cs y hy hl => rk_cert hy hl)
  refine ⟨⟨ms, rs⟩, ⟨m1, n1, m2, n2⟩, .agg _ _ rfl ?_ ?_⟩
  · intro d hd
    simp at hd
    rcases hd with rfl | rfl
    · cases m3 <;> rfl
    · cases n3 <;> rfl
  · intro j d e k1 k2
    match j with
    | 0 => simp at k1 k2; subst k1 k2; exact m3
    | 1 => simp at k1 k2; subst k1 k2; exact n3
    | j + 2 => simp at k1
end
end Go.Proofs.YtaffbiibcfeigaaGreat
/-! Contracts of layer 2 (chain): small ones. -/
namespace Go.Proofs.YtaffbiibcfeigaaGreat
open Go.RowKit
attribute [local simp] Box.purge Site.isLoc
set_option maxRecDepth 10000
set_option linter.unusedSimpArgs false
theorem within_c (n lo hi : Int) : Gives Tryz.prog 141 [.int .i64 n, .int .i64 lo, .int .i64 hi] (.bool (inB n lo hi)) := by
  refine calls_of_awpS mixed L141_ok (Nat.le_of_ble_eq_true rfl) ?_
  by_cases h : lo ≤ n
  all_goals simp [h, L141, inB]
theorem in_c (n lo hi : Int) : Gives Tryz.prog 46 [.int .i64 n, .int .i64 lo, .int .i64 hi] (.bool (inB n lo hi)) := by
  refine calls_of_awpS mixed L46_ok (Nat.le_of_ble_eq_true rfl) ?_
  by_cases h : lo ≤ n
  all_goals simp [h, L46, inB]
theorem day_c (n : Int) : Gives Tryz.prog 85 [.int .i64 n] (.bool (inB n 0 1000)) := by
  refine calls_of_awpS mixed L85_ok (Nat.le_of_ble_eq_true rfl) ?_
  simp [L85]
  refine call_gives (k := 0) rfl rfl (within_c n 0 1000) rfl ?_
  simp
theorem number_c (n : Int) : Gives Tryz.prog 201 [.int .i64 n] (.bool (inB n 1 999)) := by
  refine calls_of_awpS mixed L201_ok (Nat.le_of_ble_eq_true rfl) ?_
  simp [L201]
  refine call_gives (k := 0) rfl rfl (within_c n 1 999) rfl ?_
  simp
theorem value_c (n : Int) : Gives Tryz.prog 239 [.int .i64 n] (.bool (valB n)) := by
  refine calls_of_awpS mixed L239_ok (Nat.le_of_ble_eq_true rfl) ?_
  simp [L239]
  refine call_gives (k := 0) rfl rfl (within_c n (-100000) 100000) rfl ?_
  simp [valB]
theorem rvalid_c (r : Cr) : Gives Tryz.prog 198 [r.pv] (.bool r.okB) := by
  refine calls_of_awpS mixed L198_ok (Nat.le_of_ble_eq_true rfl) ?_
  simp [-getElem?_pos, L198, Cr.pv]
  refine call_gives (k := 0) rfl rfl (value_c r.lo) rfl ?_
  cases h1 : valB r.lo
  · simp [Cr.okB, h1]
  · simp [h1]
    refine call_gives (k := 0) rfl rfl (value_c r.hi) rfl ?_
    cases h2 : valB r.hi
    · simp [Cr.okB, h1, h2]
    · simp [Cr.okB, h1, h2]
theorem ivalid_c (x : It) : Gives Tryz.prog 137 [x.pv] (.bool x.okB) := by
  obtain ⟨d, s, lo, hi⟩ := x
  refine calls_of_awpS mixed L137_ok (Nat.le_of_ble_eq_true rfl) ?_
  simp [-getElem?_pos, L137, It.pv]
  refine call_gives (k := 0) rfl rfl (within_c d 0 100) rfl ?_
  cases h1 : inB d 0 100
  · simp [It.okB, h1]
  · simp [h1]
    refine call_gives (k := 0) rfl rfl (rvalid_c ⟨lo, hi⟩) rfl ?_
    cases h2 : Cr.okB ⟨lo, hi⟩
    · simp [It.okB, h1, h2]
    · cases s
      · simp [It.okB, h1, h2]
        rw [Bool.eq_iff_iff]
        simp
      · simp [It.okB, h1, h2]
theorem item_c (b : Bk) (n : Int) (h : b.items.length ≤ 1000) : Gives Tryz.prog 84 [b.pv, .int .i64 n] (.bool (b.hasItem n)) := by
  have hw : IntKind.i64.wrap ((b.items.length : Int) - 1) = (b.items.length : Int) - 1 := wrap64 (by omega)
  refine calls_of_awpS mixed L84_ok (Nat.le_of_ble_eq_true rfl) ?_
  simp [-getElem?_pos, L84, Bk.pv, itsP, hw]
  refine call_gives (k := 0) rfl rfl (within_c n 0 ((b.items.length : Int) - 1)) rfl ?_
  simp [Bk.hasItem]
theorem con_c (c : Ct) (d : Int) (h : IntKind.i64.wrap (c.day + c.valid) = c.day + c.valid) : Gives Tryz.prog 143 [c.pv, .int .i64 d] (.bool (c.on d)) := by
  refine calls_of_awpS mixed L143_ok (Nat.le_of_ble_eq_true rfl) ?_
  simp [-getElem?_pos, L143, Ct.pv, h]
  refine call_gives (k := 0) rfl rfl (within_c d c.day (c.day + c.valid)) rfl ?_
  simp [Ct.on]
theorem rspan_c (r : Cr) : Gives Tryz.prog 47 [r.pv] (.bool (inB r.lo (-100000) r.hi && decide (r.hi ≤ 100000))) := by
  refine calls_of_awpS mixed L47_ok (Nat.le_of_ble_eq_true rfl) ?_
  simp [-getElem?_pos, L47, Cr.pv]
  refine call_gives (k := 0) rfl rfl (in_c r.lo (-100000) r.hi) rfl ?_
  cases h1 : inB r.lo (-100000) r.hi
  · simp [h1]
  · simp [h1]
theorem low_c (r : Cr) : Gives Tryz.prog 144 [r.pv] (.int .i64 r.lo) := by
  refine calls_of_awpS mixed L144_ok (Nat.le_of_ble_eq_true rfl) ?_
  simp [-getElem?_pos, L144, Cr.pv]
theorem high_c (r : Cr) : Gives Tryz.prog 145 [r.pv] (.int .i64 r.hi) := by
  refine calls_of_awpS mixed L145_ok (Nat.le_of_ble_eq_true rfl) ?_
  simp [-getElem?_pos, L145, Cr.pv]
theorem plus_c (r o : Cr) (h1 : IntKind.i64.wrap (r.lo + o.lo) = r.lo + o.lo) (h2 : IntKind.i64.wrap (r.hi + o.hi) = r.hi + o.hi) : Gives Tryz.prog 90 [r.pv, o.pv] (r.plus o).pv := by
  have a1 := low_c r
  have a2 := low_c o
  have a3 := high_c r
  have a4 := high_c o
  refine calls_of_awpS mixed L90_ok (Nat.le_of_ble_eq_true rfl) ?_
  simp [-getElem?_pos, L90, Cr.pv]
  refine call_give (k := 0) rfl rfl a1 rfl ?_
  simp [-getElem?_pos]
  refine call_give (k := 0) rfl rfl a2 rfl ?_
  simp [-getElem?_pos, h1]
  refine call_give (k := 0) rfl rfl a3 rfl ?_
  simp [-getElem?_pos]
  refine call_gives (k := 0) rfl rfl a4 rfl ?_
  simp [-getElem?_pos, h2, Cr.plus, Cr.pv]
theorem wider_c (r : Cr) (n : Int) (h0 : IntKind.i64.wrap (-n) = -n) (h1 : IntKind.i64.wrap (r.lo + -n) = r.lo + -n) (h2 : IntKind.i64.wrap (r.hi + n) = r.hi + n) : Gives Tryz.prog 93 [r.pv, .int .i64 n] (r.wider n).pv := by
  have a1 := plus_c r ⟨-n, n⟩ h1 h2
  refine calls_of_awpS mixed L93_ok (Nat.le_of_ble_eq_true rfl) ?_
  simp [-getElem?_pos, L93, Cr.pv, h0]
  refine .inl (call_pv [] (fs := []) (xs := [r.pv, Cr.pv ⟨-n, n⟩]) (cs := []) rfl rfl a1 ?_)
  simp [-getElem?_pos, frzsL, Cr.wider, Cr.plus, Cr.pv]
theorem everything_c : Gives Tryz.prog 91 [] everyR.pv := by
  refine calls_of_awpS mixed L91_ok (Nat.le_of_ble_eq_true rfl) ?_
  simp [-getElem?_pos, L91, everyR, Cr.pv]
end Go.Proofs.YtaffbiibcfeigaaGreat
/-! Contracts of layer 2 (chain): IndexFunc, ContainsFunc, all; a certificate as described; what ranges have in common. -/
namespace Go.Proofs.YtaffbiibcfeigaaGreat
open Go.RowKit
attribute [local simp] Box.purge Site.isLoc
set_option maxRecDepth 10000
set_option linter.unusedSimpArgs false
theorem find_at {l : List PV} {q : PV → Bool} {k : Nat} {x : PV} (hx : l[k]? = some x) (hb : q x = true) (hinv : ∀ (j : Nat) (y : PV), j < k → l[j]? = some y → q y = false) : l.findIdx? q = some k := by
  obtain ⟨hlt, e⟩ := List.getElem?_eq_some_iff.1 hx
  rw [List.findIdx?_eq_some_iff_getElem]
  refine ⟨hlt, by rw [e]; exact hb, fun j hj => ?_⟩
  have := hinv j l[j] hj (List.getElem?_eq_getElem (by omega))
  simp [this]
theorem find_none {l : List PV} {q : PV → Bool} (hinv : ∀ (j : Nat) (y : PV), j < l.length → l[j]? = some y → q y = false) : l.findIdx? q = none := by
  rw [List.findIdx?_eq_none_iff]
  intro x hx
  obtain ⟨j, hj⟩ := List.mem_iff_getElem?.1 hx
  exact hinv j x (List.getElem?_eq_some_iff.1 hj).1 hj
theorem indexIt_c (l : List PV) (g : FuncId) (fs cs : List PV) (q : PV → Bool) (hq : ∀ x ∈ l, Gives Tryz.prog g (fs ++ [x] ++ cs) (.bool (q x))) (hl : l.length ≤ 1000000) (hc : ∀ x ∈ l, ∃ a t b c, x = .agg [.int .i64 a, .bool t, .int .i64 b, .int .i64 c]) :
    Gives Tryz.prog 238 [.lst false 4 l, .fn g fs cs] (.int .i64 (match l.findIdx? q with | some i => i | none => -1)) := by
  refine calls_of_awpS mixed L238_ok (Nat.le_of_ble_eq_true rfl) ?_
  simp [L238]
  refine awp_loopS (fun n τ => ∃ k : Nat, k ≤ l.length ∧ n = l.length - k ∧ (∀ j x, j < k → l[j]? = some x → q x = false) ∧ τ = ⟨[(0, .pv (.lst false 4 l)), (1, .pv (.fn g fs cs)), (7, .pv (.int .i64 l.length)), (8, .pv (.int .i64 k))], []⟩)
    ⟨l.length, _, Sub.mk (by simp) (by simp), 0, by omega, rfl, (fun j x hj => by omega), rfl⟩ ?_
  rintro J hJ n τ ⟨k, hk, rfl, hinv, rfl⟩
  by_cases hlt : k < l.length
  · have hx : l[k]? = some l[k] := List.getElem?_eq_getElem hlt
    have hm := List.getElem_mem hlt
    generalize l[k] = x at hx hm
    obtain ⟨a, t, b, c, rfl⟩ := hc x hm
    have hg := hq _ hm
    have hw : IntKind.i64.wrap ((k : Int) + 1) = ((k + 1 : Nat) : Int) := by rw [wrap64 (by omega)]; omega
    simp [-getElem?_pos, hlt, hx, nblt]
    refine call_gives (k := 0) rfl rfl hg rfl ?_
    cases hb : q _
    · simp [hw]
      exact ⟨_, _, (by omega : l.length - (k + 1) < l.length - k), Sub.mk (by simp) (by simp), hJ _ _ ⟨k + 1, by omega, rfl, fun j x hj hjx => by
        rcases Nat.lt_succ_iff_lt_or_eq.1 hj with h | h
        · exact hinv j x h hjx
        · subst h; rw [hx] at hjx; cases hjx; exact hb, rfl⟩⟩
    · simp [find_at hx hb hinv]
  · have he : k = l.length := by omega
    subst he
    simp [find_none hinv]
theorem anyIt_c (l : List PV) (g : FuncId) (fs cs : List PV) (q : PV → Bool) (hq : ∀ x ∈ l, Gives Tryz.prog g (fs ++ [x] ++ cs) (.bool (q x))) (hl : l.length ≤ 1000000) (hc : ∀ x ∈ l, ∃ a t b c, x = .agg [.int .i64 a, .bool t, .int .i64 b, .int .i64 c]) :
    Gives Tryz.prog 196 [.lst false 4 l, .fn g fs cs] (.bool (l.any q)) := by
  refine calls_of_awpS mixed L196_ok (Nat.le_of_ble_eq_true rfl) ?_
  simp [L196]
  refine call_gives (k := 0) rfl rfl (indexIt_c l g fs cs q hq hl hc) rfl ?_
  cases hf : l.findIdx? q with
  | none =>
    have : l.any q = false := by rw [List.any_eq_false]; intro x hx; simpa using List.findIdx?_eq_none_iff.1 hf x hx
    simp [this]
  | some i =>
    have : l.any q = true := by
      obtain ⟨hi, h1, _⟩ := List.findIdx?_eq_some_iff_getElem.1 hf
      exact List.any_eq_true.2 ⟨_, List.getElem_mem hi, h1⟩
    simp [this]
theorem allIt1_c (x : PV) (g : FuncId) (fs cs : List PV) (b : Bool) (hx : ∃ a t b c, x = .agg [.int .i64 a, .bool t, .int .i64 b, .int .i64 c]) (hq : Gives Tryz.prog g (fs ++ [x] ++ cs) (.bool b)) :
    Gives Tryz.prog 197 [x, .ref [.fn g fs cs]] (.bool (!b)) := by
  obtain ⟨a, t, b, c, rfl⟩ := hx
  refine calls_of_awpS mixed L197_ok (Nat.le_of_ble_eq_true rfl) ?_
  simp [L197]
  refine call_gives (k := 0) rfl rfl hq rfl ?_
  simp
theorem allIt_c (l : List PV) (g : FuncId) (fs cs : List PV) (q : PV → Bool) (hq : ∀ x ∈ l, Gives Tryz.prog g (fs ++ [x] ++ cs) (.bool (q x))) (hl : l.length ≤ 1000000) (hc : ∀ x ∈ l, ∃ a t b c, x = .agg [.int .i64 a, .bool t, .int .i64 b, .int .i64 c]) :
    Gives Tryz.prog 136 [.lst false 4 l, .fn g fs cs] (.bool (l.all q)) := by
  refine calls_of_awpS mixed L136_ok (Nat.le_of_ble_eq_true rfl) ?_
  simp [L136]
  refine call_gives (k := 4) rfl rfl (anyIt_c l 197 [] [.ref [.fn g fs cs]] (fun x => !q x) (fun x hx => allIt1_c x g fs cs (q x) (hc x hx) (hq x hx)) hl hc) rfl ?_
  simp [List.not_any_eq_all_not]
theorem indexCt_c (l : List PV) (g : FuncId) (fs cs : List PV) (q : PV → Bool) (hq : ∀ x ∈ l, Gives Tryz.prog g (fs ++ [x] ++ cs) (.bool (q x))) (hl : l.length ≤ 1000000) (hc : ∀ x ∈ l, ∃ a b c d e f h, x = .agg [.int .i64 a, .int .i64 b, .int .i64 c, .int .i64 d, .int .i64 e, .int .i64 f, .int .i64 h]) :
    Gives Tryz.prog 240 [.lst false 7 l, .fn g fs cs] (.int .i64 (match l.findIdx? q with | some i => i | none => -1)) := by
  refine calls_of_awpS mixed L240_ok (Nat.le_of_ble_eq_true rfl) ?_
  simp [L240]
  refine awp_loopS (fun n τ => ∃ k : Nat, k ≤ l.length ∧ n = l.length - k ∧ (∀ j x, j < k → l[j]? = some x → q x = false) ∧ τ = ⟨[(0, .pv (.lst false 7 l)), (1, .pv (.fn g fs cs)), (7, .pv (.int .i64 l.length)), (8, .pv (.int .i64 k))], []⟩)
    ⟨l.length, _, Sub.mk (by simp) (by simp), 0, by omega, rfl, (fun j x hj => by omega), rfl⟩ ?_
  rintro J hJ n τ ⟨k, hk, rfl, hinv, rfl⟩
  by_cases hlt : k < l.length
  · have hx : l[k]? = some l[k] := List.getElem?_eq_getElem hlt
    have hm := List.getElem_mem hlt
    generalize l[k] = x at hx hm
    obtain ⟨a, b, c, d, e, f, h, rfl⟩ := hc x hm
    have hg := hq _ hm
    have hw : IntKind.i64.wrap ((k : Int) + 1) = ((k + 1 : Nat) : Int) := by rw [wrap64 (by omega)]; omega
    simp [-getElem?_pos, hlt, hx, nblt]
    refine call_gives (k := 0) rfl rfl hg rfl ?_
    cases hb : q _
    · simp [hw]
      exact ⟨_, _, (by omega : l.length - (k + 1) < l.length - k), Sub.mk (by simp) (by simp), hJ _ _ ⟨k + 1, by omega, rfl, fun j x hj hjx => by
        rcases Nat.lt_succ_iff_lt_or_eq.1 hj with h | h
        · exact hinv j x h hjx
        · subst h; rw [hx] at hjx; cases hjx; exact hb, rfl⟩⟩
    · simp [find_at hx hb hinv]
  · have he : k = l.length := by omega
    subst he
    simp [find_none hinv]
theorem anyCt_c (l : List PV) (g : FuncId) (fs cs : List PV) (q : PV → Bool) (hq : ∀ x ∈ l, Gives Tryz.prog g (fs ++ [x] ++ cs) (.bool (q x))) (hl : l.length ≤ 1000000) (hc : ∀ x ∈ l, ∃ a b c d e f h, x = .agg [.int .i64 a, .int .i64 b, .int .i64 c, .int .i64 d, .int .i64 e, .int .i64 f, .int .i64 h]) :
    Gives Tryz.prog 199 [.lst false 7 l, .fn g fs cs] (.bool (l.any q)) := by
  refine calls_of_awpS mixed L199_ok (Nat.le_of_ble_eq_true rfl) ?_
  simp [L199]
  refine call_gives (k := 0) rfl rfl (indexCt_c l g fs cs q hq hl hc) rfl ?_
  cases hf : l.findIdx? q with
  | none =>
    have : l.any q = false := by rw [List.any_eq_false]; intro x hx; simpa using List.findIdx?_eq_none_iff.1 hf x hx
    simp [this]
  | some i =>
    have : l.any q = true := by
      obtain ⟨hi, h1, _⟩ := List.findIdx?_eq_some_iff_getElem.1 hf
      exact List.any_eq_true.2 ⟨_, List.getElem_mem hi, h1⟩
    simp [this]
theorem allCt1_c (x : PV) (g : FuncId) (fs cs : List PV) (b : Bool) (hx : ∃ a b c d e f h, x = .agg [.int .i64 a, .int .i64 b, .int .i64 c, .int .i64 d, .int .i64 e, .int .i64 f, .int .i64 h]) (hq : Gives Tryz.prog g (fs ++ [x] ++ cs) (.bool b)) :
    Gives Tryz.prog 200 [x, .ref [.fn g fs cs]] (.bool (!b)) := by
  obtain ⟨a, b, c, d, e, f, h, rfl⟩ := hx
  refine calls_of_awpS mixed L200_ok (Nat.le_of_ble_eq_true rfl) ?_
  simp [L200]
  refine call_gives (k := 0) rfl rfl hq rfl ?_
  simp
theorem allCt_c (l : List PV) (g : FuncId) (fs cs : List PV) (q : PV → Bool) (hq : ∀ x ∈ l, Gives Tryz.prog g (fs ++ [x] ++ cs) (.bool (q x))) (hl : l.length ≤ 1000000) (hc : ∀ x ∈ l, ∃ a b c d e f h, x = .agg [.int .i64 a, .int .i64 b, .int .i64 c, .int .i64 d, .int .i64 e, .int .i64 f, .int .i64 h]) :
    Gives Tryz.prog 138 [.lst false 7 l, .fn g fs cs] (.bool (l.all q)) := by
  refine calls_of_awpS mixed L138_ok (Nat.le_of_ble_eq_true rfl) ?_
  simp [L138]
  refine call_gives (k := 4) rfl rfl (anyCt_c l 200 [] [.ref [.fn g fs cs]] (fun x => !q x) (fun x hx => allCt1_c x g fs cs (q x) (hc x hx) (hq x hx)) hl hc) rfl ?_
  simp [List.not_any_eq_all_not]
theorem cert_c (b : Bk) (c : Ct) (h : b.items.length ≤ 1000) : Gives Tryz.prog 139 [b.pv, c.pv] (.bool (b.certB c)) := by
  have n1 := number_c c.num
  have n2 := item_c b c.it h
  have n3 := item_c b c.src h
  have n4 := day_c c.day
  have n5 := day_c c.valid
  have n6 := rvalid_c c.diff
  refine calls_of_awpS mixed L139_ok (Nat.le_of_ble_eq_true rfl) ?_
  simp [-getElem?_pos, L139, Bk.pv, itsP, ctsP, Ct.pv]
  refine call_gives (k := 0) rfl rfl n1 rfl ?_
  cases e1 : inB c.num 1 999
  · simp [-getElem?_pos, Bk.certB, e1]
  simp [-getElem?_pos]
  refine call_gives (k := 0) (fs := []) (xs := [b.pv, .int .i64 c.it]) (cs := []) rfl rfl n2 rfl ?_
  cases e2 : b.hasItem c.it
  · simp [-getElem?_pos, Bk.certB, e1, e2]
  have hi : 0 ≤ c.it ∧ c.it < b.items.length := by
    unfold Bk.hasItem inB at e2
    simp only [Bool.and_eq_true, decide_eq_true_eq] at e2
    omega
  obtain ⟨x, hx⟩ : ∃ x, b.items[c.it.toNat]? = some x := ⟨b.items[c.it.toNat]'(by omega), List.getElem?_eq_getElem _⟩
  have hxi : b.item c.it = x := by unfold Bk.item; rw [hx]; rfl
  have hg : (b.items.map It.pv)[c.it.toNat]? = some (.agg [.int .i64 x.drift, .bool x.std, .int .i64 x.val.lo, .int .i64 x.val.hi]) := by rw [List.getElem?_map, hx]; rfl
  obtain ⟨k, hk⟩ : ∃ k : Nat, c.it = k := ⟨c.it.toNat, by omega⟩
  rw [hk] at hg hi
  simp only [Int.toNat_natCast] at hg
  have hk2 : k < b.items.length := by omega
  simp [-getElem?_pos, -List.getElem?_map, hk, hg, hk2]
  rcases Bool.eq_false_or_eq_true x.std with e3 | e3
  · simp [-getElem?_pos, Bk.certB, e1, e2, hxi, e3]
  simp [-getElem?_pos, e3]
  refine call_gives (k := 0) (fs := []) (xs := [b.pv, .int .i64 c.src]) (cs := []) rfl rfl n3 rfl ?_
  cases e4 : b.hasItem c.src
  · simp [-getElem?_pos, Bk.certB, e1, e2, hxi, e3, e4]
  rcases Bool.eq_false_or_eq_true (decide (c.src = (k : Int))) with e5 | e5
  · simp [-getElem?_pos, -decide_eq_true_eq, -decide_eq_false_iff_not, Bk.certB, e1, e2, hxi, e3, e4, hk, e5]
  have e5' : decide (c.src ≠ (k : Int)) = true := by simp at e5 ⊢; exact e5
  simp [-getElem?_pos, -decide_eq_true_eq, -decide_eq_false_iff_not, e5, hk]
  refine call_gives (k := 0) rfl rfl n4 rfl ?_
  cases e6 : inB c.day 0 1000
  · simp [-getElem?_pos, Bk.certB, e1, e2, hxi, e3, e4, e6]
  simp [-getElem?_pos]
  refine call_gives (k := 0) rfl rfl n5 rfl ?_
  cases e7 : inB c.valid 0 1000
  · simp [-getElem?_pos, Bk.certB, e1, e2, hxi, e3, e4, e6, e7]
  simp [-getElem?_pos]
  refine call_gives (k := 0) (fs := []) (xs := [c.diff.pv]) (cs := []) rfl rfl n6 rfl ?_
  have e2' := e2
  rw [hk] at e2' hxi
  simp [-getElem?_pos, -decide_eq_true_eq, -decide_eq_false_iff_not, Bk.certB, e1, e2', hxi, e3, e4, e6, e7, hk, e5']
theorem most_c (a b : Int) : Gives Tryz.prog 146 [.lst false 1 [.int .i64 a, .int .i64 b]] (.int .i64 (max a b)) := by
  have hm : Gives Tryz.prog 204 [.lst false 1 [.int .i64 a, .int .i64 b]] (.int .i64 (max a b)) := by
    refine calls_of_awpS mixed L204_ok (Nat.le_of_ble_eq_true rfl) ?_
    simp [-getElem?_pos, L204]
    have hmx : (if a < b then b else a) = max a b := by split <;> omega
    refine awp_loopS (fun n τ => (n = 1 ∧ τ = ⟨[(0, .pv (.lst false 1 [.int .i64 a, .int .i64 b])), (3, .pv (.int .i64 a)), (4, .pv (.int .i64 1))], []⟩) ∨ (n = 0 ∧ τ = ⟨[(0, .pv (.lst false 1 [.int .i64 a, .int .i64 b])), (3, .pv (.int .i64 (max a b))), (4, .pv (.int .i64 2))], []⟩)) ⟨1, _, Sub.mk (by simp) (by simp), .inl ⟨rfl, rfl⟩⟩ ?_
    rintro J hJ n τ (⟨rfl, rfl⟩ | ⟨rfl, rfl⟩)
    · have hround := hJ _ _ (.inr ⟨rfl, rfl⟩)
      have hw : IntKind.i64.wrap 2 = 2 := rfl
      clear hJ
      simp [-getElem?_pos, hw]
      exact ⟨_, _, (by omega : 0 < 1), Sub.mk (by simp [hmx]) (by simp), hround⟩
    · simp [-getElem?_pos]
  refine calls_of_awpS mixed L146_ok (Nat.le_of_ble_eq_true rfl) ?_
  simp [-getElem?_pos, L146]
  refine call_gives (k := 0) (fs := []) (xs := [.lst false 1 [.int .i64 a, .int .i64 b]]) (cs := []) rfl rfl hm rfl ?_
  simp [-getElem?_pos]
theorem least_c (a b : Int) : Gives Tryz.prog 147 [.lst false 1 [.int .i64 a, .int .i64 b]] (.int .i64 (min a b)) := by
  have hm : Gives Tryz.prog 100 [.lst false 1 [.int .i64 a, .int .i64 b]] (.int .i64 (min a b)) := by
    refine calls_of_awpS mixed L100_ok (Nat.le_of_ble_eq_true rfl) ?_
    simp [-getElem?_pos, L100]
    have hmx : (if b < a then b else a) = min a b := by split <;> omega
    refine awp_loopS (fun n τ => (n = 1 ∧ τ = ⟨[(0, .pv (.lst false 1 [.int .i64 a, .int .i64 b])), (3, .pv (.int .i64 a)), (4, .pv (.int .i64 1))], []⟩) ∨ (n = 0 ∧ τ = ⟨[(0, .pv (.lst false 1 [.int .i64 a, .int .i64 b])), (3, .pv (.int .i64 (min a b))), (4, .pv (.int .i64 2))], []⟩)) ⟨1, _, Sub.mk (by simp) (by simp), .inl ⟨rfl, rfl⟩⟩ ?_
    rintro J hJ n τ (⟨rfl, rfl⟩ | ⟨rfl, rfl⟩)
    · have hround := hJ _ _ (.inr ⟨rfl, rfl⟩)
      have hw : IntKind.i64.wrap 2 = 2 := rfl
      clear hJ
      simp [-getElem?_pos, hw]
      exact ⟨_, _, (by omega : 0 < 1), Sub.mk (by simp [hmx]) (by simp), hround⟩
    · simp [-getElem?_pos]
  refine calls_of_awpS mixed L147_ok (Nat.le_of_ble_eq_true rfl) ?_
  simp [-getElem?_pos, L147]
  refine call_gives (k := 0) (fs := []) (xs := [.lst false 1 [.int .i64 a, .int .i64 b]]) (cs := []) rfl rfl hm rfl ?_
  simp [-getElem?_pos]
end Go.Proofs.YtaffbiibcfeigaaGreat
/-! Contracts of layer 2 (chain): what ranges have in common. -/
namespace Go.Proofs.YtaffbiibcfeigaaGreat
open Go.RowKit
attribute [local simp] Box.purge Site.isLoc
set_option maxRecDepth 10000
set_option linter.unusedSimpArgs false
def cutJ (r o : Cr) : AS := ⟨[(4, .ptr (.loc 4 0) 0), (10, .pv (.int .i64 (max r.lo o.lo))), (15, .vec (.loc 15 0) 1 0 2)], [(.loc 15 0, .arr 3 1 [.int .i64 r.hi, .int .i64 o.hi]), (.loc 4 0, .cells [.pv (.int .i64 0), .pv (.int .i64 0)])]⟩
theorem cut_c (r o : Cr) : Gives Tryz.prog 92 [r.pv, o.pv] (r.cut o).pv := by
  have a1 := most_c r.lo o.lo
  have a2 := least_c r.hi o.hi
  refine calls_of_awpS mixed L92_ok (Nat.le_of_ble_eq_true rfl) ?_
  simp [-getElem?_pos, L92, Cr.pv]
  refine ltS_seq (cutJ r o) ?_ ?_
  · simp [-getElem?_pos, ltS_alt, ltS_no]
    repeat' (with_reducible refine And.intro ?_ ?_)
    all_goals trace_state
    all_goals refine call_give (k := 1) (fs := []) (xs := [.lst false 1 [.int .i64 r.lo, .int .i64 o.lo]]) (cs := []) rfl rfl a1 rfl ?_
    all_goals simp [-getElem?_pos, ltS_alt, ltS_no]
    all_goals refine Sub.mk ?_ ?_
    all_goals simp [cutJ]
  · simp [-getElem?_pos, ltS_alt, ltS_no, cutJ]
    refine call_gives (k := 1) (fs := []) (xs := [.lst false 1 [.int .i64 r.hi, .int .i64 o.hi]]) (cs := []) rfl rfl a2 rfl ?_
    simp [-getElem?_pos, ltS_alt, ltS_no, Cr.cut]
end Go.Proofs.YtaffbiibcfeigaaGreat
/-! Layer 2 (chain): what reading a book comes to, plain. -/
namespace Go.Proofs.YtaffbiibcfeigaaGreat
open Go.RowKit
set_option maxRecDepth 10000
set_option linter.unusedSimpArgs false
theorem Sub.frz {σ : AS} (fz : List Site) : Sub (frzsL fz σ) σ := fun _ _ _ _ ρ _ _ _ hS => let ⟨m', _, h⟩ := hS.frzsL fz; ⟨ρ, m', h⟩
abbrev kI : KT := ⟨false, [.int .i64]⟩
theorem eqK_int {a b : Int} : eqK (.int .i64 a) (.int .i64 b) = decide (a = b) := by
  show ((a == b) && true) = _
  rw [Bool.and_true, Bool.eq_iff_iff]; simp
theorem eqK_ct {a b : Ct} : eqK a.pv b.pv = decide (a = b) := by
  obtain ⟨a1, a2, a3, a4, a5, a6, a7⟩ := a
  obtain ⟨b1, b2, b3, b4, b5, b6, b7⟩ := b
  rw [Bool.eq_iff_iff]
  simp [eqK, eqL, eqC, Ct.pv, PV.cells]
/-- Maps by integers. -/
def mapI {α : Type} (f : α → Int) (g : α → PV) (l : List α) : List (PV × PV) := l.map fun c => (.int .i64 (f c), g c)
theorem keys_mapI {α : Type} {f : α → Int} {g : α → PV} {l : List α} : keysOk kI (mapI f g l) = true := by
  unfold keysOk mapI
  rw [List.all_eq_true]
  intro p hp
  obtain ⟨c, _, rfl⟩ := List.mem_map.1 hp
  rfl
theorem find_mapI {α : Type} {f : α → Int} {g : α → PV} {n : Int} : ∀ {l : List α}, findV (.int .i64 n) (mapI f g l) = (l.find? fun c => decide (f c = n)).map g
  | [] => rfl
  | c :: r => by
    have ih := find_mapI (f := f) (g := g) (n := n) (l := r)
    unfold mapI at ih ⊢
    rw [List.map_cons, findV, eqK_int, List.find?_cons]
    by_cases h : n = f c
    · rw [decide_eq_true h, decide_eq_true h.symm]; rfl
    · rw [decide_eq_false h, decide_eq_false (fun e => h e.symm)]; exact ih
theorem put_mapI {α : Type} {f : α → Int} {g : α → PV} {n : Int} {v : PV} : ∀ {l : List α}, (∀ c ∈ l, f c ≠ n) → putK (.int .i64 n) v (mapI f g l) = mapI f g l ++ [(.int .i64 n, v)]
  | [], _ => rfl
  | c :: r, h => by
    have ih := put_mapI (f := f) (g := g) (n := n) (v := v) (l := r) (fun x hx => h x (by simp [hx]))
    unfold mapI at ih ⊢
    rw [List.map_cons, putK, eqK_int, decide_eq_false (fun e => h c (by simp) e.symm)]
    show _ :: putK _ _ _ = _
    rw [ih]; rfl
/-- The certificates by their first place. -/
def addC (acc : List Ct) (c : Ct) : List Ct := match acc.find? (fun o => decide (o.num = c.num)) with
  | some _ => acc
  | none => acc ++ [c]
def Bk.fst (b : Bk) (k : Nat) : List Ct := (b.certs.take k).foldl addC []
def entC (l : List Ct) : List (PV × PV) := mapI Ct.num Ct.pv l
theorem fst_succ {b : Bk} {k : Nat} {c : Ct} (h : b.certs[k]? = some c) : b.fst (k + 1) = addC (b.fst k) c := by
  unfold Bk.fst
  rw [List.take_add_one, h, List.foldl_append]; rfl
theorem mem_addC {acc : List Ct} {c x : Ct} (h : x ∈ addC acc c) : x ∈ acc ∨ x = c := by
  unfold addC at h
  split at h
  · exact .inl h
  · simpa using h
theorem fst_sub {b : Bk} : ∀ k, ∀ x ∈ b.fst k, x ∈ b.certs.take k
  | 0, x, h => by cases h
  | k + 1, x, h => by
    cases hc : b.certs[k]? with
    | none =>
      rw [List.getElem?_eq_none_iff] at hc
      unfold Bk.fst at h
      rw [List.take_of_length_le (by omega)] at h ⊢
      have := fst_sub (b := b) k x (by unfold Bk.fst; rw [List.take_of_length_le (by omega)]; exact h)
      rwa [List.take_of_length_le (by omega)] at this
    | some c =>
      rw [fst_succ hc] at h
      rw [List.take_add_one, hc, List.mem_append]
      rcases mem_addC h with h | h
      · exact .inl (fst_sub k x h)
      · right; simp [h]
theorem fst_nodup {b : Bk} : ∀ k, (b.fst k).Pairwise (fun x y => x.num ≠ y.num)
  | 0 => List.Pairwise.nil
  | k + 1 => by
    cases hc : b.certs[k]? with
    | none =>
      rw [List.getElem?_eq_none_iff] at hc
      have := fst_nodup (b := b) k
      unfold Bk.fst at this ⊢
      rw [List.take_of_length_le (by omega)] at this ⊢
      exact this
    | some c =>
      rw [fst_succ hc]
      unfold addC
      split
      · exact fst_nodup k
      · rename_i h
        rw [List.find?_eq_none] at h
        rw [List.pairwise_append]
        refine ⟨fst_nodup k, by simp, fun x hx y hy => ?_⟩
        simp at hy; subst hy
        simpa using h x hx
/-- So far no two differ. -/
def Bk.same (b : Bk) (k : Nat) : Prop := ∀ c ∈ b.certs.take k, c ∈ b.fst k
theorem same_next {b : Bk} {k : Nat} {c : Ct} (h : b.certs[k]? = some c) (hs : b.same k) (hf : ∀ o, (b.fst k).find? (fun o => decide (o.num = c.num)) = some o → o = c) : b.same (k + 1) := by
  intro x hx
  rw [List.take_add_one, h, List.mem_append] at hx
  rw [fst_succ h]
  unfold addC
  cases ho : (b.fst k).find? (fun o => decide (o.num = c.num)) with
  | none =>
    rcases hx with hx | hx
    · simp [hs x hx]
    · simp at hx; simp [hx]
  | some o =>
    rcases hx with hx | hx
    · exact hs x hx
    · simp at hx; subst hx
      have := hf o ho
      subst this
      exact List.mem_of_find?_eq_some ho
/-- The numbers, rising. -/
theorem same_nums {b : Bk} (h1 : ∀ c ∈ b.certs, 1 ≤ c.num ∧ c.num ≤ 999) (hs : b.same b.certs.length) : sortI ((b.fst b.certs.length).map Ct.num) = b.nums ∧ (∀ x ∈ b.certs, ∀ y ∈ b.certs, x.num = y.num → x = y) := by
  have hsub := fst_sub (b := b) b.certs.length
  unfold Bk.same at hs
  rw [List.take_length] at hs hsub
  have hnd := fst_nodup (b := b) b.certs.length
  refine ⟨?_, fun x hx y hy e => ?_⟩
  · refine inc_ext ?_ nums_sorted (fun x => ?_)
    · have h1 := sortI_sorted ((b.fst b.certs.length).map Ct.num)
      have h2 : (sortI ((b.fst b.certs.length).map Ct.num)).Nodup := by
        rw [(sortI_perm _).nodup_iff]
        exact List.pairwise_map.2 hnd
      exact (h1.and h2).imp (fun {a c} h => by have := h.2; omega)
    · rw [(sortI_perm _).mem_iff]
      unfold Bk.nums
      simp only [List.mem_map, List.mem_filter, List.mem_range, List.any_eq_true, decide_eq_true_eq]
      constructor
      · rintro ⟨c, hc, rfl⟩
        have hb := h1 c (hsub c hc)
        exact ⟨c.num.toNat, ⟨by omega, c, hsub c hc, by omega⟩, by show ((c.num.toNat : Nat) : Int) = c.num; omega⟩
      · rintro ⟨n, ⟨_, c, hc, e⟩, rfl⟩
        exact ⟨c, hs c hc, e⟩
  · have hp : ∀ {l : List Ct}, l.Pairwise (fun x y => x.num ≠ y.num) → ∀ x ∈ l, ∀ y ∈ l, x.num = y.num → x = y := by
      intro l hl
      induction hl with
      | nil => intro x hx; cases hx
      | cons h _ ih =>
        intro x hx y hy e
        rcases List.mem_cons.1 hx with e1 | hx1 <;> rcases List.mem_cons.1 hy with e2 | hy1
        · rw [e1, e2]
        · subst e1; exact absurd e (h y hy1)
        · subst e2; exact absurd e.symm (h x hx1)
        · exact ih x hx1 y hy1 e
    exact hp hnd x (hs x hx) y (hs y hy) e
theorem twice_two {b : Bk} {x y : Ct} (hx : x ∈ b.certs) (hy : y ∈ b.certs) (e : x.num = y.num) (hne : x ≠ y) : b.twice = true := by
  unfold Bk.twice
  rw [List.any_eq_true]
  refine ⟨x, hx, ?_⟩
  rw [List.any_eq_true]
  exact ⟨y, hy, by simp [e, hne]⟩
theorem twice_day {b : Bk} {x y : Ct} (hx : x ∈ b.certs) (hy : y ∈ b.certs) (e : y.num < x.num) (hd : x.day < y.day) : b.twice = true := by
  unfold Bk.twice
  rw [List.any_eq_true]
  refine ⟨x, hx, ?_⟩
  rw [List.any_eq_true]
  exact ⟨y, hy, by simp [e, hd]⟩
theorem once_of {b : Bk} (h1 : ∀ x ∈ b.certs, ∀ y ∈ b.certs, x.num = y.num → x = y) (h2 : ∀ x ∈ b.certs, ∀ y ∈ b.certs, y.num < x.num → y.day ≤ x.day) : b.twice = false := by
  cases h : b.twice
  · rfl
  · unfold Bk.twice at h
    rw [List.any_eq_true] at h
    obtain ⟨x, hx, h⟩ := h
    rw [List.any_eq_true] at h
    obtain ⟨y, hy, h⟩ := h
    simp only [Bool.or_eq_true, Bool.and_eq_true, decide_eq_true_eq] at h
    rcases h with ⟨e, h⟩ | ⟨e, h⟩
    · exact absurd (h1 x hx y hy e) h
    · have := h2 x hx y hy e; omega
/-- Days rise with the numbers if they do from each one to the next. -/
theorem days_of {l : List Int} (f : Int → Int) (hs : l.Pairwise (· < ·)) (h : ∀ (i : Nat) (x y : Int), l[i]? = some x → l[i + 1]? = some y → f x ≤ f y) : ∀ x ∈ l, ∀ y ∈ l, y < x → f y ≤ f x := by
  induction hs with
  | nil => intro x hx; cases hx
  | @cons a r ha hr ih =>
    have ih' := ih (fun i x y h1 h2 => h (i + 1) x y (by simpa using h1) (by simpa using h2))
    have first : ∀ x ∈ r, f a ≤ f x := by
      intro x hx
      cases r with
      | nil => cases hx
      | cons c t =>
        have hac := h 0 a c rfl rfl
        rcases List.mem_cons.1 hx with rfl | hx'
        · exact hac
        · have h2 := (List.pairwise_cons.1 hr).1 x hx'
          have := ih' x (by simp [hx']) c (by simp) h2
          omega
    intro x hx y hy e
    rcases List.mem_cons.1 hx with e1 | hx1 <;> rcases List.mem_cons.1 hy with e2 | hy1
    · omega
    · have := ha y hy1; omega
    · rw [e2]; exact first x hx1
    · exact ih' x hx1 y hy1 e
/-- The map of a book's certificates. -/
structure CMap (b : Bk) (es : List (PV × PV)) : Prop where
  k : keysOk kI es = true
  f : ∀ n : Int, findV (.int .i64 n) es = if n ∈ b.nums then some (b.get n).pv else none
theorem cmap_of {b : Bk} (hb : b.ok) (hs : b.same b.certs.length) : CMap b (entC (b.fst b.certs.length)) := by
  refine ⟨keys_mapI, fun n => ?_⟩
  have hsub := fst_sub (b := b) b.certs.length
  unfold Bk.same at hs
  rw [List.take_length] at hs hsub
  unfold entC
  rw [find_mapI]
  cases hf : (b.fst b.certs.length).find? (fun c => decide (c.num = n)) with
  | none =>
    rw [if_neg]
    · rfl
    · intro hn
      obtain ⟨c, hc, e⟩ := (mem_nums hb).1 hn
      rw [List.find?_eq_none] at hf
      exact absurd e (by simpa using hf c (hs c hc))
  | some c =>
    have h1 := hsub c (List.mem_of_find?_eq_some hf)
    have h2 := List.find?_some hf
    simp only [decide_eq_true_eq] at h2
    subst h2
    rw [if_pos ((mem_nums hb).2 ⟨c, h1, rfl⟩), get_of hb h1]; rfl
end Go.Proofs.YtaffbiibcfeigaaGreat
/-! Contracts of layer 2 (chain): a list without elements is sorted. -/
namespace Go.Proofs.YtaffbiibcfeigaaGreat
open Go.RowKit
attribute [local simp] Box.purge Site.isLoc
set_option maxRecDepth 10000
set_option linter.unusedSimpArgs false
theorem calls_every {P : Program} {f : FuncId} {xs : List PV} {y : PV} (hc : Callable P f) (h : ∀ (w : World) (m : Mem) (vs : Array Value), vs.size = xs.length → (∀ (j : Nat) (d : Value) (c : PV), vs[j]? = some d → xs[j]? = some c → RdP m d c) → Calls P f vs w (fun e w' => (∃ v, e = .returned v ∧ RdP m v y) ∧ w' = w)) : Gives P f xs y := by
  refine ⟨hc, fun w m ρ vs hB hm hsz hrd => (h w m vs (by simpa using hsz) (fun j d c k1 k2 => (hrd j d (.pv c) k1 (by rw [List.getElem?_map, k2]; rfl)).pv_inv)).mono ?_⟩
  rintro e w' ⟨⟨v, rfl, hv⟩, rfl⟩
  exact ⟨v, .pv y, [], ρ, m, rfl, ⟨rfl, rfl⟩, Bxs.nil _ _ _, Le.refl m, hm, fun _ => rfl, fun s b k hs => by simp [List.lookup] at hs, fun b o v h => .inl h, .pv _ _ hv, Keep.rfl' _ _⟩
theorem bits_c (x : Int) (h0 : 0 ≤ x) (h1 : x ≤ 18446744073709551615) : Gives Tryz.prog 203 [.int .u64 x] (.int .i64 (Lib.bitLen x.toNat)) := by
  refine calls_every ⟨_, _, Tryz.func203, by decide +kernel, rfl⟩ (fun w m vs hsz hrd => ?_)
  obtain ⟨v, rfl⟩ : ∃ v, vs = #[v] := by
    match vs, hsz with
    | ⟨[v]⟩, _ => exact ⟨v, rfl⟩
  have hv := hrd 0 v _ rfl rfl
  cases hv
  have hD : ∀ D, _ := fun D => AnyS.bits_LenInS { Tryz.lays189 with } D x w h0 h1
  have := calls_of_every_depth hD
  refine this.mono ?_
  rintro e w' ⟨rfl, rfl⟩
  exact ⟨⟨_, rfl, .int _ _⟩, rfl⟩
theorem isort0_c : Gives Tryz.prog 241 [.emp (some true), .int .i64 0, .int .i64 0] (.tup []) := by
  refine calls_of_awpS mixed L241_ok (Nat.le_of_ble_eq_true rfl) ?_
  have hw0 : IntKind.i64.wrap 1 = 1 := rfl
  simp [-getElem?_pos, L241, hw0]
  refine awp_loopS (fun n τ => n = 0 ∧ τ = ⟨[(0, .pv (.emp (some true))), (1, .pv (.int .i64 0)), (2, .pv (.int .i64 0)), (6, .pv (.int .i64 1))], []⟩) ⟨0, _, Sub.mk (by simp) (by simp), rfl, rfl⟩ ?_
  rintro J hJ n τ ⟨rfl, rfl⟩
  simp [-getElem?_pos]
theorem pdq0_c (m : Int) : Gives Tryz.prog 202 [.emp (some true), .int .i64 0, .int .i64 0, .int .i64 m] (.tup []) := by
  refine calls_of_awpS mixed L202_ok (Nat.le_of_ble_eq_true rfl) ?_
  have hw0 : IntKind.i64.wrap 0 = 0 := rfl
  simp [-getElem?_pos, L202, hw0]
  refine awp_loopS (fun n τ => n = 0 ∧ τ = ⟨[(0, .pv (.emp (some true))), (1, .pv (.int .i64 0)), (2, .pv (.int .i64 0))], []⟩) ⟨0, _, Sub.mk (by simp) (by simp), rfl, rfl⟩ ?_
  rintro J hJ n τ ⟨rfl, rfl⟩
  simp [-getElem?_pos, hw0]
  refine call_gives (k := 0) (fs := []) (xs := [.emp (some true), .int .i64 0, .int .i64 0]) (cs := []) rfl rfl isort0_c rfl ?_
  simp [-getElem?_pos]
theorem sort0_c : Gives Tryz.prog 140 [.emp (some true)] (.tup []) := by
  refine calls_of_awpS mixed L140_ok (Nat.le_of_ble_eq_true rfl) ?_
  have hw0 : IntKind.u64.wrap 0 = 0 := rfl
  simp [-getElem?_pos, L140, hw0]
  refine call_gives (k := 0) (fs := []) (xs := [.int .u64 0]) (cs := []) rfl rfl (bits_c 0 (by omega) (by omega)) rfl ?_
  simp [-getElem?_pos]
  refine call_gives (k := 0) (fs := []) (xs := [.emp (some true), .int .i64 0, .int .i64 0, .int .i64 (Lib.bitLen (0 : Int).toNat)]) (cs := []) rfl rfl (pdq0_c _) rfl ?_
  simp [-getElem?_pos]
end Go.Proofs.YtaffbiibcfeigaaGreat
/-! Contracts of layer 2 (chain): read. -/
namespace Go.Proofs.YtaffbiibcfeigaaGreat
open Go.RowKit
set_option maxRecDepth 10000
set_option linter.unusedSimpArgs false
attribute [local simp] Box.purge Site.isLoc
attribute [local simp] AS.exp expG Box.ren AV.map AV.mapL noRet Site.isRet Box.allS AV.allS AV.allSL
/-- A book that is worked on: its cells; the map is a box beside it. -/
def wkC (b : Bk) (m : Site) (Z : List AV) : List AV := .pv (itsP b.items) :: .pv (ctsP b.certs) :: .mp m :: .pv (.lst false 1 (b.nums.map intP)) :: Z
def bad0 : List AV := List.replicate 1000 (.pv (.bool false))
def Bk.cells (b : Bk) : List AV := [.pv (itsP b.items), .pv (ctsP b.certs)]
def rdK (b : Bk) (k : Nat) : AS := ⟨[(1, .ptr (.loc 1 0) 0), (4, .ptr (.loc 38 0) 0), (40, .pv (ctsP b.certs)), (41, .pv (.int .i64 b.certs.length)), (42, .pv (.int .i64 k))],
  [(.loc 79 0, .arr 3 1 ((b.fst k).map fun c => intP c.num)), (.loc 38 0, .cells (.pv (itsP b.items) :: .pv (ctsP b.certs) :: .mp (.loc 36 0) :: .vec (.loc 79 0) 1 0 (b.fst k).length :: bad0)), (.loc 36 0, .map (entC (b.fst k))), (.loc 1 0, .cells b.cells)]⟩
def rdR (b : Bk) (r : AV) (B : List (Site × Box)) : Prop :=
  (b.fault ≠ 0 ∧ r = .pv (.tup [.nilp, .int .i64 b.fault]) ∧ B = []) ∨
  (b.fault = 0 ∧ ∃ es, CMap b es ∧ r = .tup [.ptr (.ret 0) 0, .pv (.int .i64 0)] ∧ B = [(.ret 0, .cells (wkC b (.ret 1) bad0)), (.ret 1, .map es)])
theorem hasL_rep {d n : Nat} {x : AV} (h : x.has d = false) : AV.hasL d (List.replicate n x) = false := by
  induction n with
  | zero => rfl
  | succ n ih => rw [List.replicate_succ]; simp only [AV.hasL, h, ih]; rfl
theorem allSL_rep {q : Site → Bool} {n : Nat} {x : AV} (h : x.allS q = true) : AV.allSL q (List.replicate n x) = true := by
  induction n with
  | zero => rfl
  | succ n ih => rw [List.replicate_succ]; simp only [AV.allSL, h, ih]; rfl
theorem bad0_def : List.replicate 1000 (AV.pv (.bool false)) = bad0 := rfl
theorem bad0_has (d : Nat) : AV.hasL d bad0 = false := hasL_rep rfl
theorem bad0_all (q : Site → Bool) : AV.allSL q bad0 = true := allSL_rep rfl
theorem bad0_purge (d : Nat) : bad0.map (AV.purge d) = bad0 := List.map_replicate
theorem bad0_len : bad0.length = 1000 := List.length_replicate
theorem mapL_rep {g : Site → Site} {n : Nat} {x : PV} : AV.mapL g (List.replicate n (.pv x)) = List.replicate n (.pv x) := by
  induction n with
  | zero => rfl
  | succ n ih => rw [List.replicate_succ]; simp only [AV.mapL, AV.map, ih]
theorem bad0_map (g : Site → Site) : AV.mapL g bad0 = bad0 := mapL_rep
theorem wrapK {k : Nat} (h : k ≤ 1000000) : IntKind.i64.wrap ((k : Int) + 1) = ((k + 1 : Nat) : Int) := by rw [wrap64 (by omega)]; omega
theorem fst_len {b : Bk} : ∀ k, (b.fst k).length ≤ k
  | 0 => Nat.le_refl _
  | k + 1 => by
    have ih := fst_len (b := b) k
    cases hc : b.certs[k]? with
    | none =>
      rw [List.getElem?_eq_none_iff] at hc
      unfold Bk.fst at ih ⊢
      rw [List.take_of_length_le (by omega)] at ih ⊢
      omega
    | some c =>
      rw [fst_succ hc]
      unfold addC
      split
      · omega
      · rw [List.length_append]; simp; omega
theorem get_of' {b : Bk} (h1 : ∀ x ∈ b.certs, ∀ y ∈ b.certs, x.num = y.num → x = y) {c : Ct} (hc : c ∈ b.certs) : b.get c.num = c := by
  unfold Bk.get
  cases hf : b.certs.find? (fun x => decide (x.num = c.num)) with
  | none =>
    rw [List.find?_eq_none] at hf
    have := hf c hc
    simp at this
  | some x =>
    have k1 := List.mem_of_find?_eq_some hf
    have k2 := List.find?_some hf
    simp only [decide_eq_true_eq] at k2
    exact h1 x k1 c hc k2
theorem mem_nums' {b : Bk} (h1 : ∀ c ∈ b.certs, 1 ≤ c.num ∧ c.num ≤ 999) {x : Int} : x ∈ b.nums ↔ ∃ c ∈ b.certs, c.num = x := by
  unfold Bk.nums
  simp only [List.mem_map, List.mem_filter, List.mem_range, List.any_eq_true, decide_eq_true_eq]
  constructor
  · rintro ⟨n, ⟨_, c, hc, e⟩, rfl⟩
    exact ⟨c, hc, e⟩
  · rintro ⟨c, hc, rfl⟩
    have hb := h1 c hc
    exact ⟨c.num.toNat, ⟨by omega, c, hc, by omega⟩, by show ((c.num.toNat : Nat) : Int) = c.num; omega⟩
theorem find_get {b : Bk} (h1 : ∀ c ∈ b.certs, 1 ≤ c.num ∧ c.num ≤ 999) (h2 : ∀ x ∈ b.certs, ∀ y ∈ b.certs, x.num = y.num → x = y) (hs : b.same b.certs.length) {n : Int} (hn : n ∈ b.nums) : findV (.int .i64 n) (entC (b.fst b.certs.length)) = some (b.get n).pv ∧ (b.get n).num = n ∧ b.get n ∈ b.certs := by
  obtain ⟨c, hc, rfl⟩ := (mem_nums' h1).1 hn
  rw [get_of' h2 hc]
  refine ⟨?_, rfl, hc⟩
  have hsub := fst_sub (b := b) b.certs.length
  unfold Bk.same at hs
  rw [List.take_length] at hs hsub
  unfold entC
  rw [find_mapI]
  cases hf : (b.fst b.certs.length).find? (fun x => decide (x.num = c.num)) with
  | none =>
    rw [List.find?_eq_none] at hf
    have := hf c (hs c hc)
    simp at this
  | some x =>
    have k1 := hsub x (List.mem_of_find?_eq_some hf)
    have k2 := List.find?_some hf
    simp only [decide_eq_true_eq] at k2
    rw [h2 x k1 c hc k2]; rfl
/-- The second loop. -/
def rdL (b : Bk) (es : List (PV × PV)) (k : Nat) : AS := ⟨[(1, .ptr (.loc 1 0) 0), (4, .ptr (.loc 38 0) 0), (91, .pv (.lst false 1 (b.nums.map intP))), (92, .pv (.int .i64 b.nums.length)), (93, .pv (.int .i64 k))],
  [(.loc 38 0, .cells (wkC b (.loc 36 0) bad0)), (.loc 36 0, .map es), (.loc 1 0, .cells b.cells)]⟩
theorem bad0_frz {s : Site} {n : Nat} {xs : List PV} : AV.frzL s n xs bad0 = bad0 := by
  have : ∀ k, AV.frzL s n xs (List.replicate k (.pv (.bool false))) = List.replicate k (.pv (.bool false)) := fun k => by
    induction k with
    | zero => rfl
    | succ k ih => rw [List.replicate_succ]; simp only [AV.frzL, AV.frz, ih]
  exact this 1000
theorem fault_big {b : Bk} (h : b.big = true) : b.fault = 3 := by unfold Bk.fault; rw [if_pos h]
theorem fault_bad {b : Bk} (h0 : b.big = false) (h : b.bad = true) : b.fault = 1 := by unfold Bk.fault; rw [if_neg (by simp [h0]), if_pos h]
theorem fault_two {b : Bk} (h0 : b.big = false) (h1 : b.bad = false) (h : b.twice = true) : b.fault = 6 := by unfold Bk.fault; rw [if_neg (by simp [h0]), if_neg (by simp [h1]), if_pos h]
theorem fault_no {b : Bk} (h0 : b.big = false) (h1 : b.bad = false) (h : b.twice = false) : b.fault = 0 := by unfold Bk.fault; rw [if_neg (by simp [h0]), if_neg (by simp [h1]), if_neg (by simp [h])]
def itQ : PV → Bool
  | .agg [.int _ d, .bool t, .int _ lo, .int _ hi] => It.okB ⟨d, t, ⟨lo, hi⟩⟩
  | _ => false
def ctQ (b : Bk) : PV → Bool
  | .agg [.int _ n, .int _ i, .int _ s, .int _ d, .int _ v, .int _ lo, .int _ hi] => b.certB ⟨n, i, s, d, v, ⟨lo, hi⟩⟩
  | _ => false
theorem itsA (b : Bk) (hi : b.items.length ≤ 1000) : Gives Tryz.prog 136 [itsP b.items, .fn 137 [] []] (.bool (b.items.all It.okB)) := by
  have a1 := allIt_c (b.items.map It.pv) 137 [] [] itQ (fun x hx => by
    obtain ⟨y, _, rfl⟩ := List.mem_map.1 hx
    exact ivalid_c y) (by rw [List.length_map]; omega) (fun x hx => by
    obtain ⟨y, _, rfl⟩ := List.mem_map.1 hx
    exact ⟨_, _, _, _, rfl⟩)
  rw [List.all_map] at a1
  exact a1
theorem ctsA (b : Bk) (hi : b.items.length ≤ 1000) (hc : b.certs.length ≤ 1000) : Gives Tryz.prog 138 [ctsP b.certs, .fn 139 [b.pv] []] (.bool (b.certs.all b.certB)) := by
  have a1 := allCt_c (b.certs.map Ct.pv) 139 [b.pv] [] (ctQ b) (fun x hx => by
    obtain ⟨y, _, rfl⟩ := List.mem_map.1 hx
    exact cert_c b y hi) (by rw [List.length_map]; omega) (fun x hx => by
    obtain ⟨y, _, rfl⟩ := List.mem_map.1 hx
    exact ⟨_, _, _, _, _, _, _, rfl⟩)
  rw [List.all_map] at a1
  exact a1
set_option maxHeartbeats 16000000 in
theorem read_c (b : Bk) (hi : b.items.length ≤ 1000) (hc : b.certs.length ≤ 1000) : CallsA Tryz.prog 83 [.pv b.pv] [] (rdR b) := by
  have a1 := itsA b hi
  have a2 := ctsA b hi hc
  refine calls_of_awpE mixed L83_ok (Nat.le_of_ble_eq_true rfl) ?_
  generalize hR : rdR b = R
  have rerr : ∀ e : Int, b.fault = e → e ≠ 0 → R (.pv (.tup [.nilp, .int .i64 e])) [] := fun e h h0 => by
    rw [← hR]; exact .inl ⟨by rw [h]; exact h0, by rw [h], rfl⟩
  by_cases c1 : 8 < b.items.length
  · have d1 : decide ((8 : Int) < (b.items.length : Int)) = true := by simp; omega
    have := rerr 3 (fault_big (by simp [Bk.big, c1])) (by omega)
    simp [-getElem?_pos, -List.reduceReplicate, -decide_eq_true_eq, -decide_eq_false_iff_not, L83, Bk.pv, itsP, ctsP, d1]
    exact ⟨[], by simpa [retB, outsOk] using this⟩
  have d1 : decide ((8 : Int) < (b.items.length : Int)) = false := by simp; omega
  by_cases c2 : 24 < b.certs.length
  · have d2 : decide ((24 : Int) < (b.certs.length : Int)) = true := by simp; omega
    have := rerr 3 (fault_big (by simp [Bk.big, c2])) (by omega)
    simp [-getElem?_pos, -List.reduceReplicate, -decide_eq_true_eq, -decide_eq_false_iff_not, L83, Bk.pv, itsP, ctsP, d1, d2]
    exact ⟨[], by simpa [retB, outsOk] using this⟩
  have d2 : decide ((24 : Int) < (b.certs.length : Int)) = false := by simp; omega
  have hbig : b.big = false := by simp [Bk.big]; omega
  simp [-getElem?_pos, -List.reduceReplicate, -decide_eq_true_eq, -decide_eq_false_iff_not, L83, Bk.pv, itsP, ctsP, d1, d2]
  refine call_gives (k := 4) (fs := []) (xs := [itsP b.items, .fn 137 [] []]) (cs := []) rfl rfl a1 rfl ?_
  cases e1 : b.items.all It.okB
  · have := rerr 1 (fault_bad hbig (by simp only [Bk.bad, e1]; rfl)) (by omega)
    simp [-getElem?_pos, -List.reduceReplicate]
    exact ⟨[], by simpa [retB, outsOk] using this⟩
  simp [-getElem?_pos, -List.reduceReplicate]
  refine call_gives (k := 4) (fs := []) (xs := [ctsP b.certs, .fn 139 [b.pv] []]) (cs := []) rfl rfl a2 rfl ?_
  cases e2 : b.certs.all b.certB
  · have := rerr 1 (fault_bad hbig (by simp only [Bk.bad, e1, e2]; rfl)) (by omega)
    simp [-getElem?_pos, -List.reduceReplicate]
    exact ⟨[], by simpa [retB, outsOk] using this⟩
  have hbad : b.bad = false := by simp only [Bk.bad, e1, e2]; rfl
  simp [-getElem?_pos, -List.reduceReplicate, bad0_def, bad0_def, bad0_has, bad0_purge, bad0_len]
  by_cases hne : b.certs = []
  · have hn0 : b.nums = [] := by unfold Bk.nums; rw [hne]; simp
    have htw : b.twice = false := by unfold Bk.twice; rw [hne]; rfl
    have hs : b.same b.certs.length := by intro c hc'; rw [hne] at hc'; simp at hc'
    have hcm := cmap_of (Bk.ok_iff.1 (fault_no hbig hbad htw)) hs
    have hes : entC (b.fst b.certs.length) = [] := by unfold Bk.fst; rw [hne]; rfl
    rw [hes] at hcm
    have hl0 : b.certs.length = 0 := by rw [hne]; rfl
    have rok : R (.tup [.ptr (.ret 0) 0, .pv (.int .i64 0)]) [(.ret 0, .cells (wkC b (.ret 1) bad0)), (.ret 1, .map [])] := by
      rw [← hR]
      exact .inr ⟨fault_no hbig hbad htw, _, hcm, rfl, rfl⟩
    refine awp_loopS (fun n τ => n = 0 ∧ τ = ⟨[(1, .ptr (.loc 1 0) 0), (4, .ptr (.loc 38 0) 0), (41, .pv (.int .i64 0)), (42, .pv (.int .i64 0))],
      [(.loc 38 0, .cells (.pv (itsP b.items) :: .pv (ctsP b.certs) :: .mp (.loc 36 0) :: .pv (.emp (some true)) :: bad0)), (.loc 36 0, .map []), (.loc 1 0, .cells b.cells)]⟩) ⟨0, _, Sub.mk (by simp [hl0]) (by simp [Bk.cells, itsP, ctsP, bad0_purge, bad0_has]), rfl, rfl⟩ ?_
    rintro J hJ n τ ⟨rfl, rfl⟩
    clear hJ
    simp [-getElem?_pos]
    refine call_gives (k := 0) (fs := []) (xs := [.emp (some true)]) (cs := []) rfl rfl sort0_c rfl ?_
    simp [-getElem?_pos]
    refine awp_loopS (fun n τ => n = 0 ∧ τ = ⟨[(1, .ptr (.loc 1 0) 0), (4, .ptr (.loc 38 0) 0), (92, .pv (.int .i64 0)), (93, .pv (.int .i64 0))], [(.loc 38 0, .cells (wkC b (.loc 36 0) bad0)), (.loc 36 0, .map []), (.loc 1 0, .cells b.cells)]⟩) ⟨0, _, Sub.trans' (Sub.mk (by simp) (by simp [wkC, bad0_purge, Bk.cells, hn0])) (Sub.wkC (s := .loc 38 0) (i := 3) («as» := .pv (itsP b.items) :: .pv (ctsP b.certs) :: .mp (.loc 36 0) :: .pv (.emp (some true)) :: bad0) (a := .pv (.emp (some true))) (.pv (.lst false 1 [])) (by simp [bad0_purge]) rfl (wk_pv fun m v h => emp_lst h)), rfl, rfl⟩ ?_
    rintro J hJ n τ ⟨rfl, rfl⟩
    simp [-getElem?_pos, wkC, hn0]
    refine ⟨[.loc 38 0, .loc 36 0], ?_⟩
    simp [retB, outsOk, bad0_all, bad0_map]
    unfold wkC at rok
    rw [hn0] at rok
    exact rok
  refine awp_loopS (fun n τ => ∃ k : Nat, k ≤ b.certs.length ∧ n = b.certs.length - k ∧ b.same k ∧ τ = rdK b k) ⟨b.certs.length, rdK b 0, Sub.trans' (Sub.mk (by simp [rdK, AS.vecC, ctsP]) (by simp [rdK, AS.vecC, Bk.cells, itsP, ctsP, Bk.fst, entC, mapI, bad0_purge, bad0_has]))
    (vecC 79 3 1 (s := .loc 38 0) (cs := .pv (.lst false 4 (b.items.map It.pv)) :: .pv (.lst false 7 (b.certs.map Ct.pv)) :: .mp (.loc 36 0) :: .pv (.emp (some true)) :: bad0) 3 (by simp [bad0_purge]) rfl (by decide)), 0, Nat.zero_le _, rfl, (fun c hc => by cases hc), rfl⟩ ?_
  rintro J hJ n τ ⟨k, hk, rfl, hs, rfl⟩
  by_cases hlt : k < b.certs.length
  · obtain ⟨c, hck⟩ : ∃ c, b.certs[k]? = some c := ⟨b.certs[k], List.getElem?_eq_getElem hlt⟩
    have hg : (b.certs.map Ct.pv)[k]? = some (.agg [.int .i64 c.num, .int .i64 c.it, .int .i64 c.src, .int .i64 c.day, .int .i64 c.valid, .int .i64 c.diff.lo, .int .i64 c.diff.hi]) := by rw [List.getElem?_map, hck]; rfl
    have hw := wrapK (k := k) (by omega)
    have hfv := find_mapI (f := Ct.num) (g := Ct.pv) (n := c.num) (l := b.fst k)
    have hko : keysOk kI (entC (b.fst k)) = true := keys_mapI
    have hfl := fst_len (b := b) k
    have hmeas : b.certs.length - (k + 1) < b.certs.length - k := by omega
    have hfs := fst_succ hck
    cases ho : (b.fst k).find? (fun o => decide (o.num = c.num)) with
    | some o =>
      rw [ho] at hfv
      have hfv' : findV (.int .i64 c.num) (entC (b.fst k)) = some (.agg [.int .i64 o.num, .int .i64 o.it, .int .i64 o.src, .int .i64 o.day, .int .i64 o.valid, .int .i64 o.diff.lo, .int .i64 o.diff.hi]) := hfv
      have heq : eqK (.agg [.int .i64 o.num, .int .i64 o.it, .int .i64 o.src, .int .i64 o.day, .int .i64 o.valid, .int .i64 o.diff.lo, .int .i64 o.diff.hi]) (.agg [.int .i64 c.num, .int .i64 c.it, .int .i64 c.src, .int .i64 c.day, .int .i64 c.valid, .int .i64 c.diff.lo, .int .i64 c.diff.hi]) = decide (o = c) := eqK_ct
      cases e : decide (o = c)
      · rw [e] at heq
        have h6 := rerr 6 (fault_two hbig hbad (twice_two (List.mem_of_mem_take (fst_sub k o (List.mem_of_find?_eq_some ho))) (List.mem_of_getElem? hck) (by simpa using List.find?_some ho) (by simpa using e))) (by omega)
        simp [-getElem?_pos, -List.getElem?_map, rdK, ctsP, hlt, hg, hko, hfv', heq, -eqK, bad0_purge, bad0_has, lookA]
        exact ⟨[], by simpa [retB, outsOk] using h6⟩
      · rw [e] at heq
        have hoc : o = c := by simpa using e
        have hround := hJ _ _ ⟨k + 1, hlt, rfl, same_next hck hs (fun o' h' => by rw [ho] at h'; cases h'; exact hoc), rfl⟩
        unfold rdK at hround
        rw [hfs] at hround
        have hadd : addC (b.fst k) c = b.fst k := by unfold addC; rw [ho]
        rw [hadd] at hround
        simp [-getElem?_pos, -List.getElem?_map, rdK, ctsP, hlt, hg, hko, hfv', heq, -eqK, bad0_purge, bad0_has, lookA, hw]
        exact ⟨_, _, hmeas, Sub.mk (by simp [ctsP]) (by simp [ctsP, bad0_purge, Bk.cells]), hround⟩
    | none =>
      rw [ho] at hfv
      have hfv' : findV (.int .i64 c.num) (entC (b.fst k)) = none := hfv
      have hround := hJ _ _ ⟨k + 1, hlt, rfl, same_next hck hs (fun o' h' => by rw [ho] at h'; cases h'), rfl⟩
      have hadd : addC (b.fst k) c = b.fst k ++ [c] := by unfold addC; rw [ho]
      have hput : putK (.int .i64 c.num) (.agg [.int .i64 c.num, .int .i64 c.it, .int .i64 c.src, .int .i64 c.day, .int .i64 c.valid, .int .i64 c.diff.lo, .int .i64 c.diff.hi]) (entC (b.fst k)) = entC (b.fst k ++ [c]) := by
        unfold entC
        rw [put_mapI (fun x hx => by rw [List.find?_eq_none] at ho; simpa using ho x hx)]
        unfold mapI; rw [List.map_append]; rfl
      have hnl : (((b.fst k).map fun c => intP c.num)).length ≤ 1000 := by rw [List.length_map]; omega
      have hk6 : (b.fst k).length + 1 ≤ 1000000 := by omega
      unfold rdK at hround
      rw [hfs, hadd] at hround
      simp [-getElem?_pos, -List.getElem?_map, rdK, ctsP, hlt, hg, hko, hfv', hput, bad0_purge, bad0_has, lookA, hw, nble, nblt, hk6]
      exact ⟨_, _, hmeas, Sub.mk (by simp [ctsP]) (by simp [ctsP, bad0_purge, intP, Bk.cells]), hround⟩
  · have he : k = b.certs.length := by omega
    subst he
    clear hJ
    have hbn : ∀ c ∈ b.certs, 1 ≤ c.num ∧ c.num ≤ 999 := fun c hc' => by
      have := List.all_eq_true.1 e2 c hc'
      unfold Bk.certB inB at this
      simp only [Bool.and_eq_true, decide_eq_true_eq] at this
      omega
    obtain ⟨hnums, hone⟩ := same_nums hbn hs
    have hlenN : b.nums.length = (b.fst b.certs.length).length := by rw [← hnums, sortI_len, List.length_map]
    have hle := fst_len (b := b) b.certs.length
    have hk0 : keysOk kI (entC (b.fst b.certs.length)) = true := keys_mapI
    have hget := fun n => find_get hbn hone hs (n := n)
    have hokc : b.twice = false → CMap b (entC (b.fst b.certs.length)) := fun h => cmap_of (Bk.ok_iff.1 (fault_no hbig hbad h)) hs
    have rok : b.twice = false → R (.tup [.ptr (.ret 0) 0, .pv (.int .i64 0)]) [(.ret 0, .cells (wkC b (.ret 1) bad0)), (.ret 1, .map (entC (b.fst b.certs.length)))] := fun h => by
      rw [← hR]
      exact .inr ⟨fault_no hbig hbad h, _, hokc h, rfl, rfl⟩
    have hne' : (b.fst b.certs.length).map Ct.num ≠ [] := by
      intro e
      rw [List.map_eq_nil_iff] at e
      unfold Bk.same at hs
      rw [List.take_length, e] at hs
      cases hcs : b.certs with
      | nil => exact hne hcs
      | cons x r => have := hs x (by rw [hcs]; simp); cases this
    have hsort := sort_c 3 ((b.fst b.certs.length).map Ct.num) hne' (by rw [List.length_map]; omega)
    rw [hnums, List.length_map, List.map_map, ← hlenN] at hsort
    have hlen1 : b.nums.length ≤ 1000 := by omega
    have hsame : ((b.fst b.certs.length).map fun c => intP c.num) = (b.fst b.certs.length).map (intP ∘ Ct.num) := rfl
    generalize hES : entC (b.fst b.certs.length) = es at *
    have hlenF : (b.fst b.certs.length).length = b.nums.length := hlenN.symm
    simp [-getElem?_pos, -List.getElem?_map, rdK, ctsP, hES, hsame, hlenF]
    refine call_lent (as' := [.vec (.par 0) 1 0 b.nums.length]) (B := [(.par 0, .arr 3 1 ((b.fst b.certs.length).map (intP ∘ Ct.num)))]) (fs := []) (cs := []) 87 [.loc 79 0] ?_ rfl rfl rfl ?_ ?_ hsort ?_
    · rfl
    · rfl
    · rfl
    rintro r0 B0 ⟨rfl, rfl⟩
    refine ⟨rfl, by simp [outOk], ?_⟩
    simp [-getElem?_pos, -List.getElem?_map, dropL, AS.adds, renL, outG, bad0_purge, Bk.cells]
    have htk : (b.nums.map intP).take b.nums.length = b.nums.map intP := List.take_of_length_le (by rw [List.length_map]; exact Nat.le_refl _)
    refine awp_loopS (fun n τ => ∃ k : Nat, k ≤ b.nums.length ∧ n = b.nums.length - k ∧ (∀ (i : Nat) (x y : Int), i + 1 < k → b.nums[i]? = some x → b.nums[i + 1]? = some y → (b.get x).day ≤ (b.get y).day) ∧ τ = rdL b es k) ⟨b.nums.length, rdL b es 0, Sub.trans' (Sub.mk (by simp [rdL, frzsL, AS.frz, AV.frz, htk]) (by simp [rdL, frzsL, AS.frz, Box.frz, AV.frz, AV.frzL, bad0_frz, wkC, Bk.cells, ctsP, htk])) (Sub.frz [.loc 79 0]), 0, Nat.zero_le _, rfl, (fun i x y h => by omega), rfl⟩ ?_
    rintro J hJ n τ ⟨k, hk, rfl, hinv, rfl⟩
    by_cases hlt : k < b.nums.length
    · obtain ⟨x, hx⟩ : ∃ x, b.nums[k]? = some x := ⟨b.nums[k], List.getElem?_eq_getElem hlt⟩
      have hgx : (b.nums.map intP)[k]? = some (.int .i64 x) := by rw [List.getElem?_map, hx]; rfl
      have hw := wrapK (k := k) (by omega)
      have hmeas : b.nums.length - (k + 1) < b.nums.length - k := by omega
      obtain ⟨hfx, hxn, hxc⟩ := hget x (List.mem_of_getElem? hx)
      by_cases hz : k = 0
      · subst hz
        have hround := hJ _ _ ⟨1, hlt, rfl, (fun i x y h => by omega), rfl⟩
        have hw0 : IntKind.i64.wrap 1 = 1 := rfl
        simp [-getElem?_pos, -List.getElem?_map, rdL, wkC, hlt, hgx, hw0]
        exact ⟨_, _, hmeas, Sub.mk (by simp [rdL]) (by simp [rdL, wkC, bad0_purge, Bk.cells]), hround⟩
      · obtain ⟨j, hj1⟩ : ∃ j, j + 1 = k := ⟨k - 1, by omega⟩
        have hj : j < b.nums.length := by omega
        obtain ⟨y, hy⟩ : ∃ y, b.nums[j]? = some y := ⟨b.nums[j], List.getElem?_eq_getElem _⟩
        have hgy : (b.nums.map intP)[j]? = some (.int .i64 y) := by rw [List.getElem?_map, hy]; rfl
        obtain ⟨hfy, hyn, hyc⟩ := hget y (List.mem_of_getElem? hy)
        have hw1 : IntKind.i64.wrap ((k : Int) - 1) = (j : Int) := by rw [wrap64 (by omega)]; omega
        have hyx : y < x := by
          have := List.pairwise_iff_getElem.1 (nums_sorted (b := b)) j k hj hlt (by omega)
          rw [List.getElem?_eq_getElem hj] at hy
          rw [List.getElem?_eq_getElem hlt] at hx
          cases hy; cases hx; exact this
        have hpos : decide ((0 : Int) < (k : Int)) = true := by simp; omega
        have hpos2 : 0 < k := by omega
        have hlt' : decide ((k : Int) < (b.nums.length : Int)) = true := by simp; omega
        unfold Ct.pv at hfx hfy
        cases hd : decide ((b.get x).day < (b.get y).day)
        · have hround := hJ _ _ ⟨k + 1, hlt, rfl, (fun i x' y' h e1 e2 => by
            rcases Nat.lt_succ_iff_lt_or_eq.1 h with h | h
            · exact hinv i x' y' h e1 e2
            · have : i = j := by omega
              subst this
              rw [hj1] at e2
              rw [hy] at e1; rw [hx] at e2
              cases e1; cases e2
              simp at hd; omega), rfl⟩
          simp [-getElem?_pos, -List.getElem?_map, -decide_eq_true_eq, -decide_eq_false_iff_not, rdL, wkC, hlt, hlt', hj, hgx, hgy, hw1, hpos, hpos2, hk0, hfx, hfy, lookA, hd, hw]
          exact ⟨_, _, hmeas, Sub.mk (by simp [rdL]) (by simp [rdL, wkC, bad0_purge, Bk.cells]), hround⟩
        · have h6 := rerr 6 (fault_two hbig hbad (twice_day hxc hyc (by rw [hxn, hyn]; exact hyx) (by simpa using hd))) (by omega)
          simp [-getElem?_pos, -List.getElem?_map, -decide_eq_true_eq, -decide_eq_false_iff_not, rdL, wkC, hlt, hlt', hj, hgx, hgy, hw1, hpos, hpos2, hk0, hfx, hfy, lookA, hd, hw]
          exact ⟨[], by simpa [retB, outsOk] using h6⟩
    · have he : k = b.nums.length := by omega
      subst he
      clear hJ
      have htw : b.twice = false := once_of hone (fun x hx y hy e => by
        have := days_of (fun n => (b.get n).day) nums_sorted (fun i x y e1 e2 => hinv i x y (List.getElem?_eq_some_iff.1 e2).1 e1 e2) x.num ((mem_nums' hbn).2 ⟨x, hx, rfl⟩) y.num ((mem_nums' hbn).2 ⟨y, hy, rfl⟩) e
        rw [get_of' hone hx, get_of' hone hy] at this
        exact this)
      have := rok htw
      simp [-getElem?_pos, -List.getElem?_map, rdL, wkC]
      refine ⟨[.loc 38 0, .loc 36 0], ?_⟩
      simp [retB, outsOk, bad0_all, bad0_map]
      exact this
end Go.Proofs.YtaffbiibcfeigaaGreat
