/- The contract of the sort of a list of integers, laid at this program (by the tools of the kit). (Several texts in one.) -/
import Derived.Shelf.Sort.Plain
import Derived.Test.YtaffbiibcfeigaaGreatProg
import Derived.Test.YtaffbiibcfeigaaGreatStA
import Derived.Test.YtaffbiibcfeigaaGreatBaseD
set_option linter.unusedVariables false
set_option linter.unusedSimpArgs false
/-! The contract of the sort of a list of integers, laid at this program (by the tools of the kit). -/
namespace Go.Proofs
open Go.Shelf
def Tryz.lays189_ren : Go.Shelf.Ren := ⟨fun | 189 => 140 | 125 => 203 | 257 => 202 | 128 => 250 | 129 => 251 | 294 => 241 | 295 => 242 | 296 => 243 | 297 => 244 | 298 => 245 | 299 => 246 | 216 => 247 | 300 => 248 | 301 => 249 | 328 => 262 | 329 => 263 | 330 => 264 | 331 => 265 | 332 => 266 | 215 => 267 | 343 => 270 | n => n, fun | 28 => 27 | 3 => 3 | 46 => 52 | 0 => 0 | 51 => 70 | 53 => 374 | 4 => 4 | 183 => 367 | 182 => 366 | 131 => 358 | 5 => 5 | 9 => 9 | 218 => 386 | 222 => 390 | 228 => 396 | 229 => 222 | n => n, fun | n => n⟩
theorem Tryz.lays189 : Go.Proofs.Lays.n189 Tryz.prog Tryz.lays189_ren := {
  mixed := by kernel_rfl
  f125 := Tryz.func203.trans (congrArg some (by kernel_rfl))
  f128 := Tryz.func250.trans (congrArg some (by kernel_rfl))
  f129 := Tryz.func251.trans (congrArg some (by kernel_rfl))
  f189 := Tryz.func140.trans (congrArg some (by kernel_rfl))
  f215 := Tryz.func267.trans (congrArg some (by kernel_rfl))
  f216 := Tryz.func247.trans (congrArg some (by kernel_rfl))
  f257 := Tryz.func202.trans (congrArg some (by kernel_rfl))
  f294 := Tryz.func241.trans (congrArg some (by kernel_rfl))
  f295 := Tryz.func242.trans (congrArg some (by kernel_rfl))
  f296 := Tryz.func243.trans (congrArg some (by kernel_rfl))
  f297 := Tryz.func244.trans (congrArg some (by kernel_rfl))
  f298 := Tryz.func245.trans (congrArg some (by kernel_rfl))
  f299 := Tryz.func246.trans (congrArg some (by kernel_rfl))
  f300 := Tryz.func248.trans (congrArg some (by kernel_rfl))
  f301 := Tryz.func249.trans (congrArg some (by kernel_rfl))
  f328 := Tryz.func262.trans (congrArg some (by kernel_rfl))
  f329 := Tryz.func263.trans (congrArg some (by kernel_rfl))
  f330 := Tryz.func264.trans (congrArg some (by kernel_rfl))
  f331 := Tryz.func265.trans (congrArg some (by kernel_rfl))
  f332 := Tryz.func266.trans (congrArg some (by kernel_rfl))
  f343 := Tryz.func270.trans (congrArg some (by kernel_rfl))
  t0 := Tryz.underlying0
  a0 := Tryz.isAgg0
  z0 := Tryz.sizeOf0
  v0 := Tryz.zeroValue0
  t3 := Tryz.underlying3
  a3 := Tryz.isAgg3
  z3 := Tryz.sizeOf3
  v3 := Tryz.zeroValue3
  t4 := Tryz.underlying4
  a4 := Tryz.isAgg4
  z4 := Tryz.sizeOf4
  v4 := Tryz.zeroValue4
  t5 := Tryz.underlying5
  a5 := Tryz.isAgg5
  z5 := Tryz.sizeOf5
  v5 := Tryz.zeroValue5
  t9 := Tryz.underlying9
  a9 := Tryz.isAgg9
  z9 := Tryz.sizeOf9
  v9 := Tryz.zeroValue9
  t28 := Tryz.underlying27
  a28 := Tryz.isAgg27
  z28 := Tryz.sizeOf27
  v28 := Tryz.zeroValue27
  t46 := Tryz.underlying52
  a46 := Tryz.isAgg52
  z46 := Tryz.sizeOf52
  v46 := Tryz.zeroValue52
  t51 := Tryz.underlying70
  a51 := Tryz.isAgg70
  z51 := Tryz.sizeOf70
  v51 := Tryz.zeroValue70
  t53 := Tryz.underlying374
  a53 := Tryz.isAgg374
  z53 := Tryz.sizeOf374
  v53 := Tryz.zeroValue374
  t131 := Tryz.underlying358
  a131 := Tryz.isAgg358
  z131 := Tryz.sizeOf358
  v131 := Tryz.zeroValue358
  t182 := Tryz.underlying366
  a182 := Tryz.isAgg366
  z182 := Tryz.sizeOf366
  v182 := Tryz.zeroValue366
  t183 := Tryz.underlying367
  a183 := Tryz.isAgg367
  z183 := Tryz.sizeOf367
  v183 := Tryz.zeroValue367
  t218 := Tryz.underlying386
  a218 := Tryz.isAgg386
  z218 := Tryz.sizeOf386
  v218 := Tryz.zeroValue386
  t222 := Tryz.underlying390
  a222 := Tryz.isAgg390
  z222 := Tryz.sizeOf390
  v222 := Tryz.zeroValue390
  t228 := Tryz.underlying396
  a228 := Tryz.isAgg396
  z228 := Tryz.sizeOf396
  v228 := Tryz.zeroValue396
  t229 := Tryz.underlying222
  a229 := Tryz.isAgg222
  z229 := Tryz.sizeOf222
  v229 := Tryz.zeroValue222 }
open Go.Sort Go.RowKit in
theorem Tryz.slices_Sort_int (blk off cap : Nat) (zs : List Int) (w : World) (hH : Holds (Value.int .i64) w blk off zs.toArray) (hblk : blk < w.heap.size) (hsz : zs.length < 4611686018427387904) :
    Calls Tryz.prog 140 #[.slice (some ⟨blk, off, none⟩) zs.length cap] w fun e w' =>
      e = .returned (.tuple #[]) ∧ ∃ n os, w' = grow (putRow (Value.int .i64) (Sort.ahead w n) blk off (zs.mergeSort fun x y => decide (x ≤ y)).toArray) os := Any.slices_Sort_int Tryz.lays189 blk off cap zs w hH hblk hsz
end Go.Proofs
/-! Contracts of layer 4's functions (stair): a list that is sorted. -/
namespace Go.Proofs.YtaffbiibcfeigaaGreat
open Go.RowKit Go.Sort
attribute [local simp] Box.purge Site.isLoc
set_option maxRecDepth 10000
set_option linter.unusedSimpArgs false
def intP (n : Int) : PV := .int .i64 n
/-- In rising order. -/
def insI (x : Int) : List Int → List Int
  | [] => [x]
  | y :: r => if x ≤ y then x :: y :: r else y :: insI x r
def sortI : List Int → List Int
  | [] => []
  | x :: r => insI x (sortI r)
theorem insI_perm (x : Int) : ∀ l : List Int, (insI x l).Perm (x :: l)
  | [] => .refl _
  | y :: r => by
    unfold insI
    split
    · exact .refl _
    · exact ((insI_perm x r).cons y).trans (.swap x y r)
theorem sortI_perm : ∀ l : List Int, (sortI l).Perm l
  | [] => .refl _
  | x :: r => (insI_perm x _).trans ((sortI_perm r).cons x)
theorem insI_sorted (x : Int) : ∀ l : List Int, l.Pairwise (· ≤ ·) → (insI x l).Pairwise (· ≤ ·)
  | [], _ => by simp [insI]
  | y :: r, h => by
    unfold insI
    split
    · rename_i hxy
      refine List.pairwise_cons.2 ⟨fun z hz => ?_, h⟩
      rcases List.mem_cons.1 hz with rfl | hz
      · exact hxy
      · exact Int.le_trans hxy ((List.pairwise_cons.1 h).1 z hz)
    · rename_i hxy
      refine List.pairwise_cons.2 ⟨fun z hz => ?_, insI_sorted x r (List.pairwise_cons.1 h).2⟩
      rcases List.mem_cons.1 ((insI_perm x r).mem_iff.1 hz) with rfl | hz
      · omega
      · exact (List.pairwise_cons.1 h).1 z hz
theorem sortI_sorted : ∀ l : List Int, (sortI l).Pairwise (· ≤ ·)
  | [] => .nil
  | x :: r => insI_sorted x _ (sortI_sorted r)
/-- Two lists in rising order with the same elements. -/
theorem sorted_eq : ∀ {a b : List Int}, a.Perm b → a.Pairwise (· ≤ ·) → b.Pairwise (· ≤ ·) → a = b
  | [], b, h, _, _ => by simpa using h.symm
  | x :: a, [], h, _, _ => by simp at h
  | x :: a, y :: b, h, ha, hb => by
    have e : x = y := by
      have h1 : x ∈ y :: b := h.mem_iff.1 (by simp)
      have h2 : y ∈ x :: a := h.mem_iff.2 (by simp)
      rcases List.mem_cons.1 h1 with rfl | h1
      · rfl
      rcases List.mem_cons.1 h2 with rfl | h2
      · rfl
      have k1 := (List.pairwise_cons.1 ha).1 y h2
      have k2 := (List.pairwise_cons.1 hb).1 x h1
      omega
    subst e
    rw [sorted_eq h.cons_inv (List.pairwise_cons.1 ha).2 (List.pairwise_cons.1 hb).2]
theorem sortI_len (l : List Int) : (sortI l).length = l.length := (sortI_perm l).length_eq
theorem merge_sortI (l : List Int) : (l.mergeSort fun x y => decide (x ≤ y)) = sortI l := by
  refine sorted_eq ((List.mergeSort_perm l _).trans (sortI_perm l).symm) ?_ (sortI_sorted l)
  have := List.pairwise_mergeSort (le := fun x y : Int => decide (x ≤ y)) (fun a b c h1 h2 => by simp at *; omega) (fun a b => by simp; omega) l
  exact this.imp (fun h => by simpa using h)
theorem holds_at {w : World} {g o : Nat} {cur : Array Value} {e : TypeId} {ss : List Int} (hb : w.heap[g]? = some (.cells cur e (0, 0))) (ht : ∀ (i : Nat) (x : Int), ss[i]? = some x → cur[o + i]? = some (.int .i64 x)) : Holds (Value.int .i64) w g o ss.toArray := by
  intro j hj
  have hj' : j < ss.length := by simpa using hj
  refine ⟨?_, by simp [World.frozen?, hb]⟩
  have h1 := ht j _ (List.getElem?_eq_getElem hj')
  simp only [World.cell?, hb]
  simp only [Option.isSome_none, Bool.false_eq_true, if_false]
  rw [h1]
  simp [hj']
theorem heap_sorted_at {w : World} {g n o : Nat} {os : Array Obj} {cur : Array Value} {e : TypeId} {fr : Nat × Nat} (d : Array Int) (hb : w.heap[g]? = some (.cells cur e fr)) :
    (grow (putRow (Value.int .i64) (Sort.ahead w n) g o d) os).heap[g]? = some (.cells (putCells (Value.int .i64) o d cur) e fr) := by
  have hg : g < w.heap.size := (Array.getElem?_eq_some_iff.1 hb).1
  rw [heap_grow_old _ _ (by simpa using hg)]
  simp [putRow, mapBlock, Sort.ahead, Array.getElem?_modify, hb, onCells]
theorem heap_other {w : World} {g n o k : Nat} {os : Array Obj} (d : Array Int) (hk : k < w.heap.size) (hne : k ≠ g) :
    (grow (putRow (Value.int .i64) (Sort.ahead w n) g o d) os).heap[k]? = w.heap[k]? := by
  rw [heap_grow_old _ _ (by simpa using hk)]
  have : g ≠ k := fun e => hne (by rw [e])
  simp [putRow, mapBlock, Sort.ahead, Array.getElem?_modify, this]
theorem sort_c (e : TypeId) (l : List Int) (h0 : l ≠ []) (hl : l.length ≤ 1000000) : CallsA Tryz.prog 140 [.vec (.par 0) 1 0 l.length] [(.par 0, .arr e 1 (l.map intP))] (fun r B => r = .pv (.tup []) ∧ B = [(.par 0, .arr e 1 ((sortI l).map intP))]) := by
  refine ⟨⟨_, _, Tryz.func140, by decide +kernel, rfl⟩, fun w m ρ vs hB hm hsz hrd => ?_⟩
  obtain ⟨v, rfl⟩ : ∃ v, vs = #[v] := by
    match vs, hsz with
    | ⟨[v]⟩, _ => exact ⟨v, rfl⟩
  have hv := hrd 0 v _ rfl rfl
  have hbx := hB.bx (.par 0) _ lookup_cons_eq
  obtain ⟨_, ⟨_, hx, _⟩ | ⟨hr, cs, k1, k2, k3, k4, k5⟩⟩ := hbx
  · exact absurd (List.map_eq_nil_iff.1 hx) h0
  have hlen : 0 < l.length := List.length_pos_iff.2 h0
  have hcell : ∀ (i : Nat) (x : Int), l[i]? = some x → cs[(ρ (.par 0)).o + i]? = some (.int .i64 x) := fun i x hi => by
    obtain ⟨_, h2⟩ := k5 i (intP x) (by rw [List.getElem?_map, hi]; rfl)
    obtain ⟨d, d1, d2, d3⟩ := h2 0 (intP x) rfl
    rw [Nat.mul_one, Nat.add_zero] at d1
    rw [d1]
    cases d3
    rfl
  have hlt := (Array.getElem?_eq_some_iff.1 k1).1
  have main : ∀ cap, Calls Tryz.prog 140 #[.slice (some ⟨(ρ (.par 0)).b, (ρ (.par 0)).o, none⟩) l.length cap] w (CPost w m ρ [(.par 0, .arr e 1 (l.map intP))] (fun r B => r = .pv (.tup []) ∧ B = [(.par 0, .arr e 1 ((sortI l).map intP))])) := fun cap => by
    have hent : lentB ρ w [(Site.par 0, Box.arr e 1 (l.map intP))] = [(ρ (.par 0)).b] := by simp [lentB, hr, ins]
    refine (Tryz.slices_Sort_int (ρ (.par 0)).b (ρ (.par 0)).o cap l w (holds_at k1 hcell) hlt (by omega)).mono ?_
    rintro en w' ⟨rfl, n, os, rfl⟩
    rw [merge_sortI]
    have hmb : ∀ b o v, m b o = some v → b ≠ (ρ (.par 0)).b := fun b o v hv e' => by
      subst e'
      have := hB.off (.par 0) _ lookup_cons_eq hr o
      rw [this] at hv; cases hv
    refine ⟨.tuple #[], .pv (.tup []), [(.par 0, .arr e 1 ((sortI l).map intP))], ρ, m, rfl, ⟨rfl, rfl⟩, ⟨fun s b hs => ?_, fun s s' b b' _ hs hs' _ _ => ?_, fun s b i hs hrs o => ?_⟩, Le.refl m, fun b o v hv => ?_, fun i => rfl, fun s b i hs hrs => ?_, fun b o v hv => .inl hv, ?_, ⟨rfl, rfl, rfl, ?_, fun k hk hkn => ?_⟩⟩
    · by_cases es : s = .par 0
      · subst es
        rw [lookup_cons_eq] at hs; cases hs
        refine ⟨by omega, .inr ⟨hr, _, heap_sorted_at _ k1, by rw [show (putCells (Value.int .i64) (ρ (.par 0)).o (sortI l).toArray cs).size = cs.size by simp [putCells]]; exact k2, by rw [List.length_map, sortI_len, ← List.length_map (f := intP)]; exact k3, k4, fun i x hx => ?_⟩⟩
        rw [List.getElem?_map] at hx
        obtain ⟨z, hz, rfl⟩ := Option.map_eq_some_iff.1 hx
        refine ⟨rfl, fun j c hj => ?_⟩
        cases j with
        | succ j => simp [intP, PV.cells] at hj
        | zero =>
          simp [intP, PV.cells] at hj
          subst hj
          have hi : i < l.length := by have := (List.getElem?_eq_some_iff.1 hz).1; rw [sortI_len] at this; exact this
          have hcs : (ρ (.par 0)).o + i < cs.size := (Array.getElem?_eq_some_iff.1 (hcell i _ (List.getElem?_eq_getElem hi))).1
          refine ⟨.int .i64 z, ?_, rfl, .int .i64 z⟩
          rw [Nat.mul_one, Nat.add_zero]
          have hz' : (sortI l)[i]! = z := by rw [List.getElem!_eq_getElem?_getD, hz]; rfl
          have hi2 : i < (sortI l).length := by rw [sortI_len]; exact hi
          have hz2 : (sortI l)[i] = z := by rw [List.getElem?_eq_getElem hi2] at hz; simpa using hz
          simp [putCells, hcs, sortI_len, hi, hz2]
      · rw [lookup_cons_ne es] at hs; simp [List.lookup] at hs
    · have q : ∀ {s : Site} {b : Box}, List.lookup s [(Site.par 0, Box.arr e 1 ((sortI l).map intP))] = some b → s = .par 0 := fun {s b} h => by
        by_cases es : s = .par 0
        · exact es
        · rw [lookup_cons_ne es] at h; simp [List.lookup] at h
      rw [q hs, q hs']
    · by_cases es : s = .par 0
      · subst es
        rw [lookup_cons_eq] at hs; cases hs
        obtain ⟨q1, rfl⟩ := blk_plain rfl hrs
        exact hB.off (.par 0) _ lookup_cons_eq q1 o
      · rw [lookup_cons_ne es] at hs; simp [List.lookup] at hs
    · have h1 := hm b o v hv
      have hne := hmb b o v hv
      show World.cell? _ _ = some v
      have h2 : w.cell? ⟨b, o, none⟩ = some v := h1
      have hb : b < w.heap.size := by
        unfold World.cell? at h2
        simp only at h2
        cases hh : w.heap[b]? with
        | none => rw [hh] at h2; simp at h2
        | some ob => exact (Array.getElem?_eq_some_iff.1 hh).1
      rw [← h2]
      unfold World.cell?
      rw [heap_other _ hb hne]
    · by_cases es : s = .par 0
      · subst es
        rw [lookup_cons_eq] at hs; cases hs
        obtain ⟨q1, rfl⟩ := blk_plain rfl hrs
        right; rw [hent]; simp
      · rw [lookup_cons_ne es] at hs; simp [List.lookup] at hs
    · exact .pv _ _ (.tup #[] [] rfl (fun j d c h => by simp at h))
    · simp [putRow, mapBlock, Sort.ahead]
    · rw [hent] at hkn
      exact heap_other _ hk (by simpa using hkn)
  generalize hn : l.length = N at hv main
  cases hv with
  | vec _ _ _ _ cap g0 g1 g2 =>
    have := main cap
    simpa using this
  | vec0 _ _ _ a h => omega
end Go.Proofs.YtaffbiibcfeigaaGreat
/-! Contracts of layer 4's functions (stair): the limits of a history, ranked. -/
namespace Go.Proofs.YtaffbiibcfeigaaGreat
open Go.RowKit
attribute [local simp] Box.purge Site.isLoc
set_option maxRecDepth 10000
set_option linter.unusedSimpArgs false
attribute [local simp] AS.exp expG Box.ren AV.map AV.mapL outsOk noRet Site.isRet Box.allS AV.allS AV.allSL retB dropL AS.adds renL outG outOk lentBx inG fnOf lookA List.findIdx?_cons
theorem intsP_eq (l : List Int) : intsP l = .lst false 1 (l.map intP) := rfl
theorem clone_c (l : List Int) (h0 : l ≠ []) (hl : l.length ≤ 1000000) : CallsA Tryz.prog 125 ([intsP l].map .pv) [] (fun r B => r = .vec (.ret 0) 1 0 l.length ∧ B = [(.ret 0, .arr 3 1 (l.map intP))]) := by
  obtain ⟨x, r, rfl⟩ : ∃ x r, l = x :: r := by
    cases l with
    | nil => exact absurd rfl h0
    | cons x r => exact ⟨x, r, rfl⟩
  refine calls_of_awpB [.loc 7 0] mixed L125_ok (Nat.le_of_ble_eq_true rfl) ?_
  have hl' : Nat.ble (r.length + 1) 1000000 = true := by rw [Nat.ble_eq]; simpa using hl
  have hn : nilOf QK.sl (.pv (.lst false 1 (intP x :: List.map intP r))) = some false := rfl
  simp [-getElem?_pos, L125, intsP_eq, hl', hn]
/-- The bounds of a specimen. -/
def St.bnd (s : St) (d v : Int) : Int × Int := if d = 0 then (0, v) else if d = 1 then (v + 1, s.levels) else (0, s.levels)
set_option maxHeartbeats 4000000 in
theorem bounds_c (s : St) (d l : List Int) (hJ : Junk s d l) (k : Nat) (x y : Int) (hx : d[k]? = some x) (hy : l[k]? = some y) (hyb : 0 ≤ y ∧ y ≤ 1000) : Gives Tryz.prog 195 [hV s d l, .int .i64 k] (rangeP (s.bnd x y)) := by
  have hA31 : (hA s d l).length = 31 := hA_len hJ.d14 hJ.l14
  refine calls_of_awpS mixed L195_ok (Nat.le_of_ble_eq_true rfl) ?_
  obtain ⟨xs, hx1, hmap⟩ : ∃ xs, hV s d l = .agg xs ∧ List.map AV.pv xs = hA s d l := ⟨_, rfl, by simp [hA]⟩
  have hble : Nat.ble 31 (hA s d l).length = true := by rw [hA31]; rfl
  have hbeq : ((hA s d l).length == 31) = true := by rw [hA31]; rfl
  have h0 : (hA s d l)[0]? = some (.pv (.int .i64 s.levels)) := rfl
  have hxl : xs.length = 31 := by rw [← hA31, ← hmap, List.length_map]
  have hk : k < 14 := by have := (List.getElem?_eq_some_iff.1 hx).1; rw [hJ.d14] at this; exact this
  have hb14 : k.blt 14 = true := by rw [Nat.blt_eq]; exact hk
  have hg1 := hA_d (s := s) (l := l) hx
  have hg2 := hA_l (s := s) hJ.d14 hy
  have hw : IntKind.i64.wrap (y + 1) = y + 1 := wrap64 (by omega)
  rw [hx1]
  cases c0 : decide (x = 0)
  · have c0' : ¬ x = 0 := by simpa using c0
    cases c1 : decide (x = 1)
    all_goals
      simp [-getElem?_pos, -decide_eq_true_eq, -decide_eq_false_iff_not, L195, hmap, hble, hbeq, hA31, h0, hxl, -List.map_map, hA_purge, hb14, hg1, hg2, hw, c0, c1]
      simp at c1
      simp [rangeP, St.bnd, c0', c1]
  · have c0' : x = 0 := by simpa using c0
    simp [-getElem?_pos, -decide_eq_true_eq, -decide_eq_false_iff_not, L195, hmap, hble, hbeq, hA31, h0, hxl, -List.map_map, hA_purge, hb14, hg1, hg2, hw, c0]
    simp [rangeP, St.bnd, c0']
theorem ranked_c (l : List Int) (k : Nat) (z : Int) (hz : (sortI l)[k]? = some z) (hl : l.length ≤ 1000000) : Gives Tryz.prog 134 [intsP l, .int .i64 k] (.int .i64 z) := by
  have h0 : l ≠ [] := fun e => by subst e; simp [sortI] at hz
  have hk : k < l.length := by have := (List.getElem?_eq_some_iff.1 hz).1; rw [sortI_len] at this; exact this
  refine calls_of_awpS mixed L134_ok (Nat.le_of_ble_eq_true rfl) ?_
  simp [-getElem?_pos, L134]
  refine .inl (call_vec [] rfl rfl (clone_c l h0 hl) ?_)
  simp [-getElem?_pos, frzsL]
  refine call_lent (as' := [.vec (.par 0) 1 0 l.length]) (B := [(.par 0, .arr 3 1 (l.map intP))]) (fs := []) (cs := []) 9 [.loc 7 0] ?_ rfl rfl rfl ?_ ?_ (sort_c 3 l h0 hl) ?_
  · rfl
  · rfl
  · rfl
  rintro r0 B0 ⟨rfl, rfl⟩
  refine ⟨rfl, by simp [outOk, Box.allS], ?_⟩
  have hg : ((sortI l).map intP)[k]? = some (.int .i64 z) := by rw [List.getElem?_map, hz]; rfl
  have hb : k.blt l.length = true := by rw [Nat.blt_eq]; exact hk
  simp [-getElem?_pos, AV.map, dropL, AS.adds, renL, outG, Box.ren, hb, hg, -List.getElem?_map]
end Go.Proofs.YtaffbiibcfeigaaGreat
/-! Contracts of layer 4's functions (stair): the limits of a history. -/
namespace Go.Proofs.YtaffbiibcfeigaaGreat
open Go.RowKit
attribute [local simp] Box.purge Site.isLoc
set_option maxRecDepth 10000
set_option linter.unusedSimpArgs false
def St.lim (s : St) (high : Bool) (d v : Int) : Int := if high = true then (s.bnd d v).2 else (s.bnd d v).1
def St.lims (s : St) (high : Bool) : List Int → List Int → List Int
  | d :: ds, l :: ls => s.lim high d l :: s.lims high ds ls
  | _, _ => []
theorem St.lims_succ {s : St} {high : Bool} : ∀ {ds ls : List Int} {k : Nat} {d l : Int}, ds[k]? = some d → ls[k]? = some l → s.lims high (ds.take (k + 1)) (ls.take (k + 1)) = s.lims high (ds.take k) (ls.take k) ++ [s.lim high d l]
  | x :: ds, y :: ls, 0, d, l, h1, h2 => by
    simp at h1 h2; subst h1 h2; simp [St.lims]
  | x :: ds, y :: ls, k + 1, d, l, h1, h2 => by
    simp only [List.take_succ_cons, St.lims, List.cons_append]
    rw [St.lims_succ (by simpa using h1) (by simpa using h2)]
  | [], _, k, d, l, h1, h2 => by simp at h1
  | _ :: _, [], k, d, l, h1, h2 => by simp at h2
theorem St.lims_len {s : St} {high : Bool} : ∀ {ds ls : List Int}, ds.length = ls.length → (s.lims high ds ls).length = ds.length
  | [], [], _ => rfl
  | [], _ :: _, h => by simp at h
  | _ :: _, [], h => by simp at h
  | d :: ds, l :: ls, h => by simp [St.lims, St.lims_len (by simpa using h : ds.length = ls.length)]
def limH (s : St) (high : Bool) (d l : List Int) (c : Nat) : Nat → AS
  | 0 => ⟨[(1, .pv (.bool high)), (2, .ptr (.loc 2 0) 0), (4, .pv (.emp (some true))), (10, .pv (.int .i64 s.runs.length)), (11, .pv (.int .i64 0))], [(.loc 2 0, .cells (hA s d l))]⟩
  | k + 1 => ⟨[(1, .pv (.bool high)), (2, .ptr (.loc 2 0) 0), (4, .vec (.loc c 0) 1 0 (k + 1)), (10, .pv (.int .i64 s.runs.length)), (11, .pv (.int .i64 (k + 1 : Nat)))], [(.loc c 0, .arr 3 1 ((s.lims high (d.take (k + 1)) (l.take (k + 1))).map intP)), (.loc 2 0, .cells (hA s d l))]⟩
attribute [local simp] AS.exp expG Box.ren AV.map AV.mapL outsOk noRet Site.isRet Box.allS AV.allS AV.allSL retB dropL AS.adds renL outG outOk lentBx inG fnOf lookA List.findIdx?_cons
set_option maxHeartbeats 8000000 in
theorem limits_c (s : St) (high : Bool) (d l : List Int) (hJ : Junk s d l) (hn0 : 0 < s.runs.length) (hs : s.runs.length ≤ 14) (hl : ∀ x ∈ l, 0 ≤ x ∧ x ≤ 1000) :
    CallsA Tryz.prog 135 [.pv (hV s d l), .pv (.bool high)] [] (fun r B => r = .vec (.ret 0) 1 0 s.runs.length ∧ B = [(.ret 0, .arr 3 1 ((s.lims high (d.take s.runs.length) (l.take s.runs.length)).map intP))]) := by
  have hA31 : (hA s d l).length = 31 := hA_len hJ.d14 hJ.l14
  obtain ⟨xs, hx1, hmap⟩ : ∃ xs, hV s d l = .agg xs ∧ List.map AV.pv xs = hA s d l := ⟨_, rfl, by simp [hA]⟩
  have hble : Nat.ble 31 (hA s d l).length = true := by rw [hA31]; rfl
  have hbeq : ((hA s d l).length == 31) = true := by rw [hA31]; rfl
  have h2 : (hA s d l)[2]? = some (.pv (.lst false 2 (s.runs.map Rn.pv))) := rfl
  have hxl : xs.length = 31 := by rw [← hA31, ← hmap, List.length_map]
  have htk : List.take 31 (hA s d l) = hA s d l := List.take_of_length_le (by omega)
  have hun : unpvs (hA s d l) = some xs := by rw [← hmap, unpvs_map]
  have hlen : ∀ k, k ≤ s.runs.length → (s.lims high (d.take k) (l.take k)).length = k := fun k hk => by
    have hd14 := hJ.d14; have hl14 := hJ.l14
    rw [St.lims_len (by simp [hd14, hl14])]; simp [hd14]; omega
  cases high with
  | true =>
    refine calls_of_awpB [.loc 22 0] mixed L135_ok (Nat.le_of_ble_eq_true rfl) ?_
    rw [hx1]
    simp [-getElem?_pos, L135, hmap, hble, hbeq, hA31, h2, hxl, -List.map_map, hA_purge]
    refine awp_loopS (fun n τ => ∃ k : Nat, k ≤ s.runs.length ∧ n = s.runs.length - k ∧ τ = limH s true d l 22 k) ⟨s.runs.length, _, Sub.mk (by simp [limH]) (by simp [limH]), 0, by omega, rfl, rfl⟩ ?_
    rintro J hJl n τ ⟨k, hk, rfl, rfl⟩
    by_cases hlt : k < s.runs.length
    · obtain ⟨x, hdk⟩ : ∃ x, d[k]? = some x := ⟨d[k]'(by have := hJ.d14; omega), List.getElem?_eq_getElem _⟩
      obtain ⟨y, hlk⟩ : ∃ y, l[k]? = some y := ⟨l[k]'(by have := hJ.l14; omega), List.getElem?_eq_getElem _⟩
      have hlm := hl _ (List.mem_of_getElem? hlk)
      have hbc := bounds_c s d l hJ k x y hdk hlk hlm
      rw [hx1] at hbc
      have hw : IntKind.i64.wrap ((k : Int) + 1) = ((k + 1 : Nat) : Int) := by rw [wrap64 (by omega)]; omega
      have hsucc := St.lims_succ (s := s) (high := true) hdk hlk
      have hlk2 := hlen k hk
      have hb2 : Nat.ble (k + 1) 1000000 = true := by rw [Nat.ble_eq]; omega
      have hb8 : Nat.ble 8 1000 = true := rfl
      have hround := hJl _ _ ⟨k + 1, hlt, rfl, rfl⟩
      cases k with
      | zero =>
        rw [show ((0 : Nat) : Int) = 0 from rfl] at hbc hw
        simp [-getElem?_pos, limH, hlt, htk, hun, hble]
        refine call_gives (k := 0) (fs := []) (xs := [.agg xs, .int .i64 0]) (cs := []) rfl rfl hbc rfl ?_
        have hb1 : Nat.ble 1 1000000 = true := rfl
        have hw1 : IntKind.i64.wrap 1 = 1 := rfl
        simp [-getElem?_pos, rangeP, hA_purge, hlk2, hb1, hb8, hw1]
        refine ⟨_, _, (by omega : s.runs.length - 1 < s.runs.length), Sub.mk ?_ ?_, hround⟩
        · simp [limH]
        · rw [Nat.zero_add] at hsucc
          simp [limH, hsucc, St.lims, St.lim, intP]
      | succ k =>
        rw [show ((k + 1 : Nat) : Int) = (k : Int) + 1 by omega] at hbc hw
        have hlt' : decide ((k : Int) + 1 < (s.runs.length : Int)) = true := by simp; omega
        simp [-getElem?_pos, -decide_eq_true_eq, limH, hlt', htk, hun, hble]
        refine call_gives (k := 0) (fs := []) (xs := [.agg xs, .int .i64 (k + 1)]) (cs := []) rfl rfl hbc rfl ?_
        simp [-getElem?_pos, rangeP, hA_purge, hlk2, hb2, hb8, hw]
        refine ⟨_, _, (by omega : s.runs.length - (k + 1 + 1) < s.runs.length - (k + 1)), Sub.mk ?_ ?_, hround⟩
        · simp [limH]
        · simp [limH, hsucc, St.lim, intP]
    · have he : k = s.runs.length := by omega
      subst he
      obtain ⟨j, hj⟩ : ∃ j, s.runs.length = j + 1 := ⟨s.runs.length - 1, by omega⟩
      rw [hj]
      simp [-getElem?_pos, limH, hj]
  | false =>
    refine calls_of_awpB [.loc 27 0] mixed L135_ok (Nat.le_of_ble_eq_true rfl) ?_
    rw [hx1]
    simp [-getElem?_pos, L135, hmap, hble, hbeq, hA31, h2, hxl, -List.map_map, hA_purge]
    refine awp_loopS (fun n τ => ∃ k : Nat, k ≤ s.runs.length ∧ n = s.runs.length - k ∧ τ = limH s false d l 27 k) ⟨s.runs.length, _, Sub.mk (by simp [limH]) (by simp [limH]), 0, by omega, rfl, rfl⟩ ?_
    rintro J hJl n τ ⟨k, hk, rfl, rfl⟩
    by_cases hlt : k < s.runs.length
    · obtain ⟨x, hdk⟩ : ∃ x, d[k]? = some x := ⟨d[k]'(by have := hJ.d14; omega), List.getElem?_eq_getElem _⟩
      obtain ⟨y, hlk⟩ : ∃ y, l[k]? = some y := ⟨l[k]'(by have := hJ.l14; omega), List.getElem?_eq_getElem _⟩
      have hlm := hl _ (List.mem_of_getElem? hlk)
      have hbc := bounds_c s d l hJ k x y hdk hlk hlm
      rw [hx1] at hbc
      have hw : IntKind.i64.wrap ((k : Int) + 1) = ((k + 1 : Nat) : Int) := by rw [wrap64 (by omega)]; omega
      have hsucc := St.lims_succ (s := s) (high := false) hdk hlk
      have hlk2 := hlen k hk
      have hb2 : Nat.ble (k + 1) 1000000 = true := by rw [Nat.ble_eq]; omega
      have hb8 : Nat.ble 8 1000 = true := rfl
      have hround := hJl _ _ ⟨k + 1, hlt, rfl, rfl⟩
      cases k with
      | zero =>
        rw [show ((0 : Nat) : Int) = 0 from rfl] at hbc hw
        simp [-getElem?_pos, limH, hlt, htk, hun, hble]
        refine call_gives (k := 0) (fs := []) (xs := [.agg xs, .int .i64 0]) (cs := []) rfl rfl hbc rfl ?_
        have hb1 : Nat.ble 1 1000000 = true := rfl
        have hw1 : IntKind.i64.wrap 1 = 1 := rfl
        simp [-getElem?_pos, rangeP, hA_purge, hlk2, hb1, hb8, hw1]
        refine ⟨_, _, (by omega : s.runs.length - 1 < s.runs.length), Sub.mk ?_ ?_, hround⟩
        · simp [limH]
        · rw [Nat.zero_add] at hsucc
          simp [limH, hsucc, St.lims, St.lim, intP]
      | succ k =>
        rw [show ((k + 1 : Nat) : Int) = (k : Int) + 1 by omega] at hbc hw
        have hlt' : decide ((k : Int) + 1 < (s.runs.length : Int)) = true := by simp; omega
        simp [-getElem?_pos, -decide_eq_true_eq, limH, hlt', htk, hun, hble]
        refine call_gives (k := 0) (fs := []) (xs := [.agg xs, .int .i64 (k + 1)]) (cs := []) rfl rfl hbc rfl ?_
        simp [-getElem?_pos, rangeP, hA_purge, hlk2, hb2, hb8, hw]
        refine ⟨_, _, (by omega : s.runs.length - (k + 1 + 1) < s.runs.length - (k + 1)), Sub.mk ?_ ?_, hround⟩
        · simp [limH]
        · simp [limH, hsucc, St.lim, intP]
    · have he : k = s.runs.length := by omega
      subst he
      obtain ⟨j, hj⟩ : ∃ j, s.runs.length = j + 1 := ⟨s.runs.length - 1, by omega⟩
      rw [hj]
      simp [-getElem?_pos, limH, hj]
end Go.Proofs.YtaffbiibcfeigaaGreat
/-! Contracts of layer 4's functions (stair): end. -/
namespace Go.Proofs.YtaffbiibcfeigaaGreat
open Go.RowKit
attribute [local simp] Box.purge Site.isLoc
set_option maxRecDepth 10000
set_option linter.unusedSimpArgs false
theorem cok52 : COk Tryz.prog (tyOf tys) L82.code := litF_ok L82_ok L82_tab
/-- The best history so far; its limit. -/
structure EndS where
  best : Option (List Int × List Int)
  lim : Int
def EndS.step (high : Bool) (c : EndS) (n : Int) (p : List Int × List Int) : EndS := match c.best with
  | none => ⟨some p, n⟩
  | some _ => match high with
    | true => if n > c.lim then ⟨some p, n⟩ else c
    | false => if n < c.lim then ⟨some p, n⟩ else c
/-- The limit of a rank. -/
def St.rk (s : St) (rank : Nat) (high : Bool) (p : List Int × List Int) : Int := ((sortI (s.lims high p.1 p.2))[rank]?).getD 0
def St.pOf (s : St) (x : PV) : List Int × List Int := ((dsOf x).take s.runs.length, (lsOf x).take s.runs.length)
def zeroH : List AV := [.pv (.int .i64 0), .pv (.int .i64 0), .pv (.emp (some true)), .pv (.int .u8 0), .pv (.int .u8 0), .pv (.int .u8 0), .pv (.int .u8 0), .pv (.int .u8 0), .pv (.int .u8 0), .pv (.int .u8 0), .pv (.int .u8 0), .pv (.int .u8 0), .pv (.int .u8 0), .pv (.int .u8 0), .pv (.int .u8 0), .pv (.int .u8 0), .pv (.int .u8 0),
  .pv (.int .i64 0), .pv (.int .i64 0), .pv (.int .i64 0), .pv (.int .i64 0), .pv (.int .i64 0), .pv (.int .i64 0), .pv (.int .i64 0), .pv (.int .i64 0), .pv (.int .i64 0), .pv (.int .i64 0), .pv (.int .i64 0), .pv (.int .i64 0), .pv (.int .i64 0), .pv (.int .i64 0)]
def EndS.cells (s : St) (c : EndS) : List AV := match c.best with
  | none => zeroH
  | some p => hA s (s.pad p.1) (s.pad p.2)
theorem EndS.cells_len {s : St} (hs : s.runs.length ≤ 14) {c : EndS} (h : ∀ p, c.best = some p → p.1.length = s.runs.length ∧ p.2.length = s.runs.length) : (c.cells s).length = 31 := by
  unfold EndS.cells
  split
  · rfl
  · rename_i p hp
    obtain ⟨h1, h2⟩ := h p hp
    have hJ := St.pad_junk hs h1 h2
    exact hA_len hJ.d14 hJ.l14
theorem EndS.cells_closed {s : St} {c : EndS} {q : Site → Bool} : AV.allSL q (c.cells s) = true := by
  unfold EndS.cells
  split
  · rfl
  · exact hA_closed
theorem EndS.cells_purge {s : St} {c : EndS} {k : Nat} : (c.cells s).map (AV.purge k) = c.cells s := by
  unfold EndS.cells
  split
  · rfl
  · exact hA_purge
noncomputable def endX (s : St) (rank : Nat) (high : Bool) (c : EndS) : List Box := [.loop (rcode Tryz.prog 82 0) [13] 42 [(4, .ptr (.par 1) 0), (5, .ptr (.par 2) 0), (6, .ptr (.par 3) 0), (7, .ptr (.par 4) 0), (8, .ptr (.par 5) 0)] none,
  .cells [.pv (.int .i64 rank)], .cells [.pv (.bool high)], .cells (c.cells s), .cells [.pv (.int .i64 c.lim)], .cells [.pv (.bool c.best.isSome)]]
theorem St.item_pad {s : St} {x : PV} (hs : s.runs.length ≤ 14) (h : s.item x) : x = hV s (s.pad (s.pOf x).1) (s.pad (s.pOf x).2) ∧ (s.pOf x).1.length = s.runs.length ∧ (s.pOf x).2.length = s.runs.length := by
  obtain ⟨d, l, rfl, hJ, _, _⟩ := h.ex
  have hd := hJ.d14
  have hl := hJ.l14
  unfold St.pOf
  rw [dsOf_hV hJ.d14, lsOf_hV hJ.d14]
  refine ⟨?_, by simp [hd]; omega, by simp [hl]; omega⟩
  simp only [St.pad]
  rw [← hJ.dz, List.take_append_drop]
  conv => lhs; rw [← List.take_append_drop s.runs.length l]
  rw [hJ.lz, hJ.dz]
attribute [local simp] AS.exp expG Box.ren AV.map AV.mapL outsOk noRet Site.isRet Box.allS AV.allS AV.allSL retB St.cells mayF dropL AS.adds renL outG outOk lentBx inG fnOf lookA List.findIdx?_cons
set_option maxHeartbeats 8000000 in
noncomputable def endC (s : St) (hs : s.runs.length ≤ 14) (rank : Nat) (hr : rank < s.runs.length) (high : Bool) : Cons Tryz.prog where
  m := 6
  S := EndS
  X := endX s rank high
  step c x := (c.step high (s.rk rank high (s.pOf x)) (s.pOf x), true)
  good x := s.item x
  live c := ∀ p, c.best = some p → p.1.length = s.runs.length ∧ p.2.length = s.runs.length
  m0 := by omega
  len _ := rfl
  cl c := by
    intro b hb
    simp only [endX, List.mem_cons, List.not_mem_nil, or_false] at hb
    rcases hb with rfl | rfl | rfl | rfl | rfl | rfl
    · rfl
    · rfl
    · rfl
    · exact EndS.cells_closed
    · rfl
    · rfl
  goes c x hc hx _ := by
    obtain ⟨_, h1, h2⟩ := St.item_pad hs hx
    intro p hp
    unfold EndS.step at hp
    split at hp
    · cases hp; exact ⟨h1, h2⟩
    · split at hp
      · split at hp
        · cases hp; exact ⟨h1, h2⟩
        · exact hc p hp
      · split at hp
        · cases hp; exact ⟨h1, h2⟩
        · exact hc p hp
  yields c x hc hx := by
    have hcok : COk Tryz.prog (tyOf tys) (.rng 42 (.t 12) (rcode Tryz.prog 82 0) Y82_0a Y82_0b [13]) := cok52.2.2.1.2
    refine yields_of_awpS mixed hcok.1 hcok.2.1 rfl rfl (by simp) rfl ?_
    obtain ⟨hpad, hp1, hp2⟩ := St.item_pad hs hx
    have hJ := St.pad_junk hs hp1 hp2
    obtain ⟨d', l', hxe, hJ', _, hl1⟩ := hx.ex
    have hlb : ∀ y ∈ (s.pad (s.pOf x).2), 0 ≤ y ∧ y ≤ 1000 := by
      intro y hy
      rw [hxe] at hpad hy
      have := congrArg lsOf hpad
      rw [lsOf_hV hJ'.d14] at this
      rw [lsOf_hV (by rw [← hxe]; exact hJ.d14)] at this
      rw [← this] at hy
      exact hl1 y hy
    generalize hpe : s.pOf x = p at *
    have hlim := limits_c s high (s.pad p.1) (s.pad p.2) hJ (by omega) hs hlb
    rw [St.pad_take hp1, St.pad_take hp2] at hlim
    have hcl := EndS.cells_len hs hc
    have hcp := fun k => EndS.cells_purge (s := s) (c := c) (k := k)
    obtain ⟨xs, hx1, hmap⟩ : ∃ xs, hV s (s.pad p.1) (s.pad p.2) = .agg xs ∧ List.map AV.pv xs = hA s (s.pad p.1) (s.pad p.2) := ⟨_, rfl, by simp [hA]⟩
    have hA31 : (hA s (s.pad p.1) (s.pad p.2)).length = 31 := hA_len hJ.d14 hJ.l14
    have hxl : xs.length = 31 := by rw [← hA31, ← hmap, List.length_map]
    have htk : List.take 31 (hA s (s.pad p.1) (s.pad p.2)) = hA s (s.pad p.1) (s.pad p.2) := List.take_of_length_le (by omega)
    have hun : unpvs (hA s (s.pad p.1) (s.pad p.2)) = some xs := by rw [← hmap, unpvs_map]
    have hble : Nat.ble 31 (hA s (s.pad p.1) (s.pad p.2)).length = true := by rw [hA31]; rfl
    have hlen : (s.lims high p.1 p.2).length = s.runs.length := by rw [St.lims_len (by omega)]; omega
    have hz : (sortI (s.lims high p.1 p.2))[rank]? = some (s.rk rank high p) := by
      unfold St.rk
      rw [List.getElem?_eq_getElem (by rw [sortI_len, hlen]; exact hr)]; rfl
    have hrk := ranked_c (s.lims high p.1 p.2) rank _ hz (by omega)
    generalize s.rk rank high p = n at *
    obtain ⟨best, lim⟩ := c
    have hstep : ∀ r, EndS.cells s ⟨some p, r⟩ = hA s (s.pad p.1) (s.pad p.2) := fun r => rfl
    have hbq : AV.allSL noRet (EndS.cells s ⟨best, lim⟩) = true := EndS.cells_closed
    have hmb : ∀ g, AV.mapL g (EndS.cells s ⟨best, lim⟩) = EndS.cells s ⟨best, lim⟩ := fun g => AV.mapL_fix (q := fun _ => false) (fun s h => by cases h) _ EndS.cells_closed
    have hmA : ∀ g, AV.mapL g (hA s (s.pad p.1) (s.pad p.2)) = hA s (s.pad p.1) (s.pad p.2) := fun g => AV.mapL_fix (q := fun _ => false) (fun s h => by cases h) _ hA_closed
    have hst0 : ∀ h : Bool, EndS.step h ⟨none, lim⟩ n p = ⟨some p, n⟩ := fun h => rfl
    generalize hbc : EndS.cells s ⟨best, lim⟩ = bc at hcl hcp hbq hmb
    rw [hpad, hx1]
    rw [hx1] at hlim
    simp [-getElem?_pos, Y82_0a, Y82_0b, endX, laid, putL, hmap, hA31, hxl, htk, hun, hA_purge, hbc, hble]
    refine call_vec [] (fs := []) (xs := [.agg xs, .bool high]) (cs := []) rfl rfl hlim ?_
    have htl : List.take s.runs.length (List.map intP (s.lims high p.1 p.2)) = List.map intP (s.lims high p.1 p.2) := List.take_of_length_le (by rw [List.length_map, hlen]; exact Nat.le_refl _)
    simp [-getElem?_pos, frzsL, hA_purge, hcp]
    refine call_gives (k := 1) (fs := []) (xs := [intsP (s.lims high p.1 p.2), .int .i64 rank]) (cs := []) rfl ?_ hrk rfl ?_
    · simp [snapW, AV.snap, AV.snap0, hlen, htl, intsP_eq]
    have hb31 : Nat.ble 31 bc.length = true := by rw [hcl]; rfl
    have hdr : List.drop 31 bc = [] := List.drop_of_length_le (by omega)
    have hbeq : ((hA s (s.pad p.1) (s.pad p.2)).length == 31) = true := by rw [hA31]; rfl
    cases best with
    | none =>
      rw [hst0, hstep]
      simp [-getElem?_pos, hA_purge, hcp, hb31, hble, hbeq, hA31, hdr, hmap, hun, htk]
      exact ⟨[], [.par 1, .par 2, .par 3, .par 4, .par 5], rfl, rfl, by simp [frzL, hA_closed, hbq], rfl, by simp [frzL, hmA, hmb]⟩
    | some b =>
      cases high with
      | true =>
        cases hg : decide (n > lim)
        · have hg' : ¬ n > lim := by simpa using hg
          have hst : EndS.step true ⟨some b, lim⟩ n p = ⟨some b, lim⟩ := by simp only [EndS.step]; rw [if_neg hg']
          rw [hst, hbc]
          simp [-getElem?_pos, -decide_eq_true_eq, -decide_eq_false_iff_not, hA_purge, hcp, hg]
          exact ⟨[], [.par 1, .par 2, .par 3, .par 4, .par 5], rfl, rfl, by simp [frzL, hA_closed, hbq], rfl, by simp [frzL, hmA, hmb]⟩
        · have hg' : n > lim := by simpa using hg
          have hst : EndS.step true ⟨some b, lim⟩ n p = ⟨some p, n⟩ := by simp only [EndS.step]; rw [if_pos hg']
          rw [hst, hstep]
          simp [-getElem?_pos, -decide_eq_true_eq, -decide_eq_false_iff_not, hA_purge, hcp, hb31, hble, hbeq, hA31, hdr, hmap, hun, htk, hg]
          exact ⟨[], [.par 1, .par 2, .par 3, .par 4, .par 5], rfl, rfl, by simp [frzL, hA_closed, hbq], rfl, by simp [frzL, hmA, hmb]⟩
      | false =>
        cases hg : decide (n < lim)
        · have hg' : ¬ n < lim := by simpa using hg
          have hst : EndS.step false ⟨some b, lim⟩ n p = ⟨some b, lim⟩ := by simp only [EndS.step]; rw [if_neg hg']
          rw [hst, hbc]
          simp [-getElem?_pos, -decide_eq_true_eq, -decide_eq_false_iff_not, hA_purge, hcp, hg]
          exact ⟨[], [.par 1, .par 2, .par 3, .par 4, .par 5], rfl, rfl, by simp [frzL, hA_closed, hbq], rfl, by simp [frzL, hmA, hmb]⟩
        · have hg' : n < lim := by simpa using hg
          have hst : EndS.step false ⟨some b, lim⟩ n p = ⟨some p, n⟩ := by simp only [EndS.step]; rw [if_pos hg']
          rw [hst, hstep]
          simp [-getElem?_pos, -decide_eq_true_eq, -decide_eq_false_iff_not, hA_purge, hcp, hb31, hble, hbeq, hA31, hdr, hmap, hun, htk, hg]
          exact ⟨[], [.par 1, .par 2, .par 3, .par 4, .par 5], rfl, rfl, by simp [frzL, hA_closed, hbq], rfl, by simp [frzL, hmA, hmb]⟩
end Go.Proofs.YtaffbiibcfeigaaGreat
/-! Contracts of layer 4's functions (stair): end, asked, Rank. -/
namespace Go.Proofs.YtaffbiibcfeigaaGreat
open Go.RowKit
set_option maxRecDepth 10000
set_option linter.unusedSimpArgs false
theorem St.pOf_of {s : St} (h : s.check = 0) {p : List Int × List Int} (hp : p ∈ s.all) : s.pOf (hV s (s.pad p.1) (s.pad p.2)) = p := by
  obtain ⟨h1, h2, h3, h4⟩ := St.all_ok h hp
  obtain ⟨_, _, q3, _⟩ := St.check0 h
  have hJ := St.pad_junk q3 h1 h2
  unfold St.pOf
  rw [dsOf_hV hJ.d14, lsOf_hV hJ.d14, St.pad_take h1, St.pad_take h2]
theorem endC_run {s : St} (hs : s.runs.length ≤ 14) (h : s.check = 0) (rank : Nat) (hr : rank < s.runs.length) (high : Bool) : ∀ (l : List (List Int × List Int)) (c : EndS), (∀ p ∈ l, p ∈ s.all) →
    (endC s hs rank hr high).run c (l.map fun p => hV s (s.pad p.1) (s.pad p.2)) = (l.foldl (fun c p => c.step high (s.rk rank high p) p) c, true)
  | [], c, _ => rfl
  | p :: l, c, hl => by
    have e : (endC s hs rank hr high).step c (hV s (s.pad p.1) (s.pad p.2)) = (c.step high (s.rk rank high p) p, true) := by
      show (c.step high (s.rk rank high (s.pOf _)) (s.pOf _), true) = _
      rw [St.pOf_of h (hl p (by simp))]
    have e0 : ∀ (x : PV) (r : List PV), (endC s hs rank hr high).run c (x :: r) = match ((endC s hs rank hr high).step c x).2 with
      | true => (endC s hs rank hr high).run ((endC s hs rank hr high).step c x).1 r
      | false => (((endC s hs rank hr high).step c x).1, false) := fun _ _ => rfl
    rw [List.map_cons, e0, e]
    exact endC_run hs h rank hr high l _ (fun q hq => hl q (by simp [hq]))
def St.endS (s : St) (rank : Nat) (high : Bool) : EndS := s.all.foldl (fun c p => c.step high (s.rk rank high p) p) ⟨none, 0⟩
theorem EndS.fold_mem {s : St} {rank : Nat} {high : Bool} : ∀ (l : List (List Int × List Int)) (c : EndS) (p : List Int × List Int), (l.foldl (fun c p => c.step high (s.rk rank high p) p) c).best = some p → p ∈ l ∨ c.best = some p
  | [], c, p, h => .inr h
  | q :: l, c, p, h => by
    rw [List.foldl_cons] at h
    rcases EndS.fold_mem l _ p h with h | h
    · exact .inl (by simp [h])
    · unfold EndS.step at h
      split at h
      · cases h; exact .inl (by simp)
      · split at h
        · split at h
          · cases h; exact .inl (by simp)
          · exact .inr h
        · split at h
          · cases h; exact .inl (by simp)
          · exact .inr h
theorem EndS.fold_some {s : St} {rank : Nat} {high : Bool} : ∀ (l : List (List Int × List Int)) (c : EndS), (l ≠ [] ∨ c.best.isSome = true) → (l.foldl (fun c p => c.step high (s.rk rank high p) p) c).best.isSome = true
  | [], c, h => by
    rcases h with h | h
    · exact absurd rfl h
    · exact h
  | q :: l, c, h => by
    rw [List.foldl_cons]
    refine EndS.fold_some l _ (.inr ?_)
    unfold EndS.step
    split
    · rfl
    · rename_i e
      split
      · split
        · rfl
        · rw [e]; rfl
      · split
        · rfl
        · rw [e]; rfl
theorem St.all_ne {s : St} (h : s.possible = 0) : s.all ≠ [] := by
  intro e
  have hc := St.possible0 h
  unfold St.possible at h
  rw [if_pos hc, St.items_all, e] at h
  simp at h
theorem St.endS_ok {s : St} (h : s.possible = 0) (rank : Nat) (high : Bool) : ∃ p, p ∈ s.all ∧ (s.endS rank high).best = some p := by
  have h1 := EndS.fold_some (s := s) (rank := rank) (high := high) s.all ⟨none, 0⟩ (.inl (St.all_ne h))
  obtain ⟨p, hp⟩ := Option.isSome_iff_exists.1 h1
  refine ⟨p, ?_, hp⟩
  rcases EndS.fold_mem s.all _ p hp with h | h
  · exact h
  · cases h
attribute [local simp] AS.exp expG Box.ren AV.map AV.mapL outsOk noRet Site.isRet Box.allS AV.allS AV.allSL retB St.cells mayF dropL AS.adds renL outG outOk lentBx inG fnOf lookA List.findIdx?_cons
attribute [local simp] isLoc_loc isLoc_par isLoc_ret purge_cells purge_map purge_arr purge_loop
set_option maxHeartbeats 8000000 in
theorem end_c (s : St) (hp : s.possible = 0) (rank : Nat) (hr : rank < s.runs.length) (high : Bool) (p : List Int × List Int) (hb : (s.endS rank high).best = some p) (hpa : p ∈ s.all) :
    CallsA Tryz.prog 82 ([s.pv, .int .i64 rank, .bool high].map .pv) [] (fun r B => r = .pv (.tup [hV s (s.pad p.1) (s.pad p.2), .int .i64 (s.endS rank high).lim]) ∧ B = []) := by
  have hch := St.possible0 hp
  obtain ⟨q1, q2, q3, _⟩ := St.check0 hch
  obtain ⟨hp1, hp2, _, _⟩ := St.all_ok hch hpa
  have hJ := St.pad_junk q3 hp1 hp2
  have hit := iter_c (endC s q3 rank hr high) s (by omega) (by omega) q3 [] ⟨none, 0⟩ (goodNil s) (fun p h => by cases h) (fun x hx => by
    rw [St.items_all] at hx
    obtain ⟨p, hp, rfl⟩ := List.mem_map.1 hx
    exact St.item_of hch hp)
  rw [St.items_all, endC_run q3 hch rank hr high s.all _ (fun p hp => hp)] at hit
  have e : s.all.foldl (fun c p => c.step high (s.rk rank high p) p) ⟨none, 0⟩ = s.endS rank high := rfl
  rw [e] at hit
  have hcell : EndS.cells s (s.endS rank high) = hA s (s.pad p.1) (s.pad p.2) := by unfold EndS.cells; rw [hb]
  obtain ⟨xs, hx1, hmap⟩ : ∃ xs, hV s (s.pad p.1) (s.pad p.2) = .agg xs ∧ List.map AV.pv xs = hA s (s.pad p.1) (s.pad p.2) := ⟨_, rfl, by simp [hA]⟩
  have hA31 : (hA s (s.pad p.1) (s.pad p.2)).length = 31 := hA_len hJ.d14 hJ.l14
  have hxl : xs.length = 31 := by rw [← hA31, ← hmap, List.length_map]
  have htk : List.take 31 (hA s (s.pad p.1) (s.pad p.2)) = hA s (s.pad p.1) (s.pad p.2) := List.take_of_length_le (by omega)
  have hun : unpvs (hA s (s.pad p.1) (s.pad p.2)) = some xs := by rw [← hmap, unpvs_map]
  have hble : Nat.ble 31 (hA s (s.pad p.1) (s.pad p.2)).length = true := by rw [hA31]; rfl
  have hbeq : ((hA s (s.pad p.1) (s.pad p.2)).length == 31) = true := by rw [hA31]; rfl
  have hdr : List.drop 31 (hA s (s.pad p.1) (s.pad p.2)) = [] := List.drop_of_length_le (by omega)
  refine calls_of_awpS mixed L82_ok (Nat.le_of_ble_eq_true rfl) ?_
  simp [-getElem?_pos, L82, St.pv]
  refine call_lent (as' := [.pv s.pv]) (B := []) (fs := []) (cs := []) 12 [] ?_ rfl rfl rfl ?_ ?_ (histories_c s) ?_
  · rfl
  · rfl
  · rfl
  rintro r0 B0 ⟨rfl, rfl⟩
  refine ⟨rfl, by simp [hisB], ?_⟩
  simp [-getElem?_pos, hisF, hisB]
  refine rng_lent [.loc 42 0, .loc 4 0, .loc 5 0, .loc 6 0, .loc 7 0, .loc 8 0, .loc 12 0, .loc 12 1, .loc 12 2, .loc 12 3, .loc 12 4] [(4, .ptr (.loc 4 0) 0), (5, .ptr (.loc 5 0) 0), (6, .ptr (.loc 6 0) 0), (7, .ptr (.loc 7 0) 0), (8, .ptr (.loc 8 0) 0)] (gf := 193) (fs := []) (cs := [.ptr (.loc 12 0) 0, .ptr (.loc 12 3) 0, .ptr (.loc 12 4) 0]) ?_ ?_ rfl rfl ?_ ?_ ?_ hit ?_
  · rfl
  · simp
  · rfl
  · rfl
  · rfl
  rintro r B' ⟨rfl, M', hM', rfl⟩
  refine ⟨rfl, ?_, ?_⟩
  · have h7 := closed_own5 (C := endC s q3 rank hr high) (c := s.endS rank high) (s := s) (M := M')
    exact fun p hp => laid_ok (n := 11) (L := (endC s q3 rank hr high).X (s.endS rank high) ++ own5B s M' (endC s q3 rank hr high).m) (by simp [endC, endX, own5B]) h7 p hp
  · refine ⟨_, _, _, _, _, rfl, ?_⟩
    have hmA : ∀ g, AV.mapL g (hA s (s.pad p.1) (s.pad p.2)) = hA s (s.pad p.1) (s.pad p.2) := fun g => AV.mapL_fix (q := fun _ => false) (fun s h => by cases h) _ hA_closed
    simp [-getElem?_pos, endC, endX, own5B, laid, jumpQ, hcell, hmA, hA_purge, hble, hmap, hun, htk]
    generalize (s.endS rank high).lim = n at *
    refine ltS_seq ⟨[(6, .ptr (.loc 6 0) 0), (7, .ptr (.loc 7 0) 0), (41, .pv (.int .i64 n))], [(.loc 6 0, .cells (hA s (s.pad p.1) (s.pad p.2))), (.loc 7 0, .cells [.pv (.int .i64 n)])]⟩ ?_ ?_
    · simp [-getElem?_pos, ltS_alt, ltS_no, hble, hbeq, hA31, hdr, hmap, hun, htk, hA_purge, hxl]
      repeat' (with_reducible refine And.intro ?_ ?_)
      all_goals
        refine Sub.mk ?_ ?_
        · simp
        · simp
    · simp [-getElem?_pos, ltS_alt, ltS_no, hble, hbeq, hA31, hdr, hmap, hun, htk, hA_purge, hxl]
      exact hx1.symm
/-- The error of a staircase with a rank. -/
def St.asked (s : St) (k : Int) : Int := if s.possible = 0 then (if 0 ≤ k ∧ k ≤ (s.runs.length : Int) - 1 then 0 else 2) else s.possible
theorem asked_c (s : St) (hl : s.runs.length ≤ 1000000) (k : Int) : Gives Tryz.prog 81 [s.pv, .int .i64 k] (.int .i64 (s.asked k)) := by
  refine calls_of_awpS mixed L81_ok (Nat.le_of_ble_eq_true rfl) ?_
  have hw : IntKind.i64.wrap ((s.runs.length : Int) - 1) = (s.runs.length : Int) - 1 := wrap64 (by omega)
  simp [-getElem?_pos, L81, St.pv]
  refine call_gives (k := 0) rfl rfl (possible_c s hl) rfl ?_
  cases hc : decide (s.possible = 0)
  · have hc' : ¬ s.possible = 0 := by simpa using hc
    simp [-getElem?_pos, hc', St.asked]
  · have hc' : s.possible = 0 := by simpa using hc
    simp [-getElem?_pos, hc', hw]
    refine call_gives (k := 0) rfl rfl (within_c k 0 ((s.runs.length : Int) - 1)) rfl ?_
    cases hb : decide (0 ≤ k) && decide (k ≤ (s.runs.length : Int) - 1)
    · have hb' : ¬ (0 ≤ k ∧ k ≤ (s.runs.length : Int) - 1) := by simpa using hb
      simp [-getElem?_pos, St.asked, hc', hb']
    · have hb' : 0 ≤ k ∧ k ≤ (s.runs.length : Int) - 1 := by simpa using hb
      simp [-getElem?_pos, St.asked, hc', hb']
/-- The span of the limit of a rank; the error. -/
def St.rank (s : St) (k : Int) : (Int × Int) × Int := if s.asked k = 0 then (((s.endS k.toNat false).lim, (s.endS k.toNat true).lim), 0) else ((0, 0), s.asked k)
theorem St.asked0 {s : St} {k : Int} (h : s.asked k = 0) : s.possible = 0 ∧ 0 ≤ k ∧ k ≤ (s.runs.length : Int) - 1 := by
  unfold St.asked at h
  split at h
  · split at h
    · exact ⟨by assumption, by assumption⟩
    · cases h
  · exact absurd h (by assumption)
set_option maxHeartbeats 8000000 in
theorem rank_c (s : St) (hl : s.runs.length ≤ 1000000) (k : Int) : Gives Tryz.prog 43 [s.pv, .int .i64 k] (.tup [rangeP (s.rank k).1, .int .i64 (s.rank k).2]) := by
  refine calls_of_awpS mixed L43_ok (Nat.le_of_ble_eq_true rfl) ?_
  simp [-getElem?_pos, L43, St.pv]
  refine call_gives (k := 0) rfl rfl (asked_c s hl k) rfl ?_
  cases hc : decide (s.asked k = 0)
  · have hc' : ¬ s.asked k = 0 := by simpa using hc
    simp [-getElem?_pos, hc', St.rank, rangeP]
  · have hc' : s.asked k = 0 := by simpa using hc
    obtain ⟨hp, hk0, hk1⟩ := St.asked0 hc'
    obtain ⟨r, rfl⟩ : ∃ r : Nat, k = r := ⟨k.toNat, by omega⟩
    have hr : r < s.runs.length := by omega
    have hch := St.possible0 hp
    obtain ⟨_, _, q3, _⟩ := St.check0 hch
    have hce : ∀ high, ∃ xs : List PV, CallsA Tryz.prog 82 ([s.pv, .int .i64 r, .bool high].map .pv) [] (fun q B => q = .pv (.tup [.agg xs, .int .i64 (s.endS r high).lim]) ∧ B = []) ∧ xs.length = 31 := fun high => by
      obtain ⟨p, hpa, hb⟩ := St.endS_ok hp r high
      obtain ⟨hp1, hp2, _, _⟩ := St.all_ok hch hpa
      have hJ := St.pad_junk q3 hp1 hp2
      obtain ⟨xs, hx1, hmap⟩ : ∃ xs, hV s (s.pad p.1) (s.pad p.2) = .agg xs ∧ List.map AV.pv xs = hA s (s.pad p.1) (s.pad p.2) := ⟨_, rfl, by simp [hA]⟩
      have h := end_c s hp r hr high p hb hpa
      rw [hx1] at h
      exact ⟨xs, h, by rw [← List.length_map (f := AV.pv), hmap]; exact hA_len hJ.d14 hJ.l14⟩
    obtain ⟨x1, he1, hl1⟩ := hce false
    obtain ⟨x2, he2, hl2⟩ := hce true
    have hm : ∀ (l : List PV) (k : Nat), List.map (AV.purge k) (l.map AV.pv) = l.map AV.pv := fun l k => by rw [List.map_map]; rfl
    simp [-getElem?_pos, hc']
    refine .inl (call_pv [] (fs := []) (xs := [s.pv, .int .i64 r, .bool false]) (cs := []) rfl rfl he1 ?_)
    simp [-getElem?_pos, frzsL, hl1, -List.map_map, hm]
    refine .inl (call_pv [] (fs := []) (xs := [s.pv, .int .i64 r, .bool true]) (cs := []) rfl rfl he2 ?_)
    simp [-getElem?_pos, frzsL, hl2, -List.map_map, hm]
    have hre : s.rank (r : Int) = (((s.endS r false).lim, (s.endS r true).lim), 0) := by unfold St.rank; rw [if_pos hc']; rfl
    rw [hre]
    exact ⟨rfl, rfl⟩
end Go.Proofs.YtaffbiibcfeigaaGreat
/-! Contracts of layer 4's statements (stair): what the chapter shows. -/
namespace Go.Proofs.YtaffbiibcfeigaaGreat
open Go.RowKit
attribute [local simp] Box.purge Site.isLoc
set_option maxRecDepth 10000
set_option linter.unusedSimpArgs false
attribute [local simp] retFz frzL AS.frz AV.frz AV.frzL Box.frz AS.tidy
end Go.Proofs.YtaffbiibcfeigaaGreat
/-! Contracts of layer 4's statements (stair): the staircase handed to the program. -/
namespace Go.Proofs.YtaffbiibcfeigaaGreat
open Go.RowKit
attribute [local simp] Box.purge Site.isLoc
set_option maxRecDepth 10000
set_option linter.unusedSimpArgs false
theorem CallsA.weak {P : Program} {f : FuncId} {xs : List AV} {B : List (Site × Box)} {x x' : PV} (h : CallsA P f xs B (fun r B => r = .pv x ∧ B = [])) (hw : ∀ m v, RdP m v x → RdP m v x') : CallsA P f xs B (fun r B => r = .pv x' ∧ B = []) := by
  refine ⟨h.1, fun w m ρ vs h1 h2 h3 h4 => (h.2 w m ρ vs h1 h2 h3 h4).mono fun e w' ⟨v, r, B', ρ', m', k1, ⟨k2, k3⟩, k4, k5, k6, k7, k8, k9, k10, k11⟩ => ?_⟩
  subst k2 k3
  exact ⟨v, .pv x', [], ρ', m', k1, ⟨rfl, rfl⟩, k4, k5, k6, k7, k8, k9, .pv _ _ (hw _ _ k10.pv_inv), k11⟩
theorem emp_lst {m : Mem} {v : Value} {nl : Option Bool} {n : Nat} (h : RdP m v (.emp nl)) : RdP m v (.lst false n []) := by
  cases h with
  | emp a _ h0 h1 h2 => exact .lst a 0 false n [] (fun _ => []) (by simp) (by simp) (fun _ => rfl) h2 (fun hh => by cases hh) (fun i x hx => by simp at hx) (fun i x hx => by simp at hx) (fun i x j d c hx => by simp at hx)
theorem agg_wk {m : Mem} {v : Value} {cs cs' : List PV} (hl : cs.length = cs'.length) (hw : ∀ (j : Nat) (c c' : PV) (d : Value), cs[j]? = some c → cs'[j]? = some c' → RdP m d c → RdP m d c') (h : RdP m v (.agg cs)) : RdP m v (.agg cs') := by
  cases h with
  | agg vs _ h0 h1 h2 =>
    refine .agg vs cs' (by omega) h1 (fun j d c k1 k2 => ?_)
    have hj : j < cs.length := by have := (List.getElem?_eq_some_iff.1 k2).1; omega
    exact hw j cs[j] c d (List.getElem?_eq_getElem hj) k2 (h2 j d _ k1 (List.getElem?_eq_getElem hj))
attribute [local simp] retFz frzL AS.frz AV.frz AV.frzL Box.frz AS.tidy
/-- The head of the loop that copies the runs. -/
def stH (s : St) : Nat → AS
  | 0 => ⟨[(1, .ptr (.loc 1 0) 0), (2, .ptr (.loc 2 0) 0), (3, .ptr (.loc 3 0) 0), (4, .pv (.int .i64 0))],
      [(.loc 3 0, .cells [.pv (.int .i64 s.levels), .pv (.int .i64 s.start), .pv (.emp (some true))]), (.loc 2 0, .cells [.pv (.int .i64 0), .pv (.int .i64 0), .pv (.emp (some true))]), (.loc 1 0, .cells s.cells)]⟩
  | k + 1 => ⟨[(1, .ptr (.loc 1 0) 0), (2, .ptr (.loc 2 0) 0), (3, .ptr (.loc 3 0) 0), (4, .pv (.int .i64 (k + 1 : Nat)))],
      [(.loc 33 0, .arr 233 2 ((s.runs.take (k + 1)).map Rn.pv)), (.loc 3 0, .cells [.pv (.int .i64 s.levels), .pv (.int .i64 s.start), .vec (.loc 33 0) 2 0 (k + 1)]), (.loc 2 0, .cells [.pv (.int .i64 0), .pv (.int .i64 0), .pv (.emp (some true))]), (.loc 1 0, .cells s.cells)]⟩
set_option maxHeartbeats 8000000 in
theorem stairs0_c (s : St) (hl : s.runs.length ≤ 1000) : CallsA Tryz.prog 44 ([s.pv].map .pv) [] (fun r B => r = .pv (.agg [.int .i64 s.levels, .int .i64 s.start, if s.runs = [] then .emp (some true) else .lst false 2 (s.runs.map Rn.pv)]) ∧ B = []) := by
  by_cases hne : s.runs = []
  · refine calls_of_awpS mixed L44_ok (Nat.le_of_ble_eq_true rfl) ?_
    simp [-getElem?_pos, L44, St.pv, hne]
    refine awp_loopS (fun n τ => τ = stH s 0) ⟨0, _, Sub.mk (by simp [stH]) (by simp [stH, St.cells, hne]), rfl⟩ ?_
    rintro J hJ n τ rfl
    simp [-getElem?_pos, stH, St.cells, hne]
  · refine calls_of_awpF [.loc 33 0] mixed L44_ok (Nat.le_of_ble_eq_true rfl) ?_
    rw [if_neg hne]
    simp [-getElem?_pos, L44, St.pv]
    refine awp_loopS (fun n τ => ∃ k : Nat, k ≤ s.runs.length ∧ n = s.runs.length - k ∧ τ = stH s k) ⟨s.runs.length, _, Sub.mk (by simp [stH]) (by simp [stH, St.cells]), 0, by omega, rfl, rfl⟩ ?_
    rintro J hJ n τ ⟨k, hk, rfl, rfl⟩
    by_cases hlt : k < s.runs.length
    · have hx : s.runs[k]? = some s.runs[k] := List.getElem?_eq_getElem hlt
      have hts : s.runs.take (k + 1) = s.runs.take k ++ [s.runs[k]] := by rw [List.take_add_one, hx]; rfl
      generalize s.runs[k] = r at hx hts
      obtain ⟨lv, rs⟩ := r
      have hw : IntKind.i64.wrap ((k : Int) + 1) = ((k + 1 : Nat) : Int) := by rw [wrap64 (by omega)]; omega
      have hround := hJ _ _ ⟨k + 1, hlt, rfl, rfl⟩
      cases k with
      | zero =>
        rw [show ((0 : Nat) : Int) = 0 from rfl] at hw
        have hw1 : IntKind.i64.wrap 1 = 1 := rfl
        simp [-getElem?_pos, stH, St.cells, hlt, hx, Rn.pv, hw1, nble, nblt]
        refine ⟨_, _, (by omega : s.runs.length - 1 < s.runs.length), Sub.mk ?_ ?_, hround⟩
        · simp [stH]
        · rw [Nat.zero_add] at hts
          simp [stH, hts, Rn.pv, St.cells]
      | succ k =>
        rw [show ((k + 1 : Nat) : Int) = (k : Int) + 1 by omega] at hw
        have hlt' : decide ((k : Int) + 1 < (s.runs.length : Int)) = true := by simp; omega
        have hk0 : k + 1 ≤ s.runs.length := by omega
        have hkb : k + 1 < s.runs.length := by omega
        have hk6 : k + 1 + 1 ≤ 1000000 := by omega
        simp [-getElem?_pos, -decide_eq_true_eq, stH, St.cells, hlt', hx, Rn.pv, hw, nble, nblt, hkb, hk6, Nat.min_eq_left hk0]
        refine ⟨_, _, (by omega : s.runs.length - (k + 1 + 1) < s.runs.length - (k + 1)), Sub.mk ?_ ?_, hround⟩
        · simp [stH]
        · simp [stH, hts, Rn.pv, St.cells]
    · have he : k = s.runs.length := by omega
      subst he
      obtain ⟨j, hj⟩ : ∃ j, s.runs.length = j + 1 := ⟨s.runs.length - 1, by have := List.length_pos_iff.2 hne; omega⟩
      have htk : List.take (j + 1) s.runs = s.runs := List.take_of_length_le (by omega)
      rw [hj]
      simp [-getElem?_pos, stH, St.cells, hj, htk, hne]
      have htk2 : List.take (j + 1) (List.map Rn.pv s.runs) = List.map Rn.pv s.runs := List.take_of_length_le (by simp; omega)
      simp [htk2]
theorem stairs_c (s : St) (hl : s.runs.length ≤ 1000) : CallsA Tryz.prog 44 ([s.pv].map .pv) [] (fun r B => r = .pv s.pv ∧ B = []) := by
  refine (stairs0_c s hl).weak (fun m v h => ?_)
  refine agg_wk ?_ ?_ h
  · rfl
  intro j c c' d h1 h2 hd
  match j with
  | 0 => simp at h1 h2; subst h1 h2; exact hd
  | 1 => simp at h1 h2; subst h1 h2; exact hd
  | 2 =>
    simp at h1 h2
    subst h2
    split at h1
    · rename_i hne
      subst h1
      rw [hne]
      exact emp_lst hd
    · subst h1; exact hd
  | j + 3 => simp at h1
end Go.Proofs.YtaffbiibcfeigaaGreat
