/- An evaluation of Go's code over plain values: append, make. Over any program. (Several texts in one.) -/
import Derived.Test.YtohhjnpiiackjaaBaseA
import Derived.DeepKeys3
import Derived.MapKept
import Derived.RangeFuncRecord
import Derived.Laws.Concat
import Derived.Laws.BytesString
import Derived.Laws.AppendOwn
import Derived.Deep.AppendSrc
import Derived.Lib.ConvBytes
import Derived.OrdersHeld
import Derived.OrdersIn
import Derived.TacticsIn
import Derived.RangeFuncLeaves
set_option linter.unusedVariables false
set_option linter.unusedSimpArgs false
/-! An evaluation of Go's code over plain values: append, make. Over any program. -/
namespace Go.Proofs.Ytohhjnpiiackjaa
open Go.RowKit
/-- Cells side by side read as elements of n cells. -/
structure Flat (m : Mem) (ds : List Value) (n : Nat) (xs : List PV) : Prop where
  len : ds.length = xs.length * n
  one : ∀ u ∈ ds, u.oneCell' = true
  get : ∀ (i : Nat) (x : PV), xs[i]? = some x → x.cells.length = n ∧ ∀ (j : Nat) (c : PV), x.cells[j]? = some c → ∃ u, ds[i * n + j]? = some u ∧ RdP m u c
theorem Flat.app {m : Mem} {ds es : List Value} {n : Nat} {xs ys : List PV} (h : Flat m ds n xs) (k : Flat m es n ys) : Flat m (ds ++ es) n (xs ++ ys) := by
  refine ⟨by rw [List.length_append, h.len, k.len, List.length_append, Nat.add_mul], fun u hu => by
    rcases List.mem_append.1 hu with h' | h'
    · exact h.one u h'
    · exact k.one u h', fun i x hi => ?_⟩
  rw [List.getElem?_append] at hi
  split at hi
  · rename_i hlt
    obtain ⟨k1, k2⟩ := h.get i x hi
    refine ⟨k1, fun j c hj => ?_⟩
    obtain ⟨u, k3, k4⟩ := k2 j c hj
    exact ⟨u, by rw [List.getElem?_append_left (List.getElem?_eq_some_iff.1 k3).1]; exact k3, k4⟩
  · rename_i hlt
    obtain ⟨k1, k2⟩ := k.get _ x hi
    refine ⟨k1, fun j c hj => ?_⟩
    obtain ⟨u, k3, k4⟩ := k2 j c hj
    have e : i * n = ds.length + (i - xs.length) * n := by rw [h.len, ← Nat.add_mul]; congr 1; omega
    exact ⟨u, by rw [List.getElem?_append_right (by omega), show i * n + j - ds.length = (i - xs.length) * n + j by omega]; exact k3, k4⟩
theorem Flat.nil (m : Mem) (n : Nat) : Flat m [] n [] := ⟨by simp, (fun u h => by cases h), (fun i x h => by simp at h)⟩
/-- What a slice value holds, cell by cell. -/
def Cont (m : Mem) (w : World) (v : Value) (n : Nat) (xs : List PV) : Prop :=
  ∃ (a : Option Addr) (cap : Nat) (ds : List Value), v = .slice a xs.length cap ∧ Flat m ds n xs ∧ ∀ (k : Nat) (u : Value), ds[k]? = some u → ∃ b o, a = some ⟨b, o, none⟩ ∧ w.cell? ⟨b, o + k, none⟩ = some u
section
variable {P : Program} {N : Nat} {w0 : World} {m0 : Env w0} {pl : List Nat} {σ : AS} {ρ : Site → Loc} {m : Mem} {act : Act} {w : World} {o : Oper} {d : Nat} {K : AV → AS → Prop}
theorem div_mod_lt {k n L : Nat} (h : k < L * n) (hn : 0 < n) : k / n < L ∧ k % n < n ∧ k / n * n + k % n = k := by
  refine ⟨Nat.div_lt_of_lt_mul (by rw [Nat.mul_comm]; exact h), Nat.mod_lt _ hn, ?_⟩
  rw [Nat.mul_comm]; exact Nat.div_add_mod k n
theorem cont_lst {v : Value} {nn : Bool} {n : Nat} {xs : List PV} (hn : 0 < n) (hw : Le m w.mem) (h : RdA ρ m v (.pv (.lst nn n xs))) : Cont m w v n xs := by
  obtain ⟨a, cap, ds, hv, l0, l1, l2, l3, l5, l6, l7⟩ := h.lst_inv
  have hL : ∀ k, k < xs.length * n → ∃ u, (ds (k / n))[k % n]? = some u := fun k hk => by
    obtain ⟨h1, h2, h3⟩ := div_mod_lt hk hn
    obtain ⟨k1, _, _⟩ := l6 _ _ (List.getElem?_eq_getElem h1)
    exact ⟨_, List.getElem?_eq_getElem (by rw [k1]; exact h2)⟩
  have hget : ∀ k u, ((List.range (xs.length * n)).map fun k => ((ds (k / n))[k % n]?).getD undef)[k]? = some u → k < xs.length * n ∧ (ds (k / n))[k % n]? = some u := fun k u hk => by
    rw [List.getElem?_map] at hk
    obtain ⟨k', k1, k2⟩ := Option.map_eq_some_iff.1 hk
    have hlt : k < xs.length * n := by have := (List.getElem?_eq_some_iff.1 k1).1; simpa using this
    rw [List.getElem?_range hlt] at k1
    cases k1
    obtain ⟨u', hu'⟩ := hL k hlt
    rw [hu'] at k2
    simp at k2; subst k2
    exact ⟨hlt, hu'⟩
  refine ⟨a, cap, (List.range (xs.length * n)).map fun k => ((ds (k / n))[k % n]?).getD undef, hv, ⟨by simp, fun u hu => ?_, fun i x hi => ?_⟩, fun k u hk => ?_⟩
  · obtain ⟨k, hk⟩ := List.mem_iff_getElem?.1 hu
    obtain ⟨hlt, k1⟩ := hget k u hk
    obtain ⟨h1, _, _⟩ := div_mod_lt hlt hn
    exact (l6 _ _ (List.getElem?_eq_getElem h1)).2.2 u (List.mem_of_getElem? k1)
  · obtain ⟨k1, k2, _⟩ := l6 i x hi
    refine ⟨k2, fun j c hj => ?_⟩
    have hjn : j < n := by have := (List.getElem?_eq_some_iff.1 hj).1; omega
    have hil : i < xs.length := (List.getElem?_eq_some_iff.1 hi).1
    have hlt : i * n + j < xs.length * n := by have := mul_lt_of (n := n) hil; omega
    have hdiv : (i * n + j) / n = i := by rw [Nat.add_comm, Nat.add_mul_div_right _ _ hn, Nat.div_eq_of_lt hjn, Nat.zero_add]
    have hmod : (i * n + j) % n = j := by rw [Nat.add_comm, Nat.add_mul_mod_self_right, Nat.mod_eq_of_lt hjn]
    have hjd : j < (ds i).length := by omega
    refine ⟨(ds i)[j], ?_, l7 i x j _ c hi (List.getElem?_eq_getElem hjd) hj⟩
    rw [List.getElem?_map, List.getElem?_range hlt, Option.map_some, hdiv, hmod, List.getElem?_eq_getElem hjd]; rfl
  · obtain ⟨hlt, k1⟩ := hget k u hk
    obtain ⟨h1, h2, h3⟩ := div_mod_lt hlt hn
    obtain ⟨b, q, ha, k2⟩ := l5 _ _ (List.getElem?_eq_getElem h1)
    refine ⟨b, q, ha, ?_⟩
    have := hw _ _ _ (k2.get _ u k1)
    rwa [show q + k / n * n + k % n = q + k by omega] at this
theorem cont_rd {v : Value} {a : AV} {n : Nat} {xs : List PV} (hn : 0 < n) (hS : Sat N w0 m0 pl σ ρ m act w) (h : RdA ρ m v a) (hc : σ.cont a n = some xs) : Cont m w v n xs := by
  unfold AS.cont at hc
  split at hc
  · split at hc
    · rename_i e; subst e; cases hc
      exact cont_lst hn hS.mem h
    · cases hc
  · cases hc
    obtain ⟨a, hv, _⟩ := h.emp_inv
    exact ⟨a, 0, [], hv, Flat.nil m n, fun k u hk => by simp at hk⟩
  · rename_i s n' lo len
    split at hc
    · rename_i e n'' ys hb
      split at hc
      · rename_i hcc
        obtain ⟨rfl, rfl, hl⟩ := hcc
        cases hc
        have hlen : ((ys.drop lo).take len).length = len := by rw [List.length_take, List.length_drop]; omega
        rcases h.vec_inv with ⟨cap, hv, c0, c1, c2⟩ | ⟨a, hv, c0, _⟩
        · obtain ⟨hn0, hB | ⟨hr, cs, g1, g2, g3, g4, g5⟩⟩ := hS.bx s _ hb
          · rw [hB.1] at c2; cases c2
          have hfit : (ρ s).o + lo * n'' + len * n'' ≤ cs.size := by
            have : (lo + len) * n'' ≤ (ρ s).cap * n'' := Nat.mul_le_mul_right _ (by omega)
            rw [Nat.add_mul] at this; omega
          have el : ∀ i x, ((ys.drop lo).take len)[i]? = some x → i < len ∧ ys[lo + i]? = some x := fun i x hx => by
            rw [List.getElem?_take] at hx
            split at hx
            · rename_i hi; rw [List.getElem?_drop] at hx; exact ⟨hi, hx⟩
            · cases hx
          refine ⟨some ⟨(ρ s).b, (ρ s).o + lo * n'', none⟩, cap, (cs.toList.drop ((ρ s).o + lo * n'')).take (len * n''), by rw [hlen]; exact hv, ⟨by rw [slice_len hfit, hlen], fun u hu => ?_, fun i x hi => ?_⟩, fun k u hk => ⟨_, _, rfl, ?_⟩⟩
          · obtain ⟨k, hk⟩ := List.mem_iff_getElem?.1 hu
            rw [slice_get] at hk
            split at hk
            · rename_i hlt
              obtain ⟨h1, h2, h3⟩ := div_mod_lt hlt hn
              have hly : lo + k / n'' < ys.length := by omega
              obtain ⟨q1, q2⟩ := g5 _ _ (List.getElem?_eq_getElem hly)
              have hlc : k % n'' < (ys[lo + k / n'']).cells.length := by omega
              obtain ⟨u', q3, q4, _⟩ := q2 _ _ (List.getElem?_eq_getElem hlc)
              rw [show (ρ s).o + (lo + k / n'') * n'' + k % n'' = (ρ s).o + lo * n'' + k by rw [Nat.add_mul]; omega, hk] at q3
              cases q3; exact q4
            · cases hk
          · obtain ⟨hil, hi'⟩ := el i x hi
            obtain ⟨q1, q2⟩ := g5 _ x hi'
            refine ⟨q1, fun j c hj => ?_⟩
            obtain ⟨u, q3, _, q5⟩ := q2 j c hj
            have hjn : j < n'' := by have := (List.getElem?_eq_some_iff.1 hj).1; omega
            have := mul_lt_of (n := n'') hil
            exact ⟨u, by rw [slice_get, if_pos (by omega)]; rw [← q3]; congr 1; rw [Nat.add_mul]; omega, q5⟩
          · rw [slice_get] at hk
            split at hk
            · simp [World.cell?, g1, hk]
            · cases hk
        · subst c0
          exact ⟨a, 0, [], by rw [hlen]; exact hv, by simpa using Flat.nil m n'', fun k u hk => by simp at hk⟩
      · cases hc
    · cases hc
  · cases hc
theorem first_run {n : Nat} {xs : List PV} {a : Option Addr} {ds : List Value} (hf : Flat m ds n xs) (hc : ∀ (k : Nat) (u : Value), ds[k]? = some u → ∃ b o, a = some ⟨b, o, none⟩ ∧ w.cell? ⟨b, o + k, none⟩ = some u) (w' : World) (hw : ∀ A, w'.cell? A = w.cell? A) (L : Nat) (hL : L = xs.length) (c cap : Nat) :
    (Builtin.firstCells n L (.slice a c cap)).run P w' = .ok ds.toArray w' := by
  subst hL
  cases a with
  | none =>
    have : ds = [] := by
      cases ds with
      | nil => rfl
      | cons u r => obtain ⟨b, o, e, _⟩ := hc 0 u rfl; cases e
    subst this
    rfl
  | some A =>
    by_cases h0 : ds = []
    · subst h0
      have hl := hf.len
      simp only [List.length_nil] at hl
      simp only [Builtin.firstCells]
      rw [← hl]
      rfl
    · have h1 : 0 < ds.length := List.length_pos_iff.2 h0
      obtain ⟨b, q, e, _⟩ := hc 0 _ (List.getElem?_eq_getElem h1)
      cases e
      refine run_firstCells_some w' n xs.length ⟨b, q, none⟩ c cap ds hf.len (fun j u hj => ?_)
      obtain ⟨b', q', e', k⟩ := hc j u hj
      cases e'
      rw [add_off, hw]; exact k
theorem r_app_grow {t ty e : TypeId} {i : TypeInfo} {z : Value} (ht : P.underlying t = some (.slice e)) (hi : P.info? e = some i) (hz : i.zero = some z) (ba : Option Addr) (sLen sCap : Nat) (a' : Option Addr) (k c : Nat) (olds news : List Value)
    (ho : ∀ w', (∀ A, w'.cell? A = w.cell? A) → (Builtin.firstCells i.size sLen (.slice ba sLen sCap)).run P w' = .ok olds.toArray w') (hn : ∀ w', (∀ A, w'.cell? A = w.cell? A) → (Builtin.firstCells i.size k (.slice a' k c)).run P w' = .ok news.toArray w')
    (hg : sCap < sLen + k) (h63 : ((sLen + k : Nat) : Int) ≤ 9223372036854775807) (hfit : Builtin.nextslicecap (sLen + k) sCap * i.bytes ≤ 281474976710656) :
    (Builtin.append_ #[t, t] ty #[.slice ba sLen sCap, .slice a' k c]).run P w =
      .ok (.slice (some ⟨w.heap.size, 0, none⟩) (sLen + k) (grownCap w (sLen + k) sCap e)) (w.drew.alloc (.cells ((olds ++ news).toArray ++ Builtin.zeroCells z.cells (grownCap w (sLen + k) sCap e - (sLen + k))) e)) := by
  have hn1 : ¬ (sLen + k ≤ sCap) := by omega
  have h63' : ¬ (9223372036854775807 < ((sLen : Int) + (k : Int))) := by omega
  have h48' : ¬ (281474976710656 < Builtin.nextslicecap (sLen + k) sCap * i.bytes) := by omega
  have f1 := ho w.drew (fun A => rfl)
  have f2 := hn w.drew (fun A => rfl)
  simp [Builtin.append_, run_underlying ht, sizeOf, typeInfo, zeroValue, hi, hz, Builtin.lenOf, hn1, h63', h48', Question.forced, f1, f2, newRow, grownCap]
  rw [← List.append_toArray, Array.append_assoc]
theorem r_app_room {t ty e : TypeId} {i : TypeInfo} (ht : P.underlying t = some (.slice e)) (hi : P.info? e = some i) (g q sLen sCap : Nat) (cur : Array Value) (hg : w.heap[g]? = some (.cells cur e (0, 0))) (a' : Option Addr) (k c : Nat) (news : List Value)
    (hn : (Builtin.firstCells i.size k (.slice a' k c)).run P w = .ok news.toArray w) (h1 : ∀ u ∈ news, u.oneCell' = true) (hroom : sLen + k ≤ sCap) (hfit : q + sLen * i.size + news.length ≤ cur.size) :
    (Builtin.append_ #[t, t] ty #[.slice (some ⟨g, q, none⟩) sLen sCap, .slice a' k c]).run P w = .ok (.slice (some ⟨g, q, none⟩) (sLen + k) sCap) (w.setRow g (splice cur.toList (q + sLen * i.size) news).toArray) := by
  have hst := run_storeCells_at P g (q + sLen * i.size) e news 0 cur w hg (by simpa using hfit) h1
  simp only [Nat.add_zero] at hst
  simp [Builtin.append_, run_underlying ht, sizeOf, typeInfo, hi, Builtin.lenOf, hroom, hn, add_off, hst, splice]
end
end Go.Proofs.Ytohhjnpiiackjaa
/-! An evaluation of Go's code over plain values: append, make, slices of slices, are the model's. Over any program. -/
namespace Go.Proofs.Ytohhjnpiiackjaa
open Go.RowKit
section
variable {P : Program} {N : Nat} {w0 : World} {m0 : Env w0} {pl : List Nat} {σ : AS} {ρ : Site → Loc} {m : Mem} {act : Act} {w : World} {o : Oper} {d : Nat} {K : AV → AS → Prop}
/-- A block whose first cells, from an offset on, are elements. -/
theorem RdB.of_flat {ρ : Site → Loc} {s : Site} {e n : Nat} {xs : List PV} {cs : Array Value} {ds : List Value} (hn : 0 < n) (hr : (ρ s).real = true) (hh : w.heap[(ρ s).b]? = some (.cells cs e (0, 0))) (hc : (ρ s).o + (ρ s).cap * n ≤ cs.size) (hl : xs.length ≤ (ρ s).cap) (hm : (ρ s).cap ≤ maxLen)
    (hf : Flat m ds n xs) (hg : ∀ (k : Nat) (u : Value), ds[k]? = some u → cs[(ρ s).o + k]? = some u) : RdB ρ m w s (.arr e n xs) := by
  refine ⟨hn, .inr ⟨hr, cs, hh, hc, hl, hm, fun i x hi => ?_⟩⟩
  obtain ⟨k1, k2⟩ := hf.get i x hi
  refine ⟨k1, fun j c hj => ?_⟩
  obtain ⟨u, k3, k4⟩ := k2 j c hj
  exact ⟨u, by rw [Nat.add_assoc]; exact hg _ u k3, hf.one u (List.mem_of_getElem? k3), k4⟩
/-- A new block of elements. -/
theorem Sat.newarr (h : Sat N w0 m0 pl σ ρ m act w) {W : World} (hx : Ext w W) {cs : Array Value} {e n cap : Nat} {xs : List PV} {ds : List Value} (hN : NoD d σ) (hn : 0 < n) (hW : W.heap[w.heap.size]? = some (.cells cs e (0, 0))) (hc : cap * n ≤ cs.size) (hl : xs.length ≤ cap) (hm : cap ≤ maxLen)
    (hf : Flat m ds n xs) (hg : ∀ (k : Nat) (u : Value), ds[k]? = some u → cs[k]? = some u) :
    ∃ ρ', Sat N w0 m0 pl (σ.add (.loc d 0) (.arr e n xs)) ρ' m act W ∧ RdA ρ' m (.slice (some ⟨w.heap.size, 0, none⟩) xs.length cap) (.vec (.loc d 0) n 0 xs.length) := by
  have hu := upd_self ρ (.loc d 0) ⟨w.heap.size, 0, cap, true⟩
  refine ⟨upd ρ (.loc d 0) ⟨w.heap.size, 0, cap, true⟩, (h.ext hx).add hN (.of_flat hn (by rw [hu]) (by rw [hu]; exact hW) (by rw [hu]; simpa using hc) (by rw [hu]; exact hl) (by rw [hu]; exact hm) hf (by rw [hu]; simpa using hg)) (fun _ s b k r => ?_) (fun _ o => h.mem_new (Nat.le_refl _) o) (fun _ => .inl h.keep.size), ?_⟩
  · have := h.ltk k (((h.bx s b k).blk_same (fun r => hx.block _ (h.lt k r))).1 r)
    simp at this
  · have := RdA.vec (ρ := upd ρ (.loc d 0) ⟨w.heap.size, 0, cap, true⟩) (m := m) (.loc d 0) n 0 xs.length cap hl (by rw [hu]; simp) (by rw [hu])
    rw [hu] at this
    simpa using this
/-- No block at all: nothing was appended. -/
theorem Sat.noarr (h : Sat N w0 m0 pl σ ρ m act w) {e n : Nat} (hN : NoD d σ) (hn : 0 < n) {a : Option Addr} (ha : ∀ A, a = some A → PlainA A) :
    ∃ ρ', Sat N w0 m0 pl (σ.add (.loc d 0) (.arr e n [])) ρ' m act w ∧ RdA ρ' m (.slice a 0 0) (.vec (.loc d 0) n 0 0) := by
  have hu := upd_self ρ (.loc d 0) ⟨0, 0, 0, false⟩
  refine ⟨upd ρ (.loc d 0) ⟨0, 0, 0, false⟩, h.add hN ⟨hn, .inl ⟨by rw [hu], rfl, by rw [hu]⟩⟩ (fun e => by cases e) (fun e => by cases e) (fun e => by cases e), .vec0 _ _ _ _ ha⟩
theorem zeroCells_size (z : Array Value) (n : Nat) : (Builtin.zeroCells z n).size = n * z.size := by simp [Builtin.zeroCells]
theorem app_exec {t : TypeId} {c : Call} {x y : Operand} (hc : c.callee = .builtin .append) (ha : c.args.toList = [x, y]) (ht : c.argTypes.toList = [t, t]) (ho : o.op = .call c) {v : Value} {w' : World} (h : (Builtin.append_ #[t, t] o.type #[act.eval x, act.eval y]).run P w = .ok v w') :
    (execOp act.eval o).run P w = .ok (.value v) w' := by
  have hargs : c.args = #[x, y] := Array.toList_inj.1 (by simpa using ha)
  have htys : c.argTypes = #[t, t] := Array.toList_inj.1 (by simpa using ht)
  unfold execOp
  simp only [ho]
  simp [resolve, hc, hargs, htys, invoke, builtin, h]
/-- Elements are written behind the first ones of an array box. -/
theorem Sat.extend (hS : Sat N w0 m0 pl σ ρ m act w) {s : Site} {e n k : Nat} {xs zs : List PV} {ds : List Value} (hb : σ.b s = some (.arr e n xs)) (hr : (ρ s).real = true) {cs : Array Value} (g1 : w.heap[(ρ s).b]? = some (.cells cs e (0, 0))) (hf : Flat m ds n zs) (hk : k ≤ xs.length) (hl : k + zs.length ≤ (ρ s).cap) :
    (ρ s).o + k * n + ds.length ≤ cs.size ∧ Sat N w0 m0 pl (σ.set s (.arr e n (xs.take k ++ zs))) ρ m act (w.setRow (ρ s).b (splice cs.toList ((ρ s).o + k * n) ds).toArray) := by
  obtain ⟨hn, hB | ⟨_, cs', g1', g2, g3, g4, g5⟩⟩ := hS.bx s _ hb
  · rw [hB.1] at hr; cases hr
  rw [g1] at g1'; cases g1'
  have hcl : cs.toList.length = cs.size := Array.length_toList
  have htk : (xs.take k).length = k := by rw [List.length_take]; omega
  have hfit : (ρ s).o + k * n + ds.length ≤ cs.size := by
    have h1 : (k + zs.length) * n ≤ (ρ s).cap * n := Nat.mul_le_mul_right _ hl
    rw [Nat.add_mul] at h1
    rw [hf.len]; omega
  refine ⟨hfit, hS.setbox hb hr (Keep.setRow w _ _) ⟨hn, .inr ⟨hr, _, setRow_heap w _ cs _ e _ g1, ?_, ?_, g4, fun i x hi => ?_⟩⟩⟩
  · rw [List.size_toArray, splice_len (by rw [hcl]; exact hfit), hcl]; exact g2
  · rw [List.length_append, htk]; exact hl
  · rw [List.getElem?_append, htk] at hi
    split at hi
    · rename_i hik
      rw [List.getElem?_take, if_pos hik] at hi
      obtain ⟨k1, k2⟩ := g5 i x hi
      refine ⟨k1, fun j c hj => ?_⟩
      obtain ⟨d, q1, q2, q3⟩ := k2 j c hj
      refine ⟨d, ?_, q2, q3⟩
      have hjn : j < n := by have := (List.getElem?_eq_some_iff.1 hj).1; omega
      have := mul_lt_of (n := n) hik
      rw [List.getElem?_toArray, splice_get (by rw [hcl]; exact hfit), if_pos (by omega), Array.getElem?_toList]; exact q1
    · rename_i hik
      obtain ⟨k1, k2⟩ := hf.get (i - k) x hi
      refine ⟨k1, fun j c hj => ?_⟩
      obtain ⟨u, q1, q2⟩ := k2 j c hj
      have hlt := (List.getElem?_eq_some_iff.1 q1).1
      have e1 : i * n = k * n + (i - k) * n := by rw [← Nat.add_mul]; congr 1; omega
      refine ⟨u, ?_, hf.one u (List.mem_of_getElem? q1), q2⟩
      rw [List.getElem?_toArray, splice_get (by rw [hcl]; exact hfit), if_neg (by omega), if_pos (by omega), ← q1]
      congr 1; omega
theorem app_core {e n bytes : Nat} {i : TypeInfo} {zv : Value} {x : Operand} {x' : Opd} {ys : List PV} {yd : List Value} (hx : opd x = some x') (hb : i.bytes = bytes) (hn : 0 < n) (hsz : i.size = n) (hzs : zv.cells.size = n) (hyf : Flat m yd n ys)
    (EG : ∀ (ba : Option Addr) (L sCap : Nat) (od : List Value), act.eval x = .slice ba L sCap → (∀ w', (∀ A, w'.cell? A = w.cell? A) → (Builtin.firstCells i.size L (.slice ba L sCap)).run P w' = .ok od.toArray w') → sCap < L + ys.length → ((L + ys.length : Nat) : Int) ≤ 9223372036854775807 → Builtin.nextslicecap (L + ys.length) sCap * i.bytes ≤ 281474976710656 →
      (execOp act.eval o).run P w = .ok (.value (.slice (some ⟨w.heap.size, 0, none⟩) (L + ys.length) (grownCap w (L + ys.length) sCap e))) (w.drew.alloc (.cells ((od ++ yd).toArray ++ Builtin.zeroCells zv.cells (grownCap w (L + ys.length) sCap e - (L + ys.length))) e)))
    (ER : ∀ (g q L sCap : Nat) (cur : Array Value), act.eval x = .slice (some ⟨g, q, none⟩) L sCap → w.heap[g]? = some (.cells cur e (0, 0)) → L + ys.length ≤ sCap → q + L * i.size + yd.length ≤ cur.size → (execOp act.eval o).run P w = .ok (.value (.slice (some ⟨g, q, none⟩) (L + ys.length) sCap)) (w.setRow g (splice cur.toList (q + L * i.size) yd).toArray))
    (E0 : ∀ ba, act.eval x = .slice ba 0 0 → ys = [] → (execOp act.eval o).run P w = .ok (.value (.slice ba 0 0)) w)
    (h : opWp (.app e n bytes x' (.c (.lst false n ys))) d K σ) (hS : Sat N w0 m0 pl σ ρ m act w) : ResE (∃ nl, σ.o x' = .pv (.emp nl)) P N w0 m0 pl o act w K := by
  have hy0 : σ.cont (σ.o (.c (.lst false n ys))) n = some ys := by simp [AS.o, AS.cont]
  simp only [opWp, hy0] at h
  -- a new block
  have grow : ∀ (τ : AS) (ba : Option Addr) (xs : List PV) (sCap : Nat) (od : List Value), Sat N w0 m0 pl τ ρ m act w → NoD d τ → act.eval x = .slice ba xs.length sCap → Flat m od n xs → (∀ (k : Nat) (u : Value), od[k]? = some u → ∃ b o, ba = some ⟨b, o, none⟩ ∧ w.cell? ⟨b, o + k, none⟩ = some u) →
      sCap < xs.length + ys.length → (xs.length + ys.length) * bytes ≤ 140737488355328 → xs.length + ys.length ≤ 9223372036854775807 → K (.vec (.loc d 0) n 0 (xs.length + ys.length)) (τ.add (.loc d 0) (.arr e n (xs ++ ys))) → ResE (∃ nl, σ.o x' = .pv (.emp nl)) P N w0 m0 pl o act w K := by
    intro τ ba xs sCap od hτ hN hxv hof hoc hlt hsm hby hK
    have hmul : (xs.length + ys.length) * i.bytes ≤ 140737488355328 := by rw [hb]; exact hsm
    have hrun := EG ba xs.length sCap od hxv (fun w' hw => by rw [hsz]; exact first_run hof hoc w' hw _ rfl _ sCap) hlt (by omega) (growslice_fits hlt (by omega))
    have hge := grownCap_ge w (xs.length + ys.length) sCap e
    have hcm := grownCap_le_maxLen w (xs.length + ys.length) sCap e (by simp only [maxLen]; omega)
    have hl := hof.len
    have hl2 := hyf.len
    obtain ⟨ρ', k1, k2⟩ := hτ.newarr (W := w.drew.alloc (.cells ((od ++ yd).toArray ++ Builtin.zeroCells zv.cells (grownCap w (xs.length + ys.length) sCap e - (xs.length + ys.length))) e)) ((Ext.dr w).trans' (Ext.al _ _)) hN hn (heap_alloc_new w.drew _) (cap := grownCap w (xs.length + ys.length) sCap e) (xs := xs ++ ys) (ds := od ++ yd) (by
        rw [Array.size_append, zeroCells_size, hzs, List.size_toArray, List.length_append, hl, hl2, ← Nat.add_mul, ← Nat.add_mul]
        exact Nat.mul_le_mul_right _ (by omega)) (by rw [List.length_append]; exact hge) hcm (hof.app hyf) (fun k u hk => by
        rw [Array.getElem?_append, List.size_toArray, if_pos (List.getElem?_eq_some_iff.1 hk).1, List.getElem?_toArray]; exact hk)
    rw [List.length_append] at k2
    exact ⟨_, _, _, _, ρ', m, .inl hrun, hK, k1, k2, fun _ => (Ext.dr w).trans' (Ext.al _ _)⟩
  -- nothing
  have none' : ∀ (τ : AS) (ba : Option Addr), Sat N w0 m0 pl τ ρ m act w → NoD d τ → act.eval x = .slice ba 0 0 → (∀ A, ba = some A → PlainA A) → ys = [] → K (.vec (.loc d 0) n 0 0) (τ.add (.loc d 0) (.arr e n [])) → ResE (∃ nl, σ.o x' = .pv (.emp nl)) P N w0 m0 pl o act w K := by
    intro τ ba hτ hN hxv hsp hy0 hK
    subst hy0
    obtain ⟨ρ', k1, k2⟩ := hτ.noarr (e := e) (a := ba) hN hn hsp
    exact ⟨_, _, _, _, ρ', m, .inl (E0 ba hxv rfl), hK, k1, k2, fun _ => Ext.rfl' _⟩
  have empty : ∀ (τ : AS) (ba : Option Addr), Sat N w0 m0 pl τ ρ m act w → NoD d τ → act.eval x = .slice ba 0 0 → (∀ A, ba = some A → PlainA A) → ys.length * bytes ≤ 140737488355328 → ys.length ≤ 9223372036854775807 → K (.vec (.loc d 0) n 0 ys.length) (τ.add (.loc d 0) (.arr e n ys)) → ResE (∃ nl, σ.o x' = .pv (.emp nl)) P N w0 m0 pl o act w K := by
    intro τ ba hτ hN hxv hsp hsm hby hK
    by_cases hy0 : ys = []
    · refine none' τ ba hτ hN hxv hsp hy0 ?_
      subst hy0; exact hK
    · have := List.length_pos_iff.2 hy0
      exact grow τ ba [] 0 [] hτ hN hxv (Flat.nil m n) (fun k u hk => by simp at hk) (by simpa using this) (by simpa using hsm) (by simpa using hby) (by simpa using hK)
  split at h
  · rename_i nl ex
    obtain ⟨h1, h2, hK⟩ := h
    have hxr := hS.opd hx
    rw [ex] at hxr
    obtain ⟨ba, hxv, hsp⟩ := hxr.emp_inv
    exact empty (σ.purge d) ba (hS.purge d) (NoD.purge d σ) hxv hsp h1 h2 hK
  · rename_i s n' lo len ex
    have hxr := hS.opd hx
    split at h
    · rename_i e' n'' xs hbx
      rcases h with ⟨⟨rfl, rfl, rfl, hlo⟩, hsm, hby, hK⟩ | ⟨⟨rfl, rfl, rfl, hlo⟩, hsm, hby, hK, hK2⟩
      case inr =>
        have hdl : ((xs.drop lo).take len).length = len := by rw [List.length_take, List.length_drop]; omega
        have hcx : σ.cont (.vec s n'' lo len) n'' = some ((xs.drop lo).take len) := by
          unfold AS.cont
          simp only [hbx, true_and]
          rw [if_pos hlo]
        rw [ex] at hxr
        obtain ⟨ba, bc, od, hxv, hof, hoc⟩ := cont_rd hn hS hxr hcx
        rcases hxr.vec_inv with ⟨cap, hv', c0, c1, c2⟩ | ⟨a, hv', c0, hsp⟩
        · rw [hxv] at hv'
          injection hv' with q1 q2 q3
          subst q1
          subst q3
          by_cases hroom : ((xs.drop lo).take len).length + ys.length ≤ bc
          · obtain ⟨hn0, hB | ⟨hr, cs, g1, g2, g3, g4, g5⟩⟩ := hS.bx s _ hbx
            · rw [hB.1] at c2; cases c2
            obtain ⟨hfit0, hS2⟩ := hS.extend hbx hr g1 hyf hlo (by rw [hdl] at hroom; omega)
            have hl2 := hyf.len
            rw [Nat.add_mul, ← Nat.add_assoc] at hfit0 hS2
            have hrun := ER (ρ s).b ((ρ s).o + lo * n'') ((xs.drop lo).take len).length bc cs hxv g1 hroom (by rw [hsz, hdl]; exact hfit0)
            rw [hsz, hdl] at hrun
            exact ⟨_, _, _, _, ρ, m, .inl hrun, hK2, hS2, .vec s n'' lo (len + ys.length) bc (by rw [← hdl]; exact hroom) c1 hr, fun hm => by obtain ⟨nl, hm⟩ := hm; rw [ex] at hm; cases hm⟩
          · exact grow _ _ ((xs.drop lo).take len) bc od (hS.purge d) (NoD.purge d σ) hxv hof hoc (by omega) (by rw [hdl]; exact hsm) (by rw [hdl]; exact hby) (by rw [hdl]; exact hK)
        · subst c0
          rw [hxv] at hv'
          have hx0 : (xs.drop lo).take 0 = [] := List.take_zero
          rw [hx0] at hK
          simp only [Nat.zero_add, List.nil_append] at hK
          exact empty _ a (hS.purge d) (NoD.purge d σ) (by rw [hxv, hv']) hsp (by simpa using hsm) (by simpa using hby) hK
      have hdl : (xs.drop lo).length = len := by rw [List.length_drop]; omega
      have hD := (hS.drop s).purge d
      have hN := NoD.purge d (σ.drop s)
      have hcx : σ.cont (.vec s n'' lo len) n'' = some (xs.drop lo) := by
        unfold AS.cont
        simp only [hbx, true_and]
        rw [if_pos (by omega), List.take_of_length_le (by omega)]
      rw [ex] at hxr
      obtain ⟨ba, bc, od, hxv, hof, hoc⟩ := cont_rd hn hS hxr hcx
      rcases hxr.vec_inv with ⟨cap, hv', c0, c1, c2⟩ | ⟨a, hv', c0, hsp⟩
      · rw [hxv] at hv'
        injection hv' with q1 q2 q3
        subst q1
        subst q3
        by_cases hroom : (xs.drop lo).length + ys.length ≤ bc
        · -- in place
          obtain ⟨hn0, hB | ⟨hr, cs, g1, g2, g3, g4, g5⟩⟩ := hS.bx s _ hbx
          · rw [hB.1] at c2; cases c2
          have hl := hof.len
          rw [hdl] at hl
          have hcl : cs.toList.length = cs.size := Array.length_toList
          have hl2 := hyf.len
          have hcapn : (ρ s).o + lo * n'' + bc * n'' ≤ cs.size := by
            have : (lo + bc) * n'' ≤ (ρ s).cap * n'' := Nat.mul_le_mul_right _ c1
            rw [Nat.add_mul] at this; omega
          have hroomn : len * n'' + ys.length * n'' ≤ bc * n'' := by rw [← Nat.add_mul, ← hdl]; exact Nat.mul_le_mul_right _ hroom
          have hfit : (ρ s).o + lo * n'' + (xs.drop lo).length * i.size + yd.length ≤ cs.size := by rw [hsz, hl2, hdl]; omega
          have hrun := ER (ρ s).b ((ρ s).o + lo * n'') (xs.drop lo).length bc cs hxv g1 hroom hfit
          rw [hsz, hdl] at hrun
          have hq : (ρ s).o + lo * n'' + len * n'' + yd.length ≤ cs.toList.length := by rw [hcl, hl2]; omega
          have hD2 := hD.write (k := (ρ s).b) (w' := w.setRow (ρ s).b (splice cs.toList ((ρ s).o + lo * n'' + len * n'') yd).toArray) (fun s' b' k r => by
            rw [AS.b_purge] at k
            split at k
            · cases k
            · obtain ⟨b2, k2, rfl⟩ := Option.map_eq_some_iff.1 k
              rw [AS.b_drop] at k2
              split at k2
              · cases k2
              · rename_i hne
                exact hne (hS.injk s' s b2 _ _ k2 hbx (blk_purge.1 r) (blk_own hr))) (hS.off s _ hbx hr) (hS.own s _ hbx hr) (.inl ((hS.bx s _ hbx).obj hr)) (Keep.setRow w _ _)
          have hu2 := upd_self ρ (.loc d 0) ⟨(ρ s).b, (ρ s).o + lo * n'', bc, true⟩
          have hodg : ∀ k u, od[k]? = some u → cs[(ρ s).o + lo * n'' + k]? = some u := fun k u hk => by
            obtain ⟨b, q, e1, e2⟩ := hoc k u hk
            cases e1
            simpa [World.cell?, g1] using e2
          have hflat := hof.app hyf
          refine ⟨_, _, _, _, upd ρ (.loc d 0) ⟨(ρ s).b, (ρ s).o + lo * n'', bc, true⟩, m, .inl hrun, hK, ?_, ?_, fun hm => by obtain ⟨nl, hm⟩ := hm; rw [ex] at hm; cases hm⟩
          · refine hD2.add hN (.of_flat hn (by rw [hu2]) (by rw [hu2]; exact setRow_heap w _ cs _ e' _ g1) ?_ (by rw [hu2, List.length_append]; exact hroom) (by rw [hu2]; show bc ≤ _; omega) hflat (fun k u hk => ?_)) (fun _ s' b' k r => ?_) (fun _ => hS.off s _ hbx hr) (fun _ => hS.own s _ hbx hr)
            · rw [hu2, List.size_toArray, splice_len hq, hcl]; exact hcapn
            · rw [hu2, List.getElem?_toArray, splice_get hq]
              dsimp only
              rw [List.getElem?_append, hl] at hk
              split at hk
              · rename_i hk1
                rw [if_pos (by omega), Array.getElem?_toList]
                exact hodg k u hk
              · rename_i hk1
                have hk2 := (List.getElem?_eq_some_iff.1 hk).1
                rw [if_neg (by omega), if_pos (by omega), ← hk]
                congr 1; omega
            · have r' := (hD.bx s' b' k).blk_same (w' := w.setRow (ρ s).b (splice cs.toList ((ρ s).o + lo * n'' + len * n'') yd).toArray) (fun rr => (Keep.setRow w (ρ s).b _).block _ (hD.lt k rr) (by
                rw [List.mem_singleton]
                intro e
                have k' := k
                rw [AS.b_purge] at k'
                split at k'
                · cases k'
                · obtain ⟨b2, k2, rfl⟩ := Option.map_eq_some_iff.1 k'
                  rw [AS.b_drop] at k2
                  split at k2
                  · cases k2
                  · rename_i hne
                    exact hne (hS.inj s' s b2 _ k2 hbx rr hr e))) |>.1 r
              rw [AS.b_purge] at k
              split at k
              · cases k
              · obtain ⟨b2, k2, rfl⟩ := Option.map_eq_some_iff.1 k
                rw [AS.b_drop] at k2
                split at k2
                · cases k2
                · rename_i hne
                  exact hne (hS.injk s' s b2 _ _ k2 hbx (blk_purge.1 r') (blk_own hr))
          · have := RdA.vec (ρ := upd ρ (.loc d 0) ⟨(ρ s).b, (ρ s).o + lo * n'', bc, true⟩) (m := m) (.loc d 0) n'' 0 (len + ys.length) bc (by rw [← hdl]; exact hroom) (by rw [hu2]; simp) (by rw [hu2])
            rw [hu2] at this
            simpa using this
        · exact grow _ _ (xs.drop lo) bc od hD hN hxv hof hoc (by omega) (by rw [hdl]; exact hsm) (by rw [hdl]; exact hby) (by rw [hdl]; exact hK)
      · subst c0
        rw [hxv] at hv'
        have hx0 : xs.drop lo = [] := List.eq_nil_of_length_eq_zero hdl
        rw [hx0] at hK
        simp only [Nat.zero_add, List.nil_append] at hK
        exact empty _ a hD hN (by rw [hxv, hv']) hsp (by simpa using hsm) (by simpa using hby) hK
    · exact h.elim
  · exact h.elim
theorem snd_app {t e n bytes : Nat} {i : TypeInfo} {z : PV} {c : Call} {x y : Operand} {x' y' : Opd} (hx : opd x = some x') (hy : opd y = some y') (he : elemT P t = some (e, n, none)) (hz : zeroPV P e = some z) (hi : P.info? e = some i) (hb : i.bytes = bytes) (hn : 0 < n) (hzl : z.cells.length = n)
    (hc : c.callee = .builtin .append) (ha : c.args.toList = [x, y]) (ht : c.argTypes.toList = [t, t]) (ho : o.op = .call c) (h : opWp (.app e n bytes x' y') d K σ) (hS : Sat N w0 m0 pl σ ρ m act w) : ResE (∃ nl, σ.o x' = .pv (.emp nl)) P N w0 m0 pl o act w K := by
  obtain ⟨hu, hs⟩ := elemT_slice he
  obtain ⟨i2, hi2, hsz⟩ := sizeT_info hs
  rw [hi] at hi2; cases hi2
  unfold zeroPV at hz
  cases hv : zeroT P e with
  | none => simp [hv] at hz
  | some zv =>
  simp only [hv, Option.bind_some] at hz
  obtain ⟨zi, hzi1, hzi2⟩ := zeroT_info hv
  rw [hi] at hzi1; cases hzi1
  have hzs : zv.cells.size = n := by have := (pvz_cells hz m).1; omega
  cases hys : σ.cont (σ.o y') n with
  | none => simp [opWp, hys] at h
  | some ys =>
  obtain ⟨ya, yc, yd, hyv, hyf, hyc⟩ := cont_rd hn hS (hS.opd hy) hys
  have hyrun : ∀ w', (∀ A, w'.cell? A = w.cell? A) → (Builtin.firstCells i.size ys.length (.slice ya ys.length yc)).run P w' = .ok yd.toArray w' := fun w' hw => by
    rw [hsz]; exact first_run hyf hyc w' hw _ rfl _ yc
  refine app_core (e := e) (d := d) hx hb hn hsz hzs hyf (fun ba L sCap od hxv ho' hlt h63 hf => app_exec hc ha ht ho ?_) (fun g q L sCap cur hxv g1 hr hf => app_exec hc ha ht ho ?_) (fun ba hxv hy0 => app_exec hc ha ht ho ?_) ?_ hS
  · rw [hxv, hyv]; exact r_app_grow hu hi hzi2 ba L sCap ya ys.length yc od yd ho' hyrun hlt h63 hf
  · rw [hxv, hyv]; exact r_app_room hu hi g q L sCap cur g1 ya ys.length yc yd (hyrun w (fun _ => rfl)) hyf.one hr hf
  · subst hy0
    have hf := hyrun w (fun _ => rfl)
    have hyd : yd = [] := List.eq_nil_of_length_eq_zero (by have := hyf.len; simpa using this)
    subst hyd
    rw [hxv, hyv]
    simp only [List.length_nil] at hf ⊢
    cases ba <;> simp [Builtin.append_, run_underlying hu, sizeOf, typeInfo, hi, Builtin.lenOf, hf, storeCells]
  · have hy0 : σ.cont (σ.o (.c (.lst false n ys))) n = some ys := by simp [AS.o, AS.cont]
    simp only [opWp, hys, hy0] at h ⊢
    exact h
end
end Go.Proofs.Ytohhjnpiiackjaa
/-! An evaluation of Go's code over plain values: make, slices of slices; every operation is the model's. Over any program. -/
namespace Go.Proofs.Ytohhjnpiiackjaa
open Go.RowKit
section
variable {G : World → Prop} {P : Program} {N : Nat} {w0 : World} {m0 : Env w0} {pl : List Nat} {σ : AS} {ρ : Site → Loc} {m : Mem} {act : Act} {w : World} {o : Oper} {d : Nat} {K : AV → AS → Prop}
theorem snd_mks {t e n bytes : Nat} {i : TypeInfo} {z : PV} {l c : Operand} {l' c' : Opd} (hl : opd l = some l') (hcc : opd c = some c') (he : elemT P t = some (e, n, none)) (hz : zeroPV P e = some z) (hi : P.info? e = some i) (hb : i.bytes = bytes) (hn : 0 < n) (hzl : z.cells.length = n)
    (ho : o.op = .makeSlice t l c) (h : opWp (.mks e n bytes z l' c') d K σ) (hS : Sat N w0 m0 pl σ ρ m act w) : Res P N w0 m0 pl o act w K := by
  simp only [opWp] at h
  obtain ⟨hu, hs⟩ := elemT_slice he
  obtain ⟨i2, hi2, hsz⟩ := sizeT_info hs
  rw [hi] at hi2; cases hi2
  unfold zeroPV at hz
  cases hv : zeroT P e with
  | none => simp [hv] at hz
  | some zv =>
  simp only [hv, Option.bind_some] at hz
  obtain ⟨zi, hzi1, hzi2⟩ := zeroT_info hv
  rw [hi] at hzi1; cases hzi1
  obtain ⟨z1, z2, z3⟩ := pvz_cells hz m
  have hzs : zv.cells.size = n := by omega
  split at h
  · rename_i kl a kc b el ec
    obtain ⟨h0, h1, h2, h3, hK⟩ := h
    have hlv := hS.opd hl
    have hcv := hS.opd hcc
    rw [el] at hlv; rw [ec] at hcv
    have hbb : (i.bytes : Int) * b ≤ 1000 * 1000000 := Int.mul_le_mul (by omega) h2 (by omega) (by omega)
    have hrun := run_make (P := P) w t e i zv hu hi hzi2 kl kc a b h0 h1 (by omega) (by omega)
    rw [hsz] at hrun
    have hr : (execOp act.eval o).run P w = .ok (.value (.slice (some ⟨w.heap.size, 0, none⟩) a.toNat b.toNat)) (w.alloc (.cells (madeCells zv.cells (b.toNat * n)) e)) := by
      unfold execOp
      simp only [ho, hlv.int_inv, hcv.int_inv, Sem.run_bind, hrun, Result.andThen_ok]
      rfl
    have hget : ∀ k, k < b.toNat * n → (madeCells zv.cells (b.toNat * n))[k]? = some (zv.cells[k % n]!) := fun k hk => by
      simp only [madeCells, Array.getElem?_map, Array.getElem?_range, hzs]
      rw [if_pos hk]; rfl
    have hle : a.toNat * n ≤ b.toNat * n := Nat.mul_le_mul_right _ (by omega)
    have hbang : ∀ j, j < n → ∃ hj : j < zv.cells.size, zv.cells[j]! = zv.cells[j] := fun j hj => ⟨by omega, getElem!_pos zv.cells j (by omega)⟩
    obtain ⟨ρ', k1, k2⟩ := (hS.purge d).newarr (W := w.alloc (.cells (madeCells zv.cells (b.toNat * n)) e)) (Ext.al _ _) (NoD.purge d σ) hn (heap_alloc_new w _) (cap := b.toNat) (xs := List.replicate a.toNat z) (ds := (List.range (a.toNat * n)).map fun k => zv.cells[k % n]!) (by simp [madeCells]) (by simp; omega) (by simp only [maxLen]; omega)
      ⟨by simp, fun u hu => by
        obtain ⟨k, _, rfl⟩ := List.mem_map.1 hu
        obtain ⟨hj, e1⟩ := hbang (k % n) (Nat.mod_lt _ hn)
        rw [e1]; exact z2 _ (Array.getElem_mem hj), fun i x hx => by
        rw [List.getElem?_replicate] at hx
        split at hx
        · rename_i hia
          cases hx
          refine ⟨hzl, fun j c hj => ?_⟩
          have hjn : j < n := by have := (List.getElem?_eq_some_iff.1 hj).1; omega
          obtain ⟨hj', e1⟩ := hbang j hjn
          have hmod : (i * n + j) % n = j := by rw [Nat.add_comm, Nat.add_mul_mod_self_right, Nat.mod_eq_of_lt hjn]
          have := mul_lt_of (n := n) hia
          refine ⟨zv.cells[j], ?_, z3 j _ c (Array.getElem?_eq_getElem hj') hj⟩
          rw [List.getElem?_map, List.getElem?_range (by omega), Option.map_some, hmod, e1]
        · cases hx⟩ (fun k u hk => by
        rw [List.getElem?_map] at hk
        obtain ⟨k', e1, rfl⟩ := Option.map_eq_some_iff.1 hk
        have hlt : k < a.toNat * n := by have := (List.getElem?_eq_some_iff.1 e1).1; simpa using this
        rw [List.getElem?_range hlt] at e1
        cases e1
        exact hget k (by omega))
    rw [List.length_replicate] at k2
    exact ⟨_, _, _, _, ρ', m, .inl hr, hK, k1, k2, fun _ => Ext.al _ _⟩
  · exact h.elim
theorem ob_run {x : Option Operand} {x' : Option Opd} (hx : (x = none ∧ x' = none) ∨ ∃ a a', x = some a ∧ x' = some a' ∧ opd a = some a') (hS : Sat N w0 m0 pl σ ρ m act w) {z l : Int} (h : σ.ob x' z = some l) : (x = none ∧ l = z) ∨ ∃ a k, x = some a ∧ act.eval a = .int k l := by
  rcases hx with ⟨rfl, rfl⟩ | ⟨a, a', rfl, rfl, ha⟩
  · simp [AS.ob] at h; exact .inl ⟨rfl, h.symm⟩
  · simp only [AS.ob] at h
    split at h
    · rename_i k b e
      cases h
      have := hS.opd ha
      rw [e] at this
      exact .inr ⟨a, k, rfl, this.int_inv⟩
    · cases h
theorem snd_slc {t e n : Nat} {x : Operand} {x' : Opd} {lo hi : Option Operand} {lo' hi' : Option Opd} (hx : opd x = some x') (he : elemT P t = some (e, n, none)) (hlo : (lo = none ∧ lo' = none) ∨ ∃ a a', lo = some a ∧ lo' = some a' ∧ opd a = some a') (hhi : (hi = none ∧ hi' = none) ∨ ∃ a a', hi = some a ∧ hi' = some a' ∧ opd a = some a')
    (ho : o.op = .slice t x lo hi none) (h : opWp (.slc n none x' lo' hi' none) d K σ) (hS : Sat N w0 m0 pl σ ρ m act w) : ResP G P σ ρ m o act w K := by
  simp only [opWp] at h
  obtain ⟨hu, hs⟩ := elemT_slice he
  have h1 := hS.opd hx
  -- the run
  have run : ∀ (a : Option Addr) (len cap : Nat) (l h : Int), act.eval x = .slice a len cap → ((lo = none ∧ l = 0) ∨ ∃ b k, lo = some b ∧ act.eval b = .int k l) → ((hi = none ∧ h = len) ∨ ∃ b k, hi = some b ∧ act.eval b = .int k h) → 0 ≤ l → l ≤ h → h ≤ len → len ≤ cap →
      ∀ w', G w' → (execOp act.eval o).run P w' = .ok (.value (.slice (if cap = l.toNat then a else a.map (·.add (l.toNat * n))) (h.toNat - l.toNat) (cap - l.toNat))) w' := by
    intro a len cap l h e el eh l0 l1 l2 l3
    intro w' hst
    unfold execOp
    simp only [ho, e, Sem.run_bind]
    have hh : h ≤ cap := by omega
    rcases el with ⟨rfl, rfl⟩ | ⟨b, k, rfl, eb⟩ <;> rcases eh with ⟨rfl, rfl⟩ | ⟨b2, k2, rfl, eb2⟩
    · simp [Instr.sliceAt, run_underlying hu, Instr.slice, Instr.sliceBounds, run_sizeOf hs]
    · have h0 : 0 ≤ h := by omega
      simp [Instr.sliceAt, run_underlying hu, Instr.slice, Instr.sliceBounds, run_sizeOf hs, eb2, Instr.sliceBound, asIntOf, hh, h0]
    · have h0 : l ≤ (len : Int) := l1
      simp [Instr.sliceAt, run_underlying hu, Instr.slice, Instr.sliceBounds, run_sizeOf hs, eb, Instr.sliceBound, asIntOf, l0, h0]
    · have h0 : 0 ≤ h := by omega
      have h4 : l ≤ (h.toNat : Int) := by omega
      simp [Instr.sliceAt, run_underlying hu, Instr.slice, Instr.sliceBounds, run_sizeOf hs, eb, eb2, Instr.sliceBound, asIntOf, l0, h0, hh]
      intro h5; omega
  split at h
  · rename_i l hl
    have el := ob_run hlo hS hl
    split at h
    · rename_i nn n' xs ex
      rw [ex] at h1
      obtain ⟨a, cap, ds, hv, q0, q1, q2, q3, q5, q6, q7⟩ := h1.lst_inv
      split at h
      · rename_i hh hhh
        obtain ⟨l0, l1, l2, rfl, hK⟩ := h
        have eh := ob_run hhi hS hhh
        have hr := run a xs.length cap l hh hv el eh l0 l1 l2 q0
        have hlen : ((xs.take hh.toNat).drop l.toNat).length = hh.toNat - l.toNat := by rw [List.length_drop, List.length_take]; omega
        have get : ∀ i x, ((xs.take hh.toNat).drop l.toNat)[i]? = some x → xs[l.toNat + i]? = some x := fun i x hx => by
          rw [List.getElem?_drop, List.getElem?_take] at hx
          split at hx
          · exact hx
          · cases hx
        refine .pure hS hr ?_ hK
        rw [← hlen]
        refine .pv _ _ (.lst _ _ nn n' _ (fun i => ds (l.toNat + i)) (by rw [hlen]; omega) (by omega) (fun e => ?_) (fun A hA => ?_) (fun e => ?_) (fun i x hx => ?_) (fun i x hx => q6 _ x (get i x hx)) (fun i x j u c hx => q7 _ x j u c (get i x hx)))
        · have : a = none := by
            split at e
            · exact e
            · simpa using e
          have := q2 this; omega
        · rfl
        · have hne : a ≠ none := by
            subst e
            exact h1.lst_nn hv
          split
          · exact hne
          · cases a with
            | none => exact absurd rfl hne
            | some B => simp
        · have hx' := get i x hx
          obtain ⟨b, q, ha, k1⟩ := q5 _ x hx'
          have hlt := (List.getElem?_eq_some_iff.1 hx').1
          refine ⟨b, q + l.toNat * n', ?_, ?_⟩
          · rw [if_neg (by omega), ha, Option.map_some, add_off]
          · rwa [show q + l.toNat * n' + i * n' = q + (l.toNat + i) * n' by rw [Nat.add_mul]; omega]
      · exact h.elim
    · rename_i nl ex
      rw [ex] at h1
      split at h
      · rename_i hh hhh
        obtain ⟨rfl, rfl, hK⟩ := h
        obtain ⟨a, hv, _⟩ := h1.emp_inv
        have eh := ob_run hhi hS hhh
        have hr := run a 0 0 0 0 hv el eh (by omega) (by omega) (by omega) (by omega)
        refine .pure hS hr ?_ hK
        simp only [Int.toNat_zero, if_true]
        rw [hv] at h1
        exact h1
      · exact h.elim
    · rename_i s n' lo0 len ex
      rw [ex] at h1
      split at h
      · rename_i hh hhh
        obtain ⟨l0, l1, l2, rfl, hK⟩ := h
        have eh := ob_run hhi hS hhh
        rcases h1.vec_inv with ⟨cap, hv, c0, c1, c2⟩ | ⟨a, hv, c0, hsp⟩
        · have hr := run _ len cap l hh hv el eh l0 l1 l2 c0
          refine .pure hS hr ?_ hK
          split
          · rename_i hc
            have e1 : hh.toNat - l.toNat = 0 := by omega
            have e2 : cap - l.toNat = 0 := by omega
            rw [e1, e2]
            exact .vec0 _ _ _ _ (fun A hA => by cases hA; rfl)
          · simp only [Option.map_some, add_off]
            have := RdA.vec (ρ := ρ) (m := m) s n' (lo0 + l.toNat) (hh.toNat - l.toNat) (cap - l.toNat) (by omega) (by omega) c2
            rwa [show (ρ s).o + (lo0 + l.toNat) * n' = (ρ s).o + lo0 * n' + l.toNat * n' by rw [Nat.add_mul]; omega] at this
        · subst c0
          have hl0 : l = 0 := by omega
          have hh0 : hh = 0 := by omega
          subst hl0 hh0
          have hr := run a 0 0 0 0 hv el eh (by omega) (by omega) (by omega) (by omega)
          refine .pure hS hr ?_ hK
          simp only [Int.toNat_zero, if_true]
          exact .vec0 _ _ _ _ hsp
      · exact h.elim
    · exact h.elim
  · exact h.elim
end
end Go.Proofs.Ytohhjnpiiackjaa
/-! An evaluation of Go's code over plain values: equality of structs, maps, copy, clear. Over any program. -/
namespace Go.Proofs.Ytohhjnpiiackjaa
open Go.RowKit
def toV : PV → Value
  | .int k n => .int k n
  | .bool b => .bool b
  | .str s => .string s
  | _ => undef
def toK (wide : Bool) (l : List PV) : Value := if wide = true then .agg (l.map toV).toArray else toV (l.headD .nilp)
theorem ok_toV {m : Mem} {v : Value} {x : PV} {k : CK} (hx : k.ok x = true) (h : RdP m v x) : v = toV x := by
  cases h <;> cases k <;> first | rfl | (simp [CK.ok] at hx)
theorem ckAll_len : ∀ {ks : List CK} {cs : List PV}, ckAll ks cs = true → ks.length = cs.length
  | [], [], _ => rfl
  | [], _ :: _, h => by simp [ckAll] at h
  | _ :: _, [], h => by simp [ckAll] at h
  | k :: ks, c :: cs, h => by
    simp only [ckAll, Bool.and_eq_true] at h
    simp [ckAll_len h.2]
theorem ckAll_get : ∀ {ks : List CK} {cs : List PV} {j : Nat} {c : PV}, ckAll ks cs = true → cs[j]? = some c → ∃ k : CK, k.ok c = true
  | [], [], j, c, _, h => by simp at h
  | [], _ :: _, j, c, h, _ => by simp [ckAll] at h
  | _ :: _, [], j, c, h, _ => by simp [ckAll] at h
  | k :: ks, x :: cs, j, c, h, hj => by
    simp only [ckAll, Bool.and_eq_true] at h
    cases j with
    | zero => simp at hj; subst hj; exact ⟨k, h.1⟩
    | succ j => exact ckAll_get h.2 (by simpa using hj)
theorem ckAll_app : ∀ {a b : List CK} {cs : List PV}, ckAll (a ++ b) cs = true → ckAll a (cs.take a.length) = true ∧ ckAll b (cs.drop a.length) = true
  | [], b, cs, h => by simpa [ckAll] using h
  | k :: a, b, [], h => by simp [ckAll] at h
  | k :: a, b, c :: cs, h => by
    simp only [List.cons_append, ckAll, Bool.and_eq_true] at h
    obtain ⟨h1, h2⟩ := ckAll_app h.2
    simp [ckAll, h.1, h1, h2]
theorem ckAll_one {k : CK} {l : List PV} (h : ckAll [k] l = true) : ∃ x, l = [x] ∧ k.ok x = true := by
  match l with
  | [] => simp [ckAll] at h
  | [x] => simp [ckAll] at h; exact ⟨x, rfl, h⟩
  | _ :: _ :: _ => simp [ckAll] at h
theorem ck_bool {x : PV} (h : CK.bool.ok x = true) : ∃ b, x = .bool b := by cases x <;> simp [CK.ok] at h; exact ⟨_, rfl⟩
theorem ck_int {k : IntKind} {x : PV} (h : (CK.int k).ok x = true) : ∃ n, x = .int k n := by cases x <;> simp [CK.ok] at h; subst h; exact ⟨_, rfl⟩
theorem ck_str {x : PV} (h : CK.str.ok x = true) : ∃ s, x = .str s := by cases x <;> simp [CK.ok] at h; exact ⟨_, rfl⟩
theorem eqL_app : ∀ {a b c d : List PV}, a.length = b.length → eqL (a ++ c) (b ++ d) = (eqL a b && eqL c d)
  | [], [], c, d, _ => by simp [eqL]
  | [], _ :: _, c, d, h => by simp at h
  | _ :: _, [], c, d, h => by simp at h
  | x :: a, y :: b, c, d, h => by
    simp only [List.cons_append, eqL]
    rw [eqL_app (by simpa using h), Bool.and_assoc]
theorem eqC_eq {k : CK} {x y : PV} (hx : k.ok x = true) (hy : k.ok y = true) (h : eqC x y = true) : x = y := by
  cases k with
  | int k => obtain ⟨a, rfl⟩ := ck_int hx; obtain ⟨b, rfl⟩ := ck_int hy; simp [eqC] at h; rw [h]
  | bool => obtain ⟨a, rfl⟩ := ck_bool hx; obtain ⟨b, rfl⟩ := ck_bool hy; simp [eqC] at h; rw [h]
  | str =>
    obtain ⟨a, rfl⟩ := ck_str hx; obtain ⟨b, rfl⟩ := ck_str hy
    have h' : a.toList = b.toList := by simpa [eqC] using h
    rw [ByteArray.toList_eq, ByteArray.toList_eq] at h'
    obtain ⟨x⟩ := a
    obtain ⟨y⟩ := b
    have e : x = y := Array.toList_inj.1 h'
    rw [e]
theorem eqL_eq : ∀ {ks : List CK} {l l' : List PV}, ckAll ks l = true → ckAll ks l' = true → eqL l l' = true → l = l'
  | [], [], [], _, _, _ => rfl
  | [], _ :: _, _, h, _, _ => by simp [ckAll] at h
  | [], [], _ :: _, _, h, _ => by simp [ckAll] at h
  | _ :: _, [], _, h, _, _ => by simp [ckAll] at h
  | _ :: _, _ :: _, [], _, h, _ => by simp [ckAll] at h
  | k :: ks, x :: l, y :: l', h1, h2, h => by
    simp only [ckAll, eqL, Bool.and_eq_true] at h1 h2 h
    rw [eqC_eq h1.1 h2.1 h.1, eqL_eq h1.2 h2.2 h.2]
/-- A value of such a type. -/
theorem kt_val {m : Mem} {v : Value} {x : PV} {kt : KT} (hk : kt.ok x = true) (h : RdP m v x) : v = toK kt.wide x.cells ∧ ckAll kt.ks x.cells = true := by
  cases h
  case agg vs cs h0 h1 h2 =>
    simp only [KT.ok, Bool.and_eq_true] at hk
    refine ⟨?_, hk.2⟩
    simp only [toK, hk.1, if_true, PV.cells]
    congr 1
    refine Array.ext_getElem? (fun j => ?_)
    rw [show (List.map toV cs).toArray[j]? = (List.map toV cs)[j]? from List.getElem?_toArray .., List.getElem?_map]
    cases hc : cs[j]? with
    | none => rw [Array.getElem?_eq_none (by rw [h0]; exact List.getElem?_eq_none_iff.1 hc)]; rfl
    | some c =>
      have hj : j < vs.size := by rw [h0]; exact (List.getElem?_eq_some_iff.1 hc).1
      obtain ⟨k, hk2⟩ := ckAll_get hk.2 hc
      rw [Array.getElem?_eq_getElem hj, Option.map_some, ok_toV hk2 (h2 j _ c (Array.getElem?_eq_getElem hj) hc)]
  all_goals
    simp only [KT.ok, Bool.and_eq_true, Bool.not_eq_true'] at hk
    obtain ⟨hw, hc⟩ := hk
    refine ⟨?_, hc⟩
    simp only [toK, hw, Bool.false_eq_true, if_false, PV.cells, List.headD_cons]
    obtain ⟨k, hk2⟩ := ckAll_get hc (j := 0) rfl
    exact ok_toV (m := m) hk2 (by first | exact .int _ _ | exact .bool _ | exact .str _ | (cases k <;> simp [CK.ok] at hk2))
def ckF (g : TypeId → Option KT) (sz : TypeId → Nat) : Nat → List Field → Option (List CK)
  | _, [] => some []
  | o, f :: r => match g f.type, ckF g sz (o + sz f.type) r with
    | some kf, some l => if f.offset = o ∧ sz f.type = kf.ks.length ∧ f.name ≠ "_" then some (kf.ks ++ l) else none
    | _, _ => none
/-- The kinds of a type's cells. -/
def ckT (P : Program) : Nat → TypeId → Option KT
  | 0, _ => none
  | d + 1, t => match P.underlying t with
    | some .bool => some ⟨false, [.bool]⟩
    | some (.int k) => some ⟨false, [.int k]⟩
    | some .string => some ⟨false, [.str]⟩
    | some (.array n e) => match ckT P d e with
      | some ke => if P.cellsOf e = ke.ks.length then some ⟨true, (List.replicate n ke.ks).flatten⟩ else none
      | none => none
    | some (.struct fs) => if P.stoodInHeld t = false then (ckF (ckT P d) P.cellsOf 0 fs.toList).map (⟨true, ·⟩) else none
    | _ => none
section
variable {P : Program} {w : World}
theorem ckT_info {d : Nat} {t : TypeId} {kt : KT} (h : ckT P d t = some kt) : ∃ i, P.info? t = some i := by
  cases d with
  | zero => simp [ckT] at h
  | succ d =>
    cases hu : P.underlying t with
    | none => simp [ckT, hu] at h
    | some dd => exact info_of_underlying hu
theorem run_partK {d : Nat} {e : TypeId} {ke : KT} (hk : ckT P d e = some ke) (hs : P.cellsOf e = ke.ks.length) {l : List PV} {off : Nat} (hl : ckAll ke.ks ((l.drop off).take ke.ks.length) = true) (w : World) :
    (part e (l.map toV).toArray off).run P w = .ok (toK ke.wide ((l.drop off).take ke.ks.length)) w := by
  obtain ⟨i, hi⟩ := ckT_info hk
  cases d with
  | zero => simp [ckT] at hk
  | succ d =>
    have plain : ∀ {k : CK} {dd : TypeDesc}, P.underlying e = some dd → ke = ⟨false, [k]⟩ → (dd = .bool ∨ dd = .string ∨ ∃ q, dd = .int q) → (part e (l.map toV).toArray off).run P w = .ok (toK ke.wide ((l.drop off).take ke.ks.length)) w := by
      intro k dd hu e1 hdd
      subst e1
      obtain ⟨x, hx, _⟩ := ckAll_one hl
      have hget : l[off]? = some x := by
        have : ((l.drop off).take 1)[0]? = some x := by simp only [List.length_singleton] at hx; rw [hx]; rfl
        rw [List.getElem?_take, if_pos (by omega), List.getElem?_drop] at this
        simpa using this
      have hget2 : (l.map toV).toArray[off]? = some (toV x) := by rw [List.getElem?_toArray, List.getElem?_map, hget]; rfl
      rw [hx]
      rcases hdd with rfl | rfl | ⟨q, rfl⟩ <;> simp [part, isAgg, run_underlying hu, hget2, toK] <;> simp [hget]
    have wide : ke.wide = true → (∃ n e', P.underlying e = some (.array n e')) ∨ (∃ fs, P.underlying e = some (.struct fs)) → (part e (l.map toV).toArray off).run P w = .ok (toK ke.wide ((l.drop off).take ke.ks.length)) w := by
      intro hw hu
      have hv : (l.map toV).toArray.extract off (off + P.cellsOf e) = (((l.drop off).take ke.ks.length).map toV).toArray := by
        apply Array.toList_inj.1
        rw [Array.toList_extract, hs]
        simp [List.extract, List.map_drop, List.map_take]
      simp only [toK, hw, if_true]
      rcases hu with ⟨n, e', hu⟩ | ⟨fs, hu⟩ <;> simp only [part, isAgg, Sem.run_bind, run_underlying hu, Result.andThen_ok, Sem.run_pure, if_true, Go.run_sizeOf w hi, hv]
    unfold ckT at hk
    split at hk
    · rename_i hu; cases hk; exact plain hu rfl (.inl rfl)
    · rename_i k hu; cases hk; exact plain hu rfl (.inr (.inr ⟨k, rfl⟩))
    · rename_i hu; cases hk; exact plain hu rfl (.inr (.inl rfl))
    · rename_i n e' hu
      split at hk
      · split at hk
        · cases hk; exact wide rfl (.inl ⟨n, e', hu⟩)
        · cases hk
      · cases hk
    · rename_i fs hu
      split at hk
      · obtain ⟨ks, _, rfl⟩ := Option.map_eq_some_iff.1 hk
        exact wide rfl (.inr ⟨fs, hu⟩)
      · cases hk
    · cases hk
theorem ckAll_nil {l : List PV} (h : ckAll [] l = true) : l = [] := by cases l with
  | nil => rfl
  | cons => simp [ckAll] at h
theorem run_eqItemsK {d dd : Nat} {e : TypeId} {ke : KT} (hk : ckT P d e = some ke) (hs : P.cellsOf e = ke.ks.length)
    (IH : ∀ l l', ckAll ke.ks l = true → ckAll ke.ks l' = true → ∀ w, (Op.equalIn dd e (toK ke.wide l) (toK ke.wide l')).run P w = .ok (eqL l l') w) (L L' : List PV) (w : World) :
    ∀ (n i : Nat), ckAll (List.replicate n ke.ks).flatten (L.drop (i * ke.ks.length)) = true → ckAll (List.replicate n ke.ks).flatten (L'.drop (i * ke.ks.length)) = true →
      (Op.eqItems dd e (P.cellsOf e) (L.map toV).toArray (L'.map toV).toArray (List.range' i n)).run P w = .ok (eqL (L.drop (i * ke.ks.length)) (L'.drop (i * ke.ks.length))) w
  | 0, i, h1, h2 => by
    rw [ckAll_nil h1, ckAll_nil h2]
    simp [Op.eqItems, eqL]
  | n + 1, i, h1, h2 => by
    simp only [List.replicate_succ, List.flatten_cons] at h1 h2
    obtain ⟨a1, a2⟩ := ckAll_app h1
    obtain ⟨b1, b2⟩ := ckAll_app h2
    have e1 : i * ke.ks.length + ke.ks.length = (i + 1) * ke.ks.length := by rw [Nat.add_mul]; omega
    rw [List.drop_drop, e1] at a2 b2
    have hr := run_eqItemsK hk hs IH L L' w n (i + 1) a2 b2
    have la := ckAll_len a1
    have lb := ckAll_len b1
    have hsp : eqL (L.drop (i * ke.ks.length)) (L'.drop (i * ke.ks.length)) = (eqL ((L.drop (i * ke.ks.length)).take ke.ks.length) ((L'.drop (i * ke.ks.length)).take ke.ks.length) && eqL (L.drop ((i + 1) * ke.ks.length)) (L'.drop ((i + 1) * ke.ks.length))) := by
      rw [← eqL_app (by omega)]
      rw [← e1, ← List.drop_drop, ← List.drop_drop, List.take_append_drop, List.take_append_drop]
    rw [hsp]
    rw [hs] at hr ⊢
    simp only [List.range'_succ, Op.eqItems, Sem.run_bind, run_partK hk hs a1, run_partK hk hs b1, IH _ _ a1 b1, Result.andThen_ok]
    cases eqL ((L.drop (i * ke.ks.length)).take ke.ks.length) ((L'.drop (i * ke.ks.length)).take ke.ks.length)
    · simp
    · simpa using hr
theorem run_eqFieldsK {d dd : Nat} (IH : ∀ (e : TypeId) (ke : KT), ckT P d e = some ke → ∀ l l', ckAll ke.ks l = true → ckAll ke.ks l' = true → ∀ w, (Op.equalIn dd e (toK ke.wide l) (toK ke.wide l')).run P w = .ok (eqL l l') w) (L L' : List PV) (w : World) :
    ∀ (fs : List Field) (o : Nat) (ks : List CK), ckF (ckT P d) P.cellsOf o fs = some ks → ckAll ks (L.drop o) = true → ckAll ks (L'.drop o) = true →
      (Op.eqFields dd (L.map toV).toArray (L'.map toV).toArray fs).run P w = .ok (eqL (L.drop o) (L'.drop o)) w
  | [], o, ks, h, h1, h2 => by
    simp [ckF] at h; subst h
    rw [ckAll_nil h1, ckAll_nil h2]
    simp [Op.eqFields, eqL]
  | f :: fs, o, ks, h, h1, h2 => by
    unfold ckF at h
    split at h
    · rename_i kf l hk hr0
      split at h
      · rename_i hc
        obtain ⟨c1, c2, c3⟩ := hc
        cases h
        obtain ⟨a1, a2⟩ := ckAll_app h1
        obtain ⟨b1, b2⟩ := ckAll_app h2
        rw [List.drop_drop, ← c2] at a2 b2
        have hr := run_eqFieldsK IH L L' w fs _ l hr0 a2 b2
        have la := ckAll_len a1
        have lb := ckAll_len b1
        have hsp : eqL (L.drop o) (L'.drop o) = (eqL ((L.drop o).take kf.ks.length) ((L'.drop o).take kf.ks.length) && eqL (L.drop (o + P.cellsOf f.type)) (L'.drop (o + P.cellsOf f.type))) := by
          rw [← eqL_app (by omega)]
          rw [c2, ← List.drop_drop, ← List.drop_drop, List.take_append_drop, List.take_append_drop]
        rw [hsp]
        have p1 := run_partK hk c2 a1 w
        have p2 := run_partK hk c2 b1 w
        rw [← c1] at p1 p2 a1 b1 ⊢
        simp only [Op.eqFields, c3, ne_eq, not_false_eq_true, if_true, Sem.run_bind, p1, p2, IH _ _ hk _ _ a1 b1, Result.andThen_ok]
        rw [← c1] at hr
        cases eqL ((L.drop f.offset).take kf.ks.length) ((L'.drop f.offset).take kf.ks.length)
        · simp
        · simpa using hr
      · cases h
    · cases h
/-- Equality, cell by cell. -/
theorem run_equalK : ∀ (d : Nat) (t : TypeId) (kt : KT), ckT P d t = some kt → ∀ (e : Nat), d ≤ e → ∀ (l l' : List PV), ckAll kt.ks l = true → ckAll kt.ks l' = true → ∀ w, (Op.equalIn e t (toK kt.wide l) (toK kt.wide l')).run P w = .ok (eqL l l') w
  | 0, t, kt, h, e, he, l, l', hl, hl', w => by simp [ckT] at h
  | d + 1, t, kt, h, e, he, l, l', hl, hl', w => by
    obtain ⟨e', rfl⟩ : ∃ e', e = e' + 1 := ⟨e - 1, by omega⟩
    unfold ckT at h
    split at h
    · rename_i hu; cases h
      obtain ⟨x, rfl, hx⟩ := ckAll_one hl
      obtain ⟨y, rfl, hy⟩ := ckAll_one hl'
      obtain ⟨a, rfl⟩ := ck_bool hx
      obtain ⟨b, rfl⟩ := ck_bool hy
      have := run_equalIn_bool w e' t a b hu
      simpa [toK, toV, eqL, eqC] using this
    · rename_i k hu; cases h
      obtain ⟨x, rfl, hx⟩ := ckAll_one hl
      obtain ⟨y, rfl, hy⟩ := ckAll_one hl'
      obtain ⟨a, rfl⟩ := ck_int hx
      obtain ⟨b, rfl⟩ := ck_int hy
      have := run_equalIn_int w e' t k k a b hu
      simpa [toK, toV, eqL, eqC] using this
    · rename_i hu; cases h
      obtain ⟨x, rfl, hx⟩ := ckAll_one hl
      obtain ⟨y, rfl, hy⟩ := ckAll_one hl'
      obtain ⟨a, rfl⟩ := ck_str hx
      obtain ⟨b, rfl⟩ := ck_str hy
      have := run_equalIn_string w e' t a b hu
      simpa [toK, toV, eqL, eqC] using this
    · rename_i n e0 hu
      split at h
      · rename_i ke hk
        split at h
        · rename_i hs
          cases h
          obtain ⟨i, hi⟩ := ckT_info hk
          simp only [toK, if_true]
          rw [run_equalIn_array w e' _ _ hu hi, List.range_eq_range']
          have := run_eqItemsK hk hs (run_equalK d e0 ke hk e' (by omega)) l l' w n 0 (by simpa using hl) (by simpa using hl')
          simpa using this
        · cases h
      · cases h
    · rename_i fs hu
      split at h
      · rename_i hst
        obtain ⟨ks, hf, rfl⟩ := Option.map_eq_some_iff.1 h
        have hfs : P.fieldsOf t = fs := by simp [Program.fieldsOf, hu]
        simp only [toK, if_true]
        rw [run_equalIn_struct w e' t _ _ (by rw [hfs]; exact hu) hst, hfs]
        have := run_eqFieldsK (dd := e') (fun e0 ke hk => run_equalK d e0 ke hk e' (by omega)) l l' w fs.toList 0 ks hf (by simpa using hl) (by simpa using hl')
        simpa using this
      · cases h
    · cases h
theorem ckAll_each {ks : List CK} : ∀ (n : Nat) (l : List PV), ckAll (List.replicate n ks).flatten l = true → ∀ j, j < n → ckAll ks ((l.drop (j * ks.length)).take ks.length) = true
  | 0, l, h, j, hj => by omega
  | n + 1, l, h, j, hj => by
    simp only [List.replicate_succ, List.flatten_cons] at h
    obtain ⟨a1, a2⟩ := ckAll_app h
    cases j with
    | zero => simpa using a1
    | succ j =>
      have := ckAll_each n _ a2 j (by omega)
      rwa [List.drop_drop, show ks.length + j * ks.length = (j + 1) * ks.length by rw [Nat.add_mul]; omega] at this
theorem ckF_each (d : Nat) (l : List PV) : ∀ (fs : List Field) (o : Nat) (ks : List CK), ckF (ckT P d) P.cellsOf o fs = some ks → ckAll ks (l.drop o) = true →
    ∀ f ∈ fs, ∃ kf, ckT P d f.type = some kf ∧ P.cellsOf f.type = kf.ks.length ∧ f.name ≠ "_" ∧ ckAll kf.ks ((l.drop f.offset).take kf.ks.length) = true
  | [], o, ks, h, h1, f, hf => by cases hf
  | g :: fs, o, ks, h, h1, f, hf => by
    unfold ckF at h
    split at h
    · rename_i kf l0 hk hr0
      split at h
      · rename_i hc
        obtain ⟨c1, c2, c3⟩ := hc
        cases h
        obtain ⟨a1, a2⟩ := ckAll_app h1
        rw [List.drop_drop, ← c2] at a2
        rcases List.mem_cons.1 hf with rfl | hf
        · exact ⟨kf, hk, c2, c3, by rw [c1]; exact a1⟩
        · exact ckF_each d l fs _ _ hr0 a2 f hf
      · cases h
    · cases h
/-- A key of such a type can be looked up. -/
theorem run_checkK (em : Bool) : ∀ (d : Nat) (t : TypeId) (kt : KT), ckT P d t = some kt → ∀ (e : Nat), d ≤ e → ∀ (l : List PV), ckAll kt.ks l = true → ∀ w, (Instr.checkKey em e t (toK kt.wide l)).run P w = .ok () w
  | 0, t, kt, h, e, he, l, hl, w => by simp [ckT] at h
  | d + 1, t, kt, h, e, he, l, hl, w => by
    obtain ⟨e', rfl⟩ : ∃ e', e = e' + 1 := ⟨e - 1, by omega⟩
    unfold ckT at h
    split at h
    · rename_i hu; cases h
      obtain ⟨x, rfl, hx⟩ := ckAll_one hl
      obtain ⟨a, rfl⟩ := ck_bool hx
      simp [toK, toV, Instr.checkKey, run_underlying hu]
    · rename_i k hu; cases h
      obtain ⟨x, rfl, hx⟩ := ckAll_one hl
      obtain ⟨a, rfl⟩ := ck_int hx
      simp [toK, toV, Instr.checkKey, run_underlying hu]
    · rename_i hu; cases h
      obtain ⟨x, rfl, hx⟩ := ckAll_one hl
      obtain ⟨a, rfl⟩ := ck_str hx
      simp [toK, toV, Instr.checkKey, run_underlying hu]
    · rename_i n e0 hu
      split at h
      · rename_i ke hk
        split at h
        · rename_i hs
          cases h
          obtain ⟨i, hi⟩ := ckT_info hk
          simp only [toK, if_true]
          rw [Instr.checkKey]
          simp only [Sem.run_bind, run_underlying hu, Result.andThen_ok]
          simp only [Std.Legacy.Range.forIn_eq_forIn_range', Std.Legacy.Range.size, Nat.sub_zero, Nat.add_one_sub_one, Nat.div_one]
          have each : ∀ j ∈ List.range' 0 n, ckAll ke.ks ((l.drop (j * ke.ks.length)).take ke.ks.length) = true := fun j hj => by
            rw [List.mem_range'_1] at hj
            exact ckAll_each n l hl j (by omega)
          generalize List.range' 0 n = is at each
          induction is with
          | nil => simp
          | cons j is ih =>
            have a1 := each j (by simp)
            have p1 := run_partK hk hs a1 w
            have p2 := run_checkK em d e0 ke hk e' (by omega) _ a1 w
            simp only [List.forIn_cons, Sem.run_bind, Go.run_sizeOf w hi, Result.andThen_ok, hs, p1, p2, Sem.run_pure]
            exact ih (fun y hy => each y (by simp [hy]))
        · cases h
      · cases h
    · rename_i fs hu
      split at h
      · rename_i hst
        obtain ⟨ks, hf, rfl⟩ := Option.map_eq_some_iff.1 h
        simp only [toK, if_true]
        rw [Instr.checkKey]
        simp only [Sem.run_bind, run_underlying hu, Result.andThen_ok]
        rw [← Array.forIn_toList]
        have each := ckF_each d l fs.toList 0 ks hf (by simpa using hl)
        clear hf h
        generalize fs.toList = L at each
        induction L with
        | nil => simp
        | cons f L ih =>
          obtain ⟨kf, hk, c2, c3, a1⟩ := each f (by simp)
          have p1 := run_partK hk c2 a1 w
          simp only [List.forIn_cons, Sem.run_bind, c3, ne_eq, not_false_eq_true, if_true, Result.andThen_ok, p1, run_checkK em d f.type kf hk e' (by omega) _ a1 w, Sem.run_pure]
          exact ih (fun y hy => each y (by simp [hy]))
      · cases h
    · cases h
end
end Go.Proofs.Ytohhjnpiiackjaa
/-! An evaluation of Go's code over plain values: maps, copy, clear, struct equality, are the model's. Over any program. -/
namespace Go.Proofs.Ytohhjnpiiackjaa
open Go.RowKit
def litX (P : Program) : Op → Option XOp
  | .binOp op t x y _ => match opd x, opd y, ckT P 20 t with
    | some x, some y, some kt => if (kt.wide = true ∧ P.eqGuardType P.depth t = false) ∨ kt = ⟨false, [.str]⟩ then match op with
        | .eql => some (.eqv false kt x y)
        | .neq => some (.eqv true kt x y)
        | _ => none
      else none
    | _, _, _ => none
  | .makeMap _ none => some .mmk
  | .lookup t x i ok => match P.underlying t with
    | some (.map k e) => match opd x, opd i, ckT P 20 k, zeroPV P e with
      | some x, some i, some kt, some z => some (.look kt z ok x i)
      | _, _, _, _ => none
    | _ => none
  | .mapUpdate t x i v => match P.underlying t with
    | some (.map k _) => match opd x, opd i, opd v, ckT P 20 k with
      | some x, some i, some v, some kt => some (.upd kt x i v)
      | _, _, _, _ => none
    | _ => none
  | .insert t x i v => match P.underlying t with
    | some (.map k _) => match opd x, opd i, opd v, ckT P 20 k with
      | some x, some i, some v, some kt => some (.upd kt x i v)
      | _, _, _, _ => none
    | _ => none
  | .call c => match c.callee with
    | .builtin .len => match c.args.toList, c.argTypes.toList with
      | [x], [t] => match opd x, P.underlying t with
        | some y, some (.map _ _) => some (.mlen y)
        | _, _ => none
      | _, _ => none
    | .builtin .copy => match c.args.toList, c.argTypes.toList with
      | [x, y], [t, _] => match opd x, opd y, elemT P t with
        | some x, some y, some (_, n, none) => if 0 < n then some (.copy n x y) else none
        | _, _, _ => none
      | _, _ => none
    | .builtin .clear => match c.args.toList, c.argTypes.toList with
      | [x], [t] => match opd x, elemT P t with
        | some x, some (e, n, none) => match zeroPV P e with
          | some z => if 0 < n ∧ z.cells.length = n then some (.clear n z x) else none
          | none => none
        | _, _ => none
      | _, _ => none
    | _ => none
  | .slice t x none (some hi) none => match opd x, opd hi, elemT P t with
    | some x, some hi, some (_, 1, some n) => if 0 < n ∧ n ≤ 1000000 then some (.sla n x hi) else none
    | some x, some hi, some (_, W, some n) => if 0 < n ∧ n ≤ 1000000 then some (.slw n W x hi) else none
    | _, _, _ => none
  | .slice t x none none none => match opd x, elemT P t with
    | some x, some (_, 1, some n) => if 0 < n ∧ n ≤ 1000000 then some (.sla n x (.c (.int .i64 n))) else none
    | _, _ => none
  | _ => none
def XOp.still : XOp → Bool
  | .eqv _ _ _ _ => true
  | .slen _ => true
  | .sidx _ _ => true
  | .ssl _ _ _ => true
  | .scat _ _ => true
  | .mif _ _ => true
  | .nif _ _ => true
  | .tas _ _ _ => true
  | _ => false
def XOp.read : XOp → Bool
  | .look _ _ _ _ _ => true
  | .mlen _ => true
  | _ => false
/-- Where a key is. -/
def idxK (k : PV) : List (PV × PV) → Option Nat
  | [] => none
  | (k', _) :: r => match eqK k k' with
    | true => some 0
    | false => (idxK k r).map (· + 1)
theorem findV_idx (k : PV) : ∀ es : List (PV × PV), findV k es = (idxK k es).bind fun j => (es[j]?).map (·.2)
  | [] => rfl
  | (k', v) :: r => by
    unfold findV idxK
    cases eqK k k' with
    | true => rfl
    | false =>
      rw [findV_idx k r]
      cases idxK k r <;> simp
theorem putK_idx (k v : PV) : ∀ es : List (PV × PV), putK k v es = match idxK k es with
    | some j => es.set j (k, v)
    | none => es ++ [(k, v)]
  | [] => rfl
  | (k', v') :: r => by
    unfold putK idxK
    cases eqK k k' with
    | true => rfl
    | false =>
      dsimp only
      rw [putK_idx k v r]
      cases idxK k r <;> simp
theorem idxK_lt {k : PV} : ∀ {es : List (PV × PV)} {j : Nat}, idxK k es = some j → ∃ p, es[j]? = some p ∧ eqK k p.1 = true
  | [], j, h => by simp [idxK] at h
  | (k', v) :: r, j, h => by
    unfold idxK at h
    cases he : eqK k k' with
    | true => rw [he] at h; cases h; exact ⟨_, rfl, he⟩
    | false =>
      rw [he] at h
      obtain ⟨j', h1, rfl⟩ := Option.map_eq_some_iff.1 h
      obtain ⟨p, h2, h3⟩ := idxK_lt h1
      exact ⟨p, by simpa using h2, h3⟩
/-- The entries' keys. -/
def EntR (kt : KT) : List MapEntry → List (PV × PV) → Prop
  | [], [] => True
  | e :: r, p :: q => (e.key = toK kt.wide p.1.cells ∧ ckAll kt.ks p.1.cells = true) ∧ EntR kt r q
  | _, _ => False
theorem EntR.of {m : Mem} {kt : KT} : ∀ {ents : List MapEntry} {es : List (PV × PV)}, ents.length = es.length → (∀ (i : Nat) (e : MapEntry) (p : PV × PV), ents[i]? = some e → es[i]? = some p → RdP m e.key p.1 ∧ RdP m e.val p.2) → keysOk kt es = true → EntR kt ents es
  | [], [], _, _, _ => trivial
  | [], _ :: _, h, _, _ => by simp at h
  | _ :: _, [], h, _, _ => by simp at h
  | e :: r, p :: q, h, h1, h2 => by
    simp only [keysOk, List.all_cons, Bool.and_eq_true] at h2
    exact ⟨kt_val h2.1 (h1 0 e p rfl rfl).1, EntR.of (by simpa using h) (fun i e' p' k1 k2 => h1 (i + 1) e' p' (by simpa using k1) (by simpa using k2)) h2.2⟩
theorem EntR.get {kt : KT} : ∀ {ents : List MapEntry} {es : List (PV × PV)} {j : Nat} {p : PV × PV}, EntR kt ents es → es[j]? = some p → ∃ e, ents[j]? = some e ∧ e.key = toK kt.wide p.1.cells ∧ ckAll kt.ks p.1.cells = true
  | [], [], j, p, _, h => by simp at h
  | [], _ :: _, j, p, h, _ => h.elim
  | _ :: _, [], j, p, h, _ => h.elim
  | e :: r, p' :: q, j, p, h, hj => by
    cases j with
    | zero => simp at hj; subst hj; exact ⟨e, rfl, h.1⟩
    | succ j =>
      obtain ⟨e', k1, k2⟩ := EntR.get (j := j) h.2 (by simpa using hj)
      exact ⟨e', by simpa using k1, k2⟩
section
variable {P : Program} {w : World}
theorem run_askK {t : TypeId} {kt : KT} (hk : ckT P 20 t = some kt) {k : PV} (hl : ckAll kt.ks k.cells = true) (w : World) : ∀ (ents : List MapEntry) (es : List (PV × PV)) (i : Nat), EntR kt ents es →
    (Instr.findAsking t (toK kt.wide k.cells) ents i).run P w = .ok ((idxK k es).bind fun j => (ents[j]?).map fun e => (i + j, e.val)) w
  | [], [], i, _ => by simp [Instr.findAsking, idxK]
  | [], _ :: _, i, h => h.elim
  | _ :: _, [], i, h => h.elim
  | e :: ents, p :: es, i, h => by
    obtain ⟨⟨h1, h2⟩, h3⟩ := h
    have hr := run_equalK (w := w) 20 t kt hk 10000 (by omega) k.cells p.1.cells hl h2
    have ih := run_askK hk hl w ents es (i + 1) h3
    simp only [Instr.findAsking, Sem.run_bind, h1, Op.equal, Op.maxDepth, hr, Result.andThen_ok]
    obtain ⟨pk, pv⟩ := p
    unfold idxK eqK
    cases eqL k.cells pk.cells with
    | true => simp
    | false =>
      simp only [Bool.false_eq_true, if_false, ih]
      congr 1
      cases idxK k es with
      | none => rfl
      | some j =>
        simp only [Option.map_some, Option.bind_some, List.getElem?_cons_succ]
        rw [show i + 1 + j = i + (j + 1) by omega]
theorem now_plain {d : Nat} {t : TypeId} {kt : KT} (hk : ckT P d t = some kt) (hw : kt.wide = false) {dd : TypeDesc} (hu : P.underlying t = some dd) {l l' : List PV} (h1 : ckAll kt.ks l = true) (h2 : ckAll kt.ks l' = true) :
    Instr.sameNow dd (toK kt.wide l) (toK kt.wide l') = some (eqL l l') := by
  cases d with
  | zero => simp [ckT] at hk
  | succ d =>
    unfold ckT at hk
    rw [hu] at hk
    cases dd
    case bool =>
      cases hk
      obtain ⟨x, rfl, hx⟩ := ckAll_one h1
      obtain ⟨y, rfl, hy⟩ := ckAll_one h2
      obtain ⟨a, rfl⟩ := ck_bool hx
      obtain ⟨b, rfl⟩ := ck_bool hy
      simp [toK, toV, Instr.sameNow, eqL, eqC]
    case int q =>
      cases hk
      obtain ⟨x, rfl, hx⟩ := ckAll_one h1
      obtain ⟨y, rfl, hy⟩ := ckAll_one h2
      obtain ⟨a, rfl⟩ := ck_int hx
      obtain ⟨b, rfl⟩ := ck_int hy
      simp [toK, toV, Instr.sameNow, eqL, eqC]
    case string =>
      cases hk
      obtain ⟨x, rfl, hx⟩ := ckAll_one h1
      obtain ⟨y, rfl, hy⟩ := ckAll_one h2
      obtain ⟨a, rfl⟩ := ck_str hx
      obtain ⟨b, rfl⟩ := ck_str hy
      simp [toK, toV, Instr.sameNow, eqL, eqC, beq_toListBytes]
    case array n e =>
      simp only at hk
      split at hk
      · split at hk
        · cases hk; cases hw
        · cases hk
      · cases hk
    case struct fs =>
      simp only at hk
      split at hk
      · obtain ⟨ks, _, rfl⟩ := Option.map_eq_some_iff.1 hk
        cases hw
      · cases hk
    all_goals (cases hk)
theorem findNow_plain {t : TypeId} {kt : KT} (hk : ckT P 20 t = some kt) (hw : kt.wide = false) {dd : TypeDesc} (hu : P.underlying t = some dd) {k : PV} (hl : ckAll kt.ks k.cells = true) : ∀ (ents : List MapEntry) (es : List (PV × PV)) (i : Nat), EntR kt ents es →
    Instr.findNow dd (toK kt.wide k.cells) ents i = some ((idxK k es).bind fun j => (ents[j]?).map fun e => (i + j, e.val))
  | [], [], i, _ => by simp [Instr.findNow, idxK]
  | [], _ :: _, i, h => h.elim
  | _ :: _, [], i, h => h.elim
  | e :: ents, p :: es, i, h => by
    obtain ⟨⟨h1, h2⟩, h3⟩ := h
    have ih := findNow_plain hk hw hu hl ents es (i + 1) h3
    simp only [Instr.findNow, h1, now_plain hk hw hu hl h2]
    obtain ⟨pk, pv⟩ := p
    unfold idxK eqK
    cases eqL k.cells pk.cells with
    | true => simp
    | false =>
      simp only [ih]
      congr 1
      cases idxK k es with
      | none => rfl
      | some j =>
        simp only [Option.map_some, Option.bind_some, List.getElem?_cons_succ]
        rw [show i + 1 + j = i + (j + 1) by omega]
theorem run_keyK {t : TypeId} {kt : KT} (hk : ckT P 20 t = some kt) {k : PV} (hl : ckAll kt.ks k.cells = true) (w : World) {ents : List MapEntry} {es : List (PV × PV)} (h : EntR kt ents es) :
    (Instr.findKey t (toK kt.wide k.cells) ents).run P w = .ok ((idxK k es).bind fun j => (ents[j]?).map fun e => (j, e.val)) w := by
  obtain ⟨i, hi⟩ := ckT_info hk
  cases hu : P.underlying t with
  | none => rw [ckT, hu] at hk; cases hk
  | some dd =>
    cases hw : kt.wide with
    | false =>
      have := findNow_plain hk hw hu hl ents es 0 h
      rw [hw] at this
      simp only [Instr.findKey, Sem.run_bind, run_underlying hu, Result.andThen_ok, this, Nat.zero_add, Sem.run_pure]
    | true =>
      have ha := run_askK hk hl w ents es 0 h
      rw [hw] at ha
      simp only [Nat.zero_add] at ha
      simp only [Instr.findKey, Sem.run_bind, run_underlying hu, Result.andThen_ok]
      cases ents with
      | nil =>
        cases es with
        | nil => simp [Instr.findNow, idxK]
        | cons => exact h.elim
      | cons e r =>
        have hn : Instr.findNow dd (toK true k.cells) (e :: r) 0 = none := by
          simp only [Instr.findNow, toK, if_true]
          cases dd <;> rfl
        rw [hn]
        exact ha
theorem sameBits_toV {k : CK} {x : PV} (h : k.ok x = true) (n : Nat) : Instr.sameBits n (toV x) (toV x) = true := by
  cases k with
  | int k => obtain ⟨a, rfl⟩ := ck_int h; simp [toV, Instr.sameBits]
  | bool => obtain ⟨a, rfl⟩ := ck_bool h; simp [toV, Instr.sameBits]
  | str => obtain ⟨a, rfl⟩ := ck_str h; simp [toV, Instr.sameBits, beq_toListBytes]
theorem run_staysK {kt : KT} {x : PV} (hx : kt.ok x = true) (w : World) : (Instr.keyThatStays (toK kt.wide x.cells) (toK kt.wide x.cells)).run P w = .ok (toK kt.wide x.cells) w := by
  have hs : Instr.sameBits 10000 (toK kt.wide x.cells) (toK kt.wide x.cells) = true := by
    cases hw : kt.wide with
    | true =>
      have hall : ckAll kt.ks x.cells = true := by
        cases x <;> simp_all [KT.ok, PV.cells]
      simp only [toK, if_true, Instr.sameBits, List.size_toArray, BEq.rfl, Bool.true_and, List.all_eq_true, List.zip_map', List.mem_map]
      intro q hq
      obtain ⟨c, hc, rfl⟩ := hq
      obtain ⟨j, hj⟩ := List.mem_iff_getElem?.1 hc
      obtain ⟨k, hk⟩ := ckAll_get hall hj
      exact sameBits_toV hk _
    | false =>
      have hall : ∃ k : CK, k.ok (x.cells.headD .nilp) = true := by
        have : ckAll kt.ks [x] = true ∧ x.cells = [x] := by cases x <;> simp_all [KT.ok, PV.cells]
        rw [this.2]
        exact ckAll_get this.1 (j := 0) rfl
      obtain ⟨k, hk⟩ := hall
      exact sameBits_toV hk _
  simp [Instr.keyThatStays, hs]
end
section
variable {P : Program} {N : Nat} {w0 : World} {m0 : Env w0} {pl : List Nat} {σ : AS} {ρ : Site → Loc} {m : Mem} {act : Act} {w : World} {o : Oper} {d : Nat} {K : AV → AS → Prop}
theorem putObj_keep' (w : World) (l : Nat) (o : Obj) : Keep [l] w (w.putObj l o) := ⟨rfl, rfl, rfl, by simp, fun k hk hn => World.putObj_heap_other (by simpa using hn)⟩
theorem RdA.mp_inv {v : Value} {s : Site} (h : RdA ρ m v (.mp s)) : v = .map (some (ρ s).b) := by cases h; rfl
theorem RdA.nilmap_inv {v : Value} (h : RdA ρ m v (.pv .nilmap)) : v = .map none := by
  cases h with
  | pv _ _ h => cases h; rfl
theorem eqv_bin {G : World → Prop} {op : BinOp} {t u : TypeId} {x y : Operand} {x' y' : Opd} {kt : KT} {neg : Bool} (hx : opd x = some x') (hy : opd y = some y') (hk : ckT P 20 t = some kt) (hc : (kt.wide = true ∧ P.eqGuardType P.depth t = false) ∨ kt = ⟨false, [.str]⟩)
    (hop : op = .eql ∧ neg = false ∨ op = .neq ∧ neg = true) (ho : o.op = .binOp op t x y u) (h : opWpX (.eqv neg kt x' y') d K σ) (hS : Sat N w0 m0 pl σ ρ m act w) : ResP G P σ ρ m o act w K := by
  simp only [opWpX] at h
  have h1 := hS.opd hx
  have h2 := hS.opd hy
  split at h
  · rename_i a b ea eb
    obtain ⟨ha, hb, hK⟩ := h
    rw [ea] at h1; rw [eb] at h2
    obtain ⟨v1, c1⟩ := kt_val ha h1.pv_inv
    obtain ⟨v2, c2⟩ := kt_val hb h2.pv_inv
    refine .pure hS (v := .bool (eqK a b != neg)) ?_ (.pv _ _ (.bool _)) hK
    intro w' _
    unfold execOp
    simp only [ho, v1, v2]
    rcases hc with ⟨hw, hg⟩ | hc
    · have he := run_equalK (w := w') 20 t kt hk 10000 (by omega) _ _ c1 c2
      simp only [toK, hw, if_true] at he ⊢
      rcases hop with ⟨rfl, rfl⟩ | ⟨rfl, rfl⟩
      · simp only [Sem.run_bind, run_eqGuard_agg w' _ t x y _ _ hg, Result.andThen_ok, run_eql_struct, he, Sem.run_pure]
        simp [eqK]
      · simp only [Sem.run_bind, run_eqGuard_agg w' _ t x y _ _ hg, Result.andThen_ok, run_neq_struct, he, Sem.run_pure]
        simp [eqK]
    · subst hc
      obtain ⟨x1, e1, hx1⟩ := ckAll_one c1
      obtain ⟨x2, e2, hx2⟩ := ckAll_one c2
      obtain ⟨s1, rfl⟩ := ck_str hx1
      obtain ⟨s2, rfl⟩ := ck_str hx2
      simp only [eqK, e1, e2, toK, Bool.false_eq_true, if_false, List.headD_cons, toV, eqL, eqC, Bool.and_true]
      rcases hop with ⟨rfl, rfl⟩ | ⟨rfl, rfl⟩ <;> simp [eqGuard, binOp, Op.stringOp]
  · exact h.elim
theorem mmk_run {t : TypeId} (ho : o.op = .makeMap t none) (h : opWpX .mmk d K σ) (hS : Sat N w0 m0 pl σ ρ m act w) : Res P N w0 m0 pl o act w K := by
  have hr : (execOp act.eval o).run P w = .ok (.value (.map (some w.heap.size))) (w.alloc (.map #[] 0)) := by
    unfold execOp
    simp [ho, Instr.makeMap]
  have hu := upd_self ρ (.loc d 0) ⟨w.heap.size, 0, 0, true⟩
  have hp := hS.purge d
  refine ⟨_, _, .mp (.loc d 0), _, upd ρ (.loc d 0) ⟨w.heap.size, 0, 0, true⟩, m, .inl hr, h, (hp.ext (Ext.al w _)).add (NoD.purge d σ) ⟨by rw [hu], #[], 0, by rw [hu]; exact World.alloc_heap_new w _, rfl, fun i e p k => by simp at k⟩ (fun _ s b k r => ?_) (fun _ o => hp.mem_new (Nat.le_refl _) o) (fun _ => .inl hp.keep.size), ?_, fun _ => Ext.al _ _⟩
  · have hx : Ext w (w.alloc (.map #[] 0)) := Ext.al w _
    have := hp.ltk k (((hp.bx s b k).blk_same (fun r => hx.block _ (hp.lt k r))).1 r)
    simp at this
  · have := RdA.mp (ρ := upd ρ (.loc d 0) ⟨w.heap.size, 0, 0, true⟩) (m := m) (.loc d 0)
    rw [hu] at this
    exact this
theorem zeroPV_run {e : TypeId} {z : PV} (h : zeroPV P e = some z) (w : World) (m : Mem) : ∃ v, (zeroValue e).run P w = .ok v w ∧ RdP m v z := by
  unfold zeroPV at h
  cases hv : zeroT P e with
  | none => simp [hv] at h
  | some zv =>
    simp only [hv, Option.bind_some] at h
    refine ⟨zv, run_zero hv w, ?_⟩
    unfold pvz at h
    split at h
    · rename_i cs
      obtain ⟨xs, k1, rfl⟩ := Option.map_eq_some_iff.1 h
      obtain ⟨k2, k3⟩ := mapM_rd (m := m) k1
      obtain ⟨_, z2, _⟩ := pvz_cells (v := .agg cs) (x := .agg xs) (by unfold pvz; exact Option.map_eq_some_iff.2 ⟨xs, k1, rfl⟩) m
      exact .agg cs xs (by simpa using k2) (fun d hd => z2 d (by simpa [Value.cells] using hd)) (fun j d c h1 h2 => k3 j d c (by simpa using h1) h2)
    · exact pvOf_rd h m
theorem look_run {t k e : TypeId} {x i : Operand} {x' i' : Opd} {kt : KT} {z : PV} {ok : Bool} (hx : opd x = some x') (hi : opd i = some i') (hu : P.underlying t = some (.map k e)) (hk : ckT P 20 k = some kt) (hz : zeroPV P e = some z)
    (ho : o.op = .lookup t x i ok) (h : opWpX (.look kt z ok x' i') d K σ) (hS : Sat N w0 m0 pl σ ρ m act w) : ResP (Stay σ ρ m w) P σ ρ m o act w K := by
  simp only [opWpX] at h
  have h1 := hS.opd hx
  have h2 := hS.opd hi
  split at h
  · rename_i key ei
    obtain ⟨hok, h⟩ := h
    rw [ei] at h2
    obtain ⟨v2, c2⟩ := kt_val hok h2.pv_inv
    split at h
    · rename_i s ex
      rw [ex] at h1
      split at h
      · rename_i es hb
        obtain ⟨hks, hK⟩ := h
        obtain ⟨hr, ents, clock, g1, g2, g3⟩ := hS.bx s _ hb
        have hE : EntR kt ents.toList es := EntR.of (m := m) (by simpa using g2) (fun i e p k1 k2 => g3 i e p (by simpa using k1) k2) hks
        obtain ⟨zv, _, hzr⟩ := zeroPV_run hz w m
        have hz' : ∀ w', (zeroValue e).run P w' = .ok zv w' := fun w' => by
          obtain ⟨v', q1, _⟩ := zeroPV_run hz w' m
          obtain ⟨v'', q2, _⟩ := zeroPV_run hz w m
          unfold zeroPV at hz
          cases hv : zeroT P e with
          | none => simp [hv] at hz
          | some zz =>
            have a1 := run_zero hv w
            have a2 := run_zero hv w'
            rw [‹(zeroValue e).run P w = .ok zv w›] at a1
            cases a1
            exact a2
        have kr : ∀ w', Stay σ ρ m w w' → (execOp act.eval o).run P w' = .ok (.value (let r := (idxK key es).bind fun j => (ents.toList[j]?).map fun e => (j, e.val); let p : Value × Bool := match r with
            | some (_, v) => (v, true)
            | none => (zv, false); if ok = true then .tuple #[p.1, .bool p.2] else p.1)) w' := by
          intro w' hst
          have hb' : w'.heap[(ρ s).b]? = some (.map ents clock) := (hst.2 s _ hb hr).trans g1
          unfold execOp
          simp only [ho, v2, h1.mp_inv, Sem.run_bind, Instr.lookup, run_underlying hu, Result.andThen_ok, MapKept.run_getObj_map hb', Sem.run_pure, run_checkK _ 20 k kt hk 10000 (by omega) _ c2 w', run_keyK hk c2 w' hE]
          cases (idxK key es).bind fun j => (ents.toList[j]?).map fun e => (j, e.val) with
          | none => cases ok <;> simp [hz' w']
          | some q => cases ok <;> simp
        refine ⟨_, lookA ok (findV key es) z, kr, ?_, hK⟩
        rw [findV_idx]
        cases hix : idxK key es with
        | none =>
          simp only [Option.bind_none]
          cases ok with
          | true => exact .pv _ _ (.tup _ _ rfl (fun j dd c e1 e2 => by
              match j with
              | 0 => simp at e1 e2; subst e1 e2; exact hzr
              | 1 => simp at e1 e2; subst e1 e2; exact .bool _
              | j + 2 => simp at e2))
          | false => exact .pv _ _ hzr
        | some j =>
          obtain ⟨p, hp, _⟩ := idxK_lt hix
          obtain ⟨en, he, _⟩ := hE.get hp
          have hv := (g3 j en p (by simpa using he) hp).2
          simp only [Option.bind_some, he, hp, Option.map_some]
          cases ok with
          | true => exact .pv _ _ (.tup _ _ rfl (fun j dd c e1 e2 => by
              match j with
              | 0 => simp at e1 e2; subst e1 e2; exact hv
              | 1 => simp at e1 e2; subst e1 e2; exact .bool _
              | j + 2 => simp at e2))
          | false => exact .pv _ _ hv
      · exact h.elim
    · rename_i ex
      rw [ex] at h1
      obtain ⟨zv, hz0, hzr⟩ := zeroPV_run hz w m
      have kr : ∀ w', (execOp act.eval o).run P w' = .ok (.value (if ok = true then .tuple #[zv, .bool false] else zv)) w' := by
        intro w'
        have a2 : (zeroValue e).run P w' = .ok zv w' := by
          unfold zeroPV at hz
          cases hv : zeroT P e with
          | none => simp [hv] at hz
          | some zz =>
            have a1 := run_zero hv w
            rw [hz0] at a1
            cases a1
            exact run_zero hv w'
        have hn : ∀ w', (Instr.findKey k (toK kt.wide key.cells) []).run P w' = .ok none w' := fun w' => by
          have := run_keyK (ents := []) (es := []) hk c2 w' trivial
          simpa [idxK] using this
        unfold execOp
        simp only [ho, v2, h1.nilmap_inv, Sem.run_bind, Instr.lookup, run_underlying hu, Result.andThen_ok, Sem.run_pure, run_checkK _ 20 k kt hk 10000 (by omega) _ c2 w', hn w']
        cases ok <;> simp [a2]
      refine ⟨_, lookA ok none z, fun w' _ => kr w', ?_, h⟩
      cases ok with
      | true => exact .pv _ _ (.tup _ _ rfl (fun j dd c e1 e2 => by
          match j with
          | 0 => simp at e1 e2; subst e1 e2; exact hzr
          | 1 => simp at e1 e2; subst e1 e2; exact .bool _
          | j + 2 => simp at e2))
      | false => exact .pv _ _ hzr
    · exact h.elim
  · exact h.elim
/-- What a stored entry leaves. -/
theorem upd_run {t k e : TypeId} {x i v : Operand} {x' i' v' : Opd} {kt : KT} (hx : opd x = some x') (hi : opd i = some i') (hv : opd v = some v') (hu : P.underlying t = some (.map k e)) (hk : ckT P 20 k = some kt)
    (ho : o.op = .mapUpdate t x i v ∨ o.op = .insert t x i v) (h : opWpX (.upd kt x' i' v') d K σ) (hS : Sat N w0 m0 pl σ ρ m act w) : Res P N w0 m0 pl o act w K := by
  simp only [opWpX] at h
  have h1 := hS.opd hx
  have h2 := hS.opd hi
  split at h
  · rename_i key ei
    obtain ⟨hok, h⟩ := h
    rw [ei] at h2
    obtain ⟨v2, c2⟩ := kt_val hok h2.pv_inv
    split at h
    · rename_i s ex
      rw [ex] at h1
      obtain ⟨m1, hm1, hF⟩ := hS.frzA (σ.o v')
      generalize hτ : σ.frzA (σ.o v') = τ at h hF
      split at h
      · rename_i es val hb hvv
        obtain ⟨hks, hK⟩ := h
        have h3 := hF.opd hv
        rw [hvv] at h3
        have hvr := h3.pv_inv
        have hkr : RdP m1 (act.eval i) key := h2.pv_inv.mono hm1
        obtain ⟨hr, ents, clock, g1, g2, g3⟩ := hF.bx s _ hb
        have hE : EntR kt ents.toList es := EntR.of (m := m1) (by simpa using g2) (fun i e p k1 k2 => g3 i e p (by simpa using k1) k2) hks
        have fin : ∀ ents' clock', (Instr.mapUpdate t (.map (some (ρ s).b)) (act.eval i) (act.eval v)).run P w = .ok () (w.putObj (ρ s).b (.map ents' clock')) → ents'.size = (putK key val es).length →
            (∀ (j : Nat) (e : MapEntry) (p : PV × PV), ents'[j]? = some e → (putK key val es)[j]? = some p → RdP m1 e.key p.1 ∧ RdP m1 e.val p.2) → Res P N w0 m0 pl o act w K := by
          intro ents' clock' hrun e1 e2
          have hr' : (execOp act.eval o).run P w = .ok .skip (w.putObj (ρ s).b (.map ents' clock')) := by
            unfold execOp
            rcases ho with ho | ho <;> simp only [ho, h1.mp_inv, Sem.run_bind, hrun, Result.andThen_ok, Sem.run_pure]
          refine ⟨undef, _, .any, _, ρ, m1, .inr ⟨hr', rfl⟩, hK, hF.setbox hb hr (putObj_keep' w _ _) ⟨hr, ents', clock', World.putObj_heap_same (Array.getElem?_eq_some_iff.1 g1).1, e1, e2⟩, .any _, fun hm => ?_⟩
          rcases ho with ho | ho <;> (rw [ho] at hm; cases hm)
        rw [putK_idx] at fin
        have hfind := run_keyK hk c2 w hE
        cases hix : idxK key es with
        | none =>
          rw [hix] at fin hfind
          simp only [Option.bind_none] at hfind
          refine fin (ents.push { key := act.eval i, val := act.eval v, born := clock }) (clock + 1) ?_ (by simp [g2]) (fun j en p k1 k2 => ?_)
          · simp only [Instr.mapUpdate, Sem.run_bind, run_underlying hu, Result.andThen_ok, MapKept.run_getObj_map g1, v2, run_checkK _ 20 k kt hk 10000 (by omega) _ c2 w, hfind, MapKept.run_setObj_map _ g1]
            rfl
          · rw [Array.getElem?_push] at k1
            dsimp only at k2
            rw [List.getElem?_append] at k2
            split at k1
            · rename_i hj
              cases k1
              rw [if_neg (by omega)] at k2
              have : p = (key, val) := by
                rw [hj, g2, Nat.sub_self] at k2
                simpa using k2.symm
              subst this
              exact ⟨hkr, hvr⟩
            · have hj := (Array.getElem?_eq_some_iff.1 k1).1
              rw [if_pos (by omega)] at k2
              exact g3 j en p k1 k2
        | some j0 =>
          rw [hix] at fin hfind
          obtain ⟨p0, hp0, hpe⟩ := idxK_lt hix
          obtain ⟨en0, he0, hk0, hck0⟩ := hE.get hp0
          have he0' : ents[j0]? = some en0 := by simpa using he0
          simp only [Option.bind_some, he0, Option.map_some] at hfind
          have hsame : en0.key = act.eval i := by
            rw [hk0, v2]
            rw [eqL_eq c2 hck0 hpe]
          have hst := run_staysK (P := P) hok w
          refine fin (ents.modify j0 fun e => { e with key := act.eval i, val := act.eval v }) clock ?_ (by simp [g2]) (fun j en p k1 k2 => ?_)
          · rw [← v2] at hst hfind
            have hck := run_checkK (P := P) false 20 k kt hk 10000 (by omega) _ c2 w
            rw [← v2] at hck
            simp only [Instr.mapUpdate, Sem.run_bind, run_underlying hu, Result.andThen_ok, MapKept.run_getObj_map g1, hck, hfind, he0', Option.map_some, Option.getD_some, hsame, hst, MapKept.run_setObj_map _ g1]
            rfl
          · rw [Array.getElem?_modify] at k1
            dsimp only at k2
            split at k1
            · rename_i hj
              subst hj
              rw [he0', Option.map_some] at k1
              cases k1
              have hlt := (List.getElem?_eq_some_iff.1 hp0).1
              rw [List.getElem?_set_self hlt] at k2
              cases k2
              exact ⟨hkr, hvr⟩
            · rename_i hj
              rw [List.getElem?_set_ne hj] at k2
              exact g3 j en p k1 k2
      · exact h.elim
    · exact h.elim
  · exact h.elim
theorem mlen_run {t k e : TypeId} {c : Call} {x : Operand} {x' : Opd} (hx : opd x = some x') (hu : P.underlying t = some (.map k e)) (hc : c.callee = .builtin .len) (ha : c.args.toList = [x]) (ht : c.argTypes.toList = [t]) (ho : o.op = .call c)
    (h : opWpX (.mlen x') d K σ) (hS : Sat N w0 m0 pl σ ρ m act w) : ResP (Stay σ ρ m w) P σ ρ m o act w K := by
  simp only [opWpX] at h
  have h1 := hS.opd hx
  have hargs : c.args = #[x] := Array.toList_inj.1 (by simpa using ha)
  have htys : c.argTypes = #[t] := Array.toList_inj.1 (by simpa using ht)
  have ex : ∀ {w' : World} {v : Value}, (Builtin.len_ #[t] o.type #[act.eval x]).run P w' = .ok v w' → (execOp act.eval o).run P w' = .ok (.value v) w' := fun h => by
    unfold execOp
    simp only [ho]
    simp [resolve, hc, hargs, htys, invoke, builtin, h]
  split at h
  · rename_i s es0
    rw [es0] at h1
    split at h
    · rename_i es hb
      obtain ⟨hr, ents, clock, g1, g2, g3⟩ := hS.bx s _ hb
      refine ⟨.int .i64 es.length, _, fun w' hst => ex ?_, .pv _ _ (.int _ _), h⟩
      have hb' : w'.heap[(ρ s).b]? = some (.map ents clock) := (hst.2 s _ hb hr).trans g1
      simp [Builtin.len_, run_underlying hu, h1.mp_inv, MapKept.run_getObj_map hb', goInt, g2]
    · exact h.elim
  · rename_i es0
    rw [es0] at h1
    refine ⟨.int .i64 0, _, fun w' _ => ex ?_, .pv _ _ (.int _ _), h⟩
    simp [Builtin.len_, run_underlying hu, h1.nilmap_inv, goInt]
  · exact h.elim
theorem Flat.take {m : Mem} {ds : List Value} {n : Nat} {xs : List PV} (h : Flat m ds n xs) (k : Nat) : Flat m (ds.take (k * n)) n (xs.take k) := by
  refine ⟨?_, fun u hu => h.one u (List.mem_of_mem_take hu), fun i x hi => ?_⟩
  · rw [List.length_take, List.length_take, h.len]
    rcases Nat.le_total k xs.length with h1 | h1
    · rw [Nat.min_eq_left (Nat.mul_le_mul_right _ h1), Nat.min_eq_left h1]
    · rw [Nat.min_eq_right (Nat.mul_le_mul_right _ h1), Nat.min_eq_right h1]
  · rw [List.getElem?_take] at hi
    split at hi
    · rename_i hik
      obtain ⟨k1, k2⟩ := h.get i x hi
      refine ⟨k1, fun j c hj => ?_⟩
      obtain ⟨u, q1, q2⟩ := k2 j c hj
      have hjn : j < n := by have := (List.getElem?_eq_some_iff.1 hj).1; omega
      have := mul_lt_of (n := n) hik
      exact ⟨u, by rw [List.getElem?_take, if_pos (by omega)]; exact q1, q2⟩
    · cases hi
/-- Elements of an array box are overwritten. -/
theorem Sat.over (hS : Sat N w0 m0 pl σ ρ m act w) {s : Site} {e n lo : Nat} {xs zs : List PV} {ds : List Value} (hb : σ.b s = some (.arr e n xs)) (hr : (ρ s).real = true) {cs : Array Value} (g1 : w.heap[(ρ s).b]? = some (.cells cs e (0, 0))) (hf : Flat m ds n zs) (hl : lo + zs.length ≤ xs.length) :
    (ρ s).o + lo * n + ds.length ≤ cs.size ∧ Sat N w0 m0 pl (σ.set s (.arr e n (splice xs lo zs))) ρ m act (w.setRow (ρ s).b (splice cs.toList ((ρ s).o + lo * n) ds).toArray) := by
  obtain ⟨hn, hB | ⟨_, cs', g1', g2, g3, g4, g5⟩⟩ := hS.bx s _ hb
  · rw [hB.1] at hr; cases hr
  rw [g1] at g1'; cases g1'
  have hcl : cs.toList.length = cs.size := Array.length_toList
  have hfit : (ρ s).o + lo * n + ds.length ≤ cs.size := by
    have h1 : (lo + zs.length) * n ≤ (ρ s).cap * n := Nat.mul_le_mul_right _ (by omega)
    rw [Nat.add_mul] at h1
    rw [hf.len]; omega
  refine ⟨hfit, hS.setbox hb hr (Keep.setRow w _ _) ⟨hn, .inr ⟨hr, _, setRow_heap w _ cs _ e _ g1, ?_, ?_, g4, fun i x hi => ?_⟩⟩⟩
  · rw [List.size_toArray, splice_len (by rw [hcl]; exact hfit), hcl]; exact g2
  · rw [splice_len hl]; exact g3
  · rw [splice_get hl] at hi
    have old : ∀ (i : Nat) (x : PV), xs[i]? = some x → (i < lo ∨ lo + zs.length ≤ i) → x.cells.length = n ∧ ∀ (j : Nat) (c : PV), x.cells[j]? = some c → ∃ d, (splice cs.toList ((ρ s).o + lo * n) ds).toArray[(ρ s).o + i * n + j]? = some d ∧ d.oneCell' = true ∧ RdP m d c := by
      intro i x hx hi
      obtain ⟨k1, k2⟩ := g5 i x hx
      refine ⟨k1, fun j c hj => ?_⟩
      obtain ⟨d, q1, q2, q3⟩ := k2 j c hj
      refine ⟨d, ?_, q2, q3⟩
      have hjn : j < n := by have := (List.getElem?_eq_some_iff.1 hj).1; omega
      rw [List.getElem?_toArray, splice_get (by rw [hcl]; exact hfit)]
      rcases hi with hi | hi
      · have := mul_lt_of (n := n) hi
        rw [if_pos (by omega), Array.getElem?_toList]; exact q1
      · have h1 : (lo + zs.length) * n ≤ i * n := Nat.mul_le_mul_right _ hi
        rw [Nat.add_mul] at h1
        rw [if_neg (by omega), if_neg (by rw [hf.len]; omega), Array.getElem?_toList]; exact q1
    split at hi
    · rename_i h1; exact old i x hi (.inl h1)
    · split at hi
      · rename_i h1 h2
        obtain ⟨k1, k2⟩ := hf.get (i - lo) x hi
        refine ⟨k1, fun j c hj => ?_⟩
        obtain ⟨u, q1, q2⟩ := k2 j c hj
        have hlt := (List.getElem?_eq_some_iff.1 q1).1
        have e1 : i * n = lo * n + (i - lo) * n := by rw [← Nat.add_mul]; congr 1; omega
        refine ⟨u, ?_, hf.one u (List.mem_of_getElem? q1), q2⟩
        rw [List.getElem?_toArray, splice_get (by rw [hcl]; exact hfit), if_neg (by omega), if_pos (by omega), ← q1]
        congr 1; omega
      · rename_i h1 h2; exact old i x hi (.inr (by omega))
theorem over_run {e : TypeId} (g : Nat) (q : Nat) {cs : Array Value} {ds : List Value} (g1 : w.heap[g]? = some (.cells cs e (0, 0))) (hfit : q + ds.length ≤ cs.size) (h1 : ∀ u ∈ ds, u.oneCell' = true) :
    (storeCells ⟨g, q, none⟩ ds).run P w = .ok () (w.setRow g (splice cs.toList q ds).toArray) := by
  have hst := run_storeCells_at P g q e ds 0 cs w g1 (by simpa using hfit) h1
  unfold splice
  simpa only [Nat.add_zero] using hst
theorem splice_nil {α : Type} (l : List α) (k : Nat) : splice l k [] = l := by simp [splice]
theorem Sat.same (hS : Sat N w0 m0 pl σ ρ m act w) {s : Site} {b : Box} (hb : σ.b s = some b) : Sat N w0 m0 pl (σ.set s b) ρ m act w := by
  have hb' : ∀ s' b', (σ.set s b).b s' = some b' → σ.b s' = some b' := fun s' b' k => by
    rw [AS.b_set] at k
    split at k
    · rename_i e; rw [e, hb]; exact k
    · exact k
  exact ⟨hS.nod, hS.sz, hS.tm, fun s' b' k => hS.bx s' b' (hb' s' b' k), fun s1 s2 b1 b2 i k1 k2 => hS.injk s1 s2 b1 b2 i (hb' _ _ k1) (hb' _ _ k2), hS.mem, fun s' b' i k => hS.offk s' b' i (hb' _ _ k), fun s' b' i k => hS.ownk s' b' i (hb' _ _ k), hS.keep, hS.base, hS.fro, hS.par⟩
theorem copy_run {t u e n : TypeId} {c : Call} {x y : Operand} {x' y' : Opd} (hx : opd x = some x') (hy : opd y = some y') (he : elemT P t = some (e, n, none)) (hn : 0 < n) (hc : c.callee = .builtin .copy) (ha : c.args.toList = [x, y]) (ht : c.argTypes.toList = [t, u]) (ho : o.op = .call c)
    (h : opWpX (.copy n x' y') d K σ) (hS : Sat N w0 m0 pl σ ρ m act w) : Res P N w0 m0 pl o act w K := by
  simp only [opWpX] at h
  obtain ⟨hu, hs⟩ := elemT_slice he
  have h1 := hS.opd hx
  have hargs : c.args = #[x, y] := Array.toList_inj.1 (by simpa using ha)
  have htys : c.argTypes = #[t, u] := Array.toList_inj.1 (by simpa using ht)
  have ex : ∀ {w' : World} {v : Value}, (Builtin.copy_ #[t, u] o.type #[act.eval x, act.eval y]).run P w = .ok v w' → (execOp act.eval o).run P w = .ok (.value v) w' := fun h => by
    unfold execOp
    simp only [ho]
    simp [resolve, hc, hargs, htys, invoke, builtin, h]
  have hm : o.op.mild = true → False := fun hm => by rw [ho] at hm; cases hm
  split at h
  · rename_i ys hys
    obtain ⟨ya, yc, yd, hyv, hyf, hyc⟩ := cont_rd hn hS (hS.opd hy) hys
    have first : ∀ k, (Builtin.firstCells n (ys.take k).length (.slice ya ys.length yc)).run P w = .ok (yd.take (k * n)).toArray w := fun k =>
      first_run (hyf.take k) (fun j u hj => hyc j u (by rw [List.getElem?_take] at hj; split at hj; exact hj; cases hj)) w (fun _ => rfl) _ rfl ys.length yc
    split at h
    · rename_i nl e1
      rw [e1] at h1
      obtain ⟨a, hv, hsp⟩ := h1.emp_inv
      refine ⟨_, w, _, σ, ρ, m, .inl (ex (v := .int .i64 0) (w' := w) ?_), h, hS, .pv _ _ (.int _ _), fun q => (hm q).elim⟩
      have f0 := first 0
      simp only [List.take_zero, List.length_nil, Nat.zero_mul] at f0
      cases a <;> simp [Builtin.copy_, run_underlying hu, hv, hyv, Builtin.lenOf, Go.Proofs.Ytohhjnpiiackjaa.run_sizeOf hs, f0, storeCells, goInt]
    · rename_i s n' lo len e1
      rw [e1] at h1
      split at h
      · rename_i e' n'' xs hb
        obtain ⟨⟨rfl, rfl, hl⟩, hK⟩ := h
        have hmin : (ys.take len).length = min ys.length len := by rw [List.length_take]; omega
        rcases h1.vec_inv with ⟨cap, hv, c0, c1, c2⟩ | ⟨a, hv, c0, hsp⟩
        · obtain ⟨hn0, hB | ⟨hr, cs, g1, g2, g3, g4, g5⟩⟩ := hS.bx s _ hb
          · rw [hB.1] at c2; cases c2
          obtain ⟨hfit, hS2⟩ := hS.over hb hr g1 (hyf.take len) (lo := lo) (by rw [List.length_take]; omega)
          refine ⟨_, _, _, _, ρ, m, .inl (ex (v := .int .i64 (ys.take len).length) ?_), hK, hS2, .pv _ _ (.int _ _), fun q => (hm q).elim⟩
          have f0 := first len
          rw [hmin] at f0 ⊢
          have hst := over_run (P := P) (w := w) (ρ s).b ((ρ s).o + lo * n'') g1 hfit (hyf.take len).one
          simp [Builtin.copy_, run_underlying hu, hv, hyv, Builtin.lenOf, Go.Proofs.Ytohhjnpiiackjaa.run_sizeOf hs, f0, hst, goInt]
        · subst c0
          simp only [List.take_zero, splice_nil] at hK
          refine ⟨_, w, _, _, ρ, m, .inl (ex (v := .int .i64 ([] : List PV).length) (w' := w) ?_), hK, hS.same hb, .pv _ _ (.int _ _), fun q => (hm q).elim⟩
          have f0 := first 0
          simp only [List.take_zero, List.length_nil, Nat.zero_mul] at f0
          cases a <;> simp [Builtin.copy_, run_underlying hu, hv, hyv, Builtin.lenOf, Go.Proofs.Ytohhjnpiiackjaa.run_sizeOf hs, f0, storeCells, goInt]
      · exact h.elim
    · exact h.elim
  · exact h.elim
theorem clear_run {t e n : TypeId} {z : PV} {c : Call} {x : Operand} {x' : Opd} (hx : opd x = some x') (he : elemT P t = some (e, n, none)) (hz : zeroPV P e = some z) (hn : 0 < n) (hzl : z.cells.length = n) (hc : c.callee = .builtin .clear) (ha : c.args.toList = [x]) (ht : c.argTypes.toList = [t]) (ho : o.op = .call c)
    (h : opWpX (.clear n z x') d K σ) (hS : Sat N w0 m0 pl σ ρ m act w) : Res P N w0 m0 pl o act w K := by
  simp only [opWpX] at h
  obtain ⟨hu, hs⟩ := elemT_slice he
  have h1 := hS.opd hx
  have hargs : c.args = #[x] := Array.toList_inj.1 (by simpa using ha)
  have htys : c.argTypes = #[t] := Array.toList_inj.1 (by simpa using ht)
  have ex : ∀ {w' : World} {v : Value}, (Builtin.clear_ #[t] o.type #[act.eval x]).run P w = .ok v w' → (execOp act.eval o).run P w = .ok (.value v) w' := fun h => by
    unfold execOp
    simp only [ho]
    simp [resolve, hc, hargs, htys, invoke, builtin, h]
  have hm : o.op.mild = true → False := fun hm => by rw [ho] at hm; cases hm
  have hunit : RdA ρ m (.tuple #[]) (.pv (.tup [])) := .pv _ _ (.tup _ _ rfl (fun j d c e1 => by simp at e1))
  unfold zeroPV at hz
  cases hv0 : zeroT P e with
  | none => simp [hv0] at hz
  | some zv =>
  simp only [hv0, Option.bind_some] at hz
  obtain ⟨z1, z2, z3⟩ := pvz_cells hz m
  have hzs : zv.cells.size = n := by omega
  have hzrun := run_zero hv0 w
  split at h
  · rename_i nl e1
    rw [e1] at h1
    obtain ⟨a, hv, hsp⟩ := h1.emp_inv
    refine ⟨_, w, _, σ, ρ, m, .inl (ex (v := .tuple #[]) (w' := w) ?_), h, hS, hunit, fun q => (hm q).elim⟩
    cases a <;> simp [Builtin.clear_, run_underlying hu, hv]
  · rename_i s n' lo len e1
    rw [e1] at h1
    split at h
    · rename_i e' n'' xs hb
      obtain ⟨⟨rfl, rfl, hl⟩, hK⟩ := h
      rcases h1.vec_inv with ⟨cap, hv, c0, c1, c2⟩ | ⟨a, hv, c0, hsp⟩
      · by_cases hlen : len = 0
        · subst hlen
          simp only [List.replicate_zero, splice_nil] at hK
          refine ⟨_, w, _, _, ρ, m, .inl (ex (v := .tuple #[]) (w' := w) ?_), hK, hS.same hb, hunit, fun q => (hm q).elim⟩
          simp [Builtin.clear_, run_underlying hu, hv]
        · obtain ⟨hn0, hB | ⟨hr, cs, g1, g2, g3, g4, g5⟩⟩ := hS.bx s _ hb
          · rw [hB.1] at c2; cases c2
          have hbang : ∀ j, j < n'' → ∃ hj : j < zv.cells.size, zv.cells[j]! = zv.cells[j] := fun j hj => ⟨by omega, getElem!_pos zv.cells j (by omega)⟩
          have hget : ∀ k, k < len * n'' → (Builtin.zeroCells zv.cells len).toList[k]? = some (zv.cells[k % n'']!) := fun k hk => by
            rw [Array.getElem?_toList]
            simp only [Builtin.zeroCells, Array.getElem?_map, Array.getElem?_range, hzs]
            rw [if_pos hk]; rfl
          have hflat : Flat m (Builtin.zeroCells zv.cells len).toList n'' (List.replicate len z) := by
            refine ⟨by rw [Array.length_toList, zeroCells_size, hzs, List.length_replicate], fun u hu => ?_, fun i x hi => ?_⟩
            · obtain ⟨k, hk⟩ := List.mem_iff_getElem?.1 hu
              have hlt : k < len * n'' := by
                have := (List.getElem?_eq_some_iff.1 hk).1
                rw [Array.length_toList, zeroCells_size, hzs] at this
                exact this
              rw [hget k hlt] at hk
              cases hk
              obtain ⟨hj, e1⟩ := hbang (k % n'') (Nat.mod_lt _ hn)
              rw [e1]; exact z2 _ (Array.getElem_mem hj)
            · rw [List.getElem?_replicate] at hi
              split at hi
              · rename_i hia
                cases hi
                refine ⟨hzl, fun j c hj => ?_⟩
                have hjn : j < n'' := by have := (List.getElem?_eq_some_iff.1 hj).1; omega
                obtain ⟨hj', e1⟩ := hbang j hjn
                have hmod : (i * n'' + j) % n'' = j := by rw [Nat.add_comm, Nat.add_mul_mod_self_right, Nat.mod_eq_of_lt hjn]
                have := mul_lt_of (n := n'') hia
                exact ⟨zv.cells[j], by rw [hget _ (by omega), hmod, e1], z3 j _ c (Array.getElem?_eq_getElem hj') hj⟩
              · cases hi
          obtain ⟨hfit, hS2⟩ := hS.over hb hr g1 hflat (lo := lo) (by rw [List.length_replicate]; exact hl)
          refine ⟨_, _, _, _, ρ, m, .inl (ex (v := .tuple #[]) ?_), hK, hS2, hunit, fun q => (hm q).elim⟩
          have hst := over_run (P := P) (w := w) (ρ s).b ((ρ s).o + lo * n'') g1 hfit hflat.one
          obtain ⟨len', rfl⟩ : ∃ k, len = k + 1 := ⟨len - 1, by omega⟩
          simp [Builtin.clear_, run_underlying hu, hv, hzrun, hst]
      · subst c0
        simp only [List.replicate_zero, splice_nil] at hK
        refine ⟨_, w, _, _, ρ, m, .inl (ex (v := .tuple #[]) (w' := w) ?_), hK, hS.same hb, hunit, fun q => (hm q).elim⟩
        cases a <;> simp [Builtin.clear_, run_underlying hu, hv]
    · exact h.elim
  · exact h.elim
/-- An array's cells, cut to their first ones. -/
theorem sla_core {n : Nat} {x : Operand} {x' hi' : Opd} (hx : opd x = some x') (hn : 0 < n ∧ n ≤ 1000000)
    (run : ∀ (A : Addr) (z : Int) (k : IntKind), act.eval x = .pointer (some A) → σ.o hi' = .pv (.int k z) → 0 ≤ z → z ≤ n → (execOp act.eval o).run P w = .ok (.value (.slice (some A) z.toNat n)) w)
    (h : opWpX (.sla n x' hi') d K σ) (hS : Sat N w0 m0 pl σ ρ m act w) : Res P N w0 m0 pl o act w K := by
  simp only [opWpX] at h
  have h1 := hS.opd hx
  split at h
  · rename_i k z hz
    split at h
    · rename_i s off ex
      rw [ex] at h1
      have hv := h1.ptr_inv
      split at h
      · rename_i as' hb
        split at h
        · rename_i xs hxs
          obtain ⟨⟨z0, z1, z2⟩, hK⟩ := h
          obtain ⟨_, hS2, hm, hm2⟩ := hS.frzC1 hb hxs
          obtain ⟨ds, g1, g2, g3⟩ := cells_ref (hS.bx s _ hb) hxs hm hm2
          have hlen : ((xs.drop off).take z.toNat).length = z.toNat := by rw [List.length_take, List.length_drop]; omega
          have get : ∀ (i : Nat) (y : PV), ((xs.drop off).take z.toNat)[i]? = some y → xs[off + i]? = some y := fun i y hy => by
            rw [List.getElem?_take] at hy
            split at hy
            · rwa [List.getElem?_drop] at hy
            · cases hy
          refine ⟨_, w, _, _, ρ, _, .inl (run _ z k hv hz z0 z1), hK, hS2, .pv _ _ ?_, fun _ => Ext.rfl' _⟩
          have hh := RdP.lst (m := m.with w (ρ s)) (some ⟨(ρ s).b, off, none⟩) n false 1 ((xs.drop off).take z.toNat) (fun i => match ds[off + i]? with | some d => [d] | none => []) (by omega) (by omega) (fun e => by cases e) (fun A hA => by cases hA; rfl) (fun e => by cases e)
            (fun i y hy => ?_) (fun i y hy => ?_) (fun i y j d c hy hd hc => ?_)
          · rw [hlen] at hh; exact hh
          · have hy' := get i y hy
            have hlt : off + i < ds.length := by rw [g1]; exact (List.getElem?_eq_some_iff.1 hy').1
            have hd := List.getElem?_eq_getElem hlt
            refine ⟨_, _, rfl, ?_⟩
            rw [hd]
            have := g2.get _ _ hd
            rw [Nat.zero_add] at this
            rw [Nat.mul_one]
            exact ⟨this, trivial⟩
          · have hy' := get i y hy
            have hlt : off + i < ds.length := by rw [g1]; exact (List.getElem?_eq_some_iff.1 hy').1
            have hd := List.getElem?_eq_getElem hlt
            rw [hd]
            obtain ⟨q1, q2⟩ := g3 _ _ _ hd hy'
            refine ⟨rfl, by rw [q2.cells1 q1]; rfl, fun u hu => by simp at hu; subst hu; exact q1⟩
          · have hy' := get i y hy
            have hlt : off + i < ds.length := by rw [g1]; exact (List.getElem?_eq_some_iff.1 hy').1
            have hdd := List.getElem?_eq_getElem hlt
            rw [hdd] at hd
            obtain ⟨q1, q2⟩ := g3 _ _ _ hdd hy'
            rw [q2.cells1 q1] at hc
            cases j with
            | zero => simp at hd hc; subst hd hc; exact q2
            | succ j => simp at hd
        · exact h.elim
      · exact h.elim
    · rename_i xs ex
      rw [ex] at h1
      obtain ⟨⟨z0, z1, z2⟩, hK⟩ := h
      obtain ⟨b, off, ds, hv, g1, g2, g3, g4⟩ := h1.ref_inv
      have hlen : (xs.take z.toNat).length = z.toNat := by rw [List.length_take]; omega
      have get : ∀ (i : Nat) (y : PV), (xs.take z.toNat)[i]? = some y → xs[i]? = some y := fun i y hy => by
        rw [List.getElem?_take] at hy
        split at hy
        · exact hy
        · cases hy
      refine ⟨_, w, _, _, ρ, m, .inl (run _ z k hv hz z0 z1), hK, hS, .pv _ _ ?_, fun _ => Ext.rfl' _⟩
      have hh := RdP.lst (m := m) (some ⟨b, off, none⟩) n false 1 (xs.take z.toNat) (fun i => match ds[i]? with | some d => [d] | none => []) (by omega) (by omega) (fun e => by cases e) (fun A hA => by cases hA; rfl) (fun e => by cases e)
        (fun i y hy => ?_) (fun i y hy => ?_) (fun i y j d c hy hd hc => ?_)
      · rw [hlen] at hh; exact hh
      · have hy' := get i y hy
        have hlt : i < ds.length := by rw [g2]; exact (List.getElem?_eq_some_iff.1 hy').1
        have hd := List.getElem?_eq_getElem hlt
        refine ⟨_, _, rfl, ?_⟩
        rw [hd, Nat.mul_one]
        exact ⟨g1.get _ _ hd, trivial⟩
      · have hy' := get i y hy
        have hlt : i < ds.length := by rw [g2]; exact (List.getElem?_eq_some_iff.1 hy').1
        have hd := List.getElem?_eq_getElem hlt
        rw [hd]
        have q1 := g3 _ (List.getElem_mem hlt)
        have q2 := g4 _ _ _ hd hy'
        refine ⟨rfl, by rw [q2.cells1 q1]; rfl, fun u hu => by simp at hu; subst hu; exact q1⟩
      · have hy' := get i y hy
        have hlt : i < ds.length := by rw [g2]; exact (List.getElem?_eq_some_iff.1 hy').1
        have hdd := List.getElem?_eq_getElem hlt
        rw [hdd] at hd
        have q1 := g3 _ (List.getElem_mem hlt)
        have q2 := g4 _ _ _ hdd hy'
        rw [q2.cells1 q1] at hc
        cases j with
        | zero => simp at hd hc; subst hd hc; exact q2
        | succ j => simp at hd
    · exact h.elim
  · exact h.elim
theorem sla_run {t e : TypeId} {n : Nat} {x hi : Operand} {x' hi' : Opd} (hx : opd x = some x') (hh : opd hi = some hi') (he : elemT P t = some (e, 1, some n)) (hn : 0 < n ∧ n ≤ 1000000) (ho : o.op = .slice t x none (some hi) none)
    (h : opWpX (.sla n x' hi') d K σ) (hS : Sat N w0 m0 pl σ ρ m act w) : Res P N w0 m0 pl o act w K := by
  obtain ⟨hu, hs⟩ := elemT_arr he
  refine sla_core hx hn (fun A z k ex hz z0 z1 => ?_) h hS
  have h2 := hS.opd hh
  rw [hz] at h2
  have ez := h2.int_inv
  unfold execOp
  simp only [ho, ex, Sem.run_bind]
  have hne : ¬ n = 0 := by omega
  simp [Instr.sliceAt, run_underlying hu, Instr.sliceBounds, run_sizeOf hs, ez, Instr.sliceBound, asIntOf, z0, z1, Instr.sureAddr, Addr.add]
theorem sla_run0 {t e : TypeId} {n : Nat} {x : Operand} {x' : Opd} (hx : opd x = some x') (he : elemT P t = some (e, 1, some n)) (hn : 0 < n ∧ n ≤ 1000000) (ho : o.op = .slice t x none none none)
    (h : opWpX (.sla n x' (.c (.int .i64 n))) d K σ) (hS : Sat N w0 m0 pl σ ρ m act w) : Res P N w0 m0 pl o act w K := by
  obtain ⟨hu, hs⟩ := elemT_arr he
  refine sla_core hx hn (fun A z k ex hz z0 z1 => ?_) h hS
  have hz' : (n : Int) = z := by
    have hz2 : AV.pv (.int .i64 n) = AV.pv (.int k z) := hz
    injection hz2 with hz3
    injection hz3
  subst hz'
  unfold execOp
  simp only [ho, ex, Sem.run_bind]
  have hne : ¬ n = 0 := by omega
  simp [Instr.sliceAt, run_underlying hu, Instr.sliceBounds, run_sizeOf hs, Instr.sureAddr, Addr.add]
theorem packW_get {W : Nat} : ∀ {k : Nat} {xs : List PV} {i : Nat} {y : PV}, (packW W k xs)[i]? = some y → i < k ∧ y = .agg ((xs.drop (i * W)).take W)
  | 0, xs, i, y, h => by simp [packW] at h
  | k + 1, xs, 0, y, h => by
    simp only [packW, List.getElem?_cons_zero, Option.some.injEq] at h
    exact ⟨by omega, by rw [← h, Nat.zero_mul, List.drop_zero]⟩
  | k + 1, xs, i + 1, y, h => by
    simp only [packW, List.getElem?_cons_succ] at h
    obtain ⟨h1, h2⟩ := packW_get h
    refine ⟨by omega, ?_⟩
    rw [h2, List.drop_drop]
    congr 3
    rw [Nat.succ_mul]
    omega
theorem packW_len {W : Nat} : ∀ {k : Nat} {xs : List PV}, (packW W k xs).length = k
  | 0, xs => rfl
  | k + 1, xs => by simp only [packW, List.length_cons, packW_len]
/-- An array's cells, cut to their first ones, and put together. -/
theorem slw_core {n W : Nat} {x : Operand} {x' hi' : Opd} (hx : opd x = some x') (hn : 0 < n ∧ n ≤ 1000000)
    (run : ∀ (A : Addr) (z : Int) (k : IntKind), act.eval x = .pointer (some A) → σ.o hi' = .pv (.int k z) → 0 ≤ z → z ≤ n → (execOp act.eval o).run P w = .ok (.value (.slice (some A) z.toNat n)) w)
    (h : opWpX (.slw n W x' hi') d K σ) (hS : Sat N w0 m0 pl σ ρ m act w) : Res P N w0 m0 pl o act w K := by
  simp only [opWpX] at h
  have h1 := hS.opd hx
  split at h
  · rename_i k z hz
    split at h
    · rename_i s off ex
      rw [ex] at h1
      have hv := h1.ptr_inv
      split at h
      · rename_i as' hb
        split at h
        · rename_i xs hxs
          obtain ⟨⟨z0, z1, z2⟩, hK⟩ := h
          obtain ⟨_, hS2, hm, hm2⟩ := hS.frzC1 hb hxs
          obtain ⟨ds, g1, g2, g3⟩ := cells_ref (hS.bx s _ hb) hxs hm hm2
          have hlen : (packW W z.toNat (xs.drop off)).length = z.toNat := packW_len
          have get : ∀ (i : Nat) (y : PV), (packW W z.toNat (xs.drop off))[i]? = some y → off + i * W + W ≤ xs.length ∧ y = .agg ((xs.drop (off + i * W)).take W) := fun i y hy => by
            obtain ⟨q1, q2⟩ := packW_get hy
            have h3 : i + 1 ≤ n := by omega
            have h4 := Nat.mul_le_mul_right W h3
            rw [Nat.succ_mul] at h4
            exact ⟨by omega, by rw [q2, List.drop_drop]⟩
          refine ⟨_, w, _, _, ρ, _, .inl (run _ z k hv hz z0 z1), hK, hS2, .pv _ _ ?_, fun _ => Ext.rfl' _⟩
          have hh := RdP.lst (m := m.with w (ρ s)) (some ⟨(ρ s).b, off, none⟩) n false W (packW W z.toNat (xs.drop off)) (fun i => (ds.drop (off + i * W)).take W) (by omega) (by omega) (fun e => by cases e) (fun A hA => by cases hA; rfl) (fun e => by cases e)
            (fun i y hy => ?_) (fun i y hy => ?_) (fun i y j d c hy hd hc => ?_)
          · rw [hlen] at hh; exact hh
          · refine ⟨_, _, rfl, At.of_get (fun j u hj => ?_)⟩
            rw [List.getElem?_take] at hj
            split at hj
            · rw [List.getElem?_drop] at hj
              have := g2.get _ _ hj
              rw [Nat.zero_add] at this
              rw [Nat.add_assoc] at this ⊢
              exact this
            · cases hj
          · obtain ⟨q1, rfl⟩ := get i y hy
            refine ⟨by rw [List.length_take, List.length_drop]; omega, ?_, fun u hu => ?_⟩
            · show ((xs.drop (off + i * W)).take W).length = W
              rw [List.length_take, List.length_drop]; omega
            · obtain ⟨j, hj⟩ := List.mem_iff_getElem?.1 hu
              rw [List.getElem?_take] at hj
              split at hj
              · rw [List.getElem?_drop] at hj
                have hlt : off + i * W + j < xs.length := by rw [← g1]; exact (List.getElem?_eq_some_iff.1 hj).1
                exact (g3 _ _ _ hj (List.getElem?_eq_getElem hlt)).1
              · cases hj
          · obtain ⟨q1, rfl⟩ := get i y hy
            rw [List.getElem?_take] at hd
            have hc' : ((xs.drop (off + i * W)).take W)[j]? = some c := hc
            rw [List.getElem?_take] at hc'
            split at hd
            · rw [if_pos (by assumption), List.getElem?_drop] at hc'
              rw [List.getElem?_drop] at hd
              exact (g3 _ _ _ hd hc').2
            · cases hd
        · exact h.elim
      · exact h.elim
    · exact h.elim
  · exact h.elim
theorem slw_run {t e : TypeId} {n W : Nat} {x hi : Operand} {x' hi' : Opd} (hx : opd x = some x') (hh : opd hi = some hi') (he : elemT P t = some (e, W, some n)) (hn : 0 < n ∧ n ≤ 1000000) (ho : o.op = .slice t x none (some hi) none)
    (h : opWpX (.slw n W x' hi') d K σ) (hS : Sat N w0 m0 pl σ ρ m act w) : Res P N w0 m0 pl o act w K := by
  obtain ⟨hu, hs⟩ := elemT_arr he
  refine slw_core hx hn (fun A z k ex hz z0 z1 => ?_) h hS
  have h2 := hS.opd hh
  rw [hz] at h2
  have ez := h2.int_inv
  unfold execOp
  simp only [ho, ex, Sem.run_bind]
  have hne : ¬ n = 0 := by omega
  simp [Instr.sliceAt, run_underlying hu, Instr.sliceBounds, run_sizeOf hs, ez, Instr.sliceBound, asIntOf, z0, z1, Instr.sureAddr, Addr.add]
end
end Go.Proofs.Ytohhjnpiiackjaa
/-! An evaluation of Go's code over plain values: strings, are the model's. Over any program. -/
namespace Go.Proofs.Ytohhjnpiiackjaa
open Go.RowKit
/-- The elements of a struct's second field, if they are bytes. -/
def bytesF (P : Program) (t : TypeId) : Option TypeId := match P.underlying t with
  | some (.struct fs) => match fs[1]? with
    | some fl => match P.underlying fl.type with
      | some (.slice e) => match P.underlying e with
        | some (.int .u8) => some e
        | _ => none
      | _ => none
    | none => none
  | _ => none
/-- The operation on strings that an operation of the model is. -/
def litS (P : Program) : Op → Option XOp
  | .binOp .add t x y _ => match opd x, opd y, P.underlying t with
    | some x, some y, some .string => some (.scat x y)
    | _, _, _ => none
  | .binOp .eql t x y _ => match opd x, opd y, P.underlying t with
    | some x, some (.c .nilif), some (.interface _) => some (.nif false x)
    | _, _, _ => none
  | .binOp .neq t x y _ => match opd x, opd y, P.underlying t with
    | some x, some (.c .nilif), some (.interface _) => some (.nif true x)
    | _, _, _ => none
  | .makeInterface t x => match opd x, P.underlying t with
    | some _, some (.interface _) => none
    | some x, some _ => some (.mif t x)
    | _, _ => none
  | .alloc t => match zeroT P t with
    | some v => match v.cells.toList with
      | [.pointer none, .slice none 0 0] => match bytesF P t with
        | some e => some (.alB t e)
        | none => none
      | _ => none
    | none => none
  | .panic x => match opd x with
    | some x => some (.pan x)
    | none => none
  | .typeAssert x _ t true => match opd x, P.underlying t, zeroPV P t with
    | some _, some (.interface _), _ => none
    | some x, some _, some z => some (.tas t z x)
    | _, _, _ => none
  | .index t x i => match opd x, opd i, P.underlying t with
    | some x, some i, some .string => some (.sidx x i)
    | _, _, _ => none
  | .slice t x lo hi none => match opd x, P.underlying t, oopd lo, oopd hi with
    | some x, some .string, some lo, some hi => some (.ssl x lo hi)
    | _, _, _, _ => none
  | .convert src dst x => match opd x, P.underlying src, P.underlying dst with
    | some x, some (.slice e), some .string => match P.underlying e with
      | some (.int .u8) => some (.sof x)
      | _ => none
    | some x, some .string, some (.slice e) => match P.underlying e with
      | some (.int .u8) => some (.sbyt e x)
      | _ => none
    | _, _, _ => none
  | .call c => match c.callee with
    | .builtin .len => match c.args.toList, c.argTypes.toList with
      | [x], [t] => match opd x, P.underlying t with
        | some y, some .string => some (.slen y)
        | _, _ => none
      | _, _ => none
    | .builtin .append => match c.args.toList, c.argTypes.toList with
      | [x, y], [t, u] => match opd x, opd y, elemT P t, P.underlying u with
        | some x, some y, some (e, n, none), some .string => match zeroPV P e, P.info? e with
          | some z, some i => if n = 1 ∧ z.cells.length = n then some (.aps e n i.bytes x y) else none
          | _, _ => none
        | _, _, _, _ => none
      | _, _ => none
    | _ => none
  | _ => none
theorem oopd_of {x : Option Operand} {x' : Option Opd} (h : oopd x = some x') : (x = none ∧ x' = none) ∨ ∃ a a', x = some a ∧ x' = some a' ∧ opd a = some a' := by
  cases x with
  | none => simp [oopd] at h; exact .inl ⟨rfl, h.symm⟩
  | some a =>
    simp only [oopd, Option.map_eq_some_iff] at h
    obtain ⟨a', h1, h2⟩ := h
    exact .inr ⟨a, a', rfl, h2.symm, h1⟩
theorem bytesN_cons {x : PV} {r : List PV} {ns : List Int} (h : bytesN (x :: r) = some ns) : ∃ n ms, x = .int .u8 n ∧ bytesN r = some ms ∧ ns = n :: ms := by
  unfold bytesN at h
  split at h
  · rename_i e; cases e
  · rename_i n r' e
    cases e
    obtain ⟨ms, h1, h2⟩ := Option.map_eq_some_iff.1 h
    exact ⟨n, ms, rfl, h1, h2.symm⟩
  · cases h
theorem bytesN_val {m : Mem} : ∀ {xs : List PV} {ns : List Int} {vs : List Value}, bytesN xs = some ns → vs.length = xs.length → (∀ (i : Nat) (x : PV) (v : Value), xs[i]? = some x → vs[i]? = some v → RdP m v x) → vs = ns.map (Value.int .u8)
  | [], ns, vs, h, hl, _ => by
    cases h
    exact List.eq_nil_of_length_eq_zero hl
  | x :: r, ns, [], h, hl, _ => by simp at hl
  | x :: r, ns, v :: vs, h, hl, hr => by
    obtain ⟨n, ms, rfl, h1, rfl⟩ := bytesN_cons h
    have h0 := hr 0 _ _ rfl rfl
    have e := bytesN_val (vs := vs) h1 (by simpa using hl) fun i y u k1 k2 => hr (i + 1) y u (by simpa using k1) (by simpa using k2)
    cases h0
    rw [e]; rfl
theorem bytesN_int : ∀ {xs : List PV} {ns : List Int} {y : PV}, bytesN xs = some ns → y ∈ xs → ∃ n, ∃ k, y = .int k n
  | x :: r, ns, y, h, hy => by
    obtain ⟨n, ms, rfl, h1, _⟩ := bytesN_cons h
    rcases List.mem_cons.1 hy with rfl | hy
    · exact ⟨n, .u8, rfl⟩
    · exact bytesN_int h1 hy
theorem push_bytes : ∀ (ns : List Int) (r : ByteArray), ns.foldl (fun r n => r.push (UInt8.ofNat n.toNat)) r = ⟨r.data ++ (ns.map fun n => UInt8.ofNat n.toNat).toArray⟩
  | [], r => by simp
  | n :: ns, r => by
    rw [List.foldl_cons, push_bytes ns]
    simp [ByteArray.push]
section
variable {G : World → Prop} {P : Program} {N : Nat} {w0 : World} {m0 : Env w0} {pl : List Nat} {σ : AS} {ρ : Site → Loc} {m : Mem} {act : Act} {w : World} {o : Oper} {d : Nat} {K : AV → AS → Prop}
theorem RdA.str_inv {v : Value} {s : ByteArray} (h : RdA ρ m v (.pv (.str s))) : v = .string s := by
  cases h with
  | pv _ _ h => cases h; rfl
theorem alB_run {t e : TypeId} {v : Value} (hv : zeroT P t = some v) (hc : v.cells.toList = [.pointer none, .slice none 0 0]) (ho : o.op = .alloc t) (h : opWpX (.alB t e) d K σ) (hS : Sat N w0 m0 pl σ ρ m act w) : Res P N w0 m0 pl o act w K := by
  simp only [opWpX] at h
  have hc' : v.cells = #[.pointer none, .slice none 0 0] := Array.toList_inj.1 hc
  have hP := hS.purge d
  have hn := NoD.purge d σ
  have hh : (w.alloc (.cells v.cells t)).heap[w.heap.size]? = some (.cells #[.pointer none, .slice none 0 0] t (0, 0)) := by rw [hc']; exact heap_alloc_new w _
  have hu := upd_self ρ (.loc d 0) ⟨w.heap.size, 0, 0, true⟩
  have hnew := hP.newk d 0 hn v.cells t 0 (box := .ext (bldE t e [])) ⟨by rw [hu], by rw [hu]; exact ⟨_, _, hh, .inl rfl, .inl ⟨rfl, rfl⟩⟩⟩ (fun k hk => by
    rw [hu] at hk
    have hk' : k ∈ bldIns ⟨w.heap.size, 0, 0, true⟩ (w.alloc (.cells v.cells t)) := hk
    rw [bldIns_no (q := ⟨w.heap.size, 0, 0, true⟩) hh] at hk'
    cases hk')
  refine ⟨.pointer (some ⟨w.heap.size, 0, none⟩), w.alloc (.cells v.cells t), _, _, _, m, .inl ?_, h, hnew, ?_, fun _ => Ext.al w _⟩
  · unfold execOp
    simp only [ho, Sem.run_bind, r_alloc hv, Result.andThen_ok]
    rfl
  · have := RdA.ptr (ρ := upd ρ (.loc d 0) ⟨w.heap.size, 0, 0, true⟩) (m := m) (.loc d 0) 0
    rw [hu] at this
    exact this
theorem scat_run {t u : TypeId} {x y : Operand} {x' y' : Opd} (hx : opd x = some x') (hy : opd y = some y') (ho : o.op = .binOp .add t x y u)
    (h : opWpX (.scat x' y') d K σ) (hS : Sat N w0 m0 pl σ ρ m act w) : ResP G P σ ρ m o act w K := by
  simp only [opWpX] at h
  have h1 := hS.opd hx
  have h2 := hS.opd hy
  split at h
  · rename_i a b ea eb
    obtain ⟨hb, hK⟩ := h
    rw [ea] at h1; rw [eb] at h2
    refine .pure hS (v := .string (a ++ b)) ?_ (.pv _ _ (.str _)) hK
    intro w' _
    unfold execOp
    simp only [ho, h1.str_inv, h2.str_inv]
    simp [eqGuard, binOp, run_string_add_sum w' a b hb]
  · exact h.elim
theorem opd_nil_if {y : Operand} (h : opd y = some (.c .nilif)) : y = .const .nilIface := by
  cases y with
  | tmp k => cases h
  | const v =>
    simp only [opd, Option.map_eq_some_iff] at h
    obtain ⟨x, h1, h2⟩ := h
    cases h2
    unfold pvOf at h1
    split at h1 <;> first | (cases h1; done) | rfl
  | func f => cases h
  | global g => cases h
theorem tup2_rd {m : Mem} {a b : Value} {x y : PV} (h : RdP m a x) (k : RdP m b y) : RdP m (.tuple #[a, b]) (.tup [x, y]) := .tup _ _ rfl fun j d c h1 h2 => by
  rcases j with _ | _ | j
  · cases h1; cases h2; exact h
  · cases h1; cases h2; exact k
  · cases h2
theorem run_if_nil (w : World) (t : TypeId) (ms : Array (String × TypeId)) (hu : P.underlying t = some (.interface ms)) : (Op.equal t .nilIface .nilIface).run P w = .ok true w := by
  have : ∀ d, (Op.equalIn (d + 1) t .nilIface .nilIface).run P w = .ok true w := fun d => by simp [Op.equalIn, run_underlying hu]
  exact this 9999
theorem run_if_some (w : World) (t : TypeId) (ms : Array (String × TypeId)) (hu : P.underlying t = some (.interface ms)) (u : TypeId) (v : Value) : (Op.equal t (.iface u v) .nilIface).run P w = .ok false w := by
  have : ∀ d, (Op.equalIn (d + 1) t (.iface u v) .nilIface).run P w = .ok false w := fun d => by simp [Op.equalIn, run_underlying hu]
  exact this 9999
theorem nif_run {neg : Bool} {t u : TypeId} {x y : Operand} {x' : Opd} {ms : Array (String × TypeId)} (hx : opd x = some x') (hy : opd y = some (.c .nilif)) (hu : P.underlying t = some (.interface ms)) (ho : o.op = .binOp (if neg = true then .neq else .eql) t x y u)
    (h : opWpX (.nif neg x') d K σ) (hS : Sat N w0 m0 pl σ ρ m act w) : ResP G P σ ρ m o act w K := by
  simp only [opWpX] at h
  have h1 := hS.opd hx
  split at h
  · rename_i ex
    rw [ex] at h1
    have e : act.eval x = .nilIface := by
      have h2 := h1.pv_inv
      generalize act.eval x = u at h2
      cases h2; rfl
    refine .pure hS (v := .bool (!neg)) ?_ (.pv _ _ (.bool _)) h
    intro w' _
    unfold execOp
    obtain rfl := opd_nil_if hy
    have e2 : act.eval (.const .nilIface) = .nilIface := rfl
    cases neg <;> simp [ho, e, e2, binOp, eqGuard_nil_constR, fun w => run_if_nil w t ms hu]
  · rename_i tt xx ex
    rw [ex] at h1
    obtain ⟨v, e⟩ : ∃ v, act.eval x = .iface tt v := by
      have h2 := h1.pv_inv
      generalize act.eval x = u at h2
      cases h2 with | iface _ v _ _ => exact ⟨v, rfl⟩
    refine .pure hS (v := .bool neg) ?_ (.pv _ _ (.bool _)) h
    intro w' _
    unfold execOp
    obtain rfl := opd_nil_if hy
    have e2 : act.eval (.const .nilIface) = .nilIface := rfl
    cases neg <;> simp [ho, e, e2, binOp, eqGuard_at_iface, fun w u v => run_if_some w t ms hu u v]
  · exact h.elim
theorem mif_run {t : TypeId} {x : Operand} {x' : Opd} {td : TypeDesc} (hx : opd x = some x') (hu : P.underlying t = some td) (hni : ∀ ms, td ≠ .interface ms) (ho : o.op = .makeInterface t x)
    (h : opWpX (.mif t x') d K σ) (hS : Sat N w0 m0 pl σ ρ m act w) : ResP G P σ ρ m o act w K := by
  simp only [opWpX] at h
  have h1 := hS.opd hx
  split at h
  · rename_i a ex
    rw [ex] at h1
    refine .pure hS (v := .iface t (act.eval x)) ?_ (.pv _ _ (.iface _ _ _ h1.pv_inv)) h
    intro w' _
    unfold execOp
    simp only [ho, Instr.makeInterface, Sem.run_bind, run_underlying hu]
    cases td <;> first | rfl | exact absurd rfl (hni _)
  · exact h.elim
theorem zeroPV_all {e : TypeId} {z : PV} (hz : zeroPV P e = some z) (m : Mem) : ∃ zv, (∀ w, (zeroValue e).run P w = .ok zv w) ∧ RdP m zv z := by
  cases hv : zeroT P e with
  | none => unfold zeroPV at hz; simp [hv] at hz
  | some zz =>
    refine ⟨zz, run_zero hv, ?_⟩
    obtain ⟨v, q1, q2⟩ := zeroPV_run hz (default : World) m
    rw [run_zero hv] at q1
    cases q1
    exact q2
theorem tas_run {t s : TypeId} {x : Operand} {x' : Opd} {td : TypeDesc} {z : PV} (hx : opd x = some x') (hu : P.underlying t = some td) (hni : ∀ ms, td ≠ .interface ms) (hz : zeroPV P t = some z) (ho : o.op = .typeAssert x s t true)
    (h : opWpX (.tas t z x') d K σ) (hS : Sat N w0 m0 pl σ ρ m act w) : ResP G P σ ρ m o act w K := by
  simp only [opWpX] at h
  have h1 := hS.opd hx
  obtain ⟨zv, hzr, hzm⟩ := zeroPV_all hz m
  split at h
  · rename_i ex
    rw [ex] at h1
    have e : act.eval x = .nilIface := by
      have h2 := h1.pv_inv
      generalize act.eval x = u at h2
      cases h2; rfl
    refine .pure hS (v := .tuple #[zv, .bool false]) ?_ (.pv _ _ (tup2_rd hzm (.bool _))) h
    intro w' _
    unfold execOp
    simp only [ho, e, Instr.typeAssert, Sem.run_bind, run_underlying hu]
    cases td <;> first | exact absurd rfl (hni _) | simp [hzr w']
  · rename_i tt a ex
    rw [ex] at h1
    obtain ⟨v, e, hv⟩ : ∃ v, act.eval x = .iface tt v ∧ RdP m v a := by
      have h2 := h1.pv_inv
      generalize act.eval x = u at h2
      cases h2 with | iface _ v _ k => exact ⟨v, rfl, k⟩
    by_cases htt : tt = t
    · rw [if_pos htt] at h
      refine .pure hS (v := .tuple #[v, .bool true]) ?_ (.pv _ _ (tup2_rd hv (.bool _))) h
      intro w' _
      unfold execOp
      simp only [ho, e, Instr.typeAssert, Sem.run_bind, run_underlying hu]
      cases td <;> first | exact absurd rfl (hni _) | simp [htt]
    · rw [if_neg htt] at h
      refine .pure hS (v := .tuple #[zv, .bool false]) ?_ (.pv _ _ (tup2_rd hzm (.bool _))) h
      intro w' _
      unfold execOp
      simp only [ho, e, Instr.typeAssert, Sem.run_bind, run_underlying hu]
      cases td <;> first | exact absurd rfl (hni _) | simp [htt, hzr w']
  · exact h.elim
theorem slen_run {t : TypeId} {c : Call} {x : Operand} {x' : Opd} (hx : opd x = some x') (hu : P.underlying t = some .string) (hc : c.callee = .builtin .len) (ha : c.args.toList = [x]) (ht : c.argTypes.toList = [t]) (ho : o.op = .call c)
    (h : opWpX (.slen x') d K σ) (hS : Sat N w0 m0 pl σ ρ m act w) : ResP G P σ ρ m o act w K := by
  simp only [opWpX] at h
  have h1 := hS.opd hx
  have hargs : c.args = #[x] := Array.toList_inj.1 (by simpa using ha)
  have htys : c.argTypes = #[t] := Array.toList_inj.1 (by simpa using ht)
  split at h
  · rename_i s es
    rw [es] at h1
    refine .pure hS (v := .int .i64 s.size) ?_ (.pv _ _ (.int _ _)) h
    intro w' _
    unfold execOp
    simp only [ho]
    simp [resolve, hc, hargs, htys, invoke, builtin, Builtin.len_, run_underlying hu, h1.str_inv, goInt]
  · exact h.elim
theorem sidx_run {t : TypeId} {x i : Operand} {x' i' : Opd} (hx : opd x = some x') (hi : opd i = some i') (hu : P.underlying t = some .string) (ho : o.op = .index t x i)
    (h : opWpX (.sidx x' i') d K σ) (hS : Sat N w0 m0 pl σ ρ m act w) : ResP G P σ ρ m o act w K := by
  simp only [opWpX] at h
  have h1 := hS.opd hx
  have h2 := hS.opd hi
  split at h
  · rename_i s k z es ei
    rw [es] at h1; rw [ei] at h2
    split at h
    · rename_i b hb
      refine .pure hS (v := .int .u8 b.toNat) ?_ (.pv _ _ (.int _ _)) h
      intro w' _
      have hb' : (if 0 ≤ z then s[z.toNat]? else none) = some b := hb
      unfold execOp
      simp only [ho, h1.str_inv, h2.int_inv]
      simp [Instr.index, asIntOf, run_underlying hu, hb']
    · exact h.elim
  · exact h.elim
theorem ssl_run {t : TypeId} {x : Operand} {x' : Opd} {lo hi : Option Operand} {lo' hi' : Option Opd} (hx : opd x = some x') (hu : P.underlying t = some .string) (hlo : oopd lo = some lo') (hhi : oopd hi = some hi')
    (ho : o.op = .slice t x lo hi none) (h : opWpX (.ssl x' lo' hi') d K σ) (hS : Sat N w0 m0 pl σ ρ m act w) : ResP G P σ ρ m o act w K := by
  simp only [opWpX] at h
  have h1 := hS.opd hx
  split at h
  · rename_i s es
    rw [es] at h1
    split at h
    · rename_i l z el ez
      obtain ⟨⟨l0, l1, l2⟩, hK⟩ := h
      refine .pure hS (v := .string (s.extract l.toNat z.toNat)) ?_ (.pv _ _ (.str _)) hK
      intro w' _
      have el' := ob_run (oopd_of hlo) hS el
      have eh' := ob_run (oopd_of hhi) hS ez
      unfold execOp
      simp only [ho, h1.str_inv, Sem.run_bind]
      have z0 : 0 ≤ z := by omega
      have l3 : l ≤ (s.size : Int) := by omega
      have l4 : l ≤ (z.toNat : Int) := by omega
      rcases el' with ⟨rfl, rfl⟩ | ⟨b, k, rfl, eb⟩ <;> rcases eh' with ⟨rfl, rfl⟩ | ⟨b2, k2, rfl, eb2⟩
      · simp [Instr.sliceAt, run_underlying hu, Instr.slice, Instr.sliceBounds]
      · simp [Instr.sliceAt, run_underlying hu, Instr.slice, Instr.sliceBounds, eb2, Instr.sliceBound, asIntOf, l2, z0]
      · simp [Instr.sliceAt, run_underlying hu, Instr.slice, Instr.sliceBounds, eb, Instr.sliceBound, asIntOf, l0, l3]
      · simp [Instr.sliceAt, run_underlying hu, Instr.slice, Instr.sliceBounds, eb, eb2, Instr.sliceBound, asIntOf, l0, l2, z0]
        intro h5; omega
    · exact h.elim
  · exact h.elim
theorem sof_run {src dst e : TypeId} {x : Operand} {x' : Opd} (hx : opd x = some x') (hs : P.underlying src = some (.slice e)) (he : P.underlying e = some (.int .u8)) (hd : P.underlying dst = some .string) (ho : o.op = .convert src dst x)
    (h : opWpX (.sof x') d K σ) (hS : Sat N w0 m0 pl σ ρ m act w) : Res P N w0 m0 pl o act w K := by
  simp only [opWpX] at h
  split at h
  · rename_i xs hc
    split at h
    · rename_i ns hn
      obtain ⟨a, cap, ds, hv, hf, hcell⟩ := cont_rd (by decide) hS (hS.opd hx) hc
      have hfl : ds.length = xs.length := by have := hf.len; omega
      have hval : ds = ns.map (Value.int .u8) := bytesN_val hn hfl fun i y u k1 k2 => by
        obtain ⟨q1, q2⟩ := hf.get i y k1
        obtain ⟨n, ms, hy⟩ : ∃ n, ∃ k, y = .int k n := by
          obtain ⟨j, hj⟩ := List.mem_iff_getElem?.1 (List.mem_of_getElem? k1)
          exact bytesN_int hn (List.mem_of_getElem? k1)
        subst hy
        obtain ⟨u', q3, q4⟩ := q2 0 _ rfl
        rw [Nat.mul_one, Nat.add_zero, k2] at q3
        cases q3
        exact q4
      have hr : (execOp act.eval o).run P w = .ok (.value (.string (bytesS ns))) w := by
        have hb : (Conv.bytesToString (.slice a xs.length cap)).run P w = .ok (.string (bytesS ns)) w := by
          cases a with
          | none =>
            have h0 : ds = [] := by
              cases ds with
              | nil => rfl
              | cons u l =>
                obtain ⟨b, q, h1, _⟩ := hcell 0 u rfl
                cases h1
            rw [h0] at hval
            have : ns = [] := List.map_eq_nil_iff.1 hval.symm
            subst this
            rfl
          | some A =>
            have hld : (loadCells A xs.length).run P w = .ok (ns.map (Value.int .u8)).toArray w := by
              rw [← hval, ← hfl]
              refine run_loadCells_list w A ds fun j v hj => ?_
              obtain ⟨b, q, h1, h2⟩ := hcell j v hj
              cases h1
              by_cases hj0 : j = 0
              · subst hj0; simpa [Addr.add] using h2
              · simpa [Addr.add, hj0] using h2
            rw [run_bytesToString w A xs.length cap ns hld, push_bytes]
            simp [bytesS]
        unfold execOp
        simp only [ho, hv, Sem.run_bind, run_convert_bytes_string w src dst e a xs.length cap hs he hd, hb]
        rfl
      exact ⟨_, w, _, _, ρ, m, .inl hr, h, hS, .pv _ _ (.str _), fun _ => Ext.rfl' _⟩
    · exact h.elim
  · exact h.elim
theorem bytesW_ext (w : World) (e : TypeId) (s : ByteArray) : Ext w (Lib.bytesWorld w e s) := by
  refine ⟨?_, ?_, ?_, ?_, fun k hk => Lib.bytesWorld_at_old w e s k hk⟩
  · simp [Lib.bytesWorld, World.freeze, World.alloc, World.drew, -World.alloc_eq, -World.drew_eq]
  · simp [Lib.bytesWorld, World.freeze, World.alloc, World.drew, -World.alloc_eq, -World.drew_eq]
  · simp [Lib.bytesWorld, World.freeze, World.alloc, World.drew, -World.alloc_eq, -World.drew_eq]
  · rw [Lib.bytesWorld_size]; omega
theorem bytesP_get {s : ByteArray} {i : Nat} {x : PV} (h : (bytesP s)[i]? = some x) : i < s.size ∧ x = .int .u8 (s.data.toList.getD i 0).toNat := by
  unfold bytesP at h
  rw [List.getElem?_map] at h
  obtain ⟨b, h1, rfl⟩ := Option.map_eq_some_iff.1 h
  have hl := (List.getElem?_eq_some_iff.1 h1).1
  refine ⟨by simpa using hl, ?_⟩
  rw [List.getD_eq_getElem?_getD, h1]; rfl
theorem bytesP_len {s : ByteArray} : (bytesP s).length = s.size := by simp [bytesP]
theorem sbyt_run {src dst e : TypeId} {x : Operand} {x' : Opd} (hx : opd x = some x') (hs : P.underlying src = some .string) (hd : P.underlying dst = some (.slice e)) (he : P.underlying e = some (.int .u8)) (ho : o.op = .convert src dst x)
    (h : opWpX (.sbyt e x') d K σ) (hS : Sat N w0 m0 pl σ ρ m act w) : Res P N w0 m0 pl o act w K := by
  simp only [opWpX] at h
  have h1 := hS.opd hx
  split at h
  · rename_i s es
    rw [es] at h1
    obtain ⟨hsz, hK⟩ := h
    have hr : (execOp act.eval o).run P w = .ok (.value (.slice (some ⟨w.heap.size, 0, none⟩) s.size (grownCap w s.size 0 e))) (Lib.bytesWorld w e s) := by
      unfold execOp
      simp only [ho, h1.str_inv, Sem.run_bind, Lib.run_convert_string_bytes w src dst e s hs hd he]
      rfl
    have hx' := bytesW_ext w e s
    have hS1 := hS.ext hx'
    have hfr : ∀ o, m w.heap.size o = none := fun o => hS.mem_new (Nat.le_refl _) o
    let m' : Mem := fun b q => if b = w.heap.size then (Lib.bytesWorld w e s).cell? ⟨b, q, none⟩ else m b q
    have hm : Le m m' := fun b q v hv => by
      show (if b = w.heap.size then _ else m b q) = some v
      by_cases hb : b = w.heap.size
      · subst hb; rw [hfr q] at hv; cases hv
      · rw [if_neg hb]; exact hv
    have hS2 : Sat N w0 m0 pl σ ρ m' act (Lib.bytesWorld w e s) := by
      refine hS1.mem' hm (fun b q v hv => ?_) (fun t b k hb hk q => ?_) (fun b q v hv => ?_)
      · have hv' : (if b = w.heap.size then (Lib.bytesWorld w e s).cell? ⟨b, q, none⟩ else m b q) = some v := hv
        by_cases hb : b = w.heap.size
        · rw [if_pos hb] at hv'; exact hv'
        · rw [if_neg hb] at hv'; exact hS1.mem b q v hv'
      · show (if k = w.heap.size then _ else m k q) = none
        have hlt := hS.ltk hb (((hS.bx t b hb).blk_same (fun r => hx'.block _ (hS.lt hb r))).1 hk)
        rw [if_neg (by omega)]
        exact hS1.offk t b k hb hk q
      · have hv' : (if b = w.heap.size then (Lib.bytesWorld w e s).cell? ⟨b, q, none⟩ else m b q) = some v := hv
        by_cases hb : b = w.heap.size
        · exact .inr (.inl (by rw [hb]; exact hS.keep.size))
        · rw [if_neg hb] at hv'; exact .inl hv'
    have hge := grownCap_ge w s.size 0 e
    have hle := grownCap_le_maxLen w s.size 0 e (by unfold maxLen; omega)
    have hle' : grownCap w s.size 0 e ≤ 9223372036854775807 := by unfold maxLen at hle; omega
    have hcell : ∀ j, j < s.size → m' w.heap.size j = some (.int .u8 (s.data.toList.getD j 0).toNat) := fun j hj => by
      show (if w.heap.size = w.heap.size then _ else _) = _
      rw [if_pos rfl]
      exact Lib.bytesWorld_cell w e s j hj
    refine ⟨_, _, _, _, ρ, m', .inl hr, hK, hS2, .pv _ _ ?_, fun _ => hx'⟩
    have := RdP.lst (m := m') (some ⟨w.heap.size, 0, none⟩) (grownCap w s.size 0 e) false 1 (bytesP s) (fun i => [.int .u8 (s.data.toList.getD i 0).toNat]) (by rw [bytesP_len]; exact hge) hle' (fun h => by cases h) (fun A hA => by cases hA; rfl) (fun h => by cases h)
      (fun i y hy => ⟨w.heap.size, 0, rfl, At.of_get (fun j u hj => by
        cases j with
        | zero =>
          cases hj
          have := hcell i (bytesP_get hy).1
          simpa using this
        | succ j => cases hj)⟩)
      (fun i y hy => by
        obtain ⟨_, rfl⟩ := bytesP_get hy
        exact ⟨rfl, rfl, fun u hu => by cases List.mem_singleton.1 hu; rfl⟩)
      (fun i y j u c hy hu hc => by
        obtain ⟨_, rfl⟩ := bytesP_get hy
        cases j with
        | zero => cases hu; cases hc; exact .int _ _
        | succ j => cases hu)
    rw [bytesP_len] at this
    exact this
  · exact h.elim
theorem flat_bytes (m : Mem) (s : ByteArray) : Flat m (Go.byteCells s) 1 (bytesP s) := by
  refine ⟨by rw [Go.byteCells_length, bytesP_len, Nat.mul_one], fun u hu => ?_, fun i x hi => ?_⟩
  · obtain ⟨_, _, rfl⟩ := List.mem_map.1 hu
    rfl
  · unfold bytesP at hi
    rw [List.getElem?_map] at hi
    obtain ⟨b, hb, rfl⟩ := Option.map_eq_some_iff.1 hi
    refine ⟨rfl, fun j c hj => ?_⟩
    match j with
    | 0 =>
      cases hj
      refine ⟨.int .u8 b.toNat, ?_, .int _ _⟩
      unfold Go.byteCells
      rw [Nat.mul_one, Nat.add_zero, List.getElem?_map, hb]; rfl
    | j + 1 => simp [PV.cells] at hj
theorem r_aps_grow {t u ty e : TypeId} {i : TypeInfo} {z : Value} (ht : P.underlying t = some (.slice e)) (hu : P.underlying u = some .string) (hi : P.info? e = some i) (hz : i.zero = some z) (ba : Option Addr) (sLen sCap : Nat) (s : ByteArray) (k : Nat) (hk : s.size = k) (olds news : List Value)
    (ho : ∀ w', (∀ A, w'.cell? A = w.cell? A) → (Builtin.firstCells i.size sLen (.slice ba sLen sCap)).run P w' = .ok olds.toArray w') (hn : ∀ w', (∀ A, w'.cell? A = w.cell? A) → (Builtin.firstCells i.size s.size (.string s)).run P w' = .ok news.toArray w')
    (hg : sCap < sLen + k) (h63 : ((sLen + k : Nat) : Int) ≤ 9223372036854775807) (hfit : Builtin.nextslicecap (sLen + k) sCap * i.bytes ≤ 281474976710656) :
    (Builtin.append_ #[t, u] ty #[.slice ba sLen sCap, .string s]).run P w =
      .ok (.slice (some ⟨w.heap.size, 0, none⟩) (sLen + k) (grownCap w (sLen + k) sCap e)) (w.drew.alloc (.cells ((olds ++ news).toArray ++ Builtin.zeroCells z.cells (grownCap w (sLen + k) sCap e - (sLen + k))) e)) := by
  subst hk
  have hn1 : ¬ (sLen + s.size ≤ sCap) := by omega
  have h63' : ¬ (9223372036854775807 < ((sLen : Int) + (s.size : Int))) := by omega
  have h48' : ¬ (281474976710656 < Builtin.nextslicecap (sLen + s.size) sCap * i.bytes) := by omega
  have f1 := ho w.drew (fun A => rfl)
  have f2 := hn w.drew (fun A => rfl)
  simp [Builtin.append_, run_underlying ht, run_underlying hu, sizeOf, typeInfo, zeroValue, hi, hz, Builtin.lenOf, hn1, h63', h48', Question.forced, f1, f2, newRow, grownCap]
  rw [← List.append_toArray, Array.append_assoc]
theorem r_aps_room {t u ty e : TypeId} {i : TypeInfo} (ht : P.underlying t = some (.slice e)) (hu : P.underlying u = some .string) (hi : P.info? e = some i) (g q sLen sCap : Nat) (cur : Array Value) (hg : w.heap[g]? = some (.cells cur e (0, 0))) (s : ByteArray) (k : Nat) (hk : s.size = k) (news : List Value)
    (hn : (Builtin.firstCells i.size s.size (.string s)).run P w = .ok news.toArray w) (h1 : ∀ u ∈ news, u.oneCell' = true) (hroom : sLen + k ≤ sCap) (hfit : q + sLen * i.size + news.length ≤ cur.size) :
    (Builtin.append_ #[t, u] ty #[.slice (some ⟨g, q, none⟩) sLen sCap, .string s]).run P w = .ok (.slice (some ⟨g, q, none⟩) (sLen + k) sCap) (w.setRow g (splice cur.toList (q + sLen * i.size) news).toArray) := by
  subst hk
  have hst := run_storeCells_at P g (q + sLen * i.size) e news 0 cur w hg (by simpa using hfit) h1
  simp only [Nat.add_zero] at hst
  simp [Builtin.append_, run_underlying ht, run_underlying hu, sizeOf, typeInfo, hi, Builtin.lenOf, hroom, hn, add_off, hst, splice]
theorem aps_exec {t u : TypeId} {c : Call} {x y : Operand} (hc : c.callee = .builtin .append) (ha : c.args.toList = [x, y]) (ht : c.argTypes.toList = [t, u]) (ho : o.op = .call c) {v : Value} {w' : World} (h : (Builtin.append_ #[t, u] o.type #[act.eval x, act.eval y]).run P w = .ok v w') :
    (execOp act.eval o).run P w = .ok (.value v) w' := by
  have hargs : c.args = #[x, y] := Array.toList_inj.1 (by simpa using ha)
  have htys : c.argTypes = #[t, u] := Array.toList_inj.1 (by simpa using ht)
  unfold execOp
  simp only [ho]
  simp [resolve, hc, hargs, htys, invoke, builtin, h]
theorem aps_run0 {t u e n bytes : Nat} {i : TypeInfo} {z : PV} {c : Call} {x y : Operand} {x' y' : Opd} (hx : opd x = some x') (hy : opd y = some y') (he : elemT P t = some (e, n, none)) (hz : zeroPV P e = some z) (hi : P.info? e = some i) (hb : i.bytes = bytes) (hn1 : n = 1) (hus : P.underlying u = some .string) (hzl : z.cells.length = n)
    (hc : c.callee = .builtin .append) (ha : c.args.toList = [x, y]) (ht : c.argTypes.toList = [t, u]) (ho : o.op = .call c) (h : opWpX (.aps e n bytes x' y') d K σ) (hS : Sat N w0 m0 pl σ ρ m act w) : ResE (∃ nl, σ.o x' = .pv (.emp nl)) P N w0 m0 pl o act w K := by
  simp only [opWpX] at h
  have hn : 0 < n := by omega
  obtain ⟨hu, hs⟩ := elemT_slice he
  obtain ⟨i2, hi2, hsz⟩ := sizeT_info hs
  rw [hi] at hi2; cases hi2
  unfold zeroPV at hz
  cases hv : zeroT P e with
  | none => simp [hv] at hz
  | some zv =>
  simp only [hv, Option.bind_some] at hz
  obtain ⟨zi, hzi1, hzi2⟩ := zeroT_info hv
  rw [hi] at hzi1; cases hzi1
  have hzs : zv.cells.size = n := by have := (pvz_cells hz m).1; omega
  split at h
  · rename_i s0 hys
    have hyr := hS.opd hy
    rw [hys] at hyr
    have hyv : act.eval y = .string s0 := hyr.str_inv
    obtain ⟨ys, hys0⟩ : ∃ ys, ys = bytesP s0 := ⟨_, rfl⟩
    obtain ⟨yd, hyd⟩ : ∃ yd, yd = Go.byteCells s0 := ⟨_, rfl⟩
    have hyl : s0.size = ys.length := by rw [hys0, bytesP_len]
    have hyf : Flat m yd n ys := by rw [hyd, hys0]; subst hn1; exact flat_bytes m s0
    rw [← hys0] at h
    have hyrun : ∀ w', (∀ A, w'.cell? A = w.cell? A) → (Builtin.firstCells i.size s0.size (.string s0)).run P w' = .ok yd.toArray w' := fun w' hw => by
      rw [hsz, hyd]; subst hn1; exact Go.firstCells_string s0 w'
    refine app_core (e := e) (d := d) hx hb hn hsz hzs hyf (fun ba L sCap od hxv ho' hlt h63 hf => aps_exec hc ha ht ho ?_) (fun g q L sCap cur hxv g1 hr hf => aps_exec hc ha ht ho ?_) (fun ba hxv hy0 => aps_exec hc ha ht ho ?_) ?_ hS
    · rw [hxv, hyv]; exact r_aps_grow hu hus hi hzi2 ba L sCap s0 ys.length hyl od yd ho' hyrun hlt h63 hf
    · rw [hxv, hyv]; exact r_aps_room hu hus hi g q L sCap cur g1 s0 ys.length hyl yd (hyrun w (fun _ => rfl)) hyf.one hr hf
    · subst hy0
      have hf := hyrun w (fun _ => rfl)
      rw [hyl] at hf
      have hyd0 : yd = [] := List.eq_nil_of_length_eq_zero (by have := hyf.len; simpa using this)
      rw [hyd0] at hf
      have hz0 : s0.size = 0 := hyl
      rw [hxv, hyv]
      simp only [List.length_nil] at hf ⊢
      cases ba <;> simp [Builtin.append_, run_underlying hu, run_underlying hus, sizeOf, typeInfo, hi, Builtin.lenOf, hz0, hf, storeCells]
    · have hy0 : σ.cont (σ.o (.c (.lst false n ys))) n = some ys := by simp [AS.o, AS.cont]
      simp only [opWp, hy0]
      split at h
      · rename_i nl ex
        exact h
      · rename_i s n' lo len ex
        split at h
        · rename_i hbx
          exact .inl h
        · exact h.elim
      · exact h.elim
  · exact h.elim
theorem aps_run {t u e n bytes : Nat} {i : TypeInfo} {z : PV} {c : Call} {x y : Operand} {x' y' : Opd} (hx : opd x = some x') (hy : opd y = some y') (he : elemT P t = some (e, n, none)) (hz : zeroPV P e = some z) (hi : P.info? e = some i) (hb : i.bytes = bytes) (hn1 : n = 1) (hus : P.underlying u = some .string) (hzl : z.cells.length = n)
    (hc : c.callee = .builtin .append) (ha : c.args.toList = [x, y]) (ht : c.argTypes.toList = [t, u]) (ho : o.op = .call c) (h : opWpX (.aps e n bytes x' y') d K σ) (hS : Sat N w0 m0 pl σ ρ m act w) : Res P N w0 m0 pl o act w K := by
  obtain ⟨v, w', a, σ', ρ', m', h1, h2, h3, h4, _⟩ := aps_run0 hx hy he hz hi hb hn1 hus hzl hc ha ht ho h hS
  exact ⟨v, w', a, σ', ρ', m', h1, h2, h3, h4, fun hm => by rw [ho] at hm; cases hm⟩
end
end Go.Proofs.Ytohhjnpiiackjaa
/-! An evaluation of Go's code over plain values: every operation is the model's. Over any program. -/
namespace Go.Proofs.Ytohhjnpiiackjaa
open Go.RowKit
section
variable {P : Program} {N : Nat} {w0 : World} {m0 : Env w0} {pl : List Nat} {σ : AS} {ρ : Site → Loc} {m : Mem} {act : Act} {w : World} {o : Oper} {d : Nat} {K : AV → AS → Prop}
theorem oopd_spec {x : Option Operand} {x' : Option Opd} (h : oopd x = some x') : (x = none ∧ x' = none) ∨ ∃ a a', x = some a ∧ x' = some a' ∧ opd a = some a' := by
  cases x with
  | none => simp [oopd] at h; exact .inl ⟨rfl, h.symm⟩
  | some a =>
    simp only [oopd, Option.map_eq_some_iff] at h
    obtain ⟨a', k1, rfl⟩ := h
    exact .inr ⟨a, a', rfl, rfl, k1⟩
theorem opds_two {l : List Operand} {x y : Opd} (h : opds l = some [x, y]) : ∃ a b, l = [a, b] ∧ opd a = some x ∧ opd b = some y := by
  obtain ⟨h1, h2⟩ := opds_get h
  match l, h1 with
  | [a, b], _ =>
    obtain ⟨x', k1, k2⟩ := h2 0 a rfl
    obtain ⟨y', k3, k4⟩ := h2 1 b rfl
    simp at k1 k3; subst k1 k3
    exact ⟨a, b, rfl, k2, k4⟩
def LOp.still : LOp → Bool
  | .mov _ => true
  | .pick _ _ _ => true
  | .bin _ _ _ _ => true
  | .not _ => true
  | .neg _ => true
  | .nilq _ _ _ => true
  | .build _ _ => true
  | .fa _ _ => true
  | .fld _ _ _ _ => true
  | .ia _ _ _ _ => true
  | .len _ _ => true
  | .ext _ _ => true
  | .mkf _ _ _ => true
  | .nilc _ => true
  | .minmax _ _ _ => true
  | .conv _ _ => true
  | .slc _ _ _ _ _ _ => true
  | .x y => y.still
  | _ => false
def LOp.isLoad : LOp → Bool
  | .load _ _ _ => true
  | .x y => y.read
  | _ => false
theorem pvOf_c {y : Operand} {x : PV} (h : opd y = some (.c x)) : (∃ f, y = .func f) ∨ ∃ v, y = .const v ∧ pvOf v = some x := by
  cases y with
  | tmp k => simp [opd] at h
  | const v => simp [opd] at h; exact .inr ⟨v, rfl, h⟩
  | func f => exact .inl ⟨f, rfl⟩
  | global g => simp [opd] at h
theorem opd_nil_sl {y : Operand} (h : opd y = some (.c (.emp (some true)))) (act : Act) : act.eval y = nilVal .sl := by
  rcases pvOf_c h with ⟨f, rfl⟩ | ⟨v, rfl, hv⟩
  · simp [opd] at h
  · unfold pvOf at hv
    split at hv <;> first | rfl | cases hv
theorem opd_nil_pt {y : Operand} (h : opd y = some (.c .nilp)) (act : Act) : act.eval y = nilVal .pt := by
  rcases pvOf_c h with ⟨f, rfl⟩ | ⟨v, rfl, hv⟩
  · simp [opd] at h
  · unfold pvOf at hv
    split at hv <;> first | rfl | cases hv
theorem opd_nil_mp {y : Operand} (h : opd y = some (.c .nilmap)) (act : Act) : act.eval y = nilVal .mp := by
  rcases pvOf_c h with ⟨f, rfl⟩ | ⟨v, rfl, hv⟩
  · simp [opd] at h
  · unfold pvOf at hv
    split at hv <;> first | rfl | cases hv
/-- EVERY OPERATION BUT A CALL. -/
theorem op_sound0 (hn : ∀ f l, litOp0 P o.op ≠ .call f l) (h : opWp (litOp0 P o.op) d K σ) (hS : Sat N w0 m0 pl σ ρ m act w) : Res P N w0 m0 pl o act w K := by
  cases hop : o.op <;> rw [hop] at h hn <;> simp only [litOp0] at h hn
  case move x => 
    split at h
    · rename_i y e; exact (snd_mov e (.inl hop) h hS (G := fun _ => True)).res trivial hS
    · exact h.elim
  case assign x => 
    split at h
    · rename_i y e; exact (snd_mov e (.inr hop) h hS (G := fun _ => True)).res trivial hS
    · exact h.elim
  case pick c a b =>
    split at h
    · rename_i e1 e2 e3; exact (snd_pick e1 e2 e3 hop h hS (G := fun _ => True)).res trivial hS
    · exact h.elim
  case binOp op t x y u =>
    split at h
    · rename_i e1 e2 e3; exact (snd_bin e1 e2 hop h hS (fun e => by cases e) (G := fun _ => True)).res trivial hS
    · rename_i e1 e2 e3; exact (snd_bin e1 e2 hop h hS (fun _ => e3) (G := fun _ => True)).res trivial hS
    · rename_i e1 e2 e3; exact (snd_nilq e1 (opd_nil_sl e2 act) ⟨_, e3⟩ hop h hS (G := fun _ => True)).res trivial hS
    · rename_i e1 e2 e3; exact (snd_nilq e1 (opd_nil_pt e2 act) ⟨_, e3⟩ hop h hS (G := fun _ => True)).res trivial hS
    · rename_i e1 e2 e3; exact (snd_nilq e1 (opd_nil_mp e2 act) ⟨_, _, e3⟩ hop h hS (G := fun _ => True)).res trivial hS
    · exact h.elim
  case unOp op t x =>
    cases op <;> simp only at h
    case not =>
      split at h
      · rename_i e; exact (snd_not e hop h hS (G := fun _ => True)).res trivial hS
      · exact h.elim
    case neg =>
      split at h
      · rename_i e; exact (snd_neg e hop h hS (G := fun _ => True)).res trivial hS
      · exact h.elim
    all_goals exact h.elim
  case box t x =>
    split at h
    · rename_i e1 e2; exact snd_box e1 e2 hop h hS
    · exact h.elim
  case alloc t =>
    split at h
    · rename_i e1; exact snd_alloc e1 hop h hS
    · exact h.elim
  case build t ps =>
    split at h
    · rename_i e1 e2
      split at h
      · rename_i e3; exact (snd_build e1 e2 e3 hop h hS (G := fun _ => True)).res trivial hS
      · exact h.elim
    · exact h.elim
  case buildSlice t len ps =>
    split at h
    · rename_i e1 e2
      split at h
      · rename_i e3; exact snd_bslice e1 e2 e3.1 e3.2.1 e3.2.2.1 e3.2.2.2 hop h hS
      · exact h.elim
    · exact h.elim
  case load t x =>
    split at h
    · rename_i e1 e2 e3; exact (snd_load e1 e2 e3 hop h hS).res (.refl hS) hS
    · exact h.elim
  case store t x y =>
    split at h
    · rename_i e1 e2 e3; exact snd_store e1 e2 e3 hop h hS
    · exact h.elim
  case fieldAddr t x f =>
    split at h
    · rename_i e1 e2; exact (snd_fa e1 e2 hop h hS (G := fun _ => True)).res trivial hS
    · exact h.elim
  case indexAddr t x i =>
    split at h
    · rename_i e1 e2 e3; exact (snd_ia e1 e2 e3 hop h hS (G := fun _ => True)).res trivial hS
    · exact h.elim
  case extract x i =>
    split at h
    · rename_i e1; exact (snd_ext e1 hop h hS (G := fun _ => True)).res trivial hS
    · exact h.elim
  case nilCheck x =>
    split at h
    · rename_i e1; exact (snd_nilc e1 hop h hS (G := fun _ => True)).res trivial hS
    · exact h.elim
  case convert src dst x =>
    split at h
    · rename_i e1 e2 e3; exact (snd_conv e1 e2 e3 hop h hS (G := fun _ => True)).res trivial hS
    · exact h.elim
  case makeFunc fn fs cs =>
    cases fn <;> simp only at h
    case func f =>
      split at h
      · rename_i e1 e2; exact (snd_mkf e1 e2 hop h hS (G := fun _ => True)).res trivial hS
      · exact h.elim
    all_goals exact h.elim
  case slice t x lo hi mx =>
    cases mx <;> simp only at h
    case none =>
      split at h
      · rename_i e1 e2 e3 e4; exact (snd_slc e1 e2 (oopd_spec e3) (oopd_spec e4) hop h hS (G := fun _ => True)).res trivial hS
      · exact h.elim
    case some => exact h.elim
  case field t x f =>
    split at h
    · rename_i e1 e2
      split at h
      · rename_i e3
        split at h
        · rename_i e4 e5; exact (snd_fld e1 e2 e3 e4 (by rw [e5]; rfl) hop h hS (G := fun _ => True)).res trivial hS
        · exact h.elim
      · exact h.elim
    · exact h.elim
  case makeSlice t l c =>
    split at h
    · rename_i e1 e2 e3
      split at h
      · rename_i e4 e5
        split at h
        · rename_i e6; exact snd_mks e2 e3 e1 e4 e5 rfl e6.1 e6.2 hop h hS
        · exact h.elim
      · exact h.elim
    · exact h.elim
  case call c =>
    split at h
    · rename_i hc
      split at h
      · rename_i ha ht
        split at h
        · rename_i e1 e2; exact (snd_len e1 e2 hc ha ht hop h hS (G := fun _ => True)).res trivial hS
        · exact h.elim
      · exact h.elim
    · rename_i hc
      split at h
      · rename_i ha ht
        split at h
        · rename_i e1 e2 e3
          split at h
          · rename_i e4 e5
            split at h
            · rename_i e6
              obtain ⟨rfl, e7, e8⟩ := e6
              obtain ⟨v, w', a, σ', ρ', m', k1, k2, k3, k4, k5⟩ := snd_app e1 e2 e3 e4 e5 rfl e7 e8 hc ha ht hop h hS
              exact ⟨v, w', a, σ', ρ', m', k1, k2, k3, k4, fun hm => by rw [hop] at hm; cases hm⟩
            · exact h.elim
          · exact h.elim
        · exact h.elim
      · exact h.elim
    · rename_i hc
      split at h
      · rename_i e1
        obtain ⟨a, b, k1, k2, k3⟩ := opds_two e1
        exact (snd_minmax (mx := false) k2 k3 hc k1 hop h hS (G := fun _ => True)).res trivial hS
      · exact h.elim
    · rename_i hc
      split at h
      · rename_i e1
        obtain ⟨a, b, k1, k2, k3⟩ := opds_two e1
        exact (snd_minmax (mx := true) k2 k3 hc k1 hop h hS (G := fun _ => True)).res trivial hS
      · exact h.elim
    · rename_i f hc
      simp only [hc] at hn
      split at h
      · rename_i e1 e2
        simp only [e1, e2] at hn
        exact absurd rfl (hn _ _)
      · exact h.elim
    · exact h.elim
  all_goals exact h.elim
/-- An append onto a slice without room. -/
theorem op_app00 {e n bytes : Nat} {x' y' : Opd} (hn : litOp0 P o.op = .app e n bytes x' y') (h : opWp (litOp0 P o.op) d K σ) (hS : Sat N w0 m0 pl σ ρ m act w) : ResE (∃ nl, σ.o x' = .pv (.emp nl)) P N w0 m0 pl o act w K := by
  rw [hn] at h
  cases hop : o.op <;> rw [hop] at hn
  case call c =>
    simp only [litOp0] at hn
    split at hn
    case h_2 hc =>
      split at hn
      · rename_i ha ht
        split at hn
        · rename_i e1 e2 e3
          split at hn
          · rename_i e4 e5
            split at hn
            · rename_i e6
              obtain ⟨rfl, e7, e8⟩ := e6
              cases hn
              exact snd_app e1 e2 e3 e4 e5 rfl e7 e8 hc ha ht hop h hS
            · cases hn
          · cases hn
        · cases hn
      · cases hn
    all_goals (exfalso; repeat' (first | (cases hn; done) | split at hn))
  case unOp op t x => exfalso; cases op <;> simp only [litOp0] at hn <;> (try split at hn) <;> cases hn
  case makeFunc fn fs cs => exfalso; cases fn <;> simp only [litOp0] at hn <;> (try split at hn) <;> cases hn
  case slice t x lo hi mx => exfalso; cases mx <;> simp only [litOp0] at hn <;> (try split at hn) <;> cases hn
  all_goals (exfalso; simp only [litOp0, nilK] at hn; repeat' (first | (cases hn; done) | split at hn))
/-- WHAT TOUCHES NO MEMORY. -/
theorem op_still0 {G : World → Prop} (hn : (litOp0 P o.op).still = true) (h : opWp (litOp0 P o.op) d K σ) (hS : Sat N w0 m0 pl σ ρ m act w) : ResP G P σ ρ m o act w K := by
  cases hop : o.op <;> rw [hop] at h hn <;> simp only [litOp0] at h hn
  case move x => 
    split at h
    · rename_i y e; exact snd_mov e (.inl hop) h hS
    · exact h.elim
  case assign x => 
    split at h
    · rename_i y e; exact snd_mov e (.inr hop) h hS
    · exact h.elim
  case pick c a b =>
    split at h
    · rename_i e1 e2 e3; exact snd_pick e1 e2 e3 hop h hS
    · exact h.elim
  case binOp op t x y u =>
    split at h
    · rename_i e1 e2 e3; exact snd_bin e1 e2 hop h hS (fun e => by cases e)
    · rename_i e1 e2 e3; exact snd_bin e1 e2 hop h hS (fun _ => e3)
    · rename_i e1 e2 e3; exact snd_nilq e1 (opd_nil_sl e2 act) ⟨_, e3⟩ hop h hS
    · rename_i e1 e2 e3; exact snd_nilq e1 (opd_nil_pt e2 act) ⟨_, e3⟩ hop h hS
    · rename_i e1 e2 e3; exact snd_nilq e1 (opd_nil_mp e2 act) ⟨_, _, e3⟩ hop h hS
    · exact h.elim
  case unOp op t x =>
    cases op <;> simp only at h
    case not =>
      split at h
      · rename_i e; exact snd_not e hop h hS
      · exact h.elim
    case neg =>
      split at h
      · rename_i e; exact snd_neg e hop h hS
      · exact h.elim
    all_goals exact h.elim
  case box t x =>
    split at h
    · rename_i e1 e2; simp_all [LOp.still]
    · exact h.elim
  case alloc t =>
    split at h
    · rename_i e1; simp_all [LOp.still]
    · exact h.elim
  case build t ps =>
    split at h
    · rename_i e1 e2
      split at h
      · rename_i e3; exact snd_build e1 e2 e3 hop h hS
      · exact h.elim
    · exact h.elim
  case buildSlice t len ps =>
    split at h
    · rename_i e1 e2
      split at h
      · rename_i e3; simp_all [LOp.still]
      · exact h.elim
    · exact h.elim
  case load t x =>
    split at h
    · rename_i e1 e2 e3; simp_all [LOp.still]
    · exact h.elim
  case store t x y =>
    split at h
    · rename_i e1 e2 e3; simp_all [LOp.still]
    · exact h.elim
  case fieldAddr t x f =>
    split at h
    · rename_i e1 e2; exact snd_fa e1 e2 hop h hS
    · exact h.elim
  case indexAddr t x i =>
    split at h
    · rename_i e1 e2 e3; exact snd_ia e1 e2 e3 hop h hS
    · exact h.elim
  case extract x i =>
    split at h
    · rename_i e1; exact snd_ext e1 hop h hS
    · exact h.elim
  case nilCheck x =>
    split at h
    · rename_i e1; exact snd_nilc e1 hop h hS
    · exact h.elim
  case convert src dst x =>
    split at h
    · rename_i e1 e2 e3; exact snd_conv e1 e2 e3 hop h hS
    · exact h.elim
  case makeFunc fn fs cs =>
    cases fn <;> simp only at h
    case func f =>
      split at h
      · rename_i e1 e2; exact snd_mkf e1 e2 hop h hS
      · exact h.elim
    all_goals exact h.elim
  case slice t x lo hi mx =>
    cases mx <;> simp only at h
    case none =>
      split at h
      · rename_i e1 e2 e3 e4; exact snd_slc e1 e2 (oopd_spec e3) (oopd_spec e4) hop h hS
      · exact h.elim
    case some => exact h.elim
  case field t x f =>
    split at h
    · rename_i e1 e2
      split at h
      · rename_i e3
        split at h
        · rename_i e4 e5; exact snd_fld e1 e2 e3 e4 (by rw [e5]; rfl) hop h hS
        · exact h.elim
      · exact h.elim
    · exact h.elim
  case makeSlice t l c =>
    split at h
    · rename_i e1 e2 e3
      split at h
      · rename_i e4 e5
        split at h
        · rename_i e6; simp_all [LOp.still]
        · exact h.elim
      · exact h.elim
    · exact h.elim
  case call c =>
    split at h
    · rename_i hc
      split at h
      · rename_i ha ht
        split at h
        · rename_i e1 e2; exact snd_len e1 e2 hc ha ht hop h hS
        · exact h.elim
      · exact h.elim
    · rename_i hc
      split at h
      · rename_i ha ht
        split at h
        · rename_i e1 e2 e3
          split at h
          · rename_i e4 e5
            split at h
            · rename_i e6
              obtain ⟨e0, e7, e8⟩ := e6
              simp_all [LOp.still]
            · exact h.elim
          · exact h.elim
        · exact h.elim
      · exact h.elim
    · rename_i hc
      split at h
      · rename_i e1
        obtain ⟨a, b, k1, k2, k3⟩ := opds_two e1
        exact snd_minmax (mx := false) k2 k3 hc k1 hop h hS
      · exact h.elim
    · rename_i hc
      split at h
      · rename_i e1
        obtain ⟨a, b, k1, k2, k3⟩ := opds_two e1
        exact snd_minmax (mx := true) k2 k3 hc k1 hop h hS
      · exact h.elim
    · rename_i f hc
      simp only [hc] at hn
      split at h
      · rename_i e1 e2
        simp [e1, e2, LOp.still] at hn
      · exact h.elim
    · exact h.elim
  all_goals exact h.elim
/-- A read. -/
theorem op_load0 (hn : ∃ b n x, litOp0 P o.op = .load b n x) (h : opWp (litOp0 P o.op) d K σ) (hS : Sat N w0 m0 pl σ ρ m act w) : ResP (Stay σ ρ m w) P σ ρ m o act w K := by
  obtain ⟨b, n, x, hn⟩ := hn
  cases hop : o.op <;> rw [hop] at h hn
  case load t x =>
    simp only [litOp0] at h
    split at h
    · rename_i e1 e2 e3; exact snd_load e1 e2 e3 hop h hS
    · exact h.elim
  case unOp op t x =>
    clear h hS
    cases op <;> simp only [litOp0] at hn <;> (try split at hn) <;> cases hn
  case makeFunc fn fs cs =>
    clear h hS
    cases fn <;> simp only [litOp0] at hn <;> (try split at hn) <;> cases hn
  case slice t x lo hi mx =>
    clear h hS
    cases mx <;> simp only [litOp0] at hn <;> (try split at hn) <;> cases hn
  all_goals (exfalso; clear h hS; simp only [litOp0, nilK] at hn; repeat' (first | (cases hn; done) | split at hn))
/-- THE OPERATION THAT AN OPERATION OF THE MODEL IS. -/
def litXS (P : Program) (op : Op) : Option XOp := match litX P op with
  | some y => some y
  | none => litS P op
def litOp (P : Program) (op : Op) : LOp := match litXS P op with
  | some y => .x y
  | none => litOp0 P op
theorem litOp0_nx {op : Op} {y : XOp} : litOp0 P op ≠ .x y := fun h => by
  cases op
  case unOp op t x => cases op <;> simp only [litOp0] at h <;> (try split at h) <;> cases h
  case makeFunc fn fs cs => cases fn <;> simp only [litOp0] at h <;> (try split at h) <;> cases h
  case slice t x lo hi mx => cases mx <;> simp only [litOp0] at h <;> (try split at h) <;> cases h
  all_goals (simp only [litOp0, nilK] at h; repeat' (first | (cases h; done) | split at h))
theorem litX_sound {y : XOp} (hl : litX P o.op = some y) (h : opWpX y d K σ) (hS : Sat N w0 m0 pl σ ρ m act w) :
    Res P N w0 m0 pl o act w K ∧ (∀ G : World → Prop, y.still = true → ResP G P σ ρ m o act w K) ∧ (y.read = true → ResP (Stay σ ρ m w) P σ ρ m o act w K) := by
  have still : (∀ G : World → Prop, ResP G P σ ρ m o act w K) → Res P N w0 m0 pl o act w K ∧ (∀ G : World → Prop, y.still = true → ResP G P σ ρ m o act w K) ∧ (y.read = true → ResP (Stay σ ρ m w) P σ ρ m o act w K) :=
    fun h => ⟨(h (fun _ => True)).res trivial hS, fun G _ => h G, fun _ => h _⟩
  have read : y.still = false → ResP (Stay σ ρ m w) P σ ρ m o act w K → Res P N w0 m0 pl o act w K ∧ (∀ G : World → Prop, y.still = true → ResP G P σ ρ m o act w K) ∧ (y.read = true → ResP (Stay σ ρ m w) P σ ρ m o act w K) :=
    fun hn h => ⟨h.res (.refl hS) hS, fun G e => (by rw [hn] at e; cases e), fun _ => h⟩
  have eff : y.still = false → y.read = false → Res P N w0 m0 pl o act w K → Res P N w0 m0 pl o act w K ∧ (∀ G : World → Prop, y.still = true → ResP G P σ ρ m o act w K) ∧ (y.read = true → ResP (Stay σ ρ m w) P σ ρ m o act w K) :=
    fun hn hr h => ⟨h, fun G e => (by rw [hn] at e; cases e), fun e => (by rw [hr] at e; cases e)⟩
  cases hop : o.op <;> rw [hop] at hl
  case binOp op t x y u =>
    simp only [litX] at hl
    split at hl
    · rename_i e1 e2 e3
      split at hl
      · rename_i hc
        split at hl
        · cases hl; exact still fun G => eqv_bin e1 e2 e3 hc (.inl ⟨rfl, rfl⟩) hop h hS
        · cases hl; exact still fun G => eqv_bin e1 e2 e3 hc (.inr ⟨rfl, rfl⟩) hop h hS
        · cases hl
      · cases hl
    · cases hl
  case makeMap t r =>
    cases r with
    | none => simp only [litX] at hl; cases hl; exact eff rfl rfl (mmk_run hop h hS)
    | some r => simp [litX] at hl
  case lookup t x i ok =>
    simp only [litX] at hl
    split at hl
    · rename_i hu
      split at hl
      · rename_i e1 e2 e3 e4
        cases hl; exact read rfl (look_run e1 e2 hu e3 e4 hop h hS)
      · cases hl
    · cases hl
  case mapUpdate t x i v =>
    simp only [litX] at hl
    split at hl
    · rename_i hu
      split at hl
      · rename_i e1 e2 e3 e4
        cases hl; exact eff rfl rfl (upd_run e1 e2 e3 hu e4 (.inl hop) h hS)
      · cases hl
    · cases hl
  case insert t x i v =>
    simp only [litX] at hl
    split at hl
    · rename_i hu
      split at hl
      · rename_i e1 e2 e3 e4
        cases hl; exact eff rfl rfl (upd_run e1 e2 e3 hu e4 (.inr hop) h hS)
      · cases hl
    · cases hl
  case call c =>
    simp only [litX] at hl
    split at hl
    · rename_i hc
      split at hl
      · rename_i ha ht
        split at hl
        · rename_i e1 e2
          cases hl; exact read rfl (mlen_run e1 e2 hc ha ht hop h hS)
        · cases hl
      · cases hl
    · rename_i hc
      split at hl
      · rename_i ha ht
        split at hl
        · rename_i e1 e2 e3
          split at hl
          · rename_i hn
            cases hl; exact eff rfl rfl (copy_run e1 e2 e3 hn hc ha ht hop h hS)
          · cases hl
        · cases hl
      · cases hl
    · rename_i hc
      split at hl
      · rename_i ha ht
        split at hl
        · rename_i e1 e2
          split at hl
          · rename_i hz
            split at hl
            · rename_i hn
              cases hl; exact eff rfl rfl (clear_run e1 e2 hz hn.1 hn.2 hc ha ht hop h hS)
            · cases hl
          · cases hl
        · cases hl
      · cases hl
    · cases hl
  case slice t x lo hi mx =>
    cases lo with
    | some lo => simp [litX] at hl
    | none =>
      cases hi with
      | none =>
        cases mx with
        | some mx => simp [litX] at hl
        | none =>
          simp only [litX] at hl
          split at hl
          · rename_i e1 e2
            split at hl
            · rename_i hn
              cases hl; exact eff rfl rfl (sla_run0 e1 e2 hn hop h hS)
            · cases hl
          · cases hl
      | some hi =>
        cases mx with
        | some mx => simp [litX] at hl
        | none =>
          simp only [litX] at hl
          split at hl
          · rename_i e1 e2 e3
            split at hl
            · rename_i hn
              cases hl; exact eff rfl rfl (sla_run e1 e2 e3 hn hop h hS)
            · cases hl
          · rename_i e1 e2 e3
            split at hl
            · rename_i hn
              cases hl; exact eff rfl rfl (slw_run e1 e2 e3 hn hop h hS)
            · cases hl
          · cases hl
  all_goals (simp [litX] at hl)
theorem litS_sound {y : XOp} (hl : litS P o.op = some y) (h : opWpX y d K σ) (hS : Sat N w0 m0 pl σ ρ m act w) :
    Res P N w0 m0 pl o act w K ∧ (∀ G : World → Prop, y.still = true → ResP G P σ ρ m o act w K) ∧ (y.read = true → ResP (Stay σ ρ m w) P σ ρ m o act w K) := by
  have still : (∀ G : World → Prop, ResP G P σ ρ m o act w K) → Res P N w0 m0 pl o act w K ∧ (∀ G : World → Prop, y.still = true → ResP G P σ ρ m o act w K) ∧ (y.read = true → ResP (Stay σ ρ m w) P σ ρ m o act w K) :=
    fun h => ⟨(h (fun _ => True)).res trivial hS, fun G _ => h G, fun _ => h _⟩
  have eff : y.still = false → y.read = false → Res P N w0 m0 pl o act w K → Res P N w0 m0 pl o act w K ∧ (∀ G : World → Prop, y.still = true → ResP G P σ ρ m o act w K) ∧ (y.read = true → ResP (Stay σ ρ m w) P σ ρ m o act w K) :=
    fun hn hr h => ⟨h, fun G e => (by rw [hn] at e; cases e), fun e => (by rw [hr] at e; cases e)⟩
  cases hop : o.op <;> rw [hop] at hl
  case binOp op t x y u =>
    cases op
    case add =>
      simp only [litS] at hl
      split at hl
      · rename_i e1 e2 e3
        cases hl; exact still fun G => scat_run e1 e2 hop h hS
      · cases hl
    case eql =>
      simp only [litS] at hl
      split at hl
      · rename_i e1 e2 e3
        cases hl; exact still fun G => nif_run (neg := false) e1 e2 e3 hop h hS
      · cases hl
    case neq =>
      simp only [litS] at hl
      split at hl
      · rename_i e1 e2 e3
        cases hl; exact still fun G => nif_run (neg := true) e1 e2 e3 hop h hS
      · cases hl
    all_goals (simp [litS] at hl)
  case makeInterface t x =>
    simp only [litS] at hl
    split at hl
    · cases hl
    · rename_i e1 e2 e3
      cases hl; exact still fun G => mif_run e2 e3 (fun ms k => e1 ms k) hop h hS
    · cases hl
  case alloc t =>
    simp only [litS] at hl
    split at hl
    · rename_i v hv
      split at hl
      · rename_i hc
        split at hl
        · cases hl; exact eff rfl rfl (alB_run hv hc hop h hS)
        · cases hl
      · cases hl
    · cases hl
  case panic x =>
    simp only [litS] at hl
    split at hl
    · cases hl; exact h.elim
    · cases hl
  case typeAssert x s t c =>
    cases c
    · simp [litS] at hl
    · simp only [litS] at hl
      split at hl
      · cases hl
      · rename_i e1 e2 e3 e4
        cases hl; exact still fun G => tas_run e2 e3 (fun ms k => e1 ms k) e4 hop h hS
      · cases hl
  case index t x i =>
    simp only [litS] at hl
    split at hl
    · rename_i e1 e2 e3
      cases hl; exact still fun G => sidx_run e1 e2 e3 hop h hS
    · cases hl
  case slice t x lo hi mx =>
    cases mx with
    | some mx => simp [litS] at hl
    | none =>
      simp only [litS] at hl
      split at hl
      · rename_i e1 e2 e3 e4
        cases hl; exact still fun G => ssl_run e1 e2 e3 e4 hop h hS
      · cases hl
  case convert src dst x =>
    simp only [litS] at hl
    split at hl
    · rename_i e1 e2 e3
      split at hl
      · rename_i e4
        cases hl; exact eff rfl rfl (sof_run e1 e2 e4 e3 hop h hS)
      · cases hl
    · rename_i e1 e2 e3
      split at hl
      · rename_i e4
        cases hl; exact eff rfl rfl (sbyt_run e1 e2 e3 e4 hop h hS)
      · cases hl
    · cases hl
  case call c =>
    simp only [litS] at hl
    split at hl
    · rename_i hc
      split at hl
      · rename_i ha ht
        split at hl
        · rename_i e1 e2
          cases hl; exact still fun G => slen_run e1 e2 hc ha ht hop h hS
        · cases hl
      · cases hl
    · rename_i hc
      split at hl
      · rename_i ha ht
        split at hl
        · rename_i e1 e2 e3 e4
          split at hl
          · rename_i e5 e6
            split at hl
            · rename_i hn
              cases hl; exact eff rfl rfl (aps_run e1 e2 e3 e5 e6 rfl hn.1 e4 hn.2 hc ha ht hop h hS)
            · cases hl
          · cases hl
        · cases hl
      · cases hl
    · cases hl
  all_goals (simp [litS] at hl)
theorem litXS_sound {y : XOp} (hl : litXS P o.op = some y) (h : opWpX y d K σ) (hS : Sat N w0 m0 pl σ ρ m act w) :
    Res P N w0 m0 pl o act w K ∧ (∀ G : World → Prop, y.still = true → ResP G P σ ρ m o act w K) ∧ (y.read = true → ResP (Stay σ ρ m w) P σ ρ m o act w K) := by
  unfold litXS at hl
  split at hl
  · rename_i y' hx
    cases hl
    exact litX_sound hx h hS
  · exact litS_sound hl h hS
theorem op_sound (hn : ∀ f l, litOp P o.op ≠ .call f l) (h : opWp (litOp P o.op) d K σ) (hS : Sat N w0 m0 pl σ ρ m act w) : Res P N w0 m0 pl o act w K := by
  unfold litOp at h hn
  split at h
  · rename_i y hl; exact (litXS_sound hl h hS).1
  · rename_i hl; rw [hl] at hn; exact op_sound0 hn h hS
theorem op_app0 {e n bytes : Nat} {x' y' : Opd} (hn : litOp P o.op = .app e n bytes x' y') (h : opWp (litOp P o.op) d K σ) (hS : Sat N w0 m0 pl σ ρ m act w) : ResE (∃ nl, σ.o x' = .pv (.emp nl)) P N w0 m0 pl o act w K := by
  unfold litOp at h hn
  split at h
  · rename_i y hl; rw [hl] at hn; cases hn
  · rename_i hl; rw [hl] at hn; exact op_app00 hn h hS
theorem op_still {G : World → Prop} (hn : (litOp P o.op).still = true) (h : opWp (litOp P o.op) d K σ) (hS : Sat N w0 m0 pl σ ρ m act w) : ResP G P σ ρ m o act w K := by
  unfold litOp at h hn
  split at h
  · rename_i y hl; rw [hl] at hn; exact (litXS_sound hl h hS).2.1 G hn
  · rename_i hl; rw [hl] at hn; exact op_still0 hn h hS
theorem op_load (hn : (litOp P o.op).isLoad = true) (h : opWp (litOp P o.op) d K σ) (hS : Sat N w0 m0 pl σ ρ m act w) : ResP (Stay σ ρ m w) P σ ρ m o act w K := by
  unfold litOp at h hn
  split at h
  · rename_i y hl; rw [hl] at hn; exact (litXS_sound hl h hS).2.2 hn
  · rename_i hl
    rw [hl] at hn
    dsimp only at hn
    refine op_load0 ?_ h hS
    cases hx : litOp0 P o.op <;> rw [hx] at hn <;> first | exact ⟨_, _, _, rfl⟩ | (exact absurd hx litOp0_nx) | cases hn
/-- A call, an append: none of the further operations. -/
theorem litOp_call0 {f : Opd} {l : List Opd} (h : litOp P o.op = .call f l) : litOp0 P o.op = .call f l := by
  unfold litOp at h
  split at h
  · cases h
  · exact h
theorem litOp_app0 {h : LOp} (hh : litOp P o.op = h) (hx : ∀ y, h ≠ .x y) : litOp0 P o.op = h := by
  unfold litOp at hh
  split at hh
  · rename_i y _; exact absurd hh.symm (hx y)
  · exact hh
end
end Go.Proofs.Ytohhjnpiiackjaa
/-! An evaluation of Go's code over plain values: what a call asks and gives. Over any program. -/
namespace Go.Proofs.Ytohhjnpiiackjaa
open Go.RowKit
mutual
def AV.map (g : Site → Site) : AV → AV
  | .any => .any
  | .pv x => .pv x
  | .ptr s off => .ptr (g s) off
  | .elt s n i off => .elt (g s) n i off
  | .vec s n lo len => .vec (g s) n lo len
  | .mp s => .mp (g s)
  | .yld s => .yld (g s)
  | .fn f fs cs => .fn f (AV.mapL g fs) (AV.mapL g cs)
  | .agg cs => .agg (AV.mapL g cs)
  | .tup vs => .tup (AV.mapL g vs)
def AV.mapL (g : Site → Site) : List AV → List AV
  | [] => []
  | a :: r => AV.map g a :: AV.mapL g r
end
theorem mapL_get {g : Site → Site} : ∀ {l : List AV} {i : Nat}, (AV.mapL g l)[i]? = (l[i]?).map (AV.map g)
  | [], i => by simp [AV.mapL]
  | a :: r, 0 => by simp [AV.mapL]
  | a :: r, i + 1 => by
    simp only [AV.mapL, List.getElem?_cons_succ]
    exact mapL_get
theorem mapL_len {g : Site → Site} : ∀ {l : List AV}, (AV.mapL g l).length = l.length
  | [] => rfl
  | a :: r => by simp only [AV.mapL, List.length_cons, mapL_len]
theorem allSL_get {q : Site → Bool} : ∀ {l : List AV} {i : Nat} {a : AV}, AV.allSL q l = true → l[i]? = some a → a.allS q = true
  | [], i, a, _, h => by simp at h
  | b :: r, 0, a, hl, h => by
    simp [AV.allSL] at hl h; subst h; exact hl.1
  | b :: r, i + 1, a, hl, h => by
    simp only [AV.allSL, Bool.and_eq_true] at hl
    exact allSL_get hl.2 (by simpa using h)
theorem RdA.map {ρ ρ' : Site → Loc} {m : Mem} {q : Site → Bool} {g : Site → Site} (hg : ∀ s, q s = true → ρ' (g s) = ρ s) {v : Value} {a : AV} (h : RdA ρ m v a) (ha : a.allS q = true) : RdA ρ' m v (a.map g) := by
  induction h with
  | any v => exact .any v
  | pv v x h => exact .pv v x h
  | ptr s off => rw [AV.allS] at ha; rw [← hg s ha]; exact .ptr _ off
  | elt s n i off => rw [AV.allS] at ha; rw [← hg s ha]; exact .elt _ n i off
  | vec s n lo len cap h0 h1 h2 => rw [AV.allS] at ha; rw [← hg s ha] at h1 h2 ⊢; exact .vec _ n lo len cap h0 h1 h2
  | vec0 s n lo a h => exact .vec0 _ n lo a h
  | mp s => rw [AV.allS] at ha; rw [← hg s ha]; exact .mp _
  | yld s => rw [AV.allS] at ha; rw [← hg s ha]; exact .yld _
  | fn f vf vc fs cs h0 h1 h2 h3 ih2 ih3 =>
    simp only [AV.allS, Bool.and_eq_true] at ha
    refine .fn f vf vc _ _ (by rw [mapL_len]; exact h0) (by rw [mapL_len]; exact h1) (fun j d c k1 k2 => ?_) (fun j d c k1 k2 => ?_)
    · rw [mapL_get] at k2
      obtain ⟨a, k3, rfl⟩ := Option.map_eq_some_iff.1 k2
      exact ih2 j d a k1 k3 (allSL_get ha.1 k3)
    · rw [mapL_get] at k2
      obtain ⟨a, k3, rfl⟩ := Option.map_eq_some_iff.1 k2
      exact ih3 j d a k1 k3 (allSL_get ha.2 k3)
  | agg vs cs h0 h1 h2 ih =>
    rw [AV.allS] at ha
    refine .agg vs _ (by rw [mapL_len]; exact h0) h1 (fun j d c k1 k2 => ?_)
    rw [mapL_get] at k2
    obtain ⟨a, k3, rfl⟩ := Option.map_eq_some_iff.1 k2
    exact ih j d a k1 k3 (allSL_get ha k3)
  | tup vs cs h0 h2 ih =>
    rw [AV.allS] at ha
    refine .tup vs _ (by rw [mapL_len]; exact h0) (fun j d c k1 k2 => ?_)
    rw [mapL_get] at k2
    obtain ⟨a, k3, rfl⟩ := Option.map_eq_some_iff.1 k2
    exact ih j d a k1 k3 (allSL_get ha k3)
def RowE.allS (q : Site → Bool) : RowE → Bool
  | .av a => a.allS q
  | .own _ => true
def Box.ren (g : Site → Site) : Box → Box
  | .rows e e2 n els => .rows e e2 n (els.map (RowE.map (AV.map g)))
  | .cells as => .cells (AV.mapL g as)
  | .loop C ps nt tm st => .loop C ps nt (tm.map fun p => (p.1, p.2.map g)) st
  | b => b
def Box.allS (q : Site → Bool) : Box → Bool
  | .rows _ _ _ els => els.all (RowE.allS q)
  | .cells as => AV.allSL q as
  | .loop _ _ _ tm _ => AV.allSL q (tm.map (·.2))
  | _ => true
theorem mapL_map {g : Site → Site} : ∀ l : List AV, AV.mapL g l = l.map (AV.map g)
  | [] => rfl
  | a :: r => by simp only [AV.mapL, List.map_cons, mapL_map r]
theorem Box.allS_mem {q : Site → Bool} {b : Box} (hd : b.allS q = true) {a : AV} (h : (∃ as, b = .cells as ∧ a ∈ as) ∨ (∃ C ps nt tm st t, b = .loop C ps nt tm st ∧ (t, a) ∈ tm) ∨ (∃ e e2 n els, b = .rows e e2 n els ∧ .av a ∈ els)) : a.allS q = true := by
  rcases h with ⟨as, rfl, h⟩ | ⟨C, ps, nt, tm, st, t, rfl, h⟩ | ⟨e, e2, n, els, rfl, h⟩
  · obtain ⟨i, hi⟩ := List.mem_iff_getElem?.1 h
    exact allSL_get hd hi
  · obtain ⟨i, hi⟩ := List.mem_iff_getElem?.1 h
    have hd' : AV.allSL q (tm.map (·.2)) = true := hd
    exact allSL_get (i := i) hd' (by rw [List.getElem?_map, hi]; rfl)
  · exact List.all_eq_true.1 hd _ h
theorem RdB.ren {ρ ρ' : Site → Loc} {m : Mem} {w : World} {q : Site → Bool} {g : Site → Site} (hg : ∀ s, q s = true → ρ' (g s) = ρ s) {s : Site} {b : Box} (h : RdB ρ m w s b) (hs : q s = true) (hb : b.allS q = true) : RdB ρ' m w (g s) (b.ren g) := by
  exact h.gen (AV.map g) (by cases b <;> first | rfl | (show Box.cells _ = _; rw [mapL_map])) (Le.refl m) (hg s hs) (fun v a hv hw => hv.map hg (Box.allS_mem hb hw)) (fun _ _ => rfl)
theorem ins_ren {w : World} {l : Loc} {b : Box} {g : Site → Site} : ins w l (b.ren g) = ins w l b := by
  cases b with
  | rows e e2 n els => exact ins_row rfl
  | _ => rfl
theorem blk_ren {ρ ρ' : Site → Loc} {w : World} {s s' : Site} {b : Box} {g : Site → Site} {k : Nat} (h : ρ' s' = ρ s) : blk ρ' w s' (b.ren g) k ↔ blk ρ w s b k := by unfold blk; rw [ins_ren, h]
mutual
def PV.flat : PV → Bool
  | .int _ _ => true
  | .bool _ => true
  | .str _ => true
  | .nilp => true
  | .nilfn => true
  | .nilmap => true
  | .nilif => true
  | .opq => true
  | .raw _ => true
  | .iface _ x => PV.flat x
  | .emp _ => true
  | .agg cs => PV.flatL cs
  | .tup vs => PV.flatL vs
  | _ => false
def PV.flatL : List PV → Bool
  | [] => true
  | x :: r => PV.flat x && PV.flatL r
end
theorem flatL_get : ∀ {l : List PV} {i : Nat} {x : PV}, PV.flatL l = true → l[i]? = some x → x.flat = true
  | [], i, x, _, h => by simp at h
  | b :: r, 0, x, hl, h => by
    simp [PV.flatL] at hl h; subst h; exact hl.1
  | b :: r, i + 1, x, hl, h => by
    simp only [PV.flatL, Bool.and_eq_true] at hl
    exact flatL_get hl.2 (by simpa using h)
theorem RdP.flat {m m' : Mem} {v : Value} {x : PV} (h : RdP m v x) (hx : x.flat = true) : RdP m' v x := by
  induction h with
  | int k n => exact .int k n
  | bool b => exact .bool b
  | str s => exact .str s
  | nilp => exact .nilp
  | nilfn => exact .nilfn
  | nilmap => exact .nilmap
  | nilif => exact .nilif
  | opq v h => exact .opq v h
  | raw v h => exact .raw v h
  | emp a nl h0 h1 h2 => exact .emp a nl h0 h1 h2
  | agg vs cs h0 h1 h2 ih => exact .agg vs cs h0 h1 (fun j d c k1 k2 => ih j d c k1 k2 (flatL_get (by rw [PV.flat] at hx; exact hx) k2))
  | tup vs cs h0 h2 ih => exact .tup vs cs h0 (fun j d c k1 k2 => ih j d c k1 k2 (flatL_get (by rw [PV.flat] at hx; exact hx) k2))
  | lst => simp [PV.flat] at hx
  | ref => simp [PV.flat] at hx
  | fn => simp [PV.flat] at hx
  | iface t v x h ih => exact .iface t v x (ih (by rw [PV.flat] at hx; exact hx))
/-! ### What a value is while nobody writes -/
def snapW (f : AV → Option PV) : List AV → Option (List PV)
  | [] => some []
  | a :: r => match f a, snapW f r with
    | some x, some l => some (x :: l)
    | _, _ => none
def AV.snap0 (σ : AS) : AV → Option PV
  | .pv x => some x
  | .vec s n lo len => match σ.b s with
    | some (.arr _ n' xs) => if n' = n ∧ lo + len ≤ xs.length then some (.lst false n ((xs.drop lo).take len)) else none
    | _ => none
  | _ => none
def AV.snap (σ : AS) : Nat → AV → Option PV
  | 0, a => a.snap0 σ
  | k + 1, a => match a with
    | .ptr s off => match σ.b s with
      | some (.cells as) => (snapW (AV.snap σ k) (as.drop off)).map .ref
      | _ => none
    | .fn f fs cs => match snapW (AV.snap σ k) fs, snapW (AV.snap σ k) cs with
      | some a, some b => some (.fn f a b)
      | _, _ => none
    | .agg cs => (snapW (AV.snap σ k) cs).map .agg
    | a => a.snap0 σ
section
variable {N : Nat} {w0 : World} {m0 : Env w0} {pl : List Nat} {σ : AS} {ρ : Site → Loc} {m : Mem} {act : Act} {w : World}
theorem snapW_get {f : AV → Option PV} : ∀ {l : List AV} {xs : List PV}, snapW f l = some xs → l.length = xs.length ∧ ∀ (j : Nat) (a : AV), l[j]? = some a → ∃ x, xs[j]? = some x ∧ f a = some x
  | [], xs, h => by rw [snapW] at h; cases h; exact ⟨rfl, fun j a e => by simp at e⟩
  | a :: r, xs, h => by
    rw [snapW] at h
    split at h
    · rename_i x l h1 h2
      cases h
      obtain ⟨k1, k2⟩ := snapW_get h2
      refine ⟨by simp [k1], fun j b e => ?_⟩
      cases j with
      | zero => simp at e; subst e; exact ⟨x, rfl, h1⟩
      | succ j => simpa using k2 j b (by simpa using e)
    · cases h
theorem snap0_rd (hS : Sat N w0 m0 pl σ ρ m act w) {v : Value} {a : AV} {x : PV} (h : a.snap0 σ = some x) (hv : RdA ρ m v a) : RdP w.mem v x := by
  cases a with
  | pv y => rw [AV.snap0] at h; cases h; exact hv.pv_inv.mono hS.mem
  | vec s n lo len =>
    rw [AV.snap0] at h
    split at h
    · rename_i e n' xs hb
      split at h
      · rename_i hc
        obtain ⟨rfl, hl⟩ := hc
        cases h
        exact arr_lst (hS.bx s _ hb) hS.mem (fun _ o v hv => hv) hl hv
      · cases h
    · cases h
  | _ => simp [AV.snap0] at h
theorem snap_rd (hS : Sat N w0 m0 pl σ ρ m act w) : ∀ {k : Nat} {v : Value} {a : AV} {x : PV}, a.snap σ k = some x → RdA ρ m v a → RdP w.mem v x := by
  intro k
  induction k with
  | zero => intro v a x h hv; exact snap0_rd hS h hv
  | succ k ih =>
    intro v a x h hv
    cases a with
    | ptr s off =>
      rw [AV.snap] at h
      split at h
      · rename_i as hb
        obtain ⟨xs, k1, rfl⟩ := Option.map_eq_some_iff.1 h
        obtain ⟨k2, k3⟩ := snapW_get k1
        rw [hv.ptr_inv]
        have hlen : off ≤ as.length ∨ as.drop off = [] := by
          rcases Nat.le_total off as.length with h | h
          · exact .inl h
          · exact .inr (List.drop_of_length_le h)
        rcases hlen with hlen | hlen
        · obtain ⟨ds, q1, q2, q3, q4⟩ := cells_box (hS.bx s _ hb) (off := off) (n := as.length - off) (by omega)
          refine .ref _ _ xs ds q2 (by rw [← k2, List.length_drop]; exact q1) q3 (fun j u c e1 e2 => ?_)
          have hj : j < (as.drop off).length := by rw [k2]; exact (List.getElem?_eq_some_iff.1 e2).1
          obtain ⟨x, k4, k5⟩ := k3 j _ (List.getElem?_eq_getElem hj)
          rw [e2] at k4; cases k4
          refine ih k5 (q4 j u _ e1 ?_)
          rw [List.getElem?_take, if_pos (by rw [List.length_drop] at hj; exact hj)]
          exact List.getElem?_eq_getElem hj
        · rw [hlen] at k2
          have : xs = [] := List.eq_nil_of_length_eq_zero k2.symm
          subst this
          exact .ref _ _ [] [] trivial rfl (fun d hd => by cases hd) (fun j d c e => by simp at e)
      · cases h
    | fn f fs cs =>
      rw [AV.snap] at h
      split at h
      · rename_i a b e1 e2
        cases h
        obtain ⟨a1, a2⟩ := snapW_get e1
        obtain ⟨b1, b2⟩ := snapW_get e2
        cases hv with
        | fn _ vf vc _ _ h0 h1 h2 h3 =>
          refine .fn f vf vc a b (by omega) (by omega) (fun j d c q1 q2 => ?_) (fun j d c q1 q2 => ?_)
          · have hj : j < fs.length := by rw [a1]; exact (List.getElem?_eq_some_iff.1 q2).1
            obtain ⟨x, k4, k5⟩ := a2 j _ (List.getElem?_eq_getElem hj)
            rw [q2] at k4; cases k4
            exact ih k5 (h2 j d _ q1 (List.getElem?_eq_getElem hj))
          · have hj : j < cs.length := by rw [b1]; exact (List.getElem?_eq_some_iff.1 q2).1
            obtain ⟨x, k4, k5⟩ := b2 j _ (List.getElem?_eq_getElem hj)
            rw [q2] at k4; cases k4
            exact ih k5 (h3 j d _ q1 (List.getElem?_eq_getElem hj))
      · cases h
    | agg cs =>
      rw [AV.snap] at h
      obtain ⟨xs, k1, rfl⟩ := Option.map_eq_some_iff.1 h
      obtain ⟨b1, b2⟩ := snapW_get k1
      cases hv with
      | agg vs _ h0 h1 h2 =>
        refine .agg vs xs (by omega) h1 (fun j d c q1 q2 => ?_)
        have hj : j < cs.length := by rw [b1]; exact (List.getElem?_eq_some_iff.1 q2).1
        obtain ⟨x, k4, k5⟩ := b2 j _ (List.getElem?_eq_getElem hj)
        rw [q2] at k4; cases k4
        exact ih k5 (h2 j d _ q1 (List.getElem?_eq_getElem hj))
    | _ => exact snap0_rd hS (by simpa only [AV.snap] using h) hv
end
/-! ### A call -/
/-- Boxes that lie somewhere, apart from one another and from what nobody writes. -/
structure Bxs (ρ : Site → Loc) (m : Mem) (w : World) (B : List (Site × Box)) : Prop where
  bx : ∀ s b, B.lookup s = some b → RdB ρ m w s b
  injk : ∀ s s' b b' k, B.lookup s = some b → B.lookup s' = some b' → blk ρ w s b k → blk ρ w s' b' k → s = s'
  offk : ∀ s b k, B.lookup s = some b → blk ρ w s b k → ∀ o, m k o = none
theorem Bxs.nil (ρ : Site → Loc) (m : Mem) (w : World) : Bxs ρ m w [] := ⟨fun s b h => by simp [List.lookup] at h, fun s s' b b' k h => by simp [List.lookup] at h, fun s b k h => by simp [List.lookup] at h⟩
theorem Bxs.inj {ρ : Site → Loc} {m : Mem} {w : World} {B : List (Site × Box)} (h : Bxs ρ m w B) (s s' : Site) (b b' : Box) (k : B.lookup s = some b) (k' : B.lookup s' = some b') (r : (ρ s).real = true) (r' : (ρ s').real = true) (e : (ρ s).b = (ρ s').b) : s = s' :=
  h.injk s s' b b' _ k k' (blk_own r) (by rw [e]; exact blk_own r')
theorem Bxs.off {ρ : Site → Loc} {m : Mem} {w : World} {B : List (Site × Box)} (h : Bxs ρ m w B) (s : Site) (b : Box) (k : B.lookup s = some b) (r : (ρ s).real = true) : ∀ o, m (ρ s).b o = none := h.offk s b _ k (blk_own r)
def lentB (ρ : Site → Loc) (w : World) (B : List (Site × Box)) : List Nat := B.flatMap fun p => (if (ρ p.1).real = true then [(ρ p.1).b] else []) ++ ins w (ρ p.1) p.2
theorem mem_lent {ρ : Site → Loc} {w : World} {B : List (Site × Box)} {k : Nat} : k ∈ lentB ρ w B ↔ ∃ p ∈ B, blk ρ w p.1 p.2 k := by
  unfold lentB
  rw [List.mem_flatMap]
  constructor
  · rintro ⟨p, hp, h⟩
    refine ⟨p, hp, ?_⟩
    rcases List.mem_append.1 h with h | h
    · split at h
      · rename_i hr; exact .inl ⟨hr, (List.mem_singleton.1 h).symm⟩
      · cases h
    · exact .inr h
  · rintro ⟨p, hp, h⟩
    refine ⟨p, hp, List.mem_append.2 ?_⟩
    rcases h with ⟨h, rfl⟩ | h
    · exact .inl (by rw [if_pos h]; simp)
    · exact .inr h
def Callable (P : Program) (f : FuncId) : Prop := ∃ fn c, P.funcs[f]? = some fn ∧ (fn.name == "runtime.NumGoroutine") = false ∧ fn.body = some c
/-- What a call leaves. -/
def CPost (w : World) (m : Mem) (ρ : Site → Loc) (B : List (Site × Box)) (Post : AV → List (Site × Box) → Prop) (e : Ending) (w' : World) : Prop :=
  ∃ v r B' ρ' m', e = .returned v ∧ Post r B' ∧ Bxs ρ' m' w' B' ∧ Le m m' ∧ Le m' w'.mem ∧ (∀ i, ρ' (.par i) = ρ (.par i)) ∧
      (∀ s b k, B'.lookup s = some b → blk ρ' w' s b k → w.heap.size ≤ k ∨ k ∈ lentB ρ w B) ∧ (∀ b o v, m' b o = some v → m b o = some v ∨ w.heap.size ≤ b ∨ b ∈ lentB ρ w B) ∧ RdA ρ' m' v r ∧ Keep (lentB ρ w B) w w'
theorem look_mem {l : List (Site × Box)} (hn : (l.map (·.1)).Nodup) {p : Site × Box} (h : p ∈ l) : l.lookup p.1 = some p.2 := by
  induction l with
  | nil => cases h
  | cons q r ih =>
    obtain ⟨a, b⟩ := q
    rw [List.map_cons, List.nodup_cons] at hn
    rcases List.mem_cons.1 h with rfl | h
    · exact lookup_cons_eq
    · rw [lookup_cons_ne (fun e => hn.1 (by rw [← e]; exact List.mem_map.2 ⟨p, h, rfl⟩))]
      exact ih hn.2 h
theorem Bxs.free {ρ : Site → Loc} {m : Mem} {w : World} {B : List (Site × Box)} (h : Bxs ρ m w B) (hn : (B.map (·.1)).Nodup) : ∀ k ∈ lentB ρ w B, ∀ o, m k o = none := fun k hk o => by
  obtain ⟨p, hp, e⟩ := mem_lent.1 hk
  exact h.offk p.1 p.2 k (look_mem hn hp) e o
/-- What a call comes to, of these values and lent boxes. -/
def CallsA (P : Program) (f : FuncId) (as : List AV) (B : List (Site × Box)) (Post : AV → List (Site × Box) → Prop) : Prop :=
  Callable P f ∧ ∀ (w : World) (m : Mem) (ρ : Site → Loc) (vs : Array Value), Bxs ρ m w B → (Le m w.mem ∧ Glob m w ∧ (B.map (·.1)).Nodup) → vs.size = as.length → (∀ (j : Nat) (d : Value) (c : AV), vs[j]? = some d → as[j]? = some c → RdA ρ m d c) →
    Calls P f vs w (CPost w m ρ B Post)
theorem CallsA.mono {P : Program} {f : FuncId} {as : List AV} {B : List (Site × Box)} {Post Post' : AV → List (Site × Box) → Prop} (h : CallsA P f as B Post) (hp : ∀ r B', Post r B' → Post' r B') : CallsA P f as B Post' :=
  ⟨h.1, fun w m ρ vs h1 h2 h3 h4 => (h.2 w m ρ vs h1 h2 h3 h4).mono fun e w' ⟨v, r, B', ρ', m', k1, k2, k3⟩ => ⟨v, r, B', ρ', m', k1, hp _ _ k2, k3⟩⟩
end Go.Proofs.Ytohhjnpiiackjaa
/-! A region that draws its order, walked in one order: reads come first, in a world that stays; then one operation behind the other, and beside them what touches no memory. Over any program. -/
namespace Go.Proofs.Ytohhjnpiiackjaa
open Go.RowKit
/-- Every function; in a round of the loop ro. -/
def FF (ro : Option Nat) : Fence := { Fence.wide with round := ro }
theorem FF.none : FF none = Fence.wide := rfl
theorem FF.fn {ro : Option Nat} (f : FuncId) : (FF ro).fn f := trivial
theorem FF.one {ro : Option Nat} {n : Nat} : (FF ro).depth.isSome = true → 1 ≤ n := fun h => by cases h
theorem callsFF {P : Program} {ro : Option Nat} {n : Nat} {f : FuncId} {args : Array Value} {w : World} {R : Ending → World → Prop} (h : Calls P f args w R) : CallsIn (FF ro) n P f args w R :=
  ⟨trivial, fun cs _ => (callsIn_wide (n := n).2 h).2 cs (room_wide _)⟩
def Op.isDefer : Op → Bool
  | .defer _ => true
  | _ => false
def noDefer (ops : Array Oper) : Bool := ops.all fun o => !Op.isDefer o.op
theorem noDefer_spec {ops : Array Oper} (h : noDefer ops = true) {i : Nat} {o : Oper} (hi : ops[i]? = some o) : ∀ c, o.op ≠ .defer c := fun c e => by
  have := Array.all_eq_true'.1 h o (Array.mem_of_getElem? hi)
  rw [e] at this; cases this
section
variable {P : Program} {ops : Array Oper} {Q : Exit → Act → World → Prop} {md : Region.Mode} {ro : Option Nat} {S : World → Prop}
theorem yieldsIf_wpI {i : Nat} {o : Oper} {v : Value} {a : Act} (hi : ops[i]? = some o) (hd : ∀ c, o.op ≠ .defer c) (hy : YieldsIf P ops S o v a)
    {K : Act → World → Prop} {w : World} (hS : S w) (h : K (a.put o.dst v) w) : wpOpIn (FF ro) 1 P ops Q i K a w := by
  unfold wpOpIn
  simp only [hi]
  rcases hy with ⟨hw, hv⟩ | ⟨hw, rfl⟩
  · simp only [hw, if_true, Oper.wpIn, Oper.semAt_eq _ _ _ hd, hv w hS, Oper.uponIn]; exact ⟨fun _ _ => trivial, h⟩
  · simp only [hw, Bool.false_eq_true, if_false]; exact ⟨fun _ _ => trivial, h⟩
theorem wpI_putIf {j : Nat} {oi oj : Oper} {v : Value} (hj : ops[j]? = some oj) (hd : ∀ c, oj.op ≠ .defer c) (hap : oi.apart ops oj = true)
    (hsi : ∀ cs b, oi.op ≠ .select cs b) (hsj : ∀ cs b, oj.op ≠ .select cs b)
    (hQ : ∀ c a w, Q (.panic c) (a.put oi.dst v) w → Q (.panic c) a w) {K : Act → World → Prop} {a : Act} {w : World}
    (hy : YieldsIf P ops S oi v a) (h : wpOpIn (FF ro) 1 P ops Q j K (a.put oi.dst v) w) :
    wpOpIn (FF ro) 1 P ops Q j (fun a' w' => YieldsIf P ops S oi v a' ∧ K (a'.put oi.dst v) w') a w := by
  obtain ⟨h1, h2, h3⟩ := Oper.apart_spec hap
  have keep : ∀ (a : Act), YieldsIf P ops S oi v a → ∀ u, YieldsIf P ops S oi v (a.put oj.dst u) := fun a hy u =>
    hy.of_same (execOp_put oi hsi a oj.dst u h3) (wanted_put oi a oj.dst u h3)
  have keepD : ∀ d, YieldsIf P ops S oi v { a with defers := d :: a.defers } := fun d => hy.of_same rfl rfl
  unfold wpOpIn at *
  simp only [hj] at *
  rw [wanted_put oj a oi.dst v h1] at h
  split
  · rename_i hw
    simp only [hw, if_true] at h
    unfold Oper.wpIn at *
    refine ⟨fun _ _ => trivial, ?_⟩
    have h := h.2
    rw [Oper.semAt_eq _ _ _ hd, execOp_put oj hsj a oi.dst v h1] at h
    rw [Oper.semAt_eq _ _ _ hd]
    generalize (execOp a.eval oj).run P w = r at *
    cases r with
    | ok x w' =>
      cases x <;> simp only [Oper.uponIn] at h ⊢
      case value u => exact ⟨keep a hy u, by rw [← Act.put_comm a v u h2]; exact h⟩
      case skip => exact ⟨keep a hy _, by rw [← Act.put_comm a v undef h2]; exact h⟩
      case defer d =>
        refine ⟨keep _ (keepD d) _, ?_⟩
        rw [← Act.put_comm _ v undef h2, ← Act.put_defers]
        exact h
      case enter f args =>
        refine ⟨h.1, CallsIn.mono h.2 fun e w'' he => ?_⟩
        cases e with
        | returned u => exact ⟨keep a hy u, by rw [← Act.put_comm a v u h2]; exact he⟩
        | panicked c => exact hQ _ _ _ he
        | outgrown => exact he
      case row row args => exact ⟨h.1, RowsIn.mono h.2 fun u w'' he => ⟨keep a hy u, by rw [← Act.put_comm a v u h2]; exact he⟩⟩
      case round l f tmps assign body =>
        refine ⟨h.1, RoundIn.mono h.2 fun e w'' he => ?_⟩
        cases e with
        | returned u => exact ⟨keep a hy u, by rw [← Act.put_comm a v u h2]; exact he⟩
        | panicked c => exact hQ _ _ _ he
        | outgrown => exact he
    | halt x w' =>
      cases x <;> simp only [Oper.uponIn] at h ⊢
      case panic u => exact hQ _ _ _ h
  · rename_i hw
    simp only [hw] at h
    exact ⟨fun _ _ => trivial, keep a hy _, by rw [← Act.put_comm a v undef h2]; exact h.2⟩
end
section
variable {P : Program} {ops : Array Oper} {Q : Exit → Act → World → Prop} {md : Region.Mode} {ro : Option Nat}
/-- Whom an operation waits for, in the end: as bits. -/
def ancO (md : Region.Mode) (acc : List Nat) : List Edge → Nat → Nat
  | [], m => m
  | e :: r, m => match Region.binds md e with
    | true => ancO md acc r (m ||| (1 <<< e.on) ||| acc.getD e.on 0)
    | false => ancO md acc r m
def ancL (md : Region.Mode) : List Oper → List Nat → List Nat
  | [], acc => acc
  | o :: r, acc => match ancO md acc o.after.toList 0 with
    | 0 => ancL md r (acc ++ [0])
    | n + 1 => ancL md r (acc ++ [n + 1])
/-- Operation j waits for k, or for one that does. -/
def waits (md : Region.Mode) (ops : Array Oper) (_ : Nat) (j k : Nat) : Bool := Nat.testBit ((ancL md ops.toList []).getD j 0) k
inductive Wait (md : Region.Mode) (ops : Array Oper) : Nat → Nat → Prop where
  | one {j : Nat} {o : Oper} {e : Edge} (ho : ops[j]? = some o) (he : e ∈ o.after) (hb : Region.binds md e = true) : Wait md ops j e.on
  | more {j k : Nat} {o : Oper} {e : Edge} (ho : ops[j]? = some o) (he : e ∈ o.after) (hb : Region.binds md e = true) (h : Wait md ops e.on k) : Wait md ops j k
theorem ancO_ok {acc : List Nat} {j : Nat} {o : Oper} (ho : ops[j]? = some o) (hacc : ∀ i k, Nat.testBit (acc.getD i 0) k = true → Wait md ops i k) : ∀ (l : List Edge) (m : Nat), (∀ e ∈ l, e ∈ o.after) → (∀ k, Nat.testBit m k = true → Wait md ops j k) → ∀ k, Nat.testBit (ancO md acc l m) k = true → Wait md ops j k
  | [], m, _, hm, k, h => hm k h
  | e :: r, m, hl, hm, k, h => by
    unfold ancO at h
    cases hb : Region.binds md e with
    | false =>
      rw [hb] at h
      exact ancO_ok ho hacc r m (fun x hx => hl x (by simp [hx])) hm k h
    | true =>
      rw [hb] at h
      refine ancO_ok ho hacc r _ (fun x hx => hl x (by simp [hx])) (fun k' h' => ?_) k h
      rw [Nat.testBit_or, Nat.testBit_or, Bool.or_eq_true, Bool.or_eq_true] at h'
      rcases h' with (h' | h') | h'
      · exact hm k' h'
      · rw [Nat.one_shiftLeft, Nat.testBit_two_pow] at h'
        have : e.on = k' := by simpa using h'
        rw [← this]
        exact .one ho (hl e (by simp)) hb
      · exact .more ho (hl e (by simp)) hb (hacc _ _ h')
theorem ancL_ok : ∀ (l pre : List Oper) (acc : List Nat), ops.toList = pre ++ l → acc.length = pre.length → (∀ i k, Nat.testBit (acc.getD i 0) k = true → Wait md ops i k) → ∀ i k, Nat.testBit ((ancL md l acc).getD i 0) k = true → Wait md ops i k
  | [], pre, acc, _, _, hacc => hacc
  | o :: r, pre, acc, hp, hl, hacc => by
    have ho : ops[acc.length]? = some o := by
      rw [← Array.getElem?_toList, hp, hl]
      simp
    have step : ∀ m, ancO md acc o.after.toList 0 = m → ∀ i k, Nat.testBit ((acc ++ [m]).getD i 0) k = true → Wait md ops i k := by
      intro m hm i k h
      rw [List.getD_eq_getElem?_getD, List.getElem?_append] at h
      split at h
      · exact hacc i k (by rw [List.getD_eq_getElem?_getD]; exact h)
      · rename_i hi
        cases hx : [m][i - acc.length]? with
        | none => rw [hx] at h; simp at h
        | some x =>
          have h0 : i - acc.length = 0 := by have := (List.getElem?_eq_some_iff.1 hx).1; simp at this; omega
          rw [h0] at hx
          simp at hx
          subst hx
          have hi' : i = acc.length := by omega
          subst hi'
          rw [h0] at h
          simp only [List.getElem?_cons_zero, Option.getD_some] at h
          rw [← hm] at h
          exact ancO_ok ho hacc _ 0 (fun e he => by simpa using he) (fun k h => by simp at h) k h
    unfold ancL
    split
    · rename_i h0
      exact ancL_ok r (pre ++ [o]) _ (by rw [hp]; simp) (by simp [hl]) (step 0 h0)
    · rename_i n h0
      exact ancL_ok r (pre ++ [o]) _ (by rw [hp]; simp) (by simp [hl]) (step (n + 1) h0)
theorem waits_wait {f j k : Nat} (h : waits md ops f j k = true) : Wait md ops j k := ancL_ok ops.toList [] [] (by simp) rfl (fun i k h => by simp at h) j k h
/-- What is listed has all listed that it waits for. -/
def Down (md : Region.Mode) (ops : Array Oper) (listed : Array Bool) : Prop := ∀ j o, listed.getD j false = true → ops[j]? = some o → ∀ e ∈ o.after, Region.binds md e = true → listed.getD e.on false = true
theorem Down.waits {listed : Array Bool} (h : Down md ops listed) (f j k : Nat) (hj : listed.getD j false = true) (hw : Go.Proofs.Ytohhjnpiiackjaa.waits md ops f j k = true) : listed.getD k false = true := by
  have := waits_wait hw
  clear hw
  induction this with
  | one ho he hb => exact h _ _ hj ho _ he hb
  | more ho he hb _ ih => exact ih (h _ _ hj ho _ he hb)
theorem getD_false_true {l : Array Bool} {k : Nat} (h : l.getD k true = false) : l.getD k false = false := by
  rcases Nat.lt_or_ge k l.size with h' | h'
  · simp [h'] at h ⊢; exact h
  · simp [Array.getElem?_eq_none h'] at h
theorem Down.wait {listed : Array Bool} (h : Down md ops listed) {j k : Nat} (hj : listed.getD j false = true) (hw : Wait md ops j k) : listed.getD k false = true := by
  induction hw with
  | one ho he hb => exact h _ _ hj ho _ he hb
  | more ho he hb _ ih => exact ih (h _ _ hj ho _ he hb)
theorem ready_waits {listed : Array Bool} (h : Down md ops listed) {f j k : Nat} (hj : j ∈ Region.ready md ops listed) (hw : waits md ops f j k = true) : listed.getD k false = true := by
  obtain ⟨_, o, ho, hall⟩ := mem_ready.1 hj
  cases waits_wait hw with
  | one ho' he hb => rw [ho] at ho'; cases ho'; exact hall _ he hb
  | more ho' he hb h2 => rw [ho] at ho'; cases ho'; exact h.wait (hall _ he hb) h2
theorem Down.set {listed : Array Bool} (h : Down md ops listed) {i : Nat} (hi : i ∈ Region.ready md ops listed) : Down md ops (listed.setIfInBounds i true) := by
  intro j o hj ho e he hb
  have up : ∀ k, listed.getD k false = true → (listed.setIfInBounds i true).getD k false = true := fun k hk => by
    rcases Nat.decEq k i with hne | rfl
    · rw [getD_set_ne false (fun e => hne e.symm)]; exact hk
    · rcases Nat.lt_or_ge k listed.size with h' | h'
      · simp [h']
      · simp [Array.getElem?_eq_none h'] at hk
  rcases Nat.decEq j i with hne | rfl
  · rw [getD_set_ne false (fun e => hne e.symm)] at hj
    exact up _ (h j o hj ho e he hb)
  · obtain ⟨_, o', ho', hall⟩ := mem_ready.1 hi
    rw [ho] at ho'; cases ho'
    exact up _ (hall e he hb)
theorem Down.start (n : Nat) : Down md ops (Array.replicate n false) := by
  intro j o hj
  rcases Nat.lt_or_ge j n with h | h
  · simp [h] at hj
  · simp [h] at hj
/-- An operation that leaves all that was there (it may lay new blocks). -/
def softO (soft : Nat → Oper → Bool) (ops : Array Oper) (j : Nat) : Bool := match ops[j]? with
  | some o => soft j o
  | none => true
def wpAnyL (ro : Option Nat) (P : Program) (md : Region.Mode) (ops : Array Oper) (Q : Exit → Act → World → Prop) (soft : Nat → Oper → Bool) : Nat → Array Bool → Act → World → Prop
  | 0, listed, a, w => Region.ready md ops listed = [] ∧ Q .normal a w
  | fuel + 1, listed, a, w =>
    (Region.ready md ops listed = [] → Q .normal a w) ∧
    ∀ i ∈ Region.ready md ops listed, wpOpIn (FF ro) 1 P ops Q i (fun a' w' => (softO soft ops i = true → Ext w w') ∧ wpAnyL ro P md ops Q soft fuel (listed.setIfInBounds i true) a' w') a w
variable {soft : Nat → Oper → Bool}
theorem wpAny_of_L : ∀ (fuel : Nat) (listed : Array Bool) (a : Act) (w : World), wpAnyL ro P md ops Q soft fuel listed a w → wpAnyIn (FF ro) 1 P md ops Q fuel listed a w
  | 0, _, _, _, h => h
  | fuel + 1, _, _, _, h => ⟨h.1, fun i hi => wpOpIn_mono (fun a' w' k => wpAny_of_L fuel _ a' w' k.2) (h.2 i hi)⟩
theorem wpAnyL_first {S' : World → Prop} {i : Nat} {oi : Oper} {v : Value} (hx : ∀ w w', S' w → Ext w w' → S' w') (hi : ops[i]? = some oi) (hsel : ∀ (j : Nat) (o : Oper) cs b, ops[j]? = some o → o.op ≠ .select cs b) (hdf : noDefer ops = true)
    (hQ : ∀ c a w, Q (.panic c) (a.put oi.dst v) w → Q (.panic c) a w) :
    ∀ (fuel : Nat) (listed : Array Bool) (a : Act) (w : World), Down md ops listed → ((∀ w, S' w) ∨ ∀ j, listed.getD j true = false → j ≠ i → softO soft ops j = false → waits md ops ops.size j i = true) →
      (∀ j oj, ops[j]? = some oj → j ≠ i → listed.getD j true = false → (∀ e ∈ oj.after, Region.binds md e = true → e.on ≠ i) → oi.apart ops oj = true) →
      i ∈ Region.ready md ops listed → YieldsIf P ops S' oi v a → S' w →
      wpAnyL ro P md ops Q soft fuel (listed.setIfInBounds i true) (a.put oi.dst v) w → wpAnyL ro P md ops Q soft (fuel + 1) listed a w := by
  intro fuel
  induction fuel with
  | zero =>
    intro listed a w _ _ _ hr hy hS H
    refine ⟨fun h => absurd hr (by rw [h]; simp), fun j hj => ?_⟩
    rcases Nat.decEq j i with hji | hji
    · have h2 := ready_mono hj hji
      rw [H.1] at h2
      exact absurd h2 (by simp)
    · rw [hji]; exact yieldsIf_wpI hi (noDefer_spec hdf hi) hy hS ⟨fun _ => Ext.rfl' _, H⟩
  | succ fuel ih =>
    intro listed a w hD hns hfree hr hy hS H
    refine ⟨fun h => absurd hr (by rw [h]; simp), fun j hj => ?_⟩
    rcases Nat.decEq j i with hji | hji
    · have h1 := H.2 j (ready_mono hj hji)
      obtain ⟨hjun, oj, hoj, hall⟩ := mem_ready.1 hj
      have hiun := (mem_ready.1 hr).1
      have hnot : ∀ e ∈ oj.after, Region.binds md e = true → e.on ≠ i := fun e he hb heq => by
        have k1 := hall e he hb
        rw [heq, getD_false_true hiun] at k1; cases k1
      have h2 := wpI_putIf hoj (noDefer_spec hdf hoj) (hfree j oj hoj hji hjun hnot) (fun cs b => hsel i oi cs b hi) (fun cs b => hsel j oj cs b hoj) hQ hy h1
      have hri : i ∈ Region.ready md ops (listed.setIfInBounds j true) := ready_mono hr (Ne.symm hji)
      have hun : ∀ k, (listed.setIfInBounds j true).getD k true = false → listed.getD k true = false := fun k hk => by
        rcases Nat.decEq j k with hjk | hjk
        · rw [getD_set_ne true hjk] at hk; exact hk
        · rw [← hjk]; exact hjun
      refine wpOpIn_mono (fun a' w' h3 => ?_) h2
      have hS2 : S' w' := by
        rcases hns with hall' | hns
        · exact hall' w'
        · cases hsj : softO soft ops j with
          | true => exact hx w w' hS (h3.2.1 hsj)
          | false =>
            have := ready_waits hD hj (hns j hjun hji hsj)
            rw [getD_false_true hiun] at this; cases this
      refine ⟨h3.2.1, ih (listed.setIfInBounds j true) a' w' (hD.set hj) (hns.imp id (fun h k hk => h k (hun k hk))) (fun k ok hk hki hkun hno => hfree k ok hk hki (hun k hkun) hno) hri h3.1 hS2 ?_⟩
      rw [Array.setIfInBounds_comm _ _ hji]
      exact h3.2.2
    · rw [hji]; exact yieldsIf_wpI hi (noDefer_spec hdf hi) hy hS ⟨fun _ => Ext.rfl' _, H⟩
/-- One order: (i, false): what only reads, or touches no memory; (i, true): an operation that the others that are left wait for. -/
def wpSeqL (ro : Option Nat) (P : Program) (ops : Array Oper) (Q : Exit → Act → World → Prop) (soft : Nat → Oper → Bool) (still : Oper → Bool) : List (Nat × Bool) → Act → World → Prop
  | [], a, w => Q .normal a w
  | (i, false) :: r, a, w => ∃ o v, ∃ S' : World → Prop, (∀ w w', S' w → Ext w w' → S' w') ∧ (still o = true → ∀ w, S' w) ∧ S' w ∧ ops[i]? = some o ∧ YieldsIf P ops S' o v a ∧ wpSeqL ro P ops Q soft still r (a.put o.dst v) w
  | (i, true) :: r, a, w => wpOpIn (FF ro) 1 P ops Q i (fun a' w' => (softO soft ops i = true → Ext w w') ∧ wpSeqL ro P ops Q soft still r a' w') a w
def seqL (md : Region.Mode) (ops : Array Oper) (soft : Nat → Oper → Bool) (still : Oper → Bool) : List (Nat × Bool) → Array Bool → Bool
  | [], listed => (Region.ready md ops listed).isEmpty
  | (i, false) :: r, listed => (Region.ready md ops listed).contains i && Region.free md ops listed i &&
      ((match ops[i]? with | some o => still o | none => false) || (List.range ops.size).all fun j => listed.getD j true || j == i || softO soft ops j || waits md ops ops.size j i) && seqL md ops soft still r (listed.setIfInBounds i true)
  | (i, true) :: r, listed => (Region.ready md ops listed == [i]) && seqL md ops soft still r (listed.setIfInBounds i true)
theorem wpAnyL_of_seq {still : Oper → Bool} (hs : Region.noSelect ops = true) (hdf : noDefer ops = true) (hQ : ∀ c (a : Act) (d : Tmp) (v : Value) w, Q (.panic c) (a.put (some d) v) w → Q (.panic c) a w) : ∀ (l : List (Nat × Bool)) (listed : Array Bool) (a : Act) (w : World), listed.size = ops.size → Down md ops listed →
    seqL md ops soft still l listed = true → wpSeqL ro P ops Q soft still l a w → wpAnyL ro P md ops Q soft l.length listed a w := by
  intro l
  induction l with
  | nil =>
    intro listed a w _ _ hB h
    exact ⟨by simpa [seqL] using hB, h⟩
  | cons x r ih =>
    obtain ⟨i, b⟩ := x
    intro listed a w hsz hD hB h
    cases b with
    | false =>
      simp only [seqL, Bool.and_eq_true] at hB
      obtain ⟨o, v, S', hx, hst, hSw, ho, hy, h'⟩ := h
      have hr : i ∈ Region.ready md ops listed := by simpa using hB.1.1.1
      have hB2 := hB.1.2
      rw [ho] at hB2
      simp only [Bool.or_eq_true] at hB2
      exact wpAnyL_first hx ho (Region.noSelect_spec hs) hdf (fun c a w k => by
        cases hd : o.dst with
        | none => rw [hd] at k; exact k
        | some d => rw [hd] at k; exact hQ c a d v w k) r.length listed a w hD (by
        rcases hB2 with h1 | h1
        · exact .inl (hst h1)
        · refine .inr (fun j hj hji hsj => ?_)
          have hlt : j < ops.size := by
            rcases Nat.lt_or_ge j listed.size with h2 | h2
            · omega
            · simp [Array.getElem?_eq_none h2] at hj
          have := List.all_eq_true.1 h1 j (List.mem_range.2 hlt)
          simp only [Bool.or_eq_true, beq_iff_eq] at this
          rcases this with ((h3 | h3) | h3) | h3
          · rw [hj] at h3; cases h3
          · exact absurd h3 hji
          · rw [hsj] at h3; cases h3
          · exact h3) (Region.free_spec ho hB.1.1.2) hr hy hSw (ih _ _ _ (by simpa using hsz) (hD.set hr) hB.2 h')
    | true =>
      simp only [seqL, Bool.and_eq_true, beq_iff_eq] at hB
      refine ⟨fun h0 => by rw [hB.1] at h0; simp at h0, fun j hj => ?_⟩
      have hj' := hj
      rw [hB.1, List.mem_singleton] at hj'
      subst hj'
      exact wpOpIn_mono (fun a' w' k => ⟨k.1, ih _ _ _ (by simpa using hsz) (hD.set hj) hB.2 k.2⟩) h
/-- THE REGION, WALKED IN THE ORDER l. -/
theorem wp_region_seqL {id : Nat} {a : Act} {w : World} {o : Array Oper} (soft : Nat → Oper → Bool) (still : Oper → Bool) (l : List (Nat × Bool)) (hm : P.follows .mixedOrders = true) (hQ : ∀ c (a : Act) (d : Tmp) (v : Value) w, Q (.panic c) (a.put (some d) v) w → Q (.panic c) a w)
    (h1 : Region.noSelect o = true) (h1' : noDefer o = true) (h2 : l.length = o.size) (h3 : seqL .any o soft still l (Array.replicate o.size false) = true)
    (h : wpSeqL ro P o Q soft still l a w.drew) : (Code.region id o true).wpIn (FF ro) 1 P Q a w := by
  refine wpIn_region_any hm (wpAny_of_L (soft := soft) _ _ _ _ ?_)
  have := wpAnyL_of_seq (P := P) (soft := soft) (still := still) h1 h1' hQ l _ _ _ (by simp) (Down.start _) h3 h
  rw [h2] at this
  exact this
end
end Go.Proofs.Ytohhjnpiiackjaa
/-! An evaluation of Go's code over plain values: calls. Over any program. -/
namespace Go.Proofs.Ytohhjnpiiackjaa
open Go.RowKit
def toLoc (d : Nat) : Site → Site
  | .ret j => .loc d j
  | s => s
def Site.isRet : Site → Bool
  | .ret _ => true
  | _ => false
def AS.adds (B : List (Site × Box)) (σ : AS) : AS := ⟨σ.tm, B ++ σ.bx⟩
def renB (d : Nat) (B : List (Site × Box)) : List (Site × Box) := B.map fun p => (toLoc d p.1, p.2.ren (toLoc d))
def retOk (r : AV) (B : List (Site × Box)) : Prop := r.allS Site.isRet = true ∧ ∀ p ∈ B, p.1.isRet = true ∧ p.2.allS Site.isRet = true
def frzsL : List Site → AS → AS
  | [], σ => σ
  | s :: r, σ => frzsL r (σ.frz s)
/-- A call: of a function that hands back flat values, whatever its arguments are now; or of plain values, what was handed in being frozen. -/
def callWp (P : Program) (f : Opd) (args : List Opd) (d : Nat) (K : AV → AS → Prop) (σ : AS) : Prop :=
  (∃ k g fs xs cs, (σ.o f).snap σ k = some (.fn g fs cs) ∧ snapW (AV.snap σ k) (args.map σ.o) = some xs ∧ CallsA P g ((fs ++ xs ++ cs).map .pv) [] (fun r _ => ∃ y, r = .pv y ∧ y.flat = true ∧ K (.pv y) σ)) ∨
  (∃ (fz : List Site) (g : FuncId) (fs xs cs : List PV), (frzsL fz σ).o f = .pv (.fn g fs cs) ∧ (frzsL fz σ).pvs args = some xs ∧ CallsA P g ((fs ++ xs ++ cs).map .pv) [] (fun r B => retOk r B ∧ K (r.map (toLoc d)) (((frzsL fz σ).purge d).adds (renB d B))))
section
variable {P : Program} {N : Nat} {w0 : World} {m0 : Env w0} {pl : List Nat} {σ : AS} {ρ : Site → Loc} {m : Mem} {act : Act} {w : World} {o : Oper} {d : Nat} {K : AV → AS → Prop} {ro : Option Nat}
theorem Sat.frzsL : ∀ (fz : List Site) {σ : AS} {m : Mem}, Sat N w0 m0 pl σ ρ m act w → ∃ m', Le m m' ∧ Sat N w0 m0 pl (frzsL fz σ) ρ m' act w
  | [], σ, m, h => ⟨m, Le.refl m, h⟩
  | s :: r, σ, m, h => by
    obtain ⟨m1, l1, h1⟩ := h.frz s
    obtain ⟨m2, l2, h2⟩ := Sat.frzsL r h1
    exact ⟨m2, l1.trans l2, h2⟩
theorem lookup_renB (d : Nat) : ∀ (B : List (Site × Box)), (∀ p ∈ B, p.1.isRet = true) → ∀ s b, (renB d B).lookup s = some b → ∃ j b', s = .loc d j ∧ B.lookup (.ret j) = some b' ∧ b = b'.ren (toLoc d)
  | [], _, s, b, h => by simp [renB] at h
  | (s', b') :: r, hB, s, b, h => by
    have h1 := hB (s', b') (by simp)
    cases s' with
    | ret j =>
      simp only [renB, List.map_cons, toLoc] at h
      rcases Classical.em (s = .loc d j) with e | e
      · subst e
        rw [lookup_cons_eq] at h
        cases h
        exact ⟨j, b', rfl, lookup_cons_eq, rfl⟩
      · rw [lookup_cons_ne e] at h
        obtain ⟨j2, b2, e1, e2, e3⟩ := lookup_renB d r (fun p hp => hB p (by simp [hp])) s b h
        refine ⟨j2, b2, e1, ?_, e3⟩
        rw [lookup_cons_ne (fun e4 => e (by rw [e1]; cases e4; rfl))]
        exact e2
    | par i => cases h1
    | loc e i => cases h1
theorem lookup_app {α β : Type} [BEq α] [LawfulBEq α] (k : α) : ∀ (l r : List (α × β)), (l ++ r).lookup k = (l.lookup k).or (r.lookup k)
  | [], r => by simp [List.lookup]
  | (a, b) :: l, r => by
    by_cases h : k = a
    · subst h; rw [List.cons_append, lookup_cons_eq, lookup_cons_eq]; rfl
    · rw [List.cons_append, lookup_cons_ne h, lookup_cons_ne h]; exact lookup_app k l r
/-- What a call handed back comes in. -/
theorem Sat.ret (h : Sat N w0 m0 pl σ ρ m act w) (hN : NoD d σ) {w' : World} (hx : Ext w w') {m' : Mem} {ρ' : Site → Loc} {B : List (Site × Box)} (hB : Bxs ρ' m' w' B) (hk : ∀ p ∈ B, p.1.isRet = true ∧ p.2.allS Site.isRet = true) (hm : Le m m') (hw : Le m' w'.mem)
    (hb : ∀ s b k, B.lookup s = some b → blk ρ' w' s b k → w.heap.size ≤ k) (hf : ∀ b o v, m' b o = some v → m b o = some v ∨ w.heap.size ≤ b) :
    ∃ ρ'', Sat N w0 m0 pl (σ.adds (renB d B)) ρ'' m' act w' ∧ ∀ {v : Value} {r : AV}, r.allS Site.isRet = true → RdA ρ' m' v r → RdA ρ'' m' v (r.map (toLoc d)) := by
  let ρ'' : Site → Loc := fun s => match s with
    | .loc e j => if e = d then ρ' (.ret j) else ρ s
    | s => ρ s
  have e1 : ∀ s, s.isLoc d = false → ρ'' s = ρ s := fun s hs => by
    cases s with
    | loc e j =>
      have : ¬ e = d := fun h => by subst h; simp [Site.isLoc] at hs
      simp [ρ'', this]
    | _ => rfl
  have e2 : ∀ s, s.isRet = true → ρ'' (toLoc d s) = ρ' s := fun s hs => by
    cases s with
    | ret j => simp [ρ'', toLoc]
    | _ => cases hs
  have hX := h.ext hx
  have hX2 : Sat N w0 m0 pl σ ρ m' act w' := hX.mem' hm hw (fun s b i k r o => by
    cases hv : m' i o with
    | none => rfl
    | some v =>
      have r' := ((h.bx s b k).blk_same (fun r => hx.block _ (h.lt k r))).1 r
      have hlt := h.ltk k r'
      rcases hf _ _ _ hv with k1 | k1
      · rw [h.offk s b i k r' o] at k1; cases k1
      · omega) (fun b o v hv => by
    rcases hf b o v hv with k | k
    · exact .inl k
    · exact .inr (.inl (Nat.le_trans h.keep.size k)))
  have look : ∀ s b, (σ.adds (renB d B)).b s = some b → (∃ j b', s = .loc d j ∧ B.lookup (.ret j) = some b' ∧ b = b'.ren (toLoc d)) ∨ (σ.b s = some b ∧ s.isLoc d = false) := fun s b k => by
    have k' : (renB d B ++ σ.bx).lookup s = some b := k
    rw [lookup_app] at k'
    cases hl : (renB d B).lookup s with
    | some c =>
      rw [hl] at k'
      simp at k'
      subst k'
      exact .inl (lookup_renB d B (fun p hp => (hk p hp).1) s c hl)
    | none =>
      rw [hl] at k'
      simp at k'
      exact .inr ⟨k', (hN.b s b k').1⟩
  have mem : ∀ {l : List (Site × Box)} {s b}, l.lookup s = some b → (s, b) ∈ l := by
    intro l
    induction l with
    | nil => intro s b h; simp [List.lookup] at h
    | cons p r ih =>
      obtain ⟨a, c⟩ := p
      intro s b h
      by_cases e : s = a
      · subst e; rw [lookup_cons_eq] at h; cases h; simp
      · rw [lookup_cons_ne e] at h; simp [ih h]
  refine ⟨ρ'', ⟨hX2.nod, hX2.sz, fun t a k => ?_, fun s b k => ?_, fun s s' b b' i k k' r r' => ?_, hX2.mem, fun s b i k r => ?_, fun s b i k r => ?_, hX2.keep, hX2.base, hX2.fro, fun i => hX2.par i⟩, fun hr hv => hv.map e2 hr⟩
  · obtain ⟨v, k1, k2⟩ := hX2.tm t a k
    exact ⟨v, k1, k2.mono (Le.refl _) e1 (hN.t t a k)⟩
  · rcases look s b k with ⟨j, b', rfl, k1, rfl⟩ | ⟨k1, k2⟩
    · exact (hB.bx _ _ k1).ren e2 (s := .ret j) rfl (hk _ (mem k1)).2
    · exact (hX2.bx s b k1).stay (Le.refl _) e1 k2 (hN.b s b k1).2 (fun _ _ => rfl)
  · rcases look s b k with ⟨j, b2, rfl, k1, rfl⟩ | ⟨k1, k2⟩ <;> rcases look s' b' k' with ⟨j', b2', rfl, k1', rfl⟩ | ⟨k1', k2'⟩
    · have := hB.injk _ _ _ _ i k1 k1' ((blk_ren (e2 (.ret j) rfl)).1 r) ((blk_ren (e2 (.ret j') rfl)).1 r')
      cases this; rfl
    · have a1 := hb _ _ i k1 ((blk_ren (e2 (.ret j) rfl)).1 r)
      have a2 := h.ltk k1' (((h.bx s' b' k1').blk_same (fun r => hx.block _ (h.lt k1' r))).1 ((blk_at (e1 s' k2')).1 r'))
      omega
    · have a1 := hb _ _ i k1' ((blk_ren (e2 (.ret j') rfl)).1 r')
      have a2 := h.ltk k1 (((h.bx s b k1).blk_same (fun r => hx.block _ (h.lt k1 r))).1 ((blk_at (e1 s k2)).1 r))
      omega
    · exact hX2.injk s s' b b' i k1 k1' ((blk_at (e1 s k2)).1 r) ((blk_at (e1 s' k2')).1 r')
  · rcases look s b k with ⟨j, b2, rfl, k1, rfl⟩ | ⟨k1, k2⟩
    · exact hB.offk _ _ i k1 ((blk_ren (e2 (.ret j) rfl)).1 r)
    · exact hX2.offk s b i k1 ((blk_at (e1 s k2)).1 r)
  · rcases look s b k with ⟨j, b2, rfl, k1, rfl⟩ | ⟨k1, k2⟩
    · exact .inl (Nat.le_trans h.keep.size (hb _ _ i k1 ((blk_ren (e2 (.ret j) rfl)).1 r)))
    · exact hX2.ownk s b i k1 ((blk_at (e1 s k2)).1 r)
theorem fn_inv {m : Mem} {v : Value} {g : FuncId} {fs cs : List PV} (h : RdP m v (.fn g fs cs)) : ∃ vf vc : Array Value, v = .func (.func g) vf vc ∧ vf.size = fs.length ∧ vc.size = cs.length ∧ (∀ (j : Nat) (d : Value) (c : PV), vf[j]? = some d → fs[j]? = some c → RdP m d c) ∧ (∀ (j : Nat) (d : Value) (c : PV), vc[j]? = some d → cs[j]? = some c → RdP m d c) := by
  cases h with
  | fn _ vf vc _ _ h0 h1 h2 h3 => exact ⟨vf, vc, rfl, h0, h1, h2, h3⟩
theorem callop {c : Call} {fo : Operand} (ho : o.op = .call c) (hc : c.callee = .value fo) {g : FuncId} {vf vc : Array Value} (hv : act.eval fo = .func (.func g) vf vc) (hg : Callable P g) :
    (execOp act.eval o).run P w = .ok (.enter g (vf ++ c.args.map act.eval ++ vc)) w := by
  obtain ⟨fn, code, h1, h2, h3⟩ := hg
  have h2' : ¬ fn.name = "runtime.NumGoroutine" := by simpa using h2
  unfold execOp
  simp only [ho]
  simp [resolve, hc, hv, Deferred.ofValue, invoke, callFunc, h1, h2', h3]
/-- Arguments, side by side. -/
theorem args_rd {m : Mem} {ρ : Site → Loc} {vf va vc : Array Value} {fs xs cs : List PV} (h1 : vf.size = fs.length) (h2 : va.size = xs.length) (h3 : vc.size = cs.length) (k1 : ∀ (j : Nat) (d : Value) (c : PV), vf[j]? = some d → fs[j]? = some c → RdP m d c)
    (k2 : ∀ (j : Nat) (d : Value) (c : PV), va[j]? = some d → xs[j]? = some c → RdP m d c) (k3 : ∀ (j : Nat) (d : Value) (c : PV), vc[j]? = some d → cs[j]? = some c → RdP m d c) :
    (vf ++ va ++ vc).size = ((fs ++ xs ++ cs).map AV.pv).length ∧ ∀ (j : Nat) (d : Value) (c : AV), (vf ++ va ++ vc)[j]? = some d → ((fs ++ xs ++ cs).map AV.pv)[j]? = some c → RdA ρ m d c := by
  refine ⟨by simp [h1, h2, h3], fun j d c e1 e2 => ?_⟩
  rw [List.getElem?_map] at e2
  obtain ⟨x, e3, rfl⟩ := Option.map_eq_some_iff.1 e2
  refine .pv _ _ ?_
  rw [Array.getElem?_append, Array.getElem?_append] at e1
  rw [List.getElem?_append, List.getElem?_append] at e3
  simp only [Array.size_append, List.length_append, h1, h2] at e1 e3
  split at e1
  · rename_i c1
    rw [if_pos c1] at e3
    split at e1
    · rename_i c2; rw [if_pos c2] at e3; exact k1 j d x e1 e3
    · rename_i c2; rw [if_neg c2] at e3; exact k2 _ d x e1 e3
  · rename_i c1
    rw [if_neg c1] at e3
    exact k3 _ d x e1 e3
/-- A CALL. -/
theorem call_wp {f : Opd} {args : List Opd} (hl : litOp P o.op = .call f args) (h : callWp P f args d K σ) (hS : Sat N w0 m0 pl σ ρ m act w) {Q : Exit → Act → World → Prop} :
    o.wpIn (FF ro) 1 P act w (fun act' w' => ∃ v a τ ρ' m', act' = act.put o.dst v ∧ K a τ ∧ Sat N w0 m0 pl τ ρ' m' act w' ∧ RdA ρ' m' v a ∧ Ext w w') Q := by
  obtain ⟨c, fo, ho, hc, hf, ha⟩ : ∃ c fo, o.op = .call c ∧ c.callee = .value fo ∧ opd fo = some f ∧ opds c.args.toList = some args := by
    replace hl := litOp_call0 hl
    cases hop : o.op <;> rw [hop] at hl
    case call c =>
      simp only [litOp0] at hl
      split at hl
      all_goals first
        | (rename_i fo hc
           split at hl
           · rename_i e1 e2
             cases hl
             exact ⟨c, fo, rfl, hc, e1, e2⟩
           · cases hl)
        | (exfalso; repeat' (first | (cases hl; done) | split at hl))
    case unOp op t x => exfalso; cases op <;> simp only [litOp0] at hl <;> (try split at hl) <;> cases hl
    case makeFunc fn fs cs => exfalso; cases fn <;> simp only [litOp0] at hl <;> (try split at hl) <;> cases hl
    case slice t x lo hi mx => exfalso; cases mx <;> simp only [litOp0] at hl <;> (try split at hl) <;> cases hl
    all_goals (exfalso; simp only [litOp0, nilK] at hl; repeat' (first | (cases hl; done) | split at hl))
  obtain ⟨q1, q2⟩ := opds_get ha
  have hargs : ∀ (τ : AS) (ρ' : Site → Loc) (m' : Mem), Sat N w0 m0 pl τ ρ' m' act w → (c.args.map act.eval).size = args.length ∧ ∀ (j : Nat) (u : Value) (y : Opd), (c.args.map act.eval)[j]? = some u → args[j]? = some y → RdA ρ' m' u (τ.o y) := fun τ ρ' m' hτ => by
    refine ⟨by simp; simpa using q1, fun j u y hu hy => ?_⟩
    rw [Array.getElem?_map] at hu
    obtain ⟨x, k1, rfl⟩ := Option.map_eq_some_iff.1 hu
    obtain ⟨y', k2, k3⟩ := q2 j x (by simpa using k1)
    rw [hy] at k2; cases k2
    exact hτ.opd k3
  unfold Oper.wpIn
  refine ⟨fun _ _ => trivial, ?_⟩
  rw [Oper.semAt_eq _ _ _ (fun c' e => by rw [ho] at e; cases e)]
  rcases h with ⟨k, g, fs, xs, cs, h1, h2, hC⟩ | ⟨fz, g, fs, xs, cs, h1, h2, hC⟩
  · obtain ⟨vf, vc, hv, f1, f2, f3, f4⟩ := fn_inv (snap_rd hS h1 (hS.opd hf))
    rw [callop ho hc hv hC.1, Oper.uponIn_enter]
    refine ⟨FF.one, callsFF ?_⟩
    obtain ⟨s1, s2⟩ := snapW_get h2
    rw [List.length_map] at s1
    obtain ⟨a1, a2⟩ := hargs σ ρ m hS
    obtain ⟨b1, b2⟩ := args_rd (ρ := ρ) (m := w.mem) (va := c.args.map act.eval) (xs := xs) f1 (by omega) f2 f3 (fun j u x e1 e2 => by
      have hj : j < args.length := by rw [s1]; exact (List.getElem?_eq_some_iff.1 e2).1
      obtain ⟨x', k1, k2⟩ := s2 j (σ.o args[j]) (by rw [List.getElem?_map, List.getElem?_eq_getElem hj]; rfl)
      rw [e2] at k1; cases k1
      exact snap_rd hS k2 (a2 j u _ e1 (List.getElem?_eq_getElem hj))) f4
    refine (hC.2 w w.mem ρ _ (Bxs.nil _ _ _) ⟨Le.refl _, hS.glob.mono hS.mem, List.nodup_nil⟩ b1 b2).mono ?_
    rintro e w' ⟨v, r, B, ρ', m', rfl, ⟨y, rfl, hy, hK⟩, _, _, _, _, _, _, hv', hkp⟩
    have hx : Ext w w' := Keep.ext hkp
    exact ⟨v, .pv y, σ, ρ, m, rfl, hK, hS.ext hx, .pv _ _ (hv'.pv_inv.flat hy), hx⟩
  · obtain ⟨m1, hm1, hF⟩ := Sat.frzsL fz hS
    have hfv := hF.opd hf
    rw [h1] at hfv
    obtain ⟨vf, vc, hv, f1, f2, f3, f4⟩ := fn_inv hfv.pv_inv
    rw [callop ho hc hv hC.1, Oper.uponIn_enter]
    refine ⟨FF.one, callsFF ?_⟩
    obtain ⟨s1, s2⟩ := pvs_get h2
    obtain ⟨a1, a2⟩ := hargs _ ρ m1 hF
    obtain ⟨b1, b2⟩ := args_rd (ρ := ρ) (m := m1) (va := c.args.map act.eval) (xs := xs) f1 (by omega) f2 f3 (fun j u x e1 e2 => by
      have hj : j < args.length := by rw [s1]; exact (List.getElem?_eq_some_iff.1 e2).1
      obtain ⟨x', k1, k2⟩ := s2 j _ (List.getElem?_eq_getElem hj)
      rw [e2] at k1; cases k1
      have := a2 j u _ e1 (List.getElem?_eq_getElem hj)
      rw [k2] at this
      exact this.pv_inv) f4
    refine (hC.2 w m1 ρ _ (Bxs.nil _ _ _) ⟨hF.mem, hF.glob, List.nodup_nil⟩ b1 b2).mono ?_
    rintro e w' ⟨v, r, B, ρ', m', rfl, ⟨⟨r1, r2⟩, hK⟩, hB, hm', hw', _, hbl, hfr, hv', hkp⟩
    have hx : Ext w w' := Keep.ext hkp
    obtain ⟨ρ'', k1, k2⟩ := (hF.purge d).ret (NoD.purge d _) hx hB r2 hm' hw' (fun s b i hs hr => by
      rcases hbl s b i hs hr with k | k
      · exact k
      · simp [lentB] at k) (fun b o v hv => by
      rcases hfr b o v hv with k | k | k
      · exact .inl k
      · exact .inr k
      · simp [lentB] at k)
    exact ⟨v, _, _, ρ'', m', rfl, hK, k1, k2 r1 hv', hx⟩
end
end Go.Proofs.Ytohhjnpiiackjaa
/-! An evaluation of Go's code over plain values: calls that are lent boxes. Over any program. -/
namespace Go.Proofs.Ytohhjnpiiackjaa
open Go.RowKit
/-- The name that a lent box has for the callee. -/
def inG (lent : List Site) (s : Site) : Site := match lent.findIdx? (fun x => decide (x = s)) with
  | some j => .par j
  | none => s
def outG (lent : List Site) (d : Nat) : Site → Site
  | .par i => lent.getD i default
  | .ret j => .loc d j
  | s => s
def outOk (lent : List Site) : Site → Bool
  | .par i => decide (i < lent.length)
  | .ret _ => true
  | _ => false
def lentBx (σ : AS) (lent : List Site) : Nat → List Site → Option (List (Site × Box))
  | _, [] => some []
  | i, s :: r => match σ.b s, lentBx σ lent (i + 1) r with
    | some b, some l => if b.allS (fun x => lent.contains x) = true then some ((.par i, b.ren (inG lent)) :: l) else none
    | _, _ => none
def dropL : List Site → AS → AS
  | [], σ => σ
  | s :: r, σ => dropL r (σ.drop s)
def renL (lent : List Site) (d : Nat) (B : List (Site × Box)) : List (Site × Box) := B.map fun p => (outG lent d p.1, p.2.ren (outG lent d))
/-- A call that is lent the boxes 'lent'. -/
def callLwp (P : Program) (f : Opd) (args : List Opd) (K : AV → AS → Prop) (σ : AS) : Prop :=
  ∃ (d : Nat) (fz lent : List Site) (g : FuncId) (fs cs : List AV) (B : List (Site × Box)),
    ((frzsL fz σ).o f = .fn g fs cs ∨ ∃ fs' cs', (frzsL fz σ).o f = .pv (.fn g fs' cs') ∧ fs = fs'.map .pv ∧ cs = cs'.map .pv) ∧ lent.Nodup ∧ lent.all (fun s => !s.isLoc d) = true ∧ lentBx (frzsL fz σ) lent 0 lent = some B ∧
    AV.allSL (fun x => lent.contains x) (fs ++ args.map (frzsL fz σ).o ++ cs) = true ∧
    CallsA P g (AV.mapL (inG lent) (fs ++ args.map (frzsL fz σ).o ++ cs)) B (fun r B' => r.allS (outOk lent) = true ∧ (∀ p ∈ B', outOk lent p.1 = true ∧ p.2.allS (outOk lent) = true) ∧
      K (r.map (outG lent d)) (((dropL lent (frzsL fz σ)).purge d).adds (renL lent d B')))
section
variable {P : Program} {N : Nat} {w0 : World} {m0 : Env w0} {pl : List Nat} {σ : AS} {ρ : Site → Loc} {m : Mem} {act : Act} {w : World} {o : Oper} {d : Nat} {K : AV → AS → Prop}
theorem dropL_b : ∀ (l : List Site) (σ : AS) (s : Site) (b : Box), (dropL l σ).b s = some b → σ.b s = some b ∧ s ∉ l
  | [], σ, s, b, h => ⟨h, by simp⟩
  | x :: r, σ, s, b, h => by
    obtain ⟨h1, h2⟩ := dropL_b r _ s b h
    rw [AS.b_drop] at h1
    split at h1
    · cases h1
    · rename_i hne
      exact ⟨h1, by simp [hne, h2]⟩
theorem dropL_t : ∀ (l : List Site) (σ : AS), (dropL l σ).tm = σ.tm
  | [], σ => rfl
  | x :: r, σ => by rw [dropL, dropL_t r]; rfl
theorem findIdx_at {l : List Site} {s : Site} {j : Nat} (h : l.findIdx? (fun x => decide (x = s)) = some j) : l[j]? = some s := by
  obtain ⟨hj, h1, _⟩ := List.findIdx?_eq_some_iff_getElem.1 h
  rw [List.getElem?_eq_getElem hj]
  simpa using h1
theorem inG_mem {lent : List Site} {s : Site} (h : s ∈ lent) : ∃ j, lent.findIdx? (fun x => decide (x = s)) = some j ∧ lent[j]? = some s := by
  cases hf : lent.findIdx? (fun x => decide (x = s)) with
  | some j => exact ⟨j, rfl, findIdx_at hf⟩
  | none =>
    rw [List.findIdx?_eq_none_iff] at hf
    have := hf s h
    simp at this
theorem lentBx_spec (σ : AS) (lent : List Site) : ∀ (l : List Site) (i : Nat) (B : List (Site × Box)), lentBx σ lent i l = some B →
    (∀ s b, B.lookup s = some b → ∃ j s0 b0, s = .par (i + j) ∧ l[j]? = some s0 ∧ σ.b s0 = some b0 ∧ b = b0.ren (inG lent) ∧ b0.allS (fun x => lent.contains x) = true) ∧ (∀ s ∈ l, ∃ b, σ.b s = some b) ∧ (∀ s0 ∈ l, ∃ s b, (s, b) ∈ B ∧ ∃ j, s = .par (i + j) ∧ l[j]? = some s0) ∧ (∀ p ∈ B, ∃ j s0 b0, p.1 = .par (i + j) ∧ l[j]? = some s0 ∧ σ.b s0 = some b0 ∧ p.2 = b0.ren (inG lent))
  | [], i, B, h => by
    simp [lentBx] at h; subst h
    exact ⟨fun s b h => by simp [List.lookup] at h, fun s h => (by cases h), fun s h => (by cases h), fun p h => (by cases h)⟩
  | x :: r, i, B, h => by
    unfold lentBx at h
    split at h
    · rename_i b l h1 h2
      split at h
      · rename_i hall
        cases h
        obtain ⟨k1, k2, k3, k4⟩ := lentBx_spec σ lent r (i + 1) l h2
        refine ⟨fun s c hs => ?_, fun s hs => ?_, fun s hs => ?_, fun p hp => ?_⟩
        · by_cases e : s = .par i
          · subst e
            rw [lookup_cons_eq] at hs; cases hs
            exact ⟨0, x, b, rfl, rfl, h1, rfl, hall⟩
          · rw [lookup_cons_ne e] at hs
            obtain ⟨j, s0, b0, e1, e2, e3⟩ := k1 s c hs
            exact ⟨j + 1, s0, b0, by rw [e1]; congr 1; omega, by simpa using e2, e3⟩
        · rcases List.mem_cons.1 hs with rfl | hs
          · exact ⟨b, h1⟩
          · exact k2 s hs
        · rcases List.mem_cons.1 hs with rfl | hs
          · exact ⟨.par i, b.ren (inG lent), by simp, 0, rfl, rfl⟩
          · obtain ⟨s', b', q1, j, q2, q3⟩ := k3 s hs
            exact ⟨s', b', by simp [q1], j + 1, by rw [q2]; congr 1; omega, by simpa using q3⟩
        · rcases List.mem_cons.1 hp with rfl | hp
          · exact ⟨0, x, b, rfl, rfl, h1, rfl⟩
          · obtain ⟨j, s0, b0, q1, q2, q3⟩ := k4 p hp
            exact ⟨j + 1, s0, b0, by rw [q1]; congr 1; omega, by simpa using q2, q3⟩
      · cases h
    · cases h
theorem lookup_renL (lent : List Site) (d : Nat) : ∀ (B : List (Site × Box)) s b, (renL lent d B).lookup s = some b → ∃ s0 b0, B.lookup s0 = some b0 ∧ (s0, b0) ∈ B ∧ s = outG lent d s0 ∧ b = b0.ren (outG lent d)
  | [], s, b, h => by simp [renL] at h
  | (s', b') :: r, s, b, h => by
    simp only [renL, List.map_cons] at h
    by_cases e : s = outG lent d s'
    · subst e
      rw [lookup_cons_eq] at h; cases h
      exact ⟨s', b', lookup_cons_eq, by simp, rfl, rfl⟩
    · rw [lookup_cons_ne e] at h
      obtain ⟨s0, b0, h0, h1, h2, h3⟩ := lookup_renL lent d r s b h
      exact ⟨s0, b0, by rw [lookup_cons_ne (fun e2 => e (by rw [h2, e2]))]; exact h0, by simp [h1], h2, h3⟩
theorem fnA_inv {v : Value} {g : FuncId} {fs cs : List AV} (h : RdA ρ m v (.fn g fs cs)) : ∃ vf vc : Array Value, v = .func (.func g) vf vc ∧ vf.size = fs.length ∧ vc.size = cs.length ∧ (∀ (j : Nat) (d : Value) (c : AV), vf[j]? = some d → fs[j]? = some c → RdA ρ m d c) ∧ (∀ (j : Nat) (d : Value) (c : AV), vc[j]? = some d → cs[j]? = some c → RdA ρ m d c) := by
  cases h with
  | fn _ vf vc _ _ h0 h1 h2 h3 => exact ⟨vf, vc, rfl, h0, h1, h2, h3⟩
theorem argsA_rd {vf va vc : Array Value} {fs xs cs : List AV} (h1 : vf.size = fs.length) (h2 : va.size = xs.length) (h3 : vc.size = cs.length) (k1 : ∀ (j : Nat) (d : Value) (c : AV), vf[j]? = some d → fs[j]? = some c → RdA ρ m d c)
    (k2 : ∀ (j : Nat) (d : Value) (c : AV), va[j]? = some d → xs[j]? = some c → RdA ρ m d c) (k3 : ∀ (j : Nat) (d : Value) (c : AV), vc[j]? = some d → cs[j]? = some c → RdA ρ m d c) :
    (vf ++ va ++ vc).size = (fs ++ xs ++ cs).length ∧ ∀ (j : Nat) (d : Value) (c : AV), (vf ++ va ++ vc)[j]? = some d → (fs ++ xs ++ cs)[j]? = some c → RdA ρ m d c := by
  refine ⟨by simp [h1, h2, h3], fun j d c e1 e3 => ?_⟩
  rw [Array.getElem?_append, Array.getElem?_append] at e1
  rw [List.getElem?_append, List.getElem?_append] at e3
  simp only [Array.size_append, List.length_append, h1, h2] at e1 e3
  split at e1
  · rename_i c1
    rw [if_pos c1] at e3
    split at e1
    · rename_i c2; rw [if_pos c2] at e3; exact k1 j d c e1 e3
    · rename_i c2; rw [if_neg c2] at e3; exact k2 _ d c e1 e3
  · rename_i c1
    rw [if_neg c1] at e3
    exact k3 _ d c e1 e3
theorem litOp_call {f : Opd} {args : List Opd} (hl : litOp P o.op = .call f args) : ∃ c fo, o.op = .call c ∧ c.callee = .value fo ∧ opd fo = some f ∧ opds c.args.toList = some args := by
  replace hl := litOp_call0 hl
  cases hop : o.op <;> rw [hop] at hl
  case call c =>
    simp only [litOp0] at hl
    split at hl
    all_goals first
      | (rename_i fo hc
         split at hl
         · rename_i e1 e2
           cases hl
           exact ⟨c, fo, rfl, hc, e1, e2⟩
         · cases hl)
      | (exfalso; repeat' (first | (cases hl; done) | split at hl))
  case unOp op t x => exfalso; cases op <;> simp only [litOp0] at hl <;> (try split at hl) <;> cases hl
  case makeFunc fn fs cs => exfalso; cases fn <;> simp only [litOp0] at hl <;> (try split at hl) <;> cases hl
  case slice t x lo hi mx => exfalso; cases mx <;> simp only [litOp0] at hl <;> (try split at hl) <;> cases hl
  all_goals (exfalso; simp only [litOp0, nilK] at hl; repeat' (first | (cases hl; done) | split at hl))
theorem nodup_idx {l : List Site} (h : l.Nodup) {i j : Nat} {s : Site} (hi : l[i]? = some s) (hj : l[j]? = some s) : i = j := by
  obtain ⟨h1, e1⟩ := List.getElem?_eq_some_iff.1 hi
  obtain ⟨h2, e2⟩ := List.getElem?_eq_some_iff.1 hj
  have hp := List.pairwise_iff_getElem.1 h
  rcases Nat.lt_trichotomy i j with hlt | he | hlt
  · exact absurd (e1.trans e2.symm) (hp i j h1 h2 hlt)
  · exact he
  · exact absurd (e2.trans e1.symm) (hp j i h2 h1 hlt)
set_option maxHeartbeats 1000000 in
/-- BOXES ARE LENT, AND COME BACK. -/
theorem lentBx_keys {σ : AS} {lent : List Site} : ∀ (r : List Site) (i : Nat) (B : List (Site × Box)), lentBx σ lent i r = some B → B.map (·.1) = (List.range' i r.length).map .par
  | [], i, B, h => by simp [lentBx] at h; subst h; rfl
  | s :: r, i, B, h => by
    unfold lentBx at h
    split at h
    · rename_i b l h1 h2
      split at h
      · cases h
        rw [List.map_cons, lentBx_keys r (i + 1) l h2]
        rfl
      · cases h
    · cases h
theorem lentBx_nodup {σ : AS} {lent : List Site} {B : List (Site × Box)} (h : lentBx σ lent 0 lent = some B) : (B.map (·.1)).Nodup := by
  rw [lentBx_keys _ _ _ h, List.nodup_iff_pairwise_ne, List.pairwise_map]
  exact List.Pairwise.imp (fun h e => h (by cases e; rfl)) (List.nodup_iff_pairwise_ne.1 List.nodup_range')
theorem lend {σ1 : AS} {m1 : Mem} {lent : List Site} {B : List (Site × Box)} (hF : Sat N w0 m0 pl σ1 ρ m1 act w) (hnd : lent.Nodup) (hnl : lent.all (fun s => !s.isLoc d) = true) (hB : lentBx σ1 lent 0 lent = some B) :
    ∃ ρc : Site → Loc, (∀ s, lent.contains s = true → ρc (inG lent s) = ρ s) ∧ Bxs ρc m1 w B ∧ ∀ (R : AV → List (Site × Box) → Prop) (e : Ending) (w' : World), CPost w m1 ρc B (fun r B' => r.allS (outOk lent) = true ∧ (∀ p ∈ B', outOk lent p.1 = true ∧ p.2.allS (outOk lent) = true) ∧ R r B') e w' →
      ∃ v r B' ρ' m', e = .returned v ∧ R r B' ∧ Sat N w0 m0 pl (((dropL lent σ1).purge d).adds (renL lent d B')) ρ' m' act w' ∧ RdA ρ' m' v (r.map (outG lent d)) ∧ ∀ s, s.isLoc d = false → ρ' s = ρ s := by
  obtain ⟨l1, l2, l3, l4⟩ := lentBx_spec σ1 lent lent 0 B hB
  -- the callee's names
  let ρc : Site → Loc := fun s => match s with
    | .par i => ρ (lent.getD i default)
    | s => ρ s
  have hin : ∀ s, lent.contains s = true → ρc (inG lent s) = ρ s := fun s hs => by
    obtain ⟨j, k1, k2⟩ := inG_mem (show s ∈ lent by simpa using hs)
    unfold inG
    rw [k1]
    simp [ρc, List.getD, k2]
  have hlook : ∀ s b, B.lookup s = some b → ∃ j s0 b0, s = .par j ∧ lent[j]? = some s0 ∧ σ1.b s0 = some b0 ∧ b = b0.ren (inG lent) ∧ b0.allS (fun x => lent.contains x) = true := fun s b hs => by
    obtain ⟨j, s0, b0, e1, e2⟩ := l1 s b hs
    exact ⟨j, s0, b0, by simpa using e1, e2⟩
  have hpar : ∀ j s0, lent[j]? = some s0 → ρc (.par j) = ρ s0 := fun j s0 hj => by simp [ρc, List.getD, hj]
  have hinpar : ∀ j s0, lent[j]? = some s0 → inG lent s0 = .par j := fun j s0 hj => by
    obtain ⟨j', k1, k2⟩ := inG_mem (List.mem_of_getElem? hj)
    have e : j' = j := nodup_idx hnd k2 hj
    unfold inG
    rw [k1, e]
  have hBx : Bxs ρc m1 w B := by
    refine ⟨fun s b hs => ?_, fun s s' b b' i hs hs' r r' => ?_, fun s b i hs r => ?_⟩
    · obtain ⟨j, s0, b0, rfl, e2, e3, rfl, e5⟩ := hlook s b hs
      have := (hF.bx s0 b0 e3).ren hin (by simpa using List.mem_of_getElem? e2) e5
      rwa [hinpar j s0 e2] at this
    · obtain ⟨j, s0, b0, rfl, e2, e3, rfl, _⟩ := hlook s b hs
      obtain ⟨j', s0', b0', rfl, e2', e3', rfl, _⟩ := hlook s' b' hs'
      have := hF.injk s0 s0' b0 b0' i e3 e3' ((blk_ren (hpar j s0 e2)).1 r) ((blk_ren (hpar j' s0' e2')).1 r')
      subst this
      have : j = j' := nodup_idx hnd e2 e2'
      rw [this]
    · obtain ⟨j, s0, b0, rfl, e2, e3, rfl, _⟩ := hlook s b hs
      exact hF.offk s0 b0 i e3 ((blk_ren (hpar j s0 e2)).1 r)
  have hlent : ∀ k, k ∈ lentB ρc w B → ∃ s0 b0, s0 ∈ lent ∧ σ1.b s0 = some b0 ∧ blk ρ w s0 b0 k := fun k hk => by
    obtain ⟨p, hp, e⟩ := mem_lent.1 hk
    obtain ⟨j, s0, b0, e1, e2, e3, e4⟩ := l4 p hp
    rw [Nat.zero_add] at e1
    rw [e1, e4] at e
    exact ⟨s0, b0, List.mem_of_getElem? e2, e3, (blk_ren (hpar j s0 e2)).1 e⟩
  refine ⟨ρc, hin, hBx, fun R e w' h => ?_⟩
  revert h
  rintro ⟨v, r, B', ρ', m', rfl, ⟨r1, r2, hK⟩, hB', hm', hw', hp', hbl, hfr, hv', hkp⟩
  -- the state behind it
  have hN := NoD.purge d (dropL lent σ1)
  let ρ'' : Site → Loc := fun s => match s with
    | .loc e j => if e = d then ρ' (.ret j) else ρ s
    | s => ρ s
  have e1 : ∀ s, s.isLoc d = false → ρ'' s = ρ s := fun s hs => by
    cases s with
    | loc e j =>
      have : ¬ e = d := fun h => by subst h; simp [Site.isLoc] at hs
      simp [ρ'', this]
    | _ => rfl
  have hlentd : ∀ s ∈ lent, s.isLoc d = false := fun s hs => by
    have := List.all_eq_true.1 hnl s hs
    simpa using this
  have e2 : ∀ s, outOk lent s = true → ρ'' (outG lent d s) = ρ' s := fun s hs => by
    cases s with
    | par i =>
      simp only [outOk, decide_eq_true_eq] at hs
      have hg := List.getElem?_eq_getElem hs
      have : outG lent d (.par i) = lent[i] := by simp [outG, List.getD, hg]
      rw [this, e1 _ (hlentd _ (List.getElem_mem hs)), hp' i, hpar i _ hg]
    | ret j => simp [ρ'', outG]
    | loc e j => cases hs
  have hst : ∀ s b, ((dropL lent σ1).purge d).b s = some b → s.isLoc d = false ∧ s ∉ lent ∧ ∃ b0, σ1.b s = some b0 ∧ b = b0.purge d := fun s b k => by
    rw [AS.b_purge] at k
    split at k
    · cases k
    · rename_i hnd
      obtain ⟨b0, k1, rfl⟩ := Option.map_eq_some_iff.1 k
      obtain ⟨k2, k3⟩ := dropL_b lent σ1 s b0 k1
      exact ⟨by simpa using hnd, k3, b0, k2, rfl⟩
  have look : ∀ s b, (((dropL lent σ1).purge d).adds (renL lent d B')).b s = some b → (∃ s0 b0, B'.lookup s0 = some b0 ∧ outOk lent s0 = true ∧ b0.allS (outOk lent) = true ∧ s = outG lent d s0 ∧ b = b0.ren (outG lent d)) ∨ (((dropL lent σ1).purge d).b s = some b) := fun s b k => by
    have k' : (renL lent d B' ++ ((dropL lent σ1).purge d).bx).lookup s = some b := k
    rw [lookup_app] at k'
    cases hl : (renL lent d B').lookup s with
    | some c =>
      rw [hl] at k'
      simp at k'
      subst k'
      obtain ⟨s0, b0, k1, k2, k3, k4⟩ := lookup_renL lent d B' s c hl
      exact .inl ⟨s0, b0, k1, (r2 _ k2).1, (r2 _ k2).2, k3, k4⟩
    | none =>
      rw [hl] at k'
      simp at k'
      exact .inr k'
  have notlent : ∀ s b0 k, s ∉ lent → σ1.b s = some b0 → blk ρ w s b0 k → k ∉ lentB ρc w B := fun s b0 k hs hb hr hk => by
    obtain ⟨s0, b0', k1, k2, k3⟩ := hlent _ hk
    have := hF.injk s0 s b0' b0 k k2 hb k3 hr
    subst this
    exact hs k1
  have stay : ∀ s b0, s ∉ lent → σ1.b s = some b0 → ∀ k, blk ρ w s b0 k → w'.heap[k]? = w.heap[k]? := fun s b0 hs hb k hr => hkp.block k (hF.ltk hb hr) (notlent s b0 k hs hb hr)
  have back : ∀ s b0, s.isLoc d = false → s ∉ lent → σ1.b s = some b0 → ∀ k, blk ρ'' w' s (b0.purge d) k → blk ρ w s b0 k := fun s b0 h1 hs hb k hr =>
    ((hF.bx s b0 hb).blk_same (fun r => stay s b0 hs hb _ (blk_own r))).1 (blk_purge.1 ((blk_at (e1 s h1)).1 hr))
  have hnod : ∃ ds : List Nat, Mix m0.rest ds act.defers ∧ Nod m0.strict ds ∧ ∀ D ∈ ds, (w0.heap.size ≤ D ∨ D ∈ pl) ∧ w'.heap[D]? = some (.deferred (some [])) := by
    obtain ⟨ds, g1, g0, g2⟩ := hF.nod
    refine ⟨ds, g1, g0, fun D hD => ⟨(g2 D hD).1, ?_⟩⟩
    obtain ⟨g3, g4⟩ := g2 D hD
    rw [hkp.block D (Array.getElem?_eq_some_iff.1 g4).1 (fun q => by
      obtain ⟨s1, b1, q1, q2, q3⟩ := hlent _ q
      exact (hF.bx s1 b1 q2).objk q3 g4)]
    exact g4
  have newb : ∀ s0 b0 k, B'.lookup s0 = some b0 → blk ρ' w' s0 b0 k → w.heap.size ≤ k ∨ k ∈ lentB ρc w B := hbl
  refine ⟨v, r, B', ρ'', m', rfl, hK, ⟨hnod, hF.sz, fun t a k => ?_, fun s b k => ?_, fun s s' b b' i k k' rr rr' => ?_, hw', fun s b i k rr => ?_, fun s b i k rr => ?_, ?_, hF.base.trans hm', fun b o' v' hv2 => ?_, fun i => hF.par i⟩, hv'.map e2 r1, e1⟩
  · have k' : ((dropL lent σ1).purge d).t t = some a := k
    have hno := hN.t t a k'
    rw [AS.t_purge] at k'
    obtain ⟨a0, k1, rfl⟩ := Option.map_eq_some_iff.1 k'
    have k2 : σ1.t t = some a0 := by
      unfold AS.t at k1 ⊢
      rw [dropL_t] at k1; exact k1
    obtain ⟨u, k3, k4⟩ := hF.tm t a0 k2
    refine ⟨u, k3, ?_⟩
    have k5 : RdA ρ m1 u (a0.purge d) := by
      unfold AV.purge
      split
      · exact .any u
      · exact k4
    exact k5.mono hm' e1 hno
  · rcases look s b k with ⟨s0, b0, k1, k2, k3, rfl, rfl⟩ | k1
    · exact (hB'.bx s0 b0 k1).ren e2 k2 k3
    · obtain ⟨k2, k3, b0, k4, rfl⟩ := hst s b k1
      exact ((hF.bx s b0 k4).purge d).stay hm' e1 k2 (Box.purge_has d b0) (fun i hr => stay s b0 k3 k4 i (blk_purge.1 hr))
  · rcases look s b k with ⟨s0, b0, k1, k2, k3, rfl, rfl⟩ | k1 <;> rcases look s' b' k' with ⟨s0', b0', k1', k2', k3', rfl, rfl⟩ | k1'
    · rw [hB'.injk s0 s0' b0 b0' i k1 k1' ((blk_ren (e2 s0 k2)).1 rr) ((blk_ren (e2 s0' k2')).1 rr')]
    · obtain ⟨h2, h3, c0, h4, rfl⟩ := hst s' b' k1'
      have r2' := back s' c0 h2 h3 h4 i rr'
      rcases newb s0 b0 i k1 ((blk_ren (e2 s0 k2)).1 rr) with q | q
      · have := hF.ltk h4 r2'; omega
      · exact absurd q (notlent s' c0 i h3 h4 r2')
    · obtain ⟨h2, h3, c0, h4, rfl⟩ := hst s b k1
      have r2 := back s c0 h2 h3 h4 i rr
      rcases newb s0' b0' i k1' ((blk_ren (e2 s0' k2')).1 rr') with q | q
      · have := hF.ltk h4 r2; omega
      · exact absurd q (notlent s c0 i h3 h4 r2)
    · obtain ⟨h2, h3, c0, h4, rfl⟩ := hst s b k1
      obtain ⟨h2', h3', c0', h4', rfl⟩ := hst s' b' k1'
      exact hF.injk s s' c0 c0' i h4 h4' (back s c0 h2 h3 h4 i rr) (back s' c0' h2' h3' h4' i rr')
  · rcases look s b k with ⟨s0, b0, k1, k2, k3, rfl, rfl⟩ | k1
    · exact hB'.offk s0 b0 i k1 ((blk_ren (e2 s0 k2)).1 rr)
    · obtain ⟨h2, h3, c0, h4, rfl⟩ := hst s b k1
      have r2 := back s c0 h2 h3 h4 i rr
      intro o'
      cases hx : m' i o' with
      | none => rfl
      | some u =>
        rcases hfr _ _ _ hx with q | q | q
        · rw [hF.offk s c0 i h4 r2 o'] at q; cases q
        · have := hF.ltk h4 r2; omega
        · exact absurd q (notlent s c0 i h3 h4 r2)
  · rcases look s b k with ⟨s0, b0, k1, k2, k3, rfl, rfl⟩ | k1
    · rcases newb s0 b0 i k1 ((blk_ren (e2 s0 k2)).1 rr) with q | q
      · exact .inl (Nat.le_trans hF.keep.size q)
      · obtain ⟨s1, b1, q1, q2, q3⟩ := hlent _ q
        exact hF.ownk s1 b1 i q2 q3
    · obtain ⟨h2, h3, c0, h4, rfl⟩ := hst s b k1
      exact hF.ownk s c0 i h4 (back s c0 h2 h3 h4 i rr)
  · refine ⟨hkp.os.trans hF.keep.os, hkp.tape.trans hF.keep.tape, hkp.output.trans hF.keep.output, Nat.le_trans hF.keep.size hkp.size, fun k hk hn => ?_⟩
    refine (hkp.block k (Nat.lt_of_lt_of_le hk hF.keep.size) (fun q => ?_)).trans (hF.keep.block k hk hn)
    obtain ⟨s1, b1, q1, q2, q3⟩ := hlent _ q
    rcases hF.ownk s1 b1 k q2 q3 with h' | h'
    · omega
    · exact hn h'
  · rcases hfr _ _ _ hv2 with q | q | q
    · exact hF.fro _ _ _ q
    · exact .inr (.inl (Nat.le_trans hF.keep.size q))
    · obtain ⟨s1, b1, q1, q2, q3⟩ := hlent _ q
      rcases hF.ownk s1 b1 _ q2 q3 with h' | h'
      · exact .inr (.inl h')
      · exact .inr (.inr h')
/-- A CALL THAT IS LENT BOXES. -/
theorem callL_wp {ro : Option Nat} {f : Opd} {args : List Opd} (hl : litOp P o.op = .call f args) (h : callLwp P f args K σ) (hS : Sat N w0 m0 pl σ ρ m act w) {Q : Exit → Act → World → Prop} :
    o.wpIn (FF ro) 1 P act w (fun act' w' => ∃ v a τ ρ' m', act' = act.put o.dst v ∧ K a τ ∧ Sat N w0 m0 pl τ ρ' m' act w' ∧ RdA ρ' m' v a) Q := by
  obtain ⟨c, fo, ho, hc, hf, ha⟩ := litOp_call hl
  obtain ⟨d, fz, lent, g, fs, cs, B, hfn, hnd, hnl, hB, hall, hC⟩ := h
  obtain ⟨m1, _, hF⟩ := hS.frzsL fz
  generalize frzsL fz σ = σ1 at hfn hB hall hC hF
  obtain ⟨q1, q2⟩ := opds_get ha
  obtain ⟨ρc, hin, hBx, hout⟩ := lend hF hnd hnl hB
  -- the callee's value and arguments
  have hfv : ∃ vf vc : Array Value, act.eval fo = .func (.func g) vf vc ∧ vf.size = fs.length ∧ vc.size = cs.length ∧ (∀ (j : Nat) (d : Value) (c : AV), vf[j]? = some d → fs[j]? = some c → RdA ρ m1 d c) ∧ (∀ (j : Nat) (d : Value) (c : AV), vc[j]? = some d → cs[j]? = some c → RdA ρ m1 d c) := by
    have h1 := hF.opd hf
    rcases hfn with hfn | ⟨fs', cs', hfn, rfl, rfl⟩
    · rw [hfn] at h1; exact fnA_inv h1
    · rw [hfn] at h1
      obtain ⟨vf, vc, e1, e2, e3, e4, e5⟩ := fn_inv h1.pv_inv
      refine ⟨vf, vc, e1, by simpa using e2, by simpa using e3, fun j d c k1 k2 => ?_, fun j d c k1 k2 => ?_⟩
      · rw [List.getElem?_map] at k2
        obtain ⟨x, k3, rfl⟩ := Option.map_eq_some_iff.1 k2
        exact .pv _ _ (e4 j d x k1 k3)
      · rw [List.getElem?_map] at k2
        obtain ⟨x, k3, rfl⟩ := Option.map_eq_some_iff.1 k2
        exact .pv _ _ (e5 j d x k1 k3)
  obtain ⟨vf, vc, hv, f1, f2, f3, f4⟩ := hfv
  have hsz : (c.args.map act.eval).size = (args.map σ1.o).length := by simp; simpa using q1
  obtain ⟨b1, b2⟩ := argsA_rd (ρ := ρ) (m := m1) (va := c.args.map act.eval) (xs := args.map σ1.o) f1 hsz f2 f3 (fun j u y hu hy => by
    rw [Array.getElem?_map] at hu
    obtain ⟨x, k1, rfl⟩ := Option.map_eq_some_iff.1 hu
    obtain ⟨y', k2, k3⟩ := q2 j x (by simpa using k1)
    rw [List.getElem?_map, k2] at hy
    cases hy
    exact hF.opd k3) f4
  unfold Oper.wpIn
  refine ⟨fun _ _ => trivial, ?_⟩
  rw [Oper.semAt_eq _ _ _ (fun c' e => by rw [ho] at e; cases e), callop ho hc hv hC.1, Oper.uponIn_enter]
  refine ⟨FF.one, callsFF ?_⟩
  refine (hC.2 w m1 ρc _ hBx ⟨hF.mem, hF.glob, lentBx_nodup hB⟩ (by rw [mapL_len]; exact b1) (fun j u y hu hy => by
    rw [mapL_get] at hy
    obtain ⟨a, k1, rfl⟩ := Option.map_eq_some_iff.1 hy
    exact (b2 j u a hu k1).map hin (allSL_get hall k1))).mono ?_
  intro e w' h
  obtain ⟨v, r, B', ρ', m', rfl, hK, k1, k2, _⟩ := hout (fun r B' => K (r.map (outG lent d)) (((dropL lent σ1).purge d).adds (renL lent d B'))) e w' h
  exact ⟨v, _, _, ρ', m', rfl, hK, k1, k2⟩
end
end Go.Proofs.Ytohhjnpiiackjaa
/-! An evaluation of Go's code over plain values: rounds of a range over a function. Over any program. -/
namespace Go.Proofs.Ytohhjnpiiackjaa
open Go.RowKit
/-- What a round of the loop whose record is the box 'par i' comes to. -/
def YieldsA (P : Program) (i : Nat) (as : List AV) (B : List (Site × Box)) (Post : AV → List (Site × Box) → Prop) : Prop :=
  ∀ (w : World) (m : Mem) (ρ : Site → Loc) (vs : Array Value), Bxs ρ m w B → (Le m w.mem ∧ Glob m w ∧ (B.map (·.1)).Nodup) → vs.size = as.length → (∀ (j : Nat) (d : Value) (c : AV), vs[j]? = some d → as[j]? = some c → RdA ρ m d c) →
    ∃ r, w.heap[(ρ (.par i)).b]? = some (.loop r) ∧ vs.size = r.params.size ∧ RoundIn (FF none) 0 P (ρ (.par i)).b r.fn ((r.params.zip vs).foldl (fun tmps (t, a) => tmps.setIfInBounds t a) r.tmps) r.assign r.body w (CPost w m ρ B Post)
/-- A round: a call of yield. -/
def callYwp (P : Program) (f : Opd) (args : List Opd) (K : AV → AS → Prop) (σ : AS) : Prop :=
  ∃ (d : Nat) (fz lent : List Site) (s : Site) (i : Nat) (B : List (Site × Box)), (frzsL fz σ).o f = .yld s ∧ lent[i]? = some s ∧ lent.Nodup ∧ lent.all (fun s => !s.isLoc d) = true ∧ lentBx (frzsL fz σ) lent 0 lent = some B ∧
    AV.allSL (fun x => lent.contains x) (args.map (frzsL fz σ).o) = true ∧
    YieldsA P i (AV.mapL (inG lent) (args.map (frzsL fz σ).o)) B (fun r B' => r.allS (outOk lent) = true ∧ (∀ p ∈ B', outOk lent p.1 = true ∧ p.2.allS (outOk lent) = true) ∧
      K (r.map (outG lent d)) (((dropL lent (frzsL fz σ)).purge d).adds (renL lent d B')))
theorem roundFF {ro : Option Nat} {n : Nat} {P : Program} {l : Nat} {f : FuncId} {tmps : Array Value} {a b : Code} {w : World} {R : Ending → World → Prop} (h : RoundIn (FF none) n P l f tmps a b w R) : RoundIn (FF ro) n P l f tmps a b w R := h
section
variable {P : Program} {N : Nat} {w0 : World} {m0 : Env w0} {pl : List Nat} {σ : AS} {ρ : Site → Loc} {m : Mem} {act : Act} {w : World} {o : Oper} {d : Nat} {K : AV → AS → Prop}
theorem yld_inv {v : Value} {s : Site} (h : RdA ρ m v (.yld s)) : v = .func (.yield (ρ s).b) #[] #[] := by cases h; rfl
theorem yieldop {c : Call} {fo : Operand} (ho : o.op = .call c) (hc : c.callee = .value fo) {l : Nat} (hv : act.eval fo = .func (.yield l) #[] #[]) {r : Loop} (hr : w.heap[l]? = some (.loop r)) (hs : (c.args.map act.eval).size = r.params.size) :
    (execOp act.eval o).run P w = .ok (.round l r.fn ((r.params.zip (c.args.map act.eval)).foldl (fun tmps (t, a) => tmps.setIfInBounds t a) r.tmps) r.assign r.body) w := by
  have := run_yield (P := P) hr hs
  unfold execOp
  simp only [ho]
  simp [resolve, hc, hv, Deferred.ofValue, invoke, this]
theorem callY_wp {ro : Option Nat} {f : Opd} {args : List Opd} (hl : litOp P o.op = .call f args) (h : callYwp P f args K σ) (hS : Sat N w0 m0 pl σ ρ m act w) {Q : Exit → Act → World → Prop} :
    o.wpIn (FF ro) 1 P act w (fun act' w' => ∃ v a τ ρ' m', act' = act.put o.dst v ∧ K a τ ∧ Sat N w0 m0 pl τ ρ' m' act w' ∧ RdA ρ' m' v a) Q := by
  obtain ⟨c, fo, ho, hc, hf, ha⟩ := litOp_call hl
  obtain ⟨d, fz, lent, s, i, B, hfn, hi, hnd, hnl, hB, hall, hC⟩ := h
  obtain ⟨m1, _, hF⟩ := hS.frzsL fz
  generalize frzsL fz σ = σ1 at hfn hB hall hC hF
  obtain ⟨q1, q2⟩ := opds_get ha
  obtain ⟨ρc, hin, hBx, hout⟩ := lend hF hnd hnl hB
  have hv : act.eval fo = .func (.yield (ρ s).b) #[] #[] := by
    have := hF.opd hf
    rw [hfn] at this
    exact yld_inv this
  have hpar : ρc (.par i) = ρ s := by
    have h1 := hin s (by simpa using List.mem_of_getElem? hi)
    have h2 : inG lent s = .par i := by
      obtain ⟨j', k1, k2⟩ := inG_mem (List.mem_of_getElem? hi)
      have e : j' = i := nodup_idx hnd k2 hi
      unfold inG
      rw [k1, e]
    rw [h2] at h1
    exact h1
  have hsz : (c.args.map act.eval).size = (args.map σ1.o).length := by simp; simpa using q1
  have hrd : ∀ (j : Nat) (u : Value) (y : AV), (c.args.map act.eval)[j]? = some u → (args.map σ1.o)[j]? = some y → RdA ρ m1 u y := fun j u y hu hy => by
    rw [Array.getElem?_map] at hu
    obtain ⟨x, k1, rfl⟩ := Option.map_eq_some_iff.1 hu
    obtain ⟨y', k2, k3⟩ := q2 j x (by simpa using k1)
    rw [List.getElem?_map, k2] at hy
    cases hy
    exact hF.opd k3
  obtain ⟨r, hr, hps, hR⟩ := hC w m1 ρc (c.args.map act.eval) hBx ⟨hF.mem, hF.glob, lentBx_nodup hB⟩ (by rw [mapL_len]; exact hsz) (fun j u y hu hy => by
    rw [mapL_get] at hy
    obtain ⟨a, k1, rfl⟩ := Option.map_eq_some_iff.1 hy
    exact (hrd j u a hu k1).map hin (allSL_get hall k1))
  rw [hpar] at hr hR
  unfold Oper.wpIn
  refine ⟨fun _ _ => trivial, ?_⟩
  rw [Oper.semAt_eq _ _ _ (fun c' e => by rw [ho] at e; cases e), yieldop ho hc hv hr hps, Oper.uponIn_round]
  refine ⟨FF.one, roundFF (hR.mono ?_)⟩
  intro e w' h
  obtain ⟨v, r, B', ρ', m', rfl, hK, k1, k2, _⟩ := hout (fun r B' => K (r.map (outG lent d)) (((dropL lent σ1).purge d).adds (renL lent d B'))) e w' h
  exact ⟨v, _, _, ρ', m', rfl, hK, k1, k2⟩
end
end Go.Proofs.Ytohhjnpiiackjaa
