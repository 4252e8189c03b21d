/- Layer 2 (chain): books in which no item has more than one certificate, and all hold; what is reached. (Several texts in one.) -/
import Derived.Test.YtcgdopjmbadonaaChJ
import Derived.Test.YtcgdopjmbadonaaChI
import Derived.Test.YtcgdopjmbadonaaRows
import Derived.WalkKit
import Derived.ProofKit
import Derived.OpenShut
import Derived.Test.YtcgdopjmbadonaaChF
set_option linter.unusedVariables false
set_option linter.unusedSimpArgs false
/-! Layer 2 (chain): books in which no item has more than one certificate, and all hold; what is reached. -/
namespace Go.Proofs.Ytcgdopjmbadonaa
open Go.RowKit

set_option maxRecDepth 10000
set_option linter.unusedSimpArgs false
theorem filter_all {α : Type} {p : α → Bool} : ∀ {l : List α}, l.length ≤ (l.filter p).length → ∀ x ∈ l, p x = true
  | [], _, x, hx => by cases hx
  | a :: l, h, x, hx => by
    have hle := List.length_filter_le p l
    rw [List.filter_cons] at h
    cases ha : p a
    · rw [ha, if_neg (by simp), List.length_cons] at h
      omega
    · rw [ha, if_pos rfl, List.length_cons, List.length_cons] at h
      rcases List.mem_cons.1 hx with rfl | hx
      · exact ha
      · exact filter_all (by omega) x hx
theorem same_ok {b : Bk} (hb : b.ok) : ∀ k, k ≤ b.certs.length → b.same k
  | 0, _ => fun c hc => by simp at hc
  | k + 1, h => by
    have hc : b.certs[k]? = some (b.certs[k]'(by omega)) := List.getElem?_eq_getElem _
    refine same_next hc (same_ok hb k (by omega)) fun o ho => ?_
    have k1 := List.mem_of_find?_eq_some ho
    have k2 := List.find?_some ho
    simp only [decide_eq_true_eq] at k2
    exact hb.one o (List.mem_of_mem_take (fst_sub k o k1)) _ (List.getElem_mem _) k2
theorem nums_le {b : Bk} (hb : b.ok) : b.nums.length ≤ b.certs.length := by
  have h := (same_nums (fun c hc => by have := cert_bds hb hc; omega) (same_ok hb b.certs.length (Nat.le_refl _))).1
  rw [← h, sortI_len, List.length_map]
  exact fst_len _
/-- All certificates hold, if as many numbers hold as there are certificates. -/
theorem all_hold {b : Bk} (hb : b.ok) (h : (b.held []).length = b.certs.length) {c : Ct} (hc : c ∈ b.certs) : c.num ∈ b.held [] := by
  have hf := held_filter hb (bad := [])
  have hn := nums_le hb
  have := filter_all (l := b.nums) (p := fun n => (b.held []).contains n) (by rw [hf, h]; exact hn) c.num ((mem_nums hb).2 ⟨c, hc, rfl⟩)
  exact List.contains_iff_mem.1 this
attribute [local irreducible] Bk.held Bk.nums Bk.heldU Bk.span
structure Lone (b : Bk) : Prop where
  o : ∀ c ∈ b.certs, ∀ c' ∈ b.certs, c.it = c'.it → c = c'
  h : ∀ c ∈ b.certs, c.num ∈ b.held []
def Bk.sp (b : Bk) : Int → Cr := b.span (b.held [])
def Bk.isp (b : Bk) (item day below : Int) : Cr := b.itemSpan (b.held []) b.sp item day below
def endOf (r : Cr) (high : Bool) : Int := if high = true then r.hi else r.lo
theorem wider_zero (r : Cr) : r.wider 0 = r := by unfold Cr.wider Cr.plus; exact Cr.ext' (by simp) (by simp)
section
variable {b : Bk}
theorem sp_bdd (hb : b.ok) {c : Ct} (hc : c ∈ b.certs) (h : c.num ∈ b.held []) : (b.sp c.num).bdd 1000000000 := by
  have k1 := span_bdd hb c hc h
  have k2 := cert_bds hb hc
  unfold Bk.sp
  unfold Cr.bdd at k1 ⊢
  omega
theorem Lone.item (hb : b.ok) (hl : Lone b) {o : Ct} (ho : o ∈ b.certs) {day below : Int} (h : Bk.ofB o.it day below o = true) : b.isp o.it day below = (b.sp o.num).wider ((b.item o.it).drift * (day - o.day)) := by
  have hbd := cert_bds hb ho
  have hon : o.on day = true := by unfold Bk.ofB at h; simp only [Bool.and_eq_true] at h; exact h.2.2
  have hf := far_bd hb ho hon
  have hs := sp_bdd hb ho (hl.h o ho)
  unfold Bk.isp
  rw [itemSpan_fold hbd.2.2.2.2.1]
  rw [cut_eq (g := fun c : Ct => (b.sp c.num).wider ((b.item o.it).drift * (day - c.day))) (l' := [o]) (fun c hc => ?_) (fun c hc => ?_)]
  · rw [List.foldl_cons, List.foldl_nil]
    generalize (b.item o.it).drift * (day - o.day) = far at *
    generalize b.sp o.num = r at *
    unfold Cr.bdd at hs
    unfold Cr.cut Cr.wider Cr.plus everyR
    refine Cr.ext' ?_ ?_ <;> simp only
    · rw [Int.max_eq_right (by omega)]
    · rw [Int.min_eq_right (by omega)]
  · rw [List.mem_filter, Bool.and_eq_true] at hc
    have hit : c.it = o.it := by have := hc.2.1; unfold Bk.ofB at this; simp only [Bool.and_eq_true, decide_eq_true_eq] at this; exact this.2.1
    have := hl.o c hc.1 o ho hit
    subst this
    exact ⟨c, by simp, rfl⟩
  · simp at hc
    subst hc
    refine ⟨c, ?_, rfl⟩
    rw [List.mem_filter, Bool.and_eq_true, List.contains_iff_mem]
    exact ⟨ho, h, hl.h c ho⟩
theorem Lone.src (hb : b.ok) (hl : Lone b) {c : Ct} (hc : c ∈ b.certs) : (b.item c.src).std = true ∨ ∃ o ∈ b.certs, o.it = c.src ∧ o.num < c.num ∧ Bk.ofB o.it c.day c.num o = true := by
  rcases held_src hb hc (hl.h c hc) with h | ⟨o, ho, h, _⟩
  · exact .inl h
  · have h' := h
    unfold Bk.ofB at h'
    simp only [Bool.and_eq_true, decide_eq_true_eq] at h'
    exact .inr ⟨o, ho, h'.2.1, h'.1, by rw [h'.2.1]; exact h⟩
theorem Lone.sp_is (hb : b.ok) (hl : Lone b) {c : Ct} (hc : c ∈ b.certs) : b.sp c.num = (b.isp c.src c.day c.num).plus c.diff ∧ (b.isp c.src c.day c.num).bdd 2000000000 := by
  have := span_get hb ((mem_nums hb).2 ⟨c, hc, rfl⟩) (List.contains_iff_mem.2 (hl.h c hc))
  rw [get_of hb hc] at this
  exact this
theorem std_isp {item day below : Int} (h : (b.item item).std = true) : b.isp item day below = (b.item item).val := by
  unfold Bk.isp Bk.itemSpan
  rw [if_pos h]
theorem Lone.rising (hb : b.ok) (hl : Lone b) : ∀ c ∈ b.certs, (b.sp c.num).lo ≤ (b.sp c.num).hi := by
  have key : ∀ n : Nat, ∀ c ∈ b.certs, c.num = n → (b.sp c.num).lo ≤ (b.sp c.num).hi := by
    intro n
    induction n using Nat.strongRecOn with
    | _ n ih =>
    intro c hc hn
    have hbd := cert_bds hb hc
    rw [(hl.sp_is hb hc).1]
    have hi : (b.isp c.src c.day c.num).lo ≤ (b.isp c.src c.day c.num).hi := by
      rcases hl.src hb hc with h | ⟨o, ho, e1, e2, e3⟩
      · rw [std_isp h]
        exact (item_bds hb hbd.2.2.2.2.2.1 hbd.2.2.2.2.2.2.1).2.2.2
      · obtain ⟨m, hm, _, _⟩ := num_bd hb ho
        have := ih m (by omega) o ho hm
        have hit := hl.item hb ho e3
        rw [e1] at hit
        rw [hit]
        have hon : o.on c.day = true := by unfold Bk.ofB at e3; simp only [Bool.and_eq_true] at e3; exact e3.2.2
        have hf := far_bd hb ho hon
        rw [e1] at hf
        unfold Cr.wider Cr.plus
        simp only
        omega
    unfold Cr.plus
    simp only
    have := hbd.2.2.2.2.2.2.2.2.2.2.2.2.2
    omega
  intro c hc
  obtain ⟨n, hn, _, _⟩ := num_bd hb hc
  exact key n c hc hn
theorem Lone.contra (hb : b.ok) (hl : Lone b) : b.contra = false := by
  unfold Bk.contra
  rw [List.any_eq_false]
  intro c hc
  have h1 := hl.item hb hc (own_on hb hc)
  rw [Int.sub_self, Int.mul_zero, wider_zero] at h1
  have h1' : b.itemSpan (b.held []) (b.span (b.held [])) c.it c.day 1000 = b.sp c.num := h1
  have h2 := hl.rising hb c hc
  rw [h1', Bool.and_eq_true, decide_eq_true_eq]
  rintro ⟨_, h⟩
  omega
end
end Go.Proofs.Ytcgdopjmbadonaa

/-! Layer 2 (chain): the contract of reached. -/
namespace Go.Proofs.Ytcgdopjmbadonaa
open Go.RowKit
attribute [local simp] Box.purge Site.isLoc

set_option maxRecDepth 10000
set_option linter.unusedSimpArgs false
attribute [local irreducible] Bk.held Bk.nums Bk.heldU Bk.span Bk.sp Bk.isp
theorem end_c (r : Cr) (high : Bool) : Gives Try.prog 68 [r.pv, .bool high] (.int .i64 (endOf r high)) := by
  refine calls_of_awpS mixed L68_ok (Nat.le_of_ble_eq_true rfl) ?_
  cases high <;> simp [-getElem?_pos, L68, Cr.pv, endOf]
theorem reached_std (b : Bk) (hb : b.ok) (item day : Int) (high : Bool) (h0 : 0 ≤ item) (h1 : item < b.items.length) (hs : (b.item item).std = true) : Gives Try.prog 39 [b.pv, .int .i64 item, .int .i64 day, .bool high] (.int .i64 (endOf (b.item item).val high)) := by
  obtain ⟨j, rfl, hjl, z, hz, hbz, hgz⟩ := item_at h0 h1
  rw [hbz] at hs ⊢
  rw [hs] at hgz
  refine calls_of_awpS mixed L39_ok (Nat.le_of_ble_eq_true rfl) ?_
  simp [-getElem?_pos, -List.getElem?_map, L39, Bk.pv, itsP, ctsP, hjl, hgz]
  refine call_gives (k := 0) (fs := []) (xs := [z.val.pv, .bool high]) (cs := []) rfl rfl (end_c z.val high) rfl ?_
  simp [-getElem?_pos]
def rcS (b : Bk) (z : It) (item day : Int) (high : Bool) (k : Nat) : AS := ⟨[(1, .pv (.int .i64 item)), (2, .pv (.int .i64 day)), (3, .pv (.bool high)), (4, .ptr (.loc 4 0) 0), (9, .ptr (.loc 9 0) 0), (10, .pv (.int .i64 k))],
  [(.loc 9 0, .cells [.pv (.int .i64 z.drift), .pv (.bool false), .pv (.int .i64 z.val.lo), .pv (.int .i64 z.val.hi)]), (.loc 4 0, .cells b.cells)]⟩
set_option maxHeartbeats 16000000 in
theorem reached_c (b : Bk) (hb : b.ok) (hl : Lone b) : ∀ n : Nat, ∀ c ∈ b.certs, c.num = n → ∀ (day : Int) (high : Bool), 0 ≤ day ∧ day ≤ 1000 → Gives Try.prog 39 [b.pv, .int .i64 c.it, .int .i64 day, .bool high] (.int .i64 (endOf ((b.sp c.num).wider ((b.item c.it).drift * (day - c.day))) high)) := by
  intro n
  induction n using Nat.strongRecOn with
  | _ n ih =>
  intro c hc hn day high hd
  have hbd := cert_bds hb hc
  have hcl := hb.c
  obtain ⟨hsp, hib⟩ := hl.sp_is hb hc
  have hrec : Gives Try.prog 39 [b.pv, .int .i64 c.src, .int .i64 c.day, .bool high] (.int .i64 (endOf (b.isp c.src c.day c.num) high)) := by
    rcases hl.src hb hc with h | ⟨o, ho, e1, e2, e3⟩
    · rw [std_isp h]
      exact reached_std b hb c.src c.day high hbd.2.2.2.2.2.1 hbd.2.2.2.2.2.2.1 h
    · obtain ⟨m, hm, _, _⟩ := num_bd hb ho
      have hx := ih m (by omega) o ho hm c.day high ⟨hbd.2.2.2.2.2.2.2.2.1, hbd.2.2.2.2.2.2.2.2.2.1⟩
      have hit := hl.item hb ho e3
      rw [← hit] at hx
      rw [e1] at hx
      exact hx
  have hend := end_c c.diff high
  obtain ⟨j, hj, hjl, z, hz, hbz, hgz⟩ := item_at hbd.2.2.1 hbd.2.2.2.1
  have hzs : z.std = false := by rw [← hbz]; exact hbd.2.2.2.2.1
  rw [hzs] at hgz
  obtain ⟨d0, d1, _, _⟩ := item_bds hb hbd.2.2.1 hbd.2.2.2.1
  rw [hbz] at d0 d1 ⊢
  have hone := hl.o c hc
  have hcd := hbd.2.2.2.2.2.2.2.2
  have hdf := hbd.2.2.2.2.2.2.2.2.2.2.2.2.1
  have hfar : -100000 ≤ z.drift * (day - c.day) ∧ z.drift * (day - c.day) ≤ 100000 := by
    constructor
    · have := Int.mul_le_mul_of_nonneg_left (show -1000 ≤ day - c.day by omega) d0
      have := Int.mul_le_mul_of_nonpos_right d1 (show (-1000 : Int) ≤ 0 by omega)
      omega
    · have := Int.mul_le_mul_of_nonneg_left (show day - c.day ≤ 1000 by omega) d0
      have := Int.mul_le_mul_of_nonneg_right d1 (show (0 : Int) ≤ 1000 by omega)
      omega
  have w1 : IntKind.i64.wrap (day - c.day) = day - c.day := wrap64 (by omega)
  obtain ⟨far, hfe⟩ : ∃ far, z.drift * (day - c.day) = far := ⟨_, rfl⟩
  rw [hfe] at hfar ⊢
  have w2 : IntKind.i64.wrap (z.drift * (day - c.day)) = far := by rw [hfe]; exact wrap64 (by omega)
  have w3 : IntKind.i64.wrap (-far) = -far := wrap64 (by omega)
  rw [hsp]
  obtain ⟨T, hT⟩ : ∃ T, T = endOf (((b.isp c.src c.day c.num).plus c.diff).wider far) high := ⟨_, rfl⟩
  rw [← hT]
  unfold Cr.bdd at hib hdf
  have w4 : IntKind.i64.wrap (endOf (b.isp c.src c.day c.num) high + endOf c.diff high) = endOf (b.isp c.src c.day c.num) high + endOf c.diff high := wrap64 (by unfold endOf; cases high <;> simp <;> omega)
  have w5 : IntKind.i64.wrap (endOf (b.isp c.src c.day c.num) high + endOf c.diff high + (if high = true then far else -far)) = T := by
    rw [wrap64 (by unfold endOf; cases high <;> simp <;> omega), hT]
    unfold endOf Cr.wider Cr.plus
    cases high <;> simp
  generalize endOf (b.isp c.src c.day c.num) high = U at *
  generalize endOf c.diff high = V at *
  clear hfe hT hsp hib ih hbd hdf
  refine calls_of_awpS mixed L39_ok (Nat.le_of_ble_eq_true rfl) ?_
  simp [-getElem?_pos, -List.getElem?_map, L39, Bk.pv, itsP, ctsP, hj, hjl, hgz]
  refine awp_loopS (fun m τ => ∃ k : Nat, k ≤ b.certs.length ∧ m = b.certs.length - k ∧ (∀ (i : Nat) (x : Ct), i < k → b.certs[i]? = some x → (!decide (x.it = (j : Int))) = true) ∧ τ = rcS b z j day high k) ⟨b.certs.length, rcS b z j day high 0, Sub.mk (by simp [rcS]) (by simp [rcS, Bk.cells, itsP, ctsP]), 0, by omega, rfl, (fun i x hi => by omega), rfl⟩ ?_
  rintro J hJ m τ ⟨k, hk, rfl, hinv, rfl⟩
  by_cases hlt : k < b.certs.length
  · obtain ⟨o, ho, hom, hgo⟩ := ct_at hlt
    have hw := wrapK (k := k) (by omega)
    have hmeas : b.certs.length - (k + 1) < b.certs.length - k := by omega
    cases e1 : decide (o.it = (j : Int))
    · have hround := hJ _ _ ⟨k + 1, hlt, rfl, pre_next (p := fun x => !decide (x.it = (j : Int))) hinv ho (by simp [e1]), rfl⟩
      simp [-getElem?_pos, -List.getElem?_map, -decide_eq_true_eq, -decide_eq_false_iff_not, rcS, Bk.cells, itsP, ctsP, hlt, hgo, hw, e1]
      exact ⟨_, _, hmeas, Sub.mk (by simp [rcS]) (by simp [rcS, Bk.cells, itsP, ctsP]), hround⟩
    · have e1' := of_decide_eq_true e1
      have hco : c = o := hone o hom (by rw [hj, e1'])
      subst hco
      cases high
      all_goals
        simp [-getElem?_pos, -List.getElem?_map, -decide_eq_true_eq, -decide_eq_false_iff_not, rcS, Bk.cells, itsP, ctsP, hlt, hgo, hw, e1, hj, w1, w2, w3]
        refine call_give (k := 0) (fs := []) (xs := [b.pv, .int .i64 c.src, .int .i64 c.day, .bool _]) (cs := []) rfl rfl hrec rfl ?_
        simp [-getElem?_pos, -List.getElem?_map]
        refine call_gives (k := 0) (fs := []) (xs := [c.diff.pv, .bool _]) (cs := []) rfl rfl hend rfl ?_
        simp at w5
        simp [-getElem?_pos, -List.getElem?_map, w4, w5]
  have he : k = b.certs.length := by omega
  subst he
  have hall := all_pre (p := fun x : Ct => !decide (x.it = (j : Int))) hinv
  have := List.all_eq_true.1 hall c hc
  rw [hj] at this
  simp at this
end Go.Proofs.Ytcgdopjmbadonaa

/-! Layer 2 (chain): the law ChainEnds. -/
namespace Go.Proofs.Ytcgdopjmbadonaa
open Go.RowKit

set_option maxRecDepth 10000
set_option linter.unusedSimpArgs false
def addI (acc : List Ct) (c : Ct) : List Ct := if (acc.any fun o => decide (o.it = c.it)) = true then acc else acc ++ [c]
def Bk.oneU (b : Bk) (k : Nat) : List Ct := (b.certs.take k).foldl addI []
def Bk.lone (b : Bk) : Bk := ⟨b.items, b.oneU b.certs.length⟩
theorem oneU_next {b : Bk} {k : Nat} {c : Ct} (h : b.certs[k]? = some c) : b.oneU (k + 1) = addI (b.oneU k) c := by
  unfold Bk.oneU
  rw [List.take_add_one, h, List.foldl_append]; rfl
theorem oneU_inv {b : Bk} : ∀ k, k ≤ b.certs.length → (∀ c ∈ b.oneU k, c ∈ b.certs) ∧ (b.oneU k).length ≤ k ∧ ∀ c ∈ b.oneU k, ∀ c' ∈ b.oneU k, c.it = c'.it → c = c'
  | 0, _ => ⟨fun c hc => by simp [Bk.oneU] at hc, by simp [Bk.oneU], fun c hc => by simp [Bk.oneU] at hc⟩
  | k + 1, h => by
    obtain ⟨h1, h2, h3⟩ := oneU_inv (b := b) k (by omega)
    have hx : b.certs[k]? = some (b.certs[k]'(by omega)) := List.getElem?_eq_getElem _
    have hm := List.mem_of_getElem? hx
    rw [oneU_next hx]
    generalize b.certs[k]'(by omega) = x at *
    unfold addI
    split
    · exact ⟨h1, by omega, h3⟩
    · rename_i hn
      rw [Bool.not_eq_true, List.any_eq_false] at hn
      refine ⟨fun c hc => ?_, by rw [List.length_append]; simp; omega, fun c hc c' hc' e => ?_⟩
      · rcases List.mem_append.1 hc with h4 | h4
        · exact h1 c h4
        · simp at h4; rw [h4]; exact hm
      · rcases List.mem_append.1 hc with h4 | h4
        · rcases List.mem_append.1 hc' with h5 | h5
          · exact h3 c h4 c' h5 e
          · simp at h5
            have := hn c h4
            rw [← h5, e] at this
            simp at this
        · simp at h4
          rcases List.mem_append.1 hc' with h5 | h5
          · have := hn c' h5
            rw [← h4, e] at this
            simp at this
          · simp at h5; rw [h4, h5]
theorem lone_ok {b : Bk} (hb : b.ok) : b.lone.ok := by
  obtain ⟨h1, h2, _⟩ := oneU_inv (b := b) b.certs.length (Nat.le_refl _)
  have := hb.c
  exact sub_ok hb rfl h1 (by show (b.oneU b.certs.length).length ≤ 24; omega)
theorem lone_lone {b : Bk} (hb : b.ok) (h : (b.lone.held []).length = b.lone.certs.length) : Lone b.lone :=
  ⟨(oneU_inv (b := b) b.certs.length (Nat.le_refl _)).2.2, fun _ hc => all_hold (lone_ok hb) h hc⟩
def snF (b : Bk) (k : Nat) (i : Nat) : PV := .bool ((b.oneU k).any fun c => decide (c.it = (i : Int)))
def snL (b : Bk) (k : Nat) : List AV := (List.range 8).map fun i : Nat => .pv (snF b k i)
theorem snL_get {b : Bk} {k i : Nat} (h : i < 8) : (snL b k)[i]? = some (.pv (.bool ((b.oneU k).any fun c => decide (c.it = (i : Int))))) := by
  unfold snL
  rw [List.getElem?_map, List.getElem?_range h]; rfl
theorem snL_len {b : Bk} {k : Nat} : (snL b k).length = 8 := by unfold snL; simp
theorem snL_has {b : Bk} {k : Nat} (d : Nat) : AV.hasL d (snL b k) = false := mapPV_has _
theorem snL_all {b : Bk} {k : Nat} (q : Site → Bool) : AV.allSL q (snL b k) = true := mapPV_all _
theorem snL_purge {b : Bk} {k : Nat} (d : Nat) : (snL b k).map (AV.purge d) = snL b k := mapPV_purge _
theorem snL_map {b : Bk} {k : Nat} (g : Site → Site) : AV.mapL g (snL b k) = snL b k := mapPV_map _
theorem snL_zero {b : Bk} : snL b 0 = [.pv (.bool false), .pv (.bool false), .pv (.bool false), .pv (.bool false), .pv (.bool false), .pv (.bool false), .pv (.bool false), .pv (.bool false)] := by
  unfold snL snF Bk.oneU
  simp [List.range, List.range.loop]
theorem snL_skip {b : Bk} {k : Nat} {c : Ct} (h : b.certs[k]? = some c) (hx : ((b.oneU k).any fun o => decide (o.it = c.it)) = true) : b.oneU (k + 1) = b.oneU k := by
  rw [oneU_next h]; unfold addI; rw [if_pos hx]
theorem oneU_add {b : Bk} {k : Nat} {c : Ct} (h : b.certs[k]? = some c) (hx : ((b.oneU k).any fun o => decide (o.it = c.it)) = false) : b.oneU (k + 1) = b.oneU k ++ [c] := by
  rw [oneU_next h]; unfold addI; rw [if_neg (by simp [hx])]
theorem snL_set {b : Bk} {k : Nat} {c : Ct} {j : Nat} (h : b.certs[k]? = some c) (hx : ((b.oneU k).any fun o => decide (o.it = c.it)) = false) (hj : c.it = (j : Int)) (h8 : j < 8) : (snL b k).set j (.pv (.bool true)) = snL b (k + 1) := by
  refine List.ext_getElem? fun i => ?_
  by_cases hi : i < 8
  · rw [List.getElem?_set, snL_get hi, snL_get hi, oneU_add h hx, List.any_append]
    by_cases e : j = i
    · subst e
      rw [if_pos rfl, if_pos (by rw [snL_len]; exact h8)]
      simp [hj]
    · rw [if_neg e]
      have : ¬ c.it = (i : Int) := by omega
      simp [this]
  · rw [List.getElem?_eq_none (by rw [List.length_set, snL_len]; omega), List.getElem?_eq_none (by rw [snL_len]; omega)]
theorem oneU_zero {b : Bk} : b.oneU 0 = [] := rfl
attribute [irreducible] snL
attribute [local irreducible] Bk.held Bk.nums Bk.heldU Bk.span Bk.contra Bk.oneU Bk.sp Bk.isp
attribute [local simp] AS.exp expG Box.ren AV.map AV.mapL outsOk noRet Site.isRet Box.allS AV.allS AV.allSL retB dropL AS.adds renL outG outOk lentBx inG fnOf lookA List.findIdx?_cons
attribute [local simp] Box.purge Site.isLoc
attribute [local simp] snL_has snL_all snL_purge snL_map snL_len
attribute [local simp] retFz frzL AS.frz AV.frz AV.frzL Box.frz AS.tidy AS.frzC
def enK (b : Bk) (K D : Int) (k : Nat) : AS := ⟨[(3, .ptr (.loc 3 0) 0), (7, .pv (.int .i64 K)), (8, .pv (.int .i64 D)), (9, .ptr (.loc 9 0) 0), (10, .ptr (.loc 10 0) 0), (11, .pv (.int .i64 k))],
  [(.loc 63 0, .arr 58 7 ((b.oneU k).map Ct.pv)), (.loc 10 0, .cells (snL b k)), (.loc 9 0, .cells [.pv (itsP b.items), .vec (.loc 63 0) 7 0 (b.oneU k).length]), (.loc 3 0, .cells b.cells)]⟩
set_option maxHeartbeats 16000000 in
theorem ends_law (b : Bk) (item day : Int) (hit : 0 ≤ item ∧ item ≤ 255) (hdy : 0 ≤ day ∧ day ≤ 65535) : Gives Try.prog 8 [b.pv, .int .u8 item, .int .u16 day] (.bool true) := by
  have hw := wakes_c
  refine calls_of_awpS mixed L8_ok (Nat.le_of_ble_eq_true rfl) ?_
  simp [-getElem?_pos, L8, Bk.pv]
  refine call_gives (k := 0) (fs := []) (xs := [b.pv]) (cs := []) rfl rfl (ready_c b) rfl ?_
  cases e1 : (decide (b.items.length ≤ 10) && decide (b.certs.length ≤ 28) && decide (b.fault = 0))
  · simp [-getElem?_pos]
    refine call_gives (k := 0) (fs := []) (xs := []) (cs := []) rfl rfl hw rfl ?_
    simp [-getElem?_pos]
  have hb := ready_of e1
  clear e1
  by_cases hne : b.items = []
  · simp [-getElem?_pos, itsP, ctsP, hne]
    refine call_gives (k := 0) (fs := []) (xs := []) (cs := []) rfl rfl hw rfl ?_
    simp [-getElem?_pos]
  have w1 : IntKind.i64.wrap item = item := wrap64 (by omega)
  have w2 : IntKind.i64.wrap day = day := wrap64 (by omega)
  have hpos : 0 < b.items.length := List.length_pos_iff.2 hne
  have k1 := tmod_bd hit.1 (show (0 : Int) < (b.items.length : Int) by omega)
  have k2 := tmod_bd hdy.1 (show (0 : Int) < 1001 by omega)
  simp [-getElem?_pos, itsP, ctsP, hne, w1, w2]
  generalize hK : item.tmod (b.items.length : Int) = K at *
  generalize hD : day.tmod 1001 = D at *
  have hil := hb.i
  have hcl := hb.c
  refine awp_loopS (fun n τ => ∃ k : Nat, k ≤ b.certs.length ∧ n = b.certs.length - k ∧ τ = enK b K D k) ⟨b.certs.length, enK b K D 0, Sub.trans' (Sub.mk (by simp [enK, AS.vecC]) (by simp [enK, AS.vecC, Bk.cells, itsP, ctsP, snL_zero, oneU_zero])) (vecC 63 58 7 (s := .loc 9 0) (cs := [.pv (itsP b.items), .pv (.emp (some true))]) 1 rfl rfl (by decide)), 0, by omega, rfl, rfl⟩ ?_
  rintro J hJ n τ ⟨k, hk, rfl, rfl⟩
  have hinv := oneU_inv (b := b) k hk
  by_cases hlt : k < b.certs.length
  · obtain ⟨o, ho, hom, hgo⟩ := ct_at hlt
    have hwk := wrapK (k := k) (by omega)
    have hround := hJ _ _ ⟨k + 1, hlt, rfl, rfl⟩
    have hmeas : b.certs.length - (k + 1) < b.certs.length - k := by omega
    have hbd := cert_bds hb hom
    obtain ⟨j, hj⟩ : ∃ j : Nat, o.it = j := ⟨o.it.toNat, by omega⟩
    have h8 : j < 8 := by omega
    have hget := snL_get (b := b) (k := k) h8
    have hsk := snL_skip ho
    have had := oneU_add ho
    have hst := fun hx => snL_set (j := j) ho hx hj h8
    rw [hj] at hsk had hst
    unfold enK at hround ⊢
    clear hJ
    have hpl : (b.oneU k).length ≤ 1000 := by omega
    generalize hX : ((b.oneU k).any fun c => decide (c.it = (j : Int))) = X at *
    have h7 : j ≤ 7 := by omega
    cases X
    case true =>
      have hs : snL b (k + 1) = snL b k := by unfold snL snF; rw [hsk rfl]
      rw [hs, hsk rfl] at hround
      simp [-getElem?_pos, -List.getElem?_map, Bk.cells, itsP, ctsP, hlt, hgo, hwk, hj, h8, h7, hget, nble, nblt]
      exact ⟨_, _, hmeas, Sub.mk (by simp) (by simp [Bk.cells, itsP, ctsP]), hround⟩
    case false =>
    have hst := hst rfl
    rw [← hst, had rfl] at hround
    generalize b.oneU k = Y at *
    have hY : (Y.map Ct.pv).take Y.length = Y.map Ct.pv := List.take_of_length_le (by simp)
    have hY6 : Y.length ≤ 999999 := by omega
    simp [-getElem?_pos, -List.getElem?_map, Bk.cells, itsP, ctsP, hlt, hgo, hwk, hj, h8, h7, hget, nble, nblt, hY, hY6]
    have hsp := set_split (Z := snL b k) (n := j) (v := .pv (.bool true)) (by rw [snL_len]; exact h8)
    exact ⟨_, _, hmeas, Sub.mk (by simp) (by simp [Bk.cells, itsP, ctsP, Ct.pv, hj, hsp]), hround⟩
  have he : k = b.certs.length := by omega
  subst he
  clear hJ hinv
  have hb2 := lone_ok hb
  have hxp : b.lone.pv = .agg [itsP b.items, .lst false 7 ((b.oneU b.certs.length).map Ct.pv)] := rfl
  have hxl : b.lone.certs.length = (b.oneU b.certs.length).length := rfl
  have hxi : b.lone.items.length = b.items.length := rfl
  have hll := lone_lone hb
  have hil2 := hb2.i
  have hcl2 := hb2.c
  have hbk2 := book_c b.lone (by omega) (by omega)
  have hh2 := Held0_c b.lone (by omega) (by omega)
  rw [heldM0 hb2] at hh2
  unfold lstE at hh2
  simp only at hh2
  have hs2 := Span_c b.lone (by omega) (by omega) K D
  have hak := ask_in hb2 (item := K) (day := D) k1.1 (by omega) k2.1 (by omega)
  have hM : b.lone.spanM K D = if b.lone.askM K D = 0 then (if b.lone.contra = true then (⟨0, 0⟩, 9) else (b.lone.isp K D 1000, 0)) else (⟨0, 0⟩, b.lone.askM K D) := by
    unfold Bk.isp Bk.sp; rfl
  have hst := fun (hs : (b.lone.item K).std = true) (high : Bool) => reached_std b.lone hb2 K D high k1.1 (by omega) hs
  have hre := fun (hl : Lone b.lone) => reached_c b.lone hb2 hl
  have hhe := held_ex hb2 (item := K) (day := D)
  have hct := fun (hl : Lone b.lone) => hl.contra hb2
  have hit2 := fun (hl : Lone b.lone) => fun o ho => hl.item hb2 (o := o) ho (day := D) (below := 1000)
  have hsi := std_isp (b := b.lone) (item := K) (day := D) (below := 1000)
  have hval : Lone b.lone → b.lone.isHeld K D = true → ∀ high : Bool, Gives Try.prog 39 [b.lone.pv, .int .i64 K, .int .i64 D, .bool high] (.int .i64 (endOf (b.lone.isp K D 1000) high)) := fun hl hh high => by
    rcases hhe hh with h | ⟨o, ho, e, _⟩
    · rw [hsi h]; exact hst h high
    · have hoi : o.it = K := by unfold Bk.ofB at e; simp only [Bool.and_eq_true, decide_eq_true_eq] at e; exact e.2.1
      obtain ⟨m, hm, _, _⟩ := num_bd hb2 ho
      have h1 := hre hl m o ho hm D high ⟨k2.1, by omega⟩
      have h2 := hit2 hl o ho (by rw [hoi]; exact e)
      rw [← h2, hoi] at h1
      exact h1
  clear hst hre hhe hit2 hsi
  unfold enK
  generalize b.oneU b.certs.length = Y at *
  have hY : (Y.map Ct.pv).take Y.length = Y.map Ct.pv := List.take_of_length_le (by simp)
  generalize b.lone = b2 at *
  generalize b2.held [] = H at *
  simp [-getElem?_pos, -List.getElem?_map, Bk.cells, itsP, ctsP]
  refine .inl (call_pv [.loc 63 0] (fs := []) (xs := [b2.pv]) (cs := []) rfl ?_ hbk2 ?_)
  · simp [frzsL, hY, hxp, itsP]
  simp [-getElem?_pos, frzsL, hY]
  refine .inl (call_pv [] (fs := []) (xs := [b2.pv, .emp (some true)]) (cs := []) rfl rfl hh2 ?_)
  by_cases hlen : H.length = Y.length
  case neg =>
    have hlen' : ¬ ((H.length : Int) = (Y.length : Int)) := by omega
    simp [-getElem?_pos, frzsL, hlen, hlen']
    refine call_gives (k := 0) (fs := []) (xs := []) (cs := []) rfl rfl hw rfl ?_
    simp [-getElem?_pos]
  have hl := hll (by rw [hxl]; exact hlen)
  rw [hct hl, if_neg (by simp : ¬ (false = true))] at hM
  have hval := hval hl
  simp [-getElem?_pos, frzsL, hlen]
  refine .inl (call_pv [] (fs := []) (xs := [b2.pv]) (cs := []) rfl (by simp [frzsL, hxp, itsP]) hbk2 ?_)
  simp [-getElem?_pos, frzsL]
  refine .inl (call_pv [] (fs := []) (xs := [b2.pv, .int .i64 K, .int .i64 D]) (cs := []) rfl rfl hs2 ?_)
  rw [hM, hak]
  cases hh : b2.isHeld K D
  · simp [-getElem?_pos, frzsL, spanE, Cr.pv]
    refine call_gives (k := 0) (fs := []) (xs := []) (cs := []) rfl rfl hw rfl ?_
    simp [-getElem?_pos]
  have hv1 := hval hh false
  have hv2 := hval hh true
  generalize b2.isp K D 1000 = R at *
  have e3 : endOf R false = R.lo := rfl
  have e4 : endOf R true = R.hi := rfl
  rw [e3] at hv1
  rw [e4] at hv2
  simp [-getElem?_pos, frzsL, spanE, Cr.pv]
  refine call_give (k := 0) (fs := []) (xs := [b2.pv, .int .i64 K, .int .i64 D, .bool false]) (cs := []) rfl (by simp [snapW, AV.snap, AV.snap0, hxp, itsP]) hv1 rfl ?_
  simp [-getElem?_pos]
  refine call_give (k := 0) (fs := []) (xs := [b2.pv, .int .i64 K, .int .i64 D, .bool true]) (cs := []) rfl (by simp [snapW, AV.snap, AV.snap0, hxp, itsP]) hv2 rfl ?_
  simp [-getElem?_pos]
  refine call_gives (k := 0) (fs := []) (xs := []) (cs := []) rfl rfl hw rfl ?_
  simp [-getElem?_pos]
end Go.Proofs.Ytcgdopjmbadonaa

/-! The statement ChainEnds holds: for every input the law answers true, and its arguments read behind the call as before. No conditions. -/
namespace Go.Proofs.Ytcgdopjmbadonaa
open Go.ChangeShapes Go.WideShapes Go.ChangeAt Go.RowKit

set_option maxRecDepth 100000 in
theorem walkChainEnds (v0 v1 v2 : Value) (W : World) {H : Type} {enc : TypeId × Value → H} {base : Nat} {sp : Nat → Bool} {hd : Bool} {d0 d1 d2 : DataW H} {p0 p1 p2 : List MemPlace}
    (k0 : Value.okWide Try.prog W .any base 25 v0) (h0 : DataW.Trod enc Try.prog W 0 sp hd 25 v0 d0 p0)
    (k1 : Value.okWide Try.prog W .any base 5 v1) (h1 : DataW.Trod enc Try.prog W 0 sp hd 5 v1 d1 p1)
    (k2 : Value.okWide Try.prog W .any base 64 v2) (h2 : DataW.Trod enc Try.prog W 0 sp hd 64 v2 d2 p2) :
    Calls Try.prog 8 #[v0, v1, v2] W fun e w' => e = .returned (.bool true) ∧ Keep [] W w' := by
  obtain ⟨n0, h0⟩ := h0
  obtain ⟨s0, w0, r0⟩ := rk_book k0 h0
  obtain ⟨s1, rfl, rfl, rfl, w1⟩ := open_int Try.underlying5 k1 h1
  obtain ⟨s2, rfl, rfl, rfl, w2⟩ := open_int Try.underlying64 k2 h2
  refine calls_bool (xs := [s0.pv, .int .u8 s1, .int .u16 s2]) (b := true) ((ends_law s0 s1 s2 (ku8 w1) (ku16 w2)).mono (fun _ _ h => h.1)) rfl (fun j v x e1 e2 => ?_)
  match j with
  | 0 => simp at e1 e2; subst e1 e2; exact r0
  | 1 => simp at e1 e2; subst e1 e2; exact .int .u8 s1
  | 2 => simp at e1 e2; subst e1 e2; exact .int .u16 s2
  | j + 3 => simp at e1
set_option maxRecDepth 100000 in
theorem liftedChainEnds (os : Os) (started : os.Started) (H : Type) (enc : TypeId × Value → H) :
    ReturnsInHanded {} Try.checked os 8 .any (Rows.chainEndsSpec.pre6 enc Try.prog Try.f8 Rows.chainEndsRow.domain false) (Rows.chainEndsSpec.post enc Try.prog Try.f8 false true false false) := by
  refine returnsInHanded_of_change (C := Try.checked) own started (by kernel_rfl) Try.func8
    (ChangeSpec.witness6 (enc := enc) (C := Try.checked) false ⟨#[], #[.agg #[.slice none 0 0, .slice none 0 0], .int .u8 0, .int .u16 0], []⟩ 8 (by kernel_rfl) (by kernel_rfl) (by kernel_rfl) (by kernel_rfl)) ?_
  intro W base args ds gs before hval0 hW hcnd _
  have hval : ∀ (j : Nat) t v, Try.f8.params[j]? = some t → args[j]? = some v → Value.okWide Try.prog W .any base t v := hval0
  have hW' := hW
  obtain ⟨p, q, hA0, hV, rfl, hfz, hnd⟩ := hW
  have hA : DataW.TrodAll enc Try.prog W 0 (fun _ => true) true Try.f8.params.toList args.toList ds p := hA0
  rw [Try.params8] at hA hval
  obtain ⟨v0, vs0, d0, ds0, p0, q0, hargs, rfl, rfl, h0, r0⟩ := trodAll_cons hA
  obtain ⟨v1, vs1, d1, ds1, p1, q1, rfl, rfl, rfl, h1, r1⟩ := trodAll_cons r0
  obtain ⟨v2, vs2, d2, ds2, p2, q2, rfl, rfl, rfl, h2, r2⟩ := trodAll_cons r1
  obtain ⟨rfl, rfl, rfl⟩ := trodAll_nil r2
  have hargs' : args = #[v0, v1, v2] := by
    apply Array.ext'
    exact hargs
  subst hargs'
  have k0 := hval 0 _ v0 rfl rfl
  have k1 := hval 1 _ v1 rfl rfl
  have k2 := hval 2 _ v2 rfl rfl
  obtain ⟨rfl, rfl⟩ := trodVars_none hV
  refine (walkChainEnds v0 v1 v2 W k0 h0 k1 h1 k2 h2).mono fun e W' ⟨he, hk⟩ => ?_
  subst he
  exact ⟨_, rfl, post_law (tb := 4) laidP rowedP fullP (by decide +kernel) rfl rfl rfl Try.underlying4 hW' hk⟩
theorem overChainEnds : Rows.chainEndsRow.holds Try.pinned (OpenSpec.ofChange Rows.chainEndsSpec) :=
  OpenClaim.holds_of_wide 8 Try.f8 rfl rfl rfl rfl rfl rfl rfl ⟨rfl, rfl, rfl, rfl, rfl⟩ rfl rfl rfl rfl rfl (by kernel_rfl) Try.func8 (by kernel_rfl)
    (of_decide_eq_true (by kernel_rfl)) (by unfold Func.isWrapper; first | (rw [if_pos (by decide +kernel)]; kernel_rfl) | (rw [if_neg (by decide +kernel)]; exact ⟨rfl, rfl⟩))
    (fun os started H enc _ => liftedChainEnds os started H enc)
theorem provedChainEnds : Rows.ChainEndsSaid := overChainEnds
end Go.Proofs.Ytcgdopjmbadonaa
