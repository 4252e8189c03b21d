/- Layer 2 (chain), plain: books with more certificates; Held without bad ones. (Several texts in one.) -/
import Derived.Test.YtcgdopjmbadonaaChI
import Derived.Test.YtcgdopjmbadonaaChF
import Derived.SizedLaws
set_option linter.unusedVariables false
set_option linter.unusedSimpArgs false
/-! Layer 2 (chain), plain: books with more certificates; Held without bad ones. -/
namespace Go.Proofs.Ytcgdopjmbadonaa
open Go.RowKit
set_option maxRecDepth 10000
set_option linter.unusedSimpArgs false
theorem Held0_c (b : Bk) (hi : b.items.length ≤ 1000) (hc : b.certs.length ≤ 1000) : CallsA Try.prog 34 ([b.pv, .emp (some true)].map .pv) [] (fun r B => r = .pv (lstE (b.heldM [])) ∧ B = []) := by
  have h := Held_c b hi hc [] (Nat.zero_le _)
  refine CallsA.weakArgs (xs := [b.pv, .emp (some true)]) (ys := [b.pv, .lst false 1 []]) h rfl ?_
  intro j x y m v h1 h2 hr
  match j with
  | 0 => simp at h1 h2; subst h1 h2; exact hr
  | 1 => simp at h1 h2; subst h1 h2; exact emp_lst hr
  | j + 2 => simp at h1
theorem heldM0 {b : Bk} (hb : b.ok) : b.heldM [] = (b.held [], 0) := by
  have h : areB [] = true := rfl
  unfold Bk.heldM
  rw [if_pos (Bk.ok_iff.2 hb), if_pos h]
/-- What an item is asked for within the book, on a day: held, or not. -/
theorem ask_in {b : Bk} (hb : b.ok) {item day : Int} (h0 : 0 ≤ item) (h1 : item < b.items.length) (h2 : 0 ≤ day) (h3 : day ≤ 1000) : b.askM item day = if b.isHeld item day = true then 0 else 10 := by
  unfold Bk.askM Bk.hasItem inB
  rw [Bk.ok_iff.2 hb, decide_eq_true h0, decide_eq_true (show item ≤ (b.items.length : Int) - 1 by omega), decide_eq_true h2, decide_eq_true h3]
  rfl
theorem tmod_bd {a n : Int} (ha : 0 ≤ a) (hn : 0 < n) : 0 ≤ a.tmod n ∧ a.tmod n < n := ⟨Int.tmod_nonneg _ ha, Int.tmod_lt_of_pos _ hn⟩
attribute [local irreducible] Bk.held Bk.nums Bk.heldU Bk.span
section
variable {b b' : Bk}
/-- A book with more certificates. -/
structure More (b b' : Bk) : Prop where
  i : b'.items = b.items
  c : ∀ c ∈ b.certs, c ∈ b'.certs
theorem More.item (h : More b b') (i : Int) : b'.item i = b.item i := by unfold Bk.item; rw [h.i]
theorem More.held (hb : b.ok) (hb' : b'.ok) (h : More b b') {x : Int} (hx : x ∈ b.held []) : x ∈ b'.held [] := held_more hb hb' (fun c _ => h.item _) h.c (fun _ h => h) hx
theorem More.span_at (hb : b.ok) (hb' : b'.ok) (h : More b b') (item day below : Int) : (b'.itemSpan (b'.held []) (b'.span (b'.held [])) item day below).sub (b.itemSpan (b.held []) (b.span (b.held [])) item day below) :=
  item_more (h.item _) h.c (fun x hx => h.held hb hb' hx) fun c hc _ hx => span_more hb hb' (fun c _ => h.item _) h.c c hc hx
theorem More.contra (hb : b.ok) (hb' : b'.ok) (h : More b b') (hc : b.contra = true) : b'.contra = true := by
  unfold Bk.contra at hc ⊢
  rw [List.any_eq_true] at hc ⊢
  obtain ⟨c, hc, e⟩ := hc
  rw [Bool.and_eq_true, List.contains_iff_mem, decide_eq_true_eq] at e
  refine ⟨c, h.c c hc, ?_⟩
  have hs := h.span_at hb hb' c.it c.day 1000
  unfold Cr.sub at hs
  rw [Bool.and_eq_true, List.contains_iff_mem, decide_eq_true_eq]
  exact ⟨h.held hb hb' e.1, by omega⟩
theorem More.isHeld (hb : b.ok) (hb' : b'.ok) (h : More b b') {item day : Int} (hh : b.isHeld item day = true) : b'.isHeld item day = true := by
  unfold Bk.isHeld at hh ⊢
  rw [any_ofL hb] at hh
  rw [any_ofL hb', h.item]
  rw [Bool.or_eq_true, List.any_eq_true] at hh ⊢
  rcases hh with hh | ⟨o, ho, e⟩
  · exact .inl hh
  · rw [Bool.and_eq_true, List.contains_iff_mem] at e
    refine .inr ⟨o, h.c o ho, ?_⟩
    rw [Bool.and_eq_true, List.contains_iff_mem]
    exact ⟨e.1, h.held hb hb' e.2⟩
theorem More.spanM (hb : b.ok) (hb' : b'.ok) (h : More b b') {item day : Int} (h0 : 0 ≤ item) (h1 : item < b.items.length) (h2 : 0 ≤ day) (h3 : day ≤ 1000) :
    ((b'.spanM item day).2 = 10 ∧ (b.spanM item day).2 = 10) ∨ ((b'.spanM item day).2 = 9 ∧ ((b.spanM item day).2 = 0 ∨ (b.spanM item day).2 = 10 ∨ (b.spanM item day).2 = 9)) ∨ ((b'.spanM item day).2 = 0 ∧ (b.spanM item day).2 = 10) ∨ ((b'.spanM item day).2 = 0 ∧ (b.spanM item day).2 = 0 ∧ (b'.spanM item day).1.sub (b.spanM item day).1) := by
  have a1 := ask_in hb h0 h1 h2 h3
  have a2 := ask_in hb' h0 (by rw [h.i]; exact h1) h2 h3
  have a3 := h.isHeld hb hb' (item := item) (day := day)
  have a4 := h.contra hb hb'
  have a5 := h.span_at hb hb' item day 1000
  unfold Bk.spanM
  rw [a1, a2]
  cases e2 : b'.isHeld item day
  · cases e1 : b.isHeld item day
    · exact .inl ⟨rfl, rfl⟩
    · rw [a3 e1] at e2; cases e2
  · cases e1 : b.isHeld item day
    · cases c2 : b'.contra
      · exact .inr (.inr (.inl ⟨rfl, rfl⟩))
      · exact .inr (.inl ⟨rfl, .inr (.inl rfl)⟩)
    · cases c2 : b'.contra
      · cases c1 : b.contra
        · exact .inr (.inr (.inr ⟨rfl, rfl, a5⟩))
        · rw [a4 c1] at c2; cases c2
      · cases c1 : b.contra
        · exact .inr (.inl ⟨rfl, .inl rfl⟩)
        · exact .inr (.inl ⟨rfl, .inr (.inr rfl)⟩)
end
end Go.Proofs.Ytcgdopjmbadonaa
/-! Layer 2 (chain): the size of a book among the arguments; a certificate among the arguments. -/
namespace Go.Proofs.Ytcgdopjmbadonaa
open Go.RowKit Go.ChangeShapes Go.WideShapes Go.Deep
set_option maxRecDepth 100000
section
variable {H : Type} {enc : TypeId × Value → H} {W : World} {sp : Nat → Bool} {held : Bool} {r : Reach} {base : Nat}
end
end Go.Proofs.Ytcgdopjmbadonaa
/-! Layer 2 (chain): books in which no item has more than one certificate, and all hold; what is reached. -/
namespace Go.Proofs.Ytcgdopjmbadonaa
open Go.RowKit
set_option maxRecDepth 10000
set_option linter.unusedSimpArgs false
attribute [local irreducible] Bk.held Bk.nums Bk.heldU Bk.span
structure Lone (b : Bk) : Prop where
  o : ∀ c ∈ b.certs, ∀ c' ∈ b.certs, c.it = c'.it → c = c'
  h : ∀ c ∈ b.certs, c.num ∈ b.held []
def Bk.sp (b : Bk) : Int → Cr := b.span (b.held [])
def Bk.isp (b : Bk) (item day below : Int) : Cr := b.itemSpan (b.held []) b.sp item day below
theorem wider_zero (r : Cr) : r.wider 0 = r := by unfold Cr.wider Cr.plus; exact Cr.ext' (by simp) (by simp)
section
variable {b : Bk}
theorem sp_bdd (hb : b.ok) {c : Ct} (hc : c ∈ b.certs) (h : c.num ∈ b.held []) : (b.sp c.num).bdd 1000000000 := by
  have k1 := span_bdd hb c hc h
  have k2 := cert_bds hb hc
  unfold Bk.sp
  unfold Cr.bdd at k1 ⊢
  omega
theorem Lone.item (hb : b.ok) (hl : Lone b) {o : Ct} (ho : o ∈ b.certs) {day below : Int} (h : Bk.ofB o.it day below o = true) : b.isp o.it day below = (b.sp o.num).wider ((b.item o.it).drift * (day - o.day)) := by
  have hbd := cert_bds hb ho
  have hon : o.on day = true := by unfold Bk.ofB at h; simp only [Bool.and_eq_true] at h; exact h.2.2
  have hf := far_bd hb ho hon
  have hs := sp_bdd hb ho (hl.h o ho)
  unfold Bk.isp
  rw [itemSpan_fold hbd.2.2.2.2.1]
  rw [cut_eq (g := fun c : Ct => (b.sp c.num).wider ((b.item o.it).drift * (day - c.day))) (l' := [o]) (fun c hc => ?_) (fun c hc => ?_)]
  · rw [List.foldl_cons, List.foldl_nil]
    generalize (b.item o.it).drift * (day - o.day) = far at *
    generalize b.sp o.num = r at *
    unfold Cr.bdd at hs
    unfold Cr.cut Cr.wider Cr.plus everyR
    refine Cr.ext' ?_ ?_ <;> simp only
    · rw [Int.max_eq_right (by omega)]
    · rw [Int.min_eq_right (by omega)]
  · rw [List.mem_filter, Bool.and_eq_true] at hc
    have hit : c.it = o.it := by have := hc.2.1; unfold Bk.ofB at this; simp only [Bool.and_eq_true, decide_eq_true_eq] at this; exact this.2.1
    have := hl.o c hc.1 o ho hit
    subst this
    exact ⟨c, by simp, rfl⟩
  · simp at hc
    subst hc
    refine ⟨c, ?_, rfl⟩
    rw [List.mem_filter, Bool.and_eq_true, List.contains_iff_mem]
    exact ⟨ho, h, hl.h c ho⟩
theorem Lone.src (hb : b.ok) (hl : Lone b) {c : Ct} (hc : c ∈ b.certs) : (b.item c.src).std = true ∨ ∃ o ∈ b.certs, o.it = c.src ∧ o.num < c.num ∧ Bk.ofB o.it c.day c.num o = true := by
  rcases held_src hb hc (hl.h c hc) with h | ⟨o, ho, h, _⟩
  · exact .inl h
  · have h' := h
    unfold Bk.ofB at h'
    simp only [Bool.and_eq_true, decide_eq_true_eq] at h'
    exact .inr ⟨o, ho, h'.2.1, h'.1, by rw [h'.2.1]; exact h⟩
theorem Lone.sp_is (hb : b.ok) (hl : Lone b) {c : Ct} (hc : c ∈ b.certs) : b.sp c.num = (b.isp c.src c.day c.num).plus c.diff ∧ (b.isp c.src c.day c.num).bdd 2000000000 := by
  have := span_get hb ((mem_nums hb).2 ⟨c, hc, rfl⟩) (List.contains_iff_mem.2 (hl.h c hc))
  rw [get_of hb hc] at this
  exact this
theorem std_isp {item day below : Int} (h : (b.item item).std = true) : b.isp item day below = (b.item item).val := by
  unfold Bk.isp Bk.itemSpan
  rw [if_pos h]
theorem Lone.rising (hb : b.ok) (hl : Lone b) : ∀ c ∈ b.certs, (b.sp c.num).lo ≤ (b.sp c.num).hi := by
  have key : ∀ n : Nat, ∀ c ∈ b.certs, c.num = n → (b.sp c.num).lo ≤ (b.sp c.num).hi := by
    intro n
    induction n using Nat.strongRecOn with
    | _ n ih =>
    intro c hc hn
    have hbd := cert_bds hb hc
    rw [(hl.sp_is hb hc).1]
    have hi : (b.isp c.src c.day c.num).lo ≤ (b.isp c.src c.day c.num).hi := by
      rcases hl.src hb hc with h | ⟨o, ho, e1, e2, e3⟩
      · rw [std_isp h]
        exact (item_bds hb hbd.2.2.2.2.2.1 hbd.2.2.2.2.2.2.1).2.2.2
      · obtain ⟨m, hm, _, _⟩ := num_bd hb ho
        have := ih m (by omega) o ho hm
        have hit := hl.item hb ho e3
        rw [e1] at hit
        rw [hit]
        have hon : o.on c.day = true := by unfold Bk.ofB at e3; simp only [Bool.and_eq_true] at e3; exact e3.2.2
        have hf := far_bd hb ho hon
        rw [e1] at hf
        unfold Cr.wider Cr.plus
        simp only
        omega
    unfold Cr.plus
    simp only
    have := hbd.2.2.2.2.2.2.2.2.2.2.2.2.2
    omega
  intro c hc
  obtain ⟨n, hn, _, _⟩ := num_bd hb hc
  exact key n c hc hn
theorem Lone.contra (hb : b.ok) (hl : Lone b) : b.contra = false := by
  unfold Bk.contra
  rw [List.any_eq_false]
  intro c hc
  have h1 := hl.item hb hc (own_on hb hc)
  rw [Int.sub_self, Int.mul_zero, wider_zero] at h1
  have h1' : b.itemSpan (b.held []) (b.span (b.held [])) c.it c.day 1000 = b.sp c.num := h1
  have h2 := hl.rising hb c hc
  rw [h1', Bool.and_eq_true, decide_eq_true_eq]
  rintro ⟨_, h⟩
  omega
end
end Go.Proofs.Ytcgdopjmbadonaa
