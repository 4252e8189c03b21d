/- Layer 2 (chain), plain: books with more certificates; Held without bad ones. (Several texts in one.) -/
import Derived.Test.YtaffbiibcfeigaaGreatChI
set_option linter.unusedVariables false
set_option linter.unusedSimpArgs false
/-! Layer 2 (chain), plain: books with more certificates; Held without bad ones. -/
namespace Go.Proofs.YtaffbiibcfeigaaGreat
open Go.RowKit
set_option maxRecDepth 10000
set_option linter.unusedSimpArgs false
/-- What an item is asked for within the book, on a day: held, or not. -/
theorem ask_in {b : Bk} (hb : b.ok) {item day : Int} (h0 : 0 ≤ item) (h1 : item < b.items.length) (h2 : 0 ≤ day) (h3 : day ≤ 1000) : b.askM item day = if b.isHeld item day = true then 0 else 10 := by
  unfold Bk.askM Bk.hasItem inB
  rw [Bk.ok_iff.2 hb, decide_eq_true h0, decide_eq_true (show item ≤ (b.items.length : Int) - 1 by omega), decide_eq_true h2, decide_eq_true h3]
  rfl
theorem tmod_bd {a n : Int} (ha : 0 ≤ a) (hn : 0 < n) : 0 ≤ a.tmod n ∧ a.tmod n < n := ⟨Int.tmod_nonneg _ ha, Int.tmod_lt_of_pos _ hn⟩
attribute [local irreducible] Bk.held Bk.nums Bk.heldU Bk.span
section
variable {b b' : Bk}
/-- A book with more certificates. -/
structure More (b b' : Bk) : Prop where
  i : b'.items = b.items
  c : ∀ c ∈ b.certs, c ∈ b'.certs
theorem More.item (h : More b b') (i : Int) : b'.item i = b.item i := by unfold Bk.item; rw [h.i]
theorem More.held (hb : b.ok) (hb' : b'.ok) (h : More b b') {x : Int} (hx : x ∈ b.held []) : x ∈ b'.held [] := held_more hb hb' (fun c _ => h.item _) h.c (fun _ h => h) hx
theorem More.span_at (hb : b.ok) (hb' : b'.ok) (h : More b b') (item day below : Int) : (b'.itemSpan (b'.held []) (b'.span (b'.held [])) item day below).sub (b.itemSpan (b.held []) (b.span (b.held [])) item day below) :=
  item_more (h.item _) h.c (fun x hx => h.held hb hb' hx) fun c hc _ hx => span_more hb hb' (fun c _ => h.item _) h.c c hc hx
theorem More.contra (hb : b.ok) (hb' : b'.ok) (h : More b b') (hc : b.contra = true) : b'.contra = true := by
  unfold Bk.contra at hc ⊢
  rw [List.any_eq_true] at hc ⊢
  obtain ⟨c, hc, e⟩ := hc
  rw [Bool.and_eq_true, List.contains_iff_mem, decide_eq_true_eq] at e
  refine ⟨c, h.c c hc, ?_⟩
  have hs := h.span_at hb hb' c.it c.day 1000
  unfold Cr.sub at hs
  rw [Bool.and_eq_true, List.contains_iff_mem, decide_eq_true_eq]
  exact ⟨h.held hb hb' e.1, by omega⟩
theorem More.isHeld (hb : b.ok) (hb' : b'.ok) (h : More b b') {item day : Int} (hh : b.isHeld item day = true) : b'.isHeld item day = true := by
  unfold Bk.isHeld at hh ⊢
  rw [any_ofL hb] at hh
  rw [any_ofL hb', h.item]
  rw [Bool.or_eq_true, List.any_eq_true] at hh ⊢
  rcases hh with hh | ⟨o, ho, e⟩
  · exact .inl hh
  · rw [Bool.and_eq_true, List.contains_iff_mem] at e
    refine .inr ⟨o, h.c o ho, ?_⟩
    rw [Bool.and_eq_true, List.contains_iff_mem]
    exact ⟨e.1, h.held hb hb' e.2⟩
theorem More.spanM (hb : b.ok) (hb' : b'.ok) (h : More b b') {item day : Int} (h0 : 0 ≤ item) (h1 : item < b.items.length) (h2 : 0 ≤ day) (h3 : day ≤ 1000) :
    ((b'.spanM item day).2 = 10 ∧ (b.spanM item day).2 = 10) ∨ ((b'.spanM item day).2 = 9 ∧ ((b.spanM item day).2 = 0 ∨ (b.spanM item day).2 = 10 ∨ (b.spanM item day).2 = 9)) ∨ ((b'.spanM item day).2 = 0 ∧ (b.spanM item day).2 = 10) ∨ ((b'.spanM item day).2 = 0 ∧ (b.spanM item day).2 = 0 ∧ (b'.spanM item day).1.sub (b.spanM item day).1) := by
  have a1 := ask_in hb h0 h1 h2 h3
  have a2 := ask_in hb' h0 (by rw [h.i]; exact h1) h2 h3
  have a3 := h.isHeld hb hb' (item := item) (day := day)
  have a4 := h.contra hb hb'
  have a5 := h.span_at hb hb' item day 1000
  unfold Bk.spanM
  rw [a1, a2]
  cases e2 : b'.isHeld item day
  · cases e1 : b.isHeld item day
    · exact .inl ⟨rfl, rfl⟩
    · rw [a3 e1] at e2; cases e2
  · cases e1 : b.isHeld item day
    · cases c2 : b'.contra
      · exact .inr (.inr (.inl ⟨rfl, rfl⟩))
      · exact .inr (.inl ⟨rfl, .inr (.inl rfl)⟩)
    · cases c2 : b'.contra
      · cases c1 : b.contra
        · exact .inr (.inr (.inr ⟨rfl, rfl, a5⟩))
        · rw [a4 c1] at c2; cases c2
      · cases c1 : b.contra
        · exact .inr (.inl ⟨rfl, .inl rfl⟩)
        · exact .inr (.inl ⟨rfl, .inr (.inr rfl)⟩)
end
end Go.Proofs.YtaffbiibcfeigaaGreat
