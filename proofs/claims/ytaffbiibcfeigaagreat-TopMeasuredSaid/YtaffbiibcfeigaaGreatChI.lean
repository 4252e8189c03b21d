/- Layer 2 (chain), plain: standards that are moved. (Several texts in one.) -/
import Derived.Test.YtaffbiibcfeigaaGreatChA
import Derived.Test.YtaffbiibcfeigaaGreatChH
set_option linter.unusedVariables false
set_option linter.unusedSimpArgs false
/-! Layer 2 (chain), plain: standards that are moved. -/
namespace Go.Proofs.YtaffbiibcfeigaaGreat
open Go.RowKit
set_option linter.unusedSimpArgs false
/-- What holds is told by the certificates, and by which items are standards. -/
theorem heldU_std {b b' : Bk} (hc : b'.certs = b.certs) (hs : ∀ i, (b'.item i).std = (b.item i).std) (bad : List Int) : ∀ k, b'.heldU bad k = b.heldU bad k
  | 0 => rfl
  | k + 1 => by
    rw [heldU_succ, heldU_succ, heldU_std hc hs bad k, hc]
    have e : ∀ c, b'.holdB bad (b.heldU bad k) c = b.holdB bad (b.heldU bad k) c := fun c => by unfold Bk.holdB; rw [hs, hc]
    simp only [e]
theorem held_std {b b' : Bk} (hc : b'.certs = b.certs) (hs : ∀ i, (b'.item i).std = (b.item i).std) (bad : List Int) : b'.held bad = b.held bad := heldU_std hc hs bad 1000
theorem get_same {b b' : Bk} (hc : b'.certs = b.certs) (n : Int) : b'.get n = b.get n := by unfold Bk.get; rw [hc]
def Cr.mv (r : Cr) (t : Int) : Cr := ⟨r.lo + t, r.hi + t⟩
theorem fold_mv {α : Type} {f f' : α → Cr} {l : List α} {t B : Int} (hB : B < 1099511627776) (hne : l ≠ []) (h : ∀ x ∈ l, (f x).bdd B) (h' : ∀ x ∈ l, (f' x).bdd B) (he : ∀ x ∈ l, f' x = (f x).mv t) : l.foldl (fun r c => r.cut (f' c)) everyR = (l.foldl (fun r c => r.cut (f c)) everyR).mv t := by
  have b1 := fold_bdd hB hne h
  have b2 := fold_bdd hB hne h'
  obtain ⟨_, a2, a3⟩ := cut_lo f l everyR
  obtain ⟨_, c2, c3⟩ := cut_hi f l everyR
  obtain ⟨_, p2, p3⟩ := cut_lo f' l everyR
  obtain ⟨_, r2, r3⟩ := cut_hi f' l everyR
  have e1 : everyR.lo = -1099511627776 := rfl
  have e2 : everyR.hi = 1099511627776 := rfl
  unfold Cr.bdd at b1 b2
  refine Cr.ext' ?_ ?_
  · show _ = (l.foldl (fun r c => r.cut (f c)) everyR).lo + t
    obtain ⟨x, hx, a3⟩ : ∃ x ∈ l, (l.foldl (fun r c => r.cut (f c)) everyR).lo = (f x).lo := by rcases a3 with a3 | a3; omega; exact a3
    obtain ⟨y, hy, p3⟩ : ∃ x ∈ l, (l.foldl (fun r c => r.cut (f' c)) everyR).lo = (f' x).lo := by rcases p3 with p3 | p3; omega; exact p3
    have k1 := p2 x hx
    have k2 := a2 y hy
    rw [he x hx] at k1
    rw [he y hy] at p3
    unfold Cr.mv at k1 p3
    simp only at k1 p3
    omega
  · show _ = (l.foldl (fun r c => r.cut (f c)) everyR).hi + t
    obtain ⟨x, hx, c3⟩ : ∃ x ∈ l, (l.foldl (fun r c => r.cut (f c)) everyR).hi = (f x).hi := by rcases c3 with c3 | c3; omega; exact c3
    obtain ⟨y, hy, r3⟩ : ∃ x ∈ l, (l.foldl (fun r c => r.cut (f' c)) everyR).hi = (f' x).hi := by rcases r3 with r3 | r3; omega; exact r3
    have k1 := r2 x hx
    have k2 := c2 y hy
    rw [he x hx] at k1
    rw [he y hy] at r3
    unfold Cr.mv at k1 r3
    simp only at k1 r3
    omega
theorem wider_mv (r : Cr) (n t : Int) : (r.mv t).wider n = (r.wider n).mv t := by
  unfold Cr.mv Cr.wider Cr.plus
  simp only
  refine Cr.ext' ?_ ?_ <;> simp only <;> omega
theorem plus_mv (r d : Cr) (t : Int) : (r.mv t).plus d = (r.plus d).mv t := by
  unfold Cr.mv Cr.plus
  simp only
  refine Cr.ext' ?_ ?_ <;> simp only <;> omega
/-- Standards that are moved by a number. -/
structure Moved (b b' : Bk) (t : Int) : Prop where
  c : b'.certs = b.certs
  l : b'.items.length = b.items.length
  s : ∀ i, (b'.item i).std = (b.item i).std
  d : ∀ i, (b'.item i).drift = (b.item i).drift
  v : ∀ i, (b.item i).std = true → (b'.item i).val = (b.item i).val.mv t
theorem item_mv {b b' : Bk} (hb : b.ok) (hb' : b'.ok) {t : Int} (hm : Moved b b' t) {held : List Int} {S S' : Int → Cr} {item day below : Int} {A : Int} (hA : 100000 ≤ A) (hA2 : A + 100000 < 1099511627776) (hex : (b.item item).std = true ∨ ∃ o ∈ b.certs, Bk.ofB item day below o = true ∧ o.num ∈ held)
    (hS : ∀ c ∈ b.certs, c.num < below → c.num ∈ held → (S c.num).bdd A) (hS' : ∀ c ∈ b.certs, c.num < below → c.num ∈ held → (S' c.num).bdd A) (he : ∀ c ∈ b.certs, c.num < below → c.num ∈ held → S' c.num = (S c.num).mv t) : b'.itemSpan held S' item day below = (b.itemSpan held S item day below).mv t := by
  cases hs : (b.item item).std with
  | true =>
    unfold Bk.itemSpan
    rw [if_pos (by rw [hm.s]; exact hs), if_pos hs, hm.v _ hs]
  | false =>
    rw [itemSpan_fold hs, itemSpan_fold (by rw [hm.s]; exact hs), hm.c, hm.d]
    obtain ⟨o, ho, h2, h3⟩ : ∃ o ∈ b.certs, Bk.ofB item day below o = true ∧ o.num ∈ held := by
      rcases hex with h | h
      · rw [hs] at h; cases h
      · exact h
    have hx : ∀ c ∈ b.certs.filter fun c => Bk.ofB item day below c && held.contains c.num, c ∈ b.certs ∧ c.num < below ∧ c.num ∈ held ∧ 0 ≤ (b.item item).drift * (day - c.day) ∧ (b.item item).drift * (day - c.day) ≤ 100000 := fun c hc => by
      rw [List.mem_filter, Bool.and_eq_true, List.contains_iff_mem] at hc
      obtain ⟨k1, k2, k3⟩ := hc
      unfold Bk.ofB at k2
      simp only [Bool.and_eq_true, decide_eq_true_eq] at k2
      have hf := far_bd hb k1 k2.2.2
      rw [k2.2.1] at hf
      exact ⟨k1, k2.1, k3, hf.1, hf.2⟩
    refine fold_mv (B := A + 100000) (by omega) (fun e => ?_) (fun c hc => ?_) (fun c hc => ?_) (fun c hc => ?_)
    · have : o ∈ (b.certs.filter fun c => Bk.ofB item day below c && held.contains c.num) := by
        rw [List.mem_filter, Bool.and_eq_true, List.contains_iff_mem]; exact ⟨ho, h2, h3⟩
      rw [e] at this; cases this
    · obtain ⟨k1, k2, k3, k4, k5⟩ := hx c hc
      exact wider_bdd (hS c k1 k2 k3) k4 (by omega)
    · obtain ⟨k1, k2, k3, k4, k5⟩ := hx c hc
      exact wider_bdd (hS' c k1 k2 k3) k4 (by omega)
    · obtain ⟨k1, k2, k3, _⟩ := hx c hc
      rw [he c k1 k2 k3]
      exact wider_mv _ _ _
theorem span_mv {b b' : Bk} (hb : b.ok) (hb' : b'.ok) {t : Int} (hm : Moved b b' t) : ∀ c ∈ b.certs, c.num ∈ b.held [] → b'.span (b.held []) c.num = (b.span (b.held []) c.num).mv t := by
  have hh := held_std hm.c hm.s []
  have bd' := span_bdd hb'
  rw [hh, hm.c] at bd'
  have key : ∀ n : Nat, ∀ c ∈ b.certs, c.num = n → c.num ∈ b.held [] → b'.span (b.held []) c.num = (b.span (b.held []) c.num).mv t := by
    intro n
    induction n using Nat.strongRecOn with
    | _ n ih =>
    intro c hcc hn hx
    obtain ⟨n', hn', h1, h2⟩ := num_bd hb hcc
    have : n' = n := by omega
    subst this
    have g1 : b.get (n' : Int) = c := by rw [← hn]; exact get_of hb hcc
    have hsr := held_src hb hcc hx
    rw [hn] at hx hsr ⊢
    rw [span_is h2, span_is h2, if_pos (List.contains_iff_mem.2 hx), if_pos (List.contains_iff_mem.2 hx), get_same hm.c, g1]
    rw [item_mv hb hb' hm (S := b.span (b.held [])) (S' := b'.span (b.held [])) (A := 300000 * 1000) (by omega) (by omega) hsr (fun o ho _ hox => ?_) (fun o ho _ hox => ?_) fun o ho hlt hox => ?_]
    · exact plus_mv _ _ _
    · have := span_bdd hb o ho hox
      have := (cert_bds hb ho).2.1
      unfold Cr.bdd at *
      omega
    · have := bd' o ho hox
      have := (cert_bds hb ho).2.1
      unfold Cr.bdd at *
      omega
    · obtain ⟨m, hm', _, _⟩ := num_bd hb ho
      exact ih m (by omega) o ho hm' hox
  intro c hcc
  obtain ⟨n, hn, _, _⟩ := num_bd hb hcc
  exact key n c hcc hn
end Go.Proofs.YtaffbiibcfeigaaGreat
/-! Layer 2 (chain), plain: parts of a book on which the rest does not bear; the same certificates in another order. -/
namespace Go.Proofs.YtaffbiibcfeigaaGreat
open Go.RowKit
set_option linter.unusedSimpArgs false
/-- A part of a book: with a certificate it has all on which it may rest. -/
structure Part (b b' : Bk) : Prop where
  i : b'.items = b.items
  c : ∀ c ∈ b'.certs, c ∈ b.certs
  r : ∀ c ∈ b'.certs, ∀ o ∈ b.certs, restsB c o = true → o ∈ b'.certs
theorem Part.item {b b' : Bk} (h : Part b b') (i : Int) : b'.item i = b.item i := by unfold Bk.item; rw [h.i]
theorem Part.held {b b' : Bk} (hb : b.ok) (hb' : b'.ok) (h : Part b b') {bad : List Int} : ∀ c ∈ b'.certs, (c.num ∈ b'.held bad ↔ c.num ∈ b.held bad) := by
  have key : ∀ n : Nat, ∀ c ∈ b'.certs, c.num = n → (c.num ∈ b'.held bad ↔ c.num ∈ b.held bad) := by
    intro n
    induction n using Nat.strongRecOn with
    | _ n ih =>
    intro c hc hn
    have e : b'.holdB bad (b'.held bad) c = b.holdB bad (b.held bad) c := by
      unfold Bk.holdB
      rw [h.item]
      congr 2
      rw [Bool.eq_iff_iff, List.any_eq_true, List.any_eq_true]
      constructor
      · rintro ⟨o, ho, h1⟩
        rw [Bool.and_eq_true, List.contains_iff_mem] at h1
        refine ⟨o, h.c o ho, ?_⟩
        rw [Bool.and_eq_true, List.contains_iff_mem]
        obtain ⟨m, hm, _, _⟩ := num_bd hb' ho
        have hlt : o.num < c.num := by have := h1.1; unfold restsB at this; simp only [Bool.and_eq_true, decide_eq_true_eq] at this; exact this.1.2
        exact ⟨h1.1, (ih m (by omega) o ho hm).1 h1.2⟩
      · rintro ⟨o, ho, h1⟩
        rw [Bool.and_eq_true, List.contains_iff_mem] at h1
        have ho' := h.r c hc o ho h1.1
        refine ⟨o, ho', ?_⟩
        rw [Bool.and_eq_true, List.contains_iff_mem]
        obtain ⟨m, hm, _, _⟩ := num_bd hb' ho'
        have hlt : o.num < c.num := by have := h1.1; unfold restsB at this; simp only [Bool.and_eq_true, decide_eq_true_eq] at this; exact this.1.2
        exact ⟨h1.1, (ih m (by omega) o ho' hm).2 h1.2⟩
    rw [mem_held hb', mem_held hb]
    constructor
    · rintro ⟨x, hx, e1, e2⟩
      have : x = c := hb'.one x hx c hc e1
      subst this
      exact ⟨x, h.c x hx, e1, by rw [← e]; exact e2⟩
    · rintro ⟨x, hx, e1, e2⟩
      have : x = c := hb.one x hx c (h.c c hc) e1
      subst this
      exact ⟨x, hc, e1, by rw [e]; exact e2⟩
  intro c hc
  obtain ⟨n, hn, _, _⟩ := num_bd hb' hc
  exact key n c hc hn
/-- What is cut: the same ranges, from two lists. -/
theorem cut_eq {α β : Type} {f : α → Cr} {g : β → Cr} {l : List α} {l' : List β} {e : Cr} (h1 : ∀ x ∈ l, ∃ y ∈ l', g y = f x) (h2 : ∀ y ∈ l', ∃ x ∈ l, f x = g y) : l.foldl (fun r x => r.cut (f x)) e = l'.foldl (fun r x => r.cut (g x)) e := by
  have a := fold_sub (f := f) (g := g) (l := l) (l' := l') (e := e) fun y hy => by
    obtain ⟨x, hx, e⟩ := h2 y hy
    exact ⟨x, hx, by rw [e]; exact Cr.sub.refl _⟩
  have c := fold_sub (f := g) (g := f) (l := l') (l' := l) (e := e) fun x hx => by
    obtain ⟨y, hy, e⟩ := h1 x hx
    exact ⟨y, hy, by rw [e]; exact Cr.sub.refl _⟩
  unfold Cr.sub at a c
  exact Cr.ext' (by omega) (by omega)
theorem item_eq {b b' : Bk} {h h' : List Int} {S S' : Int → Cr} {item day below : Int} (hi : b'.item item = b.item item) (hc : ∀ c : Ct, Bk.ofB item day below c = true → ((c ∈ b'.certs ∧ c.num ∈ h') ↔ (c ∈ b.certs ∧ c.num ∈ h)))
    (hS : ∀ c ∈ b.certs, Bk.ofB item day below c = true → c.num ∈ h → S' c.num = S c.num) : b'.itemSpan h' S' item day below = b.itemSpan h S item day below := by
  cases hs : (b.item item).std with
  | true => unfold Bk.itemSpan; rw [hi, if_pos hs, if_pos hs]
  | false =>
    rw [itemSpan_fold hs, itemSpan_fold (by rw [hi]; exact hs), hi]
    refine cut_eq (fun c hc' => ?_) (fun c hc' => ?_)
    · rw [List.mem_filter, Bool.and_eq_true, List.contains_iff_mem] at hc'
      obtain ⟨k1, k2, k3⟩ := hc'
      obtain ⟨k4, k5⟩ := (hc c k2).1 ⟨k1, k3⟩
      refine ⟨c, ?_, by rw [hS c k4 k2 k5]⟩
      rw [List.mem_filter, Bool.and_eq_true, List.contains_iff_mem]
      exact ⟨k4, k2, k5⟩
    · rw [List.mem_filter, Bool.and_eq_true, List.contains_iff_mem] at hc'
      obtain ⟨k1, k2, k3⟩ := hc'
      obtain ⟨k4, k5⟩ := (hc c k2).2 ⟨k1, k3⟩
      refine ⟨c, ?_, by rw [hS c k1 k2 k3]⟩
      rw [List.mem_filter, Bool.and_eq_true, List.contains_iff_mem]
      exact ⟨k4, k2, k5⟩
theorem Part.span {b b' : Bk} (hb : b.ok) (hb' : b'.ok) (h : Part b b') : ∀ c ∈ b'.certs, c.num ∈ b.held [] → b'.span (b'.held []) c.num = b.span (b.held []) c.num := by
  have hh := Part.held hb hb' h (bad := [])
  have key : ∀ n : Nat, ∀ c ∈ b'.certs, c.num = n → c.num ∈ b.held [] → b'.span (b'.held []) c.num = b.span (b.held []) c.num := by
    intro n
    induction n using Nat.strongRecOn with
    | _ n ih =>
    intro c hc hn hx
    obtain ⟨n', hn', h1, h2⟩ := num_bd hb' hc
    have : n' = n := by omega
    subst this
    have g1 : b'.get (n' : Int) = c := by rw [← hn]; exact get_of hb' hc
    have g2 : b.get (n' : Int) = c := by rw [← hn]; exact get_of hb (h.c c hc)
    have hx' := (hh c hc).2 hx
    rw [hn] at hx hx' ⊢
    rw [span_is h2, span_is h2, if_pos (List.contains_iff_mem.2 hx'), if_pos (List.contains_iff_mem.2 hx), g1, g2]
    congr 1
    have hcr : ∀ o : Ct, Bk.ofB c.src c.day (n' : Int) o = restsB c o := fun o => by rw [rests_of, hn]
    refine item_eq (h.item _) (fun o ho => ?_) (fun o ho hof hox => ?_)
    · rw [hcr] at ho
      constructor
      · rintro ⟨k1, k2⟩; exact ⟨h.c o k1, (hh o k1).1 k2⟩
      · rintro ⟨k1, k2⟩
        have k3 := h.r c hc o k1 ho
        exact ⟨k3, (hh o k3).2 k2⟩
    · rw [hcr] at hof
      have k3 := h.r c hc o ho hof
      obtain ⟨m, hm, _, _⟩ := num_bd hb' k3
      have hlt : o.num < c.num := by unfold restsB at hof; simp only [Bool.and_eq_true, decide_eq_true_eq] at hof; exact hof.1.2
      exact ih m (by omega) o k3 hm hox
  intro c hc
  obtain ⟨n, hn, _, _⟩ := num_bd hb' hc
  exact key n c hc hn
/-- The same certificates, in any order. -/
structure Like (b b' : Bk) : Prop where
  i : b'.items = b.items
  c : ∀ c, c ∈ b'.certs ↔ c ∈ b.certs
theorem Like.part {b b' : Bk} (h : Like b b') : Part b b' := ⟨h.i, fun c hc => (h.c c).1 hc, fun _ _ o ho _ => (h.c o).2 ho⟩
theorem Like.nums {b b' : Bk} (hb : b.ok) (hb' : b'.ok) (h : Like b b') : b'.nums = b.nums := inc_ext nums_sorted nums_sorted fun x => by
  rw [mem_nums hb', mem_nums hb]
  exact ⟨fun ⟨c, hc, e⟩ => ⟨c, (h.c c).1 hc, e⟩, fun ⟨c, hc, e⟩ => ⟨c, (h.c c).2 hc, e⟩⟩
theorem Like.held {b b' : Bk} (hb : b.ok) (hb' : b'.ok) (h : Like b b') (bad : List Int) : b'.held bad = b.held bad := inc_ext (heldU_sorted 1000).1 (heldU_sorted 1000).1 fun x => by
  have hh := Part.held hb hb' h.part (bad := bad)
  constructor
  · intro hx
    obtain ⟨c, hc, e, _⟩ := (mem_held hb').1 hx
    rw [← e] at hx ⊢
    exact (hh c hc).1 hx
  · intro hx
    obtain ⟨c, hc, e, _⟩ := (mem_held hb).1 hx
    rw [← e] at hx ⊢
    exact (hh c ((h.c c).2 hc)).2 hx
theorem Like.get {b b' : Bk} (hb : b.ok) (hb' : b'.ok) (h : Like b b') {n : Int} (hn : n ∈ b.nums) : b'.get n = b.get n := by
  obtain ⟨h1, h2⟩ := get_num hb hn
  have := get_of hb' ((h.c _).2 h1)
  rw [h2] at this
  exact this
theorem Like.itemSpan {b b' : Bk} (hb : b.ok) (hb' : b'.ok) (h : Like b b') (item day below : Int) : b'.itemSpan (b'.held []) (b'.span (b'.held [])) item day below = b.itemSpan (b.held []) (b.span (b.held [])) item day below := by
  have e := h.held hb hb' []
  refine item_eq (h.part.item _) (fun c _ => by rw [e, h.c]) (fun c hc _ hx => Part.span hb hb' h.part c ((h.c c).2 hc) hx)
theorem Like.contra {b b' : Bk} (hb : b.ok) (hb' : b'.ok) (h : Like b b') : b'.contra = b.contra := by
  unfold Bk.contra
  rw [Bool.eq_iff_iff, List.any_eq_true, List.any_eq_true]
  constructor
  · rintro ⟨c, hc, h1⟩
    rw [h.itemSpan hb hb', h.held hb hb'] at h1
    exact ⟨c, (h.c c).1 hc, h1⟩
  · rintro ⟨c, hc, h1⟩
    refine ⟨c, (h.c c).2 hc, ?_⟩
    rw [h.itemSpan hb hb', h.held hb hb']
    exact h1
end Go.Proofs.YtaffbiibcfeigaaGreat
/-! Layer 2 (chain), plain: books whose standards are moved; the contract of ready. -/
namespace Go.Proofs.YtaffbiibcfeigaaGreat
open Go.RowKit
set_option maxRecDepth 10000
set_option linter.unusedSimpArgs false
attribute [local irreducible] Bk.held Bk.nums Bk.heldU Bk.span
theorem own_on {b : Bk} (hb : b.ok) {c : Ct} (hc : c ∈ b.certs) : Bk.ofB c.it c.day 1000 c = true := by
  have h := cert_bds hb hc
  unfold Bk.ofB Ct.on inB
  rw [decide_eq_true (show c.num < 1000 by omega), decide_eq_true (rfl : c.it = c.it), decide_eq_true (Int.le_refl c.day), decide_eq_true (show c.day ≤ c.day + c.valid by omega)]
  rfl
theorem any_same {α : Type} {l : List α} {p q : α → Bool} (h : ∀ x ∈ l, p x = q x) : l.any p = l.any q := by
  rw [Bool.eq_iff_iff, List.any_eq_true, List.any_eq_true]
  constructor
  · rintro ⟨x, hx, e⟩; exact ⟨x, hx, by rw [← h x hx]; exact e⟩
  · rintro ⟨x, hx, e⟩; exact ⟨x, hx, by rw [h x hx]; exact e⟩
section
variable {b b' : Bk} {t : Int}
theorem Moved.held (hm : Moved b b' t) (bad : List Int) : b'.held bad = b.held bad := held_std hm.c hm.s bad
theorem Moved.span_at (hb : b.ok) (hb' : b'.ok) (hm : Moved b b' t) {item day : Int} (hex : (b.item item).std = true ∨ ∃ o ∈ b.certs, Bk.ofB item day 1000 o = true ∧ o.num ∈ b.held []) : b'.itemSpan (b'.held []) (b'.span (b'.held [])) item day 1000 = (b.itemSpan (b.held []) (b.span (b.held [])) item day 1000).mv t := by
  have bd' := span_bdd hb'
  rw [hm.held, hm.c] at bd'
  rw [hm.held]
  refine item_mv hb hb' hm (A := 300000 * 1000) (by omega) (by omega) hex (fun o ho _ hox => ?_) (fun o ho _ hox => ?_) fun o ho _ hox => span_mv hb hb' hm o ho hox
  · have := span_bdd hb o ho hox
    have := (cert_bds hb ho).2.1
    unfold Cr.bdd at *
    omega
  · have := bd' o ho hox
    have := (cert_bds hb ho).2.1
    unfold Cr.bdd at *
    omega
theorem Moved.contra (hb : b.ok) (hb' : b'.ok) (hm : Moved b b' t) : b'.contra = b.contra := by
  unfold Bk.contra
  rw [hm.c]
  refine any_same fun c hc => ?_
  rw [hm.held]
  cases hh : (b.held []).contains c.num
  · rfl
  · have := hm.span_at hb hb' (item := c.it) (day := c.day) (.inr ⟨c, hc, own_on hb hc, List.contains_iff_mem.1 hh⟩)
    rw [hm.held] at this
    rw [this]
    unfold Cr.mv
    simp only
    congr 1
    rw [Bool.eq_iff_iff]
    simp only [decide_eq_true_eq]
    omega
theorem Moved.nums (hm : Moved b b' t) : b'.nums = b.nums := by unfold Bk.nums; rw [hm.c]
theorem Moved.isHeld (hm : Moved b b' t) (item day : Int) : b'.isHeld item day = b.isHeld item day := by
  have hg : b'.get = b.get := funext fun n => get_same hm.c n
  unfold Bk.isHeld Bk.ofL
  rw [hm.s, hm.held, hm.nums, hg]
theorem Moved.askM (hb : b.ok) (hb' : b'.ok) (hm : Moved b b' t) (item day : Int) : b'.askM item day = b.askM item day := by
  unfold Bk.askM Bk.hasItem
  rw [hm.isHeld, hm.l, Bk.ok_iff.2 hb, Bk.ok_iff.2 hb']
theorem held_ex (hb : b.ok) {item day : Int} (h : b.isHeld item day = true) : (b.item item).std = true ∨ ∃ o ∈ b.certs, Bk.ofB item day 1000 o = true ∧ o.num ∈ b.held [] := by
  unfold Bk.isHeld at h
  rw [Bool.or_eq_true, any_ofL hb, List.any_eq_true] at h
  rcases h with h | ⟨o, ho, h⟩
  · exact .inl h
  · rw [Bool.and_eq_true, List.contains_iff_mem] at h
    exact .inr ⟨o, ho, h.1, h.2⟩
theorem ask_held {item day : Int} (h : b.askM item day = 0) : b.isHeld item day = true := by
  unfold Bk.askM at h
  split at h
  · split at h
    · split at h
      · assumption
      · cases h
    · cases h
  · rename_i h0; exact absurd h h0
theorem Moved.spanM (hb : b.ok) (hb' : b'.ok) (hm : Moved b b' t) (item day : Int) : (b'.spanM item day).2 = (b.spanM item day).2 ∧ ((b.spanM item day).2 = 0 → (b'.spanM item day).1 = (b.spanM item day).1.mv t) := by
  unfold Bk.spanM
  rw [hm.askM hb hb', hm.contra hb hb']
  split
  · rename_i h
    split
    · exact ⟨rfl, fun h => by cases h⟩
    · exact ⟨rfl, fun _ => hm.span_at hb hb' (held_ex hb (ask_held h))⟩
  · rename_i h
    exact ⟨rfl, fun h' => absurd h' h⟩
theorem Moved.wo (hm : Moved b b' t) (n : Int) : Moved (b.wo n) (b'.wo n) t :=
  ⟨by unfold Bk.wo; rw [hm.c], hm.l, hm.s, hm.d, hm.v⟩
theorem ask_item {item day : Int} (h : b.askM item day = 0) : 0 ≤ item ∧ item < b.items.length ∧ 0 ≤ day ∧ day ≤ 1000 := by
  unfold Bk.askM at h
  split at h
  · split at h
    · rename_i h1
      unfold Bk.hasItem inB at h1
      simp only [Bool.and_eq_true, decide_eq_true_eq] at h1
      omega
    · cases h
  · rename_i h0; exact absurd h h0
theorem spanM_bdd (hb : b.ok) (item day : Int) : (b.spanM item day).1.bdd 1000000000 := by
  unfold Bk.spanM
  split
  · rename_i h
    split
    · unfold Cr.bdd; simp only; omega
    · obtain ⟨h1, h2, _⟩ := ask_item h
      have := item_bdd hb (held := b.held []) (S := b.span (b.held [])) (item := item) (day := day) (below := 1000) (A := 300000 * 1000) h1 h2 (by omega) (by omega) (held_ex hb (ask_held h)) (fun o ho _ hox => by
        have := span_bdd hb o ho hox
        have := (cert_bds hb ho).2.1
        unfold Cr.bdd at *
        omega)
      show Cr.bdd (b.itemSpan (b.held []) (b.span (b.held [])) item day 1000) 1000000000
      unfold Cr.bdd at *
      omega
  · unfold Cr.bdd; simp only; omega
end
end Go.Proofs.YtaffbiibcfeigaaGreat
/-! Layer 2 (chain), plain: best chains in a part of a book; what the functions answer there. -/
namespace Go.Proofs.YtaffbiibcfeigaaGreat
open Go.RowKit
set_option maxRecDepth 10000
set_option linter.unusedSimpArgs false
attribute [local irreducible] Bk.held Bk.nums Bk.heldU Bk.span
theorem flatMap_eq {α β : Type} {f g : α → List β} : ∀ {l : List α}, (∀ x ∈ l, f x = g x) → l.flatMap f = l.flatMap g
  | [], _ => rfl
  | x :: l, h => by rw [List.flatMap_cons, List.flatMap_cons, h x (by simp), flatMap_eq fun y hy => h y (by simp [hy])]
theorem sub_ok {b b' : Bk} (hb : b.ok) (hi : b'.items = b.items) (hc : ∀ c ∈ b'.certs, c ∈ b.certs) (hl : b'.certs.length ≤ 24) : b'.ok :=
  ⟨by rw [hi]; exact hb.i, hl, by rw [hi]; exact hb.it, fun x hx => by
    have := hb.ct x (hc x hx)
    unfold Bk.certB Bk.hasItem Bk.item at this ⊢
    rw [hi]; exact this, fun x hx y hy e => hb.one x (hc x hx) y (hc y hy) e, fun x hx y hy e => hb.day x (hc x hx) y (hc y hy) e⟩
section
variable {b b' : Bk}
theorem Part.numsSub (hb : b.ok) (hb' : b'.ok) (h : Part b b') {n : Int} (hn : n ∈ b'.nums) : n ∈ b.nums := by
  obtain ⟨c, hc, e⟩ := (mem_nums hb').1 hn
  exact (mem_nums hb).2 ⟨c, h.c c hc, e⟩
theorem Part.get (hb : b.ok) (hb' : b'.ok) (h : Part b b') {n : Int} (hn : n ∈ b'.nums) : b'.get n = b.get n := by
  obtain ⟨h1, h2⟩ := get_num hb' hn
  have := get_of hb (h.c _ h1)
  rw [h2] at this
  exact this.symm
theorem Part.fil (hb : b.ok) (hb' : b'.ok) (h : Part b b') (P : Ct → Bool) (hP : ∀ o ∈ b.certs, P o = true → o ∈ b'.certs) : ((b'.held []).filter fun m => P (b'.get m)) = (b.held []).filter fun m => P (b.get m) := by
  have hh := Part.held hb hb' h (bad := [])
  refine inc_ext (held_sorted.filter _) (held_sorted.filter _) fun x => ?_
  rw [List.mem_filter, List.mem_filter]
  constructor
  · rintro ⟨h1, h2⟩
    have hn := held_nums hb' x h1
    obtain ⟨g1, g2⟩ := get_num hb' hn
    rw [h.get hb hb' hn] at g1 g2 h2
    have := (hh _ g1)
    rw [g2] at this
    exact ⟨this.1 h1, h2⟩
  · rintro ⟨h1, h2⟩
    obtain ⟨g1, g2⟩ := get_num hb (held_nums hb x h1)
    have g3 := hP _ g1 h2
    have g4 := get_of hb' g3
    rw [g2] at g4
    have := (hh _ g3)
    rw [g2] at this
    exact ⟨this.2 h1, by rw [g4]; exact h2⟩
theorem Part.chains (hb : b.ok) (hb' : b'.ok) (h : Part b b') : ∀ n : Nat, (n : Int) ∈ b'.nums → b'.chains (b'.held []) n = b.chains (b.held []) n := by
  intro n
  induction n using Nat.strongRecOn with
  | _ n ih =>
  intro hn
  have hnb := h.numsSub hb hb' hn
  have hbd := nums_bd hb' n hn
  obtain ⟨g1, g2⟩ := get_num hb' hn
  rw [chains_is hb' (held_nums hb') (by omega) hn, chains_is hb (held_nums hb) (by omega) hnb, h.get hb hb' hn, h.item]
  rw [h.get hb hb' hn] at g1 g2
  split
  · rfl
  · rw [h.fil hb hb' (restsB (b.get n)) fun o ho hr => h.r _ g1 o ho hr]
    refine flatMap_eq fun m hm => ?_
    rw [List.mem_filter] at hm
    obtain ⟨hm1, hm2⟩ := hm
    have hmn := held_nums hb m hm1
    have hmb := nums_bd hb m hmn
    obtain ⟨k1, k2⟩ := get_num hb hmn
    have hlt : (b.get m).num < (b.get n).num := by unfold restsB at hm2; simp only [Bool.and_eq_true, decide_eq_true_eq] at hm2; exact hm2.1.2
    rw [k2, g2] at hlt
    obtain ⟨mm, rfl⟩ : ∃ mm : Nat, m = mm := ⟨m.toNat, by omega⟩
    have hm' : (mm : Int) ∈ b'.nums := (mem_nums hb').2 ⟨b.get mm, h.r _ g1 _ k1 hm2, k2⟩
    rw [ih mm (by omega) hm']
theorem Part.bestC (hb : b.ok) (hb' : b'.ok) (h : Part b b') {item day : Int} (hd : ∀ o ∈ b.certs, Bk.ofB item day 1000 o = true → o ∈ b'.certs) : b'.bestC (b'.held []) item day = b.bestC (b.held []) item day := by
  have hP : ∀ o ∈ b.certs, (decide (o.it = item) && o.on day) = true → o ∈ b'.certs := fun o ho hx => hd o ho (by
    unfold Bk.ofB
    rw [hx, Bool.and_true]
    have := (cert_bds hb ho).2.1
    simp; omega)
  unfold Bk.bestC
  rw [← h.fil hb hb' (fun o => decide (o.it = item) && o.on day) hP]
  congr 1
  refine flatMap_eq fun m hm => ?_
  have hmn := held_nums hb' m (List.mem_filter.1 hm).1
  have hmb := nums_bd hb' m hmn
  obtain ⟨mm, rfl⟩ : ∃ mm : Nat, m = mm := ⟨m.toNat, by omega⟩
  exact h.chains hb hb' mm hmn
theorem Part.isHeld (hb : b.ok) (hb' : b'.ok) (h : Part b b') {item day : Int} (hd : ∀ o ∈ b.certs, Bk.ofB item day 1000 o = true → o ∈ b'.certs) : b'.isHeld item day = b.isHeld item day := by
  have hh := Part.held hb hb' h (bad := [])
  unfold Bk.isHeld
  rw [h.item, any_ofL hb, any_ofL hb']
  congr 1
  rw [Bool.eq_iff_iff, List.any_eq_true, List.any_eq_true]
  constructor
  · rintro ⟨o, ho, e⟩
    rw [Bool.and_eq_true, List.contains_iff_mem] at e
    refine ⟨o, h.c o ho, ?_⟩
    rw [Bool.and_eq_true, List.contains_iff_mem]
    exact ⟨e.1, (hh o ho).1 e.2⟩
  · rintro ⟨o, ho, e⟩
    rw [Bool.and_eq_true, List.contains_iff_mem] at e
    have ho' := hd o ho e.1
    refine ⟨o, ho', ?_⟩
    rw [Bool.and_eq_true, List.contains_iff_mem]
    exact ⟨e.1, (hh o ho').2 e.2⟩
theorem Part.askM (hb : b.ok) (hb' : b'.ok) (h : Part b b') {item day : Int} (hd : ∀ o ∈ b.certs, Bk.ofB item day 1000 o = true → o ∈ b'.certs) : b'.askM item day = b.askM item day := by
  unfold Bk.askM Bk.hasItem
  rw [h.isHeld hb hb' hd, h.i, Bk.ok_iff.2 hb, Bk.ok_iff.2 hb']
theorem Part.span_at (hb : b.ok) (hb' : b'.ok) (h : Part b b') {item day : Int} (hd : ∀ o ∈ b.certs, Bk.ofB item day 1000 o = true → o ∈ b'.certs) : b'.itemSpan (b'.held []) (b'.span (b'.held [])) item day 1000 = b.itemSpan (b.held []) (b.span (b.held [])) item day 1000 := by
  have hh := Part.held hb hb' h (bad := [])
  refine item_eq (h.item _) (fun o ho => ?_) (fun o ho hof hox => Part.span hb hb' h o (hd o ho hof) hox)
  constructor
  · rintro ⟨k1, k2⟩; exact ⟨h.c o k1, (hh o k1).1 k2⟩
  · rintro ⟨k1, k2⟩
    have k3 := hd o k1 ho
    exact ⟨k3, (hh o k3).2 k2⟩
/-- A part in which what is valid on the day of a certificate is too: it is contradictory only if the book is. -/
theorem Part.contra (hb : b.ok) (hb' : b'.ok) (h : Part b b') (hd : ∀ c ∈ b'.certs, ∀ o ∈ b.certs, Bk.ofB c.it c.day 1000 o = true → o ∈ b'.certs) : b'.contra = true → b.contra = true := by
  have hh := Part.held hb hb' h (bad := [])
  unfold Bk.contra
  rw [List.any_eq_true, List.any_eq_true]
  rintro ⟨c, hc, e⟩
  rw [Bool.and_eq_true, List.contains_iff_mem, h.span_at hb hb' (hd c hc)] at e
  refine ⟨c, h.c c hc, ?_⟩
  rw [Bool.and_eq_true, List.contains_iff_mem]
  exact ⟨(hh c hc).1 e.1, e.2⟩
end
end Go.Proofs.YtaffbiibcfeigaaGreat
