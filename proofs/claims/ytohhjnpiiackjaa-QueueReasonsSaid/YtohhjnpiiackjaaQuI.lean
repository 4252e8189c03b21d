/- Layer 10 (queue), the reference: the most runs that may be on machines at an hour. (Several texts in one.) -/
import Derived.Test.YtohhjnpiiackjaaQuG
set_option linter.unusedVariables false
set_option linter.unusedSimpArgs false
/-! Layer 10 (queue), the reference: the most runs that may be on machines at an hour. -/
namespace Go.Proofs.Ytohhjnpiiackjaa
open Go.RowKit
set_option maxRecDepth 10000
set_option linter.unusedSimpArgs false
attribute [local simp] AS.exp expG Box.ren AV.map AV.mapL outsOk noRet Site.isRet Box.allS AV.allS AV.allSL retB dropL AS.adds renL outG outOk lentBx inG fnOf lookA List.findIdx?_cons
attribute [local simp] Box.purge Site.isLoc
/-- The next machine gets one of the first i runs of the list, or none. -/
def mostL (q : Qu) (h : Int) (l : List Int) (j : Nat) (rec : List Bool → Nat) (t : List Bool) : Nat → Nat
  | 0 => rec t
  | i + 1 => if (t[((l[i]?).getD 0).toNat]?).getD true = true ∨ q.may ((l[i]?).getD 0).toNat j h = false then mostL q h l j rec t i else max (mostL q h l j rec t i) (1 + rec (t.set ((l[i]?).getD 0).toNat true))
/-- How many runs of a list the last k machines can have, apart from those that are taken. -/
def Qu.mostM (q : Qu) (h : Int) (l : List Int) : Nat → List Bool → Nat
  | 0, _ => 0
  | k + 1, t => mostL q h l (q.ms.length - (k + 1)) (q.mostM h l k) t l.length
theorem mostL_bd {q : Qu} {h : Int} {l : List Int} {j k : Nat} {rec : List Bool → Nat} {t : List Bool} (hr : ∀ t, rec t ≤ k) : ∀ i, mostL q h l j rec t i ≤ k + 1
  | 0 => by have := hr t; unfold mostL; omega
  | i + 1 => by
    have h1 := mostL_bd (q := q) (h := h) (l := l) (j := j) (t := t) hr i
    have h2 := hr (t.set ((l[i]?).getD 0).toNat true)
    unfold mostL
    split <;> omega
theorem mostM_bd {q : Qu} {h : Int} {l : List Int} : ∀ (k : Nat) (t : List Bool), q.mostM h l k t ≤ k
  | 0, _ => Nat.le_refl _
  | k + 1, t => mostL_bd (mostM_bd k) _
theorem bools_set {t : List Bool} {i : Nat} {b : Bool} : (t.map PV.bool).set i (.bool b) = (t.set i b).map PV.bool := by rw [List.map_set]
def MostC (q : Qu) (h : Int) (l : List Int) (k : Nat) : Prop := ∀ t : List Bool, t.length = q.rs.length → CallsA Try.prog 60 [.pv q.pv, .pv (intsP l), .pv (.int .i64 h), .pv (.int .i64 ((q.ms.length - k : Nat) : Int)), .vec (.par 0) 1 0 q.rs.length] [(.par 0, .arr 4 1 (t.map PV.bool))] (fun r B => r = .pv (.int .i64 (q.mostM h l k t)) ∧ B = [(.par 0, .arr 4 1 (t.map PV.bool))])
def mostS (q : Qu) (h : Int) (l : List Int) (j : Nat) (t : List Bool) (b i : Nat) : AS := ⟨[(1, .pv (intsP l)), (2, .pv (.int .i64 h)), (3, .pv (.int .i64 j)), (4, .vec (.par 0) 1 0 q.rs.length), (5, .ptr (.loc 5 0) 0), (11, .pv (.int .i64 b)), (12, .pv (.int .i64 i))], [(.par 0, .arr 4 1 (t.map PV.bool)), (.loc 5 0, .cells q.cells)]⟩
set_option maxHeartbeats 8000000 in
theorem most_c (q : Qu) (hq : q.ok) (h : Int) (l : List Int) (hl : l.length ≤ 1000) (hin : ∀ x ∈ l, 0 ≤ x ∧ x < q.rs.length) : ∀ k, k ≤ q.ms.length → MostC q h l k
  | 0, _ => fun t ht => by
    refine calls_of_awpB [.par 0] mixed L60_ok (Nat.le_of_ble_eq_true rfl) ?_
    simp [-getElem?_pos, L60, Qu.pv, Qu.mostM]
  | k + 1, hk => fun t ht => by
    have ih := most_c q hq h l hl hin k (by omega)
    have hm4 := hq.m
    have hr6 := hq.r
    have hb1 := mostM_bd (q := q) (h := h) (l := l) k
    have hb2 := mostL_bd (q := q) (h := h) (l := l) (j := q.ms.length - (k + 1)) (t := t) hb1
    have hval : q.mostM h l (k + 1) t = mostL q h l (q.ms.length - (k + 1)) (q.mostM h l k) t l.length := rfl
    rw [hval]
    unfold MostC at ih
    obtain ⟨j, hj⟩ : ∃ j, q.ms.length - (k + 1) = j := ⟨_, rfl⟩
    have hj1 : q.ms.length - k = j + 1 := by omega
    rw [hj] at hb2 ⊢
    rw [hj1] at ih
    generalize hR : q.mostM h l k = R at *
    have hjm : ¬ (j : Int) = (q.ms.length : Int) := by omega
    have hwj := wrapS (k := j) (by omega)
    refine calls_of_awpB [.par 0] mixed L60_ok (Nat.le_of_ble_eq_true rfl) ?_
    have hjm2 : ¬ j = q.ms.length := by omega
    have ih0 := ih t ht
    simp [-getElem?_pos, -List.getElem?_map, L60, Qu.pv, hjm, hjm2, hwj]
    refine call_lent (as' := [.pv q.pv, .pv (intsP l), .pv (.int .i64 h), .pv (.int .i64 ((j + 1 : Nat) : Int)), .vec (.par 0) 1 0 q.rs.length]) (B := [(.par 0, .arr 4 1 (t.map PV.bool))]) (fs := []) (cs := []) 24 [.par 0] ?_ rfl rfl ?_ ?_ ?_ ih0 ?_
    · rfl
    · simp
    · simp
    · simp [Qu.pv]
    rintro r0 B0 ⟨rfl, rfl⟩
    refine ⟨rfl, by simp, ?_⟩
    simp [-getElem?_pos, -List.getElem?_map]
    refine awp_loopS (fun n τ => ∃ i : Nat, i ≤ l.length ∧ n = l.length - i ∧ τ = mostS q h l j t (mostL q h l j R t i) i)
      ⟨l.length, mostS q h l j t (mostL q h l j R t 0) 0, Sub.mk (by simp [mostS, mostL]) (by simp [Qu.cells, mostS]), 0, Nat.zero_le _, rfl, rfl⟩ ?_
    rintro J hJ n τ ⟨i, hi, rfl, rfl⟩
    by_cases hlt : i < l.length
    · obtain ⟨x, hx⟩ : ∃ x, l[i]? = some x := ⟨l[i], List.getElem?_eq_getElem hlt⟩
      obtain ⟨hx0, hx1⟩ := hin x (List.mem_of_getElem? hx)
      obtain ⟨r, rfl⟩ : ∃ r : Nat, x = r := ⟨x.toNat, by omega⟩
      have hrl : r < q.rs.length := by omega
      have hg : (l.map intP)[i]? = some (.int .i64 r) := by rw [List.getElem?_map, hx]; rfl
      have hw := wrapS (k := i) (by omega)
      have hmeas : l.length - (i + 1) < l.length - i := by omega
      have hround := hJ _ _ ⟨i + 1, hlt, rfl, rfl⟩
      obtain ⟨b, hb⟩ : ∃ b, t[r]? = some b := ⟨t[r], List.getElem?_eq_getElem (by omega)⟩
      have hgb : (t.map PV.bool)[r]? = some (.bool b) := by rw [List.getElem?_map, hb]; rfl
      have hmay := rmay_c q hq r j h hrl (by omega)
      have hnx : mostL q h l j R t (i + 1) = if b = true ∨ q.may r j h = false then mostL q h l j R t i else max (mostL q h l j R t i) (1 + R (t.set r true)) := by
        rw [mostL, hx]
        simp only [Option.getD_some, Int.toNat_natCast, hb]
      have hrt : r < t.length := by omega
      rw [hnx] at hround
      have hb3 := hb2 i
      clear hJ hnx hval
      generalize mostL q h l j R t i = E at *
      cases b with
      | true =>
        rw [if_pos (.inl rfl)] at hround
        simp [-getElem?_pos, -List.getElem?_map, mostS, intsP, hlt, hg, hgb, hw, ht, hrl, nblt]
        refine ⟨_, _, hmeas, Sub.mk ?_ ?_, hround⟩
        · simp [mostS, intsP]
        · simp [mostS, Qu.cells]
      | false =>
        simp [-getElem?_pos, -List.getElem?_map, mostS, intsP, hlt, hg, hgb, hw, ht, hrl, Qu.cells, nblt]
        refine call_gives (k := 0) (fs := []) (xs := [q.pv, .int .i64 r, .int .i64 j, .int .i64 h]) (cs := []) rfl rfl hmay rfl ?_
        cases hc : q.may r j h with
        | false =>
          rw [if_pos (.inr hc)] at hround
          simp [-getElem?_pos, -List.getElem?_map, hw]
          refine ⟨_, _, hmeas, Sub.mk ?_ ?_, hround⟩
          · simp [mostS, intsP]
          · simp [mostS, Qu.cells]
        | true =>
          rw [if_neg (by rw [hc]; simp)] at hround
          have ih2 := ih (t.set r true) (by simpa using ht)
          have hback : t.set r false = t := by
            apply List.ext_getElem?
            intro j'
            by_cases e : j' = r
            · subst e; rw [List.getElem?_set_self hrt, hb]
            · rw [List.getElem?_set_ne (fun e' => e e'.symm)]
          have hgb2 : ((t.set r true).map PV.bool)[r]? = some (.bool true) := by rw [List.getElem?_map, List.getElem?_set_self hrt]; rfl
          have hb4 := hb1 (t.set r true)
          have hw1 : IntKind.i64.wrap (1 + (R (t.set r true) : Int)) = ((1 + R (t.set r true) : Nat) : Int) := by rw [wrap64 (by omega)]; omega
          simp [-getElem?_pos, -List.getElem?_map, -List.map_set, intsP, hlt, hg, hgb, hw, hwj, ht, hrl, setAt, bools_set, nblt]
          refine call_lent (as' := [.pv q.pv, .pv (intsP l), .pv (.int .i64 h), .pv (.int .i64 ((j + 1 : Nat) : Int)), .vec (.par 0) 1 0 q.rs.length]) (B := [(.par 0, .arr 4 1 ((t.set r true).map PV.bool))]) (fs := []) (cs := []) 62 [.par 0] ?_ rfl rfl ?_ ?_ ?_ ih2 ?_
          · rfl
          · simp
          · simp
          · simp [Qu.pv, intsP]
          rintro r0 B0 ⟨rfl, rfl⟩
          refine ⟨rfl, by simp, ?_⟩
          simp [-getElem?_pos, -List.getElem?_map, -List.map_set, intsP, hlt, hg, hgb2, hw, hw1, ht, hrl, setAt, bools_set, nblt, hback]
          have hmax : (if (E : Int) < 1 + (R (t.set r true) : Int) then 1 + (R (t.set r true) : Int) else (E : Int)) = ((max E (1 + R (t.set r true)) : Nat) : Int) := by split <;> omega
          refine ⟨_, _, hmeas, Sub.mk ?_ ?_, hround⟩
          · simp [mostS, intsP, hmax]
          · simp [mostS, Qu.cells]
    · have he : i = l.length := by omega
      subst he
      simp [-getElem?_pos, -List.getElem?_map, mostS, intsP, Qu.cells]
end Go.Proofs.Ytohhjnpiiackjaa
/-! Layer 10 (queue): the reference's room of some runs is the program's. -/
namespace Go.Proofs.Ytohhjnpiiackjaa
open Go.RowKit
set_option maxRecDepth 10000
set_option linter.unusedSimpArgs false
attribute [local simp] AS.exp expG Box.ren AV.map AV.mapL outsOk noRet Site.isRet Box.allS AV.allS AV.allSL retB dropL AS.adds renL outG outOk lentBx inG fnOf lookA List.findIdx?_cons
attribute [local simp] Box.purge Site.isLoc
theorem mostL_up {q : Qu} {h : Int} {l : List Int} {j : Nat} {rec : List Bool → Nat} {t : List Bool} {n : Nat} : mostL q h l j rec t n ≤ mostL q h l j rec t (n + 1) := by
  show _ ≤ (if _ then _ else _)
  split
  · exact Nat.le_refl _
  · exact Nat.le_max_left _ _
theorem mostL_base {q : Qu} {h : Int} {l : List Int} {j : Nat} {rec : List Bool → Nat} {t : List Bool} : ∀ n, rec t ≤ mostL q h l j rec t n
  | 0 => Nat.le_refl _
  | n + 1 => Nat.le_trans (mostL_base n) mostL_up
theorem mostL_ge {q : Qu} {h : Int} {l : List Int} {j : Nat} {rec : List Bool → Nat} {t : List Bool} {i r : Nat} (hx : l[i]? = some (r : Int)) (ht : t[r]? = some false) (hm : q.may r j h = true) : ∀ n, i < n → 1 + rec (t.set r true) ≤ mostL q h l j rec t n
  | n + 1, hi => by
    by_cases e : i = n
    · subst e
      show _ ≤ (if _ then _ else _)
      rw [hx]
      simp only [Option.getD_some, Int.toNat_natCast, ht]
      rw [if_neg (by rw [hm]; simp)]
      exact Nat.le_max_right _ _
    · exact Nat.le_trans (mostL_ge hx ht hm n (by omega)) mostL_up
/-- What may still be chosen. -/
def Free (l : List Int) (t : List Bool) (r : Nat) : Prop := (r : Int) ∈ l ∧ t[r]? = some false
theorem mostM_ge {q : Qu} (hq : q.ok) {h : Int} {l : List Int} : ∀ k, k ≤ q.ms.length → ∀ (t : List Bool) (w : List Int), Mt q h (Free l t) (q.ms.length - k) w → 4 ≤ q.mostM h l k t + w.count (-1)
  | 0, _, t, w, hw => by
    have := hw.none (fun m r _ h1 h2 => by omega)
    omega
  | k + 1, hk, t, w, hw => by
    have hm4 := hq.m
    obtain ⟨j, hj⟩ : ∃ j, q.ms.length - (k + 1) = j := ⟨_, rfl⟩
    have hj1 : q.ms.length - k = j + 1 := by omega
    have hval : q.mostM h l (k + 1) t = mostL q h l j (q.mostM h l k) t l.length := by rw [← hj]; rfl
    rw [hval]
    rw [hj] at hw
    have hjl : j < w.length := by rw [hw.len]; omega
    have hx : w[j]? = some w[j] := List.getElem?_eq_getElem hjl
    rcases hw.ok _ (List.getElem_mem hjl) with h1 | h1
    · rw [h1] at hx
      have := mostM_ge hq (h := h) (l := l) k (by omega) t w (by rw [hj1]; exact hw.next hx)
      have := mostL_base (q := q) (h := h) (l := l) (j := j) (rec := q.mostM h l k) (t := t) l.length
      omega
    · obtain ⟨r, hr⟩ : ∃ r : Nat, w[j] = r := ⟨w[j].toNat, by omega⟩
      rw [hr] at hx
      obtain ⟨_, _, ⟨o1, o2⟩, o3⟩ := hw.on j r hx
      obtain ⟨i, hi⟩ := List.mem_iff_getElem?.1 o1
      have := mostL_ge (rec := q.mostM h l k) hi o2 o3 l.length (List.getElem?_eq_some_iff.1 hi).1
      have hc := hw.cut hx
      have h2 := mostM_ge hq (h := h) (l := l) k (by omega) (t.set r true) (w.set j (-1)) (by
        rw [hj1]
        exact (hc.mono fun r' hr' => ⟨hr'.1.1, by rw [List.getElem?_set_ne (fun e => hr'.2 e.symm)]; exact hr'.1.2⟩).next (List.getElem?_set_self hjl))
      rw [cnt_set hx] at h2
      omega
theorem mostM_is {q : Qu} (hq : q.ok) {h : Int} {l : List Int} (hin : ∀ x ∈ l, 0 ≤ x ∧ x < q.rs.length) : ∀ k, k ≤ q.ms.length → ∀ t : List Bool, ∃ w, Mt q h (Free l t) (q.ms.length - k) w ∧ q.mostM h l k t + w.count (-1) = 4
  | 0, _, t => ⟨idle4, Mt.idle, by show 0 + _ = _; decide⟩
  | k + 1, hk, t => by
    have hm4 := hq.m
    obtain ⟨j, hj⟩ : ∃ j, q.ms.length - (k + 1) = j := ⟨_, rfl⟩
    have hj1 : q.ms.length - k = j + 1 := by omega
    have hval : q.mostM h l (k + 1) t = mostL q h l j (q.mostM h l k) t l.length := by rw [← hj]; rfl
    rw [hval, hj]
    have ih := mostM_is hq (h := h) hin k (by omega)
    rw [hj1] at ih
    have step : ∀ n, n ≤ l.length → ∃ w, Mt q h (Free l t) j w ∧ mostL q h l j (q.mostM h l k) t n + w.count (-1) = 4 := by
      intro n
      induction n with
      | zero =>
          intro _
          obtain ⟨w, h1, h2⟩ := ih t
          exact ⟨w, h1.down, h2⟩
      | succ n ihn =>
          intro hn
          obtain ⟨w0, k1, k2⟩ := ihn (by omega)
          have hx : l[n]? = some l[n] := List.getElem?_eq_getElem (by omega)
          have hr0 := hin _ (List.mem_of_getElem? hx)
          obtain ⟨r, hr⟩ : ∃ r : Nat, l[n] = r := ⟨l[n].toNat, by omega⟩
          rw [hr] at hx
          have hst : mostL q h l j (q.mostM h l k) t (n + 1) = if (t[r]?).getD true = true ∨ q.may r j h = false then mostL q h l j (q.mostM h l k) t n else max (mostL q h l j (q.mostM h l k) t n) (1 + q.mostM h l k (t.set r true)) := by
            rw [mostL, hx]
            simp only [Option.getD_some, Int.toNat_natCast]
          rw [hst]
          split
          · exact ⟨w0, k1, k2⟩
          · rename_i hc
            rw [not_or] at hc
            have ht : t[r]? = some false := by
              cases e : t[r]? with
              | none => rw [e] at hc; exact absurd rfl hc.1
              | some b => cases b; rfl; rw [e] at hc; exact absurd rfl hc.1
            have hm : q.may r j h = true := by simpa using hc.2
            rcases Nat.le_total (1 + q.mostM h l k (t.set r true)) (mostL q h l j (q.mostM h l k) t n) with h1 | h1
            · rw [Nat.max_eq_left h1]
              exact ⟨w0, k1, k2⟩
            · rw [Nat.max_eq_right h1]
              obtain ⟨w, a1, a2⟩ := ih (t.set r true)
              have hjl : j < w.length := by rw [a1.len]; omega
              have hwj : w[j]? = some (-1) := by
                rcases a1.ok _ (List.getElem_mem hjl) with h3 | h3
                · rw [List.getElem?_eq_getElem hjl, h3]
                · obtain ⟨r', hr'⟩ : ∃ r' : Nat, w[j] = r' := ⟨w[j].toNat, by omega⟩
                  have := (a1.on j r' (by rw [List.getElem?_eq_getElem hjl, hr'])).1
                  omega
              refine ⟨w.set j r, a1.down.put (Nat.le_refl _) (by omega) hm ⟨List.mem_of_getElem? hx, ht⟩ (fun r' hr' => ?_), ?_⟩
              · have hne : r' ≠ r := fun e => by
                  have h4 := hr'.2
                  rw [e, List.getElem?_set_self (List.getElem?_eq_some_iff.1 ht).1] at h4
                  cases h4
                refine ⟨⟨hr'.1, ?_⟩, hne⟩
                have h4 := hr'.2
                rwa [List.getElem?_set_ne (fun e => hne e.symm)] at h4
              · have := cnt_put (run := r) hwj
                omega
    exact step l.length (Nat.le_refl _)
def noB (q : Qu) : List Bool := List.replicate q.rs.length false
theorem most_is {q : Qu} (hq : q.ok) {h : Int} {l : List Int} (hl : Runs q l) : q.mostM h l q.ms.length (noB q) = q.atM h l := by
  have hf : ∀ r : Nat, Free l (noB q) r ↔ (r : Int) ∈ l := fun r => ⟨fun h => h.1, fun h => ⟨h, by
    have := hl.inn _ h
    unfold noB
    rw [List.getElem?_replicate, if_pos (by omega)]⟩⟩
  obtain ⟨w, h1, h2⟩ := mostM_is hq (h := h) hl.inn q.ms.length (Nat.le_refl _) (noB q)
  obtain ⟨M, h3, h4⟩ := atM_is hq (h := h) hl
  rw [Nat.sub_self] at h1
  have h5 := atM_ge hq hl (h1.mono fun r hr => (hf r).1 hr)
  have h6 := mostM_ge hq (h := h) (l := l) q.ms.length (Nat.le_refl _) (noB q) M (by rw [Nat.sub_self]; exact h3.mono fun r hr => (hf r).2 hr)
  omega
def Qu.rroomM (q : Qu) (l : List Int) : Nat → Nat
  | 0 => 0
  | h + 1 => q.rroomM l h + q.mostM h l q.ms.length (noB q)
theorem rroom_is {q : Qu} (hq : q.ok) {l : List Int} (hl : Runs q l) : ∀ h, q.rroomM l h = q.roomM l h
  | 0 => rfl
  | h + 1 => by
    show q.rroomM l h + _ = q.roomM l h + _
    rw [rroom_is hq hl h, most_is hq hl]
theorem rroom_bd {q : Qu} (hq : q.ok) {l : List Int} : ∀ h, q.rroomM l h ≤ 4 * h
  | 0 => Nat.le_refl _
  | h + 1 => by
    have h1 := rroom_bd hq (l := l) h
    have h2 := mostM_bd (q := q) (h := h) (l := l) q.ms.length (noB q)
    have := hq.m
    show q.rroomM l h + _ ≤ _
    omega
set_option maxHeartbeats 4000000 in
theorem rroom_c (q : Qu) (hq : q.ok) (l : List Int) (hl : l.length ≤ 1000) (hin : ∀ x ∈ l, 0 ≤ x ∧ x < q.rs.length) (u : Nat) (hu : u ≤ 100) : Gives Try.prog 25 [q.pv, intsP l, .int .i64 u] (.int .i64 (q.rroomM l u)) := by
  have hqr := hq.r
  refine calls_of_awpS mixed L25_ok (Nat.le_of_ble_eq_true rfl) ?_
  have hR6 : q.rs.length ≤ 1000000 := by omega
  simp [-getElem?_pos, L25, Qu.pv]
  refine awp_loopS (fun n τ => ∃ k : Nat, k ≤ u ∧ n = u - k ∧ τ = ⟨[(1, .pv (intsP l)), (2, .pv (.int .i64 u)), (3, .ptr (.loc 3 0) 0), (7, .pv (.int .i64 (q.rroomM l k))), (8, .pv (.int .i64 k))], [(.loc 3 0, .cells q.cells)]⟩)
    ⟨u, ⟨[(1, .pv (intsP l)), (2, .pv (.int .i64 u)), (3, .ptr (.loc 3 0) 0), (7, .pv (.int .i64 0)), (8, .pv (.int .i64 0))], [(.loc 3 0, .cells q.cells)]⟩, Sub.mk (by simp) (by simp [Qu.cells]), 0, Nat.zero_le _, rfl, rfl⟩ ?_
  rintro J hJ n τ ⟨k, hk, rfl, rfl⟩
  by_cases hlt : k < u
  · have hw := wrapS (k := k) (by omega)
    have hmeas : u - (k + 1) < u - k := by omega
    have hround := hJ _ _ ⟨k + 1, hlt, rfl, rfl⟩
    have hmo := most_c q hq k l hl hin q.ms.length (Nat.le_refl _) (noB q) (by simp [noB])
    rw [Nat.sub_self] at hmo
    have hb := rroom_bd hq (l := l) (k + 1)
    have hst : q.rroomM l (k + 1) = q.rroomM l k + q.mostM k l q.ms.length (noB q) := rfl
    have hno : (noB q).map PV.bool = List.replicate q.rs.length (.bool false) := by simp [noB]
    rw [hno] at hmo
    clear hJ hno
    generalize q.rroomM l (k + 1) = E2 at *
    subst hst
    generalize q.rroomM l k = E at *
    generalize q.mostM k l q.ms.length (noB q) = A at *
    have hw2 : IntKind.i64.wrap ((E : Int) + (A : Int)) = (E : Int) + (A : Int) := wrap64 (by omega)
    simp [-getElem?_pos, Qu.cells, hlt, nble, hR6]
    refine call_lent (as' := [.pv q.pv, .pv (intsP l), .pv (.int .i64 k), .pv (.int .i64 ((0 : Nat) : Int)), .vec (.par 0) 1 0 q.rs.length]) (B := [(.par 0, .arr 4 1 (List.replicate q.rs.length (.bool false)))]) (fs := []) (cs := []) 22 [.loc 21 0] ?_ rfl rfl ?_ ?_ ?_ hmo ?_
    · rfl
    · simp
    · simp
    · simp [Qu.pv]
    rintro r0 B0 ⟨rfl, rfl⟩
    refine ⟨rfl, by simp, ?_⟩
    simp [-getElem?_pos, hw, hw2]
    refine ⟨_, _, hmeas, Sub.mk ?_ ?_, hround⟩
    · simp
    · simp [Qu.cells]
  · have he : k = u := by omega
    subst he
    simp [-getElem?_pos, Qu.cells]
end Go.Proofs.Ytohhjnpiiackjaa
