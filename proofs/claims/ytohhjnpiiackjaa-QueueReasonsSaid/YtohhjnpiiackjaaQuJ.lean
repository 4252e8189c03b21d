/- Layer 10 (queue), the reference: whether all can be done by an hour (three runs at most). (Several texts in one.) -/
import Derived.Test.YtohhjnpiiackjaaQuG
import Derived.Test.YtohhjnpiiackjaaQuH
set_option linter.unusedVariables false
set_option linter.unusedSimpArgs false
/-! Layer 10 (queue), the reference: whether all can be done by an hour (three runs at most). -/
namespace Go.Proofs.Ytohhjnpiiackjaa
open Go.RowKit
set_option maxRecDepth 10000
set_option linter.unusedSimpArgs false
attribute [local simp] AS.exp expG Box.ren AV.map AV.mapL outsOk noRet Site.isRet Box.allS AV.allS AV.allSL retB dropL AS.adds renL outG outOk lentBx inG fnOf lookA List.findIdx?_cons
attribute [local simp] Box.purge Site.isLoc
/-- What three runs need yet. -/
abbrev T3 := Nat × Nat × Nat
def get3 (l : T3) : Nat → Nat
  | 0 => l.1
  | 1 => l.2.1
  | 2 => l.2.2
  | _ => 0
def dec3 (l : T3) : Nat → T3
  | 0 => (l.1 - 1, l.2.1, l.2.2)
  | 1 => (l.1, l.2.1 - 1, l.2.2)
  | 2 => (l.1, l.2.1, l.2.2 - 1)
  | _ => l
def lfC (l : T3) : List PV := [.int .i64 l.1, .int .i64 l.2.1, .int .i64 l.2.2, .int .i64 0, .int .i64 0, .int .i64 0]
def stP (h : Nat) (l : T3) : PV := .agg (.int .i64 h :: lfC l)
def canB (q : Qu) (h : Nat) (s l : T3) (j i : Nat) : Bool := !(decide (get3 l i = 0) || decide (get3 l i < get3 s i)) && q.may i j h
/-- The last k machines of an hour get runs, or none; then all that is left can be done. -/
def laysB (q : Qu) (rec : T3 → Bool) (h : Nat) (s : T3) : Nat → T3 → Bool
  | 0, l => rec l
  | k + 1, l => (List.range q.rs.length).any (fun i => canB q h s l (q.ms.length - (k + 1)) i && laysB q rec h s k (dec3 l i)) || laysB q rec h s k l
/-- All can be done in the last d hours. -/
def endsB (q : Qu) (u : Nat) : Nat → T3 → Bool
  | 0, l => decide (l = (0, 0, 0))
  | d + 1, l => decide (l = (0, 0, 0)) || laysB q (endsB q u d) (u - (d + 1)) l q.ms.length l
def Snd (q : Qu) (u : Nat) (es : List (PV × PV)) : Prop := ∀ e ∈ es, ∃ h l, e = (stP h l, .bool (endsB q u (u - h) l))
theorem stP_eqK {h h' : Nat} {l l' : T3} : eqK (stP h l) (stP h' l') = decide (h = h' ∧ l = l') := by
  obtain ⟨a, b, c⟩ := l
  obtain ⟨a', b', c'⟩ := l'
  rw [Bool.eq_iff_iff]
  simp [stP, lfC, eqK, eqL, eqC, PV.cells]
  omega
theorem Snd.find {q : Qu} {u : Nat} {h : Nat} {l : T3} : ∀ {es : List (PV × PV)}, Snd q u es → findV (stP h l) es = none ∨ findV (stP h l) es = some (.bool (endsB q u (u - h) l))
  | [], _ => .inl rfl
  | e :: es, hs => by
    obtain ⟨h', l', rfl⟩ := hs e (by simp)
    rw [findV, stP_eqK]
    cases hd : decide (h = h' ∧ l = l') with
    | true =>
      obtain ⟨rfl, rfl⟩ : h = h' ∧ l = l' := by simpa using hd
      exact .inr rfl
    | false => exact Snd.find fun e he => hs e (by simp [he])
theorem Snd.put {q : Qu} {u : Nat} {h : Nat} {l : T3} {b : Bool} (hb : b = endsB q u (u - h) l) : ∀ {es : List (PV × PV)}, Snd q u es → Snd q u (putK (stP h l) (.bool b) es)
  | [], _ => fun e he => by
    have he : e ∈ [(stP h l, PV.bool b)] := he
    rw [List.mem_singleton] at he; subst he; exact ⟨h, l, by rw [hb]⟩
  | e0 :: es, hs => by
    obtain ⟨h', l', rfl⟩ := hs e0 (by simp)
    have hs' : Snd q u es := fun e he => hs e (by simp [he])
    intro e he
    rw [putK] at he
    split at he
    · rcases List.mem_cons.1 he with e1 | e1
      · subst e1; exact ⟨h, l, by rw [hb]⟩
      · exact hs' e e1
    · rcases List.mem_cons.1 he with e1 | e1
      · subst e1; exact ⟨h', l', rfl⟩
      · exact Snd.put hb hs' e e1
def kt7 : KT := ⟨true, [.int .i64, .int .i64, .int .i64, .int .i64, .int .i64, .int .i64, .int .i64]⟩
theorem kt_st (h : Nat) (l : T3) : kt7.ok (stP h l) = true := rfl
theorem Snd.keys {q : Qu} {u : Nat} {es : List (PV × PV)} (hs : Snd q u es) : keysOk kt7 es = true := by
  unfold keysOk
  rw [List.all_eq_true]
  intro e he
  obtain ⟨h, l, rfl⟩ := hs e he
  exact kt_st h l
def le40 (l : T3) : Prop := l.1 ≤ 40 ∧ l.2.1 ≤ 40 ∧ l.2.2 ≤ 40
theorem le40_dec {l : T3} (h : le40 l) (i : Nat) : le40 (dec3 l i) := by
  unfold le40 at h ⊢
  match i with
  | 0 => simp only [dec3]; omega
  | 1 => simp only [dec3]; omega
  | 2 => simp only [dec3]; omega
  | i + 3 => exact h
def EndsC (q : Qu) (u d : Nat) : Prop := ∀ (l : T3) (es : List (PV × PV)), le40 l → Snd q u es →
  CallsA Try.prog 63 [.pv q.pv, .pv (stP (u - d) l), .pv (.int .i64 u), .mp (.par 0)] [(.par 0, .map es)] (fun r B => r = .pv (.bool (endsB q u d l)) ∧ ∃ es', Snd q u es' ∧ B = [(.par 0, .map es')])
def LaysC (q : Qu) (u d k : Nat) : Prop := ∀ (s l : T3) (es : List (PV × PV)), le40 s → le40 l → Snd q u es →
  CallsA Try.prog 89 [.pv q.pv, .pv (stP (u - (d + 1)) s), .pv (.agg (lfC l)), .pv (.int .i64 ((q.ms.length - k : Nat) : Int)), .pv (.int .i64 u), .mp (.par 0)] [(.par 0, .map es)] (fun r B => r = .pv (.bool (laysB q (endsB q u d) (u - (d + 1)) s k l)) ∧ ∃ es', Snd q u es' ∧ B = [(.par 0, .map es')])
set_option maxHeartbeats 4000000 in
theorem lays_0 {q : Qu} (hq : q.ok) {u d : Nat} (hd : d + 1 ≤ u) (hu : u ≤ 40) (ih : EndsC q u d) : LaysC q u d 0 := by
  rintro s ⟨a, b, c⟩ es hs hl hes
  have hC := ih (a, b, c) es hl hes
  obtain ⟨h, hh⟩ : ∃ h, u - (d + 1) = h := ⟨_, rfl⟩
  have hh2 : u - d = h + 1 := by omega
  rw [hh2] at hC
  rw [hh]
  have hw := wrapS (k := h) (by omega)
  have hv : laysB q (endsB q u d) h s 0 (a, b, c) = endsB q u d (a, b, c) := rfl
  rw [hv]
  generalize endsB q u d (a, b, c) = V at *
  obtain ⟨sa, sb, sc⟩ := s
  refine calls_of_awpB [.par 0] mixed L89_ok (Nat.le_of_ble_eq_true rfl) ?_
  simp [-getElem?_pos, L89, Qu.pv, stP, lfC, hw]
  refine call_lent (as' := [.pv q.pv, .pv (stP (h + 1) (a, b, c)), .pv (.int .i64 u), .mp (.par 0)]) (B := [(.par 0, .map es)]) (fs := []) (cs := []) 28 [.par 0] ?_ rfl rfl ?_ ?_ ?_ hC ?_
  · rfl
  · simp
  · simp
  · simp [Qu.pv, stP, lfC]
  rintro r0 B0 ⟨rfl, es', hes', rfl⟩
  refine ⟨rfl, by simp, ?_⟩
  simp [-getElem?_pos]
  first
    | exact hes'
    | exact ⟨es', hes', rfl⟩
end Go.Proofs.Ytohhjnpiiackjaa
/-! Layer 10 (queue), the reference: whether all can be done by an hour: the machines of an hour; the hours. -/
namespace Go.Proofs.Ytohhjnpiiackjaa
open Go.RowKit
set_option maxRecDepth 10000
set_option linter.unusedSimpArgs false
attribute [local simp] AS.exp expG Box.ren AV.map AV.mapL outsOk noRet Site.isRet Box.allS AV.allS AV.allSL retB dropL AS.adds renL outG outOk lentBx inG fnOf lookA List.findIdx?_cons
attribute [local simp] Box.purge Site.isLoc
def lyS (q : Qu) (h : Nat) (s l : T3) (j u : Nat) (es : List (PV × PV)) (i : Nat) : AS := ⟨[(3, .pv (.int .i64 j)), (4, .pv (.int .i64 u)), (5, .mp (.par 0)), (6, .ptr (.loc 6 0) 0), (7, .ptr (.loc 7 0) 0), (8, .ptr (.loc 8 0) 0), (13, .pv (.int .i64 i))],
  [(.par 0, .map es), (.loc 8 0, .cells [.pv (.int .i64 l.1), .pv (.int .i64 l.2.1), .pv (.int .i64 l.2.2), .pv (.int .i64 0), .pv (.int .i64 0), .pv (.int .i64 0)]), (.loc 7 0, .cells [.pv (.int .i64 h), .pv (.int .i64 s.1), .pv (.int .i64 s.2.1), .pv (.int .i64 s.2.2), .pv (.int .i64 0), .pv (.int .i64 0), .pv (.int .i64 0)]), (.loc 6 0, .cells q.cells)]⟩
set_option maxHeartbeats 16000000 in
theorem lays_s {q : Qu} (hq : q.ok) (hn3 : q.rs.length ≤ 3) {u d k : Nat} (hd : d + 1 ≤ u) (hu : u ≤ 40) (hk : k + 1 ≤ q.ms.length) (ih : LaysC q u d k) : LaysC q u d (k + 1) := by
  intro s l es0 hs hl hes0
  have hm4 := hq.m
  obtain ⟨h, hh⟩ : ∃ h, u - (d + 1) = h := ⟨_, rfl⟩
  obtain ⟨j, hj⟩ : ∃ j, q.ms.length - (k + 1) = j := ⟨_, rfl⟩
  have hj1 : q.ms.length - k = j + 1 := by omega
  unfold LaysC at ih
  rw [hh, hj1] at ih
  rw [hh, hj]
  have hv : laysB q (endsB q u d) h s (k + 1) l = ((List.range q.rs.length).any (fun i => canB q h s l j i && laysB q (endsB q u d) h s k (dec3 l i)) || laysB q (endsB q u d) h s k l) := by rw [← hj]; rfl
  obtain ⟨V, hV⟩ : ∃ V, V = laysB q (endsB q u d) h s (k + 1) l := ⟨_, rfl⟩
  rw [← hV]
  rw [hv] at hV
  clear hv
  obtain ⟨R, hRR⟩ : ∃ R, R = laysB q (endsB q u d) h s k := ⟨_, rfl⟩
  rw [← hRR] at hV
  have hjm : ¬ (j : Int) = (q.ms.length : Int) := by omega
  have hjm2 : ¬ j = q.ms.length := by omega
  have hwj := wrapS (k := j) (by omega)
  refine calls_of_awpB [.par 0] mixed L89_ok (Nat.le_of_ble_eq_true rfl) ?_
  simp [-getElem?_pos, L89, Qu.pv, stP, lfC, hjm, hjm2]
  refine awp_loopS (fun n τ => ∃ (i : Nat) (es : List (PV × PV)), i ≤ q.rs.length ∧ n = q.rs.length - i ∧ Snd q u es ∧ (List.range i).any (fun i => canB q h s l j i && R (dec3 l i)) = false ∧ τ = lyS q h s l j u es i)
    ⟨q.rs.length, lyS q h s l j u es0 0, Sub.mk (by simp [lyS]) (by simp [Qu.cells, lyS]), 0, es0, Nat.zero_le _, rfl, hes0, rfl, rfl⟩ ?_
  rintro J hJ n τ ⟨i, es, hi, rfl, hes, hinv, rfl⟩
  by_cases hlt : i < q.rs.length
  · have hw := wrapS (k := i) (by omega)
    have hmeas : q.rs.length - (i + 1) < q.rs.length - i := by omega
    have hnext : ∀ es', Snd q u es' → (canB q h s l j i && R (dec3 l i)) = false → J (q.rs.length - (i + 1)) (lyS q h s l j u es' (i + 1)) := fun es' he hc => hJ _ _ ⟨i + 1, es', hlt, rfl, he, by rw [List.range_succ, List.any_append, hinv]; simp [hc], rfl⟩
    have hyes : (canB q h s l j i && R (dec3 l i)) = true → V = true := fun hc => by
      rw [hV, Bool.or_eq_true]
      left
      rw [List.any_eq_true]
      exact ⟨i, List.mem_range.2 hlt, hc⟩
    have hmay := rmay_c q hq i j h hlt (by omega)
    have hcan : canB q h s l j i = (!(decide (get3 l i = 0) || decide (get3 l i < get3 s i)) && q.may i j h) := rfl
    clear hJ hinv hV
    have hi3 : i = 0 ∨ i = 1 ∨ i = 2 := by omega
    have ih2 := ih s (dec3 l i) es hs (le40_dec hl i) hes
    rw [← hRR] at ih2
    clear hRR
    obtain ⟨a, b, c⟩ := l
    obtain ⟨sa, sb, sc⟩ := s
    have hl' : a ≤ 40 ∧ b ≤ 40 ∧ c ≤ 40 := hl
    generalize hM : q.may i j h = M at *
    have hX : ∃ X Y, X = get3 (a, b, c) i ∧ Y = get3 (sa, sb, sc) i := ⟨_, _, rfl, rfl⟩
    obtain ⟨X, Y, hX, hY⟩ := hX
    rw [← hX, ← hY] at hcan
    have lt1 : ((1 : Int) < (q.rs.length : Int)) = (1 < q.rs.length) := propext (by omega)
    have lt2 : ((2 : Int) < (q.rs.length : Int)) = (2 < q.rs.length) := propext (by omega)
    have w1 : IntKind.i64.wrap 1 = 1 := rfl
    have w2 : IntKind.i64.wrap 2 = 2 := rfl
    have w3 : IntKind.i64.wrap 3 = 3 := rfl
    by_cases h0 : X = 0 ∨ (¬ X = 0 ∧ X < Y) ∨ (¬ X = 0 ∧ ¬ X < Y ∧ M = false)
    · have hc : (canB q h (sa, sb, sc) (a, b, c) j i && R (dec3 (a, b, c) i)) = false := by
        rw [hcan]
        rcases h0 with h0 | ⟨_, h0⟩ | ⟨_, _, h0⟩
        · rw [decide_eq_true h0]; simp
        · rw [decide_eq_true h0]; simp
        · rw [h0]; simp
      have hround := hnext es hes hc
      clear hnext hyes ih2 hcan hc
      rcases hi3 with rfl | rfl | rfl
      all_goals
        simp only [get3] at hX hY
        subst hX hY
        rcases h0 with h0 | ⟨h0, h1⟩ | ⟨h0, h1, h2⟩
        · simp [-getElem?_pos, lyS, Qu.cells, hlt, h0, nblt, lt1, lt2, w1, w2, w3]
          refine ⟨_, _, hmeas, Sub.mk ?_ ?_, hround⟩
          · simp [lyS]
          · simp [lyS, Qu.cells, h0]
        · simp [-getElem?_pos, lyS, Qu.cells, hlt, h0, h1, nblt, lt1, lt2, w1, w2, w3]
          refine ⟨_, _, hmeas, Sub.mk ?_ ?_, hround⟩
          · simp [lyS]
          · simp [lyS, Qu.cells]
        · rw [h2] at hmay
          simp [-getElem?_pos, lyS, Qu.cells, hlt, h0, h1, nblt, lt1, lt2, w1, w2, w3]
          refine call_gives (k := 0) (fs := []) (cs := []) rfl rfl hmay rfl ?_
          simp [-getElem?_pos, w1, w2, w3]
          refine ⟨_, _, hmeas, Sub.mk ?_ ?_, hround⟩
          · simp [lyS]
          · simp [lyS, Qu.cells]
    · have hx0 : ¬ X = 0 := fun e => h0 (.inl e)
      have hxy : ¬ X < Y := fun e => h0 (.inr (.inl ⟨hx0, e⟩))
      have hMt : M = true := by
        cases M with
        | true => rfl
        | false => exact (h0 (.inr (.inr ⟨hx0, hxy, rfl⟩))).elim
      have hcT : canB q h (sa, sb, sc) (a, b, c) j i = true := by rw [hcan, decide_eq_false hx0, decide_eq_false hxy, hMt]; rfl
      rw [hcT, Bool.true_and] at hnext hyes
      have hwx : IntKind.i64.wrap ((X : Int) - 1) = ((X - 1 : Nat) : Int) := by
        have : X ≤ 40 := by
          rcases hi3 with rfl | rfl | rfl <;> simp only [get3] at hX <;> omega
        rw [wrap64 (by omega)]; omega
      rw [hMt] at hmay
      clear hcan hcT h0 hMt
      rcases hi3 with rfl | rfl | rfl
      all_goals
        simp only [get3, dec3] at hX hY hnext hyes ih2
        subst hX hY
        simp [-getElem?_pos, lyS, Qu.cells, hlt, hx0, hxy, nblt, lt1, lt2, w1, w2, w3]
        refine call_gives (k := 0) (fs := []) (cs := []) rfl rfl hmay rfl ?_
        simp [-getElem?_pos, nblt, w1, w2, w3, hwx, hwj]
        refine call_lent (as' := [.pv q.pv, .pv (stP h _), .pv (.agg (lfC _)), .pv (.int .i64 ((j + 1 : Nat) : Int)), .pv (.int .i64 u), .mp (.par 0)]) (B := [(.par 0, .map es)]) (fs := []) (cs := []) 72 [.par 0] ?_ rfl rfl ?_ ?_ ?_ ih2 ?_
        · rfl
        · simp
        · simp
        · simp [Qu.pv, stP, lfC]
        rintro r0 B0 ⟨rfl, es', hes', rfl⟩
        refine ⟨rfl, by simp, ?_⟩
        generalize R _ = bb at hnext hyes ⊢
        cases bb with
        | true =>
          have hVt := hyes rfl
          subst hVt
          simp [-getElem?_pos]
          first
            | exact hes'
            | exact ⟨es', hes', rfl⟩
        | false =>
          have hround := hnext es' hes' rfl
          simp [-getElem?_pos, w1, w2, w3]
          refine ⟨_, _, hmeas, Sub.mk ?_ ?_, hround⟩
          · simp [lyS]
          · simp [lyS, Qu.cells]
  · have he : i = q.rs.length := by omega
    subst he
    have hVr : V = R l := by rw [hV, hinv, Bool.false_or]
    rw [hVr]
    clear hJ hinv hV hVr
    have ih2 := ih s l es hs hl hes
    rw [← hRR] at ih2
    simp [-getElem?_pos, lyS, Qu.cells, hwj]
    refine call_lent (as' := [.pv q.pv, .pv (stP h s), .pv (.agg (lfC l)), .pv (.int .i64 ((j + 1 : Nat) : Int)), .pv (.int .i64 u), .mp (.par 0)]) (B := [(.par 0, .map es)]) (fs := []) (cs := []) 80 [.par 0] ?_ rfl rfl ?_ ?_ ?_ ih2 ?_
    · rfl
    · simp
    · simp
    · simp [Qu.pv, stP, lfC]
    rintro r0 B0 ⟨rfl, es', hes', rfl⟩
    refine ⟨rfl, by simp, ?_⟩
    simp [-getElem?_pos]
    first
      | exact hes'
      | exact ⟨es', hes', rfl⟩
theorem lays_all {q : Qu} (hq : q.ok) (hn3 : q.rs.length ≤ 3) {u d : Nat} (hd : d + 1 ≤ u) (hu : u ≤ 40) (ih : EndsC q u d) : ∀ k, k ≤ q.ms.length → LaysC q u d k
  | 0, _ => lays_0 hq hd hu ih
  | k + 1, hk => lays_s hq hn3 hd hu hk (lays_all hq hn3 hd hu ih k (by omega))
theorem zero_lf {l : T3} : eqL (lfC l) [.int .i64 0, .int .i64 0, .int .i64 0, .int .i64 0, .int .i64 0, .int .i64 0] = decide (l = (0, 0, 0)) := by
  obtain ⟨a, b, c⟩ := l
  rw [Bool.eq_iff_iff]
  simp [lfC, eqL, eqC]
theorem zero_lfK {l : T3} : eqK (.agg (lfC l)) (.agg [.int .i64 0, .int .i64 0, .int .i64 0, .int .i64 0, .int .i64 0, .int .i64 0]) = decide (l = (0, 0, 0)) := zero_lf
theorem kt6 (l : T3) : KT.ok ⟨true, [.int .i64, .int .i64, .int .i64, .int .i64, .int .i64, .int .i64]⟩ (.agg (lfC l)) = true := rfl
theorem ends_0 {q : Qu} {u : Nat} : EndsC q u 0 := by
  rintro ⟨a, b, c⟩ es hl hes
  have hz := zero_lf (l := (a, b, c))
  simp only [lfC] at hz
  refine calls_of_awpB [.par 0] mixed L63_ok (Nat.le_of_ble_eq_true rfl) ?_
  have hv : endsB q u 0 (a, b, c) = decide ((a, b, c) = (0, 0, 0)) := rfl
  rw [hv]
  generalize hD : decide ((a, b, c) = ((0, 0, 0) : T3)) = D at *
  cases D
  · simp [-getElem?_pos, -eqL, L63, Qu.pv, stP, lfC, hz]
    first
      | exact hes
      | exact ⟨es, hes, rfl⟩
  · simp [-getElem?_pos, -eqL, L63, Qu.pv, stP, lfC, hz]
    first
      | exact hes
      | exact ⟨es, hes, rfl⟩
set_option maxHeartbeats 4000000 in
theorem ends_s {q : Qu} {u d : Nat} (hd : d + 1 ≤ u) (ih : LaysC q u d q.ms.length) : EndsC q u (d + 1) := by
  rintro ⟨a, b, c⟩ es hl hes
  have hz := zero_lfK (l := (a, b, c))
  have hk6 := kt6 (a, b, c)
  have hk60 := kt6 (0, 0, 0)
  simp only [lfC, Int.natCast_zero] at hz hk6
  simp [lfC, -KT.ok] at hk60
  have hv : endsB q u (d + 1) (a, b, c) = (decide ((a, b, c) = (0, 0, 0)) || laysB q (endsB q u d) (u - (d + 1)) (a, b, c) q.ms.length (a, b, c)) := rfl
  have hC := ih (a, b, c) (a, b, c) es hl hl hes
  rw [Nat.sub_self] at hC
  obtain ⟨h, hh⟩ : ∃ h, u - (d + 1) = h := ⟨_, rfl⟩
  have hud : u - h = d + 1 := by omega
  have hfd := hes.find (h := h) (l := (a, b, c))
  have hpu := fun (es' : List (PV × PV)) (hes' : Snd q u es') => Snd.put (q := q) (u := u) (h := h) (l := (a, b, c)) rfl hes'
  have hks := hes.keys
  have hkt := kt_st h (a, b, c)
  rw [hud] at hfd hpu
  rw [hh] at hv hC ⊢
  have hne : ¬ (h : Int) = (u : Int) := by omega
  have hne2 : ¬ h = u := by omega
  refine calls_of_awpB [.par 0] mixed L63_ok (Nat.le_of_ble_eq_true rfl) ?_
  generalize hD : decide ((a, b, c) = ((0, 0, 0) : T3)) = D at *
  generalize hV : endsB q u (d + 1) (a, b, c) = V at *
  generalize laysB q (endsB q u d) h (a, b, c) q.ms.length (a, b, c) = W at *
  cases D
  · rw [Bool.false_or] at hv
    subst hv
    simp only [stP, lfC, kt7] at hfd hks hkt
    rcases hfd with hfd | hfd
    · simp [-getElem?_pos, -eqK, -eqL, -KT.ok, L63, Qu.pv, stP, lfC, hz, hk6, hk60, hne, hne2, hfd, hks, hkt]
      refine call_lent (as' := [.pv q.pv, .pv (stP h (a, b, c)), .pv (.agg (lfC (a, b, c))), .pv (.int .i64 ((0 : Nat) : Int)), .pv (.int .i64 u), .mp (.par 0)]) (B := [(.par 0, .map es)]) (fs := []) (cs := []) 34 [.par 0] ?_ rfl rfl ?_ ?_ ?_ hC ?_
      · rfl
      · simp
      · simp
      · simp [Qu.pv, stP, lfC]
      rintro r0 B0 ⟨rfl, es', hes', rfl⟩
      refine ⟨rfl, by simp, ?_⟩
      have hp2 := hpu es' hes'
      have hks2 := hes'.keys
      simp only [stP, lfC, kt7] at hp2 hks2
      simp [-getElem?_pos, -eqK, -eqL, -KT.ok, hks2, hkt]
      first
        | exact hp2
        | exact ⟨_, hp2, rfl⟩
    · simp [-getElem?_pos, -eqK, -eqL, -KT.ok, L63, Qu.pv, stP, lfC, hz, hk6, hk60, hne, hne2, hfd, hks, hkt]
      first
        | exact hes
        | exact ⟨es, hes, rfl⟩
  · rw [Bool.true_or] at hv
    subst hv
    simp [-getElem?_pos, -eqK, -eqL, -KT.ok, L63, Qu.pv, stP, lfC, hz, hk6, hk60]
    first
      | exact hes
      | exact ⟨es, hes, rfl⟩
end Go.Proofs.Ytohhjnpiiackjaa
/-! Layer 10 (queue), the reference: the earliest end (three runs at most). -/
namespace Go.Proofs.Ytohhjnpiiackjaa
open Go.RowKit
set_option maxRecDepth 10000
set_option linter.unusedSimpArgs false
attribute [local simp] AS.exp expG Box.ren AV.map AV.mapL outsOk noRet Site.isRet Box.allS AV.allS AV.allSL retB dropL AS.adds renL outG outOk lentBx inG fnOf lookA List.findIdx?_cons
attribute [local simp] Box.purge Site.isLoc
attribute [local simp] retFz frzL AS.frz AV.frz AV.frzL Box.frz AS.tidy AS.frzC
theorem ends_all {q : Qu} (hq : q.ok) (hn3 : q.rs.length ≤ 3) {u : Nat} (hu : u ≤ 40) : ∀ d, d ≤ u → EndsC q u d
  | 0, _ => ends_0
  | d + 1, hd => ends_s hd (lays_all hq hn3 hd hu (ends_all hq hn3 hu d (by omega)) q.ms.length (Nat.le_refl _))
/-- What all runs need. -/
def st3 (q : Qu) : T3 := ((q.run 0).hours.toNat, (q.run 1).hours.toNat, (q.run 2).hours.toNat)
theorem run_hours {q : Qu} (hq : q.ok) (i : Nat) : (((q.run i).hours.toNat : Nat) : Int) = (q.run i).hours ∧ (q.run i).hours.toNat ≤ 40 := by
  unfold Qu.run
  cases h : q.rs[i]? with
  | none => simp
  | some r =>
    have := hq.h r (List.mem_of_getElem? h)
    simp only [Option.getD_some]
    omega
def pre3 (q : Qu) (i : Nat) : T3 := (if 0 < i then (q.run 0).hours.toNat else 0, if 1 < i then (q.run 1).hours.toNat else 0, if 2 < i then (q.run 2).hours.toNat else 0)
theorem pre3_all {q : Qu} (hn3 : q.rs.length ≤ 3) : pre3 q q.rs.length = st3 q := by
  have h : ∀ i, ¬ i < q.rs.length → (q.run i).hours.toNat = 0 := fun i hi => by
    unfold Qu.run
    rw [List.getElem?_eq_none (by omega)]; rfl
  unfold pre3 st3
  by_cases h0 : 0 < q.rs.length <;> by_cases h1 : 1 < q.rs.length <;> by_cases h2 : 2 < q.rs.length <;> simp [h0, h1, h2] <;> (try omega)
  all_goals first
    | exact (h 2 h2).symm
    | exact ⟨(h 1 h1).symm, (h 2 h2).symm⟩
    | exact ⟨(h 0 h0).symm, (h 1 h1).symm, (h 2 h2).symm⟩
set_option maxHeartbeats 4000000 in
theorem start_c {q : Qu} (hq : q.ok) (hn3 : q.rs.length ≤ 3) : CallsA Try.prog 64 ([q.pv].map .pv) [] (fun r B => r = .pv (stP 0 (st3 q)) ∧ B = []) := by
  refine calls_of_awpF [] mixed L64_ok (Nat.le_of_ble_eq_true rfl) ?_
  simp [-getElem?_pos, L64, Qu.pv]
  refine awp_loopS (fun n τ => ∃ i : Nat, i ≤ q.rs.length ∧ n = q.rs.length - i ∧ τ = ⟨[(1, .ptr (.loc 1 0) 0), (2, .ptr (.loc 2 0) 0), (3, .ptr (.loc 3 0) 0), (4, .pv (.int .i64 i))], [(.loc 3 0, .cells [.pv (.int .i64 0), .pv (.int .i64 (pre3 q i).1), .pv (.int .i64 (pre3 q i).2.1), .pv (.int .i64 (pre3 q i).2.2), .pv (.int .i64 0), .pv (.int .i64 0), .pv (.int .i64 0)]), (.loc 2 0, .cells [.pv (.int .i64 0), .pv (.int .i64 0), .pv (.int .i64 0), .pv (.int .i64 0), .pv (.int .i64 0), .pv (.int .i64 0), .pv (.int .i64 0)]), (.loc 1 0, .cells q.cells)]⟩)
    ⟨q.rs.length, _, Sub.mk (by simp) (by simp [Qu.cells, pre3]), 0, Nat.zero_le _, rfl, rfl⟩ ?_
  rintro J hJ n τ ⟨i, hi, rfl, rfl⟩
  by_cases hlt : i < q.rs.length
  · obtain ⟨r, hr⟩ : ∃ r, q.rs[i]? = some r := ⟨q.rs[i], List.getElem?_eq_getElem hlt⟩
    have hg : (q.rs.map Rq.pv)[i]? = some (.agg [.int .i64 r.hours, .int .i64 r.ready, .lst false 1 (r.on.map PV.bool)]) := by rw [List.getElem?_map, hr]; rfl
    have hrun : q.run i = r := by unfold Qu.run; rw [hr]; rfl
    have hh := (run_hours hq i).1
    rw [hrun] at hh
    have hmx : max r.hours 0 = r.hours := by omega
    have hround := hJ _ _ ⟨i + 1, hlt, rfl, rfl⟩
    have hmeas : q.rs.length - (i + 1) < q.rs.length - i := by omega
    have lt1 : ((1 : Int) < (q.rs.length : Int)) = (1 < q.rs.length) := propext (by omega)
    have lt2 : ((2 : Int) < (q.rs.length : Int)) = (2 < q.rs.length) := propext (by omega)
    have w1 : IntKind.i64.wrap 1 = 1 := rfl
    have w2 : IntKind.i64.wrap 2 = 2 := rfl
    have w3 : IntKind.i64.wrap 3 = 3 := rfl
    have hi3 : i = 0 ∨ i = 1 ∨ i = 2 := by omega
    clear hJ
    rcases hi3 with rfl | rfl | rfl
    all_goals
      simp [-getElem?_pos, -List.getElem?_map, pre3, hrun] at hround
      simp [-getElem?_pos, -List.getElem?_map, Qu.cells, pre3, hlt, hg, nblt, lt1, lt2, w1, w2, w3]
      refine ⟨_, _, hmeas, Sub.mk ?_ ?_, hround⟩
      · simp
      · simp [Qu.cells, hh, hmx]
  · have he : i = q.rs.length := by omega
    subst he
    rw [pre3_all hn3]
    clear hJ
    simp [-getElem?_pos, -List.getElem?_map, Qu.cells, stP, lfC]
/-- The least number of hours in which all can be done; -1: there is none. -/
def earlR (q : Qu) : Int := match (List.range 41).find? (fun T => endsB q T T (st3 q)) with
  | some T => T
  | none => -1
theorem find_first {P : Nat → Bool} {n k : Nat} (hk : k < n) (h : ∀ i, i < k → P i = false) (hp : P k = true) : (List.range n).find? P = some k := by
  induction n with
  | zero => omega
  | succ n ih =>
    rw [List.range_succ, List.find?_append]
    by_cases e : k = n
    · subst e
      have : (List.range k).find? P = none := List.find?_eq_none.2 fun x hx => by rw [h x (List.mem_range.1 hx)]; simp
      rw [this]; simp [hp]
    · rw [ih (by omega)]; rfl
def erJ (q : Qu) (L : T3) (i : Nat) : AS := ⟨[(11, .pv q.pv), (13, .pv (stP 0 L)), (14, .pv (.int .i64 i)), (15, .mp (.loc 15 0)), (1, .pv (.int .i64 40)), (2, .ptr (.loc 2 0) 0), (5, .pv (.int .i64 i))], [(.loc 15 0, .map []), (.loc 2 0, .cells q.cells)]⟩
set_option maxHeartbeats 4000000 in
theorem rearl_c {q : Qu} (hq : q.ok) (hn3 : q.rs.length ≤ 3) : Gives Try.prog 28 [q.pv, .int .i64 40] (.int .i64 (earlR q)) := by
  have hst := start_c hq hn3
  obtain ⟨V, hV⟩ : ∃ V, V = earlR q := ⟨_, rfl⟩
  rw [← hV]
  refine calls_of_awpS mixed L28_ok (Nat.le_of_ble_eq_true rfl) ?_
  simp [-getElem?_pos, L28, Qu.pv]
  refine awp_loopS (fun n τ => ∃ i : Nat, i ≤ 41 ∧ n = 41 - i ∧ (∀ T, T < i → endsB q T T (st3 q) = false) ∧ τ = ⟨[(1, .pv (.int .i64 40)), (2, .ptr (.loc 2 0) 0), (5, .pv (.int .i64 i))], [(.loc 2 0, .cells q.cells)]⟩)
    ⟨41, ⟨[(1, .pv (.int .i64 40)), (2, .ptr (.loc 2 0) 0), (5, .pv (.int .i64 0))], [(.loc 2 0, .cells q.cells)]⟩, Sub.mk (by simp) (by simp [Qu.cells]), 0, Nat.zero_le _, rfl, fun T hT => by omega, rfl⟩ ?_
  rintro J hJ n τ ⟨i, hi, rfl, hno, rfl⟩
  by_cases hlt : i < 41
  · have hw := wrapS (k := i) (by omega)
    have hmeas : 41 - (i + 1) < 41 - i := by omega
    have hle : (i : Int) ≤ 40 := by omega
    have hle2 : i ≤ 40 := by omega
    have hE := ends_all hq hn3 (u := i) (by omega) i (Nat.le_refl _) (st3 q) [] ⟨(run_hours hq 0).2, (run_hours hq 1).2, (run_hours hq 2).2⟩ (fun e he => by cases he)
    rw [Nat.sub_self] at hE
    have hnext : endsB q i i (st3 q) = false → J (41 - (i + 1)) _ := fun hc => hJ _ _ ⟨i + 1, by omega, rfl, fun T hT => by
      by_cases e : T = i
      · subst e; exact hc
      · exact hno T (by omega), rfl⟩
    have hyes : endsB q i i (st3 q) = true → V = i := fun hc => by
      rw [hV]; unfold earlR
      rw [find_first hlt hno hc]
    clear hJ hV
    generalize st3 q = L at *
    simp [-getElem?_pos, Qu.cells, hle, hle2]
    refine ltS_seq (erJ q L i) ?_ ?_
    · simp [-getElem?_pos, ltS_alt, ltS_no]
      refine ⟨call_pv [] (fs := []) (xs := [q.pv]) (cs := []) rfl rfl hst ?_, call_pv [] (fs := []) (xs := [q.pv]) (cs := []) rfl rfl hst ?_⟩
      all_goals
        simp [-getElem?_pos, ltS_alt, ltS_no, frzsL]
        refine Sub.mk ?_ ?_
        · simp [erJ, Qu.pv]
        · simp [erJ, Qu.cells]
    · simp [-getElem?_pos, ltS_alt, ltS_no, erJ]
      refine call_lent (as' := [.pv q.pv, .pv (stP 0 L), .pv (.int .i64 i), .mp (.par 0)]) (B := [(.par 0, .map [])]) (fs := []) (cs := []) 16 [.loc 15 0] ?_ rfl rfl ?_ ?_ ?_ hE ?_
      · rfl
      · simp
      · simp
      · simp
      rintro r0 B0 ⟨rfl, es', hes', rfl⟩
      refine ⟨rfl, by simp, ?_⟩
      generalize endsB q i i L = bb at hnext hyes ⊢
      cases bb with
      | true =>
        have hVi := hyes rfl
        subst hVi
        simp [-getElem?_pos, ltS_alt, ltS_no]
      | false =>
        have hround := hnext rfl
        simp [-getElem?_pos, ltS_alt, ltS_no, hw]
        refine ⟨_, _, hmeas, Sub.mk ?_ ?_, hround⟩
        · simp
        · simp [Qu.cells]
  · have he : i = 41 := by omega
    subst he
    have hVn : V = -1 := by
      rw [hV]; unfold earlR
      have : (List.range 41).find? (fun T => endsB q T T (st3 q)) = none := List.find?_eq_none.2 fun x hx => by rw [hno x (List.mem_range.1 hx)]; simp
      rw [this]
    subst hVn
    clear hJ
    simp [-getElem?_pos, Qu.cells]
end Go.Proofs.Ytohhjnpiiackjaa
/-! Layer 10 (queue), plain law: the reference's earliest end is the least number of hours of a right plan. -/
namespace Go.Proofs.Ytohhjnpiiackjaa
open Go.RowKit
set_option linter.unusedSimpArgs false
theorem get3_dec {l : T3} {i : Nat} (hi : i < 3) (x : Nat) : get3 (dec3 l i) x = if x = i then get3 l i - 1 else get3 l x := by
  obtain ⟨a, b, c⟩ := l
  have hi3 : i = 0 ∨ i = 1 ∨ i = 2 := by omega
  by_cases e : x = i
  · subst e
    rw [if_pos rfl]
    rcases hi3 with rfl | rfl | rfl <;> rfl
  · rw [if_neg e]
    by_cases hx : x < 3
    · have hx3 : x = 0 ∨ x = 1 ∨ x = 2 := by omega
      rcases hi3 with rfl | rfl | rfl <;> rcases hx3 with rfl | rfl | rfl <;> first | rfl | (exact absurd rfl e)
    · obtain ⟨y, rfl⟩ : ∃ y, x = y + 3 := ⟨x - 3, by omega⟩
      rfl
theorem get3_ext {l l' : T3} (h : ∀ x, x < 3 → get3 l x = get3 l' x) : l = l' := by
  obtain ⟨a, b, c⟩ := l
  obtain ⟨a', b', c'⟩ := l'
  have h0 : a = a' := h 0 (by omega)
  have h1 : b = b' := h 1 (by omega)
  have h2 : c = c' := h 2 (by omega)
  subst h0 h1 h2; rfl
/-- Runs that have got no machine at this hour. -/
def Rest3 (q : Qu) (s l : T3) (r : Nat) : Prop := r < q.rs.length ∧ ¬ get3 l r < get3 s r
theorem count_set {w : List Int} {j : Nat} {y v : Int} (h : w[j]? = some y) (x : Int) : (w.set j v).count x + (if y = x then 1 else 0) = w.count x + (if v = x then 1 else 0) := by
  have h2 := (set_perm (y := v) h).count_eq x
  rw [List.count_cons, List.count_cons] at h2
  simp only [beq_iff_eq] at h2
  omega
theorem lays_of {q : Qu} (hq : q.ok) (hn3 : q.rs.length ≤ 3) {rec : T3 → Bool} {h : Nat} {s : T3} : ∀ (k : Nat), k ≤ q.ms.length → ∀ l : T3, (∀ x, get3 l x ≤ get3 s x) → laysB q rec h s k l = true → ∃ w l', Mt q h (Rest3 q s l) (q.ms.length - k) w ∧ rec l' = true ∧ ∀ x : Nat, get3 l x = get3 l' x + w.count (x : Int)
  | 0, _, l, _, hv => ⟨idle4, l, Mt.idle, hv, fun x => by
      have : idle4.count (x : Int) = 0 := List.count_eq_zero.2 fun h => by simp [idle4] at h
      omega⟩
  | k + 1, hk, l, hls, hv => by
    have hm4 := hq.m
    obtain ⟨j, hj⟩ : ∃ j, q.ms.length - (k + 1) = j := ⟨_, rfl⟩
    have hj1 : q.ms.length - k = j + 1 := by omega
    have hv' : ((List.range q.rs.length).any (fun i => canB q h s l (q.ms.length - (k + 1)) i && laysB q rec h s k (dec3 l i)) || laysB q rec h s k l) = true := hv
    rw [Bool.or_eq_true] at hv'
    rw [hj] at hv' ⊢
    rcases hv' with hv' | hv'
    · rw [List.any_eq_true] at hv'
      obtain ⟨i, hi, h1⟩ := hv'
      rw [List.mem_range] at hi
      rw [Bool.and_eq_true] at h1
      obtain ⟨hc, h2⟩ := h1
      unfold canB at hc
      simp only [Bool.and_eq_true, Bool.not_eq_true', Bool.or_eq_false_iff, decide_eq_false_iff_not] at hc
      obtain ⟨⟨c1, c2⟩, c3⟩ := hc
      have hd := get3_dec (l := l) (i := i) (by omega)
      obtain ⟨w, l', a1, a2, a3⟩ := lays_of hq hn3 (s := s) (h := h) k (by omega) (dec3 l i) (fun x => by
        rw [hd]
        have := hls x
        have := hls i
        split
        · rename_i e; subst e; omega
        · omega) h2
      rw [hj1] at a1
      have hjl : j < w.length := by rw [a1.len]; omega
      have hwj : w[j]? = some (-1) := by
        rcases a1.ok _ (List.getElem_mem hjl) with h3 | h3
        · rw [List.getElem?_eq_getElem hjl, h3]
        · obtain ⟨r', hr'⟩ : ∃ r' : Nat, w[j] = r' := ⟨w[j].toNat, by omega⟩
          have := (a1.on j r' (by rw [List.getElem?_eq_getElem hjl, hr'])).1
          omega
      refine ⟨w.set j i, l', a1.down.put (Nat.le_refl _) (by omega) c3 ⟨hi, c2⟩ (fun r hr => ?_), a2, fun x => ?_⟩
      · obtain ⟨r1, r2⟩ := hr
        rw [hd] at r2
        have := hls i
        by_cases e : r = i
        · subst e; rw [if_pos rfl] at r2; omega
        · rw [if_neg e] at r2; exact ⟨⟨r1, r2⟩, e⟩
      · have h3 := a3 x
        rw [hd] at h3
        have h4 := count_set (v := (i : Int)) hwj (x : Int)
        rw [if_neg (by omega : ¬ (-1 : Int) = (x : Int))] at h4
        by_cases e : x = i
        · subst e
          rw [if_pos rfl] at h3 h4
          omega
        · rw [if_neg e] at h3
          rw [if_neg (by omega)] at h4
          omega
    · obtain ⟨w, l', a1, a2, a3⟩ := lays_of hq hn3 (s := s) (h := h) k (by omega) l hls hv'
      rw [hj1] at a1
      exact ⟨w, l', a1.down, a2, a3⟩
theorem of_lays {q : Qu} (hq : q.ok) (hn3 : q.rs.length ≤ 3) {rec : T3 → Bool} {h : Nat} {s : T3} {l' : T3} (hr : rec l' = true) : ∀ (k : Nat), k ≤ q.ms.length → ∀ (l : T3) (w : List Int), Mt q h (Rest3 q s l) (q.ms.length - k) w → (∀ x : Nat, x < 3 → get3 l x = get3 l' x + w.count (x : Int)) → laysB q rec h s k l = true
  | 0, _, l, w, hw, hc => by
    have h4 := hw.none (fun m r _ h1 h2 => by omega)
    have e : l = l' := get3_ext fun x hx => by
      have h1 := hc x hx
      have h2 : w.count (x : Int) = 0 := List.count_eq_zero.2 fun hm => by
        have := List.count_eq_length.1 (h4.trans hw.len.symm) _ hm
        omega
      omega
    rw [e]; exact hr
  | k + 1, hk, l, w, hw, hc => by
    have hm4 := hq.m
    obtain ⟨j, hj⟩ : ∃ j, q.ms.length - (k + 1) = j := ⟨_, rfl⟩
    have hj1 : q.ms.length - k = j + 1 := by omega
    show ((List.range q.rs.length).any (fun i => canB q h s l (q.ms.length - (k + 1)) i && laysB q rec h s k (dec3 l i)) || laysB q rec h s k l) = true
    rw [hj] at hw ⊢
    rw [Bool.or_eq_true]
    have hjl : j < w.length := by rw [hw.len]; omega
    have hx : w[j]? = some w[j] := List.getElem?_eq_getElem hjl
    rcases hw.ok _ (List.getElem_mem hjl) with h1 | h1
    · rw [h1] at hx
      exact .inr (of_lays hq hn3 hr k (by omega) l w (by rw [hj1]; exact hw.next hx) hc)
    · obtain ⟨i, hi⟩ : ∃ i : Nat, w[j] = i := ⟨w[j].toNat, by omega⟩
      rw [hi] at hx
      obtain ⟨_, o2, ⟨o3, o4⟩, o5⟩ := hw.on j i hx
      have hd := get3_dec (l := l) (i := i) (by omega)
      have hci : 1 ≤ w.count (i : Int) := List.count_pos_iff.2 (List.mem_of_getElem? hx)
      have hli := hc i (by omega)
      left
      rw [List.any_eq_true]
      refine ⟨i, List.mem_range.2 o3, ?_⟩
      rw [Bool.and_eq_true]
      refine ⟨?_, of_lays hq hn3 hr k (by omega) (dec3 l i) (w.set j (-1)) ?_ fun x hx3 => ?_⟩
      · unfold canB
        rw [decide_eq_false (by omega : ¬ get3 l i = 0), decide_eq_false o4, o5]; rfl
      · rw [hj1]
        exact ((hw.cut hx).mono fun r hr' => ⟨hr'.1.1, by rw [hd, if_neg hr'.2]; exact hr'.1.2⟩).next (List.getElem?_set_self hjl)
      · have h3 := hc x hx3
        have h4 := count_set (v := (-1 : Int)) hx (x : Int)
        rw [if_neg (by omega : ¬ (-1 : Int) = (x : Int))] at h4
        rw [hd]
        by_cases e : x = i
        · subst e
          rw [if_pos rfl] at h4 ⊢
          omega
        · rw [if_neg (by omega)] at h4
          rw [if_neg e]
          omega
def FeasR (q : Qu) (u d : Nat) (l : T3) : Prop := ∃ p : List (List Int), p.length = d ∧ (∀ (i : Nat) (row : List Int), p[i]? = some row → Row q (u - d + i) row) ∧ ∀ x, x < 3 → cnt p x = get3 l x
theorem cnt_cons {l : List Int} {p : List (List Int)} {x : Nat} : cnt (l :: p) x = l.count (x : Int) + cnt p x := by unfold cnt; rw [List.map_cons, List.sum_cons]
theorem ends_iff {q : Qu} (hq : q.ok) (hn3 : q.rs.length ≤ 3) {u : Nat} : ∀ (d : Nat), d ≤ u → ∀ l : T3, endsB q u d l = true ↔ FeasR q u d l
  | 0, _, l => by
    show decide (l = (0, 0, 0)) = true ↔ _
    rw [decide_eq_true_eq]
    constructor
    · rintro rfl
      refine ⟨[], rfl, fun i row h => by simp at h, fun x hx => ?_⟩
      have hx3 : x = 0 ∨ x = 1 ∨ x = 2 := by omega
      rcases hx3 with rfl | rfl | rfl <;> rfl
    · rintro ⟨p, h1, _, h3⟩
      rw [List.length_eq_zero_iff.1 h1] at h3
      refine get3_ext fun x hx => ?_
      rw [← h3 x hx]
      have hx3 : x = 0 ∨ x = 1 ∨ x = 2 := by omega
      rcases hx3 with rfl | rfl | rfl <;> rfl
  | d + 1, hd, l => by
    have ih := ends_iff hq hn3 (u := u) d (by omega)
    show (decide (l = (0, 0, 0)) || laysB q (endsB q u d) (u - (d + 1)) l q.ms.length l) = true ↔ _
    have hlift : ∀ (row : List Int) (l' : T3), Row q (u - (d + 1)) row → FeasR q u d l' → (∀ x, x < 3 → get3 l x = get3 l' x + row.count (x : Int)) → FeasR q u (d + 1) l := fun row l' hr hf hc => by
      obtain ⟨p, p1, p2, p3⟩ := hf
      refine ⟨row :: p, by simp [p1], fun i rw' e => ?_, fun x hx => ?_⟩
      · cases i with
        | zero => simp at e; subst e; exact hr
        | succ i =>
          have := p2 i rw' (by simpa using e)
          rwa [show u - (d + 1) + (i + 1) = u - d + i by omega]
      · rw [cnt_cons, p3 x hx, hc x hx]; omega
    rw [Bool.or_eq_true]
    constructor
    · rintro (h | h)
      · rw [decide_eq_true_eq] at h
        subst h
        have h0 : endsB q u d (0, 0, 0) = true := by
          cases d with
          | zero => rfl
          | succ d => show (decide (((0, 0, 0) : T3) = (0, 0, 0)) || _) = true; rw [decide_eq_true rfl]; rfl
        refine hlift idle4 (0, 0, 0) Mt.idle ((ih _).1 h0) fun x hx => ?_
        have : idle4.count (x : Int) = 0 := List.count_eq_zero.2 fun h => by simp [idle4] at h
        omega
      · obtain ⟨w, l', a1, a2, a3⟩ := lays_of hq hn3 q.ms.length (Nat.le_refl _) l (fun x => Nat.le_refl _) h
        rw [Nat.sub_self] at a1
        exact hlift w l' (a1.mono fun r hr => hr.1) ((ih _).1 a2) fun x _ => a3 x
    · rintro ⟨p, p1, p2, p3⟩
      right
      cases p with
      | nil => cases p1
      | cons row p =>
        have hrow := p2 0 row rfl
        rw [Nat.add_zero] at hrow
        have hrec : endsB q u d (cnt p 0, cnt p 1, cnt p 2) = true := (ih _).2 ⟨p, by simpa using p1, fun i rw' e => by
          have := p2 (i + 1) rw' (by simpa using e)
          rwa [show u - (d + 1) + (i + 1) = u - d + i by omega] at this, fun x hx => by
          have hx3 : x = 0 ∨ x = 1 ∨ x = 2 := by omega
          rcases hx3 with rfl | rfl | rfl <;> rfl⟩
        refine of_lays hq hn3 hrec q.ms.length (Nat.le_refl _) l row ?_ fun x hx => ?_
        · rw [Nat.sub_self]
          exact hrow.mono fun r hr => ⟨hr, by omega⟩
        · rw [← p3 x hx, cnt_cons]
          have hx3 : x = 0 ∨ x = 1 ∨ x = 2 := by omega
          rcases hx3 with rfl | rfl | rfl <;> simp only [get3] <;> omega
theorem st3_get {q : Qu} {x : Nat} (hx : x < 3) : get3 (st3 q) x = (q.run x).hours.toNat := by
  have hx3 : x = 0 ∨ x = 1 ∨ x = 2 := by omega
  rcases hx3 with rfl | rfl | rfl <;> rfl
theorem LP.cnt_out {q : Qu} {p : List (List Int)} (hp : LP q p) {x : Nat} (hx : q.rs.length ≤ x) : cnt p x = 0 := cnt_zero fun l hl => by
  obtain ⟨h, hh⟩ := hp.row hl
  refine List.count_eq_zero.2 fun hm => ?_
  obtain ⟨m, hm⟩ := List.mem_iff_getElem?.1 hm
  have : x < q.rs.length := (hh.on m x hm).2.2.1
  omega
theorem ends_feas {q : Qu} (hq : q.ok) (hn3 : q.rs.length ≤ 3) {T : Nat} (hT : T ≤ 40) : endsB q T T (st3 q) = true ↔ Feas q T := by
  rw [ends_iff hq hn3 T (Nat.le_refl _)]
  constructor
  · rintro ⟨p, p1, p2, p3⟩
    refine ⟨p, ⟨fun h l e => ?_, by omega⟩, p1, fun x hx => ?_⟩
    · have := p2 h l e
      rwa [show T - T + h = h by omega] at this
    · rw [p3 x (by omega), st3_get (by omega)]
      exact (run_hours hq x).1
  · rintro ⟨p, p1, p2, p3⟩
    refine ⟨p, p2, fun i row e => ?_, fun x hx => ?_⟩
    · rw [show T - T + i = i by omega]
      exact p1.rows i row e
    · rw [st3_get hx]
      by_cases hxn : x < q.rs.length
      · have := p3 x hxn
        have := run_hours hq x
        omega
      · have h0 : (q.run x).hours.toNat = 0 := by
          unfold Qu.run
          rw [List.getElem?_eq_none (by omega)]; rfl
        rw [h0, p1.cnt_out (by omega)]
theorem earlR_some {q : Qu} (hq : q.ok) (hn3 : q.rs.length ≤ 3) {T : Nat} (hT : T ≤ 40) (hf : Feas q T) (hno : ∀ T', T' < T → ¬ Feas q T') : earlR q = T := by
  unfold earlR
  rw [find_first (n := 41) (k := T) (by omega) (fun i hi => by
    rw [Bool.eq_false_iff]
    intro h
    exact hno i hi ((ends_feas hq hn3 (by omega)).1 h)) ((ends_feas hq hn3 hT).2 hf)]
theorem earlR_none {q : Qu} (hq : q.ok) (hn3 : q.rs.length ≤ 3) (hno : ∀ T, T ≤ 40 → ¬ Feas q T) : earlR q = -1 := by
  unfold earlR
  have : (List.range 41).find? (fun T => endsB q T T (st3 q)) = none := List.find?_eq_none.2 fun x hx => by
    rw [List.mem_range] at hx
    rw [(Bool.eq_false_iff.2 fun h => hno x (by omega) ((ends_feas hq hn3 (by omega)).1 h))]; simp
  rw [this]
end Go.Proofs.Ytohhjnpiiackjaa
