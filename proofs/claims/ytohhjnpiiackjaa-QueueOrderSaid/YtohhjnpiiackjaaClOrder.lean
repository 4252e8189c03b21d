/- Layer 10 (queue), plain laws: runs and machines in another order. (Several texts in one.) -/
import Derived.Test.YtohhjnpiiackjaaQuM
import Derived.Test.YtohhjnpiiackjaaRows
import Derived.WalkKit
import Derived.ProofKit
import Derived.OpenShut
import Derived.Test.YtohhjnpiiackjaaQuE
set_option linter.unusedVariables false
set_option linter.unusedSimpArgs false
/-! Layer 10 (queue), plain laws: runs and machines in another order. -/
namespace Go.Proofs.Ytohhjnpiiackjaa
open Go.RowKit

set_option linter.unusedSimpArgs false
theorem Feas.perm {q q' : Qu} (hq : q.ok) (hms : q'.ms.length = q.ms.length) (hrs : q'.rs.length = q.rs.length) {mu ta : Nat → Nat}
    (mi : ∀ a b, a < q.ms.length → b < q.ms.length → mu a = mu b → a = b) (mj : ∀ m, m < q.ms.length → ∃ m', m' < q.ms.length ∧ mu m' = m)
    (tl : ∀ r, r < q.rs.length → ta r < q.rs.length) (ti : ∀ a b, a < q.rs.length → b < q.rs.length → ta a = ta b → a = b) (tj : ∀ r, r < q.rs.length → ∃ r', r' < q.rs.length ∧ ta r' = r)
    (hmay : ∀ r m h : Nat, r < q.rs.length → m < q.ms.length → q.may r (mu m) h = true → q'.may (ta r) m h = true) (hh : ∀ r, r < q.rs.length → (q'.run (ta r)).hours = (q.run r).hours) {T : Nat} (hf : Feas q T) : Feas q' T := by
  obtain ⟨p, a, b, c⟩ := hf
  have hm4 := hq.m
  obtain ⟨g, hg⟩ : ∃ g : List Int → List Int, g = fun row => (List.range 4).map fun m => if m < q.ms.length ∧ 0 ≤ (row[mu m]?).getD (-1) then ((ta ((row[mu m]?).getD (-1)).toNat : Nat) : Int) else -1 := ⟨_, rfl⟩
  have hget : ∀ (row : List Int) (m r' : Nat), (g row)[m]? = some (r' : Int) → ∃ r : Nat, m < q.ms.length ∧ row[mu m]? = some (r : Int) ∧ ta r = r' := fun row m r' e => by
    rw [hg] at e
    have hm : m < 4 := by have := (List.getElem?_eq_some_iff.1 e).1; simpa using this
    simp only [List.getElem?_map, List.getElem?_range hm, Option.map_some, Option.some.injEq] at e
    split at e
    · rename_i hc
      obtain ⟨h1, h2⟩ := hc
      cases hx : row[mu m]? with
      | none => rw [hx] at h2; simp at h2
      | some x =>
        rw [hx, Option.getD_some] at h2 e
        exact ⟨x.toNat, h1, by congr 1; omega, by omega⟩
    · omega
  have hput : ∀ (row : List Int) (m r : Nat), m < q.ms.length → row[mu m]? = some (r : Int) → (g row)[m]? = some ((ta r : Nat) : Int) := fun row m r h1 h2 => by
    rw [hg]
    simp only [List.getElem?_map, List.getElem?_range (show m < 4 by omega), Option.map_some, h2, Option.getD_some, Int.toNat_natCast]
    rw [if_pos ⟨h1, by omega⟩]
  have hrow : ∀ (h : Nat) (row : List Int), Row q h row → Row q' h (g row) := fun h row R => by
    have hr : ∀ m r : Nat, row[m]? = some (r : Int) → r < q.rs.length := fun m r e => (R.on m r e).2.2.1
    refine ⟨by rw [hg]; simp, fun x hx => ?_, fun m r' e => ?_, fun m m' r' e e' => ?_⟩
    · rw [hg] at hx
      obtain ⟨m, _, rfl⟩ := List.mem_map.1 hx
      split
      · right; omega
      · exact .inl rfl
    · obtain ⟨r, h1, h2, rfl⟩ := hget row m r' e
      have := hr _ _ h2
      exact ⟨Nat.zero_le _, by rw [hms]; exact h1, (show ta r < q'.rs.length by rw [hrs]; exact tl r this), hmay r m h this h1 (R.on _ r h2).2.2.2⟩
    · obtain ⟨r1, h1, h2, h3⟩ := hget row m r' e
      obtain ⟨r2, k1, k2, k3⟩ := hget row m' r' e'
      have := ti r1 r2 (hr _ _ h2) (hr _ _ k2) (by rw [h3, k3])
      subst this
      exact mi m m' h1 k1 (R.one _ _ _ h2 k2)
  have hcount : ∀ (h : Nat) (row : List Int), Row q h row → ∀ r, r < q.rs.length → (g row).count ((ta r : Nat) : Int) = row.count (r : Int) := fun h row R r hr => by
    have c1 := Row.cnt1 R r
    have c2 := Row.cnt1 (hrow h row R) (ta r)
    have hr' : ∀ m r : Nat, row[m]? = some (r : Int) → r < q.rs.length := fun m r e => (R.on m r e).2.2.1
    by_cases hm : (r : Int) ∈ row
    · have d1 : 1 ≤ row.count (r : Int) := List.count_pos_iff.2 hm
      obtain ⟨m, e⟩ := List.mem_iff_getElem?.1 hm
      obtain ⟨m', h1, h2⟩ := mj m (R.on m r e).2.1
      have d2 : 1 ≤ (g row).count ((ta r : Nat) : Int) := List.count_pos_iff.2 (List.mem_of_getElem? (hput row m' r h1 (by rw [h2]; exact e)))
      omega
    · have d1 : row.count (r : Int) = 0 := List.count_eq_zero.2 hm
      have d2 : (g row).count ((ta r : Nat) : Int) = 0 := List.count_eq_zero.2 fun hm2 => by
        obtain ⟨m, e⟩ := List.mem_iff_getElem?.1 hm2
        obtain ⟨r2, _, h2, h3⟩ := hget row m _ e
        have := ti r2 r (hr' _ _ h2) hr h3
        subst this
        exact hm (List.mem_of_getElem? h2)
      omega
  refine ⟨p.map g, ⟨fun h l e => ?_, by rw [List.length_map]; exact a.len⟩, by rw [List.length_map]; exact b, fun x hx => ?_⟩
  · rw [List.getElem?_map, Option.map_eq_some_iff] at e
    obtain ⟨l0, h1, rfl⟩ := e
    exact hrow h l0 (a.rows h l0 h1)
  · rw [hrs] at hx
    obtain ⟨r, hr, rfl⟩ := tj x hx
    rw [hh r hr, ← c r hr]
    congr 1
    clear b c
    have hall : ∀ l ∈ p, ∃ h : Nat, Row q h l := fun l hl => a.row hl
    clear a
    induction p with
    | nil => rfl
    | cons l p ih =>
      have e1 : ∀ (a : List Int) (r : List (List Int)) (x : Nat), cnt (a :: r) x = a.count (x : Int) + cnt r x := fun a r x => by unfold cnt; rw [List.map_cons, List.sum_cons]
      rw [List.map_cons, e1, e1, ih fun l hl => hall l (by simp [hl])]
      obtain ⟨h, R⟩ := hall l (by simp)
      rw [hcount h l R r hr]
theorem rot_get {α : Type} {l : List α} {N u m : Nat} (hl : l.length = N) (hu : u < N) (hm : m < N) : (l.drop u ++ l.take u)[m]? = l[(m + u) % N]? := by
  rw [List.getElem?_append]
  have hd : (l.drop u).length = N - u := by rw [List.length_drop, hl]
  rw [hd]
  by_cases h : m < N - u
  · rw [if_pos h, List.getElem?_drop, Nat.mod_eq_of_lt (by omega), Nat.add_comm]
  · rw [if_neg h, List.getElem?_take, if_pos (by omega)]
    have : (m + u) % N = m - (N - u) := by
      rw [Nat.mod_eq_sub_mod (by omega), Nat.mod_eq_of_lt (by omega)]; omega
    rw [this]
theorem rot_lt {N u m : Nat} (hN : 0 < N) : (m + u) % N < N := Nat.mod_lt _ hN
theorem rot_inv {N u m : Nat} (hu : u < N) (hm : m < N) : ((m + u) % N + (N - u)) % N = m := by
  by_cases h : m + u < N
  · rw [Nat.mod_eq_of_lt h, show m + u + (N - u) = m + N by omega, Nat.add_mod_right, Nat.mod_eq_of_lt hm]
  · have e : (m + u) % N = m + u - N := by rw [Nat.mod_eq_sub_mod (by omega), Nat.mod_eq_of_lt (by omega)]
    rw [e, show m + u - N + (N - u) = m by omega, Nat.mod_eq_of_lt hm]
theorem rot_inv2 {N u m : Nat} (hu : u < N) (hm : m < N) : ((m + (N - u)) % N + u) % N = m := by
  by_cases h : m + (N - u) < N
  · rw [Nat.mod_eq_of_lt h, show m + (N - u) + u = m + N by omega, Nat.add_mod_right, Nat.mod_eq_of_lt hm]
  · have e : (m + (N - u)) % N = m + (N - u) - N := by rw [Nat.mod_eq_sub_mod (by omega), Nat.mod_eq_of_lt (by omega)]
    rw [e, show m + (N - u) - N + u = m by omega, Nat.mod_eq_of_lt hm]
/-- Runs and machines are turned. -/
def Rq.turn (r : Rq) (u : Nat) : Rq := ⟨r.hours, r.ready, r.on.drop u ++ r.on.take u⟩
def Qu.turn (q : Qu) (t u : Nat) : Qu := ⟨q.ms.drop u ++ q.ms.take u, (List.range q.rs.length).map fun i => (q.run ((i + t) % q.rs.length)).turn u⟩
theorem Qu.turn_ms {q : Qu} {t u : Nat} (hu : u < q.ms.length) : (q.turn t u).ms.length = q.ms.length := by simp [Qu.turn]; omega
theorem Qu.turn_rs {q : Qu} {t u : Nat} : (q.turn t u).rs.length = q.rs.length := by simp [Qu.turn]
theorem Qu.turn_run {q : Qu} {t u i : Nat} (hi : i < q.rs.length) : (q.turn t u).run i = (q.run ((i + t) % q.rs.length)).turn u := run_of (by unfold Qu.turn; rw [List.getElem?_map, List.getElem?_range hi]; rfl)
theorem run_mem {q : Qu} {i : Nat} (hi : i < q.rs.length) : q.run i ∈ q.rs := by rw [run_of (List.getElem?_eq_getElem hi)]; exact List.getElem_mem hi
theorem Qu.turn_ok {q : Qu} (hq : q.ok) {t u : Nat} (hu : u < q.ms.length) (hn : 0 < q.rs.length) : (q.turn t u).ok := by
  have hms : ∀ l ∈ (q.turn t u).ms, l ∈ q.ms := fun l hl => by
    rcases List.mem_append.1 hl with h | h
    · exact List.mem_of_mem_drop h
    · exact List.mem_of_mem_take h
  have hrs : ∀ r ∈ (q.turn t u).rs, ∃ r0 ∈ q.rs, r = r0.turn u := fun r hr => by
    obtain ⟨i, _, rfl⟩ := List.mem_map.1 hr
    exact ⟨_, run_mem (rot_lt hn), rfl⟩
  refine ⟨by rw [Qu.turn_ms hu]; exact hq.m, by rw [Qu.turn_rs]; exact hq.r, fun l hl => hq.s l (hms l hl), fun l hl => hq.x l (hms l hl), fun r hr => ?_, fun r hr => ?_, fun r hr => ?_⟩
  · obtain ⟨r0, h0, rfl⟩ := hrs r hr; exact hq.h r0 h0
  · obtain ⟨r0, h0, rfl⟩ := hrs r hr; exact hq.d r0 h0
  · obtain ⟨r0, h0, rfl⟩ := hrs r hr
    have := hq.f r0 h0
    rw [Qu.turn_ms hu]
    simp [Rq.turn]; omega
theorem Qu.turn_may {q : Qu} (hq : q.ok) {t u : Nat} (hu : u < q.ms.length) (hn : 0 < q.rs.length) {i m : Nat} (hi : i < q.rs.length) (hm : m < q.ms.length) (h : Int) : (q.turn t u).may i m h = q.may ((i + t) % q.rs.length) ((m + u) % q.ms.length) h := by
  unfold Qu.may
  have e1 : (q.turn t u).stops m = q.stops ((m + u) % q.ms.length) := by
    unfold Qu.stops Qu.turn
    rw [rot_get rfl hu hm]
  rw [e1, Qu.turn_run hi]
  have e2 : ((q.run ((i + t) % q.rs.length)).turn u).on[m]? = (q.run ((i + t) % q.rs.length)).on[(m + u) % q.ms.length]? := rot_get (hq.f _ (run_mem (rot_lt hn))) hu hm
  rw [e2]; rfl
theorem turn_first {F : Nat} (hF : 407 < F) {q : Qu} (hq : q.ok) {t u : Nat} (ht : t < q.rs.length) (hu : u < q.ms.length) : firstV F (q.turn t u) = firstV F q := by
  have hn : 0 < q.rs.length := by omega
  have hN : 0 < q.ms.length := by omega
  have hX := Qu.turn_ok hq (t := t) hu hn
  have h1 := first_le hF hq hX fun T hf => hf.perm (q := q) (q' := q.turn t u) hq (Qu.turn_ms hu) Qu.turn_rs (mu := fun m => (m + u) % q.ms.length) (ta := fun r => (r + (q.rs.length - t)) % q.rs.length)
    (fun a b ha hb e => by have e : (a + u) % q.ms.length = (b + u) % q.ms.length := e
                           rw [← rot_inv hu ha, ← rot_inv hu hb, e])
    (fun m hm => ⟨(m + (q.ms.length - u)) % q.ms.length, rot_lt hN, rot_inv2 hu hm⟩)
    (fun r _ => rot_lt hn)
    (fun a b ha hb e => by have e : (a + (q.rs.length - t)) % q.rs.length = (b + (q.rs.length - t)) % q.rs.length := e
                           rw [← rot_inv2 ht ha, ← rot_inv2 ht hb, e])
    (fun r hr => ⟨(r + t) % q.rs.length, rot_lt hn, rot_inv ht hr⟩)
    (fun r m h hr hm hy => by
      show (q.turn t u).may ((r + (q.rs.length - t)) % q.rs.length) m h = true
      rw [Qu.turn_may hq hu hn (rot_lt hn) hm, rot_inv2 ht hr]
      exact hy)
    (fun r hr => by
      show ((q.turn t u).run ((r + (q.rs.length - t)) % q.rs.length)).hours = _
      rw [Qu.turn_run (rot_lt hn), rot_inv2 ht hr]; rfl)
  have h2 := first_le hF hX hq fun T hf => hf.perm (q := q.turn t u) (q' := q) hX (Qu.turn_ms hu).symm Qu.turn_rs.symm (mu := fun m => (m + (q.ms.length - u)) % q.ms.length) (ta := fun r => (r + t) % q.rs.length)
    (fun a b ha hb e => by
      rw [Qu.turn_ms hu] at ha hb
      have e : (a + (q.ms.length - u)) % q.ms.length = (b + (q.ms.length - u)) % q.ms.length := e
      rw [← rot_inv2 hu ha, ← rot_inv2 hu hb, e])
    (fun m hm => by
      rw [Qu.turn_ms hu] at hm ⊢
      exact ⟨(m + u) % q.ms.length, rot_lt hN, rot_inv hu hm⟩)
    (fun r _ => by rw [Qu.turn_rs]; exact rot_lt hn)
    (fun a b ha hb e => by
      rw [Qu.turn_rs] at ha hb
      have e : (a + t) % q.rs.length = (b + t) % q.rs.length := e
      rw [← rot_inv ht ha, ← rot_inv ht hb, e])
    (fun r hr => by
      rw [Qu.turn_rs] at hr ⊢
      exact ⟨(r + (q.rs.length - t)) % q.rs.length, rot_lt hn, rot_inv2 ht hr⟩)
    (fun r m h hr hm hy => by
      rw [Qu.turn_rs] at hr
      rw [Qu.turn_ms hu] at hm
      have hy : (q.turn t u).may r ((m + (q.ms.length - u)) % q.ms.length) h = true := hy
      rw [Qu.turn_may hq hu hn hr (rot_lt hN), rot_inv2 hu hm] at hy
      exact hy)
    (fun r hr => by
      rw [Qu.turn_rs] at hr
      rw [Qu.turn_run hr]; rfl)
  omega
end Go.Proofs.Ytohhjnpiiackjaa

/-! Layer 10 (queue): the law QueueOrder. -/
namespace Go.Proofs.Ytohhjnpiiackjaa
open Go.RowKit

set_option maxRecDepth 10000
set_option linter.unusedSimpArgs false

attribute [local simp] AS.exp expG Box.ren AV.map AV.mapL outsOk noRet Site.isRet Box.allS AV.allS AV.allSL retB dropL AS.adds renL outG outOk lentBx inG fnOf lookA List.findIdx?_cons
attribute [local simp] Box.purge Site.isLoc
attribute [local simp] retFz frzL AS.frz AV.frz AV.frzL Box.frz AS.tidy AS.frzC
def turnK (q : Qu) (t u k : Nat) : List PV := ((List.range k).map fun i => (q.run ((i + t) % q.rs.length)).turn u).map Rq.pv
def orS (q : Qu) (t u k : Nat) : AS := ⟨[(2, .ptr (.loc 2 0) 0), (5, .pv (.int .i64 t)), (6, .pv (.int .i64 u)), (7, .ptr (.loc 7 0) 0), (8, .pv (.int .i64 k))],
  [(.loc 7 0, .cells [.vec (.loc 52 0) 1 0 q.ms.length, .vec (.loc 88 0) 3 0 k]), (.loc 52 0, .arr 84 1 ((q.ms.drop u ++ q.ms.take u).map rgsP)), (.loc 88 0, .arr 70 3 (turnK q t u k)), (.loc 2 0, .cells q.cells)]⟩
def orJ (q : Qu) (t u : Nat) : AS := ⟨[(53, .agg [.vec (.loc 52 0) 1 0 q.ms.length, .pv (.emp (some true))]), (2, .ptr (.loc 2 0) 0), (5, .pv (.int .i64 t)), (6, .pv (.int .i64 u)), (7, .ptr (.loc 7 0) 0)],
  [(.loc 7 0, .cells [.pv (.emp (some true)), .pv (.emp (some true))]), (.loc 52 0, .arr 84 1 ((q.ms.drop u ++ q.ms.take u).map rgsP)), (.loc 2 0, .cells q.cells)]⟩
set_option maxHeartbeats 8000000 in
theorem order_law (q : Qu) (b : Int) (hb : 0 ≤ b ∧ b < 256) : Gives Try.prog 13 [q.pv, .int .u8 b] (.bool true) := by
  have hF : 407 < 408 := by decide
  generalize 408 = F at hF
  have hw := wakes_c
  refine calls_of_awpS mixed L13_ok (Nat.le_of_ble_eq_true rfl) ?_
  simp [-getElem?_pos, L13, Qu.pv]
  refine call_gives (k := 0) (fs := []) (xs := [q.pv]) (cs := []) rfl rfl (light_c q) rfl ?_
  by_cases ht : q.light = true
  case neg =>
    simp [-getElem?_pos, ht]
    refine call_gives (k := 0) (fs := []) (xs := []) (cs := []) rfl rfl hw rfl ?_
    simp [-getElem?_pos]
  obtain ⟨hs, hc, hq, _⟩ := Qu.light_of ht
  by_cases hn0 : q.rs = []
  · simp [-getElem?_pos, ht, Qu.cells, hn0]
    refine call_gives (k := 0) (fs := []) (xs := []) (cs := []) rfl rfl hw rfl ?_
    simp [-getElem?_pos]
  by_cases hN0 : q.ms = []
  · simp [-getElem?_pos, ht, Qu.cells, hn0, hN0]
    refine call_gives (k := 0) (fs := []) (xs := []) (cs := []) rfl rfl hw rfl ?_
    simp [-getElem?_pos]
  have hnp : 0 < q.rs.length := List.length_pos_iff.2 hn0
  have hNp : 0 < q.ms.length := List.length_pos_iff.2 hN0
  have h1 := hq.m
  have h2 := hq.r
  have w1 : IntKind.i64.wrap b = b := wrap64 (by omega)
  have htm : ∀ N : Nat, 0 < N → ∃ k : Nat, b.tmod (N : Int) = (k : Int) ∧ k < N := fun N hN => by
    have a1 := Int.tmod_eq_emod_of_nonneg (b := (N : Int)) hb.1
    have a2 := Int.emod_nonneg b (b := (N : Int)) (by omega)
    have a3 := Int.emod_lt_of_pos b (b := (N : Int)) (by omega)
    exact ⟨(b.tmod (N : Int)).toNat, by omega, by omega⟩
  obtain ⟨t, ht1, ht2⟩ := htm q.rs.length hnp
  obtain ⟨u, hu1, hu2⟩ := htm q.ms.length hNp
  have hX := Qu.turn_ok hq (t := t) hu2 hnp
  have hf1 := first_c hF hs hc
  have hf2 := first_c hF hX.small (Qu.check_of hX)
  rw [turn_first hF hq ht2 hu2] at hf2
  generalize firstV F q = V1 at *
  have hr0 : ¬ (q.rs.length : Int) = 0 := by omega
  have hm0 : ¬ (q.ms.length : Int) = 0 := by omega
  have hule : u ≤ q.ms.length := by omega
  have hule2 : (u : Int) ≤ (q.ms.length : Int) := by omega
  have htT : List.take q.ms.length (List.map rgsP q.ms) = List.map rgsP q.ms := List.take_of_length_le (by simp)
  simp [-getElem?_pos, ht, Qu.cells, hn0, hN0, w1, hr0, hm0, ht1, hu1, nble, hule, htT]
  have hb1 : q.ms.length - u ≤ 1000000 := by omega
  have hb2 : q.ms.length ≤ 1000000 := by omega
  have hmin : min u q.ms.length = u := Nat.min_eq_left hule
  have hsub : q.ms.length - u + u = q.ms.length := by omega
  refine ltS_seq (orJ q t u) ?_ ?_
  · simp [-getElem?_pos, ltS_alt, ltS_no, nble, nblt, hb1, hb2, hmin, hsub]
    repeat' (with_reducible refine And.intro ?_ ?_)
    all_goals
      refine Sub.mk ?_ ?_
      · simp [orJ]
      · simp [orJ, Qu.cells]
  · simp [-getElem?_pos, ltS_alt, ltS_no, orJ, Qu.cells]
    refine awp_loopS (fun n τ => ∃ k : Nat, k ≤ q.rs.length ∧ n = q.rs.length - k ∧ τ = orS q t u k)
      ⟨q.rs.length, orS q t u 0, Sub.trans' (Sub.mk (by simp [orS, AS.vecC]) (by simp [orS, AS.vecC, Qu.cells, turnK])) (vecC 88 70 3 (s := .loc 7 0) (cs := [.vec (.loc 52 0) 1 0 q.ms.length, .pv (.emp (some true))]) 1 rfl rfl (by decide)), 0, by omega, rfl, rfl⟩ ?_
    rintro J hJ n τ ⟨k, hk, rfl, rfl⟩
    by_cases hlt : k < q.rs.length
    · have hround := hJ _ _ ⟨k + 1, hlt, rfl, rfl⟩
      have hmeas : q.rs.length - (k + 1) < q.rs.length - k := by omega
      have hw2 := wrapS (k := k) (by omega)
      obtain ⟨i, hi⟩ : ∃ i, (k + t) % q.rs.length = i := ⟨_, rfl⟩
      have hin : i < q.rs.length := by rw [← hi]; exact rot_lt hnp
      have hwk : IntKind.i64.wrap ((k : Int) + (t : Int)) = ((k + t : Nat) : Int) := by rw [wrap64 (by omega)]; omega
      have htmod : ((k : Int) + (t : Int)).tmod (q.rs.length : Int) = (i : Int) := by
        rw [show (k : Int) + (t : Int) = ((k + t : Nat) : Int) by omega, ← hi, Int.tmod_eq_emod_of_nonneg (Int.natCast_nonneg _)]; exact (Int.natCast_emod _ _).symm
      obtain ⟨r, hr⟩ : ∃ r, q.rs[i]? = some r := ⟨q.rs[i], List.getElem?_eq_getElem hin⟩
      have hg : (q.rs.map Rq.pv)[i]? = some (.agg [.int .i64 r.hours, .int .i64 r.ready, .lst false 1 (r.on.map PV.bool)]) := by rw [List.getElem?_map, hr]; rfl
      have hon := hq.f r (List.mem_of_getElem? hr)
      have hTK : turnK q t u (k + 1) = turnK q t u k ++ [.agg [.int .i64 r.hours, .int .i64 r.ready, .lst false 1 ((r.on.drop u ++ r.on.take u).map PV.bool)]] := by
        unfold turnK
        rw [List.range_succ, List.map_append, List.map_append, List.map_singleton, List.map_singleton, hi, run_of hr]; rfl
      have hTKl : (turnK q t u k).length = k := by simp [turnK]
      unfold orS at hround
      rw [hTK] at hround
      clear hJ hTK hi
      simp only [orS]
      generalize turnK q t u k = TK at *
      have htO : List.take q.ms.length (List.map PV.bool r.on) = List.map PV.bool r.on := List.take_of_length_le (by simp; omega)
      have htR : List.take q.ms.length (List.drop u (List.map PV.bool r.on) ++ List.take u (List.map PV.bool r.on)) = List.drop u (List.map PV.bool r.on) ++ List.take u (List.map PV.bool r.on) := List.take_of_length_le (by simp; omega)
      have hk6 : k + 1 ≤ 1000000 := by omega
      have hk9 : k ≤ 999999 := by omega
      simp [-getElem?_pos, -List.getElem?_map, orS, Qu.cells, hlt, hn0, hwk, htmod, hin, hg, hon, nble, nblt, htO, hule, hb1, hb2, hmin, hsub, hk6, hk9, hTKl, hw2, htR]
      refine ⟨_, _, hmeas, Sub.mk ?_ ?_, hround⟩
      · simp
      · simp [Qu.cells]
    · have he : k = q.rs.length := by omega
      subst he
      clear hJ
      have ht3 : List.take q.ms.length ((q.ms.drop u ++ q.ms.take u).map rgsP) = (q.ms.drop u ++ q.ms.take u).map rgsP := List.take_of_length_le (by simp; omega)
      have ht4 : List.take q.rs.length (turnK q t u q.rs.length) = turnK q t u q.rs.length := List.take_of_length_le (by simp [turnK])
      have htkl : (turnK q t u q.rs.length).length = q.rs.length := by simp [turnK]
      have hXe : (q.turn t u).pv = .agg [.lst false 1 ((q.ms.drop u ++ q.ms.take u).map rgsP), .lst false 3 (turnK q t u q.rs.length)] := rfl
      simp [-getElem?_pos, -List.getElem?_map, -List.map_append, orS, Qu.cells]
      refine .inl (call_pv [] (fs := []) (xs := [q.pv]) (cs := []) rfl rfl hf1 ?_)
      simp [-getElem?_pos, -List.getElem?_map, -List.map_append, frzsL]
      refine .inl (call_pv [.loc 52 0, .loc 88 0] (fs := []) (xs := [(q.turn t u).pv]) (cs := []) rfl ?_ hf2 ?_)
      · rw [hXe]; simp [frzsL, -List.map_append, ht3, ht4, hmin, hsub, htkl]
      simp [-getElem?_pos, -List.getElem?_map, -List.map_append, frzsL]
      refine .inl (call_pv [] (fs := []) (xs := []) (cs := []) rfl rfl hw ?_)
      simp [-getElem?_pos, frzsL]
end Go.Proofs.Ytohhjnpiiackjaa

/-! The statement QueueOrder holds: for every input the law answers true, and its arguments read behind the call as before. No conditions. -/
namespace Go.Proofs.Ytohhjnpiiackjaa
open Go.ChangeShapes Go.WideShapes Go.ChangeAt Go.RowKit

set_option maxRecDepth 100000 in
theorem walkQueueOrder (v0 v1 : Value) (W : World) {H : Type} {enc : TypeId × Value → H} {base : Nat} {sp : Nat → Bool} {hd : Bool} {d0 d1 : DataW H} {p0 p1 : List MemPlace}
    (k0 : Value.okWide Try.prog W .any base 25 v0) (h0 : DataW.Trod enc Try.prog W 0 sp hd 25 v0 d0 p0)
    (k1 : Value.okWide Try.prog W .any base 5 v1) (h1 : DataW.Trod enc Try.prog W 0 sp hd 5 v1 d1 p1) :
    Calls Try.prog 13 #[v0, v1] W fun e w' => e = .returned (.bool true) ∧ Keep [] W w' := by
  obtain ⟨n0, h0⟩ := h0
  obtain ⟨s0, w0, r0⟩ := rq_queue k0 h0
  obtain ⟨s1, rfl, rfl, rfl, w1⟩ := open_int Try.underlying5 k1 h1
  refine calls_bool (xs := [s0.pv, .int .u8 s1]) (b := true) ((order_law s0 s1 (u8_bd w1)).mono (fun _ _ h => h.1)) rfl (fun j v x e1 e2 => ?_)
  match j with
  | 0 => simp at e1 e2; subst e1 e2; exact r0
  | 1 => simp at e1 e2; subst e1 e2; exact .int .u8 s1
  | j + 2 => simp at e1
set_option maxRecDepth 100000 in
theorem liftedQueueOrder (os : Os) (started : os.Started) (H : Type) (enc : TypeId × Value → H) :
    ReturnsInHanded {} Try.checked os 13 .any (Rows.queueOrderSpec.pre6 enc Try.prog Try.f13 Rows.queueOrderRow.domain false) (Rows.queueOrderSpec.post enc Try.prog Try.f13 false true false false) := by
  refine returnsInHanded_of_change (C := Try.checked) own started (by kernel_rfl) Try.func13
    (ChangeSpec.witness6 (enc := enc) (C := Try.checked) false ⟨#[], #[.agg #[.slice none 0 0, .slice none 0 0], .int .u8 0], []⟩ 8 (by kernel_rfl) (by kernel_rfl) (by kernel_rfl) (by kernel_rfl)) ?_
  intro W base args ds gs before hval0 hW hcnd _
  have hval : ∀ (j : Nat) t v, Try.f13.params[j]? = some t → args[j]? = some v → Value.okWide Try.prog W .any base t v := hval0
  have hW' := hW
  obtain ⟨p, q, hA0, hV, rfl, hfz, hnd⟩ := hW
  have hA : DataW.TrodAll enc Try.prog W 0 (fun _ => true) true Try.f13.params.toList args.toList ds p := hA0
  rw [Try.params13] at hA hval
  obtain ⟨v0, vs0, d0, ds0, p0, q0, hargs, rfl, rfl, h0, r0⟩ := trodAll_cons hA
  obtain ⟨v1, vs1, d1, ds1, p1, q1, rfl, rfl, rfl, h1, r1⟩ := trodAll_cons r0
  obtain ⟨rfl, rfl, rfl⟩ := trodAll_nil r1
  have hargs' : args = #[v0, v1] := by
    apply Array.ext'
    exact hargs
  subst hargs'
  have k0 := hval 0 _ v0 rfl rfl
  have k1 := hval 1 _ v1 rfl rfl
  obtain ⟨rfl, rfl⟩ := trodVars_none hV
  refine (walkQueueOrder v0 v1 W k0 h0 k1 h1).mono fun e W' ⟨he, hk⟩ => ?_
  subst he
  exact ⟨_, rfl, post_law (tb := 4) laidP rowedP fullP (by decide +kernel) rfl rfl rfl Try.underlying4 hW' hk⟩
theorem overQueueOrder : Rows.queueOrderRow.holds Try.pinned (OpenSpec.ofChange Rows.queueOrderSpec) :=
  OpenClaim.holds_of_wide 13 Try.f13 rfl rfl rfl rfl rfl rfl rfl ⟨rfl, rfl, rfl, rfl, rfl⟩ rfl rfl rfl rfl rfl (by kernel_rfl) Try.func13 (by kernel_rfl)
    (of_decide_eq_true (by kernel_rfl)) (by unfold Func.isWrapper; first | (rw [if_pos (by decide +kernel)]; kernel_rfl) | (rw [if_neg (by decide +kernel)]; exact ⟨rfl, rfl⟩))
    (fun os started H enc _ => liftedQueueOrder os started H enc)
theorem provedQueueOrder : Rows.QueueOrderSaid := overQueueOrder
end Go.Proofs.Ytohhjnpiiackjaa
