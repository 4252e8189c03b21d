/- Layer 10 (queue): the law QueueRoom. (Several texts in one.) -/
import Derived.Test.YtohhjnpiiackjaaQuG
import Derived.Test.YtohhjnpiiackjaaRows
import Derived.WalkKit
import Derived.ProofKit
import Derived.OpenShut
import Derived.Test.YtohhjnpiiackjaaQuE
set_option linter.unusedVariables false
set_option linter.unusedSimpArgs false
/-! Layer 10 (queue): the law QueueRoom. -/
namespace Go.Proofs.Ytohhjnpiiackjaa
open Go.RowKit

set_option maxRecDepth 10000
set_option linter.unusedSimpArgs false

attribute [local simp] AS.exp expG Box.ren AV.map AV.mapL outsOk noRet Site.isRet Box.allS AV.allS AV.allSL retB dropL AS.adds renL outG outOk lentBx inG fnOf lookA List.findIdx?_cons
attribute [local simp] Box.purge Site.isLoc
attribute [local simp] retFz frzL AS.frz AV.frz AV.frzL Box.frz AS.tidy AS.frzC
theorem u8_bd {n : Int} (h : (Lit.int .u8 n).wf = true) : 0 ≤ n ∧ n < 256 := by
  have h1 : IntKind.u8.min ≤ n ∧ n ≤ IntKind.u8.max := by simpa [Lit.wf] using h
  have e1 : IntKind.u8.min = 0 := by decide
  have e2 : IntKind.u8.max = 255 := by decide
  omega
def selL (f : Nat → Bool) (k : Nat) : List Int := ((List.range k).filter f).map Int.ofNat
theorem selL_next {f : Nat → Bool} {k : Nat} : selL f (k + 1) = selL f k ++ (if f k = true then [(k : Int)] else []) := by
  unfold selL
  rw [List.range_succ, List.filter_append, List.map_append, List.filter_cons, List.filter_nil]
  split <;> rfl
theorem selL_len {f : Nat → Bool} {k : Nat} : (selL f k).length ≤ k := by
  unfold selL
  rw [List.length_map]
  exact Nat.le_trans (List.length_filter_le _ _) (by simp)
theorem mem_selL {f : Nat → Bool} {k : Nat} {x : Int} : x ∈ selL f k ↔ ∃ r : Nat, x = r ∧ r < k ∧ f r = true := by
  unfold selL
  rw [List.mem_map]
  constructor
  · rintro ⟨r, h, rfl⟩
    rw [List.mem_filter, List.mem_range] at h
    exact ⟨r, rfl, h.1, h.2⟩
  · rintro ⟨r, rfl, h1, h2⟩
    exact ⟨r, by rw [List.mem_filter, List.mem_range]; exact ⟨h1, h2⟩, rfl⟩
def bitF (b : Int) (i : Nat) : Bool := decide ((b.fdiv (2 ^ min i IntKind.u8.bits)).tmod 2 = 1)
def orB (a b : Int) : Int := IntKind.u8.wrap (((a % 2 ^ IntKind.u8.bits).toNat ||| (b % 2 ^ IntKind.u8.bits).toNat : Nat) : Int)
theorem bitF_nat {n i : Nat} (hi : i ≤ 8) : bitF (n : Int) i = n.testBit i := by
  unfold bitF
  rw [Nat.testBit_eq_decide_div_mod_eq, show min i IntKind.u8.bits = i from Nat.min_eq_left hi]
  have h1 : (n : Int).fdiv (2 ^ i) = ((n / 2 ^ i : Nat) : Int) := by
    rw [Int.fdiv_eq_ediv_of_nonneg _ (Int.pow_nonneg (by decide))]; simp
  rw [h1, Int.tmod_eq_emod_of_nonneg (Int.natCast_nonneg _)]
  generalize n / 2 ^ i = z
  rw [Bool.eq_iff_iff]; simp only [decide_eq_true_eq]; omega
theorem bitF_or {a b : Int} (ha : 0 ≤ a ∧ a < 256) (hb : 0 ≤ b ∧ b < 256) {i : Nat} (hi : i ≤ 8) (h : bitF a i = true) : bitF (orB a b) i = true := by
  obtain ⟨n, rfl⟩ : ∃ n : Nat, a = n := ⟨a.toNat, by omega⟩
  obtain ⟨m, rfl⟩ : ∃ m : Nat, b = m := ⟨b.toNat, by omega⟩
  have e : orB (n : Int) (m : Int) = ((n ||| m : Nat) : Int) := by
    unfold orB
    have h1 : ((n : Int) % 2 ^ IntKind.u8.bits).toNat = n := by
      show ((n : Int) % 256).toNat = n
      omega
    have h2 : ((m : Int) % 2 ^ IntKind.u8.bits).toNat = m := by
      show ((m : Int) % 256).toNat = m
      omega
    have h3 : n ||| m < 2 ^ 8 := Nat.or_lt_two_pow (by omega) (by omega)
    rw [h1, h2, IntKind.wrap_u8]
    omega
  rw [e, bitF_nat hi, Nat.testBit_or]
  rw [bitF_nat hi] at h
  rw [h, Bool.true_or]
theorem selL_rising {q : Qu} {f : Nat → Bool} : q.rising (selL f q.rs.length) = true := by
  have hp : (selL f q.rs.length).Pairwise (· < ·) := by
    unfold selL
    rw [List.pairwise_map]
    exact (List.pairwise_lt_range.filter _).imp fun h => by simpa using h
  unfold Qu.rising
  rw [List.all_eq_true]
  intro i hi
  rw [List.mem_range] at hi
  have hx : (selL f q.rs.length)[i]? = some (selL f q.rs.length)[i] := List.getElem?_eq_getElem hi
  obtain ⟨r, e, hr, _⟩ := mem_selL.1 (List.getElem_mem hi)
  unfold Qu.risAt
  rw [hx, Option.getD_some]
  simp only [Bool.and_eq_true, Bool.or_eq_true, decide_eq_true_eq]
  refine ⟨⟨by omega, by omega⟩, ?_⟩
  by_cases h0 : i = 0
  · exact .inl h0
  · right
    have hy : (selL f q.rs.length)[i - 1]? = some ((selL f q.rs.length)[i - 1]'(by omega)) := List.getElem?_eq_getElem (by omega)
    rw [hy, Option.getD_some]
    exact List.pairwise_iff_getElem.1 hp (i - 1) i (by omega) hi (by omega)
def rlS (q : Qu) (b1 b2 b3 : Int) (k : Nat) : AS := ⟨[(1, .pv (.int .u8 b1)), (2, .pv (.int .u8 b2)), (3, .pv (.int .u8 b3)), (4, .ptr (.loc 4 0) 0), (9, .vec (.loc 39 0) 1 0 (selL (bitF b1) k).length), (10, .vec (.loc 51 0) 1 0 (selL (bitF (orB b1 b2)) k).length), (11, .pv (.int .i64 k))], [(.loc 39 0, .arr 3 1 ((selL (bitF b1) k).map intP)), (.loc 51 0, .arr 3 1 ((selL (bitF (orB b1 b2)) k).map intP)), (.loc 4 0, .cells q.cells)]⟩
set_option maxHeartbeats 4000000 in
theorem room_law (q : Qu) (b1 b2 b3 : Int) (h1 : 0 ≤ b1 ∧ b1 < 256) (h2 : 0 ≤ b2 ∧ b2 < 256) (h3 : 0 ≤ b3 ∧ b3 < 256) : Gives Try.prog 15 [q.pv, .int .u8 b1, .int .u8 b2, .int .u8 b3] (.bool true) := by
  have hw := wakes_c
  refine calls_of_awpS mixed L15_ok (Nat.le_of_ble_eq_true rfl) ?_
  simp [-getElem?_pos, L15, Qu.pv]
  refine call_gives (k := 0) (fs := []) (xs := [q.pv]) (cs := []) rfl rfl (ready_c q) rfl ?_
  by_cases ht : q.readyB = true
  case neg =>
    simp [-getElem?_pos, ht]
    refine call_gives (k := 0) (fs := []) (xs := []) (cs := []) rfl rfl hw rfl ?_
    simp [-getElem?_pos]
  have ht2 : q.thin = true ∧ q.check = 0 := by simpa [Qu.readyB] using ht
  have hs := Qu.small_of ht2.1
  have hq := Qu.ok_of ht2.2
  have hqr := hq.r
  have hqm := hq.m
  simp [-getElem?_pos, ht]
  refine awp_loopS (fun n τ => ∃ k : Nat, k ≤ q.rs.length ∧ n = q.rs.length - k ∧ τ = rlS q b1 b2 b3 k)
    ⟨q.rs.length, rlS q b1 b2 b3 0, Sub.trans' (Sub.trans' (Sub.mk (by simp [rlS, AS.vecT, selL]) (by simp [rlS, AS.vecT, Qu.cells, selL])) (vecT 51 3 1 10 rfl (by decide))) (vecT 39 3 1 9 rfl (by decide)), 0, by omega, rfl, rfl⟩ ?_
  rintro J hJ n τ ⟨k, hk, rfl, rfl⟩
  by_cases hlt : k < q.rs.length
  · have hw1 := wrapS (k := k) (by omega)
    have hwu : IntKind.u64.wrap (k : Int) = (k : Int) := by rw [IntKind.wrap_u64]; omega
    have hk0 : ¬ ((k : Int) < 0) := by omega
    have hround := hJ _ _ ⟨k + 1, hlt, rfl, rfl⟩
    have hmeas : q.rs.length - (k + 1) < q.rs.length - k := by omega
    have hn1 := selL_next (f := bitF b1) (k := k)
    have hn2 := selL_next (f := bitF (orB b1 b2)) (k := k)
    have hl1 : (selL (bitF b1) k).length ≤ 999999 := by have := selL_len (f := bitF b1) (k := k); omega
    have hl2 : (selL (bitF (orB b1 b2)) k).length ≤ 999999 := by have := selL_len (f := bitF (orB b1 b2)) (k := k); omega
    clear hJ
    unfold rlS at hround
    rw [hn1, hn2] at hround
    clear hn1 hn2
    have hT1 : decide ((b1.fdiv (2 ^ min k IntKind.u8.bits)).tmod 2 = 1) = bitF b1 k := rfl
    have hT2 : decide (((IntKind.u8.wrap (((b1 % 2 ^ IntKind.u8.bits).toNat ||| (b2 % 2 ^ IntKind.u8.bits).toNat : Nat) : Int)).fdiv (2 ^ min k IntKind.u8.bits)).tmod 2 = 1) = bitF (orB b1 b2) k := rfl
    simp only [rlS]
    generalize bitF b1 k = T1 at *
    generalize bitF (orB b1 b2) k = T2 at *
    generalize selL (bitF b1) k = A1 at *
    generalize selL (bitF (orB b1 b2)) k = A2 at *
    simp [-getElem?_pos, -List.getElem?_map, -decide_eq_true_eq, -decide_eq_false_iff_not, rlS, Qu.cells, hlt, nble, nblt, hwu, hk0, hT1]
    cases T1 <;> cases T2 <;> simp [-getElem?_pos, -List.getElem?_map, -decide_eq_true_eq, -decide_eq_false_iff_not, Qu.cells, hlt, nble, nblt, hwu, hk0, hT2, hw1, hl1, hl2]
    all_goals
      refine ⟨_, _, hmeas, Sub.mk ?_ ?_, hround⟩
      · simp
      · simp [Qu.cells, intP]
  · have he : k = q.rs.length := by omega
    subst he
    clear hJ
    obtain ⟨n, hn, hn2⟩ : ∃ n : Nat, b3.tmod 40 = (n : Int) ∧ n < 40 := ⟨(b3.tmod 40).toNat, by rw [Int.tmod_eq_emod_of_nonneg h3.1]; omega, by rw [Int.tmod_eq_emod_of_nonneg h3.1]; omega⟩
    have h3' : IntKind.i64.wrap b3 = b3 := wrap64 (by omega)
    have hR1 : q.rising (selL (bitF b1) q.rs.length) = true := selL_rising
    have hR2 : q.rising (selL (bitF (orB b1 b2)) q.rs.length) = true := selL_rising
    have hl1 : (selL (bitF b1) q.rs.length).length ≤ 1000 := by have := selL_len (f := bitF b1) (k := q.rs.length); omega
    have hl2 : (selL (bitF (orB b1 b2)) q.rs.length).length ≤ 1000 := by have := selL_len (f := bitF (orB b1 b2)) (k := q.rs.length); omega
    have hsub : ∀ x ∈ selL (bitF b1) q.rs.length, x ∈ selL (bitF (orB b1 b2)) q.rs.length := fun x hx => by
      obtain ⟨r, e, a, b⟩ := mem_selL.1 hx
      exact mem_selL.2 ⟨r, e, a, bitF_or h1 h2 (by omega) b⟩
    simp only [rlS]
    generalize selL (bitF b1) q.rs.length = A1 at *
    generalize selL (bitF (orB b1 b2)) q.rs.length = A2 at *
    have u1 := Runs.of_rising hR1
    have u2 := Runs.of_rising hR2
    have hqc := queue_c q (by omega) (by omega) (fun l h => by have := hs.s l h; omega) (fun l h => by have := hs.f l h; omega)
    have hc1 := list_c A1 (by omega)
    have hc2 := list_c A2 (by omega)
    have hm1 : manyB (n : Int) = true := by simp [manyB]; omega
    have hm2 : manyB ((n : Int) + 1) = true := by simp [manyB]; omega
    have ro1 := Room_c q hs A1 hl1 n
    have ro2 := Room_c q hs A2 hl2 n
    have ro3 := Room_c q hs A1 hl1 ((n : Int) + 1)
    have e1 : q.roomErr A1 n = 0 := by unfold Qu.roomErr; rw [if_neg (by simp [ht2.2]), if_pos ⟨hR1, hm1⟩]
    have e2 : q.roomErr A2 n = 0 := by unfold Qu.roomErr; rw [if_neg (by simp [ht2.2]), if_pos ⟨hR2, hm1⟩]
    have e3 : q.roomErr A1 ((n : Int) + 1) = 0 := by unfold Qu.roomErr; rw [if_neg (by simp [ht2.2]), if_pos ⟨hR1, hm2⟩]
    unfold Qu.roomP at ro1 ro2 ro3
    rw [e1, if_pos rfl] at ro1
    rw [e2, if_pos rfl] at ro2
    rw [e3, if_pos rfl] at ro3
    rw [show ((n : Int) + 1).toNat = n + 1 by omega] at ro3
    rw [Int.toNat_natCast] at ro1 ro2
    have f1 := roomM_mono hq u1 u2 hsub n
    have f2 : q.roomM A1 (n + 1) = q.roomM A1 n + q.atM n A1 := rfl
    have f3 := (Qu.atK_ok hq (h := n) u1.inn A1.length (Nat.le_refl _)).2
    have f4 := atM_ms hq (h := n) u1
    have f5 := Qu.roomM_bd hq u1.inn (n + 1)
    have f6 : A1.length * (n + 1) ≤ 1000 * 40 := Nat.mul_le_mul hl1 (by omega)
    have f7 : 0 < n ∨ q.roomM A1 n = 0 := by
      cases n with
      | zero => exact .inr rfl
      | succ n => left; omega
    have f8 : (q.atK n A1 A1.length).1 = q.atM n A1 := rfl
    rw [f8] at f3
    generalize q.roomM A1 n = A at *
    generalize q.roomM A2 n = B at *
    generalize q.atM n A1 = D at *
    generalize q.roomM A1 (n + 1) = C at *
    have ht1 : List.take A1.length (List.map intP A1) = List.map intP A1 := List.take_of_length_le (by simp)
    have ht2 : List.take A2.length (List.map intP A2) = List.map intP A2 := List.take_of_length_le (by simp)
    have hwn : IntKind.i64.wrap ((n : Int) + 1) = (n : Int) + 1 := wrap64 (by omega)
    simp [-getElem?_pos, -List.getElem?_map, Qu.cells, nblt, h3', hn]
    refine .inl (call_pv [] (fs := []) (xs := [q.pv]) (cs := []) rfl rfl hqc ?_)
    simp [-getElem?_pos, -List.getElem?_map, frzsL]
    refine .inl (call_pv [.loc 39 0] (fs := []) (xs := [intsP A1]) (cs := []) rfl ?_ hc1 ?_)
    · simp [frzsL, intsP, ht1, ht2]
    simp [-getElem?_pos, -List.getElem?_map, frzsL, ht1, ht2]
    refine .inl (call_pv [] (fs := []) (xs := [q.pv, intsP A1, .int .i64 n]) (cs := []) rfl rfl ro1 ?_)
    simp [-getElem?_pos, -List.getElem?_map, frzsL, ht1, ht2]
    refine .inl (call_pv [] (fs := []) (xs := [q.pv]) (cs := []) rfl rfl hqc ?_)
    simp [-getElem?_pos, -List.getElem?_map, frzsL, ht1, ht2]
    refine .inl (call_pv [.loc 51 0] (fs := []) (xs := [intsP A2]) (cs := []) rfl ?_ hc2 ?_)
    · simp [frzsL, intsP, ht1, ht2]
    simp [-getElem?_pos, -List.getElem?_map, frzsL, ht1, ht2]
    refine .inl (call_pv [] (fs := []) (xs := [q.pv, intsP A2, .int .i64 n]) (cs := []) rfl rfl ro2 ?_)
    simp [-getElem?_pos, -List.getElem?_map, frzsL, ht1, ht2]
    refine .inl (call_pv [] (fs := []) (xs := [q.pv]) (cs := []) rfl rfl hqc ?_)
    simp [-getElem?_pos, -List.getElem?_map, frzsL, ht1, ht2]
    refine .inl (call_pv [] (fs := []) (xs := [intsP A1]) (cs := []) rfl rfl hc1 ?_)
    simp [-getElem?_pos, -List.getElem?_map, frzsL, hwn]
    refine .inl (call_pv [] (fs := []) (xs := [q.pv, intsP A1, .int .i64 ((n : Int) + 1)]) (cs := []) rfl rfl ro3 ?_)
    have hAC : A ≤ C := by omega
    have hfin : (C : Int) ≤ IntKind.i64.wrap ((A : Int) + if q.ms.length < A1.length then (q.ms.length : Int) else (A1.length : Int)) := by
      rw [wrap64 (by split <;> omega)]
      split <;> omega
    have hlast : n = 0 ∧ A = 0 ∨ ¬ n = 0 ∧ 0 < n := by omega
    simp [-getElem?_pos, -List.getElem?_map, frzsL, ht1, ht2, f1, hAC, hfin]
    rcases hlast with ⟨l1, l2⟩ | ⟨l1, l2⟩
    all_goals
      simp [-getElem?_pos, -List.getElem?_map, frzsL, l1, l2]
      refine .inl (call_pv [] (fs := []) (xs := []) (cs := []) rfl rfl hw ?_)
      simp [-getElem?_pos, -List.getElem?_map, frzsL]
end Go.Proofs.Ytohhjnpiiackjaa

/-! The statement QueueRoom holds: for every input the law answers true, and its arguments read behind the call as before. No conditions. -/
namespace Go.Proofs.Ytohhjnpiiackjaa
open Go.ChangeShapes Go.WideShapes Go.ChangeAt Go.RowKit

set_option maxRecDepth 100000 in
theorem walkQueueRoom (v0 v1 v2 v3 : Value) (W : World) {H : Type} {enc : TypeId × Value → H} {base : Nat} {sp : Nat → Bool} {hd : Bool} {d0 d1 d2 d3 : DataW H} {p0 p1 p2 p3 : List MemPlace}
    (k0 : Value.okWide Try.prog W .any base 25 v0) (h0 : DataW.Trod enc Try.prog W 0 sp hd 25 v0 d0 p0)
    (k1 : Value.okWide Try.prog W .any base 5 v1) (h1 : DataW.Trod enc Try.prog W 0 sp hd 5 v1 d1 p1)
    (k2 : Value.okWide Try.prog W .any base 5 v2) (h2 : DataW.Trod enc Try.prog W 0 sp hd 5 v2 d2 p2)
    (k3 : Value.okWide Try.prog W .any base 5 v3) (h3 : DataW.Trod enc Try.prog W 0 sp hd 5 v3 d3 p3) :
    Calls Try.prog 15 #[v0, v1, v2, v3] W fun e w' => e = .returned (.bool true) ∧ Keep [] W w' := by
  obtain ⟨n0, h0⟩ := h0
  obtain ⟨s0, w0, r0⟩ := rq_queue k0 h0
  obtain ⟨s1, rfl, rfl, rfl, w1⟩ := open_int Try.underlying5 k1 h1
  obtain ⟨s2, rfl, rfl, rfl, w2⟩ := open_int Try.underlying5 k2 h2
  obtain ⟨s3, rfl, rfl, rfl, w3⟩ := open_int Try.underlying5 k3 h3
  refine calls_bool (xs := [s0.pv, .int .u8 s1, .int .u8 s2, .int .u8 s3]) (b := true) ((room_law s0 s1 s2 s3 (u8_bd w1) (u8_bd w2) (u8_bd w3)).mono (fun _ _ h => h.1)) rfl (fun j v x e1 e2 => ?_)
  match j with
  | 0 => simp at e1 e2; subst e1 e2; exact r0
  | 1 => simp at e1 e2; subst e1 e2; exact .int .u8 s1
  | 2 => simp at e1 e2; subst e1 e2; exact .int .u8 s2
  | 3 => simp at e1 e2; subst e1 e2; exact .int .u8 s3
  | j + 4 => simp at e1
set_option maxRecDepth 100000 in
theorem liftedQueueRoom (os : Os) (started : os.Started) (H : Type) (enc : TypeId × Value → H) :
    ReturnsInHanded {} Try.checked os 15 .any (Rows.queueRoomSpec.pre6 enc Try.prog Try.f15 Rows.queueRoomRow.domain false) (Rows.queueRoomSpec.post enc Try.prog Try.f15 false true false false) := by
  refine returnsInHanded_of_change (C := Try.checked) own started (by kernel_rfl) Try.func15
    (ChangeSpec.witness6 (enc := enc) (C := Try.checked) false ⟨#[], #[.agg #[.slice none 0 0, .slice none 0 0], .int .u8 0, .int .u8 0, .int .u8 0], []⟩ 8 (by kernel_rfl) (by kernel_rfl) (by kernel_rfl) (by kernel_rfl)) ?_
  intro W base args ds gs before hval0 hW hcnd _
  have hval : ∀ (j : Nat) t v, Try.f15.params[j]? = some t → args[j]? = some v → Value.okWide Try.prog W .any base t v := hval0
  have hW' := hW
  obtain ⟨p, q, hA0, hV, rfl, hfz, hnd⟩ := hW
  have hA : DataW.TrodAll enc Try.prog W 0 (fun _ => true) true Try.f15.params.toList args.toList ds p := hA0
  rw [Try.params15] at hA hval
  obtain ⟨v0, vs0, d0, ds0, p0, q0, hargs, rfl, rfl, h0, r0⟩ := trodAll_cons hA
  obtain ⟨v1, vs1, d1, ds1, p1, q1, rfl, rfl, rfl, h1, r1⟩ := trodAll_cons r0
  obtain ⟨v2, vs2, d2, ds2, p2, q2, rfl, rfl, rfl, h2, r2⟩ := trodAll_cons r1
  obtain ⟨v3, vs3, d3, ds3, p3, q3, rfl, rfl, rfl, h3, r3⟩ := trodAll_cons r2
  obtain ⟨rfl, rfl, rfl⟩ := trodAll_nil r3
  have hargs' : args = #[v0, v1, v2, v3] := by
    apply Array.ext'
    exact hargs
  subst hargs'
  have k0 := hval 0 _ v0 rfl rfl
  have k1 := hval 1 _ v1 rfl rfl
  have k2 := hval 2 _ v2 rfl rfl
  have k3 := hval 3 _ v3 rfl rfl
  obtain ⟨rfl, rfl⟩ := trodVars_none hV
  refine (walkQueueRoom v0 v1 v2 v3 W k0 h0 k1 h1 k2 h2 k3 h3).mono fun e W' ⟨he, hk⟩ => ?_
  subst he
  exact ⟨_, rfl, post_law (tb := 4) laidP rowedP fullP (by decide +kernel) rfl rfl rfl Try.underlying4 hW' hk⟩
theorem overQueueRoom : Rows.queueRoomRow.holds Try.pinned (OpenSpec.ofChange Rows.queueRoomSpec) :=
  OpenClaim.holds_of_wide 15 Try.f15 rfl rfl rfl rfl rfl rfl rfl ⟨rfl, rfl, rfl, rfl, rfl⟩ rfl rfl rfl rfl rfl (by kernel_rfl) Try.func15 (by kernel_rfl)
    (of_decide_eq_true (by kernel_rfl)) (by unfold Func.isWrapper; first | (rw [if_pos (by decide +kernel)]; kernel_rfl) | (rw [if_neg (by decide +kernel)]; exact ⟨rfl, rfl⟩))
    (fun os started H enc _ => liftedQueueRoom os started H enc)
theorem provedQueueRoom : Rows.QueueRoomSaid := overQueueRoom
end Go.Proofs.Ytohhjnpiiackjaa
