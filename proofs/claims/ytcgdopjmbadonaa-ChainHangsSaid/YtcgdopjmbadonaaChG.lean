/- Layer 2 (chain): the law ChainHolds. (Several texts in one.) -/
import Derived.Test.YtcgdopjmbadonaaChF
set_option linter.unusedVariables false
set_option linter.unusedSimpArgs false
/-! Layer 2 (chain): the law ChainHolds. -/
namespace Go.Proofs.Ytcgdopjmbadonaa
open Go.RowKit
set_option maxRecDepth 10000
set_option linter.unusedSimpArgs false
attribute [local irreducible] Bk.held Bk.nums Bk.heldU Bk.span
attribute [local simp] AS.exp expG Box.ren AV.map AV.mapL outsOk noRet Site.isRet Box.allS AV.allS AV.allSL retB dropL AS.adds renL outG outOk lentBx inG fnOf lookA List.findIdx?_cons
attribute [local simp] Box.purge Site.isLoc
theorem thin_of {b : Bk} (h : (decide (b.items.length ≤ 10) && decide (b.certs.length ≤ 28)) = true) : b.items.length ≤ 10 ∧ b.certs.length ≤ 28 := by
  simp only [Bool.and_eq_true, decide_eq_true_eq] at h; exact h
end Go.Proofs.Ytcgdopjmbadonaa
/-! Layer 2 (chain): the law ChainHangs. -/
namespace Go.Proofs.Ytcgdopjmbadonaa
open Go.RowKit
set_option maxRecDepth 10000
set_option linter.unusedSimpArgs false
/-- What hung, by the reference's words. -/
def hangP (b : Bk) (bad : List Int) (n : Int) : Bool := !(b.held bad).contains n && !bad.contains n
theorem hang_is {b : Bk} (hb : b.ok) {bad : List Int} : b.nums.filter (b.hungB bad) = (b.held []).filter (hangP b bad) := by
  rw [← held_filter hb (bad := []), List.filter_filter]
  refine List.filter_congr fun n _ => ?_
  unfold Bk.hungB hangP
  rw [Bool.and_comm]
attribute [local irreducible] Bk.held Bk.nums Bk.heldU Bk.span hangP
attribute [local simp] AS.exp expG Box.ren AV.map AV.mapL outsOk noRet Site.isRet Box.allS AV.allS AV.allSL retB dropL AS.adds renL outG outOk lentBx inG fnOf lookA List.findIdx?_cons
attribute [local simp] Box.purge Site.isLoc
def hgK (H N bad X : List Int) (p : Int → Bool) (k : Nat) : AS := ⟨[(1, .pv (.lst false 1 (bad.map intP))), (5, .pv (.lst false 1 (X.map intP))), (6, .pv (.int .i64 0)), (8, .vec (.loc 84 0) 1 0 ((H.take k).filter p).length), (9, .pv (.lst false 1 (H.map intP))), (10, .pv (.lst false 1 (N.map intP))), (11, .pv (.int .i64 k))], [(.loc 84 0, .arr 3 1 (((H.take k).filter p).map intP))]⟩
set_option maxHeartbeats 16000000 in
theorem hangs_law (b : Bk) (bad : List Int) : Gives Try.prog 3 [b.pv, .lst false 1 (bad.map intP)] (.bool true) := by
  have hw := wakes_c
  refine calls_of_awpS mixed L3_ok (Nat.le_of_ble_eq_true rfl) ?_
  simp [-getElem?_pos, L3, Bk.pv]
  refine call_gives (k := 0) (fs := []) (xs := [b.pv]) (cs := []) rfl rfl (thin_c b) rfl ?_
  cases e1 : (decide (b.items.length ≤ 10) && decide (b.certs.length ≤ 28))
  · simp [-getElem?_pos]
    refine call_gives (k := 0) (fs := []) (xs := []) (cs := []) rfl rfl hw rfl ?_
    simp [-getElem?_pos]
  obtain ⟨h1, h2⟩ := thin_of e1
  clear e1
  cases e2 : decide ((30 : Int) < (bad.length : Int))
  case true =>
    simp [-getElem?_pos, -decide_eq_true_eq, -decide_eq_false_iff_not, e2]
    refine call_gives (k := 0) (fs := []) (xs := []) (cs := []) rfl rfl hw rfl ?_
    simp [-getElem?_pos]
  have h3 : bad.length ≤ 30 := by simp at e2; omega
  have hbk := book_c b (by omega) (by omega)
  have hli := list_c bad (by omega)
  have hhu := Hung_c b (by omega) (by omega) bad (by omega)
  have hfa := fault_c b (by omega) (by omega)
  have hM : b.hungM bad = if b.fault = 0 then (if areB bad = true then (b.nums.filter (b.hungB bad), 0) else ([], 2)) else ([], b.fault) := rfl
  have hok : b.fault = 0 → b.ok := Bk.ok_iff.1
  have har := arebad_c bad (by omega)
  generalize b.fault = F at *
  simp [-getElem?_pos, -decide_eq_true_eq, -decide_eq_false_iff_not, e2]
  refine .inl (call_pv [] (fs := []) (xs := [b.pv]) (cs := []) rfl rfl hbk ?_)
  simp [-getElem?_pos, frzsL]
  refine .inl (call_pv [] (fs := []) (xs := [.lst false 1 (bad.map intP)]) (cs := []) rfl rfl hli ?_)
  simp [-getElem?_pos, frzsL]
  refine .inl (call_pv [] (fs := []) (xs := [b.pv, .lst false 1 (bad.map intP)]) (cs := []) rfl rfl hhu ?_)
  simp [-getElem?_pos, frzsL, lstE]
  refine call_gives (k := 0) (fs := []) (xs := [b.pv]) (cs := []) rfl rfl hfa rfl ?_
  cases e3 : decide (F = 0)
  · have e3' : ¬ F = 0 := of_decide_eq_false e3
    rw [if_neg e3'] at hM
    rw [hM]
    simp [-getElem?_pos, -decide_eq_true_eq, -decide_eq_false_iff_not, e3]
    refine call_gives (k := 0) (fs := []) (xs := []) (cs := []) rfl rfl hw rfl ?_
    simp [-getElem?_pos]
  have e3' : F = 0 := of_decide_eq_true e3
  subst e3'
  have hb := hok rfl
  simp [-getElem?_pos]
  refine call_gives (k := 0) (fs := []) (xs := [.lst false 1 (bad.map intP)]) (cs := []) rfl rfl har rfl ?_
  cases e4 : areB bad
  · rw [if_pos rfl, if_neg (by simp [e4])] at hM
    rw [hM]
    simp [-getElem?_pos]
    refine call_gives (k := 0) (fs := []) (xs := []) (cs := []) rfl rfl hw rfl ?_
    simp [-getElem?_pos]
  rw [if_pos rfl, if_pos e4, hang_is hb] at hM
  rw [hM]
  have hr1 := rheld0_c b hb
  have hr2 := rheld_c b hb bad (by omega)
  have hl1 := held_len (b := b) (bad := [])
  have hl2 := held_len (b := b) (bad := bad)
  have hfl : ((b.held []).filter (hangP b bad)).length ≤ 1000 := Nat.le_trans (List.length_filter_le _ _) hl1
  have hin := ints_c ((b.held []).filter (hangP b bad)) ((b.held []).filter (hangP b bad)) (by omega)
  rw [decide_eq_true rfl] at hin
  have hh1 := fun n => has_c (b.held bad) n (by omega)
  have hh2 := fun n => has_c bad n (by omega)
  obtain ⟨p, hp⟩ : ∃ p, hangP b bad = p := ⟨_, rfl⟩
  have hpn : ∀ n, p n = (!(b.held bad).contains n && !bad.contains n) := fun n => by rw [← hp]; unfold hangP; rfl
  rw [hp] at hin hfl ⊢
  generalize b.held [] = H at *
  generalize b.held bad = N at *
  obtain ⟨X, hX⟩ : ∃ X, H.filter p = X := ⟨_, rfl⟩
  rw [hX] at hin hfl ⊢
  clear hM hp
  simp [-getElem?_pos]
  refine call_pv [] (fs := []) (xs := [b.pv, .emp (some true)]) (cs := []) rfl rfl hr1 ?_
  simp [-getElem?_pos, frzsL]
  refine .inl (call_pv [] (fs := []) (xs := [b.pv, .lst false 1 (bad.map intP)]) (cs := []) rfl rfl hr2 ?_)
  simp [-getElem?_pos, frzsL]
  refine awp_loopS (fun m τ => ∃ k : Nat, k ≤ H.length ∧ m = H.length - k ∧ τ = hgK H N bad X p k) ⟨H.length, hgK H N bad X p 0, Sub.trans' (Sub.mk (by simp [hgK, AS.vecT]) (by simp [hgK, AS.vecT])) (vecT 84 3 1 8 rfl (by decide)), 0, by omega, rfl, rfl⟩ ?_
  rintro J hJ m τ ⟨k, hk, rfl, rfl⟩
  have hpl : ((H.take k).filter p).length ≤ 1000 := Nat.le_trans (List.length_filter_le _ _) (by rw [List.length_take]; omega)
  by_cases hlt : k < H.length
  · obtain ⟨n, hn⟩ : ∃ n, H[k]? = some n := ⟨_, List.getElem?_eq_getElem hlt⟩
    have hgn : (H.map intP)[k]? = some (.int .i64 n) := by rw [List.getElem?_map, hn]; rfl
    have hwk := wrapK (k := k) (by omega)
    have hround := hJ _ _ ⟨k + 1, hlt, rfl, rfl⟩
    have hmeas : H.length - (k + 1) < H.length - k := by omega
    have hnext : (H.take (k + 1)).filter p = (H.take k).filter p ++ (if p n = true then [n] else []) := by
      rw [List.take_add_one, hn, List.filter_append]
      congr 1
      simp only [Option.toList, List.filter_cons, List.filter_nil]
    have hpn := hpn n
    have hh1 := hh1 n
    have hh2 := hh2 n
    unfold hgK at hround ⊢
    rw [hnext] at hround
    clear hJ hnext hX
    generalize (H.take k).filter p = Y at *
    have hY : (Y.map intP).take Y.length = Y.map intP := List.take_of_length_le (by simp)
    have hY6 : Y.length ≤ 999999 := by omega
    simp [-getElem?_pos, -List.getElem?_map, hlt, hgn]
    refine call_gives (k := 0) (fs := []) (xs := [.lst false 1 (N.map intP), .int .i64 n]) (cs := []) rfl rfl hh1 rfl ?_
    cases c1 : N.contains n
    case true =>
      rw [hpn, c1, if_neg (by simp), List.append_nil] at hround
      simp [-getElem?_pos, -List.getElem?_map, hlt, hgn, hwk]
      exact ⟨_, _, hmeas, Sub.mk (by simp) (by simp), hround⟩
    case false =>
    simp [-getElem?_pos, -List.getElem?_map, hlt, hgn, hwk]
    refine call_gives (k := 0) (fs := []) (xs := [.lst false 1 (bad.map intP), .int .i64 n]) (cs := []) rfl rfl hh2 rfl ?_
    cases c2 : bad.contains n
    case true =>
      rw [hpn, c1, c2, if_neg (by simp), List.append_nil] at hround
      simp [-getElem?_pos, -List.getElem?_map, hlt, hgn, hwk]
      exact ⟨_, _, hmeas, Sub.mk (by simp) (by simp), hround⟩
    case false =>
    rw [hpn, c1, c2, if_pos (by rfl)] at hround
    simp [-getElem?_pos, -List.getElem?_map, hlt, hgn, hwk, nble, nblt, hY, hY6]
    exact ⟨_, _, hmeas, Sub.mk (by simp) (by simp [intP]), hround⟩
  have he : k = H.length := by omega
  subst he
  clear hJ
  unfold hgK
  rw [List.take_length, hX]
  have hXt : (X.map intP).take X.length = X.map intP := List.take_of_length_le (by simp)
  simp [-getElem?_pos, -List.getElem?_map]
  refine call_gives (k := 0) (fs := []) (xs := [.lst false 1 (X.map intP), .lst false 1 (X.map intP)]) (cs := []) rfl (by simp [snapW, AV.snap, AV.snap0, hXt]) hin rfl ?_
  simp [-getElem?_pos]
  refine call_gives (k := 0) (fs := []) (xs := []) (cs := []) rfl rfl hw rfl ?_
  simp [-getElem?_pos]
end Go.Proofs.Ytcgdopjmbadonaa
