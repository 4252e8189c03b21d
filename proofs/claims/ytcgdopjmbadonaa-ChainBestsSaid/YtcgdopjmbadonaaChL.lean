/- Contracts of layer 2 (chain): ProveChain. (Several texts in one.) -/
import Derived.Test.YtcgdopjmbadonaaChI
set_option linter.unusedVariables false
set_option linter.unusedSimpArgs false
/-! Contracts of layer 2 (chain): ProveChain. -/
namespace Go.Proofs.Ytcgdopjmbadonaa
open Go.RowKit
set_option maxRecDepth 10000
set_option linter.unusedSimpArgs false
/-- Is a number in its place in a chain? -/
def Bk.linkB (b : Bk) (l : List Int) (i : Nat) : Bool := match l[i]? with
  | some n => (b.held []).contains n && (if i = 0 then (b.item (b.get n).src).std else restsB (b.get n) (b.get ((l[i - 1]?).getD 0)))
  | none => true
def Bk.lastB (b : Bk) (l : List Int) (item day : Int) : Bool := decide ((b.get ((l[l.length - 1]?).getD 0)).it = item) && (b.get ((l[l.length - 1]?).getD 0)).on day
def Bk.chainB (b : Bk) (item day : Int) (l : List Int) : Bool := if (b.item item).std = true then decide (l.length = 0) else decide (0 < l.length) && (List.range l.length).all (b.linkB l) && b.lastB l item day
def Bk.proveM (b : Bk) (item day : Int) (l : List Int) : Bool := decide (b.askM item day = 0) && b.chainB item day l
attribute [local irreducible] Bk.held Bk.nums Bk.span
attribute [local simp] AS.exp expG Box.ren AV.map AV.mapL outsOk noRet Site.isRet Box.allS AV.allS AV.allSL retB dropL AS.adds renL outG outOk lentBx inG fnOf lookA List.findIdx?_cons
attribute [local simp] Box.purge Site.isLoc
attribute [local simp] badZ_has badZ_all badZ_purge badZ_map badZ_frz
def pvK (b : Bk) (item day : Int) (l : List Int) (es hs : List (PV × PV)) (is : Bool) (k : Nat) : AS := ⟨[(1, .pv (.int .i64 item)), (2, .pv (.int .i64 day)), (3, .pv (.lst false 1 (l.map intP))), (9, .ptr (.loc 22 0) 0), (10, .mp (.loc 22 2)), (12, .pv (.bool is)), (43, .pv (.lst false 1 (l.map intP))), (44, .pv (.int .i64 l.length)), (45, .pv (.int .i64 k))],
  [(.loc 22 0, .cells (wkC b (.loc 22 1) (badZ []))), (.loc 22 1, .map es), (.loc 22 2, .map hs)]⟩
set_option maxHeartbeats 32000000 in
theorem prove_c (b : Bk) (hi : b.items.length ≤ 1000) (hc : b.certs.length ≤ 1000) (item day : Int) (l : List Int) (hll : l.length ≤ 1000) : Gives Try.prog 46 [b.pv, .int .i64 item, .int .i64 day, .lst false 1 (l.map intP)] (.bool (b.proveM item day l)) := by
  have hask := asked_c b hi hc item day
  obtain ⟨T, hT⟩ : ∃ T, T = b.proveM item day l := ⟨_, rfl⟩
  rw [← hT]
  unfold Bk.proveM at hT
  refine calls_of_awpS mixed L46_ok (Nat.le_of_ble_eq_true rfl) ?_
  simp [-getElem?_pos, L46, Bk.pv]
  refine call_lent (as' := [.pv b.pv, .pv (.int .i64 item), .pv (.int .i64 day)]) (B := []) (fs := []) (cs := []) 22 [] ?_ rfl rfl rfl ?_ ?_ hask ?_
  · rfl
  · rfl
  · rfl
  rintro r0 B0 (⟨h0, rfl, rfl⟩ | ⟨h0, hf0, hit, hdy, hih, es, hes, rfl, rfl⟩)
  · refine ⟨rfl, by simp, ?_⟩
    have hd : decide (b.askM item day = 0) = false := by simpa using h0
    rw [hd, Bool.false_and] at hT
    subst hT
    simp [-getElem?_pos, -decide_eq_true_eq, -decide_eq_false_iff_not, hd]
  have hb : b.ok := Bk.ok_iff.1 hf0
  have hH := hEnt_full hb []
  rw [decide_eq_true h0, Bool.true_and] at hT
  unfold Bk.chainB at hT
  obtain ⟨si, rfl, hsi, z, hz, hbz, hgz⟩ := item_at (b := b) (i := item) (by unfold Bk.hasItem inB at hit; simp only [Bool.and_eq_true, decide_eq_true_eq] at hit; omega) (by unfold Bk.hasItem inB at hit; simp only [Bool.and_eq_true, decide_eq_true_eq] at hit; omega)
  rw [hbz] at hT
  refine ⟨rfl, by simp [wkC], ?_⟩
  generalize hEnt b [] b.nums.length = hs at *
  cases hstd : z.std
  case true =>
    rw [hstd] at hgz hT
    rw [if_pos rfl] at hT
    subst hT
    simp [-getElem?_pos, -List.getElem?_map, wkC, itsP, hgz, hsi]
  case false =>
  rw [hstd] at hgz hT
  rw [if_neg (by simp)] at hT
  have hno : ∀ i, i < l.length → b.linkB l i = false → T = false := fun i h1 h2 => by
    have : (List.range l.length).all (b.linkB l) = false := by
      rw [List.all_eq_false]
      exact ⟨i, List.mem_range.2 h1, by simp [h2]⟩
    rw [hT, this]; simp
  simp [-getElem?_pos, -List.getElem?_map, wkC, itsP, hgz, hsi]
  refine awp_loopS (fun m τ => ∃ k : Nat, k ≤ l.length ∧ m = l.length - k ∧ (∀ (i : Nat) (x : Int), i < k → l[i]? = some x → (b.held []).contains x = true) ∧ τ = pvK b si day l es hs (decide (0 < l.length) && (List.range k).all (b.linkB l)) k) ⟨l.length, pvK b si day l es hs (decide (0 < l.length) && (List.range 0).all (b.linkB l)) 0, Sub.mk (by simp [pvK]) (by simp [pvK, wkC, itsP]), 0, by omega, rfl, (fun i x hi => by omega), rfl⟩ ?_
  rintro J hJ m τ ⟨k, hk, rfl, hinv, rfl⟩
  have hheld : ∀ x : Int, (b.held []).contains x = true → x ∈ b.nums := fun x h => heldIn hb (List.contains_iff_mem.1 h)
  by_cases hlt : k < l.length
  · obtain ⟨n, hn⟩ : ∃ n, l[k]? = some n := ⟨_, List.getElem?_eq_getElem hlt⟩
    have hgn : (l.map intP)[k]? = some (.int .i64 n) := by rw [List.getElem?_map, hn]; rfl
    have hwk := wrapK (k := k) (by omega)
    have hmeas : l.length - (k + 1) < l.length - k := by omega
    have hlti : decide ((k : Int) < (l.length : Int)) = true := decide_eq_true (by omega)
    have hL : b.linkB l k = ((b.held []).contains n && (if k = 0 then (b.item (b.get n).src).std else restsB (b.get n) (b.get ((l[k - 1]?).getD 0)))) := by unfold Bk.linkB; rw [hn]
    have hall : (List.range (k + 1)).all (b.linkB l) = ((List.range k).all (b.linkB l) && b.linkB l k) := by rw [List.range_succ, List.all_append]; simp
    have hfx := hes.f n
    have hko := hes.k
    have hfh := hH.f n
    have hkh := hH.k
    have hround := fun h : (b.held []).contains n = true => hJ _ _ ⟨k + 1, hlt, rfl, (fun i x hi hx => by
      rcases Nat.lt_succ_iff_lt_or_eq.1 hi with h' | h'
      · exact hinv i x h' hx
      · subst h'; rw [hn] at hx; cases hx; exact h), rfl⟩
    rw [hall] at hround
    clear hJ hall
    cases hc1 : (b.held []).contains n
    · have hTf := hno k hlt (by rw [hL, hc1]; rfl)
      subst hTf
      rw [hc1] at hfh
      by_cases hm : n ∈ b.nums
      · rw [if_pos hm] at hfx
        unfold Ct.pv at hfx
        simp [-getElem?_pos, -List.getElem?_map, -decide_eq_true_eq, -decide_eq_false_iff_not, pvK, wkC, hlt, hlti, hgn, hko, hfx, hkh, hfh]
      · rw [if_neg hm] at hfx
        simp [-getElem?_pos, -List.getElem?_map, -decide_eq_true_eq, -decide_eq_false_iff_not, pvK, wkC, hlt, hlti, hgn, hko, hfx, hkh, hfh]
    have hround := hround hc1
    have hm := hheld n hc1
    rw [if_pos hm] at hfx
    rw [hc1] at hfh
    obtain ⟨g1, g2⟩ := get_num hb hm
    have hbd := cert_bds hb g1
    obtain ⟨sj, hsj, hsjl, u, hu, hbu, hgu⟩ := item_at hbd.2.2.2.2.2.1 hbd.2.2.2.2.2.2.1
    rw [hc1, Bool.true_and] at hL
    by_cases hk0 : k = 0
    · rw [if_pos hk0, hbu] at hL
      cases hus : u.std
      · have hTf := hno k hlt (by rw [hL, hus])
        subst hTf
        rw [hus] at hgu
        subst hk0
        generalize b.get n = c at *
        unfold Ct.pv at hfx
        simp [-getElem?_pos, -List.getElem?_map, -decide_eq_true_eq, -decide_eq_false_iff_not, pvK, wkC, hlt, hlti, hgn, hko, hfx, hkh, hfh, hsj, itsP, hgu, hsjl]
      · rw [hL, hus] at hround
        rw [hus] at hgu
        subst hk0
        generalize b.get n = c at *
        unfold Ct.pv at hfx
        simp [-getElem?_pos, -List.getElem?_map, -decide_eq_true_eq, -decide_eq_false_iff_not, pvK, wkC, hlt, hlti, hgn, hko, hfx, hkh, hfh, hsj, itsP, hgu, hsjl, hwk]
        refine ⟨_, _, hmeas, Sub.mk ?_ ?_, hround⟩
        · simp [pvK, hlt, (show IntKind.i64.wrap 1 = 1 from rfl)]
        · simp [pvK, wkC, itsP]
    · rw [if_neg hk0] at hL
      obtain ⟨j, rfl⟩ : ∃ j, k = j + 1 := ⟨k - 1, by omega⟩
      obtain ⟨x, hx⟩ : ∃ x, l[j]? = some x := ⟨_, List.getElem?_eq_getElem (by omega)⟩
      have hgx : (l.map intP)[j]? = some (.int .i64 x) := by rw [List.getElem?_map, hx]; rfl
      have hxh := hinv j x (by omega) hx
      have hmx := hheld x hxh
      have hfx2 := hes.f x
      rw [if_pos hmx] at hfx2
      obtain ⟨q1, q2⟩ := get_num hb hmx
      have hon := con_c (b.get x) (b.get n).day (wrap_valid hb q1)
      rw [Nat.add_sub_cancel, hx, Option.getD_some] at hL
      unfold restsB at hL
      rw [g2] at hL
      have hw1 : IntKind.i64.wrap (((j + 1 : Nat) : Int) - 1) = (j : Int) := by rw [wrap64 (by omega)]; omega
      have hk1 : decide (((j + 1 : Nat) : Int) = 0) = false := decide_eq_false (by omega)
      have hk2 : decide ((0 : Int) < ((j + 1 : Nat) : Int)) = true := decide_eq_true (by omega)
      have hjl : j < l.length := by omega
      rw [hL] at hround
      clear hno hinv hT
      generalize hA : (decide (0 < l.length) && (List.range (j + 1)).all (b.linkB l)) = A at *
      rw [← Bool.and_assoc, hA] at hround
      generalize b.get n = c at *
      generalize b.get x = o at *
      unfold Ct.pv at hfx hfx2
      cases A
      · simp [-getElem?_pos, -List.getElem?_map, -decide_eq_true_eq, -decide_eq_false_iff_not, -Int.natCast_add, pvK, wkC, hlt, hlti, hgn, hko, hfx, hkh, hfh, hk1, hk2, hw1, hgx, hfx2, hjl, hwk]
        refine ⟨_, _, hmeas, Sub.mk (by simp [pvK]) (by simp [pvK, wkC]), hround⟩
      rw [Bool.true_and] at hround
      cases a1 : decide (o.it = c.src)
      · rw [a1, Bool.false_and, Bool.false_and] at hround
        simp [-getElem?_pos, -List.getElem?_map, -decide_eq_true_eq, -decide_eq_false_iff_not, -Int.natCast_add, pvK, wkC, hlt, hlti, hgn, hko, hfx, hkh, hfh, hk1, hk2, hw1, hgx, hfx2, hjl, hwk, a1]
        refine ⟨_, _, hmeas, Sub.mk (by simp [pvK]) (by simp [pvK, wkC]), hround⟩
      cases a2 : decide (o.num < n)
      · rw [a1, a2, Bool.true_and, Bool.false_and] at hround
        simp [-getElem?_pos, -List.getElem?_map, -decide_eq_true_eq, -decide_eq_false_iff_not, -Int.natCast_add, pvK, wkC, hlt, hlti, hgn, hko, hfx, hkh, hfh, hk1, hk2, hw1, hgx, hfx2, hjl, hwk, a1, a2]
        refine ⟨_, _, hmeas, Sub.mk (by simp [pvK]) (by simp [pvK, wkC]), hround⟩
      rw [a1, a2, Bool.true_and, Bool.true_and] at hround
      simp [-getElem?_pos, -List.getElem?_map, -decide_eq_true_eq, -decide_eq_false_iff_not, -Int.natCast_add, pvK, wkC, hlt, hlti, hgn, hko, hfx, hkh, hfh, hk1, hk2, hw1, hgx, hfx2, hjl, hwk, a1, a2]
      refine call_gives (k := 0) (fs := []) (xs := [o.pv, .int .i64 c.day]) (cs := []) rfl rfl hon rfl ?_
      simp [-getElem?_pos, -List.getElem?_map, -decide_eq_true_eq, -decide_eq_false_iff_not, -Int.natCast_add, hwk]
      refine ⟨_, _, hmeas, Sub.mk (by simp [pvK]) (by simp [pvK, wkC]), hround⟩
  have he : k = l.length := by omega
  subst he
  clear hJ
  have hlt0 : decide ((l.length : Int) < (l.length : Int)) = false := decide_eq_false (by omega)
  generalize hA : (decide (0 < l.length) && (List.range l.length).all (b.linkB l)) = A at *
  cases A
  · rw [Bool.false_and] at hT
    subst hT
    simp [-getElem?_pos, -List.getElem?_map, -decide_eq_true_eq, -decide_eq_false_iff_not, -Int.natCast_add, pvK, hlt0]
  rw [Bool.true_and] at hT
  rw [Bool.and_eq_true, decide_eq_true_eq] at hA
  obtain ⟨j, hj⟩ : ∃ j, l.length = j + 1 := ⟨l.length - 1, by omega⟩
  obtain ⟨x, hx⟩ : ∃ x, l[j]? = some x := ⟨_, List.getElem?_eq_getElem (by omega)⟩
  have hgx : (l.map intP)[j]? = some (.int .i64 x) := by rw [List.getElem?_map, hx]; rfl
  have hmx := hheld x (hinv j x (by omega) hx)
  have hfx := hes.f x
  rw [if_pos hmx] at hfx
  have hko := hes.k
  obtain ⟨q1, q2⟩ := get_num hb hmx
  have hon := con_c (b.get x) day (wrap_valid hb q1)
  unfold Bk.lastB at hT
  rw [show l.length - 1 = j by omega, hx, Option.getD_some] at hT
  have hw1 : IntKind.i64.wrap ((l.length : Int) - 1) = (j : Int) := by rw [wrap64 (by omega)]; omega
  have hjl : j < l.length := by omega
  generalize b.get x = c at *
  unfold Ct.pv at hfx
  cases a1 : decide (c.it = (si : Int))
  · rw [a1, Bool.false_and] at hT
    subst hT
    simp [-getElem?_pos, -List.getElem?_map, -decide_eq_true_eq, -decide_eq_false_iff_not, -Int.natCast_add, pvK, wkC, hlt0, hko, hfx, hw1, hgx, hjl, a1]
  rw [a1, Bool.true_and] at hT
  subst hT
  simp [-getElem?_pos, -List.getElem?_map, -decide_eq_true_eq, -decide_eq_false_iff_not, -Int.natCast_add, pvK, wkC, hlt0, hko, hfx, hw1, hgx, hjl, a1]
  refine call_gives (k := 0) (fs := []) (xs := [c.pv, .int .i64 day]) (cs := []) rfl rfl hon rfl ?_
  simp [-getElem?_pos, -List.getElem?_map, -decide_eq_true_eq, -decide_eq_false_iff_not, -Int.natCast_add, hlt0]
end Go.Proofs.Ytcgdopjmbadonaa
