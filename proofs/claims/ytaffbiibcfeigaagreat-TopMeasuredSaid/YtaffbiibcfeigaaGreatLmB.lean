/- Contracts of layer 1 (curve), its law and reference: truths; Read; the loads of truths. (Several texts in one.) -/
import Derived.Test.YtaffbiibcfeigaaGreatLmA
import Derived.Test.YtaffbiibcfeigaaGreatBaseD
set_option linter.unusedVariables false
set_option linter.unusedSimpArgs false
/-! Contracts of layer 1 (curve), its law and reference: truths; Read; the loads of truths. -/
namespace Go.Proofs.YtaffbiibcfeigaaGreat
open Go.RowKit
attribute [local simp] Box.purge Site.isLoc
set_option maxRecDepth 10000
set_option linter.unusedSimpArgs false
theorem truN {ps : List Pt} {l : List Int} (h : l.length ≠ ps.length) : cvTru ps l = false := by unfold cvTru; rw [decide_eq_false h]; rfl
theorem truF {ps : List Pt} {l : List Int} {k : Nat} (hk : k < ps.length) (h : inR (l.getD k 0) (ptD ps k).lo (ptD ps k).hi = false) : cvTru ps l = false := by
  cases e : cvTru ps l
  · rfl
  · have := tru_at e hk
    unfold inR at h
    simp at h
    rw [List.getD_eq_getElem?_getD] at this
    have := h this.1
    omega
theorem truKR {ps : List Pt} {l : List Int} (h : l.length = ps.length) (h2 : ∀ k, k < ps.length → inR (l.getD k 0) (ptD ps k).lo (ptD ps k).hi = true) : cvTru ps l = true := tru_of h fun k hk => by
  have := h2 k hk
  unfold inR at this
  simpa using this
theorem intR_at {l : List Int} {k : Nat} (h : k < l.length) : (l.map intR)[k]? = some (.int .i64 (l.getD k 0)) := by rw [List.getElem?_map, List.getD_eq_getElem?_getD, List.getElem?_eq_getElem h]; rfl
def ctH (t2 : Site) (ps : List Pt) (r : Rl) (l : List Int) (k : Nat) : AS := ⟨[(1, .pv (intsR l)), (2, .ptr t2 0), (15, .pv (intsR l)), (16, .pv (.int .i64 ps.length)), (17, .pv (.int .i64 k))], [(t2, .cells (rdgC ps r))]⟩
theorem truth_c (ps : List Pt) (r : Rl) (l : List Int) (h1 : ps.length ≤ 1000) (h2 : l.length ≤ 1000) : Gives Tryz.prog 74 [rdgP ps r, intsR l] (.bool (cvTru ps l)) := by
  refine calls_of_awpS mixed L74_ok (Nat.le_of_ble_eq_true rfl) ?_
  generalize hR : (fun (x : AV) (B : List (Site × Box)) => x = .pv (.bool (cvTru ps l)) ∧ B = []) = R
  by_cases h3 : l.length = ps.length
  case neg =>
    have hd : decide ((l.length : Int) = (ps.length : Int)) = false := decide_eq_false (by omega)
    simp [-getElem?_pos, L74, rdgP, intsR, ptsP, hd]
    rw [← hR, truN h3]
    exact ⟨rfl, rfl⟩
  simp [-getElem?_pos, L74, rdgP, intsR, ptsP, h3]
  refine awp_loopS (fun n τ => ∃ k : Nat, k ≤ ps.length ∧ n = ps.length - k ∧ (∀ j, j < k → inR (l.getD j 0) (ptD ps j).lo (ptD ps j).hi = true) ∧ τ = ctH (.loc 2 0) ps r l k) ⟨ps.length, ctH (.loc 2 0) ps r l 0, Sub.mk (by simp [ctH, intsR]) (by simp [ctH, rdgC, ptsP]), 0, Nat.zero_le _, rfl, (fun j hj => by omega), rfl⟩ ?_
  rintro J hJ n τ ⟨k, hk, rfl, hinv, rfl⟩
  by_cases hlt : k < ps.length
  · have hw := wrapR (k := k) (by omega)
    have hg := intR_at (l := l) (k := k) (by omega)
    have hp := ptv_at hlt
    have hin := cwithin_c (l.getD k 0) (ptD ps k).lo (ptD ps k).hi
    have hmeas : ps.length - (k + 1) < ps.length - k := by omega
    have hround : inR (l.getD k 0) (ptD ps k).lo (ptD ps k).hi = true → _ := fun h => hJ _ _ ⟨k + 1, hlt, rfl, (fun j hj => by
      rcases Nat.lt_or_ge j k with h5 | h5
      · exact hinv j h5
      · obtain rfl : j = k := by omega
        exact h), rfl⟩
    have hfal := truF (l := l) hlt
    generalize l.getD k 0 = n at *
    simp [-getElem?_pos, -List.getElem?_map, ctH, intsR, rdgC, ptsP, hlt, hg, hp, nblt]
    refine call_gives (k := 0) (fs := []) (xs := [.int .i64 n, .int .i64 (ptD ps k).lo, .int .i64 (ptD ps k).hi]) (cs := []) rfl rfl hin rfl ?_
    cases h5 : inR n (ptD ps k).lo (ptD ps k).hi
    · simp [-getElem?_pos, -List.getElem?_map]
      rw [← hR, hfal h5]
      exact ⟨rfl, rfl⟩
    · simp [-getElem?_pos, -List.getElem?_map, hw]
      exact ⟨_, _, hmeas, Sub.mk (by simp [ctH, intsR]) (by simp [ctH, rdgC, ptsP]), hround h5⟩
  · have he : k = ps.length := by omega
    subst he
    simp [-getElem?_pos, -List.getElem?_map, ctH]
    rw [← hR, truKR h3 hinv]
    exact ⟨rfl, rfl⟩
def itH (ps : List Pt) (l : List Int) (k : Nat) : AS := ⟨[(1, .pv (intsR l)), (2, .ptr (.loc 2 0) 0), (5, .pv (.int .i64 k))], [(.loc 2 0, .cells [.pv (ptsP ps)])]⟩
theorem istruth1_c (ps : List Pt) (l : List Int) (h1 : ps.length ≤ 1000) (h2 : l.length ≤ 1000) : Gives Tryz.prog 32 [cvP ps, intsR l] (.bool (cvTru ps l)) := by
  refine calls_of_awpS mixed L32_ok (Nat.le_of_ble_eq_true rfl) ?_
  generalize hR : (fun (x : AV) (B : List (Site × Box)) => x = .pv (.bool (cvTru ps l)) ∧ B = []) = R
  by_cases h3 : l.length = ps.length
  case neg =>
    have hd : decide ((l.length : Int) = (ps.length : Int)) = false := decide_eq_false (by omega)
    simp [-getElem?_pos, L32, cvP, intsR, ptsP, hd]
    rw [← hR, truN h3]
    exact ⟨rfl, rfl⟩
  simp [-getElem?_pos, L32, cvP, intsR, ptsP, h3]
  refine awp_loopS (fun n τ => ∃ k : Nat, k ≤ ps.length ∧ n = ps.length - k ∧ (∀ j, j < k → inR (l.getD j 0) (ptD ps j).lo (ptD ps j).hi = true) ∧ τ = itH ps l k) ⟨ps.length, itH ps l 0, Sub.mk (by simp [itH, intsR]) (by simp [itH, ptsP]), 0, Nat.zero_le _, rfl, (fun j hj => by omega), rfl⟩ ?_
  rintro J hJ n τ ⟨k, hk, rfl, hinv, rfl⟩
  by_cases hlt : k < ps.length
  · have hw := wrapR (k := k) (by omega)
    have hg := intR_at (l := l) (k := k) (by omega)
    have hp := ptv_at hlt
    have hin := cin_c (l.getD k 0) (ptD ps k).lo (ptD ps k).hi
    have hmeas : ps.length - (k + 1) < ps.length - k := by omega
    have hround : inR (l.getD k 0) (ptD ps k).lo (ptD ps k).hi = true → _ := fun h => hJ _ _ ⟨k + 1, hlt, rfl, (fun j hj => by
      rcases Nat.lt_or_ge j k with h5 | h5
      · exact hinv j h5
      · obtain rfl : j = k := by omega
        exact h), rfl⟩
    have hfal := truF (l := l) hlt
    generalize l.getD k 0 = n at *
    simp [-getElem?_pos, -List.getElem?_map, itH, intsR, ptsP, hlt, hg, hp, nblt, h3]
    refine call_gives (k := 0) (fs := []) (xs := [.int .i64 n, .int .i64 (ptD ps k).lo, .int .i64 (ptD ps k).hi]) (cs := []) rfl rfl hin rfl ?_
    cases h5 : inR n (ptD ps k).lo (ptD ps k).hi
    · simp [-getElem?_pos, -List.getElem?_map]
      rw [← hR, hfal h5]
      exact ⟨rfl, rfl⟩
    · simp [-getElem?_pos, -List.getElem?_map, hw]
      exact ⟨_, _, hmeas, Sub.mk (by simp [itH, intsR]) (by simp [itH, ptsP]), hround h5⟩
  · have he : k = ps.length := by omega
    subst he
    simp [-getElem?_pos, -List.getElem?_map, itH, intsR, h3]
    rw [← hR, truKR h3 hinv]
    exact ⟨rfl, rfl⟩
theorem cread1_c (ps : List Pt) (r : Rl) (l : List Int) (hp : cvOk ps = true) (hr : r.ok = true) (ht : cvTru ps l = true) : Gives Tryz.prog 33 [cvP ps, r.pv, intsR l] (.tup [resP r ps l, .int .i64 0]) := by
  have hl := cv_len hp
  have hll := tru_len ht
  have he : cvErr ps = 0 := by unfold cvErr; rw [if_neg (by omega), if_pos hp]
  have c1 := cread_c ps r (by omega) he hr
  have c2 := truth_c ps r l (by omega) (by omega)
  rw [ht] at c2
  have c3 := result_c ps r l hp hr (tru_loads hp ht)
  have hd : ∃ a b c d e f g, resP r ps l = .agg [.int .i64 a, .int .i64 b, .int .i64 c, .int .i64 d, .int .i64 e, .int .i64 f, .int .i64 g] := ⟨_, _, _, _, _, _, _, rfl⟩
  generalize resP r ps l = X at *
  obtain ⟨a, b, c, d, e, f, g, rfl⟩ := hd
  refine calls_of_awpS mixed L33_ok (Nat.le_of_ble_eq_true rfl) ?_
  simp [-getElem?_pos, L33, cvP, Rl.pv]
  refine .inl (call_pv [] (fs := []) (xs := [cvP ps, r.pv]) (cs := []) rfl rfl c1 ?_)
  simp [-getElem?_pos, rdgP, frzsL]
  refine call_gives (k := 0) (fs := []) (xs := [rdgP ps r, intsR l]) (cs := []) rfl rfl c2 rfl ?_
  simp [-getElem?_pos]
  refine call_gives (k := 0) (fs := []) (xs := [rdgP ps r, intsR l]) (cs := []) rfl rfl c3 rfl ?_
  simp [-getElem?_pos]
end Go.Proofs.YtaffbiibcfeigaaGreat
/-! Contracts of layer 1 (curve): the least and the greatest loads; lists of loads; what kinds name. -/
namespace Go.Proofs.YtaffbiibcfeigaaGreat
open Go.RowKit
attribute [local simp] Box.purge Site.isLoc
set_option maxRecDepth 10000
set_option linter.unusedSimpArgs false
theorem padC_z : padC [] = [.pv (.int .i64 0), .pv (.int .i64 0), .pv (.int .i64 0), .pv (.int .i64 0), .pv (.int .i64 0), .pv (.int .i64 0), .pv (.int .i64 0), .pv (.int .i64 0), .pv (.int .i64 0), .pv (.int .i64 0), .pv (.int .i64 0), .pv (.int .i64 0), .pv (.int .i64 0), .pv (.int .i64 0), .pv (.int .i64 0), .pv (.int .i64 0), .pv (.int .i64 0), .pv (.int .i64 0), .pv (.int .i64 0), .pv (.int .i64 0)] := rfl
theorem padC_take {l : List Int} (h : l.length ≤ 20) : (padC l).take 20 = padC l := List.take_of_length_le (by rw [padC_len h]; exact Nat.le_refl _)
theorem padX_take20 {l : List Int} (h : l.length ≤ 20) : (padX l).take 20 = padX l := List.take_of_length_le (by rw [padX_len h]; exact Nat.le_refl _)
def lowK (ps : List Pt) (r : Rl) (k : Nat) : AS := ⟨[(1, .ptr (.loc 1 0) 0), (2, .ptr (.loc 2 0) 0), (7, .pv (ptsP ps)), (8, .pv (.int .i64 ps.length)), (9, .pv (.int .i64 k))], [(.loc 2 0, .cells (padC ((loL ps).take k))), (.loc 1 0, .cells (rdgC ps r))]⟩
theorem lol_c (ps : List Pt) (r : Rl) (h1 : ps.length ≤ 20) : Gives Tryz.prog 225 [rdgP ps r] (padP (loL ps)) := by
  refine calls_of_awpS mixed L225_ok (Nat.le_of_ble_eq_true rfl) ?_
  generalize hR : (fun (x : AV) (B : List (Site × Box)) => x = .pv (padP (loL ps)) ∧ B = []) = R
  simp [-getElem?_pos, L225, rdgP, ptsP]
  refine awp_loopS (fun n τ => ∃ k : Nat, k ≤ ps.length ∧ n = ps.length - k ∧ τ = lowK ps r k) ⟨ps.length, lowK ps r 0, Sub.mk (by simp [lowK, ptsP]) (by simp [lowK, rdgC, ptsP, padC_z]), 0, Nat.zero_le _, rfl, rfl⟩ ?_
  rintro J hJ n τ ⟨k, hk, rfl, rfl⟩
  by_cases hlt : k < ps.length
  · have hw := wrapR (k := k) (by omega)
    have hp := ptv_at hlt
    have hmeas : ps.length - (k + 1) < ps.length - k := by omega
    have hround := hJ _ _ ⟨k + 1, hlt, rfl, rfl⟩
    have htk : (loL ps).take (k + 1) = (loL ps).take k ++ [(ptD ps k).lo] := by
      rw [List.take_add_one]
      congr 1
      unfold loL
      rw [List.getElem?_map, ptD_get hlt]; rfl
    have hlk : ((loL ps).take k).length = k := by rw [List.length_take]; simp [loL]; omega
    have happ := padC_app (l := (loL ps).take k) (x := (ptD ps k).lo) (by omega)
    rw [hlk, ← htk] at happ
    have hpl := padC_len (l := (loL ps).take k) (by omega)
    unfold lowK at hround
    unfold lowK
    generalize (loL ps).take (k + 1) = X1 at *
    generalize (loL ps).take k = X0 at *
    have hsp : List.take k (padC X0) ++ AV.pv (.int .i64 (ptD ps k).lo) :: List.drop (k + 1) (padC X0) = padC X1 := by
      have := splice_set (l := padC X0) (k := k) (x := AV.pv (.int .i64 (ptD ps k).lo)) (by omega)
      rw [happ] at this
      rw [← this]; simp [splice]
    have hk20 : k < 20 := by omega
    have hk21 : k + 1 ≤ 20 := by omega
    simp [-getElem?_pos, -List.getElem?_map, rdgC, ptsP, hlt, hp, nblt, nble, hpl, hsp, hk20, hk21, hw, padC_purge, padC_has]
    exact ⟨_, _, hmeas, Sub.mk (by simp [ptsP]) (by simp [rdgC, ptsP, hsp]), hround⟩
  · have he : k = ps.length := by omega
    subst he
    have hX : (loL ps).take ps.length = loL ps := List.take_of_length_le (by simp [loL])
    have hl2 : (loL ps).length ≤ 20 := by simp [loL]; omega
    have hpl := padC_len hl2
    have htk := padC_take hl2
    unfold lowK
    rw [hX]
    generalize loL ps = X at *
    simp [-getElem?_pos, -List.getElem?_map, hpl, htk, padC_un, unpvs_pv, padX_len hl2, padX_take20 hl2]
    rw [← hR]
    simp [padP]
def highK (ps : List Pt) (r : Rl) (k : Nat) : AS := ⟨[(1, .ptr (.loc 1 0) 0), (2, .ptr (.loc 2 0) 0), (7, .pv (ptsP ps)), (8, .pv (.int .i64 ps.length)), (9, .pv (.int .i64 k))], [(.loc 2 0, .cells (padC ((hiL ps).take k))), (.loc 1 0, .cells (rdgC ps r))]⟩
theorem hil_c (ps : List Pt) (r : Rl) (h1 : ps.length ≤ 20) : Gives Tryz.prog 226 [rdgP ps r] (padP (hiL ps)) := by
  refine calls_of_awpS mixed L226_ok (Nat.le_of_ble_eq_true rfl) ?_
  generalize hR : (fun (x : AV) (B : List (Site × Box)) => x = .pv (padP (hiL ps)) ∧ B = []) = R
  simp [-getElem?_pos, L226, rdgP, ptsP]
  refine awp_loopS (fun n τ => ∃ k : Nat, k ≤ ps.length ∧ n = ps.length - k ∧ τ = highK ps r k) ⟨ps.length, highK ps r 0, Sub.mk (by simp [highK, ptsP]) (by simp [highK, rdgC, ptsP, padC_z]), 0, Nat.zero_le _, rfl, rfl⟩ ?_
  rintro J hJ n τ ⟨k, hk, rfl, rfl⟩
  by_cases hlt : k < ps.length
  · have hw := wrapR (k := k) (by omega)
    have hp := ptv_at hlt
    have hmeas : ps.length - (k + 1) < ps.length - k := by omega
    have hround := hJ _ _ ⟨k + 1, hlt, rfl, rfl⟩
    have htk : (hiL ps).take (k + 1) = (hiL ps).take k ++ [(ptD ps k).hi] := by
      rw [List.take_add_one]
      congr 1
      unfold hiL
      rw [List.getElem?_map, ptD_get hlt]; rfl
    have hlk : ((hiL ps).take k).length = k := by rw [List.length_take]; simp [hiL]; omega
    have happ := padC_app (l := (hiL ps).take k) (x := (ptD ps k).hi) (by omega)
    rw [hlk, ← htk] at happ
    have hpl := padC_len (l := (hiL ps).take k) (by omega)
    unfold highK at hround
    unfold highK
    generalize (hiL ps).take (k + 1) = X1 at *
    generalize (hiL ps).take k = X0 at *
    have hsp : List.take k (padC X0) ++ AV.pv (.int .i64 (ptD ps k).hi) :: List.drop (k + 1) (padC X0) = padC X1 := by
      have := splice_set (l := padC X0) (k := k) (x := AV.pv (.int .i64 (ptD ps k).hi)) (by omega)
      rw [happ] at this
      rw [← this]; simp [splice]
    have hk20 : k < 20 := by omega
    have hk21 : k + 1 ≤ 20 := by omega
    simp [-getElem?_pos, -List.getElem?_map, rdgC, ptsP, hlt, hp, nblt, nble, hpl, hsp, hk20, hk21, hw, padC_purge, padC_has]
    exact ⟨_, _, hmeas, Sub.mk (by simp [ptsP]) (by simp [rdgC, ptsP, hsp]), hround⟩
  · have he : k = ps.length := by omega
    subst he
    have hX : (hiL ps).take ps.length = hiL ps := List.take_of_length_le (by simp [hiL])
    have hl2 : (hiL ps).length ≤ 20 := by simp [hiL]; omega
    have hpl := padC_len hl2
    have htk := padC_take hl2
    unfold highK
    rw [hX]
    generalize hiL ps = X at *
    simp [-getElem?_pos, -List.getElem?_map, hpl, htk, padC_un, unpvs_pv, padX_len hl2, padX_take20 hl2]
    rw [← hR]
    simp [padP]
theorem cloneI_c (l : List Int) (h0 : l ≠ []) (hl : l.length ≤ 1000000) : Gives Tryz.prog 125 [.lst false 1 (l.map intR)] (intsR l) := by
  refine calls_of_awpF [.loc 7 0] mixed L125_ok (Nat.le_of_ble_eq_true rfl) ?_
  cases l with
  | nil => exact absurd rfl h0
  | cons a l =>
    have h1 : l.length + 1 ≤ 1000000 := by simpa using hl
    have hm : (l.map intR).take l.length = l.map intR := List.take_of_length_le (by simp)
    simp [-getElem?_pos, L125, intsR, nilOf, nble, h1, hm, retFz, frzL, AS.frz, AV.frz, AV.frzL, Box.frz, AS.tidy]
theorem rlist_c (ps : List Pt) (r : Rl) (l : List Int) (h0 : 0 < ps.length) (h1 : ps.length ≤ 20) (hl : l.length = ps.length) : Gives Tryz.prog 78 [rdgP ps r, padP l] (intsR l) := by
  have hc := cloneI_c l (by intro e; rw [e] at hl; simp at hl; omega) (by omega)
  have hpt := padX_take (l := l) (by omega)
  rw [hl] at hpt
  have hxl := padX_len (l := l) (by omega)
  refine calls_of_awpS mixed L78_ok (Nat.le_of_ble_eq_true rfl) ?_
  simp [-getElem?_pos, L78, rdgP, ptsP, padP, unpvs_pv, hxl, h1, nble, AS.frz, AV.frz, AV.frzL, Box.frz, hpt]
  refine .inl (call_pv [] (fs := []) (xs := [.lst false 1 (l.map intR)]) (cs := []) rfl rfl hc ?_)
  simp [-getElem?_pos, frzsL, intsR]
theorem kind0_c (r : Rl) (ps : List Pt) (l : List Int) : Gives Tryz.prog 121 [resP r ps l] (.tup [.int .i64 (numM r ps 0 l), .int .i64 (sP l ps.length).2]) := by
  refine calls_of_awpS mixed L121_ok (Nat.le_of_ble_eq_true rfl) ?_
  simp [-getElem?_pos, L121, resP, resC, numM]
theorem kind1_c (r : Rl) (ps : List Pt) (l : List Int) : Gives Tryz.prog 122 [resP r ps l] (.tup [.int .i64 (numM r ps 1 l), .int .i64 (yP r l ps.length).1]) := by
  refine calls_of_awpS mixed L122_ok (Nat.le_of_ble_eq_true rfl) ?_
  simp [-getElem?_pos, L122, resP, resC, numM]
theorem kind2_c (r : Rl) (ps : List Pt) (l : List Int) : Gives Tryz.prog 123 [resP r ps l] (.tup [.int .i64 (numM r ps 2 l), .int .i64 (mP r ps l ps.length).1]) := by
  refine calls_of_awpS mixed L123_ok (Nat.le_of_ble_eq_true rfl) ?_
  simp [-getElem?_pos, L123, resP, resC, numM]
theorem kind3_c (r : Rl) (ps : List Pt) (l : List Int) : Gives Tryz.prog 124 [resP r ps l] (.tup [.int .i64 (numM r ps 3 l), .int .i64 0]) := by
  refine calls_of_awpS mixed L124_ok (Nat.le_of_ble_eq_true rfl) ?_
  simp [-getElem?_pos, L124, resP, resC, numM]
/-- What reads the number of a kind. -/
def kfP : Nat → PV
  | 0 => .fn 121 [] []
  | 1 => .fn 122 [] []
  | 2 => .fn 123 [] []
  | _ => .fn 124 [] []
def kindsP : PV := .lst false 1 [.agg [kfP 0], .agg [kfP 1], .agg [kfP 2], .agg [kfP 3]]
theorem quantities_c : Gives Tryz.prog 77 [] kindsP := by
  refine calls_of_awpF [.loc 5 0] mixed L77_ok (Nat.le_of_ble_eq_true rfl) ?_
  simp [-getElem?_pos, L77, kindsP, kfP, retFz, frzL, AS.frz, AV.frz, AV.frzL, Box.frz, AS.tidy]
theorem kindF_c (r : Rl) (ps : List Pt) (l : List Int) (kind : Nat) (hk : kind ≤ 3) : ∃ f a, kfP kind = .fn f [] [] ∧ Gives Tryz.prog f [resP r ps l] (.tup [.int .i64 (numM r ps kind l), .int .i64 a]) := by
  match kind, hk with
  | 0, _ => exact ⟨_, _, rfl, kind0_c r ps l⟩
  | 1, _ => exact ⟨_, _, rfl, kind1_c r ps l⟩
  | 2, _ => exact ⟨_, _, rfl, kind2_c r ps l⟩
  | 3, _ => exact ⟨_, _, rfl, kind3_c r ps l⟩
end Go.Proofs.YtaffbiibcfeigaaGreat
/-! Contracts of layer 1 (curve): consumers of truths; the iterators of strengths and works. -/
namespace Go.Proofs.YtaffbiibcfeigaaGreat
open Go.RowKit
set_option maxRecDepth 10000
set_option linter.unusedSimpArgs false
def trP (t : List Int × List Int) : PV := .agg (padX t.1 ++ padX t.2)
/-- A loop over points with truths: its state, and the iterator's. It never ends the range. -/
structure CI (P : Program) where
  m : Nat
  S : Type
  E : Type
  X : S → E → List Box
  step : S → List Int × List Int → S
  ok : List Int × List Int → Prop
  live : S → Prop
  m0 : 0 < m
  len : ∀ s e, (X s e).length = m
  cl : ∀ s e, closedB m (X s e)
  goes : ∀ s t, live s → ok t → live (step s t)
  yields : ∀ s e (i : Int) t, live s → ok t → YieldsA P 0 [.pv (.int .i64 i), .pv (trP t)] (laid 0 (X s e)) (fun r B => r = .pv (.bool true) ∧ B = laid 0 (X (step s t) e))
theorem laid_purgeI {P : Program} {C : CI P} {c : C.S} {e : C.E} {k : Nat} : ((laid 0 (C.X c e)).filter fun p => !p.1.isLoc k).map (fun p => (p.1, p.2.purge k)) = laid 0 (C.X c e) := laid_purge (C.cl c e)
theorem laid_outI {P : Program} {C : CI P} {c : C.S} {e : C.E} : (laid 0 (C.X c e)).filter (fun p => !p.1.lt C.m) = [] := laid_out (by rw [C.len]; omega)
theorem sees_laidI {tm : List (Nat × AV)} {X : List Box} : sees ⟨tm, laid 0 X⟩ X := by
  have := sees_laid (tm := tm) (X := X) (r := [])
  rwa [List.append_nil] at this
theorem unpvs_app2 {a b : List PV} : unpvs (a.map AV.pv ++ b.map AV.pv) = some (a ++ b) := by rw [← List.map_append]; exact unpvs_pv _
theorem drop_z40 {a : List PV} (h : a.length = 20) : List.drop 40 (a.map AV.pv ++ [.pv (.int .i64 0), .pv (.int .i64 0), .pv (.int .i64 0), .pv (.int .i64 0), .pv (.int .i64 0), .pv (.int .i64 0), .pv (.int .i64 0), .pv (.int .i64 0), .pv (.int .i64 0), .pv (.int .i64 0), .pv (.int .i64 0), .pv (.int .i64 0), .pv (.int .i64 0), .pv (.int .i64 0), .pv (.int .i64 0), .pv (.int .i64 0), .pv (.int .i64 0), .pv (.int .i64 0), .pv (.int .i64 0), .pv (.int .i64 0)]) = [] := List.drop_eq_nil_of_le (by simp [h])
/-- A reading that nobody writes. -/
def rdgR (ps : List Pt) (r : Rl) : PV := .ref [ptsP ps, .int .i64 r.drop, .int .i64 r.slope, .int .i64 r.offs]
section
attribute [local simp] isLoc_loc isLoc_par isLoc_ret purge_cells purge_map purge_arr purge_loop laid_purgeI
attribute [local simp] AV.map AV.mapL noRet Site.isRet Box.allS AV.allS AV.allSL AS.adds
theorem strengths1_c (C : CI Tryz.prog) (ps : List Pt) (r : Rl) (h1 : ps.length ≤ 20) (c : C.S) (e : C.E) (hc : C.live c) (hok : C.ok (loL ps, hiL ps)) :
    CallsA Tryz.prog 224 [.yld (.par 0), .pv (rdgR ps r)] (laid 0 (C.X c e)) (fun q B => q = .pv (.tup []) ∧ B = laid 0 (C.X (C.step c (loL ps, hiL ps)) e)) := by
  have hlo := lol_c ps r h1
  have hhi := hil_c ps r h1
  have hy := C.yields c e 0 _ hc hok
  unfold trP at hy
  have hl1 : (loL ps).length ≤ 20 := by simp [loL]; omega
  have hl2 : (hiL ps).length ≤ 20 := by simp [hiL]; omega
  have hx1 := padX_len hl1
  have hx2 := padX_len hl2
  generalize C.step c (loL ps, hiL ps) = c' at *
  generalize hXL : padX (loL ps) = XL at *
  generalize hXH : padX (hiL ps) = XH at *
  unfold padP at hlo hhi
  rw [hXL] at hlo
  rw [hXH] at hhi
  refine calls_of_awpB (parsN C.m) mixed L224_ok (Nat.le_of_ble_eq_true rfl) ?_
  generalize hR : (fun (q : AV) (B : List (Site × Box)) => q = .pv (.tup []) ∧ B = laid 0 (C.X c' e)) = R
  simp [-getElem?_pos, L224, rdgR]
  refine call_pv [] (fs := []) (xs := [rdgP ps r]) (cs := []) rfl rfl hlo ?_
  simp [-getElem?_pos, frzsL]
  refine .inl (call_pv [] (fs := []) (xs := [rdgP ps r]) (cs := []) rfl rfl hhi ?_)
  simp [-getElem?_pos, frzsL, hx1, hx2, drop_z40 hx1, unpvs_app2]
  refine yield_pars 9 C.m (C.X c e) rfl C.m0 (C.len c e) (by repeat (first | exact sees_laidI | exact sees_laid | refine sees_skip rfl ?_)) (C.cl c e) rfl hy ?_
  rintro q B ⟨rfl, rfl⟩
  refine ⟨C.X c' e, rfl, C.len _ _, C.cl _ _, rfl, ?_⟩
  simp [-getElem?_pos, laid_outI]
  refine retB_pars (L := C.X c' e) rfl rfl (C.len _ _) (by repeat (first | exact sees_laidI | exact sees_laid | refine sees_skip rfl ?_)) (C.cl _ _) ?_
  rw [← hR]
  exact ⟨rfl, rfl⟩
theorem works1_c (C : CI Tryz.prog) (ps : List Pt) (r : Rl) (h1 : ps.length ≤ 20) (c : C.S) (e : C.E) (hc : C.live c) (hok : C.ok (loL ps, hiL ps)) :
    CallsA Tryz.prog 232 [.yld (.par 0), .pv (rdgR ps r)] (laid 0 (C.X c e)) (fun q B => q = .pv (.tup []) ∧ B = laid 0 (C.X (C.step c (loL ps, hiL ps)) e)) := by
  have hlo := lol_c ps r h1
  have hhi := hil_c ps r h1
  have hy := C.yields c e 0 _ hc hok
  unfold trP at hy
  have hl1 : (loL ps).length ≤ 20 := by simp [loL]; omega
  have hl2 : (hiL ps).length ≤ 20 := by simp [hiL]; omega
  have hx1 := padX_len hl1
  have hx2 := padX_len hl2
  generalize C.step c (loL ps, hiL ps) = c' at *
  generalize hXL : padX (loL ps) = XL at *
  generalize hXH : padX (hiL ps) = XH at *
  unfold padP at hlo hhi
  rw [hXL] at hlo
  rw [hXH] at hhi
  refine calls_of_awpB (parsN C.m) mixed L232_ok (Nat.le_of_ble_eq_true rfl) ?_
  generalize hR : (fun (q : AV) (B : List (Site × Box)) => q = .pv (.tup []) ∧ B = laid 0 (C.X c' e)) = R
  simp [-getElem?_pos, L232, rdgR]
  refine call_pv [] (fs := []) (xs := [rdgP ps r]) (cs := []) rfl rfl hlo ?_
  simp [-getElem?_pos, frzsL]
  refine .inl (call_pv [] (fs := []) (xs := [rdgP ps r]) (cs := []) rfl rfl hhi ?_)
  simp [-getElem?_pos, frzsL, hx1, hx2, drop_z40 hx1, unpvs_app2]
  refine yield_pars 9 C.m (C.X c e) rfl C.m0 (C.len c e) (by repeat (first | exact sees_laidI | exact sees_laid | refine sees_skip rfl ?_)) (C.cl c e) rfl hy ?_
  rintro q B ⟨rfl, rfl⟩
  refine ⟨C.X c' e, rfl, C.len _ _, C.cl _ _, rfl, ?_⟩
  simp [-getElem?_pos, laid_outI]
  refine retB_pars (L := C.X c' e) rfl rfl (C.len _ _) (by repeat (first | exact sees_laidI | exact sees_laid | refine sees_skip rfl ?_)) (C.cl _ _) ?_
  rw [← hR]
  exact ⟨rfl, rfl⟩
end
end Go.Proofs.YtaffbiibcfeigaaGreat
/-! Contracts of layer 1 (curve): the ends of a kind's span: what is made ahead of the loop, the loop. -/
namespace Go.Proofs.YtaffbiibcfeigaaGreat
open Go.RowKit
set_option maxRecDepth 10000
set_option linter.unusedSimpArgs false
section
attribute [local simp] Box.purge Site.isLoc
attribute [local simp] retFz frzL AS.frz AV.frz AV.frzL Box.frz AS.tidy AS.frzC
theorem strengths_c (ps : List Pt) (r : Rl) : Gives Tryz.prog 180 [rdgP ps r] (.fn 224 [] [rdgR ps r]) := by
  refine calls_of_awpF [.loc 1 0] mixed L180_ok (Nat.le_of_ble_eq_true rfl) ?_
  simp [-getElem?_pos, L180, rdgP, rdgR, unpvs, fnA]
theorem works_c (ps : List Pt) (r : Rl) : Gives Tryz.prog 183 [rdgP ps r] (.fn 232 [] [rdgR ps r]) := by
  refine calls_of_awpF [.loc 1 0] mixed L183_ok (Nat.le_of_ble_eq_true rfl) ?_
  simp [-getElem?_pos, L183, rdgP, rdgR, unpvs, fnA]
theorem meetings_c (ps : List Pt) (r : Rl) : Gives Tryz.prog 182 [rdgP ps r] (.fn 231 [] [rdgR ps r]) := by
  refine calls_of_awpF [.loc 1 0] mixed L182_ok (Nat.le_of_ble_eq_true rfl) ?_
  simp [-getElem?_pos, L182, rdgP, rdgR, unpvs, fnA]
theorem of1_c (ps : List Pt) (r : Rl) (hp : cvOk ps = true) (hr : r.ok = true) (kind : Nat) (hk : kind ≤ 3) (l : List Int) (hl : loadsB ps l) : Gives Tryz.prog 184 [padP l, .ref [.int .u8 kind], rdgR ps r] (.int .i64 (numM r ps kind l)) := by
  have hlen := cv_len hp
  have h1 := rlist_c ps r l hlen.1 hlen.2 hl.1
  have h2 := result_c ps r l hp hr hl
  obtain ⟨f, a, h3, h4⟩ := kindF_c r ps l kind hk
  have hx := padX_len (l := l) (by have := hl.1; omega)
  have hq := quantities_c
  have hkp : kindsP = .lst false 1 [.agg [kfP 0], .agg [kfP 1], .agg [kfP 2], .agg [kfP 3]] := rfl
  have hki : [PV.agg [kfP 0], .agg [kfP 1], .agg [kfP 2], .agg [kfP 3]][kind]? = some (.agg [kfP kind]) := by
    match kind, hk with
    | 0, _ => rfl
    | 1, _ => rfl
    | 2, _ => rfl
    | 3, _ => rfl
  rw [h3] at hki
  rw [hkp] at hq
  generalize [PV.agg [kfP 0], .agg [kfP 1], .agg [kfP 2], .agg [kfP 3]] = KP at *
  refine calls_of_awpS mixed L184_ok (Nat.le_of_ble_eq_true rfl) ?_
  have htk : List.take 20 ((padX l).map AV.pv) = (padX l).map AV.pv := padC_take (by have := hl.1; omega)
  simp [-getElem?_pos, L184, rdgR, padP, hx, htk, unpvs_pv]
  refine call_pv [] (fs := []) (xs := []) (cs := []) rfl rfl hq ?_
  simp [-getElem?_pos, frzsL, hki]
  refine call_pv [] (fs := []) (xs := [rdgP ps r, padP l]) (cs := []) rfl rfl h1 ?_
  simp [-getElem?_pos, frzsL]
  refine call_pv [] (fs := []) (xs := [rdgP ps r, intsR l]) (cs := []) rfl rfl h2 ?_
  simp [-getElem?_pos, frzsL]
  refine call_gives (k := 0) (fs := []) (xs := [resP r ps l]) (cs := []) rfl rfl h4 rfl ?_
  simp [-getElem?_pos]
def trZ : Option (List Int × List Int) → List Int × List Int
  | none => ([], [])
  | some t => t
end
attribute [local simp] AS.exp expG Box.ren AV.map AV.mapL outsOk noRet Site.isRet Box.allS AV.allS AV.allSL retB dropL AS.adds renL outG outOk lentBx inG fnOf lookA List.findIdx?_cons
attribute [local simp] Box.purge Site.isLoc
theorem cokR : COk Tryz.prog (tyOf tys) L120.code := litF_ok L120_ok L120_tab
/-- The boxes of the loop of 'ends'. -/
noncomputable def enX (ps : List Pt) (r : Rl) (kind : Nat) (s : Option (List Int × List Int)) : List Box := [.loop (rcode Tryz.prog 120 0) [24, 25] 60 [(4, .ptr (.par 1) 0), (5, .ptr (.par 2) 0), (7, .ptr (.par 3) 0)] none, .cells ((padX (trZ s).1 ++ padX (trZ s).2).map .pv), .cells [.pv (.bool s.isSome)], .cells [.pv (.fn 184 [] [.ref [.int .u8 kind], rdgR ps r])]]
def enL (ps : List Pt) (s : Option (List Int × List Int)) : Prop := ∀ t, s = some t → loadsB ps t.1 ∧ loadsB ps t.2
theorem enL_step {ps : List Pt} {r : Rl} {kind : Nat} {s : Option (List Int × List Int)} {t : List Int × List Int} (hs : enL ps s) (h : loadsB ps t.1 ∧ loadsB ps t.2) : enL ps (enS r ps kind s t) := by
  intro u hu
  unfold enS at hu
  split at hu
  · cases hu; exact h
  · rename_i a b
    have h0 := hs _ rfl
    cases hu
    refine ⟨?_, ?_⟩
    · show loadsB ps (if _ then _ else _)
      split
      · exact h.1
      · exact h0.1
    · show loadsB ps (if _ then _ else _)
      split
      · exact h.2
      · exact h0.2
theorem mapPV_allR {q : Site → Bool} : ∀ l : List PV, AV.allSL q (l.map AV.pv) = true
  | [] => rfl
  | x :: l => by rw [List.map_cons]; simp only [AV.allSL, AV.allS, mapPV_allR l]; rfl
theorem tk20 {A B : List PV} (h : A.length = 20) : List.take 20 (A.map AV.pv ++ B.map AV.pv) = A.map AV.pv := List.take_left' (by rw [List.length_map, h])
theorem dr20 {A B : List PV} (h : A.length = 20) : List.drop 20 (A.map AV.pv ++ B.map AV.pv) = B.map AV.pv := List.drop_left' (by rw [List.length_map, h])
theorem purge_comp {d : Nat} : (AV.purge d ∘ AV.pv) = AV.pv := rfl
theorem mapPV_allA {q : Site → Bool} {A B : List PV} : AV.allSL q (A.map AV.pv ++ B.map AV.pv) = true := by rw [← List.map_append]; exact mapPV_allR _
theorem mapPV_mapR {g : Site → Site} : ∀ l : List PV, AV.mapL g (l.map AV.pv) = l.map AV.pv
  | [] => rfl
  | x :: l => by rw [List.map_cons]; simp only [AV.mapL, AV.map, mapPV_mapR l]
theorem mapPV_mapA {g : Site → Site} {A B : List PV} : AV.mapL g (A.map AV.pv ++ B.map AV.pv) = A.map AV.pv ++ B.map AV.pv := by rw [← List.map_append]; exact mapPV_mapR _
noncomputable def enI (ps : List Pt) (r : Rl) (hp : cvOk ps = true) (hr : r.ok = true) (kind : Nat) (hk : kind ≤ 3) : CI Tryz.prog where
  m := 4
  S := Option (List Int × List Int)
  E := Unit
  X s _ := enX ps r kind s
  step s t := enS r ps kind s t
  ok t := loadsB ps t.1 ∧ loadsB ps t.2
  live := enL ps
  m0 := by omega
  len _ _ := rfl
  goes _ _ h1 h2 := enL_step h1 h2
  cl s e := by
    intro bx hb
    simp only [enX, List.mem_cons, List.not_mem_nil, or_false] at hb
    rcases hb with rfl | rfl | rfl | rfl
    · simp [Site.lt]
    · exact mapPV_allR _
    · rfl
    · rfl
  yields s e i t hs ht := by
    have hlen := cv_len hp
    have hcok : COk Tryz.prog (tyOf tys) (.rng 60 (.t 23) (rcode Tryz.prog 120 0) Y120_0a Y120_0b [24, 25]) := cokR.2.2.2.1.2
    obtain ⟨a1, b1⟩ := t
    have la1 : a1.length ≤ 20 := by have := ht.1.1; simp only at this; omega
    have lb1 : b1.length ≤ 20 := by have := ht.2.1; simp only at this; omega
    have ca1 := of1_c ps r hp hr kind hk a1 ht.1
    have cb1 := of1_c ps r hp hr kind hk b1 ht.2
    have xa1 := padX_len la1
    have xb1 := padX_len lb1
    refine yields_of_awpS mixed hcok.1 hcok.2.1 rfl rfl (by simp) rfl ?_
    have g1 := tk20 (A := padX a1) (B := padX b1) xa1
    have g2 := dr20 (A := padX a1) (B := padX b1) xa1
    have t2 : List.take 20 (List.map AV.pv (padX b1)) = List.map AV.pv (padX b1) := padC_take lb1
    cases s with
    | none =>
      have z1 : (padX (trZ none).1).length = 20 := rfl
      have g3 := dr20 (A := padX (trZ none).1) (B := padX (trZ none).2) z1
      have g4 := tk20 (A := padX a1) (B := padX (trZ none).2) xa1
      have g5 := dr20 (A := padX a1) (B := padX (trZ none).2) xa1
      have z2 : (padX (trZ none).2).length = 20 := rfl
      have g6 : List.drop 40 (List.map AV.pv (padX a1) ++ List.map AV.pv (padX (trZ none).2)) = [] := List.drop_eq_nil_of_le (by simp [xa1, z2])
      simp [-getElem?_pos, Y120_0a, Y120_0b, enX, laid, putL, trP, purge_comp, xa1, xb1]
      simp [-getElem?_pos, z1, z2, xa1, xb1, g1, g2, g3, g4, g5, g6, t2, unpvs_pv, purge_comp]
      exact ⟨[], [.par 1, .par 2, .par 3], rfl, rfl, by simp [frzL, mapPV_allR, mapPV_allA], rfl, by simp [frzL, enS, trZ, mapPV_mapR, mapPV_mapA, ]⟩
    | some t0 =>
      obtain ⟨a0, b0⟩ := t0
      have h0 := hs _ rfl
      have la0 : a0.length ≤ 20 := by have := h0.1.1; simp only at this; omega
      have lb0 : b0.length ≤ 20 := by have := h0.2.1; simp only at this; omega
      have ca0 := of1_c ps r hp hr kind hk a0 h0.1
      have cb0 := of1_c ps r hp hr kind hk b0 h0.2
      have z1 := padX_len la0
      have z2 := padX_len lb0
      have g3 := dr20 (A := padX a0) (B := padX b0) z1
      have g4 := tk20 (A := padX a1) (B := padX b0) xa1
      have g5 := dr20 (A := padX a1) (B := padX b0) xa1
      have g7 := tk20 (A := padX a0) (B := padX b0) z1
      have g8 := dr20 (A := padX a0) (B := padX b0) z1
      have g6 : List.drop 40 (List.map AV.pv (padX a1) ++ List.map AV.pv (padX b0)) = [] := List.drop_eq_nil_of_le (by simp [xa1, z2])
      have g9 : List.drop 40 (List.map AV.pv (padX a0) ++ List.map AV.pv (padX b0)) = [] := List.drop_eq_nil_of_le (by simp [z1, z2])
      have g10 := tk20 (A := padX a1) (B := padX b1) xa1
      have t3 : List.take 20 (List.map AV.pv (padX a0)) = List.map AV.pv (padX a0) := padC_take la0
      have t4 : List.take 20 (List.map AV.pv (padX b0)) = List.map AV.pv (padX b0) := padC_take lb0
      have hen : enS r ps kind (some (a0, b0)) (a1, b1) = some (if numM r ps kind a1 < numM r ps kind a0 then a1 else a0, if numM r ps kind b0 < numM r ps kind b1 then b1 else b0) := rfl
      rw [hen]
      clear hen
      unfold padP at ca0 cb0 ca1 cb1
      simp [-getElem?_pos, Y120_0a, Y120_0b, enX, laid, putL, trP, trZ, purge_comp, xa1, xb1]
      simp [-getElem?_pos, -decide_eq_true_eq, -decide_eq_false_iff_not, -gt_iff_lt, z1, z2, xa1, xb1, g1, g2, g3, g4, g5, g6, g7, g8, g9, g10, t2, t3, t4, unpvs_pv, purge_comp]
      refine call_pv [] (fs := []) (xs := [padP a1]) (cs := [.ref [.int .u8 kind], rdgR ps r]) rfl rfl ca1 ?_
      simp [-getElem?_pos, -decide_eq_true_eq, -decide_eq_false_iff_not, -gt_iff_lt, frzsL]
      refine .inl (call_pv [] (fs := []) (xs := [padP a0]) (cs := [.ref [.int .u8 kind], rdgR ps r]) rfl rfl ca0 ?_)
      simp [-getElem?_pos, -decide_eq_true_eq, -decide_eq_false_iff_not, -gt_iff_lt, frzsL]
      cases d1 : decide (numM r ps kind a1 < numM r ps kind a0)
      all_goals
        simp [-getElem?_pos, -decide_eq_true_eq, -decide_eq_false_iff_not, -gt_iff_lt, z1, z2, xa1, xb1, g1, g2, g3, g4, g5, g6, g7, g8, g9, g10, t2, t3, t4, unpvs_pv, purge_comp]
        refine call_pv [] (fs := []) (xs := [padP b1]) (cs := [.ref [.int .u8 kind], rdgR ps r]) rfl rfl cb1 ?_
        simp [-getElem?_pos, -decide_eq_true_eq, -decide_eq_false_iff_not, -gt_iff_lt, frzsL]
        refine .inl (call_pv [] (fs := []) (xs := [padP b0]) (cs := [.ref [.int .u8 kind], rdgR ps r]) rfl rfl cb0 ?_)
        simp [-getElem?_pos, -decide_eq_true_eq, -decide_eq_false_iff_not, -gt_iff_lt, frzsL]
        cases d2 : decide (numM r ps kind b1 > numM r ps kind b0)
        all_goals
          simp [-getElem?_pos, -decide_eq_true_eq, -decide_eq_false_iff_not, -gt_iff_lt, z1, z2, xa1, xb1, g1, g2, g3, g4, g5, g6, g7, g8, g9, g10, t2, t3, t4, unpvs_pv, purge_comp]
          simp only [decide_eq_true_eq, decide_eq_false_iff_not, gt_iff_lt] at d1 d2
          exact ⟨[], [.par 1, .par 2, .par 3], rfl, rfl, by simp [frzL, mapPV_allR, mapPV_allA], rfl, by simp [frzL, enS, trZ, mapPV_mapR, mapPV_mapA, d1, d2]⟩
end Go.Proofs.YtaffbiibcfeigaaGreat
/-! Contracts of layer 1 (curve): the iterator of yields is made; the ends of the strength's and of the work's span. -/
namespace Go.Proofs.YtaffbiibcfeigaaGreat
open Go.RowKit
set_option maxRecDepth 10000
set_option linter.unusedSimpArgs false
theorem retW_wp {fz outs : List Site} {rs : List LRes} {R : AV → List (Site × Box) → Prop} {σ : AS} (h : retB outs rs R (frzL fz σ)) : retWp rs R σ := by
  obtain ⟨l, h1, h2, h3, h4, h5⟩ := h
  exact ⟨fz, outs, l, h1, h2, h3, fun s hs b hb => outsOk_get h4 s hs b hb, h5⟩
theorem calls_of_awpW {P : Program} (fz outs : List Site) {f : FuncId} {F : LFn} {args : List AV} {B : List (Site × Box)} {R : AV → List (Site × Box) → Prop} (hm : P.follows .mixedOrders = true) (hf : litF P f = some F) (hn : args.length ≤ F.nt)
    (h : awpS P F.code (finQ (fun σ => retB outs F.res R (frzL fz σ))) ⟨initT 0 args, B⟩) : CallsA P f args B R := calls_of_awp_gen hm hf hn (fun _ h => retW_wp h) (awpS_wp h)
section
attribute [local simp] Box.purge Site.isLoc
attribute [local simp] retFz frzL AS.frz AV.frz AV.frzL Box.frz AS.tidy AS.frzC
attribute [local simp] AS.exp expG Box.ren AV.map AV.mapL noRet Site.isRet Box.allS AV.allS AV.allSL
/-- The cell of 'least'; what it knows. -/
def leX (ps : List Pt) (r : Rl) (jk jl : Site) : Box := .cells [.fn 227 [] [.ptr jk 0, .pv (rdgR ps r), .ptr jl 0]]
def ylF (ps : List Pt) (r : Rl) (jl : Site) : AV := .fn 230 [] [.pv (rdgR ps r), .ptr jl 0, .pv (.ref [.fn 229 [] [rdgR ps r]])]
theorem yields0_c (ps : List Pt) (r : Rl) : CallsA Tryz.prog 181 [.pv (rdgP ps r)] [] (fun q B => q = ylF ps r (.ret 2) ∧ B = [(.ret 0, .cells [.mp (.ret 1)]), (.ret 1, .map []), (.ret 2, leX ps r (.ret 0) (.ret 2))]) := by
  refine calls_of_awpW [.loc 1 0, .loc 5 0] [.loc 3 0, .loc 6 0, .loc 4 0] mixed L181_ok (Nat.le_of_ble_eq_true rfl) ?_
  generalize hR : (fun (q : AV) (B : List (Site × Box)) => q = ylF ps r (.ret 2) ∧ B = [(.ret 0, .cells [.mp (.ret 1)]), (.ret 1, .map []), (.ret 2, leX ps r (.ret 0) (.ret 2))]) = R
  simp [-getElem?_pos, L181, rdgP, unpvs, fnA]
  simp [retB, outsOk, List.findIdx?_cons]
  rw [← hR]
  exact ⟨rfl, rfl⟩
end
section
attribute [local simp] Box.purge Site.isLoc
attribute [local simp] retFz frzL AS.frz AV.frz AV.frzL Box.frz AS.tidy AS.frzC
attribute [local simp] AS.exp expG Box.ren AV.map AV.mapL noRet Site.isRet Box.allS AV.allS AV.allSL dropL AS.adds renL outG outOk lentBx inG fnOf
theorem padX_z : padX [] = [PV.int .i64 0, PV.int .i64 0, PV.int .i64 0, PV.int .i64 0, PV.int .i64 0, PV.int .i64 0, PV.int .i64 0, PV.int .i64 0, PV.int .i64 0, PV.int .i64 0, PV.int .i64 0, PV.int .i64 0, PV.int .i64 0, PV.int .i64 0, PV.int .i64 0, PV.int .i64 0, PV.int .i64 0, PV.int .i64 0, PV.int .i64 0, PV.int .i64 0] := rfl
theorem osel_noneR {l : LOp} {d : Nat} {K : AV → AS → Prop} {σ : AS} : osel none l d K σ = opWp l d K σ := rfl
theorem ends0_c (ps : List Pt) (r : Rl) (hp : cvOk ps = true) (hr : r.ok = true) (kind : Nat) (hk : kind = 0 ∨ kind = 3) : Gives Tryz.prog 120 [rdgP ps r, .int .u8 kind] (.tup [.agg (padX (loL ps) ++ padX (hiL ps)), .bool true]) := by
  have h1 := strengths_c ps r
  have h2 := yields0_c ps r
  have h3 := meetings_c ps r
  have h4 := works_c ps r
  refine calls_of_awpW [] [] mixed L120_ok (Nat.le_of_ble_eq_true rfl) ?_
  generalize hR : (fun (q : AV) (B : List (Site × Box)) => q = .pv (.tup [.agg (padX (loL ps) ++ padX (hiL ps)), .bool true]) ∧ B = []) = R
  simp [-getElem?_pos, L120, rdgP]
  refine call_pv [.loc 2 0, .loc 3 0] (fs := []) (xs := [rdgP ps r]) (cs := []) rfl rfl h1 ?_
  simp [-getElem?_pos, frzsL, unpvs]
  refine .inr ⟨[], _, [], [rdgP ps r], [], rfl, rfl, h2.mono ?_⟩
  rintro q B ⟨rfl, rfl⟩
  refine ⟨⟨rfl, by simp [leX]⟩, ?_⟩
  simp [-getElem?_pos, frzsL, unpvs, renB, toLoc, ylF, leX]
  refine call_pv [] (fs := []) (xs := [rdgP ps r]) (cs := []) rfl rfl h3 ?_
  simp [-getElem?_pos, frzsL]
  refine call_pv [] (fs := []) (xs := [rdgP ps r]) (cs := []) rfl rfl h4 ?_
  simp [-getElem?_pos, frzsL]
  rw [osel_noneR]
  have hlo := tru_loads hp (lo_tru hp)
  have hhi := tru_loads hp (hi_tru hp)
  have hlen := cv_len hp
  have hx1 := padX_len (l := loL ps) (by have := hlo.1; omega)
  have hx2 := padX_len (l := hiL ps) (by have := hhi.1; omega)
  have hk3 : kind ≤ 3 := by omega
  have hit : CallsA Tryz.prog (if kind = 0 then 224 else 232) [.yld (.par 0), .pv (rdgR ps r)] (laid 0 (enX ps r kind none)) (fun q B => q = .pv (.tup []) ∧ B = laid 0 (enX ps r kind (some (loL ps, hiL ps)))) := by
    rcases hk with rfl | rfl
    · exact strengths1_c (enI ps r hp hr 0 hk3) ps r hlen.2 none () (fun _ h => by cases h) ⟨hlo, hhi⟩
    · exact works1_c (enI ps r hp hr 3 hk3) ps r hlen.2 none () (fun _ h => by cases h) ⟨hlo, hhi⟩
  have hkb : kind.blt 4 = true := by rw [nblt]; exact decide_eq_true (by omega)
  have hel : [RowE.av (.pv (.fn 224 [] [rdgR ps r])), RowE.av (AV.fn 230 [] [.pv (rdgR ps r), .ptr (.loc 13 2) 0, .pv (.ref [.fn 229 [] [rdgR ps r]])]), RowE.av (.pv (.fn 231 [] [rdgR ps r])), RowE.av (.pv (.fn 232 [] [rdgR ps r]))][kind]? = some (.av (.pv (.fn (if kind = 0 then 224 else 232) [] [rdgR ps r]))) := by
    rcases hk with rfl | rfl
    · rfl
    · rfl
  generalize (if kind = 0 then 224 else 232) = gf at *
  simp [opWp, -getElem?_pos, AV.one, unpvs, hkb, hel]
  refine rng_lent [.loc 60 0, .loc 4 0, .loc 5 0, .loc 7 0] [(4, .ptr (.loc 4 0) 0), (5, .ptr (.loc 5 0) 0), (7, .ptr (.loc 7 0) 0)] (gf := gf) (fs := []) (cs := [.pv (rdgR ps r)]) ?_ ?_ rfl rfl ?_ ?_ ?_ hit ?_
  · rfl
  · simp
  · simp [enX, laid, trZ, List.findIdx?_cons, rdgR, padX_z]
  · rfl
  · rfl
  rintro q B' ⟨rfl, rfl⟩
  refine ⟨rfl, ?_, ?_⟩
  · exact fun p hq => laid_ok (n := 4) (L := enX ps r kind (some (loL ps, hiL ps))) (by simp [enX]) ((enI ps r hp hr kind hk3).cl (some (loL ps, hiL ps)) ()) p hq
  refine ⟨_, _, _, _, _, rfl, ?_⟩
  obtain ⟨XL, hXL⟩ : ∃ X, X = padX (loL ps) := ⟨_, rfl⟩
  obtain ⟨XH, hXH⟩ : ∃ X, X = padX (hiL ps) := ⟨_, rfl⟩
  rw [← hXL] at hx1 hR
  rw [← hXH] at hx2 hR
  have ht40 : List.take 40 (List.map AV.pv XL ++ List.map AV.pv XH) = List.map AV.pv XL ++ List.map AV.pv XH := List.take_of_length_le (by simp [hx1, hx2])
  have hd40 : List.drop 40 (List.map AV.pv XL ++ List.map AV.pv XH) = [] := List.drop_eq_nil_of_le (by simp [hx1, hx2])
  have hm40 := fun d => mapPV_mapA (g := outG [Site.loc 60 0, Site.loc 4 0, Site.loc 5 0, Site.loc 7 0] d) (A := XL) (B := XH)
  simp [-getElem?_pos, enX, trZ, laid, jumpQ, ← hXL, ← hXH, hm40, ht40, hx1, hx2, unpvs_app2]
  refine ltS_seq ⟨[(4, .ptr (.loc 4 0) 0), (5, .ptr (.loc 5 0) 0), (59, .pv (.bool true))], [(.loc 4 0, .cells (List.map AV.pv XL ++ List.map AV.pv XH)), (.loc 5 0, .cells [.pv (.bool true)])]⟩ ?_ ?_
  · simp [ltS_alt, ltS_no, -getElem?_pos, hx1, hx2, hd40, ht40]
    repeat' (with_reducible refine And.intro ?_ ?_)
    all_goals exact Sub.mk (by simp) (by simp)
  · simp [ltS_alt, ltS_no, -getElem?_pos, hx1, hx2, hd40, ht40, unpvs_app2]
    rw [← hR]
    simp [retB, outsOk, -getElem?_pos, unpvs_app2, ht40, hx1, hx2, mapPV_allA]
end
end Go.Proofs.YtaffbiibcfeigaaGreat
/-! Contracts of layer 1 (curve): the span of what a kind names. -/
namespace Go.Proofs.YtaffbiibcfeigaaGreat
open Go.RowKit
set_option maxRecDepth 10000
set_option linter.unusedSimpArgs false
attribute [local simp] Box.purge Site.isLoc
attribute [local simp] frzsL
theorem casked_c (ps : List Pt) (r : Rl) (hp : cvOk ps = true) (hr : r.ok = true) (kind : Nat) (hk : kind ≤ 3) (a b : List Int) (ha : loadsB ps a) (hb : loadsB ps b) (he : Gives Tryz.prog 120 [rdgP ps r, .int .u8 kind] (.tup [.agg (padX a ++ padX b), .bool true])) :
    Gives Tryz.prog 76 [cvP ps, r.pv, .int .u8 kind] (.tup [rdgP ps r, .agg (padX a ++ padX b), .int .i64 0]) := by
  have hl := cv_len hp
  have hce : cvErr ps = 0 := by unfold cvErr; rw [if_neg (by omega), if_pos hp]
  have c1 := cread_c ps r (by omega) hce hr
  have hx1 := padX_len (l := a) (by have := ha.1; omega)
  have hx2 := padX_len (l := b) (by have := hb.1; omega)
  generalize padX a = XL at *
  generalize padX b = XH at *
  have ht40 : List.take 40 (List.map AV.pv XL ++ List.map AV.pv XH) = List.map AV.pv XL ++ List.map AV.pv XH := List.take_of_length_le (by simp [hx1, hx2])
  have hd40 : List.drop 40 (List.map AV.pv XL ++ List.map AV.pv XH) = [] := List.drop_eq_nil_of_le (by simp [hx1, hx2])
  have hkd : decide ((kind : Int) > 3) = false := decide_eq_false (by omega)
  have hkd2 : decide ((3 : Int) < (kind : Int)) = false := decide_eq_false (by omega)
  have hkd3 : decide (3 < kind) = false := decide_eq_false (by omega)
  refine calls_of_awpS mixed L76_ok (Nat.le_of_ble_eq_true rfl) ?_
  generalize hR : (fun (q : AV) (B : List (Site × Box)) => q = .pv (.tup [rdgP ps r, .agg (XL ++ XH), .int .i64 0]) ∧ B = []) = R
  simp [-getElem?_pos, L76, cvP, Rl.pv]
  refine .inl (call_pv [] (fs := []) (xs := [cvP ps, r.pv]) (cs := []) rfl rfl c1 ?_)
  simp [-getElem?_pos, rdgP, -decide_eq_true_eq, -decide_eq_false_iff_not, hkd, hkd2, hkd3]
  refine .inl (call_pv [] (fs := []) (xs := [rdgP ps r, .int .u8 kind]) (cs := []) rfl rfl he ?_)
  simp [-getElem?_pos, hx1, hx2, unpvs_app2, ht40, hd40]
  refine ltS_seq ⟨[(6, .ptr (.loc 6 0) 0), (7, .ptr (.loc 7 0) 0), (41, .pv (.agg (XL ++ XH)))], [(.loc 6 0, .cells (rdgC ps r)), (.loc 7 0, .cells (List.replicate 40 (.pv (.int .i64 0))))]⟩ ?_ ?_
  · simp [ltS_alt, ltS_no, -getElem?_pos, hx1, hx2, hd40, ht40, rdgC, unpvs_app2]
    repeat' (with_reducible refine And.intro ?_ ?_)
    all_goals exact Sub.mk (by simp) (by simp [rdgC])
  · simp [ltS_alt, ltS_no, -getElem?_pos, hx1, hx2, hd40, ht40, unpvs_app2, rdgC]
    rw [← hR]
    simp [rdgP, unpvs_app2, ht40, hd40, hx1, hx2]
theorem kinds_at {kind : Nat} (hk : kind ≤ 3) : [PV.agg [kfP 0], .agg [kfP 1], .agg [kfP 2], .agg [kfP 3]][kind]? = some (.agg [kfP kind]) := by
  match kind, hk with
  | 0, _ => rfl
  | 1, _ => rfl
  | 2, _ => rfl
  | 3, _ => rfl
theorem span1_c (ps : List Pt) (r : Rl) (hp : cvOk ps = true) (hr : r.ok = true) (kind : Nat) (hk : kind ≤ 3) (a b : List Int) (ha : loadsB ps a) (hb : loadsB ps b) (he : Gives Tryz.prog 120 [rdgP ps r, .int .u8 kind] (.tup [.agg (padX a ++ padX b), .bool true])) :
    Gives Tryz.prog 36 [cvP ps, r.pv, .int .u8 kind] (.tup [.agg [.int .i64 (numM r ps kind a), .int .i64 (numM r ps kind b)], .int .i64 0]) := by
  have c1 := casked_c ps r hp hr kind hk a b ha hb he
  have hlen := cv_len hp
  have la := rlist_c ps r a hlen.1 hlen.2 ha.1
  have lb := rlist_c ps r b hlen.1 hlen.2 hb.1
  have ra := result_c ps r a hp hr ha
  have rb := result_c ps r b hp hr hb
  obtain ⟨f, n, h3, h4⟩ := kindF_c r ps a kind hk
  obtain ⟨f', n', h3', h4'⟩ := kindF_c r ps b kind hk
  rw [h3] at h3'
  cases h3'
  have hq := quantities_c
  have hkp : kindsP = .lst false 1 [.agg [kfP 0], .agg [kfP 1], .agg [kfP 2], .agg [kfP 3]] := rfl
  have hki := kinds_at hk
  rw [h3] at hki
  rw [hkp] at hq
  have hx1 := padX_len (l := a) (by have := ha.1; omega)
  have hx2 := padX_len (l := b) (by have := hb.1; omega)
  have g1 := tk20 (A := padX a) (B := padX b) hx1
  have g2 := dr20 (A := padX a) (B := padX b) hx1
  have t2 : List.take 20 (List.map AV.pv (padX b)) = List.map AV.pv (padX b) := padC_take (by have := hb.1; omega)
  have ht40 : List.take 40 (List.map AV.pv (padX a) ++ List.map AV.pv (padX b)) = List.map AV.pv (padX a) ++ List.map AV.pv (padX b) := List.take_of_length_le (by simp [hx1, hx2])
  unfold padP at la lb
  generalize padX a = XL at *
  generalize padX b = XH at *
  generalize [PV.agg [kfP 0], .agg [kfP 1], .agg [kfP 2], .agg [kfP 3]] = KP at *
  refine calls_of_awpS mixed L36_ok (Nat.le_of_ble_eq_true rfl) ?_
  generalize hR : (fun (q : AV) (B : List (Site × Box)) => q = .pv (.tup [.agg [.int .i64 (numM r ps kind a), .int .i64 (numM r ps kind b)], .int .i64 0]) ∧ B = []) = R
  simp [-getElem?_pos, L36, cvP, Rl.pv]
  refine .inl (call_pv [] (fs := []) (xs := [cvP ps, r.pv, .int .u8 kind]) (cs := []) rfl rfl c1 ?_)
  simp [-getElem?_pos, rdgP, hx1, hx2, g1, g2, t2, ht40, unpvs_pv, unpvs_app2]
  refine call_pv [] (fs := []) (xs := []) (cs := []) rfl rfl hq ?_
  simp [-getElem?_pos, hki, purge_comp]
  refine call_pv [] (fs := []) (xs := [rdgP ps r, .agg XL]) (cs := []) rfl rfl la ?_
  simp [-getElem?_pos, purge_comp]
  refine call_pv [] (fs := []) (xs := [rdgP ps r, intsR a]) (cs := []) rfl rfl ra ?_
  simp [-getElem?_pos, purge_comp]
  refine call_gives (k := 0) (fs := []) (xs := [resP r ps a]) (cs := []) rfl rfl h4 rfl ?_
  simp [-getElem?_pos, hx1, hx2, g1, g2, t2, ht40, unpvs_pv, unpvs_app2, purge_comp]
  refine call_pv [] (fs := []) (xs := []) (cs := []) rfl rfl hq ?_
  simp [-getElem?_pos, hki, purge_comp]
  refine call_pv [] (fs := []) (xs := [rdgP ps r, .agg XH]) (cs := []) rfl rfl lb ?_
  simp [-getElem?_pos, purge_comp]
  refine call_pv [] (fs := []) (xs := [rdgP ps r, intsR b]) (cs := []) rfl rfl rb ?_
  simp [-getElem?_pos, purge_comp]
  refine call_gives (k := 0) (fs := []) (xs := [resP r ps b]) (cs := []) rfl rfl h4' rfl ?_
  simp [-getElem?_pos]
  rw [← hR]
  exact ⟨rfl, rfl⟩
end Go.Proofs.YtaffbiibcfeigaaGreat
