/- The statement TopLimited answers true. (Several texts in one.) -/
import Derived.Test.YtaffbiibcfeigaaGreatLmC
import Derived.Test.YtaffbiibcfeigaaGreatLmF
import Derived.Test.YtaffbiibcfeigaaGreatRows
import Derived.WalkKit
import Derived.ProofKit
import Derived.OpenShut
set_option linter.unusedVariables false
set_option linter.unusedSimpArgs false
/-! The statement TopLimited answers true. -/
namespace Go.Proofs.YtaffbiibcfeigaaGreat
open Go.RowKit

set_option maxRecDepth 100000
set_option linter.unusedSimpArgs false
attribute [local simp] Box.purge Site.isLoc
attribute [local simp] retFz frzL AS.frz AV.frz AV.frzL Box.frz AS.tidy AS.frzC frzsL
def cvsP (cs : List (List Pt)) : PV := .lst false 1 (cs.map cvP)
theorem u8_id {x : Int} (h : 0 ≤ x ∧ x ≤ 255) : IntKind.u8.wrap x = x := by
  show x % 256 = x
  omega
/-- The slots that stay. -/
def tlS (cs : List (List Pt)) (x : Lm) (a b st lo : Int) (k : Nat) : List (Nat × AV) := [(0, .pv (cvsP cs)), (3, .pv (.int .u8 a)), (4, .pv (.int .u8 b)), (5, .pv (.int .u16 st)), (6, .pv (.int .u16 lo)), (7, .pv (u16sR x.ws)), (9, .ptr (.loc 9 0) 0), (17, .pv (.int .i64 x.n)), (18, .pv (.int .i64 x.by_)),
  (19, .vec (.loc 129 0) 1 0 k), (20, .vec (.loc 137 0) 1 0 k), (21, .vec (.loc 145 0) 1 0 k), (22, .vec (.loc 153 0) 1 0 k), (23, .pv (.int .i64 k))]
def tlB (x : Lm) (L H T U : List PV) : List (Site × Box) := [(.loc 153 0, .arr 5 1 U), (.loc 145 0, .arr 3 1 T), (.loc 137 0, .arr 3 1 H), (.loc 129 0, .arr 3 1 L), (.loc 9 0, .cells [.pv (.int .i64 x.r.drop), .pv (.int .i64 x.r.slope), .pv (.int .i64 x.r.offs)])]
def tlA (cs : List (List Pt)) (x : Lm) (a b st lo : Int) (k : Nat) (c : List Pt) (s1 s2 : Int) (B : List (Site × Box)) : AS := ⟨(80, .pv (.int .i64 0)) :: (25, .ptr (.loc 25 0) 0) :: (24, .ptr (.loc 24 0) 0) :: tlS cs x a b st lo k, (.loc 25 0, .cells [.pv (.int .i64 s1), .pv (.int .i64 s2)]) :: (.loc 24 0, .cells [.pv (ptsP c)]) :: B⟩
/-- Behind what is read in the truth. -/
def tlC (cs : List (List Pt)) (x : Lm) (a b st lo : Int) (k : Nat) (s1 s2 s3 : Int) (Z : List AV) (B : List (Site × Box)) : AS := ⟨(26, .pv (.int .i64 0)) :: (91, .pv (.int .i64 0)) :: (27, .ptr (.loc 27 0) 0) :: (25, .ptr (.loc 25 0) 0) :: tlS cs x a b st lo k, (.loc 27 0, .cells (.pv (.int .i64 s3) :: Z)) :: (.loc 25 0, .cells [.pv (.int .i64 s1), .pv (.int .i64 s2)]) :: B⟩
/-- Behind the first two appends. -/
def tlD (cs : List (List Pt)) (x : Lm) (a b st lo : Int) (k : Nat) (s3 : Int) (B : List (Site × Box)) : AS := ⟨[(0, .pv (cvsP cs)), (3, .pv (.int .u8 a)), (4, .pv (.int .u8 b)), (5, .pv (.int .u16 st)), (6, .pv (.int .u16 lo)), (7, .pv (u16sR x.ws)), (9, .ptr (.loc 9 0) 0), (17, .pv (.int .i64 x.n)), (18, .pv (.int .i64 x.by_)),
  (129, .vec (.loc 129 0) 1 0 (k + 1)), (137, .vec (.loc 137 0) 1 0 (k + 1)), (140, .pv (.int .i64 s3)), (141, .pv (.int .i64 x.by_)), (142, .pv (.int .i64 x.n)), (138, .vec (.loc 145 0) 1 0 k), (22, .vec (.loc 153 0) 1 0 k), (23, .pv (.int .i64 k))], B⟩
def tlK (cs : List (List Pt)) (x : Lm) (a b st lo : Int) (k : Nat) : AS := ⟨tlS cs x a b st lo k, tlB x (((cs.take k).map x.lo).map intR) (((cs.take k).map x.hi).map intR) (((cs.take k).map x.tr).map intR) (((cs.take k).map x.tr).map u8P)⟩
/-- The head of the loop over the ranks. -/
def tlZ (S : St) (x : Lm) (LL HH TT : List PV) (i : Nat) : AS := ⟨[(29, .ptr (.loc 29 0) 0), (30, .pv (.lst false 1 TT)), (19, .pv (.lst false 1 LL)), (20, .pv (.lst false 1 HH)), (21, .pv (.lst false 1 TT)), (32, .pv (.int .i64 i))], [(.loc 29 0, .cells [.pv (.int .i64 x.n), .pv (.int .i64 S.start), .pv (.lst false 2 (S.runs.map Rn.pv))])]⟩
set_option maxHeartbeats 32000000 in
theorem topLimited_law (cs : List (List Pt)) (r : Rl) (step a b st lo : Int) (ws : List Int) (hcl : ∀ c ∈ cs, c.length ≤ 9223372036854775807) (hs : 0 ≤ step ∧ step ≤ 65535) (ha : 0 ≤ a ∧ a ≤ 255) (hb : 0 ≤ b ∧ b ≤ 255) (hst : 0 ≤ st ∧ st ≤ 65535) (hlo : 0 ≤ lo ∧ lo ≤ 65535) (hws : ∀ w ∈ ws, 0 ≤ w ∧ w ≤ 65535) (hwl : ws.length ≤ 9223372036854775807) :
    Gives Tryz.prog 6 [cvsP cs, r.pv, .int .u16 step, .int .u8 a, .int .u8 b, .int .u16 st, .int .u16 lo, u16sR ws] (.bool true) := by
  have hlim := limited_c
  have hrl := isrule_c r
  refine calls_of_awpS mixed LtopLimited_ok (Nat.le_of_ble_eq_true rfl) ?_
  generalize hR : (fun (q : AV) (B : List (Site × Box)) => q = .pv (.bool true) ∧ B = []) = R
  cases h12 : decide ((cs.length : Int) > 12)
  case true =>
    simp [-getElem?_pos, -decide_eq_true_eq, -decide_eq_false_iff_not, -gt_iff_lt, LtopLimited, cvsP, Rl.pv, u16sR, h12]
    refine call_gives (k := 0) (fs := []) (xs := []) (cs := []) rfl rfl hlim rfl ?_
    simp [-getElem?_pos]
    rw [← hR]
    exact ⟨rfl, rfl⟩
  simp [-getElem?_pos, -decide_eq_true_eq, -decide_eq_false_iff_not, -gt_iff_lt, LtopLimited, cvsP, Rl.pv, u16sR, h12]
  refine call_gives (k := 0) (fs := []) (xs := [r.pv]) (cs := []) rfl rfl hrl rfl ?_
  cases hr : r.ok
  case false =>
    simp [-getElem?_pos, hr]
    refine call_gives (k := 0) (fs := []) (xs := []) (cs := []) rfl rfl hlim rfl ?_
    simp [-getElem?_pos]
    rw [← hR]
    exact ⟨rfl, rfl⟩
  have h12' : cs.length ≤ 12 := by have := of_decide_eq_false h12; omega
  obtain ⟨x, hx⟩ : ∃ x : Lm, x = ⟨r, ws, 1 + step, skL a⟩ := ⟨_, rfl⟩
  have hLn := skL_in ha
  have hxo : x.ok := by subst hx; exact ⟨hr, hws, hwl, by simp only; omega, hLn⟩
  have hx1 : x.n = skL a := by rw [hx]
  have hx2 : x.by_ = 1 + step := by rw [hx]
  have hx3 : x.r = r := by rw [hx]
  have hx4 : x.ws = ws := by rw [hx]
  have wa : IntKind.i64.wrap a = a := wrap64 (by omega)
  have ws1 : IntKind.i64.wrap step = step := wrap64 (by omega)
  have ws2 : IntKind.i64.wrap (1 + step) = x.by_ := by rw [hx2]; exact wrap64 (by omega)
  have wa2 : IntKind.i64.wrap (1 + a.tmod 8) = x.n := by
    have h1 := Int.tmod_nonneg 8 ha.1
    have h2 := Int.tmod_lt_of_pos a (show (0 : Int) < 8 by omega)
    rw [hx1, wrap64 (by omega)]; rfl
  simp [-getElem?_pos, hr, wa, ws1, ws2, wa2]
  have hx5 : u16sR ws = u16sR x.ws := by rw [hx4]
  refine awp_loopS (fun m τ => ∃ k : Nat, k ≤ cs.length ∧ m = cs.length - k ∧ (∀ c ∈ cs.take k, cvOk c = true) ∧ τ = tlK cs x a b st lo k) ⟨cs.length, tlK cs x a b st lo 0, ?_, 0, Nat.zero_le _, rfl, (fun c hc => by simp at hc), rfl⟩ ?_
  · refine Sub.trans' (Sub.mk ?_ ?_) (Sub.trans' (vecT 129 3 1 19 rfl (by decide)) (Sub.trans' (vecT 137 3 1 20 rfl (by decide)) (Sub.trans' (vecT 145 3 1 21 rfl (by decide)) (vecT 153 5 1 22 rfl (by decide)))))
    · simp [tlK, tlS, AS.vecT, cvsP, u16sR, hx4]
    · simp [tlK, tlB, AS.vecT, hx3]
  rintro J hJ m τ ⟨k, hk, rfl, hok, rfl⟩
  by_cases hlt : k < cs.length
  · obtain ⟨c, hc⟩ : ∃ c, cs[k]? = some c := ⟨cs[k], List.getElem?_eq_getElem hlt⟩
    have hg : (cs.map cvP)[k]? = some (.agg [ptsP c]) := by rw [List.getElem?_map, hc]; rfl
    have hw := wrapR (k := k) (by omega)
    have hmeas : cs.length - (k + 1) < cs.length - k := by omega
    have hth := cthin_c c
    have hround : cvOk c = true → J (cs.length - (k + 1)) (tlK cs x a b st lo (k + 1)) := fun h => hJ _ _ ⟨k + 1, hlt, rfl, (fun d hd => by
      rw [List.take_add_one, hc] at hd
      rcases List.mem_append.1 hd with hd | hd
      · exact hok d hd
      · simp at hd; subst hd; exact h), rfl⟩
    clear hJ
    have htk : ∀ {α : Type} (f : List Pt → α), (cs.take (k + 1)).map f = (cs.take k).map f ++ [f c] := fun f => by rw [List.take_add_one, hc]; simp
    have htl : ∀ {α : Type} (f : List Pt → α), ((cs.take k).map f).length = k := fun f => by rw [List.length_map, List.length_take]; omega
    unfold tlK at hround
    rw [htk x.lo, htk x.hi, htk x.tr, List.map_append, List.map_append, List.map_append, List.map_append] at hround
    unfold tlK
    have hLL : (((cs.take k).map x.lo).map intR).length = k := by rw [List.length_map, htl]
    have hHH : (((cs.take k).map x.hi).map intR).length = k := by rw [List.length_map, htl]
    have hTT : (((cs.take k).map x.tr).map intR).length = k := by rw [List.length_map, htl]
    have hUU : (((cs.take k).map x.tr).map u8P).length = k := by rw [List.length_map, htl]
    clear htk htl
    generalize ((cs.take k).map x.lo).map intR = LL at *
    generalize ((cs.take k).map x.hi).map intR = HH at *
    generalize ((cs.take k).map x.tr).map intR = TT at *
    generalize ((cs.take k).map x.tr).map u8P = UU at *
    cases e1 : decide (c.length ≤ 25)
    case false =>
      simp [-getElem?_pos, -decide_eq_true_eq, -decide_eq_false_iff_not, -gt_iff_lt, -List.getElem?_map, tlS, tlB, cvsP, hlt, hg, nblt]
      refine call_gives (k := 0) (fs := []) (xs := [cvP c]) (cs := []) rfl rfl hth rfl ?_
      simp [-getElem?_pos, -decide_eq_true_eq, -decide_eq_false_iff_not, -gt_iff_lt, e1]
      refine call_gives (k := 0) (fs := []) (xs := []) (cs := []) rfl rfl hlim rfl ?_
      simp [-getElem?_pos]
      rw [← hR]
      exact ⟨rfl, rfl⟩
    have hc25 := of_decide_eq_true e1
    have hfa := cfault_c c (by omega)
    simp [-getElem?_pos, -decide_eq_true_eq, -decide_eq_false_iff_not, -gt_iff_lt, -List.getElem?_map, tlS, tlB, cvsP, hlt, hg, nblt]
    refine call_gives (k := 0) (fs := []) (xs := [cvP c]) (cs := []) rfl rfl hth rfl ?_
    simp [-getElem?_pos, -decide_eq_true_eq, -decide_eq_false_iff_not, -gt_iff_lt, e1]
    refine call_gives (k := 0) (fs := []) (xs := [cvP c]) (cs := []) rfl rfl hfa rfl ?_
    cases e2 : decide (cvErr c = 0)
    case false =>
      simp [-getElem?_pos, -decide_eq_true_eq, -decide_eq_false_iff_not, -gt_iff_lt, e2]
      refine call_gives (k := 0) (fs := []) (xs := []) (cs := []) rfl rfl hlim rfl ?_
      simp [-getElem?_pos]
      rw [← hR]
      exact ⟨rfl, rfl⟩
    have hcv : cvOk c = true := by
      have := of_decide_eq_true e2
      unfold cvErr at this
      split at this
      · cases this
      · split at this
        · assumption
        · cases this
    have hcu := curve_c c (by omega)
    have hru := rule_c x.r
    have hrx : x.r.ok = true := hxo.r
    have hlo1 := tru_loads hcv (lo_tru hcv)
    have hhi1 := tru_loads hcv (hi_tru hcv)
    have hsp := span1_c c x.r hcv hrx 0 (by omega) (loL c) (hiL c) hlo1 hhi1 (ends0_c c x.r hcv hrx 0 (.inl rfl))
    have hpt := pickM_tru hcv hxo.w
    have hpk := picked_c c x.ws hcv hxo.w hxo.l
    have hrd := cread1_c c x.r _ hcv hrx hpt
    obtain ⟨q1, q2⟩ := num0_in hxo hcv
    have q3 := num0_bd (r := x.r) hcv hlo1
    have q4 := num0_bd (r := x.r) hcv hhi1
    have q5 := num0_bd (r := x.r) hcv (tru_loads hcv hpt)
    have g1 : x.lo c = hldM x.by_ x.n (numM x.r c 0 (loL c)) := rfl
    have g2 : x.hi c = hldM x.by_ x.n (numM x.r c 0 (hiL c)) := rfl
    have g3 : x.tr c = hldM x.by_ x.n (numM x.r c 0 (pickM c x.ws c.length)) := rfl
    have g4 := Lm.tr_in hxo hcv
    obtain ⟨z1, z2, z3, z4, z5, z6, hrp⟩ : ∃ z1 z2 z3 z4 z5 z6, resP x.r c (pickM c x.ws c.length) = .agg [.int .i64 (numM x.r c 0 (pickM c x.ws c.length)), .int .i64 z1, .int .i64 z2, .int .i64 z3, .int .i64 z4, .int .i64 z5, .int .i64 z6] := ⟨_, _, _, _, _, _, rfl⟩
    rw [hrp] at hrd
    generalize numM x.r c 0 (loL c) = n1 at *
    generalize numM x.r c 0 (hiL c) = n2 at *
    generalize numM x.r c 0 (pickM c x.ws c.length) = n3 at *
    simp [-getElem?_pos, -decide_eq_true_eq, -decide_eq_false_iff_not, -gt_iff_lt, e2, tlB]
    refine ltS_seq (tlA cs x a b st lo k c n1 n2 (tlB x LL HH TT UU)) ?_ ?_
    · simp [ltS_alt, ltS_no, -getElem?_pos]
      repeat' (first
        | (with_reducible refine And.intro ?_ ?_)
        | (refine call_pv [] (fs := []) (xs := [cvP c]) (cs := []) rfl rfl hcu ?_; simp [ltS_alt, ltS_no, -getElem?_pos])
        | (refine .inl (call_pv [] (fs := []) (xs := [cvP c]) (cs := []) rfl rfl hcu ?_); simp [ltS_alt, ltS_no, -getElem?_pos])
        | (refine call_pv [] (fs := []) (xs := [x.r.pv]) (cs := []) rfl rfl hru ?_; simp [ltS_alt, ltS_no, -getElem?_pos])
        | (refine .inl (call_pv [] (fs := []) (xs := [x.r.pv]) (cs := []) rfl rfl hru ?_); simp [ltS_alt, ltS_no, -getElem?_pos])
        | (refine call_pv [] (fs := []) (xs := [cvP c, x.r.pv, .int .u8 0]) (cs := []) rfl rfl hsp ?_; simp [ltS_alt, ltS_no, -getElem?_pos])
        | (refine .inl (call_pv [] (fs := []) (xs := [cvP c, x.r.pv, .int .u8 0]) (cs := []) rfl rfl hsp ?_); simp [ltS_alt, ltS_no, -getElem?_pos])
        | exact Sub.mk (by simp [tlA, tlS, cvsP]) (by simp [tlA, tlB]))
    simp [-getElem?_pos, -decide_eq_true_eq, -decide_eq_false_iff_not, -gt_iff_lt, tlA, tlS, tlB, cvsP]
    refine ltS_seq (tlC cs x a b st lo k n1 n2 n3 [.pv (.int .i64 z1), .pv (.int .i64 z2), .pv (.int .i64 z3), .pv (.int .i64 z4), .pv (.int .i64 z5), .pv (.int .i64 z6)] (tlB x LL HH TT UU)) ?_ ?_
    · simp [ltS_alt, ltS_no, -getElem?_pos]
      repeat' (first
        | (with_reducible refine And.intro ?_ ?_)
        | (refine call_pv [] (fs := []) (xs := [cvP c]) (cs := []) rfl rfl hcu ?_; simp [ltS_alt, ltS_no, -getElem?_pos])
        | (refine .inl (call_pv [] (fs := []) (xs := [cvP c]) (cs := []) rfl rfl hcu ?_); simp [ltS_alt, ltS_no, -getElem?_pos])
        | (refine call_pv [] (fs := []) (xs := [x.r.pv]) (cs := []) rfl rfl hru ?_; simp [ltS_alt, ltS_no, -getElem?_pos])
        | (refine .inl (call_pv [] (fs := []) (xs := [x.r.pv]) (cs := []) rfl rfl hru ?_); simp [ltS_alt, ltS_no, -getElem?_pos])
        | (refine call_pv [] (fs := []) (xs := [cvP c, u16sR x.ws]) (cs := []) rfl rfl hpk ?_; simp [ltS_alt, ltS_no, -getElem?_pos])
        | (refine .inl (call_pv [] (fs := []) (xs := [cvP c, u16sR x.ws]) (cs := []) rfl rfl hpk ?_); simp [ltS_alt, ltS_no, -getElem?_pos])
        | (refine call_pv [] (fs := []) (xs := [cvP c, x.r.pv, intsR (pickM c x.ws c.length)]) (cs := []) rfl rfl hrd ?_; simp [ltS_alt, ltS_no, -getElem?_pos])
        | (refine .inl (call_pv [] (fs := []) (xs := [cvP c, x.r.pv, intsR (pickM c x.ws c.length)]) (cs := []) rfl rfl hrd ?_); simp [ltS_alt, ltS_no, -getElem?_pos])
        | exact Sub.mk (by simp [tlC, tlS, cvsP]) (by simp [tlC, tlB]))
    have d1 : decide (n3 < n1) = false := decide_eq_false (by omega)
    have d2 : decide (n3 > n2) = false := decide_eq_false (by omega)
    have d3 : decide (n1 < 0) = false := decide_eq_false (by omega)
    have d4 : decide (n2 > 100000) = false := decide_eq_false (by omega)
    have hk6 : k + 1 ≤ 1000000 := by omega
    have hh1 := holds_c n1 x.by_ x.n q3 hxo.b
    have hh2 := holds_c n2 x.by_ x.n q4 hxo.b
    have hh3 := holds_c n3 x.by_ x.n q5 hxo.b
    rw [← g1] at hh1
    rw [← g2] at hh2
    rw [← g3] at hh3
    simp [-getElem?_pos, -decide_eq_true_eq, -decide_eq_false_iff_not, -gt_iff_lt, tlC, tlS, tlB, cvsP, d1, d2, d3, d4]
    refine ltS_seq (tlD cs x a b st lo k n3 (tlB x (LL ++ [.int .i64 (x.lo c)]) (HH ++ [.int .i64 (x.hi c)]) TT UU)) ?_ ?_
    · simp [ltS_alt, ltS_no, -getElem?_pos, nble, nblt, hLL, hHH, hk6]
      repeat' (first
        | (with_reducible refine And.intro ?_ ?_)
        | (refine call_give (k := 0) (fs := []) (xs := [.int .i64 n1, .int .i64 x.by_, .int .i64 x.n]) (cs := []) rfl rfl hh1 rfl ?_; simp [ltS_alt, ltS_no, -getElem?_pos, nble, nblt, hLL, hHH, hk6])
        | (refine call_gives (k := 0) (fs := []) (xs := [.int .i64 n1, .int .i64 x.by_, .int .i64 x.n]) (cs := []) rfl rfl hh1 rfl ?_; simp [ltS_alt, ltS_no, -getElem?_pos, nble, nblt, hLL, hHH, hk6])
        | (refine call_give (k := 0) (fs := []) (xs := [.int .i64 n2, .int .i64 x.by_, .int .i64 x.n]) (cs := []) rfl rfl hh2 rfl ?_; simp [ltS_alt, ltS_no, -getElem?_pos, nble, nblt, hLL, hHH, hk6])
        | (refine call_gives (k := 0) (fs := []) (xs := [.int .i64 n2, .int .i64 x.by_, .int .i64 x.n]) (cs := []) rfl rfl hh2 rfl ?_; simp [ltS_alt, ltS_no, -getElem?_pos, nble, nblt, hLL, hHH, hk6])
        | exact Sub.mk (by simp [tlD, cvsP]) (by simp [tlD, tlB]))
    simp [-getElem?_pos, -decide_eq_true_eq, -decide_eq_false_iff_not, -gt_iff_lt, tlD, tlB, cvsP]
    have hgT : (TT ++ [PV.int .i64 (x.tr c)])[k]? = some (.int .i64 (x.tr c)) := by rw [List.getElem?_append_right (by omega), hTT, Nat.sub_self]; rfl
    have hu8 := u8_id (x := x.tr c) (by have := hxo.n; omega)
    have hTT1 : (TT ++ [PV.int .i64 (x.tr c)]).length = k + 1 := by rw [List.length_append, hTT]; rfl
    have hround' := hround hcv
    clear hround
    simp [ltS_alt, ltS_no, -getElem?_pos]
    refine call_gives (k := 0) (fs := []) (xs := [.int .i64 n3, .int .i64 x.by_, .int .i64 x.n]) (cs := []) rfl rfl hh3 rfl ?_
    simp [ltS_alt, ltS_no, -getElem?_pos, nble, nblt, hTT, hk6]
    simp [-getElem?_pos, nble, nblt, hgT, hu8, hUU, hk6, hw]
    exact ⟨_, _, hmeas, Sub.mk (by simp [tlS, cvsP]) (by simp [tlB, intR, u8P]), hround'⟩
  · have he : k = cs.length := by omega
    subst he
    clear hJ hlt
    rw [List.take_length] at hok
    have hbl : ∀ y ∈ cs.map x.tr, 0 ≤ y ∧ y ≤ 255 := fun y hy => by
      obtain ⟨c, h1, rfl⟩ := List.mem_map.1 hy
      have := Lm.tr_in hxo (hok c h1)
      have := hxo.n
      omega
    have hsk := shaken_t a b (cs.map x.tr) st lo ha hb hbl hst hlo
    have hLi := skLims_id hxo hx1 h12' hok
    rw [hLi] at hsk
    have hrk := fun (i : Nat) (y : Int) (hy : (sortI (cs.map x.tr))[i]? = some y) => skT_rank (a := a) (b := b) ha hb hbl st lo (i := i) (x := y) (by rw [hLi]; exact hy)
    have hpo := skT_possible ha hb (cs.map x.tr) st lo
    have hTl := skT_len a b (cs.map x.tr) st lo
    have hlev : (skT a b (cs.map x.tr) st lo).levels = x.n := hx1.symm
    have hTl' : (skT a b (cs.map x.tr) st lo).runs.length = cs.length := by rw [hTl, List.length_take, List.length_map]; omega
    generalize skT a b (cs.map x.tr) st lo = S at *
    generalize skD a b (cs.map x.tr) st = D at *
    have hst' := stairs_c S (by omega)
    have hSv : S.pv = .agg [.int .i64 S.levels, .int .i64 S.start, .lst false 2 (S.runs.map Rn.pv)] := rfl
    rw [hSv, hlev] at hsk
    have hm1 : (List.map intR (cs.map x.lo)).take cs.length = List.map intR (cs.map x.lo) := List.take_of_length_le (by simp)
    have hm2 : (List.map intR (cs.map x.hi)).take cs.length = List.map intR (cs.map x.hi) := List.take_of_length_le (by simp)
    have hm3 : (List.map intR (cs.map x.tr)).take cs.length = List.map intR (cs.map x.tr) := List.take_of_length_le (by simp)
    have hm4 : (List.map u8P (cs.map x.tr)).take cs.length = List.map u8P (cs.map x.tr) := List.take_of_length_le (by simp)
    have hn1 : (List.map intR (cs.map x.lo)).length = cs.length := by simp
    have hn2 : (List.map intR (cs.map x.hi)).length = cs.length := by simp
    have hn3 : (List.map intR (cs.map x.tr)).length = cs.length := by simp
    have hn4 : (List.map u8P (cs.map x.tr)).length = cs.length := by simp
    have hs1 := fun h0 => sorted_c (cs.map x.lo) h0 (by simp; omega)
    have hs2 := fun h0 => sorted_c (cs.map x.tr) h0 (by simp; omega)
    have hs3 := fun h0 => sorted_c (cs.map x.hi) h0 (by simp; omega)
    have q1 : intsP (cs.map x.lo) = .lst false 1 (List.map intR (cs.map x.lo)) := rfl
    have q2 : intsP (cs.map x.hi) = .lst false 1 (List.map intR (cs.map x.hi)) := rfl
    have q3 : intsP (cs.map x.tr) = .lst false 1 (List.map intR (cs.map x.tr)) := rfl
    have q4 : u8sP (cs.map x.tr) = .lst false 1 (List.map u8P (cs.map x.tr)) := rfl
    rw [q3, q4] at hsk
    rw [q1] at hs1
    rw [q2] at hs3
    rw [q3] at hs2
    unfold tlK
    rw [List.take_length]
    have hI := fun (i : Nat) (hi : i < cs.length) => (⟨sort_at (f := x.lo) hi, sort_at (f := x.tr) hi, sort_at (f := x.hi) hi⟩ : (∃ y, _ = some y) ∧ (∃ y, _ = some y) ∧ (∃ y, _ = some y))
    have hle1 := fun (i : Nat) (y z : Int) (h1 : (sortI (cs.map x.lo))[i]? = some y) (h2 : (sortI (cs.map x.tr))[i]? = some z) => sort_le (fun c hc => Lm.lo_tr hxo (hok c hc)) h1 h2
    have hle2 := fun (i : Nat) (y z : Int) (h1 : (sortI (cs.map x.tr))[i]? = some y) (h2 : (sortI (cs.map x.hi))[i]? = some z) => sort_le (fun c hc => Lm.tr_hi hxo (hok c hc)) h1 h2
    have hz1 : cs.map x.lo ≠ [] ↔ 0 < cs.length := by cases cs <;> simp
    have hz2 : cs.map x.tr ≠ [] ↔ 0 < cs.length := by cases cs <;> simp
    have hz3 : cs.map x.hi ≠ [] ↔ 0 < cs.length := by cases cs <;> simp
    have hv1 := sortI_len (cs.map x.lo)
    have hv2 := sortI_len (cs.map x.tr)
    have hv3 := sortI_len (cs.map x.hi)
    rw [List.length_map] at hv1 hv2 hv3
    generalize List.map u8P (cs.map x.tr) = UU at *
    generalize List.map intR (cs.map x.lo) = LL at *
    generalize List.map intR (cs.map x.hi) = HH at *
    generalize List.map intR (cs.map x.tr) = TT at *
    simp [-getElem?_pos, tlS, tlB, cvsP]
    refine .inl (call_pv [.loc 129 0, .loc 137 0, .loc 145 0, .loc 153 0] (fs := []) (xs := [.int .u8 a, .int .u8 b, .lst false 1 UU, .int .u16 st, .int .u16 lo]) (cs := []) rfl ?_ hsk ?_)
    · simp [hm1, hm2, hm3, hm4, hn1, hn2, hn3, hn4]
    simp [-getElem?_pos, hm1, hm2, hm3, hm4, hn1, hn2, hn3, hn4]
    refine awp_loopS (fun m τ => ∃ i : Nat, i ≤ cs.length ∧ m = cs.length - i ∧ τ = tlZ S x LL HH TT i) ⟨cs.length, tlZ S x LL HH TT 0, Sub.mk (by simp [tlZ]) (by simp [tlZ]), 0, Nat.zero_le _, rfl, rfl⟩ ?_
    rintro J hJ m τ ⟨i, hi, rfl, rfl⟩
    by_cases hlt : i < cs.length
    · have hw := wrapR (k := i) (by omega)
      have hmeas : cs.length - (i + 1) < cs.length - i := by omega
      have hround := hJ _ _ ⟨i + 1, hlt, rfl, rfl⟩
      clear hJ
      obtain ⟨⟨y1, hy1⟩, ⟨y2, hy2⟩, ⟨y3, hy3⟩⟩ := hI i hlt
      have c1 := hle1 i _ _ hy1 hy2
      have c2 := hle2 i _ _ hy2 hy3
      obtain ⟨c3, c4⟩ := hrk i y2 hy2
      have hs1 := hs1 (hz1.2 (by omega))
      have hs2 := hs2 (hz2.2 (by omega))
      have hs3 := hs3 (hz3.2 (by omega))
      have hr1 := rank_c S (by omega) i
      rw [St.rank_at hpo (by omega)] at hr1
      generalize (S.endS i false).lim = u at *
      generalize (S.endS i true).lim = v at *
      simp only [rangeP] at hr1
      have g1 : ((sortI (cs.map x.lo)).map intP)[i]? = some (.int .i64 y1) := by rw [List.getElem?_map, hy1]; rfl
      have g2 : ((sortI (cs.map x.tr)).map intP)[i]? = some (.int .i64 y2) := by rw [List.getElem?_map, hy2]; rfl
      have g3 : ((sortI (cs.map x.hi)).map intP)[i]? = some (.int .i64 y3) := by rw [List.getElem?_map, hy3]; rfl
      have l1 : ((sortI (cs.map x.lo)).map intP).length = cs.length := by rw [List.length_map]; exact hv1
      have l2 : ((sortI (cs.map x.tr)).map intP).length = cs.length := by rw [List.length_map]; exact hv2
      have l3 : ((sortI (cs.map x.hi)).map intP).length = cs.length := by rw [List.length_map]; exact hv3
      rw [List.length_map] at hs1 hs2 hs3
      clear hI hle1 hle2 hrk hv1 hv2 hv3 hy1 hy2 hy3 hz1 hz2 hz3 q1 q2 q3 q4 hm1 hm2 hm3 hm4 hn1 hn2 hn4 hsk
      generalize (sortI (cs.map x.lo)).map intP = S1 at *
      generalize (sortI (cs.map x.tr)).map intP = S2 at *
      generalize (sortI (cs.map x.hi)).map intP = S3 at *
      have d1 : decide (y2 < y1) = false := decide_eq_false (by omega)
      have d2 : decide (y2 > y3) = false := decide_eq_false (by omega)
      have d3 : decide (y2 < u) = false := decide_eq_false (by omega)
      have d4 : decide (y2 > v) = false := decide_eq_false (by omega)
      have d5 : decide ((if v < y3 then v else y3) < if u > y1 then u else y1) = false := decide_eq_false (by split <;> split <;> omega)
      simp [-getElem?_pos, -decide_eq_true_eq, -decide_eq_false_iff_not, -gt_iff_lt, tlZ, hn3, hlt, nblt]
      refine .inl (call_pv [] (fs := []) (xs := [S.pv]) (cs := []) rfl (by simp [hSv, hlev]) hst' ?_)
      simp [-getElem?_pos, -decide_eq_true_eq, -decide_eq_false_iff_not, -gt_iff_lt]
      refine call_gives (k := 0) (fs := []) (xs := [S.pv, .int .i64 i]) (cs := []) rfl rfl hr1 rfl ?_
      simp [-getElem?_pos, -decide_eq_true_eq, -decide_eq_false_iff_not, -gt_iff_lt]
      refine call_vec [] (fs := []) (xs := [.lst false 1 LL]) (cs := []) rfl rfl hs1 ?_
      simp [-getElem?_pos, -decide_eq_true_eq, -decide_eq_false_iff_not, -gt_iff_lt, hlt, nblt, g1, l1]
      refine call_vec [] (fs := []) (xs := [.lst false 1 TT]) (cs := []) rfl rfl hs2 ?_
      simp [-getElem?_pos, -decide_eq_true_eq, -decide_eq_false_iff_not, -gt_iff_lt, hlt, nblt, g2, l2]
      refine call_vec [] (fs := []) (xs := [.lst false 1 HH]) (cs := []) rfl rfl hs3 ?_
      simp [-getElem?_pos, -decide_eq_true_eq, -decide_eq_false_iff_not, -gt_iff_lt, hlt, nblt, g3, l3, d1, d2, d3, d4, d5, hw]
      exact ⟨_, _, hmeas, Sub.mk (by simp [tlZ]) (by simp [tlZ]), hround⟩
    · have he : i = cs.length := by omega
      subst he
      simp [-getElem?_pos, tlZ, hn3]
      refine call_gives (k := 0) (fs := []) (xs := []) (cs := []) rfl rfl hlim rfl ?_
      simp [-getElem?_pos]
      rw [← hR]
      exact ⟨rfl, rfl⟩
end Go.Proofs.YtaffbiibcfeigaaGreat

/-! The statement TopLimited holds: the ranks of what specimens hold, by curves read within errors, lie between those of the least and of the greatest strengths, and in the spans that the staircase tells. No conditions. -/
namespace Go.Proofs.YtaffbiibcfeigaaGreat
open Go.ChangeShapes Go.WideShapes Go.ChangeAt Go.RowKit

set_option maxRecDepth 100000 in
theorem walkTopLimited (v0 v1 v2 v3 v4 v5 v6 v7 : Value) (W : World) {H : Type} {enc : TypeId × Value → H} {base : Nat} {sp : Nat → Bool} {hd : Bool} {d0 d1 d2 d3 d4 d5 d6 d7 : DataW H} {p0 p1 p2 p3 p4 p5 p6 p7 : List MemPlace}
    (k0 : Value.okWide Tryz.prog W .any base 122 v0) (h0 : DataW.Trod enc Tryz.prog W 0 sp hd 122 v0 d0 p0)
    (k1 : Value.okWide Tryz.prog W .any base 100 v1) (h1 : DataW.Trod enc Tryz.prog W 0 sp hd 100 v1 d1 p1)
    (k2 : Value.okWide Tryz.prog W .any base 32 v2) (h2 : DataW.Trod enc Tryz.prog W 0 sp hd 32 v2 d2 p2)
    (k3 : Value.okWide Tryz.prog W .any base 5 v3) (h3 : DataW.Trod enc Tryz.prog W 0 sp hd 5 v3 d3 p3)
    (k4 : Value.okWide Tryz.prog W .any base 5 v4) (h4 : DataW.Trod enc Tryz.prog W 0 sp hd 5 v4 d4 p4)
    (k5 : Value.okWide Tryz.prog W .any base 32 v5) (h5 : DataW.Trod enc Tryz.prog W 0 sp hd 32 v5 d5 p5)
    (k6 : Value.okWide Tryz.prog W .any base 32 v6) (h6 : DataW.Trod enc Tryz.prog W 0 sp hd 32 v6 d6 p6)
    (k7 : Value.okWide Tryz.prog W .any base 31 v7) (h7 : DataW.Trod enc Tryz.prog W 0 sp hd 31 v7 d7 p7) :
    Calls Tryz.prog 6 #[v0, v1, v2, v3, v4, v5, v6, v7] W fun e w' => e = .returned (.bool true) ∧ Keep [] W w' := by
  obtain ⟨n0, h0⟩ := h0
  obtain ⟨s0, w0, r0⟩ := rk_curves k0 h0
  obtain ⟨n1, h1⟩ := h1
  obtain ⟨s1, w1, r1⟩ := rk_rule k1 h1
  obtain ⟨s2, rfl, rfl, rfl, w2⟩ := open_int Tryz.underlying32 k2 h2
  obtain ⟨s3, rfl, rfl, rfl, w3⟩ := open_int Tryz.underlying5 k3 h3
  obtain ⟨s4, rfl, rfl, rfl, w4⟩ := open_int Tryz.underlying5 k4 h4
  obtain ⟨s5, rfl, rfl, rfl, w5⟩ := open_int Tryz.underlying32 k5 h5
  obtain ⟨s6, rfl, rfl, rfl, w6⟩ := open_int Tryz.underlying32 k6 h6
  obtain ⟨n7, h7⟩ := h7
  obtain ⟨s7, w7, l7, r7⟩ := rd_u16s k7 h7
  refine calls_bool (xs := [.lst false 1 (s0.map cvP), s1.pv, .int .u16 s2, .int .u8 s3, .int .u8 s4, .int .u16 s5, .int .u16 s6, .lst false 1 (s7.map (PV.int .u16))]) (b := true) ((topLimited_law s0 s1 s2 s3 s4 s5 s6 s7 w0 (ku16 w2) (ku8 w3) (ku8 w4) (ku16 w5) (ku16 w6) (fun w hw => by have := w7 w hw; omega) l7).mono (fun _ _ h => h.1)) rfl (fun j v x e1 e2 => ?_)
  match j with
  | 0 => simp at e1 e2; subst e1 e2; exact r0
  | 1 => simp at e1 e2; subst e1 e2; exact r1
  | 2 => simp at e1 e2; subst e1 e2; exact .int .u16 s2
  | 3 => simp at e1 e2; subst e1 e2; exact .int .u8 s3
  | 4 => simp at e1 e2; subst e1 e2; exact .int .u8 s4
  | 5 => simp at e1 e2; subst e1 e2; exact .int .u16 s5
  | 6 => simp at e1 e2; subst e1 e2; exact .int .u16 s6
  | 7 => simp at e1 e2; subst e1 e2; exact r7
  | j + 8 => simp at e1
set_option maxRecDepth 100000 in
theorem liftedTopLimited (os : Os) (started : os.Started) (H : Type) (enc : TypeId × Value → H) :
    ReturnsInHanded {} Tryz.checked os 6 .any (Rows.topLimitedSpec.pre6 enc Tryz.prog Tryz.f6 Rows.topLimitedRow.domain false) (Rows.topLimitedSpec.post enc Tryz.prog Tryz.f6 false true false false) := by
  refine returnsInHanded_of_change (C := Tryz.checked) own started (by kernel_rfl) Tryz.func6
    (ChangeSpec.witness6 (enc := enc) (C := Tryz.checked) false ⟨#[], #[.slice none 0 0, .agg #[.int .i64 0, .int .i64 0, .int .i64 0], .int .u16 0, .int .u8 0, .int .u8 0, .int .u16 0, .int .u16 0, .slice none 0 0], []⟩ 8 (by kernel_rfl) (by kernel_rfl) (by kernel_rfl) (by kernel_rfl)) ?_
  intro W base args ds gs before hval0 hW hcnd _
  have hval : ∀ (j : Nat) t v, Tryz.f6.params[j]? = some t → args[j]? = some v → Value.okWide Tryz.prog W .any base t v := hval0
  have hW' := hW
  obtain ⟨p, q, hA0, hV, rfl, hfz, hnd⟩ := hW
  have hA : DataW.TrodAll enc Tryz.prog W 0 (fun _ => true) true Tryz.f6.params.toList args.toList ds p := hA0
  rw [Tryz.params6] at hA hval
  obtain ⟨v0, vs0, d0, ds0, p0, q0, hargs, rfl, rfl, h0, r0⟩ := trodAll_cons hA
  obtain ⟨v1, vs1, d1, ds1, p1, q1, rfl, rfl, rfl, h1, r1⟩ := trodAll_cons r0
  obtain ⟨v2, vs2, d2, ds2, p2, q2, rfl, rfl, rfl, h2, r2⟩ := trodAll_cons r1
  obtain ⟨v3, vs3, d3, ds3, p3, q3, rfl, rfl, rfl, h3, r3⟩ := trodAll_cons r2
  obtain ⟨v4, vs4, d4, ds4, p4, q4, rfl, rfl, rfl, h4, r4⟩ := trodAll_cons r3
  obtain ⟨v5, vs5, d5, ds5, p5, q5, rfl, rfl, rfl, h5, r5⟩ := trodAll_cons r4
  obtain ⟨v6, vs6, d6, ds6, p6, q6, rfl, rfl, rfl, h6, r6⟩ := trodAll_cons r5
  obtain ⟨v7, vs7, d7, ds7, p7, q7, rfl, rfl, rfl, h7, r7⟩ := trodAll_cons r6
  obtain ⟨rfl, rfl, rfl⟩ := trodAll_nil r7
  have hargs' : args = #[v0, v1, v2, v3, v4, v5, v6, v7] := by
    apply Array.ext'
    exact hargs
  subst hargs'
  have k0 := hval 0 _ v0 rfl rfl
  have k1 := hval 1 _ v1 rfl rfl
  have k2 := hval 2 _ v2 rfl rfl
  have k3 := hval 3 _ v3 rfl rfl
  have k4 := hval 4 _ v4 rfl rfl
  have k5 := hval 5 _ v5 rfl rfl
  have k6 := hval 6 _ v6 rfl rfl
  have k7 := hval 7 _ v7 rfl rfl
  obtain ⟨rfl, rfl⟩ := trodVars_none hV
  refine (walkTopLimited v0 v1 v2 v3 v4 v5 v6 v7 W k0 h0 k1 h1 k2 h2 k3 h3 k4 h4 k5 h5 k6 h6 k7 h7).mono fun e W' ⟨he, hk⟩ => ?_
  subst he
  exact ⟨_, rfl, post_law (tb := 4) laidP rowedP fullP (by decide +kernel) rfl rfl rfl Tryz.underlying4 hW' hk⟩
theorem overTopLimited : Rows.topLimitedRow.holds Tryz.pinned (OpenSpec.ofChange Rows.topLimitedSpec) :=
  OpenClaim.holds_of_wide 6 Tryz.f6 rfl rfl rfl rfl rfl rfl rfl ⟨rfl, rfl, rfl, rfl, rfl⟩ rfl rfl rfl rfl rfl (by kernel_rfl) Tryz.func6 (by kernel_rfl)
    (of_decide_eq_true (by kernel_rfl)) (by unfold Func.isWrapper; first | (rw [if_pos (by decide +kernel)]; kernel_rfl) | (rw [if_neg (by decide +kernel)]; exact ⟨rfl, rfl⟩))
    (fun os started H enc _ => liftedTopLimited os started H enc)
theorem provedTopLimited : Rows.TopLimitedSaid := overTopLimited
end Go.Proofs.YtaffbiibcfeigaaGreat
