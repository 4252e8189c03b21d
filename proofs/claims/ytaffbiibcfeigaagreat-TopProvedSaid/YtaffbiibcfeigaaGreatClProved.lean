/- Top, layers 2 and 6: the law TopProved. (Several texts in one.) -/
import Derived.Test.YtaffbiibcfeigaaGreatTpC
import Derived.Test.YtaffbiibcfeigaaGreatTpB
import Derived.Test.YtaffbiibcfeigaaGreatChK
import Derived.Test.YtaffbiibcfeigaaGreatChH
import Derived.Test.YtaffbiibcfeigaaGreatChC
import Derived.Test.YtaffbiibcfeigaaGreatChF
import Derived.Test.YtaffbiibcfeigaaGreatRows
import Derived.WalkKit
import Derived.ProofKit
import Derived.OpenShut
set_option linter.unusedVariables false
set_option linter.unusedSimpArgs false
/-! Top, layers 2 and 6: the law TopProved. -/
namespace Go.Proofs.YtaffbiibcfeigaaGreat
open Go.RowKit

set_option maxRecDepth 10000
set_option linter.unusedSimpArgs false
theorem fewN_succ (b : Bk) (P : Nat → Bool) (k : Nat) : b.fewN P (k + 1) = if P (k + 1) = true then (b.fewN P k).wo (k + 1 : Nat) else b.fewN P k := rfl
theorem fewN_zero (b : Bk) (P : Nat → Bool) : b.fewN P 0 = b := rfl
attribute [local irreducible] Bk.held Bk.nums Bk.heldU Bk.span Bk.contra trueM wordM Bk.fewN
attribute [local simp] AS.exp expG Box.ren AV.map AV.mapL outsOk noRet Site.isRet Box.allS AV.allS AV.allSL retB dropL AS.adds renL outG outOk lentBx inG fnOf lookA List.findIdx?_cons
attribute [local simp] Box.purge Site.isLoc
attribute [local simp] retFz frzL AS.frz AV.frz AV.frzL Box.frz AS.tidy AS.frzC
def bitP (bits : Int) (n : Nat) : Bool := decide ((bits.fdiv (2 ^ min (n % 31) IntKind.u32.bits)).tmod 2 = 1)
attribute [local irreducible] bitP
def tpK (x : Bk) (ws : List Int) (day by_ bits hard : Int) (y : Bk) (k : Nat) : AS := ⟨[(1, .pv (wsP ws)), (2, .pv (.int .u16 day)), (3, .pv (.int .u32 bits)), (4, .pv (.int .i8 by_)), (5, .pv (.int .u16 hard)), (13, .ptr (.loc 13 0) 0), (15, .ptr (.loc 15 0) 0), (16, .pv (.int .i64 k))],
  [(.loc 15 0, .cells [.pv (itsP x.items), .pv (ctsP y.certs)]), (.loc 13 0, .cells [.pv (itsP x.items), .pv (ctsP x.certs)])]⟩
set_option maxHeartbeats 64000000 in
theorem topProved_law (b : Bk) (ws : List Int) (day bits by_ hard : Int) (hws : ∀ y ∈ ws, 0 ≤ y ∧ y < 65536) (h2 : 0 ≤ day ∧ day ≤ 65535) (h3 : 0 ≤ bits ∧ bits < 4294967296) (h4 : -128 ≤ by_ ∧ by_ ≤ 127) (h5 : 0 ≤ hard ∧ hard ≤ 65535) :
    Gives Tryz.prog 4 [b.pv, wsP ws, .int .u16 day, .int .u32 bits, .int .i8 by_, .int .u16 hard] (.bool true) := by
  have hpr := proved_c
  have hth := thin_c b
  refine calls_of_awpS mixed L4_ok (Nat.le_of_ble_eq_true rfl) ?_
  simp [-getElem?_pos, L4, Bk.pv]
  refine call_gives (k := 0) (fs := []) (xs := [b.pv]) (cs := []) rfl rfl hth rfl ?_
  cases e1 : (decide (b.items.length ≤ 10) && decide (b.certs.length ≤ 28))
  · simp [-getElem?_pos]
    refine call_gives (k := 0) (fs := []) (xs := []) (cs := []) rfl rfl hpr rfl ?_
    simp [-getElem?_pos]
  have hsz : b.items.length ≤ 10 ∧ b.certs.length ≤ 28 := by simpa using e1
  clear e1
  have hrf := rfault_c b (by omega) (by omega)
  simp [-getElem?_pos]
  refine call_gives (k := 0) (fs := []) (xs := [b.pv]) (cs := []) rfl rfl hrf rfl ?_
  cases e2 : decide (b.fault = 0)
  · have e2' : ¬ b.fault = 0 := of_decide_eq_false e2
    simp [-getElem?_pos, e2']
    refine call_gives (k := 0) (fs := []) (xs := []) (cs := []) rfl rfl hpr rfl ?_
    simp [-getElem?_pos]
  have hf0 : b.fault = 0 := of_decide_eq_true e2
  have hb : b.ok := Bk.ok_iff.1 hf0
  clear e2
  cases e3 : decide ((5 : Int) < (b.items.length : Int))
  case true =>
    simp [-getElem?_pos, -decide_eq_true_eq, -decide_eq_false_iff_not, hf0, itsP, e3]
    refine call_gives (k := 0) (fs := []) (xs := []) (cs := []) rfl rfl hpr rfl ?_
    simp [-getElem?_pos]
  have hi5 : b.items.length ≤ 5 := by have := of_decide_eq_false e3; omega
  have hwr := written_c b hb ws hws
  simp [-getElem?_pos, -decide_eq_true_eq, -decide_eq_false_iff_not, hf0, itsP, ctsP, e3]
  refine call_lent (as' := [.pv b.pv, .pv (wsP ws)]) (B := []) (fs := []) (cs := []) 53 [] ?_ rfl rfl rfl ?_ ?_ hwr ?_
  · rfl
  · rfl
  · rfl
  rintro r0 B0 ⟨rfl, rfl⟩
  refine ⟨rfl, by simp, ?_⟩
  by_cases hf : (b.writ ws).fault = 0
  case neg =>
    simp [-getElem?_pos, hf]
    refine call_gives (k := 0) (fs := []) (xs := []) (cs := []) rfl rfl hpr rfl ?_
    simp [-getElem?_pos]
  have hx : (b.writ ws).ok := Bk.ok_iff.1 hf
  have hxc : (b.writ ws).certs.length = b.certs.length := by unfold Bk.writ; simp
  have htold := fun P k d => told_of (d := d) hb hws hx P k
  have hxi : (b.writ ws).items = b.items := rfl
  have hth' : ((b.writ ws).certs.map Ct.pv).take b.certs.length = (b.writ ws).certs.map Ct.pv := List.take_of_length_le (by rw [List.length_map, hxc]; exact Nat.le_refl _)
  have htl : ((b.writ ws).certs.map Ct.pv).length = b.certs.length := by rw [List.length_map, hxc]
  simp [-getElem?_pos, hf]
  generalize hX : b.writ ws = x at *
  have hxl := hx.c
  refine awp_loopS (fun m τ => ∃ k : Nat, k ≤ 999 ∧ m = 999 - k ∧ τ = tpK x ws day by_ bits hard (x.fewN (bitP bits) k) (k + 1)) ⟨999, tpK x ws day by_ bits hard (x.fewN (bitP bits) 0) 1, Sub.trans' (Sub.mk ?_ ?_) (Sub.frz [.loc 53 0]), 0, by omega, rfl, rfl⟩ ?_
  · simp [frzsL, fewN_zero, tpK, hth', htl, hxi, ctsP, itsP]
  · simp [frzsL, fewN_zero, tpK, hth', htl, hxi, ctsP, itsP]
  rintro J hJ m τ ⟨k, hk, rfl, rfl⟩
  by_cases hlt : k < 999
  · have hw : IntKind.i64.wrap (((k + 1 : Nat) : Int) + 1) = ((k + 1 + 1 : Nat) : Int) := wrapK (by omega)
    have hle : decide (((k + 1 : Nat) : Int) ≤ 999) = true := by simp; omega
    have hround := hJ _ _ ⟨k + 1, hlt, rfl, rfl⟩
    have hmeas : 999 - (k + 1) < 999 - k := by omega
    have hfl := fewN_len x (bitP bits) k
    have hfi := fewN_its x (bitP bits) k
    have hwo := rwo_c (x.fewN (bitP bits) k) (by omega) (k + 1 : Nat)
    rw [fewN_succ] at hround
    have hsh : IntKind.u64.wrap (((k + 1 : Nat) : Int).tmod 31) = (((k + 1) % 31 : Nat) : Int) := by
      rw [Int.tmod_eq_emod_of_nonneg (by omega), IntKind.wrap_u64]; omega
    have hto : (((k + 1 : Nat) : Int) % 31).toNat = (k + 1) % 31 := by omega
    have hsn : ¬ ((k + 1 : Nat) : Int) % 31 < 0 := by omega
    have hbt : bitP bits (k + 1) = decide ((bits.fdiv (2 ^ min ((k + 1) % 31) IntKind.u32.bits)).tmod 2 = 1) := by unfold bitP; rfl
    clear hJ
    generalize x.fewN (bitP bits) k = y at *
    generalize hN : k + 1 = n at *
    have hyp : y.pv = .agg [itsP x.items, ctsP y.certs] := by unfold Bk.pv; rw [hfi]
    have hwp : (y.wo (n : Int)).pv = .agg [itsP x.items, ctsP (y.wo (n : Int)).certs] := by unfold Bk.pv Bk.wo; rw [hfi]
    rw [hwp] at hwo
    simp [-getElem?_pos, -decide_eq_true_eq, -decide_eq_false_iff_not, tpK, hle, hsh, hto, hsn]
    have hsp : decide ((bits.fdiv (2 ^ min (n % 31) IntKind.u32.bits)).tmod 2 = 1) = bitP bits n := hbt.symm
    cases ebt : bitP bits n
    · rw [ebt] at hsp hround
      simp only [Bool.false_eq_true, if_false] at hround
      simp [-getElem?_pos, -decide_eq_true_eq, -decide_eq_false_iff_not, hsp, hw]
      exact ⟨_, _, hmeas, Sub.mk (by simp [tpK]) (by simp [tpK]), hround⟩
    · rw [ebt] at hsp hround
      simp only [if_true] at hround
      simp [-getElem?_pos, -decide_eq_true_eq, -decide_eq_false_iff_not, hsp]
      refine .inl (call_pv [] (fs := []) (xs := [y.pv, .int .i64 n]) (cs := []) rfl ?_ hwo ?_)
      · simp [frzsL, hyp, itsP, ctsP]
      simp [-getElem?_pos, frzsL, hw]
      exact ⟨_, _, hmeas, Sub.mk (by simp [tpK, hw]) (by simp [tpK]), hround⟩
  have he : k = 999 := by omega
  subst he
  clear hJ hwr
  have hle : decide (((999 + 1 : Nat) : Int) ≤ 999) = false := rfl
  have w2 : IntKind.i64.wrap day = day := wrap64 (by omega)
  have w3 : IntKind.i64.wrap by_ = by_ := wrap64 (by omega)
  have w4 : IntKind.i64.wrap hard = hard := wrap64 (by omega)
  have w5 : IntKind.i64.wrap (1000 + hard) = 1000 + hard := wrap64 (by omega)
  have w6 : IntKind.i64.wrap (1000 + hard + by_) = 1000 + hard + by_ := wrap64 (by omega)
  have k2 := tmod_bd h2.1 (show (0 : Int) < 1001 by omega)
  have hV : 1000 ≤ 1000 + hard ∧ 1000 + hard ≤ 66535 := by omega
  generalize hD : day.tmod 1001 = D at *
  generalize hVe : 1000 + hard = V at *
  have hto := htold (bitP bits) 999 D k2.1 (by omega)
  have hy : (x.fewN (bitP bits) 999).ok := fewN_ok hx _ _
  have hyi := fewN_its x (bitP bits) 999
  clear htold
  generalize x.fewN (bitP bits) 999 = y at *
  have hxi5 : x.items.length = b.items.length := by rw [hxi]
  have hyi5 : y.items.length = b.items.length := by rw [hyi, hxi]
  have c1 := blocks_c x hx ws hws D by_ ⟨k2.1, by omega⟩ h4 (fun i i0 i1 => (hto.x1 i i0 (by omega)).imp id (fun h => h.1))
  have c2 := blocks_c y hy ws hws D by_ ⟨k2.1, by omega⟩ h4 (fun i i0 i1 => (hto.y1 i i0 (by omega)).imp id (fun h => h.1))
  rw [hxi5] at c1
  rw [hyi5] at c2
  have m1 := blM_has (ws := ws) (by_ := by_) hto.xi hto.x1 (Nat.le_refl _)
  have m2 := blM_has (ws := ws) (by_ := by_) hto.yi hto.y1 (Nat.le_refl _)
  have m3 := hto.len (by_ := by_) b.items.length (Nat.le_refl _)
  have m4 := hto.blk (by_ := by_) b.items.length (Nat.le_refl _)
  have m5 := blM_len x ws D by_ b.items.length
  clear hto
  generalize blM x ws D by_ b.items.length = L1 at *
  generalize blM y ws D by_ b.items.length = L2 at *
  have val : ∀ z : Bl, z.okB = true → z.lo ≤ z.hi → z.valB = true ∧ z.bd := fun z z1 z2 => by
    unfold Bl.okB at z1
    unfold Bl.valB Cr.valsB inB Bl.bd
    simp only [Bool.and_eq_true, decide_eq_true_eq] at z1 ⊢
    omega
  have p1 : (biasM L1).has by_ := biasM_has (by omega) (fun z hz => (m1 z hz).1)
  have p2 : (biasM L2).has by_ := biasM_has (by omega) (fun z hz => (m2 z hz).1)
  have p3 : (biasM L1).sub (biasM L2) := biasM_sub m4
  have v1 : L1.all Bl.valB = true := List.all_eq_true.2 fun z hz => (val z (m1 z hz).2.1 (m1 z hz).2.2).1
  have v2 : L2.all Bl.valB = true := List.all_eq_true.2 fun z hz => (val z (m2 z hz).2.1 (m2 z hz).2.2).1
  have u1 : ∀ z ∈ L1, z.bd := fun z hz => (val z (m1 z hz).2.1 (m1 z hz).2.2).2
  have u2 : ∀ z ∈ L2, z.bd := fun z hz => (val z (m2 z hz).2.1 (m2 z hz).2.2).2
  unfold Cr.has at p1 p2
  unfold Cr.sub at p3
  have e1 := hBias_c L1 (by omega) v1 u1 (by omega)
  have e2 := hBias_c L2 (by omega) v2 u2 (by omega)
  have hvv : inB (V + by_) 0 100000 = true := by unfold inB; simp only [Bool.and_eq_true, decide_eq_true_eq]; omega
  have q1 : (hspan1 L1 (V + by_)).lo ≤ V ∧ V ≤ (hspan1 L1 (V + by_)).hi ∧ (hspan1 L2 (V + by_)).lo ≤ (hspan1 L1 (V + by_)).lo ∧ (hspan1 L1 (V + by_)).hi ≤ (hspan1 L2 (V + by_)).hi := by
    unfold hspan1 Cr.cut
    simp only
    omega
  have s1 := hSpans_c L1 (V + by_) (by omega) v1 u1 (by omega) hvv (by omega)
  have s2 := hSpans_c L2 (V + by_) (by omega) v2 u2 (by omega) hvv (by omega)
  have b1 := hbook_c L1 (by omega)
  have b2 := hbook_c L2 (by omega)
  have rd := hreadings_c (V + by_)
  have hlt3 : decide (L1.length < L2.length) = false := decide_eq_false (by omega)
  clear m1 m2 m4 v1 v2 u1 u2 val hvv
  generalize hspan1 L1 (V + by_) = S1 at *
  generalize hspan1 L2 (V + by_) = S2 at *
  generalize biasM L1 = B1 at *
  generalize biasM L2 = B2 at *
  have d1 : decide (B1.lo ≤ by_) = true := decide_eq_true p1.1
  have d2 : decide (by_ ≤ B1.hi) = true := decide_eq_true p1.2
  have d3 : decide (B2.lo ≤ B1.lo) = true := decide_eq_true p3.1
  have d4 : decide (B1.hi ≤ B2.hi) = true := decide_eq_true p3.2
  have d5 : decide (S1.lo ≤ V) = true := decide_eq_true q1.1
  have d6 : decide (V ≤ S1.hi) = true := decide_eq_true q1.2.1
  have d7 : decide (S2.lo ≤ S1.lo) = true := decide_eq_true q1.2.2.1
  have d8 : decide (S1.hi ≤ S2.hi) = true := decide_eq_true q1.2.2.2
  have hxp : x.pv = .agg [itsP x.items, ctsP x.certs] := rfl
  have hyp : y.pv = .agg [itsP x.items, ctsP y.certs] := by unfold Bk.pv; rw [hyi]
  simp [-getElem?_pos, -decide_eq_true_eq, -decide_eq_false_iff_not, tpK, hle, w2, w3, hD]
  refine .inl (call_pv [] (fs := []) (xs := [x.pv, .int .i64 D, .int .i64 by_, wsP ws]) (cs := []) rfl (by simp [frzsL, hxp]) c1 ?_)
  simp [-getElem?_pos, -decide_eq_true_eq, -decide_eq_false_iff_not, frzsL]
  refine .inl (call_pv [] (fs := []) (xs := [y.pv, .int .i64 D, .int .i64 by_, wsP ws]) (cs := []) rfl (by simp [frzsL, hyp]) c2 ?_)
  simp [-getElem?_pos, -decide_eq_true_eq, -decide_eq_false_iff_not, frzsL, hlt3, w4, hVe, w5, w6]
  refine .inl (call_pv [.loc 118 0] (fs := []) (xs := [hbP L1]) (cs := []) rfl (by simp [frzsL, hbP, hmP]) b1 ?_)
  simp [-getElem?_pos, -decide_eq_true_eq, -decide_eq_false_iff_not, frzsL]
  refine .inl (call_pv [] (fs := []) (xs := [hbP L1, .int .i64 0]) (cs := []) rfl (by simp [frzsL]) e1 ?_)
  simp [-getElem?_pos, -decide_eq_true_eq, -decide_eq_false_iff_not, frzsL, Cr.pv]
  refine .inl (call_pv [.loc 122 0] (fs := []) (xs := [hbP L2]) (cs := []) rfl (by simp [frzsL, hbP, hmP]) b2 ?_)
  simp [-getElem?_pos, -decide_eq_true_eq, -decide_eq_false_iff_not, frzsL]
  refine .inl (call_pv [] (fs := []) (xs := [hbP L2, .int .i64 0]) (cs := []) rfl (by simp [frzsL]) e2 ?_)
  simp [-getElem?_pos, -decide_eq_true_eq, -decide_eq_false_iff_not, frzsL, Cr.pv]
  refine .inl (call_pv [] (fs := []) (xs := [hbP L1]) (cs := []) rfl (by simp [frzsL, hbP, hmP]) b1 ?_)
  simp [-getElem?_pos, -decide_eq_true_eq, -decide_eq_false_iff_not, frzsL]
  refine .inl (call_pv [.loc 115 0] (fs := []) (xs := [.lst false 2 [.agg [.int .i64 0, .int .i64 (V + by_)]]]) (cs := []) rfl (by simp [frzsL]) rd ?_)
  simp [-getElem?_pos, -decide_eq_true_eq, -decide_eq_false_iff_not, frzsL]
  refine .inl (call_pv [] (fs := []) (xs := [hbP L1, .lst false 2 [hrP (V + by_)]]) (cs := []) rfl (by simp [frzsL, hrP]) s1 ?_)
  simp [-getElem?_pos, -decide_eq_true_eq, -decide_eq_false_iff_not, frzsL, Cr.pv]
  refine .inl (call_pv [] (fs := []) (xs := [hbP L2]) (cs := []) rfl (by simp [frzsL, hbP, hmP]) b2 ?_)
  simp [-getElem?_pos, -decide_eq_true_eq, -decide_eq_false_iff_not, frzsL]
  refine .inl (call_pv [] (fs := []) (xs := [.lst false 2 [.agg [.int .i64 0, .int .i64 (V + by_)]]]) (cs := []) rfl (by simp [frzsL]) rd ?_)
  simp [-getElem?_pos, -decide_eq_true_eq, -decide_eq_false_iff_not, frzsL]
  refine .inl (call_pv [] (fs := []) (xs := [hbP L2, .lst false 2 [hrP (V + by_)]]) (cs := []) rfl (by simp [frzsL, hrP]) s2 ?_)
  simp [-getElem?_pos, -decide_eq_true_eq, -decide_eq_false_iff_not, frzsL, Cr.pv, d1, d2, d3, d4, d5, d6, d7, d8]
  refine call_gives (k := 0) (fs := []) (xs := []) (cs := []) rfl rfl hpr rfl ?_
  simp [-getElem?_pos]
end Go.Proofs.YtaffbiibcfeigaaGreat

/-! The statement TopProved holds: a machine for hardness is proved on blocks that go back to a standard; without some certificates its bias is told no narrower, but still has the true one. No conditions. -/
namespace Go.Proofs.YtaffbiibcfeigaaGreat
open Go.ChangeShapes Go.WideShapes Go.ChangeAt Go.RowKit

set_option maxRecDepth 100000 in
theorem walkTopProved (v0 v1 v2 v3 v4 v5 : Value) (W : World) {H : Type} {enc : TypeId × Value → H} {base : Nat} {sp : Nat → Bool} {hd : Bool} {d0 d1 d2 d3 d4 d5 : DataW H} {p0 p1 p2 p3 p4 p5 : List MemPlace}
    (k0 : Value.okWide Tryz.prog W .any base 25 v0) (h0 : DataW.Trod enc Tryz.prog W 0 sp hd 25 v0 d0 p0)
    (k1 : Value.okWide Tryz.prog W .any base 31 v1) (h1 : DataW.Trod enc Tryz.prog W 0 sp hd 31 v1 d1 p1)
    (k2 : Value.okWide Tryz.prog W .any base 32 v2) (h2 : DataW.Trod enc Tryz.prog W 0 sp hd 32 v2 d2 p2)
    (k3 : Value.okWide Tryz.prog W .any base 70 v3) (h3 : DataW.Trod enc Tryz.prog W 0 sp hd 70 v3 d3 p3)
    (k4 : Value.okWide Tryz.prog W .any base 71 v4) (h4 : DataW.Trod enc Tryz.prog W 0 sp hd 71 v4 d4 p4)
    (k5 : Value.okWide Tryz.prog W .any base 32 v5) (h5 : DataW.Trod enc Tryz.prog W 0 sp hd 32 v5 d5 p5) :
    Calls Tryz.prog 4 #[v0, v1, v2, v3, v4, v5] W fun e w' => e = .returned (.bool true) ∧ Keep [] W w' := by
  obtain ⟨n0, h0⟩ := h0
  obtain ⟨s0, w0, r0⟩ := rk_book k0 h0
  obtain ⟨n1, h1⟩ := h1
  obtain ⟨s1, w1, l1, r1⟩ := rd_u16s k1 h1
  obtain ⟨s2, rfl, rfl, rfl, w2⟩ := open_int Tryz.underlying32 k2 h2
  obtain ⟨s3, rfl, rfl, rfl, w3⟩ := open_int Tryz.underlying70 k3 h3
  obtain ⟨s4, rfl, rfl, rfl, w4⟩ := open_int Tryz.underlying71 k4 h4
  obtain ⟨s5, rfl, rfl, rfl, w5⟩ := open_int Tryz.underlying32 k5 h5
  refine calls_bool (xs := [s0.pv, .lst false 1 (s1.map (PV.int .u16)), .int .u16 s2, .int .u32 s3, .int .i8 s4, .int .u16 s5]) (b := true) ((topProved_law s0 s1 s2 s3 s4 s5 w1 (ku16 w2) (by have := ku32 w3; omega) (ki8 w4) (ku16 w5)).mono (fun _ _ h => h.1)) rfl (fun j v x e1 e2 => ?_)
  match j with
  | 0 => simp at e1 e2; subst e1 e2; exact r0
  | 1 => simp at e1 e2; subst e1 e2; exact r1
  | 2 => simp at e1 e2; subst e1 e2; exact .int .u16 s2
  | 3 => simp at e1 e2; subst e1 e2; exact .int .u32 s3
  | 4 => simp at e1 e2; subst e1 e2; exact .int .i8 s4
  | 5 => simp at e1 e2; subst e1 e2; exact .int .u16 s5
  | j + 6 => simp at e1
set_option maxRecDepth 100000 in
theorem liftedTopProved (os : Os) (started : os.Started) (H : Type) (enc : TypeId × Value → H) :
    ReturnsInHanded {} Tryz.checked os 4 .any (Rows.topProvedSpec.pre6 enc Tryz.prog Tryz.f4 Rows.topProvedRow.domain false) (Rows.topProvedSpec.post enc Tryz.prog Tryz.f4 false true false false) := by
  refine returnsInHanded_of_change (C := Tryz.checked) own started (by kernel_rfl) Tryz.func4
    (ChangeSpec.witness6 (enc := enc) (C := Tryz.checked) false ⟨#[], #[.agg #[.slice none 0 0, .slice none 0 0], .slice none 0 0, .int .u16 0, .int .u32 0, .int .i8 0, .int .u16 0], []⟩ 8 (by kernel_rfl) (by kernel_rfl) (by kernel_rfl) (by kernel_rfl)) ?_
  intro W base args ds gs before hval0 hW hcnd _
  have hval : ∀ (j : Nat) t v, Tryz.f4.params[j]? = some t → args[j]? = some v → Value.okWide Tryz.prog W .any base t v := hval0
  have hW' := hW
  obtain ⟨p, q, hA0, hV, rfl, hfz, hnd⟩ := hW
  have hA : DataW.TrodAll enc Tryz.prog W 0 (fun _ => true) true Tryz.f4.params.toList args.toList ds p := hA0
  rw [Tryz.params4] at hA hval
  obtain ⟨v0, vs0, d0, ds0, p0, q0, hargs, rfl, rfl, h0, r0⟩ := trodAll_cons hA
  obtain ⟨v1, vs1, d1, ds1, p1, q1, rfl, rfl, rfl, h1, r1⟩ := trodAll_cons r0
  obtain ⟨v2, vs2, d2, ds2, p2, q2, rfl, rfl, rfl, h2, r2⟩ := trodAll_cons r1
  obtain ⟨v3, vs3, d3, ds3, p3, q3, rfl, rfl, rfl, h3, r3⟩ := trodAll_cons r2
  obtain ⟨v4, vs4, d4, ds4, p4, q4, rfl, rfl, rfl, h4, r4⟩ := trodAll_cons r3
  obtain ⟨v5, vs5, d5, ds5, p5, q5, rfl, rfl, rfl, h5, r5⟩ := trodAll_cons r4
  obtain ⟨rfl, rfl, rfl⟩ := trodAll_nil r5
  have hargs' : args = #[v0, v1, v2, v3, v4, v5] := by
    apply Array.ext'
    exact hargs
  subst hargs'
  have k0 := hval 0 _ v0 rfl rfl
  have k1 := hval 1 _ v1 rfl rfl
  have k2 := hval 2 _ v2 rfl rfl
  have k3 := hval 3 _ v3 rfl rfl
  have k4 := hval 4 _ v4 rfl rfl
  have k5 := hval 5 _ v5 rfl rfl
  obtain ⟨rfl, rfl⟩ := trodVars_none hV
  refine (walkTopProved v0 v1 v2 v3 v4 v5 W k0 h0 k1 h1 k2 h2 k3 h3 k4 h4 k5 h5).mono fun e W' ⟨he, hk⟩ => ?_
  subst he
  exact ⟨_, rfl, post_law (tb := 4) laidP rowedP fullP (by decide +kernel) rfl rfl rfl Tryz.underlying4 hW' hk⟩
theorem overTopProved : Rows.topProvedRow.holds Tryz.pinned (OpenSpec.ofChange Rows.topProvedSpec) :=
  OpenClaim.holds_of_wide 4 Tryz.f4 rfl rfl rfl rfl rfl rfl rfl ⟨rfl, rfl, rfl, rfl, rfl⟩ rfl rfl rfl rfl rfl (by kernel_rfl) Tryz.func4 (by kernel_rfl)
    (of_decide_eq_true (by kernel_rfl)) (by unfold Func.isWrapper; first | (rw [if_pos (by decide +kernel)]; kernel_rfl) | (rw [if_neg (by decide +kernel)]; exact ⟨rfl, rfl⟩))
    (fun os started H enc _ => liftedTopProved os started H enc)
theorem provedTopProved : Rows.TopProvedSaid := overTopProved
end Go.Proofs.YtaffbiibcfeigaaGreat
