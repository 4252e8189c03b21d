/- Contracts of layer 6 (hard): a book of one machine, its error, its bias. (Several texts in one.) -/
import Derived.Test.YtaffbiibcfeigaaGreatTpA
import Derived.Test.YtaffbiibcfeigaaGreatChD
import Derived.Test.YtaffbiibcfeigaaGreatBaseD
set_option linter.unusedVariables false
set_option linter.unusedSimpArgs false
/-! Contracts of layer 6 (hard): a book of one machine, its error, its bias. -/
namespace Go.Proofs.YtaffbiibcfeigaaGreat
open Go.RowKit
attribute [local simp] Box.purge Site.isLoc
set_option maxRecDepth 10000
set_option linter.unusedSimpArgs false
def Bl.pv (x : Bl) : PV := .agg [.int .i64 x.lo, .int .i64 x.hi, .int .i64 x.rd]
def hmP (l : List Bl) : PV := .agg [.int .i64 0, .lst false 3 (l.map Bl.pv)]
def hbP (l : List Bl) : PV := .agg [.int .i64 1, .emp (some true), .lst false 2 [hmP l]]
def Bl.valB (x : Bl) : Bool := Cr.valsB ⟨x.lo, x.hi⟩ && inB x.rd 0 100000
theorem hrow_c (l : List Bl) : Gives Tryz.prog 104 [hmP l] (.bool (decide ((l.length : Int) ≤ 5))) := by
  refine calls_of_awpS mixed L104_ok (Nat.le_of_ble_eq_true rfl) ?_
  simp [-getElem?_pos, L104, hmP]
theorem hblock_c (x : Bl) : Gives Tryz.prog 169 [x.pv] (.bool x.valB) := by
  have a1 := hvalues_c ⟨x.lo, x.hi⟩
  have a2 := hvalue_c x.rd
  refine calls_of_awpS mixed L169_ok (Nat.le_of_ble_eq_true rfl) ?_
  simp [-getElem?_pos, L169, Bl.pv]
  refine call_gives (k := 0) (fs := []) (xs := [Cr.pv ⟨x.lo, x.hi⟩]) (cs := []) rfl rfl a1 rfl ?_
  cases h1 : Cr.valsB ⟨x.lo, x.hi⟩
  · simp [Bl.valB, h1]
  · simp [h1]
    refine call_gives (k := 0) rfl rfl a2 rfl ?_
    simp [Bl.valB, h1]
theorem hscale_c (l : List Bl) (n : Int) : Gives Tryz.prog 163 [hbP l, .int .i64 n] (.bool (inB n 0 0)) := by
  refine calls_of_awpS mixed L163_ok (Nat.le_of_ble_eq_true rfl) ?_
  have hw : IntKind.i64.wrap ((1 : Int) - 1) = 0 := rfl
  simp [-getElem?_pos, L163, hbP, hw]
  refine call_gives (k := 0) rfl rfl (hwithin_c n 0 0) rfl ?_
  simp
def blQ : PV → Bool
  | .agg [.int _ lo, .int _ hi, .int _ rd] => Bl.valB ⟨lo, hi, rd⟩
  | _ => false
theorem hblocksA (m : List Bl) (hl : m.length ≤ 1000) : Gives Tryz.prog 168 [.lst false 3 (m.map Bl.pv), .fn 169 [] []] (.bool (m.all Bl.valB)) := by
  have a1 := allHb_c (m.map Bl.pv) 169 [] [] blQ (fun x hx => by
    obtain ⟨y, _, rfl⟩ := List.mem_map.1 hx
    exact hblock_c y) (by rw [List.length_map]; omega) (fun x hx => by
    obtain ⟨y, _, rfl⟩ := List.mem_map.1 hx
    exact ⟨_, _, _, rfl⟩)
  rw [List.all_map] at a1
  exact a1
theorem hmach_c (l m : List Bl) (hl : m.length ≤ 1000) : Gives Tryz.prog 106 [hbP l, hmP m] (.bool (m.all Bl.valB)) := by
  have a1 := hscale_c l 0
  have a2 := hblocksA m hl
  refine calls_of_awpS mixed L106_ok (Nat.le_of_ble_eq_true rfl) ?_
  simp [-getElem?_pos, L106, hbP, hmP]
  refine call_gives (k := 0) (fs := []) (xs := [hbP l, .int .i64 0]) (cs := []) rfl rfl a1 rfl ?_
  rw [show inB 0 0 0 = true from rfl]
  simp [-getElem?_pos]
  refine call_gives (k := 0) (fs := []) (xs := [.lst false 3 (m.map Bl.pv), .fn 169 [] []]) (cs := []) rfl rfl a2 rfl ?_
  simp
theorem indexT0_c (g : FuncId) (fs cs : List PV) : Gives Tryz.prog 211 [.emp (some true), .fn g fs cs] (.int .i64 (-1)) := by
  refine calls_of_awpS mixed L211_ok (Nat.le_of_ble_eq_true rfl) ?_
  simp [L211]
  refine awp_loopS (fun n τ => n = 0 ∧ τ = ⟨[(7, .pv (.int .i64 0)), (8, .pv (.int .i64 0))], []⟩) ⟨0, _, Sub.mk (by simp) (by simp), rfl, rfl⟩ ?_
  rintro J hJ n τ ⟨rfl, rfl⟩
  clear hJ
  simp [-getElem?_pos]
theorem anyT0_c (g : FuncId) (fs cs : List PV) : Gives Tryz.prog 159 [.emp (some true), .fn g fs cs] (.bool false) := by
  refine calls_of_awpS mixed L159_ok (Nat.le_of_ble_eq_true rfl) ?_
  simp [L159]
  refine call_gives (k := 0) rfl rfl (indexT0_c g fs cs) rfl ?_
  simp
theorem allT0_c (g : FuncId) (fs cs : List PV) : Gives Tryz.prog 101 [.emp (some true), .fn g fs cs] (.bool true) := by
  refine calls_of_awpS mixed L101_ok (Nat.le_of_ble_eq_true rfl) ?_
  simp [L101]
  refine call_gives (k := 4) rfl rfl (anyT0_c 160 [] [.ref [.fn g fs cs]]) rfl ?_
  simp
def hm5Q : PV → Bool
  | .agg [_, .lst _ _ x] => decide ((x.length : Int) ≤ 5)
  | _ => false
def hmQ : PV → Bool
  | .agg [_, .lst _ _ x] => x.all blQ
  | _ => false
theorem hrowsA (m : List Bl) : Gives Tryz.prog 103 [.lst false 2 [hmP m], .fn 104 [] []] (.bool (decide ((m.length : Int) ≤ 5))) := by
  have a1 := allHm_c [hmP m] 104 [] [] hm5Q (fun x hx => by
    cases List.mem_singleton.1 hx
    have h := hrow_c m
    rw [show ((m.length : Int)) = (((m.map Bl.pv).length : Nat) : Int) by rw [List.length_map]] at h
    exact h) (by simp) (fun x hx => by
    cases List.mem_singleton.1 hx
    exact ⟨_, _, rfl⟩)
  have e : [hmP m].all hm5Q = decide ((m.length : Int) ≤ 5) := by
    rw [List.all_cons, List.all_nil, Bool.and_true]
    show decide ((((m.map Bl.pv).length : Nat) : Int) ≤ 5) = _
    rw [List.length_map]
  rw [e] at a1
  exact a1
theorem hmachsA (l m : List Bl) (hl : m.length ≤ 1000) : Gives Tryz.prog 103 [.lst false 2 [hmP m], .fn 106 [hbP l] []] (.bool (m.all Bl.valB)) := by
  have e0 : (m.map Bl.pv).all blQ = m.all Bl.valB := by rw [List.all_map]; rfl
  have a1 := allHm_c [hmP m] 106 [hbP l] [] hmQ (fun x hx => by
    cases List.mem_singleton.1 hx
    have h := hmach_c l m hl
    rw [← e0] at h
    exact h) (by simp) (fun x hx => by
    cases List.mem_singleton.1 hx
    exact ⟨_, _, rfl⟩)
  have e : [hmP m].all hmQ = m.all Bl.valB := by
    rw [List.all_cons, List.all_nil, Bool.and_true]
    exact e0
  rw [e] at a1
  exact a1
theorem hcheck_c (l : List Bl) (h5 : l.length ≤ 5) (hv : l.all Bl.valB = true) : Gives Tryz.prog 63 [hbP l] (.int .i64 0) := by
  have a1 := allT0_c 102 [] []
  have a2 := hrowsA l
  rw [decide_eq_true (show (l.length : Int) ≤ 5 by omega)] at a2
  have a3 := hwithin_c 1 1 4
  have a4 := allT0_c 105 [hbP l] []
  have a5 := hmachsA l l (by omega)
  rw [hv] at a5
  refine calls_of_awpS mixed L63_ok (Nat.le_of_ble_eq_true rfl) ?_
  simp [-getElem?_pos, L63, hbP]
  refine call_gives (k := 0) (fs := []) (xs := [.emp (some true), .fn 102 [] []]) (cs := []) rfl rfl a1 rfl ?_
  simp [-getElem?_pos]
  refine call_gives (k := 0) (fs := []) (xs := [.lst false 2 [hmP l], .fn 104 [] []]) (cs := []) rfl rfl a2 rfl ?_
  simp [-getElem?_pos]
  refine call_gives (k := 0) rfl rfl a3 rfl ?_
  rw [show inB 1 1 4 = true from rfl]
  simp [-getElem?_pos]
  refine call_gives (k := 0) (fs := []) (xs := [.emp (some true), .fn 105 [hbP l] []]) (cs := []) rfl rfl a4 rfl ?_
  simp [-getElem?_pos]
  refine call_gives (k := 0) (fs := []) (xs := [.lst false 2 [hmP l], .fn 106 [hbP l] []]) (cs := []) rfl rfl a5 rfl ?_
  simp [-getElem?_pos]
/-- The bias of the first blocks. -/
def hbiK (l : List Bl) (k : Nat) : AS := ⟨[(1, .ptr (.loc 1 0) 0), (2, .ptr (.loc 2 0) 0), (3, .ptr (.loc 3 0) 0), (8, .pv (.lst false 3 (l.map Bl.pv))), (9, .pv (.int .i64 l.length)), (10, .pv (.int .i64 k))],
  [(.loc 3 0, .cells [.pv (.int .i64 (biasM (l.take k)).lo), .pv (.int .i64 (biasM (l.take k)).hi)]), (.loc 2 0, .cells [.pv (.int .i64 0), .pv (.int .i64 0)]), (.loc 1 0, .cells [.pv (.int .i64 0), .pv (.lst false 3 (l.map Bl.pv))])]⟩
def Bl.bd (x : Bl) : Prop := -1000000 ≤ x.lo ∧ x.lo ≤ 1000000 ∧ -1000000 ≤ x.hi ∧ x.hi ≤ 1000000 ∧ -1000000 ≤ x.rd ∧ x.rd ≤ 1000000
theorem hbias_c (l : List Bl) (hl : l.length ≤ 1000) (hb : ∀ x ∈ l, x.bd) : Gives Tryz.prog 65 [hmP l] (biasM l).pv := by
  refine calls_of_awpS mixed L65_ok (Nat.le_of_ble_eq_true rfl) ?_
  simp [-getElem?_pos, L65, hmP]
  refine awp_loopS (fun m τ => ∃ k : Nat, k ≤ l.length ∧ m = l.length - k ∧ τ = hbiK l k) ⟨l.length, hbiK l 0, Sub.mk (by simp [hbiK]) (by simp [hbiK, biasM]), 0, by omega, rfl, rfl⟩ ?_
  rintro J hJ m τ ⟨k, hk, rfl, rfl⟩
  by_cases hlt : k < l.length
  · obtain ⟨x, hx⟩ : ∃ x, l[k]? = some x := ⟨l[k], List.getElem?_eq_getElem hlt⟩
    have hg : (l.map Bl.pv)[k]? = some (.agg [.int .i64 x.lo, .int .i64 x.hi, .int .i64 x.rd]) := by rw [List.getElem?_map, hx]; rfl
    have hxb := hb x (List.mem_of_getElem? hx)
    unfold Bl.bd at hxb
    have hwk := wrapK (k := k) (by omega)
    have hround := hJ _ _ ⟨k + 1, hlt, rfl, rfl⟩
    have hmeas : l.length - (k + 1) < l.length - k := by omega
    have w1 : IntKind.i64.wrap (x.rd - x.hi) = x.rd - x.hi := wrap64 (by omega)
    have w2 : IntKind.i64.wrap (x.rd - x.lo) = x.rd - x.lo := wrap64 (by omega)
    have hn : biasM (l.take (k + 1)) = (biasM (l.take k)).cut ⟨x.rd - x.hi, x.rd - x.lo⟩ := by
      unfold biasM
      rw [List.take_add_one, hx, List.foldl_append]
      rfl
    have hc := hcut_c (biasM (l.take k)) ⟨x.rd - x.hi, x.rd - x.lo⟩
    rw [← hn] at hc
    unfold hbiK at hround ⊢
    clear hJ hn
    generalize biasM (l.take (k + 1)) = B2 at *
    generalize biasM (l.take k) = B1 at *
    unfold Cr.pv at hc
    simp [-getElem?_pos, -List.getElem?_map, hlt, hg, w1, w2]
    refine call_gives (k := 0) (fs := []) (xs := [B1.pv, Cr.pv ⟨x.rd - x.hi, x.rd - x.lo⟩]) (cs := []) rfl rfl hc rfl ?_
    simp [-getElem?_pos, -List.getElem?_map, hwk]
    exact ⟨_, _, hmeas, Sub.mk (by simp) (by simp), hround⟩
  have he : k = l.length := by omega
  subst he
  clear hJ
  have ht : l.take l.length = l := List.take_of_length_le (Nat.le_refl _)
  simp [-getElem?_pos, -List.getElem?_map, hbiK, ht, Cr.pv]
theorem hBias_c (l : List Bl) (h5 : l.length ≤ 5) (hv : l.all Bl.valB = true) (hb : ∀ x ∈ l, x.bd) (hn : (biasM l).lo ≤ (biasM l).hi) : Gives Tryz.prog 25 [hbP l, .int .i64 0] (.tup [(biasM l).pv, .int .i64 0]) := by
  have a1 := hcheck_c l h5 hv
  have a2 := hwithin_c 0 0 0
  have a3 := hbias_c l (by omega) hb
  have a4 := hempty_c (biasM l)
  rw [decide_eq_false (by omega)] at a4
  have hw : IntKind.i64.wrap ((1 : Int) - 1) = 0 := rfl
  refine calls_of_awpS mixed L25_ok (Nat.le_of_ble_eq_true rfl) ?_
  simp [-getElem?_pos, L25, hbP]
  refine call_gives (k := 0) (fs := []) (xs := [hbP l]) (cs := []) rfl rfl a1 rfl ?_
  simp [-getElem?_pos, hw]
  refine call_gives (k := 0) rfl rfl a2 rfl ?_
  rw [show inB 0 0 0 = true from rfl]
  simp [-getElem?_pos, hmP]
  generalize biasM l = B at *
  unfold Cr.pv at a3
  refine call_gives (k := 0) (fs := []) (xs := [hmP l]) (cs := []) rfl rfl a3 rfl ?_
  simp [-getElem?_pos]
  refine call_gives (k := 0) (fs := []) (xs := [B.pv]) (cs := []) rfl rfl a4 rfl ?_
  simp [-getElem?_pos, Cr.pv]
end Go.Proofs.YtaffbiibcfeigaaGreat
/-! Contracts of layer 6 (hard): a book of one machine with one reading. -/
namespace Go.Proofs.YtaffbiibcfeigaaGreat
open Go.RowKit
set_option maxRecDepth 10000
set_option linter.unusedSimpArgs false
def hrP (v : Int) : PV := .agg [.int .i64 0, .int .i64 v]
def hbR (l : List Bl) : PV := .ref [.int .i64 1, .emp (some true), .lst false 2 [hmP l]]
section
attribute [local simp] Box.purge Site.isLoc
theorem hread1_c (l : List Bl) (v : Int) : Gives Tryz.prog 108 [hrP v, hbR l] (.bool (inB v 0 100000)) := by
  have a1 := hwithin_c 0 0 0
  have a2 := hvalue_c v
  have hw : IntKind.i64.wrap ((1 : Int) - 1) = 0 := rfl
  refine calls_of_awpS mixed L108_ok (Nat.le_of_ble_eq_true rfl) ?_
  simp [-getElem?_pos, L108, hrP, hbR, hw]
  refine call_gives (k := 0) rfl rfl a1 rfl ?_
  rw [show inB 0 0 0 = true from rfl]
  simp [-getElem?_pos]
  refine call_gives (k := 0) rfl rfl a2 rfl ?_
  simp
theorem hread2_c (l : List Bl) (hl : l.length ≤ 1000) (hb : ∀ x ∈ l, x.bd) (hn : (biasM l).lo ≤ (biasM l).hi) (v : Int) : Gives Tryz.prog 111 [hrP v, hbR l] (.bool true) := by
  have a3 := hbias_c l hl hb
  have a4 := hempty_c (biasM l)
  rw [decide_eq_false (by omega)] at a4
  generalize biasM l = B at *
  refine calls_of_awpS mixed L111_ok (Nat.le_of_ble_eq_true rfl) ?_
  simp [-getElem?_pos, L111, hrP, hbR, hmP]
  refine call_gives (k := 0) (fs := []) (xs := [hmP l]) (cs := []) rfl rfl a3 rfl ?_
  simp [-getElem?_pos]
  refine call_gives (k := 0) (fs := []) (xs := [B.pv]) (cs := []) rfl rfl a4 rfl ?_
  simp [-getElem?_pos]
def rdQ1 : PV → Bool
  | .agg [_, .int _ v] => inB v 0 100000
  | _ => false
theorem hreads1 (l : List Bl) (v : Int) : Gives Tryz.prog 110 [.lst false 2 [hrP v], .fn 108 [] [hbR l]] (.bool (inB v 0 100000)) := by
  have a1 := allHr_c [hrP v] 108 [] [hbR l] rdQ1 (fun x hx => by
    cases List.mem_singleton.1 hx
    exact hread1_c l v) (by simp) (fun x hx => by
    cases List.mem_singleton.1 hx
    exact ⟨_, _, rfl⟩)
  rw [show [hrP v].all rdQ1 = inB v 0 100000 by rw [List.all_cons, List.all_nil, Bool.and_true]; rfl] at a1
  exact a1
theorem hreads2 (l : List Bl) (hl : l.length ≤ 1000) (hb : ∀ x ∈ l, x.bd) (hn : (biasM l).lo ≤ (biasM l).hi) (v : Int) : Gives Tryz.prog 110 [.lst false 2 [hrP v], .fn 111 [] [hbR l]] (.bool true) := by
  have a1 := allHr_c [hrP v] 111 [] [hbR l] (fun _ => true) (fun x hx => by
    cases List.mem_singleton.1 hx
    exact hread2_c l hl hb hn v) (by simp) (fun x hx => by
    cases List.mem_singleton.1 hx
    exact ⟨_, _, rfl⟩)
  exact a1
end
attribute [local simp] AS.exp expG Box.ren AV.map AV.mapL outsOk noRet Site.isRet Box.allS AV.allS AV.allSL retB dropL AS.adds renL outG outOk lentBx inG fnOf lookA List.findIdx?_cons
attribute [local simp] Box.purge Site.isLoc
def hbnC (l : List Bl) (m : Site) : List AV := [.pv (.int .i64 1), .pv (.emp (some true)), .pv (.lst false 2 [hmP l]), .mp m]
theorem hbench_c (l : List Bl) : CallsA Tryz.prog 112 [.pv (hbP l)] [] (fun r B => r = .ptr (.ret 0) 0 ∧ B = [(.ret 0, .cells (hbnC l (.ret 1))), (.ret 1, .map [])]) := by
  refine calls_of_awpE mixed L112_ok (Nat.le_of_ble_eq_true rfl) ?_
  generalize hR : (fun (r : AV) (B : List (Site × Box)) => r = .ptr (.ret 0) 0 ∧ B = [(.ret 0, .cells (hbnC l (.ret 1))), (.ret 1, .map [])]) = R
  simp [-getElem?_pos, L112, hbP, -retB]
  refine awp_loopS (fun n τ => n = 0 ∧ τ = ⟨[(3, .ptr (.loc 10 0) 0), (13, .pv (.int .i64 0)), (14, .pv (.int .i64 0))], [(.loc 10 0, .cells (hbnC l (.loc 8 0))), (.loc 8 0, .map [])]⟩) ⟨0, _, Sub.mk (by simp) (by simp [hbnC]), rfl, rfl⟩ ?_
  rintro J hJ n τ ⟨rfl, rfl⟩
  clear hJ
  simp [-getElem?_pos, hbnC, -retB]
  rw [← hR]
  exact ⟨[.loc 10 0, .loc 8 0], by simp [hbnC]⟩
theorem hreadS_c (l : List Bl) (v : Int) (h5 : l.length ≤ 5) (hv : l.all Bl.valB = true) (hb : ∀ x ∈ l, x.bd) (hn : (biasM l).lo ≤ (biasM l).hi) (hvv : inB v 0 100000 = true) :
    CallsA Tryz.prog 69 [.pv (hbP l), .pv (.lst false 2 [hrP v])] [] (fun r B => r = .tup [.ptr (.ret 0) 0, .pv (.int .i64 0)] ∧ B = [(.ret 0, .cells (hbnC l (.ret 1))), (.ret 1, .map [])]) := by
  have a1 := hcheck_c l h5 hv
  have a2 := hreads1 l v
  rw [hvv] at a2
  have a3 := hreads2 l (by omega) hb hn v
  have a4 := hbench_c l
  refine calls_of_awpE mixed L69_ok (Nat.le_of_ble_eq_true rfl) ?_
  generalize hR : (fun (r : AV) (B : List (Site × Box)) => r = .tup [.ptr (.ret 0) 0, .pv (.int .i64 0)] ∧ B = [(.ret 0, .cells (hbnC l (.ret 1))), (.ret 1, .map [])]) = R
  simp [-getElem?_pos, L69, hbP, -retB]
  refine call_gives (k := 0) (fs := []) (xs := [hbP l]) (cs := []) rfl rfl a1 rfl ?_
  simp [-getElem?_pos, -retB]
  refine call_gives (k := 4) (fs := []) (xs := [.lst false 2 [hrP v], .fn 108 [] [hbR l]]) (cs := []) rfl rfl a2 rfl ?_
  simp [-getElem?_pos, -retB]
  refine call_gives (k := 4) (fs := []) (xs := [.lst false 2 [hrP v], .fn 111 [] [hbR l]]) (cs := []) rfl rfl a3 rfl ?_
  simp [-getElem?_pos, -retB]
  refine call_lent (as' := [.pv (hbP l)]) (B := []) (fs := []) (cs := []) 29 [] ?_ rfl rfl rfl ?_ ?_ a4 ?_
  · rfl
  · rfl
  · rfl
  rintro r0 B0 ⟨rfl, rfl⟩
  refine ⟨rfl, by simp [hbnC], ?_⟩
  simp [-getElem?_pos, hbnC, -retB]
  rw [← hR]
  exact ⟨[.loc 29 0, .loc 29 1], by simp [hbnC]⟩
end Go.Proofs.YtaffbiibcfeigaaGreat
/-! Contracts of layer 6 (hard): spans by one machine and one reading. -/
namespace Go.Proofs.YtaffbiibcfeigaaGreat
open Go.RowKit
set_option maxRecDepth 10000
set_option linter.unusedSimpArgs false
attribute [local simp] AS.exp expG Box.ren AV.map AV.mapL outsOk noRet Site.isRet Box.allS AV.allS AV.allSL retB dropL AS.adds renL outG outOk lentBx inG fnOf lookA List.findIdx?_cons
attribute [local simp] Box.purge Site.isLoc
theorem osel_none6 {l : LOp} {d : Nat} {K : AV → AS → Prop} {σ : AS} : osel none l d K σ = opWp l d K σ := rfl
def hsP (r : Cr) : PV := .agg [.int .i64 r.lo, .int .i64 r.hi, .int .i64 0, .int .i64 100000, .int .i64 0, .int .i64 100000, .int .i64 0, .int .i64 100000]
def hbnB (l : List Bl) : List Box := [.cells (hbnC l (.par 1)), .map []]
def emQ : PV → Bool
  | .agg [.int _ a, .int _ b] => decide (b < a)
  | _ => false
theorem hemp1_c (r : Cr) (hr : r.lo ≤ r.hi) : Gives Tryz.prog 177 [.lst false 2 [r.pv], .fn 66 [] []] (.bool false) := by
  have a1 := anyHg_c [r.pv] 66 [] [] emQ (fun x hx => by
    cases List.mem_singleton.1 hx
    exact hempty_c r) (by simp) (fun x hx => by
    cases List.mem_singleton.1 hx
    exact ⟨_, _, rfl⟩)
  have e : [r.pv].any emQ = false := by
    rw [List.any_cons, List.any_nil, Bool.or_false]
    show decide (r.hi < r.lo) = false
    exact decide_eq_false (by omega)
  rw [e] at a1
  exact a1
def hcuB (l : List Bl) (r : Cr) : List (Site × Box) := [(.loc 4 0, .cells [.pv (.int .i64 0), .pv (.int .i64 0), .pv (.int .i64 0), .pv (.int .i64 0), .pv (.int .i64 0), .pv (.int .i64 0), .pv (.int .i64 0), .pv (.int .i64 0)]), (.loc 3 0, .cells [.pv (.int .i64 r.lo), .pv (.int .i64 r.hi), .pv (.int .i64 0), .pv (.int .i64 100000), .pv (.int .i64 0), .pv (.int .i64 100000), .pv (.int .i64 0), .pv (.int .i64 100000)]), (.par 0, .cells [.pv (.int .i64 1), .pv (.emp (some true)), .pv (.lst false 2 [hmP l]), .mp (.par 1)]), (.par 1, .map [])]
def hcuK (l : List Bl) (r : Cr) (k : Int) : AS := ⟨[(0, .ptr (.par 0) 0), (3, .ptr (.loc 3 0) 0), (4, .ptr (.loc 4 0) 0), (14, .pv (.int .i64 1)), (15, .pv (.int .i64 k))], hcuB l r⟩
def hcuI (l : List Bl) (r : Cr) (k : Int) : AS := ⟨[(0, .ptr (.par 0) 0), (3, .ptr (.loc 3 0) 0), (4, .ptr (.loc 4 0) 0), (6, .pv (.int .i64 0)), (14, .pv (.int .i64 1)), (15, .pv (.int .i64 0)), (22, .pv (.int .i64 1)), (23, .pv (.int .i64 k))], hcuB l r⟩
set_option maxHeartbeats 4000000 in
theorem hscut_c (l : List Bl) (r : Cr) (hr : r.lo ≤ r.hi) : CallsA Tryz.prog 113 [.ptr (.par 0) 0, .pv (hsP r)] (laid 0 (hbnB l)) (fun q B => q = .pv (.tup [hsP r, .bool true]) ∧ B = laid 0 (hbnB l)) := by
  have a1 := hemp1_c r hr
  refine calls_of_awpB [.par 0, .par 1] mixed L113_ok (Nat.le_of_ble_eq_true rfl) ?_
  generalize hR : (fun (q : AV) (B : List (Site × Box)) => q = .pv (.tup [hsP r, .bool true]) ∧ B = laid 0 (hbnB l)) = R
  simp [-getElem?_pos, L113, hsP, laid, hbnB, hbnC, -retB]
  refine awp_loopS (fun m τ => (m = 1 ∧ τ = hcuK l r 0) ∨ (m = 0 ∧ τ = hcuK l r 1)) ⟨1, hcuK l r 0, Sub.mk (by simp [hcuK]) (by simp [hcuK, hcuB]), .inl ⟨rfl, rfl⟩⟩ ?_
  rintro J hJ m τ (⟨rfl, rfl⟩ | ⟨rfl, rfl⟩)
  · have hround := hJ _ _ (.inr ⟨rfl, rfl⟩)
    have hw : IntKind.i64.wrap 1 = 1 := rfl
    clear hJ
    simp [-getElem?_pos, hcuK, hcuB, -retB]
    refine awp_loopS (fun m τ => (m = 1 ∧ τ = hcuI l r 0) ∨ (m = 0 ∧ τ = hcuI l r 1)) ⟨1, hcuI l r 0, Sub.mk (by simp [hcuI]) (by simp [hcuI, hcuB]), .inl ⟨rfl, rfl⟩⟩ ?_
    rintro J2 hJ2 m τ (⟨rfl, rfl⟩ | ⟨rfl, rfl⟩)
    · have hround2 := hJ2 _ _ (.inr ⟨rfl, rfl⟩)
      clear hJ2
      simp [-getElem?_pos, hcuI, hcuB, -retB]
      refine awp_loopS (fun m τ => m = 0 ∧ τ = ⟨(34, .pv (.int .i64 0)) :: (35, .pv (.int .i64 0)) :: (hcuI l r 0).tm, hcuB l r⟩) ⟨0, _, Sub.mk (by simp [hcuI]) (by simp [hcuB]), rfl, rfl⟩ ?_
      rintro J3 hJ3 m τ ⟨rfl, rfl⟩
      clear hJ3
      simp [-getElem?_pos, hcuI, hcuB, -retB, hw]
      exact ⟨_, _, (by omega : 0 < 1), Sub.mk (by simp [hcuI]) (by simp [hcuI, hcuB]), hround2⟩
    · clear hJ2
      simp [-getElem?_pos, hcuI, hcuB, -retB, hw]
      exact ⟨_, _, (by omega : 0 < 1), Sub.mk (by simp [hcuK]) (by simp [hcuK, hcuB]), hround⟩
  · clear hJ
    simp [-getElem?_pos, hcuK, hcuB, packW, -retB]
    rw [osel_none6]
    simp [-getElem?_pos, opWp, opWpX, packW, unpvs, AS.frz, AV.frz, AV.frzL, Box.frz, -retB]
    refine call_give (k := 0) (fs := []) (xs := [.lst false 2 [r.pv], .fn 66 [] []]) (cs := []) rfl rfl a1 rfl ?_
    simp [-getElem?_pos]
    rw [← hR]
    exact ⟨rfl, rfl⟩
theorem hclone_c (r : Cr) : CallsA Tryz.prog 71 [.pv (.lst false 2 [r.pv])] [] (fun q B => q = .vec (.ret 0) 2 0 1 ∧ B = [(.ret 0, .arr 85 2 [r.pv])]) := by
  refine calls_of_awpB [.loc 7 0] mixed L71_ok (Nat.le_of_ble_eq_true rfl) ?_
  simp [-getElem?_pos, L71, nilOf, nble]
def hsC (r : Cr) : List AV := [.pv (.int .i64 r.lo), .pv (.int .i64 r.hi), .pv (.int .i64 0), .pv (.int .i64 100000), .pv (.int .i64 0), .pv (.int .i64 100000), .pv (.int .i64 0), .pv (.int .i64 100000)]
def hspan1 (l : List Bl) (v : Int) : Cr := (⟨0, 100000⟩ : Cr).cut ⟨v - (biasM l).hi, v - (biasM l).lo⟩
def fillK : Nat → List AV
  | 0 => [.pv (.int .i64 0), .pv (.int .i64 0), .pv (.int .i64 0), .pv (.int .i64 0), .pv (.int .i64 0), .pv (.int .i64 0), .pv (.int .i64 0), .pv (.int .i64 0)]
  | 1 => [.pv (.int .i64 0), .pv (.int .i64 100000), .pv (.int .i64 0), .pv (.int .i64 0), .pv (.int .i64 0), .pv (.int .i64 0), .pv (.int .i64 0), .pv (.int .i64 0)]
  | 2 => [.pv (.int .i64 0), .pv (.int .i64 100000), .pv (.int .i64 0), .pv (.int .i64 100000), .pv (.int .i64 0), .pv (.int .i64 0), .pv (.int .i64 0), .pv (.int .i64 0)]
  | 3 => [.pv (.int .i64 0), .pv (.int .i64 100000), .pv (.int .i64 0), .pv (.int .i64 100000), .pv (.int .i64 0), .pv (.int .i64 100000), .pv (.int .i64 0), .pv (.int .i64 0)]
  | _ => [.pv (.int .i64 0), .pv (.int .i64 100000), .pv (.int .i64 0), .pv (.int .i64 100000), .pv (.int .i64 0), .pv (.int .i64 100000), .pv (.int .i64 0), .pv (.int .i64 100000)]
def hspB (l : List Bl) : List (Site × Box) := [(.par 0, .cells [.pv (.int .i64 1), .pv (.emp (some true)), .pv (.lst false 2 [hmP l]), .mp (.par 1)]), (.par 1, .map [])]
def hspK (l : List Bl) (v : Int) (k : Nat) : AS := ⟨[(0, .ptr (.par 0) 0), (1, .pv (.lst false 2 [hrP v])), (4, .ptr (.loc 4 0) 0), (13, .pv (.int .i64 k))], (.loc 4 0, .cells (fillK k)) :: hspB l⟩
def hspL (l : List Bl) (v : Int) (C : Cr) (k : Nat) : AS := ⟨[(0, .ptr (.par 0) 0), (4, .ptr (.loc 4 0) 0), (20, .pv (.lst false 2 [hrP v])), (21, .pv (.int .i64 1)), (22, .pv (.int .i64 k))], (.loc 4 0, .cells (if k = 0 then fillK 4 else hsC C)) :: hspB l⟩
set_option maxHeartbeats 4000000 in
theorem hspans_c (l : List Bl) (v : Int) (hl : l.length ≤ 1000) (hb : ∀ x ∈ l, x.bd) (hv : 0 ≤ v ∧ v ≤ 100000) (hr : (hspan1 l v).lo ≤ (hspan1 l v).hi) (hn : (biasM l).lo ≤ (biasM l).hi) : CallsA Tryz.prog 70 [.ptr (.par 0) 0, .pv (.lst false 2 [hrP v])] (laid 0 (hbnB l)) (fun q B => q = .pv (.tup [hsP (hspan1 l v), .bool true]) ∧ B = laid 0 (hbnB l)) := by
  have a1 := hbias_c l hl hb
  have a2 := hempty_c (hspan1 l v)
  rw [decide_eq_false (by omega)] at a2
  have a3 := hcut_c ⟨0, 100000⟩ ⟨v - (biasM l).hi, v - (biasM l).lo⟩
  have a4 := hscut_c l (hspan1 l v) hr
  have hbd := biasM_bd l
  have w1 : IntKind.i64.wrap (v - (biasM l).hi) = v - (biasM l).hi := wrap64 (by omega)
  have w2 : IntKind.i64.wrap (v - (biasM l).lo) = v - (biasM l).lo := wrap64 (by omega)
  unfold hspan1 at *
  refine calls_of_awpB [.par 0, .par 1] mixed L70_ok (Nat.le_of_ble_eq_true rfl) ?_
  generalize hR : (fun (q : AV) (B : List (Site × Box)) => q = .pv (.tup [hsP ((⟨0, 100000⟩ : Cr).cut ⟨v - (biasM l).hi, v - (biasM l).lo⟩), .bool true]) ∧ B = laid 0 (hbnB l)) = R
  generalize (⟨0, 100000⟩ : Cr).cut ⟨v - (biasM l).hi, v - (biasM l).lo⟩ = C at *
  simp [-getElem?_pos, L70, laid, hbnB, hbnC, -retB]
  refine awp_loopS (fun m τ => ∃ k : Nat, k ≤ 4 ∧ m = 4 - k ∧ τ = hspK l v k) ⟨4, hspK l v 0, Sub.mk (by simp [hspK]) (by simp [hspK, hspB, fillK]), 0, by omega, rfl, rfl⟩ ?_
  rintro J hJ m τ ⟨k, hk, rfl, rfl⟩
  have hw1 : IntKind.i64.wrap 1 = 1 := rfl
  have hw2 : IntKind.i64.wrap 2 = 2 := rfl
  have hw3 : IntKind.i64.wrap 3 = 3 := rfl
  have hw4 : IntKind.i64.wrap 4 = 4 := rfl
  have hk5 : k = 0 ∨ k = 1 ∨ k = 2 ∨ k = 3 ∨ k = 4 := by omega
  rcases hk5 with rfl | rfl | rfl | rfl | rfl
  case inr.inr.inr.inr =>
    clear hJ
    simp [-getElem?_pos, hspK, hspB, fillK, -retB]
    refine awp_loopS (fun m τ => ∃ k : Nat, k ≤ 1 ∧ m = 1 - k ∧ τ = hspL l v C k) ⟨1, hspL l v C 0, Sub.mk (by simp [hspL]) (by simp [hspL, hspB, fillK]), 0, by omega, rfl, rfl⟩ ?_
    rintro J hJ m τ ⟨k, hk, rfl, rfl⟩
    have hk5 : k = 0 ∨ k = 1 := by omega
    rcases hk5 with rfl | rfl
    · have hround := hJ _ _ ⟨1, by omega, rfl, rfl⟩
      clear hJ
      simp [-getElem?_pos, hspL, hspB, fillK, hrP, hmP, -retB]
      refine call_gives (k := 0) (fs := []) (xs := [hmP l]) (cs := []) rfl rfl a1 rfl ?_
      have hb04 : Nat.blt 0 4 = true := rfl
      simp [-getElem?_pos, Cr.pv, hmP, hb04, w1, w2, -retB]
      refine call_give (k := 0) (fs := []) (xs := [Cr.pv ⟨0, 100000⟩, Cr.pv ⟨v - (biasM l).hi, v - (biasM l).lo⟩]) (cs := []) rfl rfl a3 rfl ?_
      simp [-getElem?_pos, Cr.pv, hmP, hb04, -retB]
      refine call_gives (k := 0) (fs := []) (xs := [C.pv]) (cs := []) rfl rfl a2 rfl ?_
      simp [-getElem?_pos, hw1, -retB]
      exact ⟨_, _, (by omega : 0 < 1), Sub.mk (by simp [hspL, hw1, hrP]) (by simp [hspL, hspB, hsC, hmP]), hround⟩
    · clear hJ
      simp [-getElem?_pos, hspL, hspB, hsC, -retB]
      refine awp_loopS (fun m τ => m = 0 ∧ τ = ⟨[(0, .ptr (.par 0) 0), (4, .ptr (.loc 4 0) 0)], (.loc 4 0, .cells (hsC C)) :: hspB l⟩) ⟨0, _, Sub.mk (by simp) (by simp [hsC, hspB]), rfl, rfl⟩ ?_
      rintro J hJ m τ ⟨rfl, rfl⟩
      clear hJ
      simp [-getElem?_pos, hspB, hsC, -retB]
      refine call_lent (as' := [.ptr (.par 0) 0, .pv (hsP C)]) (B := laid 0 (hbnB l)) (fs := []) (cs := []) 66 [.par 0, .par 1] ?_ rfl rfl ?_ ?_ ?_ a4 ?_
      · rfl
      · simp [laid, hbnB, hbnC]
      · rfl
      · rfl
      rintro r0 B0 ⟨rfl, rfl⟩
      refine ⟨rfl, by simp [laid, hbnB, hbnC], ?_⟩
      simp [-getElem?_pos, laid, hbnB, hbnC, hsP]
      rw [← hR]
      exact ⟨rfl, rfl⟩
  all_goals
    have h1 := hJ 3 _ ⟨1, by omega, rfl, rfl⟩
    have h2 := hJ 2 _ ⟨2, by omega, rfl, rfl⟩
    have h3 := hJ 1 _ ⟨3, by omega, rfl, rfl⟩
    have h4 := hJ 0 _ ⟨4, by omega, rfl, rfl⟩
    clear hJ
    simp [-getElem?_pos, hspK, hspB, fillK, hw1, hw2, hw3, hw4, -retB]
  · exact ⟨_, _, (by omega : 3 < 4), Sub.mk (by simp [hspK, hw1, hw2, hw3, hw4]) (by simp [hspK, hspB, fillK]), h1⟩
  · exact ⟨_, _, (by omega : 2 < 3), Sub.mk (by simp [hspK, hw1, hw2, hw3, hw4]) (by simp [hspK, hspB, fillK]), h2⟩
  · exact ⟨_, _, (by omega : 1 < 2), Sub.mk (by simp [hspK, hw1, hw2, hw3, hw4]) (by simp [hspK, hspB, fillK]), h3⟩
  · exact ⟨_, _, (by omega : 0 < 1), Sub.mk (by simp [hspK, hw1, hw2, hw3, hw4]) (by simp [hspK, hspB, fillK]), h4⟩
theorem hSpans_c (l : List Bl) (v : Int) (h5 : l.length ≤ 5) (hva : l.all Bl.valB = true) (hb : ∀ x ∈ l, x.bd) (hn : (biasM l).lo ≤ (biasM l).hi) (hvv : inB v 0 100000 = true) (hr : (hspan1 l v).lo ≤ (hspan1 l v).hi) :
    Gives Tryz.prog 27 [hbP l, .lst false 2 [hrP v]] (.tup [.lst false 2 [(hspan1 l v).pv], .int .i64 0]) := by
  have hv : 0 ≤ v ∧ v ≤ 100000 := by
    unfold inB at hvv
    simp only [Bool.and_eq_true, decide_eq_true_eq] at hvv
    exact hvv
  have a1 := hreadS_c l v h5 hva hb hn hvv
  have a2 := hspans_c l v (by omega) hb hv hr hn
  have a3 := hclone_c (hspan1 l v)
  refine CallsA.weak2 ?_
  refine calls_of_awpF [.loc 30 0] mixed L27_ok (Nat.le_of_ble_eq_true rfl) ?_
  generalize hspan1 l v = C at *
  simp [-getElem?_pos, L27, hbP]
  refine call_lent (as' := [.pv (hbP l), .pv (.lst false 2 [hrP v])]) (B := []) (fs := []) (cs := []) 13 [] ?_ rfl rfl rfl ?_ ?_ a1 ?_
  · rfl
  · rfl
  · rfl
  rintro r0 B0 ⟨rfl, rfl⟩
  refine ⟨rfl, by simp [hbnC], ?_⟩
  simp [-getElem?_pos, hbnC]
  refine call_lent (as' := [.ptr (.par 0) 0, .pv (.lst false 2 [hrP v])]) (B := laid 0 (hbnB l)) (fs := []) (cs := []) 22 [.loc 13 0, .loc 13 1] ?_ rfl rfl ?_ ?_ ?_ a2 ?_
  · rfl
  · simp [laid, hbnB, hbnC]
  · rfl
  · rfl
  rintro r0 B0 ⟨rfl, rfl⟩
  refine ⟨rfl, by simp [laid, hbnB, hbnC], ?_⟩
  simp [-getElem?_pos, laid, hbnB, hbnC, hsP]
  rw [osel_none6]
  simp [-getElem?_pos, opWp, opWpX, packW, unpvs, AS.frz, AV.frz, AV.frzL, Box.frz]
  refine call_lent (as' := [.pv (.lst false 2 [C.pv])]) (B := []) (fs := []) (cs := []) 30 [] ?_ rfl rfl rfl ?_ ?_ a3 ?_
  · rfl
  · rfl
  · rfl
  rintro r0 B0 ⟨rfl, rfl⟩
  refine ⟨rfl, by simp, ?_⟩
  simp [-getElem?_pos, retFz, frzL, AS.frz, AV.frz, AV.frzL, Box.frz, AS.tidy, AS.frzC]
end Go.Proofs.YtaffbiibcfeigaaGreat
/-! Contracts of layer 6's law (hard): Book, Readings. -/
namespace Go.Proofs.YtaffbiibcfeigaaGreat
open Go.RowKit
attribute [local simp] Box.purge Site.isLoc
set_option maxRecDepth 10000
set_option linter.unusedSimpArgs false
attribute [local simp] retFz frzL AS.frz AV.frz AV.frzL Box.frz AS.tidy AS.frzC
theorem hto_c (a b : Int) : Gives Tryz.prog 68 [.agg [.int .i64 a, .int .i64 b]] (.agg [.int .i64 a, .int .i64 b]) := by
  refine calls_of_awpS mixed L68_ok (Nat.le_of_ble_eq_true rfl) ?_
  simp [-getElem?_pos, L68]
def obB (l : List Bl) : List (Site × Box) := [(.loc 1 0, .cells [.pv (.int .i64 1), .pv (.emp (some true)), .pv (.lst false 2 [hmP l])]), (.loc 2 0, .cells [.pv (.int .i64 0), .pv (.emp (some true)), .pv (.emp (some true))])]
def obK (l : List Bl) (k : Nat) : AS := ⟨[(1, .ptr (.loc 1 0) 0), (2, .ptr (.loc 2 0) 0), (3, .ptr (.loc 3 0) 0), (8, .pv (.int .i64 k))], (.loc 113 0, .arr 180 2 (if k = 0 then [] else [hmP l])) :: (.loc 3 0, .cells [.pv (.int .i64 1), .pv (.emp (some true)), .vec (.loc 113 0) 2 0 k]) :: obB l⟩
def obI (l : List Bl) (i : Nat) : AS := ⟨[(1, .ptr (.loc 1 0) 0), (2, .ptr (.loc 2 0) 0), (3, .ptr (.loc 3 0) 0), (8, .pv (.int .i64 0)), (9, .ptr (.loc 9 0) 0), (10, .ptr (.loc 10 0) 0), (11, .pv (.int .i64 i))], (.loc 107 0, .arr 177 3 ((l.take i).map Bl.pv)) :: (.loc 10 0, .cells [.pv (.int .i64 0), .vec (.loc 107 0) 3 0 i]) :: (.loc 9 0, .cells [.pv (.int .i64 0), .pv (.lst false 3 (l.map Bl.pv))]) :: (.loc 113 0, .arr 180 2 []) :: (.loc 3 0, .cells [.pv (.int .i64 1), .pv (.emp (some true)), .vec (.loc 113 0) 2 0 0]) :: obB l⟩
set_option maxHeartbeats 4000000 in
theorem hbook_c (l : List Bl) (hl : l.length ≤ 1000) : CallsA Tryz.prog 26 ([hbP l].map .pv) [] (fun r B => r = .pv (hbP l) ∧ B = []) := by
  refine calls_of_awpF [.loc 113 0] mixed L26_ok (Nat.le_of_ble_eq_true rfl) ?_
  generalize hR : (fun (r : AV) (B : List (Site × Box)) => r = .pv (hbP l) ∧ B = []) = R
  simp [-getElem?_pos, L26, hbP]
  refine awp_loopS (fun m τ => m = 0 ∧ τ = ⟨[(1, .ptr (.loc 1 0) 0), (2, .ptr (.loc 2 0) 0), (3, .ptr (.loc 3 0) 0), (4, .pv (.int .i64 0))], (.loc 3 0, .cells [.pv (.int .i64 1), .pv (.emp (some true)), .pv (.emp (some true))]) :: obB l⟩) ⟨0, _, Sub.mk (by simp) (by simp [obB]), rfl, rfl⟩ ?_
  rintro J hJ m τ ⟨rfl, rfl⟩
  clear hJ
  simp [-getElem?_pos, obB]
  refine awp_loopS (fun m τ => ∃ k : Nat, k ≤ 1 ∧ m = 1 - k ∧ τ = obK l k) ⟨1, obK l 0, Sub.trans' (Sub.mk (by simp [obK, AS.vecC]) (by simp [obK, obB, AS.vecC])) (vecC 113 180 2 (s := .loc 3 0) (cs := [.pv (.int .i64 1), .pv (.emp (some true)), .pv (.emp (some true))]) 2 rfl rfl (by decide)), 0, by omega, rfl, rfl⟩ ?_
  rintro J hJ m τ ⟨k, hk, rfl, rfl⟩
  have hw1 : IntKind.i64.wrap 1 = 1 := rfl
  have hk5 : k = 0 ∨ k = 1 := by omega
  rcases hk5 with rfl | rfl
  · have hround := hJ 0 _ ⟨1, by omega, rfl, rfl⟩
    clear hJ
    simp [-getElem?_pos, obK, obB, hmP]
    refine awp_loopS (fun m τ => ∃ k : Nat, k ≤ l.length ∧ m = l.length - k ∧ τ = obI l k) ⟨l.length, obI l 0, Sub.trans' (Sub.mk (by simp [obI, AS.vecC]) (by simp [obI, obB, hmP, AS.vecC])) (vecC 107 177 3 (s := .loc 10 0) (cs := [.pv (.int .i64 0), .pv (.emp (some true))]) 1 rfl rfl (by decide)), 0, by omega, rfl, rfl⟩ ?_
    rintro J hJ m τ ⟨k, hk, rfl, rfl⟩
    by_cases hlt : k < l.length
    · obtain ⟨x, hx⟩ : ∃ x, l[k]? = some x := ⟨l[k], List.getElem?_eq_getElem hlt⟩
      have hg : (l.map Bl.pv)[k]? = some (.agg [.int .i64 x.lo, .int .i64 x.hi, .int .i64 x.rd]) := by rw [List.getElem?_map, hx]; rfl
      have hwk := wrapK (k := k) (by omega)
      have hround2 := hJ _ _ ⟨k + 1, hlt, rfl, rfl⟩
      have hmeas : l.length - (k + 1) < l.length - k := by omega
      have htk : (l.take (k + 1)).map Bl.pv = (l.take k).map Bl.pv ++ [.agg [.int .i64 x.lo, .int .i64 x.hi, .int .i64 x.rd]] := by rw [List.take_add_one, hx]; simp [Bl.pv]
      have htl : ((l.take k).map Bl.pv).length = k := by rw [List.length_map, List.length_take]; omega
      have hk6 : k ≤ 999999 := by omega
      have hto := hto_c x.lo x.hi
      unfold obI at hround2 ⊢
      rw [htk] at hround2
      clear hJ htk
      generalize (l.take k).map Bl.pv = TL at *
      simp [-getElem?_pos, -List.getElem?_map, hlt, hg, obB, hmP, nble, nblt]
      refine call_give (k := 0) rfl rfl hto rfl ?_
      simp [-getElem?_pos, -List.getElem?_map, nble, nblt, hk6, htl, hwk]
      exact ⟨_, _, hmeas, Sub.mk (by simp) (by simp [obB, hmP]), hround2⟩
    · have he : k = l.length := by omega
      subst he
      clear hJ
      have ht : (l.map Bl.pv).take l.length = l.map Bl.pv := List.take_of_length_le (by simp)
      simp [-getElem?_pos, -List.getElem?_map, obI, obB, hmP, ht, hw1]
      exact ⟨_, _, (by omega : 0 < 1), Sub.mk (by simp [obK, hw1]) (by simp [obK, obB, hmP]), hround⟩
  · clear hJ
    simp [-getElem?_pos, obK, obB]
    rw [← hR]
    simp [hbP]
theorem hreadings_c (v : Int) : CallsA Tryz.prog 28 ([.lst false 2 [.agg [.int .i64 0, .int .i64 v]]].map .pv) [] (fun r B => r = .pv (.lst false 2 [.agg [.int .i64 0, .int .i64 v]]) ∧ B = []) := by
  refine calls_of_awpF [.loc 24 0] mixed L28_ok (Nat.le_of_ble_eq_true rfl) ?_
  generalize hR : (fun (r : AV) (B : List (Site × Box)) => r = .pv (.lst false 2 [.agg [.int .i64 0, .int .i64 v]]) ∧ B = []) = R
  simp [-getElem?_pos, L28]
  refine awp_loopS (fun m τ => ∃ k : Nat, k ≤ 1 ∧ m = 1 - k ∧ τ = ⟨[(0, .pv (.lst false 2 [.agg [.int .i64 0, .int .i64 v]])), (3, .vec (.loc 24 0) 2 0 k), (4, .pv (.int .i64 k))], [(.loc 24 0, .arr 204 2 (if k = 0 then [] else [.agg [.int .i64 0, .int .i64 v]]))]⟩) ⟨1, ⟨[(0, .pv (.lst false 2 [.agg [.int .i64 0, .int .i64 v]])), (3, .vec (.loc 24 0) 2 0 0), (4, .pv (.int .i64 0))], [(.loc 24 0, .arr 204 2 [])]⟩, Sub.trans' (Sub.mk (by simp [AS.vecT]) (by simp [AS.vecT])) (vecT 24 204 2 3 rfl (by decide)), 0, by omega, rfl, rfl⟩ ?_
  rintro J hJ m τ ⟨k, hk, rfl, rfl⟩
  have hw1 : IntKind.i64.wrap 1 = 1 := rfl
  have hk5 : k = 0 ∨ k = 1 := by omega
  rcases hk5 with rfl | rfl
  · have hround := hJ 0 _ ⟨1, by omega, rfl, rfl⟩
    clear hJ
    simp [-getElem?_pos, nble, nblt, hw1]
    exact ⟨_, _, (by omega : 0 < 1), Sub.mk (by simp [hw1]) (by simp), hround⟩
  · clear hJ
    simp [-getElem?_pos]
    rw [← hR]
    simp
end Go.Proofs.YtaffbiibcfeigaaGreat
