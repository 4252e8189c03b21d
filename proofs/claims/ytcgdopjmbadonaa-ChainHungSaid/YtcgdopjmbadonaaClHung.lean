/- Contracts of layer 2 (chain): some numbers by bits; a book without them. (Several texts in one.) -/
import Derived.Test.YtcgdopjmbadonaaChF
import Derived.Test.YtcgdopjmbadonaaChH
import Derived.Test.YtcgdopjmbadonaaChI
import Derived.Test.YtcgdopjmbadonaaChJ
import Derived.Test.YtcgdopjmbadonaaChG
import Derived.Test.YtcgdopjmbadonaaRows
import Derived.WalkKit
import Derived.ProofKit
import Derived.OpenShut
set_option linter.unusedVariables false
set_option linter.unusedSimpArgs false
/-! Contracts of layer 2 (chain): some numbers by bits; a book without them. -/
namespace Go.Proofs.Ytcgdopjmbadonaa
open Go.RowKit
attribute [local simp] Box.purge Site.isLoc

set_option maxRecDepth 10000
set_option linter.unusedSimpArgs false
def bit32 (bits : Int) (n : Nat) : Bool := decide ((bits.fdiv (2 ^ min (n % 31) IntKind.u32.bits)).tmod 2 = 1)
def Bk.someU (b : Bk) (bits : Int) (n : Nat) : List Int := ((List.range n).filter fun (m : Nat) => b.certs.any fun c => decide (c.num = (m : Int)) && bit32 bits m).map Int.ofNat
theorem someU_succ {b : Bk} {bits : Int} {n : Nat} : b.someU bits (n + 1) = b.someU bits n ++ (if (b.certs.any fun c => decide (c.num = (n : Int)) && bit32 bits n) = true then [(n : Int)] else []) := by
  unfold Bk.someU
  rw [List.range_succ, List.filter_append, List.map_append]
  congr 1
  simp only [List.filter_cons, List.filter_nil]
  split <;> rfl
theorem someU_len {b : Bk} {bits : Int} {n : Nat} : (b.someU bits n).length ≤ n := by
  unfold Bk.someU
  rw [List.length_map]
  exact Nat.le_trans (List.length_filter_le _ _) (by simp)
theorem someU_one {b : Bk} (hb : b.ok) {bits : Int} : b.someU bits 1 = [] := by
  have h0 : b.someU bits 0 = [] := rfl
  rw [someU_succ, h0, if_neg]
  · rfl
  rw [Bool.not_eq_true, List.any_eq_false]
  intro c hc
  have := (cert_bds hb hc).1
  simp
  omega
def Bk.some (b : Bk) (bits : Int) : List Int := b.someU bits 1000
attribute [local irreducible] Bk.someU bit32
attribute [local simp] retFz frzL AS.frz AV.frz AV.frzL Box.frz AS.tidy AS.frzC
def smK (b : Bk) (bits : Int) (n : Nat) : AS := ⟨[(1, .pv (.int .u32 bits)), (2, .ptr (.loc 2 0) 0), (5, .vec (.loc 44 0) 1 0 (b.someU bits n).length), (6, .pv (.int .i64 n))], [(.loc 44 0, .arr 3 1 ((b.someU bits n).map intP)), (.loc 2 0, .cells b.cells)]⟩
def smI (b : Bk) (bits : Int) (n : Nat) (is : Bool) (i : Nat) : AS := ⟨(7, .pv (.bool is)) :: (8, .pv (.int .i64 i)) :: (smK b bits n).tm, (smK b bits n).bx⟩
set_option maxHeartbeats 16000000 in
theorem some_c (b : Bk) (hb : b.ok) (bits : Int) (h0 : 0 ≤ bits ∧ bits < 4294967296) : CallsA Try.prog 33 ([b.pv, .int .u32 bits].map .pv) [] (fun r B => r = .pv (.lst false 1 ((b.some bits).map intP)) ∧ B = []) := by
  have hcl := hb.c
  refine calls_of_awpF [.loc 44 0] mixed L33_ok (Nat.le_of_ble_eq_true rfl) ?_
  have hHB : b.some bits = b.someU bits 1000 := rfl
  rw [hHB]
  generalize hR : (fun (r : AV) (B : List (Site × Box)) => r = .pv (.lst false 1 ((b.someU bits 1000).map intP)) ∧ B = []) = R
  simp [-getElem?_pos, L33, Bk.pv]
  refine awp_loopS (fun m τ => ∃ n : Nat, n ≤ 1000 ∧ m = 1000 - n ∧ τ = smK b bits n) ⟨999, smK b bits 1, Sub.trans' (Sub.mk (by simp [smK, AS.vecT, someU_one hb]) (by simp [smK, AS.vecT, Bk.cells, someU_one hb])) (vecT 44 3 1 5 rfl (by decide)), 1, by omega, rfl, rfl⟩ ?_
  rintro J hJ m τ ⟨n, hn, rfl, rfl⟩
  have hln := someU_len (b := b) (bits := bits) (n := n)
  by_cases hlt : n < 1000
  · have hw : IntKind.i64.wrap ((n : Int) + 1) = ((n + 1 : Nat) : Int) := wrapK (by omega)
    have hle : decide ((n : Int) ≤ 999) = true := by simp; omega
    have hround := hJ _ _ ⟨n + 1, hlt, rfl, rfl⟩
    have hmeas : 1000 - (n + 1) < 1000 - n := by omega
    obtain ⟨P, hP⟩ : ∃ P : Ct → Bool, P = fun o => decide (o.num = (n : Int)) && bit32 bits n := ⟨_, rfl⟩
    have hnext : b.someU bits (n + 1) = b.someU bits n ++ (if (b.certs.take b.certs.length).any P = true then [(n : Int)] else []) := by
      rw [someU_succ, List.take_length, hP]
    clear hJ
    simp [-getElem?_pos, -List.getElem?_map, -List.take_length, -decide_eq_true_eq, -decide_eq_false_iff_not, smK, Bk.cells, hle]
    refine awp_loopS (fun m τ => ∃ i : Nat, i ≤ b.certs.length ∧ m = b.certs.length - i ∧ τ = smI b bits n ((b.certs.take i).any P) i) ⟨b.certs.length, smI b bits n ((b.certs.take 0).any P) 0, Sub.mk (by simp [smI, smK]) (by simp [smI, smK, Bk.cells]), 0, by omega, rfl, rfl⟩ ?_
    rintro J2 hJ2 m τ ⟨i, hi, rfl, rfl⟩
    by_cases hlt2 : i < b.certs.length
    · obtain ⟨o, ho, hom, hgo⟩ := ct_at hlt2
      have hwi := wrapK (k := i) (by omega)
      have hround2 := hJ2 _ _ ⟨i + 1, hlt2, rfl, rfl⟩
      rw [any_next ho] at hround2
      have hmeas2 : b.certs.length - (i + 1) < b.certs.length - i := by omega
      have hPo : P o = (decide (o.num = (n : Int)) && bit32 bits n) := by rw [hP]
      have hbt : bit32 bits n = decide ((bits.fdiv (2 ^ min (n % 31) IntKind.u32.bits)).tmod 2 = 1) := by unfold bit32; rfl
      have hsh : IntKind.u64.wrap ((n : Int).tmod 31) = ((n % 31 : Nat) : Int) := by
        rw [Int.tmod_eq_emod_of_nonneg (by omega), IntKind.wrap_u64]; omega
      have hto : ((n : Int) % 31).toNat = n % 31 := by omega
      have hsn : ¬ ((n % 31 : Nat) : Int) < 0 := by omega
      rw [hbt] at hPo
      clear hJ2 hP hround hnext hbt
      generalize hA : (b.certs.take i).any P = A at *
      cases A
      case true =>
        simp [-getElem?_pos, -List.getElem?_map, smI, smK, Bk.cells, itsP, ctsP, hlt2, hgo, hwi]
        exact ⟨_, _, hmeas2, Sub.mk (by simp [smI, smK]) (by simp [smI, smK, Bk.cells, itsP, ctsP]), hround2⟩
      case false =>
      cases e1 : decide (o.num = (n : Int))
      · rw [e1, Bool.false_and] at hPo
        rw [hPo] at hround2
        simp [-getElem?_pos, -List.getElem?_map, -decide_eq_true_eq, -decide_eq_false_iff_not, smI, smK, Bk.cells, itsP, ctsP, hlt2, hgo, hwi, e1]
        exact ⟨_, _, hmeas2, Sub.mk (by simp [smI, smK]) (by simp [smI, smK, Bk.cells, itsP, ctsP]), hround2⟩
      rw [e1, Bool.true_and] at hPo
      rw [hPo] at hround2
      cases e2 : decide ((bits.fdiv (2 ^ min (n % 31) IntKind.u32.bits)).tmod 2 = 1)
      all_goals rw [e2] at hround2
      all_goals simp [-getElem?_pos, -List.getElem?_map, -decide_eq_true_eq, -decide_eq_false_iff_not, smI, smK, Bk.cells, itsP, ctsP, hlt2, hgo, hwi, e1, e2, hsh, hsn, hto]
      all_goals exact ⟨_, _, hmeas2, Sub.mk (by simp [smI, smK]; exact ⟨by simpa using e2, by simpa using hwi⟩) (by simp [smI, smK, Bk.cells, itsP, ctsP]), hround2⟩
    have he : i = b.certs.length := by omega
    subst he
    clear hJ2 hP
    generalize (b.certs.take b.certs.length).any P = A at *
    cases A
    · rw [if_neg (by simp), List.append_nil] at hnext
      simp [-getElem?_pos, -List.getElem?_map, smI, smK, Bk.cells, itsP, ctsP, hw]
      exact ⟨_, _, hmeas, Sub.mk (by simp [smK, hnext]) (by simp [smK, Bk.cells, itsP, ctsP, hnext]), hround⟩
    · rw [if_pos rfl] at hnext
      have hk6 : (b.someU bits n).length ≤ 999999 := by omega
      have hU : ((b.someU bits n).map intP).take (b.someU bits n).length = (b.someU bits n).map intP := List.take_of_length_le (by simp)
      simp [-getElem?_pos, -List.getElem?_map, smI, smK, Bk.cells, itsP, ctsP, hw, nble, nblt, hk6, hU]
      refine ⟨_, _, hmeas, Sub.mk ?_ ?_, hround⟩
      · simp [smK, hnext]
      · simp [smK, Bk.cells, itsP, ctsP, hnext, intP]
  have he : n = 1000 := by omega
  subst he
  clear hJ
  have hU : ((b.someU bits 1000).map intP).take (b.someU bits 1000).length = (b.someU bits 1000).map intP := List.take_of_length_le (by simp)
  simp [-getElem?_pos, -List.getElem?_map, smK, Bk.cells, hU]
  rw [← hR]
  simp
end Go.Proofs.Ytcgdopjmbadonaa

/-! Contracts of layer 2 (chain): a book without some certificates. -/
namespace Go.Proofs.Ytcgdopjmbadonaa
open Go.RowKit
attribute [local simp] Box.purge Site.isLoc

set_option maxRecDepth 10000
set_option linter.unusedSimpArgs false
def Bk.woL (b : Bk) (l : List Int) : Bk := l.foldl Bk.wo b
theorem wo_clen {b : Bk} {n : Int} : (b.wo n).certs.length ≤ b.certs.length := List.length_filter_le _ _
theorem woL_clen : ∀ (l : List Int) {b : Bk}, (b.woL l).certs.length ≤ b.certs.length
  | [], _ => Nat.le_refl _
  | n :: l, b => Nat.le_trans (woL_clen l (b := b.wo n)) wo_clen
theorem woL_its : ∀ (l : List Int) {b : Bk}, (b.woL l).items = b.items
  | [], _ => rfl
  | n :: l, b => woL_its l (b := b.wo n)
theorem woL_mem : ∀ (l : List Int) {b : Bk} {c : Ct}, c ∈ (b.woL l).certs ↔ c ∈ b.certs ∧ c.num ∉ l
  | [], b, c => by simp [Bk.woL]
  | n :: l, b, c => by
    have h := woL_mem l (b := b.wo n) (c := c)
    have e : (b.wo n).woL l = b.woL (n :: l) := rfl
    rw [← e, h]
    have h2 : c ∈ (b.wo n).certs ↔ c ∈ b.certs ∧ ¬ c.num = n := by
      show c ∈ b.certs.filter (fun c => !decide (c.num = n)) ↔ _
      simp
    rw [h2]
    simp only [List.mem_cons, not_or, and_assoc]
theorem woL_next {b : Bk} {l : List Int} {k : Nat} {x : Int} (h : l[k]? = some x) : b.woL (l.take (k + 1)) = (b.woL (l.take k)).wo x := by
  unfold Bk.woL
  rw [List.take_add_one, h, List.foldl_append]
  rfl
def wcK (b : Bk) (l : List Int) (x : Bk) (k : Nat) : AS := ⟨[(1, .pv (.lst false 1 (l.map intP))), (4, .ptr (.loc 4 0) 0), (5, .ptr (.loc 5 0) 0), (6, .pv (.int .i64 k))],
  [(.loc 5 0, .cells x.cells), (.loc 4 0, .cells [.pv (.emp (some true)), .pv (.emp (some true))])]⟩
set_option maxHeartbeats 16000000 in
theorem without_law_c (b : Bk) (hc : b.certs.length ≤ 1000) (l : List Int) (hl : l.length ≤ 1000) : Gives Try.prog 35 [b.pv, .lst false 1 (l.map intP)] (b.woL l).pv := by
  have hfull : b.woL (l.take l.length) = b.woL l := by rw [List.take_length]
  obtain ⟨R, hR⟩ : ∃ R, R = (b.woL l).pv := ⟨_, rfl⟩
  rw [← hR]
  refine calls_of_awpS mixed L35_ok (Nat.le_of_ble_eq_true rfl) ?_
  simp [-getElem?_pos, L35, Bk.pv]
  refine awp_loopS (fun m τ => ∃ k : Nat, k ≤ l.length ∧ m = l.length - k ∧ τ = wcK b l (b.woL (l.take k)) k) ⟨l.length, wcK b l (b.woL (l.take 0)) 0, Sub.mk (by simp [wcK]) (by simp [wcK, Bk.cells, Bk.woL]), 0, by omega, rfl, rfl⟩ ?_
  rintro J hJ m τ ⟨k, hk, rfl, rfl⟩
  have hcl := Nat.le_trans (woL_clen (l.take k) (b := b)) hc
  by_cases hlt : k < l.length
  · obtain ⟨x, hx⟩ : ∃ x, l[k]? = some x := ⟨l[k], List.getElem?_eq_getElem hlt⟩
    have hg : (l.map intP)[k]? = some (.int .i64 x) := by rw [List.getElem?_map, hx]; rfl
    have hw := wrapK (k := k) (by omega)
    have hround := hJ _ _ ⟨k + 1, hlt, rfl, rfl⟩
    have hmeas : l.length - (k + 1) < l.length - k := by omega
    rw [woL_next hx] at hround
    clear hJ hfull
    generalize b.woL (l.take k) = X at *
    have hwo := rwo_c X hcl x
    simp [-getElem?_pos, -List.getElem?_map, wcK, Bk.cells, hlt, hg, hw]
    refine .inl (call_pv [] (fs := []) (xs := [X.pv, .int .i64 x]) (cs := []) rfl rfl hwo ?_)
    simp [-getElem?_pos, -List.getElem?_map, frzsL, hw, Bk.pv]
    exact ⟨_, _, hmeas, Sub.mk (by simp [wcK]) (by simp [wcK, Bk.cells]), hround⟩
  have he : k = l.length := by omega
  subst he
  clear hJ
  rw [hfull] at *
  simp [-getElem?_pos, -List.getElem?_map, wcK, Bk.cells, hR, Bk.pv]
end Go.Proofs.Ytcgdopjmbadonaa

/-! Contracts of layer 2 (chain): a book with one certificate of its item alone. -/
namespace Go.Proofs.Ytcgdopjmbadonaa
open Go.RowKit
attribute [local simp] Box.purge Site.isLoc

set_option maxRecDepth 10000
set_option linter.unusedSimpArgs false
def onlyC (m : Int) (c o : Ct) : Ct := { o with it := (if (decide (o.num < c.num) && decide (o.it = c.it)) = true then m else o.it), src := (if decide (o.src = c.it) = true then m else o.src) }
def onlyL (m : Int) (c : Ct) (l : List Ct) : List Ct := (l.filter fun o => !decide (c.num < o.num)).map (onlyC m c)
def Bk.only (b : Bk) (c : Ct) : Bk := ⟨b.items ++ [b.item c.it], onlyL b.items.length c b.certs⟩
theorem onlyL_next {m : Int} {c o : Ct} {l : List Ct} {k : Nat} (h : l[k]? = some o) : onlyL m c (l.take (k + 1)) = onlyL m c (l.take k) ++ (if decide (c.num < o.num) = true then [] else [onlyC m c o]) := by
  unfold onlyL
  rw [List.take_add_one, h, List.filter_append, List.map_append]
  congr 1
  simp only [Option.toList, List.filter_cons, List.filter_nil]
  cases decide (c.num < o.num) <;> rfl
theorem onlyL_len {m : Int} {c : Ct} {l : List Ct} : (onlyL m c l).length ≤ l.length := by
  unfold onlyL
  rw [List.length_map]
  exact List.length_filter_le _ _
attribute [local simp] retFz frzL AS.frz AV.frz AV.frzL Box.frz AS.tidy AS.frzC
def onS (b : Bk) (c : Ct) (z : It) : AS := ⟨[(2, .ptr (.loc 2 0) 0), (3, .ptr (.loc 3 0) 0), (4, .ptr (.loc 4 0) 0), (5, .ptr (.loc 5 0) 0), (20, .agg [.vec (.loc 19 0) 4 0 (b.items.length + 1), .pv (.emp (some true))])],
  [(.loc 19 0, .arr 83 4 (b.items.map It.pv ++ [z.pv])), (.loc 5 0, .cells [.pv (.emp (some true)), .pv (.emp (some true))]), (.loc 4 0, .cells [.pv (.emp (some true)), .pv (.emp (some true))]), (.loc 3 0, .cells c.cells), (.loc 2 0, .cells b.cells)]⟩
def onK (b : Bk) (c : Ct) (z : It) (Y : List Ct) (k : Nat) : AS := ⟨[(2, .ptr (.loc 2 0) 0), (3, .ptr (.loc 3 0) 0), (4, .ptr (.loc 4 0) 0), (5, .ptr (.loc 5 0) 0), (6, .pv (.int .i64 k))],
  [(.loc 67 0, .arr 58 7 (Y.map Ct.pv)), (.loc 5 0, .cells [.vec (.loc 19 0) 4 0 (b.items.length + 1), .vec (.loc 67 0) 7 0 Y.length]), (.loc 19 0, .arr 83 4 (b.items.map It.pv ++ [z.pv])), (.loc 4 0, .cells [.pv (.emp (some true)), .pv (.emp (some true))]), (.loc 3 0, .cells c.cells), (.loc 2 0, .cells b.cells)]⟩
set_option maxHeartbeats 16000000 in
theorem only_c (b : Bk) (hi : b.items.length ≤ 1000) (hc : b.certs.length ≤ 1000) (c : Ct) (h0 : 0 ≤ c.it) (h1 : c.it < b.items.length) : CallsA Try.prog 37 ([b.pv, c.pv].map .pv) [] (fun r B => r = .pv (b.only c).pv ∧ B = []) := by
  obtain ⟨j, hj, hjl, z, hz, hzz, hgz⟩ := item_at h0 h1
  refine calls_of_awpF [.loc 19 0, .loc 67 0] mixed L37_ok (Nat.le_of_ble_eq_true rfl) ?_
  have hfin : (b.only c).pv = .agg [.lst false 4 (b.items.map It.pv ++ [z.pv]), .lst false 7 ((onlyL b.items.length c b.certs).map Ct.pv)] := by
    unfold Bk.only
    rw [hzz]
    simp [Bk.pv, itsP, ctsP]
  rw [hfin]
  have hfull : onlyL b.items.length c (b.certs.take b.certs.length) = onlyL b.items.length c b.certs := by rw [List.take_length]
  generalize hR : (fun (r : AV) (B : List (Site × Box)) => r = .pv (.agg [.lst false 4 (b.items.map It.pv ++ [z.pv]), .lst false 7 ((onlyL b.items.length c b.certs).map Ct.pv)]) ∧ B = []) = R
  have hm : (b.items.map It.pv).take b.items.length = b.items.map It.pv := List.take_of_length_le (by simp)
  have hi6 : b.items.length ≤ 999999 := by omega
  have hi7 : b.items.length ≤ 1000000 := by omega
  simp [-getElem?_pos, -List.getElem?_map, L37, Bk.pv, Ct.pv, hj, itsP, ctsP, hjl, hgz]
  refine ltS_seq (onS b c z) ?_ ?_
  · simp [-getElem?_pos, -List.getElem?_map, ltS_alt, ltS_no, itsP, ctsP, nble, nblt, hi6, hi7, hm, hj, hjl, hgz]
    repeat' (with_reducible refine And.intro ?_ ?_)
    all_goals
      refine Sub.mk ?_ ?_
      · simp [onS]
      · simp [onS, Bk.cells, itsP, ctsP, Ct.cells, It.pv, hj]
  simp [-getElem?_pos, -List.getElem?_map, ltS_alt, ltS_no, onS]
  refine awp_loopS (fun m τ => ∃ k : Nat, k ≤ b.certs.length ∧ m = b.certs.length - k ∧ τ = onK b c z (onlyL b.items.length c (b.certs.take k)) k) ⟨b.certs.length, onK b c z (onlyL b.items.length c (b.certs.take 0)) 0, Sub.trans' (Sub.mk (by simp [onK, AS.vecC]) (by simp [onK, onlyL, AS.vecC, Bk.cells, Ct.cells])) (vecC 67 58 7 (s := .loc 5 0) (cs := [.vec (.loc 19 0) 4 0 (b.items.length + 1), .pv (.emp (some true))]) 1 rfl rfl (by decide)), 0, by omega, rfl, rfl⟩ ?_
  rintro J hJ m τ ⟨k, hk, rfl, rfl⟩
  by_cases hlt : k < b.certs.length
  · obtain ⟨o, ho, hom, hgo⟩ := ct_at hlt
    have hw := wrapK (k := k) (by omega)
    have hround := hJ _ _ ⟨k + 1, hlt, rfl, rfl⟩
    have hmeas : b.certs.length - (k + 1) < b.certs.length - k := by omega
    rw [onlyL_next ho] at hround
    have hYl : (onlyL b.items.length c (b.certs.take k)).length ≤ 1000 := Nat.le_trans onlyL_len (by rw [List.length_take]; omega)
    clear hJ hfull hfin hR hm
    generalize onlyL b.items.length c (b.certs.take k) = Y at *
    have hY : (Y.map Ct.pv).take Y.length = Y.map Ct.pv := List.take_of_length_le (by simp)
    have hY6 : Y.length ≤ 999999 := by omega
    cases e1 : decide (c.num < o.num)
    case true =>
      rw [e1, if_pos rfl, List.append_nil] at hround
      simp [-getElem?_pos, -List.getElem?_map, -decide_eq_true_eq, -decide_eq_false_iff_not, onK, Bk.cells, itsP, ctsP, Ct.cells, hlt, hgo, hw, e1]
      exact ⟨_, _, hmeas, Sub.mk (by simp [onK]) (by simp [onK, Bk.cells, itsP, ctsP, Ct.cells]), hround⟩
    rw [e1, if_neg (by simp)] at hround
    cases e2 : decide (o.num < c.num) <;> cases e3 : decide (o.it = c.it) <;> cases e4 : decide (o.src = c.it)
    all_goals
      unfold onlyC at hround
      rw [e2, e3, e4] at hround
      simp [-getElem?_pos, -List.getElem?_map, -decide_eq_true_eq, -decide_eq_false_iff_not, onK, Bk.cells, itsP, ctsP, Ct.cells, hlt, hgo, hw, e1, e2, e3, e4, nble, nblt, hY, hY6]
      exact ⟨_, _, hmeas, Sub.mk (by simp [onK]) (by simp [onK, Bk.cells, itsP, ctsP, Ct.cells, Ct.pv]), hround⟩
  have he : k = b.certs.length := by omega
  subst he
  clear hJ
  rw [hfull]
  have hxt : (b.items.map It.pv ++ [z.pv]).take (b.items.length + 1) = b.items.map It.pv ++ [z.pv] := List.take_of_length_le (by simp)
  have hm2 : ((onlyL b.items.length c b.certs).map Ct.pv).take (onlyL b.items.length c b.certs).length = (onlyL b.items.length c b.certs).map Ct.pv := List.take_of_length_le (by simp)
  simp [-getElem?_pos, -List.getElem?_map, onK, Bk.cells, itsP, ctsP, Ct.cells, hxt, hm2]
  rw [← hR]
  exact ⟨rfl, rfl⟩
end Go.Proofs.Ytcgdopjmbadonaa

/-! Layer 2 (chain), plain: a book with one certificate of its item alone; a book without bad ones. -/
namespace Go.Proofs.Ytcgdopjmbadonaa
open Go.RowKit

set_option maxRecDepth 10000
set_option linter.unusedSimpArgs false
attribute [local irreducible] Bk.held Bk.nums Bk.heldU Bk.span
section
variable {b : Bk} {c : Ct}
theorem mem_only {x : Ct} : x ∈ (b.only c).certs ↔ ∃ o ∈ b.certs, o.num ≤ c.num ∧ onlyC b.items.length c o = x := by
  unfold Bk.only onlyL
  simp only [List.mem_map, List.mem_filter]
  constructor
  · rintro ⟨o, ⟨h1, h2⟩, h3⟩
    exact ⟨o, h1, by simpa using h2, h3⟩
  · rintro ⟨o, h1, h2, h3⟩
    exact ⟨o, ⟨h1, by simpa using h2⟩, h3⟩
theorem only_item {i : Int} (h0 : 0 ≤ i) (h1 : i < b.items.length) : (b.only c).item i = b.item i := by
  unfold Bk.item Bk.only
  simp only
  rw [List.getElem?_append_left (by omega)]
theorem only_new : (b.only c).item (b.items.length : Int) = b.item c.it := by
  unfold Bk.only
  conv => lhs; unfold Bk.item
  simp
  rfl
theorem onlyC_it {o : Ct} : (onlyC b.items.length c o).it = if o.num < c.num ∧ o.it = c.it then (b.items.length : Int) else o.it := by
  unfold onlyC
  simp only [Bool.and_eq_true, decide_eq_true_eq]
theorem onlyC_src {o : Ct} : (onlyC b.items.length c o).src = if o.src = c.it then (b.items.length : Int) else o.src := by
  unfold onlyC
  simp only [decide_eq_true_eq]
theorem only_std_it (hb : b.ok) (hc : c ∈ b.certs) {o : Ct} (ho : o ∈ b.certs) : (b.only c).item (onlyC b.items.length c o).it = b.item o.it := by
  have h1 := cert_bds hb ho
  rw [onlyC_it]
  split
  · rename_i h; rw [only_new, h.2]
  · exact only_item h1.2.2.1 h1.2.2.2.1
theorem only_std_src (hb : b.ok) (hc : c ∈ b.certs) {o : Ct} (ho : o ∈ b.certs) : (b.only c).item (onlyC b.items.length c o).src = b.item o.src := by
  have h1 := cert_bds hb ho
  rw [onlyC_src]
  split
  · rename_i h; rw [only_new, h]
  · exact only_item h1.2.2.2.2.2.1 h1.2.2.2.2.2.2.1
theorem only_ok (hb : b.ok) (h7 : b.items.length ≤ 7) (hc : c ∈ b.certs) : (b.only c).ok := by
  have hcb := cert_bds hb hc
  have hlen : (b.only c).items.length = b.items.length + 1 := by unfold Bk.only; simp
  refine ⟨by omega, ?_, ?_, ?_, ?_, ?_⟩
  · exact Nat.le_trans onlyL_len hb.c
  · intro x hx
    unfold Bk.only at hx
    rw [List.mem_append, List.mem_singleton] at hx
    rcases hx with hx | rfl
    · exact hb.it x hx
    · obtain ⟨j, e, hj, z, hz, hzz, _⟩ := item_at (b := b) hcb.2.2.1 hcb.2.2.2.1
      rw [hzz]
      exact hb.it z (List.mem_of_getElem? hz)
  · intro x hx
    obtain ⟨o, ho, hn, rfl⟩ := mem_only.1 hx
    have h0 := hb.ct o ho
    have hob := cert_bds hb ho
    have h1 : (b.only c).hasItem (onlyC b.items.length c o).it = true := by
      unfold Bk.hasItem inB
      rw [onlyC_it, hlen]
      simp only [Bool.and_eq_true, decide_eq_true_eq]
      split <;> omega
    have h2 : (b.only c).hasItem (onlyC b.items.length c o).src = true := by
      unfold Bk.hasItem inB
      rw [onlyC_src, hlen]
      simp only [Bool.and_eq_true, decide_eq_true_eq]
      split <;> omega
    have h3 : (onlyC b.items.length c o).src ≠ (onlyC b.items.length c o).it := by
      have hne := hob.2.2.2.2.2.2.2.1
      rw [onlyC_src, onlyC_it]
      intro e
      split at e <;> split at e
      · rename_i a1 a2; exact hne (a1.trans a2.2.symm)
      · omega
      · omega
      · exact hne e
    unfold Bk.certB at h0 ⊢
    rw [h1, h2, only_std_it hb hc ho]
    simp only [Bool.and_eq_true, decide_eq_true_eq, Bool.true_and] at h0 ⊢
    exact ⟨⟨⟨⟨⟨⟨⟨h0.1.1.1.1.1.1.1, trivial⟩, h0.1.1.1.1.1.2⟩, trivial⟩, h3⟩, h0.1.1.2⟩, h0.1.2⟩, h0.2⟩
  · intro x hx y hy e
    obtain ⟨o, ho, hn, rfl⟩ := mem_only.1 hx
    obtain ⟨p, hp, hn2, rfl⟩ := mem_only.1 hy
    have : o = p := hb.one o ho p hp e
    rw [this]
  · intro x hx y hy e
    obtain ⟨o, ho, hn, rfl⟩ := mem_only.1 hx
    obtain ⟨p, hp, hn2, rfl⟩ := mem_only.1 hy
    exact hb.day o ho p hp e
theorem only_rests (hb : b.ok) {o x : Ct} (ho : o ∈ b.certs) (hx : x ∈ b.certs) (hn : o.num ≤ c.num) : restsB (onlyC b.items.length c o) (onlyC b.items.length c x) = restsB o x := by
  have h1 := cert_bds hb ho
  have h2 := cert_bds hb hx
  have hday : (onlyC b.items.length c o).day = o.day := rfl
  have hnum : (onlyC b.items.length c o).num = o.num := rfl
  have hnum2 : (onlyC b.items.length c x).num = x.num := rfl
  have hon : (onlyC b.items.length c x).on o.day = x.on o.day := rfl
  unfold restsB
  rw [hday, hnum, hnum2, hon, onlyC_it, onlyC_src]
  by_cases hlt : x.num < o.num
  · have hlc : x.num < c.num := by omega
    congr 2
    rw [decide_eq_decide]
    by_cases e1 : x.it = c.it <;> by_cases e2 : o.src = c.it
    · simp [e1, e2, hlc]
    · rw [if_pos ⟨hlc, e1⟩, if_neg e2, e1]
      constructor
      · intro e; omega
      · intro e; exact absurd e.symm e2
    · rw [if_neg (fun h => e1 h.2), if_pos e2, e2]
      constructor
      · intro e; omega
      · intro e; exact absurd e e1
    · rw [if_neg (fun h => e1 h.2), if_neg e2]
  · have : decide (x.num < o.num) = false := by simpa using hlt
    rw [this]; simp
theorem only_held (hb : b.ok) (h7 : b.items.length ≤ 7) (hc : c ∈ b.certs) : ∀ o ∈ b.certs, o.num ≤ c.num → (o.num ∈ (b.only c).held [] ↔ o.num ∈ b.held []) := by
  have hb' := only_ok hb h7 hc
  have key : ∀ n : Nat, ∀ o ∈ b.certs, o.num = n → o.num ≤ c.num → (o.num ∈ (b.only c).held [] ↔ o.num ∈ b.held []) := by
    intro n
    induction n using Nat.strongRecOn with
    | _ n ih =>
    intro o ho hn hle
    have e : (b.only c).holdB [] ((b.only c).held []) (onlyC b.items.length c o) = b.holdB [] (b.held []) o := by
      unfold Bk.holdB
      rw [only_std_src hb hc ho]
      congr 2
      rw [Bool.eq_iff_iff, List.any_eq_true, List.any_eq_true]
      constructor
      · rintro ⟨x', hx', h1⟩
        obtain ⟨x, hx, hxn, rfl⟩ := mem_only.1 hx'
        rw [Bool.and_eq_true, List.contains_iff_mem, only_rests hb ho hx hle] at h1
        obtain ⟨m, hm, _, _⟩ := num_bd hb hx
        have hlt : x.num < o.num := by have := h1.1; unfold restsB at this; simp only [Bool.and_eq_true, decide_eq_true_eq] at this; exact this.1.2
        refine ⟨x, hx, ?_⟩
        rw [Bool.and_eq_true, List.contains_iff_mem]
        exact ⟨h1.1, (ih m (by omega) x hx hm hxn).1 h1.2⟩
      · rintro ⟨x, hx, h1⟩
        rw [Bool.and_eq_true, List.contains_iff_mem] at h1
        have hlt : x.num < o.num := by have := h1.1; unfold restsB at this; simp only [Bool.and_eq_true, decide_eq_true_eq] at this; exact this.1.2
        obtain ⟨m, hm, _, _⟩ := num_bd hb hx
        refine ⟨onlyC b.items.length c x, mem_only.2 ⟨x, hx, by omega, rfl⟩, ?_⟩
        rw [Bool.and_eq_true, List.contains_iff_mem, only_rests hb ho hx hle]
        exact ⟨h1.1, (ih m (by omega) x hx hm (by omega)).2 h1.2⟩
    rw [mem_held hb', mem_held hb]
    constructor
    · rintro ⟨x', hx', e1, e2⟩
      obtain ⟨x, hx, hxn, rfl⟩ := mem_only.1 hx'
      have : x = o := hb.one x hx o ho e1
      subst this
      exact ⟨x, ho, rfl, by rw [← e]; exact e2⟩
    · rintro ⟨x, hx, e1, e2⟩
      have : x = o := hb.one x hx o ho e1
      subst this
      exact ⟨onlyC b.items.length c x, mem_only.2 ⟨x, ho, hle, rfl⟩, rfl, by rw [e]; exact e2⟩
  intro o ho hle
  obtain ⟨n, hn, _, _⟩ := num_bd hb ho
  exact key n o ho hn hle
theorem onlyC_self (hb : b.ok) (hc : c ∈ b.certs) : onlyC b.items.length c c = c := by
  have h := (cert_bds hb hc).2.2.2.2.2.2.2.1
  unfold onlyC
  rw [if_neg (by simp), if_neg (by simpa using h)]
theorem only_mine (hb : b.ok) (hc : c ∈ b.certs) {x : Ct} (hx : x ∈ (b.only c).certs) (e : x.it = c.it) : x = c := by
  obtain ⟨o, ho, hn, rfl⟩ := mem_only.1 hx
  have hcb := cert_bds hb hc
  rw [onlyC_it] at e
  split at e
  · omega
  · rename_i h
    have hnn : o.num = c.num := by
      rcases Int.lt_or_eq_of_le hn with h1 | h1
      · exact absurd ⟨h1, e⟩ h
      · exact h1
    have : o = c := hb.one o ho c hc hnn
    subst this
    exact onlyC_self hb hc
theorem only_isHeld (hb : b.ok) (h7 : b.items.length ≤ 7) (hc : c ∈ b.certs) : (b.only c).isHeld c.it c.day = (b.held []).contains c.num := by
  have hb' := only_ok hb h7 hc
  have hcb := cert_bds hb hc
  have hin : c ∈ (b.only c).certs := mem_only.2 ⟨c, hc, Int.le_refl _, onlyC_self hb hc⟩
  have hst : ((b.only c).item c.it).std = false := by rw [only_item hcb.2.2.1 hcb.2.2.2.1]; exact hcb.2.2.2.2.1
  have hhe := only_held hb h7 hc c hc (Int.le_refl _)
  unfold Bk.isHeld
  rw [hst, Bool.false_or, Bool.eq_iff_iff, List.any_eq_true, List.contains_iff_mem]
  constructor
  · rintro ⟨x, hx, h1⟩
    obtain ⟨h2, h3⟩ := (mem_ofL hb').1 hx
    have hxi : x.it = c.it := by unfold Bk.ofB at h3; simp only [Bool.and_eq_true, decide_eq_true_eq] at h3; exact h3.2.1
    have := only_mine hb hc h2 hxi
    subst this
    rw [List.contains_iff_mem] at h1
    exact hhe.1 h1
  · intro h
    refine ⟨c, (mem_ofL hb').2 ⟨hin, ?_⟩, List.contains_iff_mem.2 (hhe.2 h)⟩
    unfold Bk.ofB Ct.on inB
    simp only [Bool.and_eq_true, decide_eq_true_eq]
    have h5 := hcb.2.2.2.2.2.2.2.2
    exact ⟨by omega, trivial, by omega, by omega⟩
theorem only_ask (hb : b.ok) (h7 : b.items.length ≤ 7) (hc : c ∈ b.certs) : (b.only c).askM c.it c.day = if (b.held []).contains c.num = true then 0 else 10 := by
  have hcb := cert_bds hb hc
  have h5 := hcb.2.2.2.2.2.2.2.2
  have hlen : (b.only c).items.length = b.items.length + 1 := by unfold Bk.only; simp
  rw [ask_in (only_ok hb h7 hc) hcb.2.2.1 (by omega) (by omega) (by omega), only_isHeld hb h7 hc]
theorem endL_last (hb : b.ok) {n : Int} (h : (b.held []).contains n = true) : ∃ l', b.endL n = l' ++ [n] := by
  have h1 := (endL_some hb h).1
  unfold Bk.endC at h1
  have h2 := (minC_some h1).1
  unfold Bk.chains at h2
  exact chU_last _ _ _ h2
theorem only_best (hb : b.ok) (h7 : b.items.length ≤ 7) (hc : c ∈ b.certs) (hh : (b.held []).contains c.num = true) : ∃ l', (b.only c).bestM c.it c.day = (l' ++ [c.num], 0) ∧ l'.length ≤ 1000 := by
  have hb' := only_ok hb h7 hc
  have hcb := cert_bds hb hc
  have hst : ((b.only c).item c.it).std = false := by rw [only_item hcb.2.2.1 hcb.2.2.2.1]; exact hcb.2.2.2.2.1
  have hih : (b.only c).isHeld c.it c.day = true := by rw [only_isHeld hb h7 hc]; exact hh
  have hf := bestF_some hb' hst hih
  have hm := (minC_some hf.1).1
  rw [List.mem_map] at hm
  obtain ⟨o, ho, he⟩ := hm
  rw [List.mem_filter] at ho
  obtain ⟨h2, h3⟩ := (mem_ofL hb').1 ho.1
  have hxi : o.it = c.it := by unfold Bk.ofB at h3; simp only [Bool.and_eq_true, decide_eq_true_eq] at h3; exact h3.2.1
  have := only_mine hb hc h2 hxi
  subst this
  obtain ⟨l', hl'⟩ := endL_last hb' ho.2
  refine ⟨l', ?_, ?_⟩
  · unfold Bk.bestM
    rw [only_ask hb h7 hc, if_pos hh, if_pos rfl, if_neg (by rw [hst]; simp), ← he, hl']
  · have := hf.2.2
    rw [← he, hl', List.length_append] at this
    simp at this
    omega
end
end Go.Proofs.Ytcgdopjmbadonaa

/-! Layer 2 (chain), plain: a book without bad ones; numbers by bits; what hung. -/
namespace Go.Proofs.Ytcgdopjmbadonaa
open Go.RowKit

set_option maxRecDepth 10000
set_option linter.unusedSimpArgs false
attribute [local irreducible] Bk.held Bk.nums Bk.heldU Bk.span
section
variable {b : Bk}
theorem woL_ok : ∀ (l : List Int) {b : Bk}, b.ok → (b.woL l).ok
  | [], _, h => h
  | n :: l, b, h => woL_ok l (b := b.wo n) (wo_ok h n)
theorem woL_item {l : List Int} {i : Int} : (b.woL l).item i = b.item i := by unfold Bk.item; rw [woL_its]
theorem held_bad (hb : b.ok) {l : List Int} {x : Int} (h : x ∈ b.held l) : x ∉ l := by
  obtain ⟨c, _, e, h2⟩ := (mem_held hb).1 h
  unfold Bk.holdB at h2
  rw [Bool.and_eq_true] at h2
  have := h2.2
  rw [e] at this
  simpa using this
theorem few_held (hb : b.ok) {l : List Int} {x : Int} : x ∈ (b.woL l).held [] ↔ x ∈ b.held l := by
  have hb' := woL_ok l hb
  have key : ∀ n : Nat, ((n : Int) ∈ (b.woL l).held [] ↔ (n : Int) ∈ b.held l) := by
    intro n
    induction n using Nat.strongRecOn with
    | _ n ih =>
    have hany : ∀ c ∈ b.certs, c.num = (n : Int) → (((b.woL l).certs.any fun o => restsB c o && ((b.woL l).held []).contains o.num) = (b.certs.any fun o => restsB c o && (b.held l).contains o.num)) := by
      intro c hc hn
      rw [Bool.eq_iff_iff, List.any_eq_true, List.any_eq_true]
      constructor
      · rintro ⟨o, ho, h1⟩
        rw [Bool.and_eq_true, List.contains_iff_mem] at h1
        have ho2 := ((woL_mem l).1 ho).1
        obtain ⟨m, hm, _, _⟩ := num_bd hb ho2
        have hlt : o.num < c.num := by have := h1.1; unfold restsB at this; simp only [Bool.and_eq_true, decide_eq_true_eq] at this; exact this.1.2
        refine ⟨o, ho2, ?_⟩
        rw [Bool.and_eq_true, List.contains_iff_mem, hm]
        rw [hm] at h1
        exact ⟨h1.1, (ih m (by omega)).1 h1.2⟩
      · rintro ⟨o, ho, h1⟩
        rw [Bool.and_eq_true, List.contains_iff_mem] at h1
        obtain ⟨m, hm, _, _⟩ := num_bd hb ho
        have hlt : o.num < c.num := by have := h1.1; unfold restsB at this; simp only [Bool.and_eq_true, decide_eq_true_eq] at this; exact this.1.2
        refine ⟨o, (woL_mem l).2 ⟨ho, held_bad hb h1.2⟩, ?_⟩
        rw [Bool.and_eq_true, List.contains_iff_mem, hm]
        rw [hm] at h1
        exact ⟨h1.1, (ih m (by omega)).2 h1.2⟩
    rw [mem_held hb', mem_held hb]
    constructor
    · rintro ⟨c, hc, e, h1⟩
      obtain ⟨hc1, hc2⟩ := (woL_mem l).1 hc
      refine ⟨c, hc1, e, ?_⟩
      unfold Bk.holdB at h1 ⊢
      rw [woL_item, hany c hc1 e, Bool.and_eq_true] at h1
      rw [Bool.and_eq_true]
      exact ⟨h1.1, by simpa using hc2⟩
    · rintro ⟨c, hc, e, h1⟩
      have hc2 : c.num ∉ l := held_bad hb ((mem_held hb).2 ⟨c, hc, rfl, h1⟩)
      refine ⟨c, (woL_mem l).2 ⟨hc, hc2⟩, e, ?_⟩
      unfold Bk.holdB at h1 ⊢
      rw [woL_item, hany c hc e, Bool.and_eq_true]
      rw [Bool.and_eq_true] at h1
      exact ⟨h1.1, rfl⟩
  constructor
  · intro h
    have := nums_bd hb' x (held_nums hb' x h)
    obtain ⟨n, rfl⟩ : ∃ n : Nat, x = n := ⟨x.toNat, by omega⟩
    exact (key n).1 h
  · intro h
    have := nums_bd hb x (held_nums hb x h)
    obtain ⟨n, rfl⟩ : ∃ n : Nat, x = n := ⟨x.toNat, by omega⟩
    exact (key n).2 h
theorem mem_some {bits x : Int} : x ∈ b.some bits ↔ ∃ n : Nat, n < 1000 ∧ x = n ∧ ∃ c ∈ b.certs, c.num = n ∧ bit32 bits n = true := by
  unfold Bk.some Bk.someU
  rw [List.mem_map]
  constructor
  · rintro ⟨n, h, rfl⟩
    rw [List.mem_filter, List.mem_range, List.any_eq_true] at h
    obtain ⟨h1, c, hc, h2⟩ := h
    rw [Bool.and_eq_true, decide_eq_true_eq] at h2
    exact ⟨n, h1, rfl, c, hc, h2⟩
  · rintro ⟨n, h1, rfl, c, hc, h2, h3⟩
    refine ⟨n, ?_, rfl⟩
    rw [List.mem_filter, List.mem_range, List.any_eq_true]
    exact ⟨h1, c, hc, by rw [h3, h2]; simp⟩
theorem some_sorted {bits : Int} : (b.some bits).Pairwise (· < ·) := by
  unfold Bk.some Bk.someU
  rw [List.pairwise_map]
  exact (List.pairwise_lt_range.filter _).imp fun h => by simpa using h
theorem some_len {bits : Int} : (b.some bits).length ≤ 1000 := someU_len
theorem some_are (hb : b.ok) {bits : Int} : areB (b.some bits) = true := by
  unfold areB
  rw [List.all_eq_true]
  intro k hk
  rw [List.mem_range] at hk
  have hx : (b.some bits)[k]? = some (b.some bits)[k] := List.getElem?_eq_getElem hk
  obtain ⟨n, h1, h2, c, hc, h3, _⟩ := mem_some.1 (List.getElem_mem hk)
  have hcb := cert_bds hb hc
  unfold okAt inB
  rw [hx]
  simp only [Bool.and_eq_true, Bool.or_eq_true, decide_eq_true_eq]
  refine ⟨by omega, ?_⟩
  by_cases h0 : k = 0
  · exact .inl h0
  · right
    have hp : (b.some bits)[k - 1]? = some ((b.some bits)[k - 1]'(by omega)) := List.getElem?_eq_getElem (by omega)
    rw [hp, Option.getD_some]
    exact List.pairwise_iff_getElem.1 some_sorted _ _ _ _ (by omega)
def or32 (a b : Int) : Int := IntKind.u32.wrap (((a % 2 ^ IntKind.u32.bits).toNat ||| (b % 2 ^ IntKind.u32.bits).toNat : Nat) : Int)
theorem bit32_nat {n i : Nat} : bit32 (n : Int) i = n.testBit (i % 31) := by
  unfold bit32
  have hi : i % 31 < 31 := Nat.mod_lt _ (by decide)
  generalize i % 31 = i at *
  have hmin : min i IntKind.u32.bits = i := Nat.min_eq_left (by show i ≤ 32; omega)
  rw [Nat.testBit_eq_decide_div_mod_eq, hmin]
  have h1 : (n : Int).fdiv (2 ^ i) = ((n / 2 ^ i : Nat) : Int) := by
    rw [Int.fdiv_eq_ediv_of_nonneg _ (Int.pow_nonneg (by decide))]; simp
  rw [h1, Int.tmod_eq_emod_of_nonneg (Int.natCast_nonneg _)]
  generalize n / 2 ^ i = z
  rw [Bool.eq_iff_iff]; simp only [decide_eq_true_eq]; omega
theorem or32_nat {n m : Nat} (hn : n < 4294967296) (hm : m < 4294967296) : or32 (n : Int) (m : Int) = ((n ||| m : Nat) : Int) ∧ n ||| m < 4294967296 := by
  have h1 : ((n : Int) % 2 ^ IntKind.u32.bits).toNat = n := by
    show ((n : Int) % 4294967296).toNat = n
    omega
  have h2 : ((m : Int) % 2 ^ IntKind.u32.bits).toNat = m := by
    show ((m : Int) % 4294967296).toNat = m
    omega
  have h3 : n ||| m < 2 ^ 32 := Nat.or_lt_two_pow (by omega) (by omega)
  have h4 : n ||| m < 4294967296 := h3
  refine ⟨?_, h4⟩
  unfold or32
  rw [h1, h2, IntKind.wrap_u32]
  omega
theorem or32_bd {x y : Int} (hx : 0 ≤ x ∧ x < 4294967296) (hy : 0 ≤ y ∧ y < 4294967296) : 0 ≤ or32 x y ∧ or32 x y < 4294967296 := by
  obtain ⟨n, rfl⟩ : ∃ n : Nat, x = n := ⟨x.toNat, by omega⟩
  obtain ⟨m, rfl⟩ : ∃ m : Nat, y = m := ⟨y.toNat, by omega⟩
  obtain ⟨h1, h2⟩ := or32_nat (n := n) (m := m) (by omega) (by omega)
  rw [h1]
  omega
theorem some_sub {x y : Int} (hx : 0 ≤ x ∧ x < 4294967296) (hy : 0 ≤ y ∧ y < 4294967296) : ∀ z ∈ b.some x, z ∈ b.some (or32 x y) := by
  intro z hz
  obtain ⟨n, h1, h2, c, hc, h3, h4⟩ := mem_some.1 hz
  refine mem_some.2 ⟨n, h1, h2, c, hc, h3, ?_⟩
  obtain ⟨p, rfl⟩ : ∃ n : Nat, x = n := ⟨x.toNat, by omega⟩
  obtain ⟨m, rfl⟩ : ∃ m : Nat, y = m := ⟨y.toNat, by omega⟩
  rw [(or32_nat (n := p) (m := m) (by omega) (by omega)).1, bit32_nat, Nat.testBit_or]
  rw [bit32_nat] at h4
  rw [h4, Bool.true_or]
/-- What hung on bad ones. -/
def Bk.hungL (b : Bk) (bad : List Int) : List Int := b.nums.filter (b.hungB bad)
theorem mem_hung (hb : b.ok) {bad : List Int} {x : Int} : x ∈ b.hungL bad ↔ x ∈ b.held [] ∧ x ∉ b.held bad ∧ x ∉ bad := by
  have hno : ∀ l : List Int, (!l.contains x) = true ↔ x ∉ l := fun l => by
    cases h : l.contains x
    · simpa using h
    · simpa using h
  unfold Bk.hungL Bk.hungB
  rw [List.mem_filter, Bool.and_eq_true, Bool.and_eq_true, hno, hno, List.contains_iff_mem]
  constructor
  · rintro ⟨_, h1, h2, h3⟩
    exact ⟨h1, h2, h3⟩
  · rintro ⟨h1, h2, h3⟩
    exact ⟨held_nums hb x h1, h1, h2, h3⟩
theorem hung_less (hb : b.ok) {bad worse : List Int} (hs : ∀ z ∈ bad, z ∈ worse) {x : Int} (h : x ∈ b.hungL bad) : x ∈ b.hungL worse ∨ x ∈ worse := by
  obtain ⟨h1, h2, h3⟩ := (mem_hung hb).1 h
  by_cases hw : x ∈ worse
  · exact .inr hw
  · exact .inl ((mem_hung hb).2 ⟨h1, fun h => h2 (held_more hb hb (fun _ _ => rfl) (fun _ h => h) hs h), hw⟩)
end
end Go.Proofs.Ytcgdopjmbadonaa

/-! Layer 2 (chain): the law ChainHung. -/
namespace Go.Proofs.Ytcgdopjmbadonaa
open Go.RowKit

set_option maxRecDepth 10000
set_option linter.unusedSimpArgs false
attribute [local irreducible] Bk.held Bk.nums Bk.heldU Bk.span Bk.some Bk.hungL Bk.woL Bk.only
attribute [local simp] AS.exp expG Box.ren AV.map AV.mapL outsOk noRet Site.isRet Box.allS AV.allS AV.allSL retB dropL AS.adds renL outG outOk lentBx inG fnOf lookA List.findIdx?_cons
attribute [local simp] Box.purge Site.isLoc
theorem has_no {l : List Int} {x : Int} (h : x ∉ l) : l.contains x = false := by
  cases e : l.contains x
  · rfl
  · exact absurd (List.contains_iff_mem.1 e) h
theorem has_yes {l : List Int} {x : Int} (h : x ∈ l) : l.contains x = true := List.contains_iff_mem.2 h
theorem hung_len {b : Bk} (bad : List Int) : (b.hungL bad).length ≤ 1000 := by
  unfold Bk.hungL
  exact Nat.le_trans (List.length_filter_le _ _) nums_len
theorem hungM_is {b : Bk} (hb : b.ok) {bad : List Int} (h : areB bad = true) : b.hungM bad = (b.hungL bad, 0) := by
  unfold Bk.hungM Bk.hungL
  rw [if_pos (Bk.ok_iff.2 hb), if_pos h]
def huK (b few : Bk) (B W L M H : List Int) (k : Nat) : AS := ⟨[(3, .ptr (.loc 3 0) 0), (7, .pv (.lst false 1 (B.map intP))), (8, .pv (.lst false 1 (W.map intP))), (9, .pv (.lst false 1 (L.map intP))), (11, .pv (.lst false 1 (M.map intP))), (13, .pv (.lst false 1 (H.map intP))), (15, .ptr (.loc 15 0) 0), (16, .pv (.int .i64 k))],
  [(.loc 15 0, .cells few.cells), (.loc 3 0, .cells b.cells)]⟩
def huG (b few : Bk) (B W L M H : List Int) (c : Ct) (k : Nat) : AS := ⟨(93, .pv (.bool true)) :: (17, .ptr (.loc 17 0) 0) :: (huK b few B W L M H k).tm, (.loc 17 0, .cells c.cells) :: (huK b few B W L M H k).bx⟩
def huP (b few : Bk) (B W L M H : List Int) (c : Ct) (x y : Bk) (k : Nat) : AS := ⟨(104, .pv x.pv) :: (107, .pv y.pv) :: (19, .ptr (.loc 19 0) 0) :: (20, .ptr (.loc 20 0) 0) :: (17, .ptr (.loc 17 0) 0) :: (huK b few B W L M H k).tm,
  (.loc 19 0, .cells [.pv (.emp (some true)), .pv (.emp (some true))]) :: (.loc 20 0, .cells [.pv (.emp (some true)), .pv (.emp (some true))]) :: (.loc 17 0, .cells c.cells) :: (huK b few B W L M H k).bx⟩
def huL (B W L M H : List Int) (k : Nat) : AS := ⟨[(7, .pv (.lst false 1 (B.map intP))), (8, .pv (.lst false 1 (W.map intP))), (9, .pv (.lst false 1 (L.map intP))), (11, .pv (.lst false 1 (M.map intP))), (13, .pv (.lst false 1 (H.map intP))), (25, .pv (.int .i64 k))], []⟩
set_option maxHeartbeats 64000000 in
theorem hung_law (b : Bk) (bits more : Int) (hbt : 0 ≤ bits ∧ bits ≤ 4294967295) (hmo : 0 ≤ more ∧ more ≤ 4294967295) : Gives Try.prog 5 [b.pv, .int .u32 bits, .int .u32 more] (.bool true) := by
  have hw := wakes_c
  refine calls_of_awpS mixed L5_ok (Nat.le_of_ble_eq_true rfl) ?_
  simp [-getElem?_pos, L5, Bk.pv]
  refine call_gives (k := 0) (fs := []) (xs := [b.pv]) (cs := []) rfl rfl (ready_c b) rfl ?_
  cases e1 : (decide (b.items.length ≤ 10) && decide (b.certs.length ≤ 28) && decide (b.fault = 0))
  · simp [-getElem?_pos]
    refine call_gives (k := 0) (fs := []) (xs := []) (cs := []) rfl rfl hw rfl ?_
    simp [-getElem?_pos]
  have hb := ready_of e1
  clear e1
  cases e2 : decide ((7 : Int) < (b.items.length : Int))
  case true =>
    simp [-getElem?_pos, -decide_eq_true_eq, -decide_eq_false_iff_not, itsP, ctsP, e2]
    refine call_gives (k := 0) (fs := []) (xs := []) (cs := []) rfl rfl hw rfl ?_
    simp [-getElem?_pos]
  have h7 : b.items.length ≤ 7 := by simp at e2; omega
  have hc24 := hb.c
  have hs1 := some_c b hb bits ⟨hbt.1, by omega⟩
  have hob := or32_bd (x := bits) (y := more) ⟨hbt.1, by omega⟩ ⟨hmo.1, by omega⟩
  have hs2 := some_c b hb (or32 bits more) hob
  have hsub := some_sub (b := b) (x := bits) (y := more) ⟨hbt.1, by omega⟩ ⟨hmo.1, by omega⟩
  have hbk := book_c b (by omega) (by omega)
  have hl1 := list_c (b.some bits) (Nat.le_trans some_len (by omega))
  have hl2 := list_c (b.some (or32 bits more)) (Nat.le_trans some_len (by omega))
  have hh1 := Hung_c b (by omega) (by omega) (b.some bits) some_len
  have hh2 := Hung_c b (by omega) (by omega) (b.some (or32 bits more)) some_len
  have hh0 := Held0_c b (by omega) (by omega)
  rw [hungM_is hb (some_are hb)] at hh1 hh2
  rw [heldM0 hb] at hh0
  have hwl := without_law_c b (by omega) (b.some bits) some_len
  have hless : ∀ x, x ∈ b.hungL (b.some bits) → x ∈ b.hungL (b.some (or32 bits more)) ∨ x ∈ b.some (or32 bits more) := fun x h => hung_less hb hsub h
  have hmh := fun x => mem_hung hb (bad := b.some bits) (x := x)
  have hfh := fun x => few_held hb (l := b.some bits) (x := x)
  have hfo := woL_ok (b.some bits) hb
  have hfi := woL_its (b.some bits) (b := b)
  have hfm := fun c => woL_mem (b.some bits) (b := b) (c := c)
  have hHl := held_len (b := b) (bad := [])
  have hLl := hung_len (b := b) (b.some bits)
  have hMl := hung_len (b := b) (b.some (or32 bits more))
  have hBl := some_len (b := b) (bits := bits)
  have hWl := some_len (b := b) (bits := or32 bits more)
  have hHn := fun x (h : x ∈ b.held []) => get_num hb (held_nums hb x h)
  have hget := fun n => rget_c b (by omega) n
  have hor : or32 bits more = IntKind.u32.wrap (((bits % 2 ^ IntKind.u32.bits).toNat ||| (more % 2 ^ IntKind.u32.bits).toNat : Nat) : Int) := rfl
  generalize or32 bits more = om at *
  simp [-getElem?_pos, -decide_eq_true_eq, -decide_eq_false_iff_not, itsP, ctsP, e2]
  refine call_pv [] (fs := []) (xs := [b.pv, .int .u32 bits]) (cs := []) rfl rfl hs1 ?_
  simp [-getElem?_pos, frzsL]
  refine .inl (call_pv [] (fs := []) (xs := [b.pv, .int .u32 om]) (cs := []) rfl (by rw [hor]; rfl) hs2 ?_)
  simp [-getElem?_pos, frzsL]
  refine .inl (call_pv [] (fs := []) (xs := [b.pv]) (cs := []) rfl rfl hbk ?_)
  simp [-getElem?_pos, frzsL]
  refine .inl (call_pv [] (fs := []) (xs := [.lst false 1 ((b.some bits).map intP)]) (cs := []) rfl rfl hl1 ?_)
  simp [-getElem?_pos, frzsL]
  refine .inl (call_pv [] (fs := []) (xs := [b.pv, .lst false 1 ((b.some bits).map intP)]) (cs := []) rfl rfl hh1 ?_)
  simp [-getElem?_pos, frzsL, lstE]
  refine .inl (call_pv [] (fs := []) (xs := [b.pv]) (cs := []) rfl rfl hbk ?_)
  simp [-getElem?_pos, frzsL]
  refine .inl (call_pv [] (fs := []) (xs := [.lst false 1 ((b.some om).map intP)]) (cs := []) rfl rfl hl2 ?_)
  simp [-getElem?_pos, frzsL]
  refine .inl (call_pv [] (fs := []) (xs := [b.pv, .lst false 1 ((b.some om).map intP)]) (cs := []) rfl rfl hh2 ?_)
  simp [-getElem?_pos, frzsL, lstE]
  refine .inl (call_pv [] (fs := []) (xs := [b.pv]) (cs := []) rfl rfl hbk ?_)
  simp [-getElem?_pos, frzsL]
  refine .inl (call_pv [] (fs := []) (xs := [b.pv, .emp (some true)]) (cs := []) rfl rfl hh0 ?_)
  simp [-getElem?_pos, frzsL, lstE]
  refine .inl (call_pv [] (fs := []) (xs := [b.pv, .lst false 1 ((b.some bits).map intP)]) (cs := []) rfl rfl hwl ?_)
  clear hh0 hh1 hh2 hl1 hl2 hs1 hs2 hor hsub
  generalize b.some bits = B at *
  generalize b.some om = W at *
  generalize b.hungL B = L at *
  generalize b.hungL W = M at *
  have hob1 := fun c (hc : c ∈ b.certs) (h : c.num ∈ b.held []) => only_best hb h7 hc (has_yes h)
  generalize b.held [] = H at *
  generalize b.woL B = few at *
  simp [-getElem?_pos, frzsL, Bk.pv, itsP, ctsP]
  refine awp_loopS (fun m τ => ∃ k : Nat, k ≤ H.length ∧ m = H.length - k ∧ τ = huK b few B W L M H k) ⟨H.length, huK b few B W L M H 0, Sub.mk (by simp [huK]) (by simp [huK, Bk.cells, itsP, ctsP]), 0, by omega, rfl, rfl⟩ ?_
  rintro J hJ m τ ⟨k, hk, rfl, rfl⟩
  by_cases hlt : k < H.length
  · obtain ⟨n, hn⟩ : ∃ n, H[k]? = some n := ⟨H[k], List.getElem?_eq_getElem hlt⟩
    have hgn : (H.map intP)[k]? = some (.int .i64 n) := by rw [List.getElem?_map, hn]; rfl
    have hnH : n ∈ H := List.mem_of_getElem? hn
    have hwk := wrapK (k := k) (by omega)
    have hround := hJ _ _ ⟨k + 1, hlt, rfl, rfl⟩
    have hmeas : H.length - (k + 1) < H.length - k := by omega
    clear hJ
    obtain ⟨g1, g2⟩ := hHn n hnH
    have hgc := hget n
    have hisn : b.isN n = true := by unfold Bk.isN; exact List.any_eq_true.2 ⟨_, g1, by simpa using g2⟩
    rw [hisn] at hgc
    generalize b.get n = c at *
    subst g2
    have hcb := cert_bds hb g1
    have hhB := has_c B c.num (by omega)
    have hhL := has_c L c.num (by omega)
    unfold Ct.pv at hgc
    simp [-getElem?_pos, -List.getElem?_map, huK, Bk.cells, itsP, ctsP, hlt, hgn]
    refine ltS_seq (huG b few B W L M H c k) ?_ ?_
    · simp [-getElem?_pos, -List.getElem?_map, ltS_alt, ltS_no]
      refine ⟨?_, ?_⟩
      all_goals
        refine call_gives (k := 0) (fs := []) (xs := [b.pv, .int .i64 c.num]) (cs := []) rfl rfl hgc rfl ?_
        simp [-getElem?_pos, -List.getElem?_map, ltS_alt, ltS_no]
        refine Sub.mk ?_ ?_
        · simp [huG, huK]
        · simp [huG, huK, Ct.cells, Bk.cells, itsP, ctsP]
    simp [-getElem?_pos, -List.getElem?_map, ltS_alt, ltS_no, huG, huK, Ct.cells, Bk.cells, hlt, hgn]
    refine call_gives (k := 0) (fs := []) (xs := [.lst false 1 (B.map intP), .int .i64 c.num]) (cs := []) rfl rfl hhB rfl ?_
    cases e3 : B.contains c.num
    case true =>
      simp [-getElem?_pos, -List.getElem?_map, hwk]
      exact ⟨_, _, hmeas, Sub.mk (by simp [huK]) (by simp [huK, Bk.cells]), hround⟩
    have hnB : c.num ∉ B := fun h => by rw [has_yes h] at e3; cases e3
    have hcf : c ∈ few.certs := (hfm c).2 ⟨g1, hnB⟩
    obtain ⟨l', hbe1, hl'⟩ := hob1 c g1 hnH
    have hfl : few.certs.length ≤ 24 := hfo.c
    have hoc1 := only_c b (by omega) (by omega) c hcb.2.2.1 hcb.2.2.2.1
    have hoc2 := only_c few (by rw [hfi]; omega) (by omega) c hcb.2.2.1 (by rw [hfi]; exact hcb.2.2.2.1)
    have hok1 := only_ok hb h7 g1
    have hok2 := only_ok hfo (by rw [hfi]; exact h7) hcf
    have hask := only_ask hfo (by rw [hfi]; exact h7) hcf
    generalize b.only c = x at *
    generalize few.only c = y at *
    have hx8 := hok1.i
    have hx24 := hok1.c
    have hy8 := hok2.i
    have hy24 := hok2.c
    have hbx := book_c x (by omega) (by omega)
    have hby := book_c y (by omega) (by omega)
    have hBx := Best_c x (by omega) (by omega) c.it c.day
    have hBy := Best_c y (by omega) (by omega) c.it c.day
    rw [hbe1] at hBx
    have hLc : L.contains c.num = !(few.held []).contains c.num := by
      cases e4 : (few.held []).contains c.num
      · exact has_yes ((hmh c.num).2 ⟨hnH, fun h => (by rw [has_yes ((hfh c.num).2 h)] at e4; cases e4), hnB⟩)
      · exact has_no fun h => ((hmh c.num).1 h).2.1 ((hfh c.num).1 (List.contains_iff_mem.1 e4))
    rw [hLc] at hhL
    have hE : (y.bestM c.it c.day).2 = if (few.held []).contains c.num = true then 0 else 10 := by
      rw [← hask]
      unfold Bk.bestM
      split
      · rename_i h; split <;> exact h.symm
      · rfl
    obtain ⟨Y, hY⟩ : ∃ Y, y.bestM c.it c.day = (Y, if (few.held []).contains c.num = true then 0 else 10) := ⟨_, Prod.ext rfl hE⟩
    rw [hY] at hBy
    have hqlen : (l' ++ [c.num]).length = l'.length + 1 := by simp
    have hqat : ((l' ++ [c.num]).map intP)[l'.length]? = some (.int .i64 c.num) := by rw [List.getElem?_map]; simp [intP]
    have hqne : ¬ (l' ++ [c.num]) = [] := by simp
    generalize l' ++ [c.num] = X at *
    generalize l'.length = q at *
    have hwq : IntKind.i64.wrap ((X.length : Int) - 1) = (q : Int) := by rw [hqlen, wrap64 (by omega)]; omega
    have hql : q < X.length := by omega
    have hq0 : ¬ X.length = 0 := by omega
    clear hbe1 hob1 hHn hfm hfh hmh hless hask hE hY hLc hget hgc hhB hwl hok1 hok2
    simp [-getElem?_pos, -List.getElem?_map]
    refine ltS_seq (huP b few B W L M H c x y k) ?_ ?_
    · simp [-getElem?_pos, -List.getElem?_map, ltS_alt, ltS_no]
      repeat' (first
        | with_reducible refine And.intro ?_ ?_
        | (refine .inl (call_pv [] (fs := []) (xs := [b.pv, c.pv]) (cs := []) rfl rfl hoc1 ?_); simp [-getElem?_pos, -List.getElem?_map, frzsL, ltS_alt, ltS_no])
        | (refine call_pv [] (fs := []) (xs := [b.pv, c.pv]) (cs := []) rfl rfl hoc1 ?_; simp [-getElem?_pos, -List.getElem?_map, frzsL, ltS_alt, ltS_no])
        | (refine .inl (call_pv [] (fs := []) (xs := [few.pv, c.pv]) (cs := []) rfl rfl hoc2 ?_); simp [-getElem?_pos, -List.getElem?_map, frzsL, ltS_alt, ltS_no])
        | (refine call_pv [] (fs := []) (xs := [few.pv, c.pv]) (cs := []) rfl rfl hoc2 ?_; simp [-getElem?_pos, -List.getElem?_map, frzsL, ltS_alt, ltS_no]))
      all_goals
        refine Sub.mk ?_ ?_
        · simp [huP, huK]
        · simp [huP, huK, Ct.cells, Bk.cells, itsP, ctsP]
    simp [-getElem?_pos, -List.getElem?_map, ltS_alt, ltS_no, huP, huK, Ct.cells, Bk.cells, Bk.pv]
    refine call_pv [] (fs := []) (xs := [x.pv]) (cs := []) rfl rfl hbx ?_
    simp [-getElem?_pos, -List.getElem?_map, frzsL]
    refine .inl (call_pv [] (fs := []) (xs := [x.pv, .int .i64 c.it, .int .i64 c.day]) (cs := []) rfl rfl hBx ?_)
    simp [-getElem?_pos, -List.getElem?_map, frzsL, lstE]
    refine call_pv [] (fs := []) (xs := [y.pv]) (cs := []) rfl rfl hby ?_
    simp [-getElem?_pos, -List.getElem?_map, frzsL]
    refine .inl (call_pv [] (fs := []) (xs := [y.pv, .int .i64 c.it, .int .i64 c.day]) (cs := []) rfl rfl hBy ?_)
    generalize (few.held []).contains c.num = S at hBy hhL ⊢
    cases S
    · rw [if_neg (by simp)]
      simp [-getElem?_pos, -List.getElem?_map, frzsL, lstE, hqat, hql, hwq, hqne]
      refine call_gives (k := 0) (fs := []) (xs := [.lst false 1 (L.map intP), .int .i64 c.num]) (cs := []) rfl rfl hhL rfl ?_
      simp [-getElem?_pos, -List.getElem?_map, hwk]
      exact ⟨_, _, hmeas, Sub.mk (by simp [huK]) (by simp [huK, Bk.cells]), hround⟩
    · rw [if_pos rfl]
      simp [-getElem?_pos, -List.getElem?_map, frzsL, lstE, hqat, hql, hwq, hqne]
      refine call_gives (k := 0) (fs := []) (xs := [.lst false 1 (L.map intP), .int .i64 c.num]) (cs := []) rfl rfl hhL rfl ?_
      simp [-getElem?_pos, -List.getElem?_map, hwk]
      exact ⟨_, _, hmeas, Sub.mk (by simp [huK]) (by simp [huK, Bk.cells]), hround⟩
  have he : k = H.length := by omega
  subst he
  clear hJ hk
  simp [-getElem?_pos, -List.getElem?_map, huK, Bk.cells]
  refine awp_loopS (fun m τ => ∃ k : Nat, k ≤ L.length ∧ m = L.length - k ∧ τ = huL B W L M H k) ⟨L.length, huL B W L M H 0, Sub.mk (by simp [huL]) (by simp [huL]), 0, by omega, rfl, rfl⟩ ?_
  rintro J hJ m τ ⟨k, hk, rfl, rfl⟩
  by_cases hlt2 : k < L.length
  · obtain ⟨n, hn⟩ : ∃ n, L[k]? = some n := ⟨L[k], List.getElem?_eq_getElem hlt2⟩
    have hgn : (L.map intP)[k]? = some (.int .i64 n) := by rw [List.getElem?_map, hn]; rfl
    have hnL : n ∈ L := List.mem_of_getElem? hn
    have hwk := wrapK (k := k) (by omega)
    have hround := hJ _ _ ⟨k + 1, hlt2, rfl, rfl⟩
    have hmeas : L.length - (k + 1) < L.length - k := by omega
    clear hJ
    have h1 := (hmh n).1 hnL
    have hhH := has_c H n (by omega)
    have hhB := has_c B n (by omega)
    have hhM := has_c M n (by omega)
    have hhW := has_c W n (by omega)
    have hmw := hless n hnL
    rw [has_yes h1.1] at hhH
    rw [has_no h1.2.2] at hhB
    clear hmh hless hfh hfm hHn hget hob1
    simp [-getElem?_pos, -List.getElem?_map, huL, hlt2, hgn]
    refine call_gives (k := 0) (fs := []) (xs := [.lst false 1 (H.map intP), .int .i64 n]) (cs := []) rfl rfl hhH rfl ?_
    simp [-getElem?_pos, -List.getElem?_map, hlt2, hgn]
    refine call_gives (k := 0) (fs := []) (xs := [.lst false 1 (B.map intP), .int .i64 n]) (cs := []) rfl rfl hhB rfl ?_
    simp [-getElem?_pos, -List.getElem?_map, hlt2, hgn]
    refine call_gives (k := 0) (fs := []) (xs := [.lst false 1 (M.map intP), .int .i64 n]) (cs := []) rfl rfl hhM rfl ?_
    cases e5 : M.contains n
    · have hWn : W.contains n = true := by
        rcases hmw with h | h
        · rw [has_yes h] at e5; cases e5
        · exact has_yes h
      rw [hWn] at hhW
      simp [-getElem?_pos, -List.getElem?_map, hlt2, hgn]
      refine call_gives (k := 0) (fs := []) (xs := [.lst false 1 (W.map intP), .int .i64 n]) (cs := []) rfl rfl hhW rfl ?_
      simp [-getElem?_pos, -List.getElem?_map, hwk]
      exact ⟨_, _, hmeas, Sub.mk (by simp [huL]) (by simp [huL]), hround⟩
    · simp [-getElem?_pos, -List.getElem?_map, hwk]
      exact ⟨_, _, hmeas, Sub.mk (by simp [huL]) (by simp [huL]), hround⟩
  have he : k = L.length := by omega
  subst he
  clear hJ
  simp [-getElem?_pos, -List.getElem?_map, huL]
  refine call_gives (k := 0) (fs := []) (xs := []) (cs := []) rfl rfl hw rfl ?_
  simp [-getElem?_pos]
end Go.Proofs.Ytcgdopjmbadonaa

/-! The statement ChainHung holds: for every input the law answers true, and its arguments read behind the call as before. No conditions. -/
namespace Go.Proofs.Ytcgdopjmbadonaa
open Go.ChangeShapes Go.WideShapes Go.ChangeAt Go.RowKit

set_option maxRecDepth 100000 in
theorem walkChainHung (v0 v1 v2 : Value) (W : World) {H : Type} {enc : TypeId × Value → H} {base : Nat} {sp : Nat → Bool} {hd : Bool} {d0 d1 d2 : DataW H} {p0 p1 p2 : List MemPlace}
    (k0 : Value.okWide Try.prog W .any base 25 v0) (h0 : DataW.Trod enc Try.prog W 0 sp hd 25 v0 d0 p0)
    (k1 : Value.okWide Try.prog W .any base 54 v1) (h1 : DataW.Trod enc Try.prog W 0 sp hd 54 v1 d1 p1)
    (k2 : Value.okWide Try.prog W .any base 54 v2) (h2 : DataW.Trod enc Try.prog W 0 sp hd 54 v2 d2 p2) :
    Calls Try.prog 5 #[v0, v1, v2] W fun e w' => e = .returned (.bool true) ∧ Keep [] W w' := by
  obtain ⟨n0, h0⟩ := h0
  obtain ⟨s0, w0, r0⟩ := rk_book k0 h0
  obtain ⟨s1, rfl, rfl, rfl, w1⟩ := open_int Try.underlying54 k1 h1
  obtain ⟨s2, rfl, rfl, rfl, w2⟩ := open_int Try.underlying54 k2 h2
  refine calls_bool (xs := [s0.pv, .int .u32 s1, .int .u32 s2]) (b := true) ((hung_law s0 s1 s2 (ku32 w1) (ku32 w2)).mono (fun _ _ h => h.1)) rfl (fun j v x e1 e2 => ?_)
  match j with
  | 0 => simp at e1 e2; subst e1 e2; exact r0
  | 1 => simp at e1 e2; subst e1 e2; exact .int .u32 s1
  | 2 => simp at e1 e2; subst e1 e2; exact .int .u32 s2
  | j + 3 => simp at e1
set_option maxRecDepth 100000 in
theorem liftedChainHung (os : Os) (started : os.Started) (H : Type) (enc : TypeId × Value → H) :
    ReturnsInHanded {} Try.checked os 5 .any (Rows.chainHungSpec.pre6 enc Try.prog Try.f5 Rows.chainHungRow.domain false) (Rows.chainHungSpec.post enc Try.prog Try.f5 false true false false) := by
  refine returnsInHanded_of_change (C := Try.checked) own started (by kernel_rfl) Try.func5
    (ChangeSpec.witness6 (enc := enc) (C := Try.checked) false ⟨#[], #[.agg #[.slice none 0 0, .slice none 0 0], .int .u32 0, .int .u32 0], []⟩ 8 (by kernel_rfl) (by kernel_rfl) (by kernel_rfl) (by kernel_rfl)) ?_
  intro W base args ds gs before hval0 hW hcnd _
  have hval : ∀ (j : Nat) t v, Try.f5.params[j]? = some t → args[j]? = some v → Value.okWide Try.prog W .any base t v := hval0
  have hW' := hW
  obtain ⟨p, q, hA0, hV, rfl, hfz, hnd⟩ := hW
  have hA : DataW.TrodAll enc Try.prog W 0 (fun _ => true) true Try.f5.params.toList args.toList ds p := hA0
  rw [Try.params5] at hA hval
  obtain ⟨v0, vs0, d0, ds0, p0, q0, hargs, rfl, rfl, h0, r0⟩ := trodAll_cons hA
  obtain ⟨v1, vs1, d1, ds1, p1, q1, rfl, rfl, rfl, h1, r1⟩ := trodAll_cons r0
  obtain ⟨v2, vs2, d2, ds2, p2, q2, rfl, rfl, rfl, h2, r2⟩ := trodAll_cons r1
  obtain ⟨rfl, rfl, rfl⟩ := trodAll_nil r2
  have hargs' : args = #[v0, v1, v2] := by
    apply Array.ext'
    exact hargs
  subst hargs'
  have k0 := hval 0 _ v0 rfl rfl
  have k1 := hval 1 _ v1 rfl rfl
  have k2 := hval 2 _ v2 rfl rfl
  obtain ⟨rfl, rfl⟩ := trodVars_none hV
  refine (walkChainHung v0 v1 v2 W k0 h0 k1 h1 k2 h2).mono fun e W' ⟨he, hk⟩ => ?_
  subst he
  exact ⟨_, rfl, post_law (tb := 4) laidP rowedP fullP (by decide +kernel) rfl rfl rfl Try.underlying4 hW' hk⟩
theorem overChainHung : Rows.chainHungRow.holds Try.pinned (OpenSpec.ofChange Rows.chainHungSpec) :=
  OpenClaim.holds_of_wide 5 Try.f5 rfl rfl rfl rfl rfl rfl rfl ⟨rfl, rfl, rfl, rfl, rfl⟩ rfl rfl rfl rfl rfl (by kernel_rfl) Try.func5 (by kernel_rfl)
    (of_decide_eq_true (by kernel_rfl)) (by unfold Func.isWrapper; first | (rw [if_pos (by decide +kernel)]; kernel_rfl) | (rw [if_neg (by decide +kernel)]; exact ⟨rfl, rfl⟩))
    (fun os started H enc _ => liftedChainHung os started H enc)
theorem provedChainHung : Rows.ChainHungSaid := overChainHung
end Go.Proofs.Ytcgdopjmbadonaa
