/- Layer 2 (chain), plain: truths made by words. (Several texts in one.) -/
import Derived.Test.YtaffbiibcfeigaaGreatChJ
set_option linter.unusedVariables false
set_option linter.unusedSimpArgs false
/-! Layer 2 (chain), plain: truths made by words. -/
namespace Go.Proofs.YtaffbiibcfeigaaGreat
open Go.RowKit
set_option maxRecDepth 10000
set_option linter.unusedSimpArgs false
def wordM (ws : List Int) (i : Int) : Int := (ws[(i.tmod (ws.length : Int)).toNat]?).getD 0
theorem wordM_bd {ws : List Int} (h : ∀ y ∈ ws, 0 ≤ y ∧ y < 65536) (i : Int) : 0 ≤ wordM ws i ∧ wordM ws i < 65536 := by
  unfold wordM
  cases hx : ws[(i.tmod (ws.length : Int)).toNat]? with
  | none => simp
  | some y => exact h y (List.mem_of_getElem? hx)
def tri (t u : Nat) : Nat := if t < u % (2 * t) then 2 * t - u % (2 * t) else u % (2 * t)
theorem tri_step {t u : Nat} (ht : 1 ≤ t) : tri t (u + 1) ≤ tri t u + 1 ∧ tri t u ≤ tri t (u + 1) + 1 := by
  have hr := Nat.mod_lt u (show 0 < 2 * t by omega)
  have hs : (u + 1) % (2 * t) = if u % (2 * t) + 1 = 2 * t then 0 else u % (2 * t) + 1 := by
    rw [← Nat.mod_add_mod]
    split
    · rename_i h; rw [h, Nat.mod_self]
    · exact Nat.mod_eq_of_lt (by omega)
  unfold tri
  rw [hs]
  generalize u % (2 * t) = r at *
  split <;> split <;> split <;> omega
theorem tri_far {t : Nat} (ht : 1 ≤ t) (u : Nat) : ∀ k, tri t (u + k) ≤ tri t u + k ∧ tri t u ≤ tri t (u + k) + k
  | 0 => by simp
  | k + 1 => by
    have h1 := tri_far ht u k
    have h2 := tri_step (u := u + k) ht
    rw [← Nat.add_assoc]
    omega
theorem tri_le {t : Nat} (ht : 1 ≤ t) (u : Nat) : tri t u ≤ t := by
  have hr := Nat.mod_lt u (show 0 < 2 * t by omega)
  unfold tri
  split <;> omega
/-- Up and down, by a word. -/
def turnM (w : Int) : Int := 1 + w.tmod 60
def upM (w d : Int) : Int := (d + w.tmod 7).tmod (2 * turnM w)
def atM' (w d : Int) : Int := if turnM w < upM w d then 2 * turnM w - upM w d else upM w d
def waveM (w d : Int) : Int := if w.tmod 2 = 0 then -atM' w d else atM' w d
theorem at_tri {w d : Int} (hw : 0 ≤ w) (hd : 0 ≤ d) : ∃ t u : Nat, turnM w = t ∧ 1 ≤ t ∧ t ≤ 60 ∧ d + w.tmod 7 = u ∧ atM' w d = (tri t u : Int) := by
  have h1 := tmod_bd hw (show (0 : Int) < 60 by omega)
  have h2 := tmod_bd hw (show (0 : Int) < 7 by omega)
  obtain ⟨t, ht⟩ : ∃ t : Nat, turnM w = t := ⟨(turnM w).toNat, by unfold turnM; omega⟩
  obtain ⟨u, hu⟩ : ∃ u : Nat, d + w.tmod 7 = u := ⟨(d + w.tmod 7).toNat, by omega⟩
  have ht1 : 1 ≤ t ∧ t ≤ 60 := by unfold turnM at ht; omega
  refine ⟨t, u, ht, ht1.1, ht1.2, hu, ?_⟩
  have hup : upM w d = ((u % (2 * t) : Nat) : Int) := by
    unfold upM
    rw [hu, ht, show (2 * (t : Int)) = ((2 * t : Nat) : Int) by omega]
    rfl
  have hr := Nat.mod_lt u (show 0 < 2 * t by omega)
  unfold atM' tri
  rw [hup, ht]
  generalize u % (2 * t) = r at *
  split <;> split <;> omega
theorem wave_far {w d d' : Int} (hw : 0 ≤ w) (hd : 0 ≤ d) (h : d ≤ d') : waveM w d' - waveM w d ≤ d' - d ∧ waveM w d - waveM w d' ≤ d' - d := by
  obtain ⟨t, u, h1, h2, h3, h4, h5⟩ := at_tri hw hd
  obtain ⟨t', u', h1', h2', h3', h4', h5'⟩ := at_tri hw (show 0 ≤ d' by omega)
  have e : t' = t := by omega
  subst e
  obtain ⟨k, hk⟩ : ∃ k : Nat, u' = u + k := ⟨u' - u, by omega⟩
  have hf := tri_far h2 u k
  unfold waveM
  rw [h5, h5', hk]
  split <;> omega
theorem wave_bd {w d : Int} (hw : 0 ≤ w) (hd : 0 ≤ d) : -60 ≤ waveM w d ∧ waveM w d ≤ 60 := by
  obtain ⟨t, u, h1, h2, h3, h4, h5⟩ := at_tri hw hd
  have := tri_le h2 u
  unfold waveM
  rw [h5]
  split <;> omega
/-- An item's value on a day, by words. -/
def trueM (b : Bk) (ws : List Int) (i d : Int) : Int := if (b.item i).std = true then (b.item i).val.lo + (wordM ws i).tmod ((b.item i).val.hi - (b.item i).val.lo + 1) else (wordM ws i).tmod 900 + (b.item i).drift * waveM (wordM ws i) d
/-- A book with the certificates of a truth. -/
def Ct.writ (b : Bk) (ws : List Int) (c : Ct) : Ct := ⟨c.num, c.it, c.src, c.day, c.valid, ⟨trueM b ws c.it c.day - trueM b ws c.src c.day - (wordM ws c.num).tmod 9, trueM b ws c.it c.day - trueM b ws c.src c.day + (wordM ws (c.num + 1)).tmod 9⟩⟩
def Bk.writ (b : Bk) (ws : List Int) : Bk := ⟨b.items, b.certs.map (Ct.writ b ws)⟩
theorem mul_bd {a x : Int} (h0 : 0 ≤ a) (h1 : a ≤ 100) (hx : -60 ≤ x ∧ x ≤ 60) : -6000 ≤ a * x ∧ a * x ≤ 6000 := by
  constructor
  · have := Int.mul_le_mul_of_nonneg_left hx.1 h0
    have := Int.mul_le_mul_of_nonpos_right h1 (show (-60 : Int) ≤ 0 by omega)
    omega
  · have := Int.mul_le_mul_of_nonneg_left hx.2 h0
    have := Int.mul_le_mul_of_nonneg_right h1 (show (0 : Int) ≤ 60 by omega)
    omega
section
variable {b : Bk} {ws : List Int}
theorem true_std (hb : b.ok) (hw : ∀ y ∈ ws, 0 ≤ y ∧ y < 65536) {i d : Int} (h0 : 0 ≤ i) (h1 : i < b.items.length) (hs : (b.item i).std = true) : (b.item i).val.has (trueM b ws i d) := by
  obtain ⟨_, _, _, h2⟩ := item_bds hb h0 h1
  have h3 := tmod_bd (wordM_bd hw i).1 (show (0 : Int) < (b.item i).val.hi - (b.item i).val.lo + 1 by omega)
  unfold trueM Cr.has
  rw [if_pos hs]
  omega
theorem true_bd (hb : b.ok) (hw : ∀ y ∈ ws, 0 ≤ y ∧ y < 65536) {i d : Int} (h0 : 0 ≤ i) (h1 : i < b.items.length) (hd : 0 ≤ d) : -100000 ≤ trueM b ws i d ∧ trueM b ws i d ≤ 100000 := by
  obtain ⟨k1, k2, k3, k4⟩ := item_bds hb h0 h1
  cases hs : (b.item i).std
  · have h3 := tmod_bd (wordM_bd hw i).1 (show (0 : Int) < 900 by omega)
    have h4 := mul_bd k1 k2 (wave_bd (wordM_bd hw i).1 hd)
    unfold trueM
    rw [if_neg (by simp [hs])]
    omega
  · have := true_std hb hw (d := d) h0 h1 hs
    unfold Cr.has at this
    unfold Cr.bdd at k3
    omega
theorem true_drift (hb : b.ok) (hw : ∀ y ∈ ws, 0 ≤ y ∧ y < 65536) {i d d' : Int} (h0 : 0 ≤ i) (h1 : i < b.items.length) (hs : (b.item i).std = false) (hd : 0 ≤ d) (h : d ≤ d') : trueM b ws i d' ≤ trueM b ws i d + (b.item i).drift * (d' - d) ∧ trueM b ws i d - (b.item i).drift * (d' - d) ≤ trueM b ws i d' := by
  obtain ⟨k1, k2, k3, k4⟩ := item_bds hb h0 h1
  obtain ⟨q1, q2⟩ := wave_far (wordM_bd hw i).1 hd h
  unfold trueM
  rw [if_neg (by simp [hs]), if_neg (by simp [hs])]
  have m1 := Int.mul_le_mul_of_nonneg_left q1 k1
  have m2 := Int.mul_le_mul_of_nonneg_left q2 k1
  rw [Int.mul_sub] at m1 m2
  omega
/-- A book that was written by words has their truth. -/
def trueT (b : Bk) (ws : List Int) (i d : Int) : Int := if 0 ≤ i ∧ i < b.items.length ∧ ((b.item i).std = true ∨ 0 ≤ d) then trueM b ws i d else 0
theorem trueT_is {i d : Int} (h0 : 0 ≤ i) (h1 : i < b.items.length) (hd : 0 ≤ d) : trueT b ws i d = trueM b ws i d := by unfold trueT; rw [if_pos ⟨h0, h1, .inr hd⟩]
theorem trueT_std {i d : Int} (h0 : 0 ≤ i) (h1 : i < b.items.length) (hs : (b.item i).std = true) : trueT b ws i d = trueM b ws i d := by unfold trueT; rw [if_pos ⟨h0, h1, .inl hs⟩]
theorem writ_item (i : Int) : (b.writ ws).item i = b.item i := rfl
theorem writ_mem {c : Ct} (h : c ∈ (b.writ ws).certs) : ∃ c0 ∈ b.certs, c = Ct.writ b ws c0 := by
  obtain ⟨c0, h1, h2⟩ := List.mem_map.1 h
  exact ⟨c0, h1, h2.symm⟩
theorem writ_truth (hb : b.ok) (hw : ∀ y ∈ ws, 0 ≤ y ∧ y < 65536) : Truth (b.writ ws) (trueT b ws) := by
  refine ⟨fun c hc d hs => ?_, fun c hc => ?_, fun c hc d hd => ?_, fun i d => ?_⟩
  · obtain ⟨c0, h0, rfl⟩ := writ_mem hc
    have hbd := cert_bds hb h0
    rw [writ_item] at hs ⊢
    have hs' : (b.item c0.src).std = true := hs
    show (b.item c0.src).val.has (trueT b ws c0.src d)
    rw [trueT_std hbd.2.2.2.2.2.1 hbd.2.2.2.2.2.2.1 hs']
    exact true_std hb hw hbd.2.2.2.2.2.1 hbd.2.2.2.2.2.2.1 hs'
  · obtain ⟨c0, h0, rfl⟩ := writ_mem hc
    have hbd := cert_bds hb h0
    have h9 := tmod_bd (wordM_bd hw c0.num).1 (show (0 : Int) < 9 by omega)
    have h8 := tmod_bd (wordM_bd hw (c0.num + 1)).1 (show (0 : Int) < 9 by omega)
    show (Ct.writ b ws c0).diff.has (trueT b ws c0.it c0.day - trueT b ws c0.src c0.day)
    rw [trueT_is hbd.2.2.1 hbd.2.2.2.1 hbd.2.2.2.2.2.2.2.2.1, trueT_is hbd.2.2.2.2.2.1 hbd.2.2.2.2.2.2.1 hbd.2.2.2.2.2.2.2.2.1]
    unfold Ct.writ Cr.has
    simp only
    omega
  · obtain ⟨c0, h0, rfl⟩ := writ_mem hc
    have hbd := cert_bds hb h0
    have hd' : c0.day ≤ d := hd
    show trueT b ws c0.it d ≤ trueT b ws c0.it c0.day + (b.item c0.it).drift * (d - c0.day) ∧ trueT b ws c0.it c0.day - (b.item c0.it).drift * (d - c0.day) ≤ trueT b ws c0.it d
    rw [trueT_is hbd.2.2.1 hbd.2.2.2.1 hbd.2.2.2.2.2.2.2.2.1, trueT_is hbd.2.2.1 hbd.2.2.2.1 (by omega)]
    exact true_drift hb hw hbd.2.2.1 hbd.2.2.2.1 hbd.2.2.2.2.1 hbd.2.2.2.2.2.2.2.2.1 hd'
  · unfold trueT Cr.has everyR
    split
    · rename_i h
      rcases h.2.2 with h3 | h3
      · have h4 := true_std hb hw (d := d) h.1 h.2.1 h3
        have h5 := (item_bds hb h.1 h.2.1).2.2.1
        unfold Cr.has at h4
        unfold Cr.bdd at h5
        simp only
        omega
      · have := true_bd hb hw h.1 h.2.1 h3
        simp only
        omega
    · simp
theorem Truth.part {b b' : Bk} {T : Int → Int → Int} (h : Truth b T) (hi : b'.items = b.items) (hc : ∀ c ∈ b'.certs, c ∈ b.certs) : Truth b' T := by
  have e : ∀ i, b'.item i = b.item i := fun i => by unfold Bk.item; rw [hi]
  exact ⟨fun c h1 d hs => by rw [e] at hs ⊢; exact h.std c (hc c h1) d hs, fun c h1 => h.cert c (hc c h1), fun c h1 d hd => by rw [e]; exact h.drift c (hc c h1) d hd, h.far⟩
end
end Go.Proofs.YtaffbiibcfeigaaGreat
/-! Layer 2 (chain): the contracts of word, True, Written. -/
namespace Go.Proofs.YtaffbiibcfeigaaGreat
open Go.RowKit
attribute [local simp] Box.purge Site.isLoc
set_option maxRecDepth 10000
set_option linter.unusedSimpArgs false
def wsP (ws : List Int) : PV := .lst false 1 (ws.map (PV.int .u16))
theorem word_c (ws : List Int) (hw : ∀ y ∈ ws, 0 ≤ y ∧ y < 65536) (i : Int) (hi : 0 ≤ i) : Gives Tryz.prog 48 [wsP ws, .int .i64 i] (.int .i64 (wordM ws i)) := by
  refine calls_of_awpS mixed L48_ok (Nat.le_of_ble_eq_true rfl) ?_
  by_cases hn : ws = []
  · subst hn
    simp [-getElem?_pos, L48, wsP, wordM]
  have hpos : 0 < ws.length := List.length_pos_iff.2 hn
  have hb := tmod_bd hi (show (0 : Int) < (ws.length : Int) by omega)
  obtain ⟨j, hj⟩ : ∃ j : Nat, i.tmod (ws.length : Int) = j := ⟨(i.tmod (ws.length : Int)).toNat, by omega⟩
  have hjl : j < ws.length := by omega
  obtain ⟨y, hy⟩ : ∃ y, ws[j]? = some y := ⟨_, List.getElem?_eq_getElem hjl⟩
  have hgy : (ws.map (PV.int .u16))[j]? = some (.int .u16 y) := by rw [List.getElem?_map, hy]; rfl
  have hyb := hw y (List.mem_of_getElem? hy)
  have hM : wordM ws i = y := by unfold wordM; rw [hj, Int.toNat_natCast, hy]; rfl
  have hwr : IntKind.i64.wrap y = y := wrap64 (by omega)
  rw [hM]
  simp [-getElem?_pos, -List.getElem?_map, L48, wsP, hn, hj, hjl, hgy, hwr]
def truK (b : Bk) (z : It) (item day w : Int) : AS := ⟨[(1, .pv (.int .i64 item)), (2, .pv (.int .i64 day)), (4, .ptr (.loc 4 0) 0), (9, .ptr (.loc 9 0) 0), (17, .pv (.agg [.int .i64 z.drift, .bool z.std, .int .i64 z.val.lo, .int .i64 z.val.hi])), (20, .pv (.int .i64 w))],
  [(.loc 9 0, .cells [.pv (.int .i64 0), .pv (.bool false), .pv (.int .i64 0), .pv (.int .i64 0)]), (.loc 4 0, .cells b.cells)]⟩
set_option maxHeartbeats 16000000 in
theorem true_c (b : Bk) (hb : b.ok) (ws : List Int) (hw : ∀ y ∈ ws, 0 ≤ y ∧ y < 65536) (item day : Int) (h0 : 0 ≤ item) (h1 : item < b.items.length) (hd : 0 ≤ day ∧ day ≤ 1000) : Gives Tryz.prog 16 [b.pv, .int .i64 item, .int .i64 day, wsP ws] (.int .i64 (trueM b ws item day)) := by
  have hwc := word_c ws hw item h0
  have hwb := wordM_bd hw item
  obtain ⟨k1, k2, k3, k4⟩ := item_bds hb h0 h1
  unfold trueM
  obtain ⟨j, rfl, hjl, z, hz, hbz, hgz⟩ := item_at h0 h1
  rw [hbz] at k1 k2 k3 k4 ⊢
  unfold Cr.bdd at k3
  generalize wordM ws (j : Int) = w at *
  have q60 := tmod_bd hwb.1 (show (0 : Int) < 60 by omega)
  have q7 := tmod_bd hwb.1 (show (0 : Int) < 7 by omega)
  have q900 := tmod_bd hwb.1 (show (0 : Int) < 900 by omega)
  have qv := tmod_bd hwb.1 (show (0 : Int) < z.val.hi - z.val.lo + 1 by omega)
  have qb := wave_bd (w := w) hwb.1 hd.1
  have qm := mul_bd k1 k2 qb
  have w0 : IntKind.i64.wrap (1 + w.tmod 60) = turnM w := by rw [wrap64 (by omega)]; rfl
  have ht : 1 ≤ turnM w ∧ turnM w ≤ 60 := by unfold turnM; omega
  have hne : ¬ turnM w = 0 := by omega
  have hne3 : ¬ (2 * turnM w = 0) := by omega
  have hup := tmod_bd (a := day + w.tmod 7) (by omega) (show (0 : Int) < 2 * turnM w by omega)
  have hupe : (day + w.tmod 7).tmod (2 * turnM w) = upM w day := rfl
  rw [hupe] at hup
  have w1 : IntKind.i64.wrap (day + w.tmod 7) = day + w.tmod 7 := wrap64 (by omega)
  have w2 : IntKind.i64.wrap (2 * turnM w) = 2 * turnM w := wrap64 (by omega)
  have w3 : IntKind.i64.wrap (2 * turnM w - upM w day) = 2 * turnM w - upM w day := wrap64 (by omega)
  have w4 : IntKind.i64.wrap (z.val.hi - z.val.lo) = z.val.hi - z.val.lo := wrap64 (by omega)
  have w5 : IntKind.i64.wrap (z.val.hi - z.val.lo + 1) = z.val.hi - z.val.lo + 1 := wrap64 (by omega)
  have w6 : IntKind.i64.wrap (z.val.lo + w.tmod (z.val.hi - z.val.lo + 1)) = z.val.lo + w.tmod (z.val.hi - z.val.lo + 1) := wrap64 (by omega)
  have hne2 : ¬ (z.val.hi - z.val.lo + 1 = 0) := by omega
  have w7 : IntKind.i64.wrap (z.drift * waveM w day) = z.drift * waveM w day := wrap64 (by omega)
  have w8 : IntKind.i64.wrap (w.tmod 900 + z.drift * waveM w day) = w.tmod 900 + z.drift * waveM w day := wrap64 (by omega)
  have w9 : IntKind.i64.wrap (-(2 * turnM w - upM w day)) = -(2 * turnM w - upM w day) := wrap64 (by omega)
  have w10 : IntKind.i64.wrap (-(upM w day)) = -(upM w day) := wrap64 (by omega)
  refine calls_of_awpS mixed L16_ok (Nat.le_of_ble_eq_true rfl) ?_
  simp [-getElem?_pos, -List.getElem?_map, L16, Bk.pv, itsP, ctsP, hjl, hgz]
  refine ltS_seq (truK b z j day w) ?_ ?_
  · simp [-getElem?_pos, -List.getElem?_map, ltS_alt, ltS_no]
    refine ⟨?_, ?_⟩
    all_goals
      refine call_give (k := 0) (fs := []) (xs := [wsP ws, .int .i64 j]) (cs := []) rfl rfl hwc rfl ?_
      simp [-getElem?_pos, -List.getElem?_map, ltS_alt, ltS_no]
      refine Sub.mk ?_ ?_
      · simp [truK]
      · simp [truK, Bk.cells, itsP, ctsP]
  cases hs : z.std
  case true =>
    simp [-getElem?_pos, -List.getElem?_map, ltS_alt, ltS_no, truK, hs, w4, w5, w6, hne2]
  case false =>
  unfold waveM atM' at w7 w8 ⊢
  cases c1 : decide (turnM w < upM w day)
  · have c1' := of_decide_eq_false c1
    rw [if_neg c1'] at w7 w8 ⊢
    by_cases c2 : w.tmod 2 = 0
    · rw [if_pos c2] at w7 w8 ⊢
      simp [-getElem?_pos, -List.getElem?_map, ltS_alt, ltS_no, truK, hs, w0, w1, w2, w3, w7, w8, w9, w10, hne, hne3, hupe, c1', c2]
    · rw [if_neg c2] at w7 w8 ⊢
      simp [-getElem?_pos, -List.getElem?_map, ltS_alt, ltS_no, truK, hs, w0, w1, w2, w3, w7, w8, w9, w10, hne, hne3, hupe, c1', c2]
  · have c1' := of_decide_eq_true c1
    rw [if_pos c1'] at w7 w8 ⊢
    by_cases c2 : w.tmod 2 = 0
    · rw [if_pos c2] at w7 w8 ⊢
      simp [-getElem?_pos, -List.getElem?_map, ltS_alt, ltS_no, truK, hs, w0, w1, w2, w3, w7, w8, w9, w10, hne, hne3, hupe, c1', c2]
    · rw [if_neg c2] at w7 w8 ⊢
      simp [-getElem?_pos, -List.getElem?_map, ltS_alt, ltS_no, truK, hs, w0, w1, w2, w3, w7, w8, w9, w10, hne, hne3, hupe, c1', c2]
end Go.Proofs.YtaffbiibcfeigaaGreat
/-! Layer 2 (chain): the contract of Written. -/
namespace Go.Proofs.YtaffbiibcfeigaaGreat
open Go.RowKit
set_option maxRecDepth 10000
set_option linter.unusedSimpArgs false
attribute [local irreducible] trueM wordM
attribute [local simp] AS.exp expG Box.ren AV.map AV.mapL outsOk noRet Site.isRet Box.allS AV.allS AV.allSL retB dropL AS.adds renL outG outOk lentBx inG fnOf lookA List.findIdx?_cons
attribute [local simp] Box.purge Site.isLoc
def wrK (b : Bk) (ws : List Int) (k : Nat) : AS := ⟨[(1, .pv (wsP ws)), (2, .ptr (.loc 2 0) 0), (4, .ptr (.loc 4 0) 0), (6, .ptr (.loc 6 0) 0), (7, .pv (.int .i64 k))],
  [(.loc 61 0, .arr 147 7 (((b.certs.take k).map (Ct.writ b ws)).map Ct.pv)), (.loc 6 0, .cells [.pv (itsP b.items), .vec (.loc 61 0) 7 0 k]), (.loc 4 0, .cells [.pv (.emp (some true)), .pv (.emp (some true))]), (.loc 2 0, .cells b.cells)]⟩
set_option maxHeartbeats 16000000 in
theorem written_c (b : Bk) (hb : b.ok) (ws : List Int) (hw : ∀ y ∈ ws, 0 ≤ y ∧ y < 65536) : CallsA Tryz.prog 12 [.pv b.pv, .pv (wsP ws)] [] (fun r B => r = .tup [.agg [.pv (itsP b.items), .vec (.ret 0) 7 0 b.certs.length], .pv (.bool (decide ((b.writ ws).fault = 0)))] ∧ B = [(.ret 0, .arr 147 7 ((b.writ ws).certs.map Ct.pv))]) := by
  have hil := hb.i
  have hcl := hb.c
  refine calls_of_awpE mixed L12_ok (Nat.le_of_ble_eq_true rfl) ?_
  generalize hR : (fun (r : AV) (B : List (Site × Box)) => r = .tup [.agg [.pv (itsP b.items), .vec (.ret 0) 7 0 b.certs.length], .pv (.bool (decide ((b.writ ws).fault = 0)))] ∧ B = [(.ret 0, .arr 147 7 ((b.writ ws).certs.map Ct.pv))]) = R
  simp [-getElem?_pos, -List.getElem?_map, L12, Bk.pv, -retB]
  refine awp_loopS (fun m τ => ∃ k : Nat, k ≤ b.certs.length ∧ m = b.certs.length - k ∧ τ = wrK b ws k) ⟨b.certs.length, wrK b ws 0, Sub.trans' (Sub.mk (by simp [wrK, AS.vecC]) (by simp [wrK, AS.vecC, Bk.cells])) (vecC 61 147 7 (s := .loc 6 0) (cs := [.pv (itsP b.items), .pv (.emp (some true))]) 1 rfl rfl (by decide)), 0, by omega, rfl, rfl⟩ ?_
  rintro J hJ m τ ⟨k, hk, rfl, rfl⟩
  by_cases hlt : k < b.certs.length
  · obtain ⟨o, ho, hom, hgo⟩ := ct_at hlt
    have hwk := wrapK (k := k) (by omega)
    have hround := hJ _ _ ⟨k + 1, hlt, rfl, rfl⟩
    have hmeas : b.certs.length - (k + 1) < b.certs.length - k := by omega
    have hbd := cert_bds hb hom
    have ht1 := true_c b hb ws hw o.it o.day hbd.2.2.1 hbd.2.2.2.1 ⟨hbd.2.2.2.2.2.2.2.2.1, hbd.2.2.2.2.2.2.2.2.2.1⟩
    have ht2 := true_c b hb ws hw o.src o.day hbd.2.2.2.2.2.1 hbd.2.2.2.2.2.2.1 ⟨hbd.2.2.2.2.2.2.2.2.1, hbd.2.2.2.2.2.2.2.2.2.1⟩
    have hw1 := word_c ws hw o.num (by omega)
    have hw2 := word_c ws hw (o.num + 1) (by omega)
    have b1 := true_bd hb hw (d := o.day) hbd.2.2.1 hbd.2.2.2.1 hbd.2.2.2.2.2.2.2.2.1
    have b2 := true_bd hb hw (d := o.day) hbd.2.2.2.2.2.1 hbd.2.2.2.2.2.2.1 hbd.2.2.2.2.2.2.2.2.1
    have b3 := tmod_bd (wordM_bd hw o.num).1 (show (0 : Int) < 9 by omega)
    have b4 := tmod_bd (wordM_bd hw (o.num + 1)).1 (show (0 : Int) < 9 by omega)
    have htk : ((b.certs.take (k + 1)).map (Ct.writ b ws)).map Ct.pv = ((b.certs.take k).map (Ct.writ b ws)).map Ct.pv ++ [(Ct.writ b ws o).pv] := by rw [List.take_add_one, ho]; simp
    have htl : (((b.certs.take k).map (Ct.writ b ws)).map Ct.pv).length = k := by rw [List.length_map, List.length_map, List.length_take]; omega
    have hop : (Ct.writ b ws o).pv = .agg [.int .i64 o.num, .int .i64 o.it, .int .i64 o.src, .int .i64 o.day, .int .i64 o.valid, .int .i64 (trueM b ws o.it o.day - trueM b ws o.src o.day - (wordM ws o.num).tmod 9), .int .i64 (trueM b ws o.it o.day - trueM b ws o.src o.day + (wordM ws (o.num + 1)).tmod 9)] := rfl
    unfold wrK at hround ⊢
    rw [htk, hop] at hround
    clear hJ htk hop hR
    generalize ((b.certs.take k).map (Ct.writ b ws)).map Ct.pv = TL at *
    have htm : TL.take k = TL := List.take_of_length_le (by omega)
    have hk6 : k ≤ 999999 := by omega
    generalize trueM b ws o.it o.day = t1 at *
    generalize trueM b ws o.src o.day = t2 at *
    generalize wordM ws o.num = u1 at *
    generalize wordM ws (o.num + 1) = u2 at *
    have x1 : IntKind.i64.wrap (t1 - t2) = t1 - t2 := wrap64 (by omega)
    have x2 : IntKind.i64.wrap (o.num + 1) = o.num + 1 := wrap64 (by omega)
    have x3 : IntKind.i64.wrap (t1 - t2 - u1.tmod 9) = t1 - t2 - u1.tmod 9 := wrap64 (by omega)
    have x4 : IntKind.i64.wrap (t1 - t2 + u2.tmod 9) = t1 - t2 + u2.tmod 9 := wrap64 (by omega)
    clear b1 b2 b3 b4 hbd
    simp [-getElem?_pos, -List.getElem?_map, Bk.cells, itsP, ctsP, hlt, hgo, -retB]
    refine call_give (k := 0) (fs := []) (xs := [b.pv, .int .i64 o.it, .int .i64 o.day, wsP ws]) (cs := []) rfl rfl ht1 rfl ?_
    simp [-getElem?_pos, -List.getElem?_map, -retB]
    refine call_gives (k := 0) (fs := []) (xs := [b.pv, .int .i64 o.src, .int .i64 o.day, wsP ws]) (cs := []) rfl rfl ht2 rfl ?_
    simp [-getElem?_pos, -List.getElem?_map, x1, x2, -retB]
    refine call_give (k := 0) (fs := []) (xs := [wsP ws, .int .i64 o.num]) (cs := []) rfl rfl hw1 rfl ?_
    simp [-getElem?_pos, -List.getElem?_map, x3, -retB]
    refine call_gives (k := 0) (fs := []) (xs := [wsP ws, .int .i64 (o.num + 1)]) (cs := []) rfl rfl hw2 rfl ?_
    simp [-getElem?_pos, -List.getElem?_map, x4, hwk, nble, nblt, hk6, htl, htm, -retB]
    exact ⟨_, _, hmeas, Sub.mk (by simp) (by simp [Bk.cells, itsP, ctsP]), hround⟩
  have he : k = b.certs.length := by omega
  subst he
  clear hJ
  have hxp : (b.writ ws).pv = .agg [itsP b.items, .lst false 7 ((b.certs.map (Ct.writ b ws)).map Ct.pv)] := rfl
  have hxi : (b.writ ws).items.length = b.items.length := rfl
  have hxc : (b.writ ws).certs.length = b.certs.length := by unfold Bk.writ; simp
  have hxm : (b.writ ws).certs.map Ct.pv = (b.certs.map (Ct.writ b ws)).map Ct.pv := rfl
  have hfa := rfault_c (b.writ ws) (by omega) (by omega)
  unfold wrK
  rw [List.take_length]
  rw [hxm] at hR
  have htl : ((b.certs.map (Ct.writ b ws)).map Ct.pv).length = b.certs.length := by simp
  have hth : ((b.certs.map (Ct.writ b ws)).map Ct.pv).take b.certs.length = (b.certs.map (Ct.writ b ws)).map Ct.pv := List.take_of_length_le (by simp)
  generalize (b.certs.map (Ct.writ b ws)).map Ct.pv = TL at *
  generalize b.writ ws = b2 at *
  simp [-getElem?_pos, -List.getElem?_map, Bk.cells, itsP, ctsP, -retB]
  refine call_give (k := 1) (fs := []) (xs := [b2.pv]) (cs := []) rfl ?_ hfa rfl ?_
  · simp [snapW, AV.snap, AV.snap0, hxp, itsP, hth, htl]
  simp [-getElem?_pos, -List.getElem?_map, -decide_eq_true_eq, -retB]
  refine ⟨[.loc 61 0], ?_⟩
  simp [-decide_eq_true_eq]
  rw [← hR]
  exact ⟨rfl, rfl⟩
end Go.Proofs.YtaffbiibcfeigaaGreat
