/- An evaluation of Go's code over plain values: a drawn region whose loads are taken first, though operations that do not wait for them write what they own. Over any program. (Several texts in one.) -/
import Derived.Test.YtcgdopjmbadonaaBaseE
import Derived.Test.YtcgdopjmbadonaaBaseD
set_option linter.unusedVariables false
set_option linter.unusedSimpArgs false
/-! An evaluation of Go's code over plain values: a drawn region whose loads are taken first, though operations that do not wait for them write what they own. Over any program. -/
namespace Go.Proofs.Ytcgdopjmbadonaa
open Go.RowKit
section
variable {P : Program} {ops : Array Oper} {Q : Exit → Act → World → Prop} {md : Region.Mode} {ro : Option Nat} {G : World → Prop}
def wpAnyG (ro : Option Nat) (P : Program) (md : Region.Mode) (ops : Array Oper) (Q : Exit → Act → World → Prop) (G : World → Prop) : Nat → Array Bool → Act → World → Prop
  | 0, listed, a, w => Region.ready md ops listed = [] ∧ Q .normal a w
  | fuel + 1, listed, a, w =>
    (Region.ready md ops listed = [] → Q .normal a w) ∧
    ∀ i ∈ Region.ready md ops listed, wpOpIn (FF ro) 1 P ops Q i (fun a' w' => G w' ∧ wpAnyG ro P md ops Q G fuel (listed.setIfInBounds i true) a' w') a w
theorem wpAny_of_G : ∀ (fuel : Nat) (listed : Array Bool) (a : Act) (w : World), wpAnyG ro P md ops Q G fuel listed a w → wpAnyIn (FF ro) 1 P md ops Q fuel listed a w
  | 0, _, _, _, h => h
  | fuel + 1, _, _, _, h => ⟨h.1, fun i hi => wpOpIn_mono (fun a' w' k => wpAny_of_G fuel _ a' w' k.2) (h.2 i hi)⟩
theorem wpAnyG_first {i : Nat} {oi : Oper} {v : Value} (hi : ops[i]? = some oi) (hsel : ∀ (j : Nat) (o : Oper) cs b, ops[j]? = some o → o.op ≠ .select cs b) (hdf : noDefer ops = true)
    (hQ : ∀ c a w, Q (.panic c) (a.put oi.dst v) w → Q (.panic c) a w) :
    ∀ (fuel : Nat) (listed : Array Bool) (a : Act) (w : World), Down md ops listed →
      (∀ j oj, ops[j]? = some oj → j ≠ i → listed.getD j true = false → (∀ e ∈ oj.after, Region.binds md e = true → e.on ≠ i) → oi.apart ops oj = true) →
      i ∈ Region.ready md ops listed → YieldsIf P ops G oi v a → G w →
      wpAnyG ro P md ops Q G fuel (listed.setIfInBounds i true) (a.put oi.dst v) w → wpAnyG ro P md ops Q G (fuel + 1) listed a w := by
  intro fuel
  induction fuel with
  | zero =>
    intro listed a w _ _ hr hy hS H
    refine ⟨fun h => absurd hr (by rw [h]; simp), fun j hj => ?_⟩
    rcases Nat.decEq j i with hji | hji
    · have h2 := ready_mono hj hji
      rw [H.1] at h2
      exact absurd h2 (by simp)
    · rw [hji]; exact yieldsIf_wpI hi (noDefer_spec hdf hi) hy hS ⟨hS, H⟩
  | succ fuel ih =>
    intro listed a w hD hfree hr hy hS H
    refine ⟨fun h => absurd hr (by rw [h]; simp), fun j hj => ?_⟩
    rcases Nat.decEq j i with hji | hji
    · have h1 := H.2 j (ready_mono hj hji)
      obtain ⟨hjun, oj, hoj, hall⟩ := mem_ready.1 hj
      have hiun := (mem_ready.1 hr).1
      have hnot : ∀ e ∈ oj.after, Region.binds md e = true → e.on ≠ i := fun e he hb heq => by
        have k1 := hall e he hb
        rw [heq, getD_false_true hiun] at k1; cases k1
      have h2 := wpI_putIf hoj (noDefer_spec hdf hoj) (hfree j oj hoj hji hjun hnot) (fun cs b => hsel i oi cs b hi) (fun cs b => hsel j oj cs b hoj) hQ hy h1
      have hri : i ∈ Region.ready md ops (listed.setIfInBounds j true) := ready_mono hr (Ne.symm hji)
      have hun : ∀ k, (listed.setIfInBounds j true).getD k true = false → listed.getD k true = false := fun k hk => by
        rcases Nat.decEq j k with hjk | hjk
        · rw [getD_set_ne true hjk] at hk; exact hk
        · rw [← hjk]; exact hjun
      refine wpOpIn_mono (fun a' w' h3 => ?_) h2
      refine ⟨h3.2.1, ih (listed.setIfInBounds j true) a' w' (hD.set hj) (fun k ok hk hki hkun hno => hfree k ok hk hki (hun k hkun) hno) hri h3.1 h3.2.1 ?_⟩
      rw [Array.setIfInBounds_comm _ _ hji]
      exact h3.2.2
    · rw [hji]; exact yieldsIf_wpI hi (noDefer_spec hdf hi) hy hS ⟨hS, H⟩
def wpTG (ro : Option Nat) (P : Program) (ops : Array Oper) (Q : Exit → Act → World → Prop) (G : World → Prop) : RT → Act → World → Prop
  | .done, a, w => Q .normal a w
  | .rd i t, a, w => ∃ o v, ops[i]? = some o ∧ YieldsIf P ops G o v a ∧ wpTG ro P ops Q G t (a.put o.dst v) w
  | .ef i t alt, a, w => wpOpIn (FF ro) 1 P ops Q i (fun a' w' => G w' ∧ wpTG ro P ops Q G t a' w') a w ∧ wpTG ro P ops Q G alt a w
  | .no, _, _ => True
  | .seq _ _, _, _ => False
def seqTG (md : Region.Mode) (ops : Array Oper) : RT → Nat → Array Bool → Option (List Nat) → Bool
  | .done, _, listed, none => (Region.ready md ops listed).isEmpty
  | .rd i t, n + 1, listed, none => (Region.ready md ops listed).contains i && Region.free md ops listed i && seqTG md ops t n (listed.setIfInBounds i true) none
  | .ef i t alt, n + 1, listed, rem => match rem.getD (Region.ready md ops listed) with
    | j :: r => j == i && seqTG md ops t n (listed.setIfInBounds i true) none && seqTG md ops alt (n + 1) listed (some r)
    | [] => false
  | .no, _, _, some [] => true
  | _, _, _, _ => false
theorem wpAnyG_of_tree (hs : Region.noSelect ops = true) (hdf : noDefer ops = true) (hQ : ∀ c (a : Act) (d : Tmp) (v : Value) w, Q (.panic c) (a.put (some d) v) w → Q (.panic c) a w) : ∀ (T : RT) (n : Nat) (listed : Array Bool) (rem : Option (List Nat)) (a : Act) (w : World), listed.size = ops.size → Down md ops listed →
    (∀ r, rem = some r → ∀ i ∈ r, i ∈ Region.ready md ops listed) → seqTG md ops T n listed rem = true → G w → wpTG ro P ops Q G T a w →
    match rem with
    | none => wpAnyG ro P md ops Q G n listed a w
    | some r => ∃ n', (r = [] ∨ n = n' + 1) ∧ ∀ i ∈ r, wpOpIn (FF ro) 1 P ops Q i (fun a' w' => G w' ∧ wpAnyG ro P md ops Q G n' (listed.setIfInBounds i true) a' w') a w := by
  intro T
  induction T with
  | done =>
    intro n listed rem a w hsz hD hrem hB hG h
    cases rem with
    | some r => simp [seqTG] at hB
    | none =>
      have hr : Region.ready md ops listed = [] := by simpa [seqTG] using hB
      cases n with
      | zero => exact ⟨hr, h⟩
      | succ n => exact ⟨fun _ => h, fun i hi => by rw [hr] at hi; cases hi⟩
  | rd i t ih =>
    intro n listed rem a w hsz hD hrem hB hG h
    cases rem with
    | some r => cases n <;> simp [seqTG] at hB
    | none =>
      cases n with
      | zero => simp [seqTG] at hB
      | succ n =>
        simp only [seqTG, Bool.and_eq_true] at hB
        obtain ⟨o, v, ho, hy, h'⟩ := h
        have hr : i ∈ Region.ready md ops listed := by simpa using hB.1.1
        exact wpAnyG_first ho (Region.noSelect_spec hs) hdf (fun c a w k => by
          cases hd : o.dst with
          | none => rw [hd] at k; exact k
          | some d => rw [hd] at k; exact hQ c a d v w k) n listed a w hD (Region.free_spec ho hB.1.2) hr hy hG (ih n _ none _ _ (by simpa using hsz) (hD.set hr) (fun r e => by cases e) hB.2 hG h')
  | ef i t alt iht iha =>
    intro n listed rem a w hsz hD hrem hB hG h
    cases n with
    | zero => cases rem <;> simp [seqTG] at hB
    | succ n =>
      simp only [seqTG] at hB
      split at hB
      · rename_i j r hj
        simp only [Bool.and_eq_true, beq_iff_eq] at hB
        obtain ⟨⟨rfl, hB1⟩, hB2⟩ := hB
        have hall : ∀ k ∈ j :: r, k ∈ Region.ready md ops listed := by
          cases rem with
          | none => rw [show Option.getD none (Region.ready md ops listed) = Region.ready md ops listed from rfl] at hj; rw [hj]; exact fun k hk => hk
          | some r' => rw [show Option.getD (some r') (Region.ready md ops listed) = r' from rfl] at hj; rw [← hj]; exact hrem r' rfl
        have hr : j ∈ Region.ready md ops listed := hall j (by simp)
        obtain ⟨n', h1, h2⟩ := iha (n + 1) listed (some r) a w hsz hD (fun r' e k hk => by cases e; exact hall k (by simp [hk])) hB2 hG h.2
        have hone : wpOpIn (FF ro) 1 P ops Q j (fun a' w' => G w' ∧ wpAnyG ro P md ops Q G n (listed.setIfInBounds j true) a' w') a w :=
          wpOpIn_mono (fun a' w' k => ⟨k.1, iht n _ none _ _ (by simpa using hsz) (hD.set hr) (fun r e => by cases e) hB1 k.1 k.2⟩) h.1
        have hmany : ∀ k ∈ j :: r, wpOpIn (FF ro) 1 P ops Q k (fun a' w' => G w' ∧ wpAnyG ro P md ops Q G n (listed.setIfInBounds k true) a' w') a w := fun k hk => by
          rcases List.mem_cons.1 hk with rfl | hk
          · exact hone
          · rcases h1 with h1 | h1
            · rw [h1] at hk; cases hk
            · have : n' = n := by omega
              rw [← this]; exact h2 k hk
        cases rem with
        | none =>
          rw [show Option.getD none (Region.ready md ops listed) = Region.ready md ops listed from rfl] at hj
          exact ⟨fun e => (by rw [hj] at e; cases e), fun k hk => hmany k (by rw [← hj]; exact hk)⟩
        | some r' =>
          rw [show Option.getD (some r') (Region.ready md ops listed) = r' from rfl] at hj
          subst hj
          exact ⟨n, .inr rfl, hmany⟩
      · cases hB
  | no =>
    intro n listed rem a w hsz hD hrem hB hG h
    cases rem with
    | none => cases n <;> simp [seqTG] at hB
    | some r =>
      cases r with
      | nil => exact ⟨0, .inl rfl, fun i hi => by cases hi⟩
      | cons x r => cases n <;> simp [seqTG] at hB
  | seq t r _ _ => intro n listed rem a w hsz hD hrem hB hG h; exact h.elim
end
end Go.Proofs.Ytcgdopjmbadonaa
/-! An evaluation of Go's code over plain values: a drawn region whose loads are taken first: its tree; a function that has such regions. Over any program. -/
namespace Go.Proofs.Ytcgdopjmbadonaa
open Go.RowKit
/-! ### The state laid anew at a world -/
section
variable {P : Program} {N : Nat} {w0 : World} {m0 : Env} {pl : List Nat} {σ : AS} {ρ : Site → Loc} {m : Mem} {act : Act} {w : World}
theorem mem_def {w : World} {b : Nat} {D : Option (List Deferred)} (h : w.heap[b]? = some (.deferred D)) (o : Nat) : w.mem b o = none := by
  show World.cell? w ⟨b, o, none⟩ = none
  unfold World.cell?
  simp only [h]
theorem mem_at {w w' : World} {b : Nat} (h : w'.heap[b]? = w.heap[b]?) (o : Nat) : w'.mem b o = w.mem b o := by
  show World.cell? w' ⟨b, o, none⟩ = World.cell? w ⟨b, o, none⟩
  unfold World.cell?
  simp only [h]
/-- Without boxes: the same state, reckoned from here. -/
theorem Sat.rebase (h : Sat N w0 m0 pl σ ρ m act w) (hb : σ.bx = []) : ∃ ds : List Nat, Sat N w ⟨m, ρ⟩ ds σ ρ m act w ∧ (∀ w', Keep ds w w' → Le m w'.mem) ∧ ∀ D ∈ ds, w0.heap.size ≤ D ∨ D ∈ pl := by
  obtain ⟨ds, h1, h2, h3⟩ := h.nod
  have nob : ∀ s b, σ.b s = some b → False := fun s b k => by
    unfold AS.b at k; rw [hb] at k; simp [List.lookup] at k
  refine ⟨ds, ⟨⟨ds, h1, h2, fun D hD => ⟨.inr hD, (h3 D hD).2⟩⟩, h.sz, h.tm, h.bx, h.injk, h.mem, h.offk, fun s b k hk => (nob s b hk).elim, Keep.rfl' _ _, Le.refl _, fun b o v k => .inl k, fun i => rfl⟩, fun w' hk b o v hm => ?_, fun D hD => (h3 D hD).1⟩
  have hw := h.mem b o v hm
  have hlt : b < w.heap.size := by
    rcases Nat.lt_or_ge b w.heap.size with h' | h'
    · exact h'
    · have : w.mem b o = none := by
        show World.cell? w ⟨b, o, none⟩ = none
        unfold World.cell?
        simp only [Array.getElem?_eq_none h']
      rw [this] at hw; cases hw
  have hnd : b ∉ ds := fun hD => by
    rw [mem_def (h3 b hD).2 o] at hw; cases hw
  rw [mem_at (hk.block b hlt hnd) o]
  exact hw
/-- .. and back. -/
theorem Sat.unbase {ds : List Nat} {τ : AS} {ρ' : Site → Loc} {m' : Mem} {act' : Act} {w' : World} (h : Sat N w0 m0 pl σ ρ m act w) (hds : ∀ D ∈ ds, w0.heap.size ≤ D ∨ D ∈ pl) (k : Sat N w ⟨m, ρ⟩ ds τ ρ' m' act' w') : Sat N w0 m0 pl τ ρ' m' act' w' := by
  obtain ⟨es, h1, h2, h3⟩ := k.nod
  have hsz := h.keep.size
  refine ⟨⟨es, h1, h2, fun D hD => ⟨?_, (h3 D hD).2⟩⟩, k.sz, k.tm, k.bx, k.injk, k.mem, k.offk, fun s b i k1 k2 => ?_, ?_, h.base.trans k.base, fun b o v hv => ?_, fun i => (k.par i).trans (h.par i)⟩
  · rcases (h3 D hD).1 with h' | h'
    · exact .inl (Nat.le_trans hsz h')
    · exact hds D h'
  · rcases k.ownk s b i k1 k2 with h' | h'
    · exact .inl (Nat.le_trans hsz h')
    · exact hds i h'
  · refine ⟨k.keep.os.trans h.keep.os, k.keep.tape.trans h.keep.tape, k.keep.output.trans h.keep.output, Nat.le_trans hsz k.keep.size, fun i hi hn => ?_⟩
    refine (k.keep.block i (Nat.lt_of_lt_of_le hi hsz) fun hD => ?_).trans (h.keep.block i hi hn)
    rcases hds i hD with h' | h'
    · omega
    · exact hn h'
  · rcases k.fro b o v hv with h' | h' | h'
    · exact h.fro b o v h'
    · exact .inr (.inl (Nat.le_trans hsz h'))
    · exact .inr (hds b h')
end
/-! ### The tree -/
def hoistG (P : Program) (ops : Array Oper) (ld : Bool) (listed : Array Bool) : Option Nat :=
  (Region.ready .any ops listed).find? fun i => match ops[i]? with
    | some o => stillOf P o || (ld && (litOp P o.op).isLoad)
    | none => false
def stageG (P : Program) (ops : Array Oper) : Nat → Bool → Array Bool → List Nat → RT
  | 0, _, _, _ => .done
  | f + 1, ld, listed, S => if S.all (fun i => listed.getD i true) then .done else match hoistG P ops ld listed with
    | some i => .rd i (stageG P ops f ld (listed.setIfInBounds i true) S)
    | none => (Region.ready .any ops listed).foldr (fun i alt => .ef i (stageG P ops f false (listed.setIfInBounds i true) S) alt) .no
def findG (P : Program) (ops : Array Oper) : Nat → Bool → Array Bool → RT
  | 0, _, _ => .done
  | f + 1, ld, listed => match hoistG P ops ld listed with
    | some i => .rd i (findG P ops f ld (listed.setIfInBounds i true))
    | none => match Region.ready .any ops listed with
      | [] => .done
      | [i] => .ef i (findG P ops f false (listed.setIfInBounds i true)) .no
      | _ =>
        let S := barrier ops listed
        .seq (stageG P ops ops.size false listed S) (findG P ops f false (S.foldl (fun l i => l.setIfInBounds i true) listed))
def litTG (P : Program) (N : Nat) (ops : Array Oper) : Bool → RT → Option LT
  | _, .done => some .done
  | ld, .rd i t => match ops[i]?, litTG P N ops ld t with
    | some o, some t' => if (stillOf P o || (ld && (litOp P o.op).isLoad)) = true then (litO P N ops true o).map (.op · t') else none
    | _, _ => none
  | ld, .ef i t alt => match ops[i]?, litTG P N ops false t, litTG P N ops ld alt with
    | some o, some t', some r' => (litO P N ops true o).map (.alt · t' r')
    | _, _, _ => none
  | _, .no => some .no
  | ld, .seq t r => match litTG P N ops ld t, litTG P N ops false r with
    | some t', some r' => some (.seq t' r')
    | _, _ => none
def litRG (P : Program) (N : Nat) (ops : Array Oper) : Option LT :=
  let T := findG P ops (ops.size + 1) true (Array.replicate ops.size false)
  if (Region.noSelect ops && noDefer ops && seqTG .any ops (T.flat .done) ops.size (Array.replicate ops.size false) none) = true then litTG P N ops true T else none
section
variable {P : Program} {N : Nat} {w0 : World} {m0 : Env} {pl : List Nat} {σ : AS} {ρ : Site → Loc} {m : Mem} {act : Act} {w : World} {ops : Array Oper} {Q : Exit → Act → World → Prop} {ro : Option Nat}
theorem treeG_sound (hndf : noDefer ops = true) {m1 : Mem} : ∀ (T : RT) (ld : Bool) (T' : LT) (rest : RT) {J : AS → Prop} {σ : AS} {ρ : Site → Loc} {m : Mem} {act : Act} {w : World}, litTG P N ops ld T = some T' → opsT P T' J σ → Sat N w0 m0 pl σ ρ m act w →
    (ld = true → σ.bx = [] ∧ m = m1 ∧ ∀ w', Keep pl w0 w' → Le m1 w'.mem) →
    (∀ act' w', Aft N w0 m0 pl J act' w' → wpTG ro P ops Q (Keep pl w0) rest act' w') → wpTG ro P ops Q (Keep pl w0) (T.flat rest) act w
  | .done, ld, T', rest, J, σ, ρ, m, act, w, hl, h, hS, hld, hQ => by
    simp [litTG] at hl; subst hl
    exact hQ _ _ ⟨σ, ρ, m, h, hS⟩
  | .no, ld, T', rest, J, σ, ρ, m, act, w, hl, h, hS, hld, hQ => trivial
  | .seq t u, ld, T', rest, J, σ, ρ, m, act, w, hl, h, hS, hld, hQ => by
    simp only [litTG] at hl
    split at hl
    · rename_i t' r' h1 h2
      cases hl
      obtain ⟨J', h3, h4⟩ := h
      exact treeG_sound hndf t ld t' (u.flat rest) h1 h3 hS hld (fun act' w' ⟨τ, ρ', m', ⟨τ2, k0, k1⟩, k2⟩ => let ⟨ρ2, m2, k3⟩ := k0 _ _ _ _ _ _ _ _ k2; treeG_sound hndf (m1 := m1) u false r' rest h2 (h4 τ2 k1) k3 (fun e => by cases e) hQ)
    · cases hl
  | .rd i t, ld, T', rest, J, σ, ρ, m, act, w, hl, h, hS, hld, hQ => by
    simp only [litTG] at hl
    split at hl
    · rename_i o t' ho h2
      split at hl
      · rename_i hk1
        obtain ⟨lo, h1, rfl⟩ := Option.map_eq_some_iff.1 hl
        have hk : (litOp P o.op).still = true ∨ (litOp P o.op).isLoad = true ∧ ∀ w', Keep pl w0 w' → Stay σ ρ m w w' := by
          rw [Bool.or_eq_true, Bool.and_eq_true] at hk1
          rcases hk1 with hk1 | ⟨e, hk1⟩
          · exact .inl hk1
          · obtain ⟨e1, e2, e3⟩ := hld e
            refine .inr ⟨hk1, fun w' hw' => ⟨by rw [e2]; exact e3 w' hw', fun s b k => ?_⟩⟩
            unfold AS.b at k; rw [e1] at k; simp [List.lookup] at k
        obtain ⟨v, k1, _, ⟨τ, k2, k4, k3⟩⟩ := lo_yields (G := Keep pl w0) h1 h hS hk
        exact ⟨o, v, ho, k1, treeG_sound hndf t ld t' rest h2 k2 k3 (fun e => ⟨by rw [k4]; exact (hld e).1, (hld e).2⟩) hQ⟩
      · cases hl
    · cases hl
  | .ef i t alt, ld, T', rest, J, σ, ρ, m, act, w, hl, h, hS, hld, hQ => by
    simp only [litTG] at hl
    split at hl
    · rename_i o t' r' ho h2 h3
      obtain ⟨lo, h1, rfl⟩ := Option.map_eq_some_iff.1 hl
      obtain ⟨ha, hb⟩ := h
      refine ⟨?_, treeG_sound hndf alt ld r' rest h3 hb hS hld hQ⟩
      show wpOpIn (FF ro) 1 P ops Q i _ act w
      unfold wpOpIn
      simp only [ho]
      rcases lo_cases h1 ha hS with ⟨q1, q2⟩ | ⟨q1, q2⟩
      · rw [if_pos q1]
        exact Oper.wpIn_mono (fun act' w' ⟨⟨τ, ρ', m', k2, k3⟩, _⟩ => ⟨k3.keep, treeG_sound hndf (m1 := m1) t false t' rest h2 k2 k3 (fun e => by cases e) hQ⟩) (run_wp2 h1 q2 hS)
      · rw [if_neg (by rw [q1]; simp)]
        exact ⟨fun _ _ => trivial, hS.keep, treeG_sound hndf (m1 := m1) t false t' rest h2 q2 (hS.putO (litO_spec h1).2.2.2.1 und_rd) (fun e => by cases e) hQ⟩
    · cases hl
/-- A REGION, IN ALL ITS ORDERS; without boxes at its start. -/
theorem regG_wp {id : Nat} {K : AS → Prop} {T' : LT} (hm : P.follows .mixedOrders = true) (hl : litRG P N ops = some T') (hb : σ.bx = []) (h : opsT P T' K σ) (hS : Sat N w0 m0 pl σ ρ m act w) (hQ : ∀ act' w', Aft N w0 m0 pl K act' w' → Q .normal act' w')
    (hp : ∀ c (a : Act) (d : Tmp) (v : Value) w, Q (.panic c) (a.put (some d) v) w → Q (.panic c) a w) : (Code.region id ops true).wpIn (FF ro) 1 P Q act w := by
  unfold litRG at hl
  dsimp only at hl
  split at hl
  · rename_i hc
    simp only [Bool.and_eq_true] at hc
    obtain ⟨⟨c1, c2⟩, c3⟩ := hc
    have hS' := hS.ext (Ext.dr w)
    obtain ⟨ds, g1, g2, g3⟩ := hS'.rebase hb
    refine wpIn_region_any hm (wpAny_of_G (G := Keep ds w.drew) _ _ _ _ ?_)
    exact wpAnyG_of_tree c1 c2 hp _ _ _ none _ _ (by simp) (Down.start _) (fun r e => by cases e) c3 g1.keep
      (treeG_sound c2 (m1 := m) _ true T' .done hl h g1 (fun _ => ⟨hb, rfl, g2⟩) (fun act' w' ⟨τ, ρ', m', k1, k2⟩ => hQ act' w' ⟨τ, ρ', m', k1, hS'.unbase g3 k2⟩))
  · cases hl
end
end Go.Proofs.Ytcgdopjmbadonaa
/-! An evaluation of Go's code over plain values: a function with drawn regions whose loads are taken first. Over any program. -/
namespace Go.Proofs.Ytcgdopjmbadonaa
open Go.RowKit
/-- Code in pieces, one behind the other; true: a region whose loads are taken first. -/
def litP (P : Program) (N : Nat) : List Bool → Code → Option (List (LCode ⊕ LT))
  | [], c => (litC P N c).map fun l => [.inl l]
  | false :: r, .seq a b => match litC P N a, litP P N r b with
    | some x, some l => some (.inl x :: l)
    | _, _ => none
  | true :: r, .seq (.region _ ops true) b => match litRG P N ops, litP P N r b with
    | some t, some l => some (.inr t :: l)
    | _, _ => none
  | _, _ => none
def awpRg (P : Program) : List (LCode ⊕ LT) → (AEx → AS → Prop) → AS → Prop
  | [], Q, σ => Q .normal σ
  | .inl l :: r, Q, σ => awpS P l (thenA (hold (awpRg P r Q)) Q) σ
  | .inr t :: r, Q, σ => ∃ τ, Sub τ σ ∧ τ.bx = [] ∧ opsTS P t (hold (awpRg P r Q)) τ
structure LFnX where
  nt : Nat
  code : List (LCode ⊕ LT)
  res : List LRes
def litFX (P : Program) (f : FuncId) (fl : List Bool) : Option LFnX := match P.funcs[f]? with
  | some fn => if fn.name == "runtime.NumGoroutine" then none else match fn.body with
    | some c => match litP P fn.ntmps fl c, litRs P fn.results.toList with
      | some l, some r => some ⟨fn.ntmps, l, r⟩
      | _, _ => none
    | none => none
  | none => none
section
variable {P : Program} {N : Nat} {w0 : World} {m0 : Env} {pl : List Nat}
theorem awpRg_sound {ro : Option Nat} (hro : InRound ro w0 pl) (hm : P.follows .mixedOrders = true) : ∀ (fl : List Bool) (c : Code) (l : List (LCode ⊕ LT)) (Q : AEx → AS → Prop) {σ : AS} {ρ : Site → Loc} {m : Mem} {act : Act} {w : World}, litP P N fl c = some l → awpRg P l Q σ → Sat N w0 m0 pl σ ρ m act w → c.wpIn (FF ro) 1 P (Post N w0 m0 pl Q) act w := by
  intro fl
  induction fl with
  | nil =>
    intro c l Q σ ρ m act w hl h hS
    simp only [litP] at hl
    obtain ⟨x, h1, rfl⟩ := Option.map_eq_some_iff.1 hl
    refine wpIn_mono (awp_sound hro hm c x _ h1 (awpS_wp h) hS) fun e a' w' hq => ?_
    cases e with
    | normal => exact hq
    | ret => exact hq
    | exit id => exact hq
    | _ => exact hq
  | cons b r ih =>
    intro c l Q σ ρ m act w hl h hS
    cases b with
    | false =>
      cases c with
      | seq x y =>
        simp only [litP] at hl
        split at hl
        · rename_i x' l' h1 h2
          cases hl
          refine wpIn_seq (wpIn_mono (awp_sound hro hm x x' _ h1 (awpS_wp h) hS) fun e a' w' hq => ?_)
          cases e with
          | normal =>
            obtain ⟨τ, ρ', m', k1, k2⟩ := hq
            exact ih y l' Q h2 k1 k2
          | ret => exact hq
          | exit id => exact hq
          | _ => exact hq
        · cases hl
      | _ => simp [litP] at hl
    | true =>
      cases c with
      | seq x y =>
        cases x with
        | region id ops draw =>
          cases draw with
          | true =>
            simp only [litP] at hl
            split at hl
            · rename_i t l' h1 h2
              cases hl
              obtain ⟨τ, g1, g2, g3⟩ := h
              obtain ⟨ρ', m', hS'⟩ := g1 _ _ _ _ _ _ _ _ hS
              refine wpIn_seq (regG_wp hm h1 g2 (opsTS_wp g3) hS' (fun a' w' ⟨τ', ρ2, m2, k1, k2⟩ => ih y l' Q h2 k1 k2) (fun _ _ _ _ _ h => h))
            · cases hl
          | false => simp [litP] at hl
        | _ => simp [litP] at hl
      | _ => simp [litP] at hl
/-- A FUNCTION. -/
theorem calls_of_awpRg_gen {f : FuncId} {fl : List Bool} {F : LFnX} {as : List AV} {B : List (Site × Box)} {R : AV → List (Site × Box) → Prop} (hm : P.follows .mixedOrders = true) (hf : litFX P f fl = some F) (hn : as.length ≤ F.nt)
    {Fin : AS → Prop} (hfin : ∀ σ, Fin σ → retWp F.res R σ) (h : awpRg P F.code (finQ Fin) ⟨initT 0 as, B⟩) : CallsA P f as B R := by
  unfold litFX at hf
  split at hf
  · rename_i fn hfn
    split at hf
    · cases hf
    · rename_i hname
      split at hf
      · rename_i c hc
        split at hf
        · rename_i l rs hl hrs
          cases hf
          refine ⟨⟨fn, c, hfn, by simpa using hname, hc⟩, fun w m ρ vs hB hmw hvs hrd => ?_⟩
          refine (callsIn_wide (n := 1)).1 (callsIn_of_wp_marks (F := FF none) hfn hc trivial ?_ rfl)
          have hS : Sat fn.ntmps w ⟨m, ρ⟩ (lentB ρ w B) ⟨initT 0 as, B⟩ ρ m { tmps := vs ++ Array.replicate (fn.ntmps - vs.size) undef, defers := [] } w := by
            have hn' : as.length ≤ fn.ntmps := hn
            refine ⟨⟨[], rfl, by simp, fun D hD => by cases hD⟩, by simp; omega, fun t a k => ?_, hB.bx, hB.injk, hmw, hB.offk, fun s b i k r => .inr (mem_lentB k r), Keep.rfl' _ _, Le.refl _, fun b o v k => .inl k, fun i => rfl⟩
            obtain ⟨_, k1⟩ := initT_get as 0 t a k
            rw [Nat.sub_zero] at k1
            have hlt : t < vs.size := by rw [hvs]; exact (List.getElem?_eq_some_iff.1 k1).1
            exact ⟨vs[t], by rw [Array.getElem?_append, if_pos hlt, Array.getElem?_eq_getElem hlt], hrd t _ a (Array.getElem?_eq_getElem hlt) k1⟩
          refine wpIn_mono (awpRg_sound (ro := none) (fun l e => by cases e) hm fl c l _ hl h hS) (fun e act' w' hq => ?_)
          have fin : Aft fn.ntmps w ⟨m, ρ⟩ (lentB ρ w B) Fin act' w' → LeavesInM (FF none) 1 P fn act'.tmps (CPost w m ρ B R) act'.defers .returning w' := by
            rintro ⟨τ, ρ1, m1, hFin, hT⟩
            obtain ⟨ds, hd1, hd2, hd3⟩ := hT.nod
            have hT0 : Sat fn.ntmps w ⟨m, ρ⟩ (lentB ρ w B) τ ρ1 m1 { act' with defers := [] } w' := ⟨⟨[], rfl, by simp, fun D hD => by cases hD⟩, hT.sz, hT.tm, hT.bx, hT.injk, hT.mem, hT.offk, hT.ownk, hT.keep, hT.base, hT.fro, hT.par⟩
            obtain ⟨w2, hT2, hL⟩ := marks_away (P := P) (fn := fn) (R := CPost w m ρ B R) ds hd2 hd3 rfl hT0
            rw [hd1]
            refine hL ?_
            obtain ⟨fz, outs, la, q1, q2, q3, q4, q5⟩ := hfin τ hFin
            obtain ⟨m2, hF⟩ := hT2.frzL fz
            obtain ⟨vs', r1, r2, r3⟩ := resA_run fn.results.toList rs la hrs q1 hF
            obtain ⟨ρ', g1, g2, g3, g4⟩ := exp_out hF q3 q4
            have hrd2 := ofTup_rd r2 r3
            refine ⟨_, ?_, _, _, _, ρ', m2, rfl, q5, g2, hF.base, hF.mem, fun i => (g3 i).trans (hF.par i), fun s b i k r => ?_, hF.fro, hrd2.map g1 q2, hF.keep⟩
            · show (do let vs ← fn.results.mapM (resFn act'.tmps); pure (if h : vs.size = 1 then vs[0] else .tuple vs) : Sem Value).run P w2 = _
              rw [Sem.run_bind, Array.mapM_eq_mapM_toList, Sem.run_map, r1]
              rfl
            · obtain ⟨s0, b0, e1, e2⟩ := g4 s b i k r
              exact hF.ownk s0 b0 i e1 e2
          cases e with
          | normal => exact fin hq
          | ret => exact fin hq
          | exit id => obtain ⟨τ, ρ1, m1, q, _⟩ := hq; exact q.elim
          | goto l => exact hq.elim
          | panic ch => exact hq.elim
          | outgrown => exact hq.elim
        · cases hf
      · cases hf
  · cases hf
theorem calls_of_awpRg {f : FuncId} {fl : List Bool} {F : LFnX} {as : List AV} {B : List (Site × Box)} {R : AV → List (Site × Box) → Prop} (hm : P.follows .mixedOrders = true) (hf : litFX P f fl = some F) (hn : as.length ≤ F.nt)
    (h : awpRg P F.code (finQ (retF F.res R)) ⟨initT 0 as, B⟩) : CallsA P f as B R := calls_of_awpRg_gen hm hf hn (fun _ h => retF_wp h) h
end
end Go.Proofs.Ytcgdopjmbadonaa
