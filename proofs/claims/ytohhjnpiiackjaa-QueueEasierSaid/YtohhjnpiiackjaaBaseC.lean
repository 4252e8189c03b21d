/- An evaluation of Go's code over plain values: regions. Over any program. (Several texts in one.) -/
import Derived.Test.YtohhjnpiiackjaaBaseB
import Derived.Scope
import Derived.RangeFuncNested
import Derived.Sort.LoopGhostIn
set_option linter.unusedVariables false
set_option linter.unusedSimpArgs false
/-! An evaluation of Go's code over plain values: regions. Over any program. -/
namespace Go.Proofs.Ytohhjnpiiackjaa
open Go.RowKit
/-- An operation in its place: its slot; the slot and the value of its guard. -/
structure LO where
  dst : Option Nat
  g : Option (Nat × Bool)
  op : LOp
  lt : Bool
  deriving Inhabited
def AS.putO (d : Option Nat) (a : AV) (σ : AS) : AS := match d with
  | some d => σ.put d a
  | none => σ
def runWp (P : Program) (o : LO) (K : AV → AS → Prop) (σ : AS) : Prop := match o.op with
  | .call f args => callWp P f args (o.dst.getD 0) K σ ∨ (o.lt = true ∧ (callLwp P f args K σ ∨ callYwp P f args K σ))
  | l => opWp l (o.dst.getD 0) K σ
/-- The value of an operation that is passed by. -/
def und : AV := .pv (.tup [])
def loWp (P : Program) (o : LO) (K : AS → Prop) (σ : AS) : Prop := match o.g with
  | none => runWp P o (fun a τ => K (τ.putO o.dst a)) σ
  | some (t, want) => match σ.t t with
    | some (.pv (.bool b)) => if b = want then runWp P o (fun a τ => K (τ.putO o.dst a)) σ else K (σ.putO o.dst und)
    | some (.pv (.tup [])) => K (σ.putO o.dst und)
    | _ => False
/-- Behind an operation. -/
def Aft (N : Nat) (w0 : World) (m0 : Env w0) (pl : List Nat) (K : AS → Prop) (act : Act) (w : World) : Prop := ∃ τ ρ m, K τ ∧ Sat N w0 m0 pl τ ρ m act w
/-- What is known may be told in other words. -/
def Clo (K : AS → Prop) (σ : AS) : Prop := ∀ (N : Nat) (w0 : World) (m0 : Env w0) (pl : List Nat) (ρ : Site → Loc) (m : Mem) (act : Act) (w : World), Sat N w0 m0 pl σ ρ m act w → Aft N w0 m0 pl K act w
theorem Clo.of {K : AS → Prop} {σ : AS} (h : K σ) : Clo K σ := fun _ _ _ _ ρ m _ _ hS => ⟨σ, ρ, m, h, hS⟩
theorem Clo.mono {K K' : AS → Prop} {σ : AS} (h : Clo K σ) (hk : ∀ τ, K τ → K' τ) : Clo K' σ := fun N w0 m0 pl ρ m act w hS => let ⟨τ, ρ', m', k1, k2⟩ := h N w0 m0 pl ρ m act w hS; ⟨τ, ρ', m', hk τ k1, k2⟩
theorem Clo.go {K : AS → Prop} {σ : AS} {N : Nat} {w0 : World} {m0 : Env w0} {pl : List Nat} {ρ : Site → Loc} {m : Mem} {act : Act} {w : World} (h : Clo K σ) (hS : Sat N w0 m0 pl σ ρ m act w) : Aft N w0 m0 pl K act w := h N w0 m0 pl ρ m act w hS
def opsWp (P : Program) : List LO → (AS → Prop) → AS → Prop
  | [], K, σ => K σ
  | o :: r, K, σ => loWp P o (Clo (opsWp P r K)) σ
/-- An append onto a slice literal without elements, of this region. -/
def fresh0 (ops : Array Oper) (t : Nat) : Bool := ops.any fun o => (o.dst == some t) && (match o.op with
  | .buildSlice _ 0 _ => true
  | _ => false)
def fixO (ops : Array Oper) (l : LOp) : LOp := match l with
  | .app e n b (.t k) y => if fresh0 ops k = true then .app0 e n b (.t k) y else .app e n b (.t k) y
  | .app e n b (.c x) y => match x with
    | .emp nl => .app0 e n b (.c (.emp nl)) y
    | x => .app e n b (.c x) y
  | l => l
def LOp.isApp0 : LOp → Bool
  | .app0 _ _ _ _ _ => true
  | _ => false
theorem fixO_spec {ops : Array Oper} {l : LOp} : (fixO ops l = l ∧ (∀ e n b x y, l = .app e n b x y → True)) ∨ ∃ e n b x y, l = .app e n b x y ∧ fixO ops l = .app0 e n b x y := by
  cases l with
  | app e n b x y =>
    cases x with
    | t k =>
      unfold fixO
      dsimp only
      split
      · exact .inr ⟨e, n, b, .t k, y, rfl, rfl⟩
      · exact .inl ⟨rfl, fun _ _ _ _ _ _ => trivial⟩
    | c x =>
      cases x with
      | emp nl => exact .inr ⟨e, n, b, _, y, rfl, rfl⟩
      | _ => exact .inl ⟨rfl, fun _ _ _ _ _ _ => trivial⟩
  | _ => exact .inl ⟨rfl, fun _ _ _ _ _ _ => trivial⟩
def dstOk (N : Nat) : Option Nat → Bool
  | some d => decide (d < N)
  | none => true
def litO (P : Program) (N : Nat) (ops : Array Oper) (lt : Bool) (o : Oper) : Option LO :=
  if dstOk N o.dst = true then
    match o.guard with
    | none => some ⟨o.dst, none, fixO ops (litOp P o.op), lt⟩
    | some (j, want) => match (ops[j]?).bind (·.dst) with
      | some t => some ⟨o.dst, some (t, want), fixO ops (litOp P o.op), lt⟩
      | none => none
  else none
def litOs (P : Program) (N : Nat) (ops : Array Oper) : List (Bool × Oper) → Option (List LO)
  | [] => some []
  | (lt, o) :: r => match litO P N ops lt o, litOs P N ops r with
    | some a, some l => some (a :: l)
    | _, _ => none
def LOp.isCall : LOp → Bool
  | .call _ _ => true
  | _ => false
def stillOf (P : Program) (o : Oper) : Bool := (litOp P o.op).still
/-- A function that takes a pointer: a call of it may lend, in whatever order. -/
def hardF (P : Program) (f : FuncId) : Bool := match P.funcs[f]? with
  | some fn => fn.params.toList.any fun t => match P.underlying t with
    | some (.pointer _) => true
    | _ => false
  | none => false
/-- (A function value that is called with a struct made in the region: it may write what it knows.) -/
def hardO (P : Program) (ops : Array Oper) : LOp → Bool
  | .call (.c (.fn f _ _)) _ => hardF P f
  | .call (.t _) [.t k] => ops.any fun o => o.dst == some k && (match litOp P o.op with
    | .build _ _ => true
    | _ => false)
  | _ => false
/-- j waits for each load of the region (or is a call that may lend). -/
def ltOf (P : Program) (ops : Array Oper) (j : Nat) : Bool := (match ops[j]? with
  | some o => hardO P ops (litOp P o.op)
  | none => false) || (List.range ops.size).all fun i => match ops[i]? with
  | some o => !(litOp P o.op).isLoad || waits .any ops ops.size j i
  | none => true
def softOf (P : Program) (ops : Array Oper) (j : Nat) (o : Oper) : Bool := o.op.mild || ((litOp P o.op).isCall && !ltOf P ops j) || (fixO ops (litOp P o.op)).isApp0 || (litOp P o.op).still
/-- The order in which a drawn region is walked. -/
def findOrd (P : Program) (ops : Array Oper) : Nat → Array Bool → List (Nat × Bool)
  | 0, _ => []
  | f + 1, listed =>
    match (Region.ready .any ops listed).find? fun i => match ops[i]? with
        | some o => stillOf P o
        | none => false with
    | some i => (i, false) :: findOrd P ops f (listed.setIfInBounds i true)
    | none => match (Region.ready .any ops listed).find? fun i => match ops[i]? with
        | some o => (litOp P o.op).isLoad && (List.range ops.size).all fun j => listed.getD j true || j == i || softO (softOf P ops) ops j || waits .any ops ops.size j i
        | none => false with
      | some i => (i, false) :: findOrd P ops f (listed.setIfInBounds i true)
      | none => match Region.ready .any ops listed with
        | i :: _ => (i, true) :: findOrd P ops f (listed.setIfInBounds i true)
        | [] => []
/-- What comes out of turn only reads. -/
def ordOk (P : Program) (ops : Array Oper) : List (Nat × Bool) → Bool
  | [] => true
  | (i, false) :: r => (match ops[i]? with
      | some o => stillOf P o || (litOp P o.op).isLoad
      | none => false) && ordOk P ops r
  | (i, true) :: r => (match ops[i]? with
      | some _ => true
      | none => false) && ordOk P ops r
def litR (P : Program) (N : Nat) (ops : Array Oper) (draw : Bool) : Option (List LO) :=
  if draw = true then
    let l := findOrd P ops ops.size (Array.replicate ops.size false)
    if Region.noSelect ops && noDefer ops && decide (l.length = ops.size) && seqL .any ops (softOf P ops) (stillOf P) l (Array.replicate ops.size false) && ordOk P ops l = true then
      litOs P N ops (l.map fun p => (ltOf P ops p.1, ops.getD p.1 default))
    else none
  else litOs P N ops (ops.toList.map fun o => (true, o))
section
variable {P : Program} {N : Nat} {w0 : World} {m0 : Env w0} {pl : List Nat} {σ : AS} {ρ : Site → Loc} {m : Mem} {act : Act} {w : World} {o : Oper} {lo : LO} {K : AS → Prop} {ops : Array Oper} {Q : Exit → Act → World → Prop} {ro : Option Nat}
theorem litO_spec {lt : Bool} (h : litO P N ops lt o = some lo) : lo.lt = lt ∧ lo.dst = o.dst ∧ lo.op = fixO ops (litOp P o.op) ∧ (∀ d, o.dst = some d → d < N) ∧ ((o.guard = none ∧ lo.g = none) ∨ ∃ j want t, o.guard = some (j, want) ∧ lo.g = some (t, want) ∧ (ops[j]?).bind (·.dst) = some t) := by
  unfold litO at h
  split at h
  · rename_i hd
    have hd' : ∀ d, o.dst = some d → d < N := fun d e => by rw [e] at hd; simpa [dstOk] using hd
    split at h
    · rename_i hg; cases h; exact ⟨rfl, rfl, rfl, hd', .inl ⟨hg, rfl⟩⟩
    · rename_i j want hg
      split at h
      · rename_i t ht; cases h; exact ⟨rfl, rfl, rfl, hd', .inr ⟨j, want, t, hg, rfl, ht⟩⟩
      · cases h
  · cases h
theorem Sat.putO (h : Sat N w0 m0 pl σ ρ m act w) {d : Option Nat} (hd : ∀ k, d = some k → k < N) {v : Value} {a : AV} (hv : RdA ρ m v a) : Sat N w0 m0 pl (σ.putO d a) ρ m (act.put d v) w := by
  cases d with
  | none => exact h
  | some d => exact h.put (hd d rfl) hv
theorem und_rd {ρ : Site → Loc} {m : Mem} : RdA ρ m undef und := .pv _ _ (.tup _ _ rfl (fun j d c e1 e2 => by simp at e2))
/-- Is the operation carried out? -/
theorem lo_cases {lt : Bool} (hl : litO P N ops lt o = some lo) (h : loWp P lo K σ) (hS : Sat N w0 m0 pl σ ρ m act w) :
    (Region.wanted o (yielded ops act.tmps) = true ∧ runWp P lo (fun a τ => K (τ.putO o.dst a)) σ) ∨ (Region.wanted o (yielded ops act.tmps) = false ∧ K (σ.putO o.dst und)) := by
  obtain ⟨e0, e1, e2, e3, e4⟩ := litO_spec hl
  unfold loWp at h
  rcases e4 with ⟨hg, hlg⟩ | ⟨j, want, t, hg, hlg, ht⟩
  · rw [hlg] at h
    refine .inl ⟨by simp [Region.wanted, hg], ?_⟩
    rw [← e1]; exact h
  · rw [hlg] at h
    simp only at h
    split at h
    · rename_i b hb
      obtain ⟨v, k1, k2⟩ := hS.tm t _ hb
      have hv := k2.bool_inv
      subst hv
      have hy : yielded ops act.tmps j = some b := by unfold yielded; rw [ht]; simp [k1]
      have hw : Region.wanted o (yielded ops act.tmps) = decide (b = want) := by
        simp only [Region.wanted, hg, hy]
        cases b <;> cases want <;> rfl
      split at h
      · rename_i hbw
        exact .inl ⟨by rw [hw]; simpa using hbw, by rw [← e1]; exact h⟩
      · rename_i hbw
        exact .inr ⟨by rw [hw]; simpa using hbw, by rw [← e1]; exact h⟩
    · rename_i hb
      obtain ⟨v, k1, k2⟩ := hS.tm t _ hb
      obtain ⟨us, hv, hl, _⟩ := k2.ptup_inv
      subst hv
      have hy : yielded ops act.tmps j = none := by unfold yielded; rw [ht]; simp [k1]
      exact .inr ⟨by simp only [Region.wanted, hg, hy]; rfl, by rw [← e1]; exact h⟩
    · exact h.elim
theorem run_wp {lt : Bool} (hl : litO P N ops lt o = some lo) {K' : AV → AS → Prop} (h : runWp P lo K' σ) (hS : Sat N w0 m0 pl σ ρ m act w) :
    o.wpIn (FF ro) 1 P act w (fun act' w' => ∃ v a τ ρ' m', act' = act.put o.dst v ∧ K' a τ ∧ Sat N w0 m0 pl τ ρ' m' act w' ∧ RdA ρ' m' v a ∧ (o.op.mild = true ∨ ((litOp P o.op).isCall = true ∧ lt = false) ∨ (fixO ops (litOp P o.op)).isApp0 = true → Ext w w')) Q := by
  obtain ⟨e0, e1, e2, e3, e4⟩ := litO_spec hl
  unfold runWp at h
  rw [e2, e1] at h
  have hdf : ∀ c, o.op ≠ .defer c := fun c e => by
    rw [e] at h
    exact h.elim
  rcases fixO_spec (ops := ops) (l := litOp P o.op) with ⟨hfx, _⟩ | ⟨e, n, b, x, y, hap, hfx⟩
  · rw [hfx] at h ⊢
    split at h
    · rename_i f args hc
      have hmild : o.op.mild = false := by
        obtain ⟨c, fo, ho, _⟩ := litOp_call hc
        rw [ho]; rfl
      have hn0 : (litOp P o.op).isApp0 = false := by rw [hc]; rfl
      rcases h with h | ⟨hlt, h⟩
      · exact Oper.wpIn_mono (fun act' w' ⟨v, a, τ, ρ', m', k1, k2, k3, k4, k5⟩ => ⟨v, a, τ, ρ', m', k1, k2, k3, k4, fun _ => k5⟩) (call_wp hc h hS)
      · refine Oper.wpIn_mono (fun act' w' ⟨v, a, τ, ρ', m', k1, k2, k3, k4⟩ => ⟨v, a, τ, ρ', m', k1, k2, k3, k4, fun h => ?_⟩) (h.elim (fun h => callL_wp hc h hS) (fun h => callY_wp hc h hS))
        rcases h with h | ⟨_, h⟩ | h
        · rw [hmild] at h; cases h
        · rw [e0] at hlt; rw [hlt] at h; cases h
        · rw [hc] at hn0 h; rw [hn0] at h; cases h
    · rename_i hc
      have hni : (litOp P o.op).isCall = false := by
        cases hx : litOp P o.op <;> first | rfl | (exact absurd hx (hc _ _))
      have hn0 : (litOp P o.op).isApp0 = false := by
        cases hx : litOp P o.op <;> first | rfl | (exfalso; replace hx := litOp_app0 hx (fun _ e => by cases e); clear h hS hl e2 hc hni hfx; cases hop : o.op <;> rw [hop] at hx <;> (try rename_i op t x; try cases op) <;> (try rename_i fn fs cs; try cases fn) <;> simp only [litOp0, nilK] at hx <;> repeat' (first | (cases hx; done) | split at hx))
      obtain ⟨v, w', a, τ, ρ', m', k1, k2, k3, k4, k5⟩ := op_sound (fun f l e => hc f l e) h hS
      have hext : o.op.mild = true ∨ ((litOp P o.op).isCall = true ∧ lt = false) ∨ (litOp P o.op).isApp0 = true → Ext w w' := fun h => by
        rcases h with h | ⟨h, _⟩ | h
        · exact k5 h
        · rw [hni] at h; cases h
        · rw [hn0] at h; cases h
      unfold Oper.wpIn
      refine ⟨fun _ _ => trivial, ?_⟩
      rw [Oper.semAt_eq _ _ _ hdf]
      rcases k1 with k1 | ⟨k1, rfl⟩
      · rw [k1, Oper.uponIn_value]
        exact ⟨v, a, τ, ρ', m', rfl, k2, k3, k4, hext⟩
      · rw [k1, Oper.uponIn_skip]
        exact ⟨undef, a, τ, ρ', m', rfl, k2, k3, k4, hext⟩
  · rw [hfx] at h ⊢
    have hE : (∃ nl, σ.o x = .pv (.emp nl)) ∧ opWp (litOp P o.op) (o.dst.getD 0) K' σ := by
      rw [hap]
      simp only [opWp] at h ⊢
      split at h
      · split at h
        · rename_i nl ex
          exact ⟨⟨nl, ex⟩, by rw [ex]; exact h⟩
        · exact h.elim
      · exact h.elim
    obtain ⟨v, w', a, τ, ρ', m', k1, k2, k3, k4, k5⟩ := op_app0 hap hE.2 hS
    unfold Oper.wpIn
    refine ⟨fun _ _ => trivial, ?_⟩
    rw [Oper.semAt_eq _ _ _ hdf]
    rcases k1 with k1 | ⟨k1, rfl⟩
    · rw [k1, Oper.uponIn_value]
      exact ⟨v, a, τ, ρ', m', rfl, k2, k3, k4, fun _ => k5 hE.1⟩
    · rw [k1, Oper.uponIn_skip]
      exact ⟨undef, a, τ, ρ', m', rfl, k2, k3, k4, fun _ => k5 hE.1⟩
theorem run_wp2 {lt : Bool} (hl : litO P N ops lt o = some lo) (h : runWp P lo (fun a τ => K (τ.putO o.dst a)) σ) (hS : Sat N w0 m0 pl σ ρ m act w) :
    o.wpIn (FF ro) 1 P act w (fun act' w' => Aft N w0 m0 pl K act' w' ∧ (o.op.mild = true ∨ ((litOp P o.op).isCall = true ∧ lt = false) ∨ (fixO ops (litOp P o.op)).isApp0 = true → Ext w w')) Q := by
  refine Oper.wpIn_mono (fun act' w' ⟨v, a, τ, ρ', m', k1, k2, k3, k4, k5⟩ => ?_) (run_wp hl h hS)
  subst k1
  exact ⟨⟨_, ρ', m', k2, k3.putO (litO_spec hl).2.2.2.1 k4⟩, k5⟩
theorem lo_wpList {rest : List Oper} {lt : Bool} (hl : litO P N ops lt o = some lo) (h : loWp P lo K σ) (hS : Sat N w0 m0 pl σ ρ m act w) (hr : ∀ act' w', Aft N w0 m0 pl K act' w' → wpListIn (FF ro) 1 P ops Q rest act' w') : wpListIn (FF ro) 1 P ops Q (o :: rest) act w := by
  unfold wpListIn
  rcases lo_cases hl h hS with ⟨h1, h2⟩ | ⟨h1, h2⟩
  · rw [if_pos h1]
    exact Oper.wpIn_mono (fun act' w' k => hr act' w' k.1) (run_wp2 hl h2 hS)
  · rw [if_neg (by rw [h1]; simp)]
    exact ⟨fun _ _ => trivial, hr _ _ ⟨_, ρ, m, h2, hS.putO (litO_spec hl).2.2.2.1 und_rd⟩⟩
theorem ops_wpList : ∀ (l : List Oper) (los : List LO) {σ : AS} {ρ : Site → Loc} {m : Mem} {act : Act} {w : World}, litOs P N ops (l.map fun o => (true, o)) = some los → opsWp P los K σ → Sat N w0 m0 pl σ ρ m act w → (∀ act' w', Aft N w0 m0 pl K act' w' → Q .normal act' w') → wpListIn (FF ro) 1 P ops Q l act w
  | [], los, σ, ρ, m, act, w, hl, h, hS, hQ => by
    simp [litOs] at hl; subst hl
    exact hQ _ _ ⟨σ, ρ, m, h, hS⟩
  | o :: r, los, σ, ρ, m, act, w, hl, h, hS, hQ => by
    rw [List.map_cons] at hl
    unfold litOs at hl
    split at hl
    · rename_i a l h1 h2
      cases hl
      exact lo_wpList h1 h hS (fun act' w' ⟨τ, ρ', m', k1, k2⟩ => let ⟨_, _, _, q1, q2⟩ := k1.go k2; ops_wpList r l h2 q1 q2 hQ)
    · cases hl
/-- What reads only, carried out in whatever such world. -/
theorem lo_yields {G : World → Prop} {lt : Bool} (hl : litO P N ops lt o = some lo) (h : loWp P lo K σ) (hS : Sat N w0 m0 pl σ ρ m act w) (hk : (litOp P o.op).still = true ∨ (litOp P o.op).isLoad = true ∧ ∀ w', G w' → Stay σ ρ m w w') :
    ∃ v, YieldsIf P ops G o v act ∧ Aft N w0 m0 pl K (act.put o.dst v) w ∧ ∃ τ, K τ ∧ τ.bx = σ.bx ∧ Sat N w0 m0 pl τ ρ m (act.put o.dst v) w := by
  obtain ⟨e0, e1, e2, e3, e4⟩ := litO_spec hl
  have putbx : ∀ a, (σ.putO o.dst a).bx = σ.bx := fun a => by cases o.dst <;> rfl
  rcases lo_cases hl h hS with ⟨h1, h2⟩ | ⟨h1, h2⟩
  · unfold runWp at h2
    have hfx : fixO ops (litOp P o.op) = litOp P o.op := by
      rcases fixO_spec (ops := ops) (l := litOp P o.op) with ⟨hfx, _⟩ | ⟨e, n, b, x, y, hap, _⟩
      · exact hfx
      · rw [hap] at hk
        rcases hk with hk | ⟨hk, _⟩ <;> cases hk
    rw [e2, e1, hfx] at h2
    have hop : opWp (litOp P o.op) (o.dst.getD 0) (fun a τ => τ = σ ∧ K (τ.putO o.dst a)) σ ∨ True := .inr trivial
    split at h2
    · rename_i f args hc
      rw [hc] at hk
      rcases hk with hk | ⟨hk, _⟩ <;> cases hk
    · have hP : ∃ G' : World → Prop, (∀ w', G w' → G' w') ∧ ResP G' P σ ρ m o act w (fun a τ => K (τ.putO o.dst a)) := by
        rcases hk with hk | ⟨hk, hG⟩
        · exact ⟨G, fun _ h => h, op_still hk h2 hS⟩
        · refine ⟨Stay σ ρ m w, hG, op_load hk h2 hS⟩
      obtain ⟨G', g1, v, a, g2, g3, g4⟩ := hP
      exact ⟨v, .inl ⟨h1, fun w' hw' => g2 w' (g1 w' hw')⟩, ⟨_, ρ, m, g4, hS.putO e3 g3⟩, _, g4, putbx a, hS.putO e3 g3⟩
  · exact ⟨undef, .inr ⟨h1, rfl⟩, ⟨_, ρ, m, h2, hS.putO e3 und_rd⟩, _, h2, putbx _, hS.putO e3 und_rd⟩
theorem Stay.congr {τ : AS} {w w' : World} (hb : τ.bx = σ.bx) (h : Stay σ ρ m w w') : Stay τ ρ m w w' := ⟨h.1, fun s b k => h.2 s b (by unfold AS.b at *; rw [← hb]; exact k)⟩
theorem Stay.trans_ext {w w' w'' : World} (hS : Sat N w0 m0 pl σ ρ m act w) (h : Stay σ ρ m w w') (k : Ext w' w'') : Stay σ ρ m w w'' :=
  ⟨h.1.trans k.le, fun s b hs hr => by
    have h1 := h.2 s b hs hr
    have hlt := hS.lt hs hr
    refine (k.block _ ?_).trans h1
    rcases Nat.lt_or_ge (ρ s).b w'.heap.size with h2 | h2
    · exact h2
    · rw [Array.getElem?_eq_none h2, Array.getElem?_eq_getElem hlt] at h1; cases h1⟩
theorem seq_sound (hndf : noDefer ops = true) : ∀ (l : List (Nat × Bool)) (los : List LO) {σ : AS} {ρ : Site → Loc} {m : Mem} {act : Act} {w : World}, ordOk P ops l = true → litOs P N ops (l.map fun p => (ltOf P ops p.1, ops.getD p.1 default)) = some los →
    opsWp P los K σ → Sat N w0 m0 pl σ ρ m act w → (∀ act' w', Aft N w0 m0 pl K act' w' → Q .normal act' w') → wpSeqL ro P ops Q (softOf P ops) (stillOf P) l act w
  | [], los, σ, ρ, m, act, w, hk, hl, h, hS, hQ => by
    simp [litOs] at hl; subst hl
    exact hQ _ _ ⟨σ, ρ, m, h, hS⟩
  | (i, b) :: r, los, σ, ρ, m, act, w, hk, hl, h, hS, hQ => by
    simp only [List.map_cons] at hl
    unfold litOs at hl
    split at hl
    · rename_i a l h1 h2
      cases hl
      cases b with
      | false =>
        simp only [ordOk, Bool.and_eq_true] at hk
        cases ho : ops[i]? with
        | none => rw [ho] at hk; simp at hk
        | some o =>
          rw [ho] at hk
          have hg : ops.getD i default = o := by simp [Array.getD_eq_getD_getElem?, ho]
          rw [hg] at h1
          have hk1 := hk.1
          simp only [Bool.or_eq_true] at hk1
          cases hst : stillOf P o with
          | true =>
            obtain ⟨v, k1, ⟨τ, ρ', m', k2, k3⟩, _⟩ := lo_yields (G := fun _ => True) h1 h hS (.inl hst)
            exact ⟨o, v, fun _ => True, fun _ _ _ _ => trivial, fun _ _ => trivial, trivial, ho, k1, let ⟨_, _, _, q1, q2⟩ := k2.go k3; seq_sound hndf r l hk.2 h2 q1 q2 hQ⟩
          | false =>
            have hld : (litOp P o.op).isLoad = true := by
              rcases hk1 with hk1 | hk1
              · rw [hst] at hk1; cases hk1
              · exact hk1
            obtain ⟨v, k1, ⟨τ, ρ', m', k2, k3⟩, _⟩ := lo_yields (G := Stay σ ρ m w) h1 h hS (.inr ⟨hld, fun _ h => h⟩)
            exact ⟨o, v, Stay σ ρ m w, fun _ _ hs hx => Stay.trans_ext hS hs hx, (fun e => by rw [hst] at e; cases e), .refl hS, ho, k1, let ⟨_, _, _, q1, q2⟩ := k2.go k3; seq_sound hndf r l hk.2 h2 q1 q2 hQ⟩
      | true =>
        simp only [ordOk, Bool.and_eq_true] at hk
        cases ho : ops[i]? with
        | none => rw [ho] at hk; simp at hk
        | some o =>
          have hg : ops.getD i default = o := by simp [Array.getD_eq_getD_getElem?, ho]
          rw [hg] at h1
          show wpOpIn (FF ro) 1 P ops Q i _ act w
          unfold wpOpIn
          simp only [ho]
          rcases lo_cases h1 h hS with ⟨q1, q2⟩ | ⟨q1, q2⟩
          · rw [if_pos q1]
            cases hst : stillOf P o with
            | true =>
              obtain ⟨v, k1, ⟨τ, ρ', m', k2, k3⟩, _⟩ := lo_yields (G := fun _ => True) h1 h hS (.inl hst)
              rcases k1 with ⟨_, k1⟩ | ⟨k1, _⟩
              · unfold Oper.wpIn
                refine ⟨fun _ _ => trivial, ?_⟩
                rw [Oper.semAt_eq _ _ _ (noDefer_spec hndf ho), k1 w trivial, Oper.uponIn_value]
                exact ⟨fun _ => Ext.rfl' _, let ⟨_, _, _, q1, q2⟩ := k2.go k3; seq_sound hndf r l hk.2 h2 q1 q2 hQ⟩
              · rw [k1] at q1; cases q1
            | false =>
              have hsoft : softO (softOf P ops) ops i = true → o.op.mild = true ∨ ((litOp P o.op).isCall = true ∧ ltOf P ops i = false) ∨ (fixO ops (litOp P o.op)).isApp0 = true := fun hsf => by
                unfold softO at hsf
                rw [ho] at hsf
                unfold softOf at hsf
                unfold stillOf at hst
                simp only [hst, Bool.or_false, Bool.or_eq_true] at hsf
                rcases hsf with (h' | h') | h'
                · exact .inl h'
                · simp only [Bool.and_eq_true, Bool.not_eq_true'] at h'
                  exact .inr (.inl h')
                · exact .inr (.inr h')
              exact Oper.wpIn_mono (fun act' w' ⟨⟨τ, ρ', m', k2, k3⟩, k4⟩ => ⟨fun hsf => k4 (hsoft hsf), let ⟨_, _, _, q1, q2⟩ := k2.go k3; seq_sound hndf r l hk.2 h2 q1 q2 hQ⟩) (run_wp2 h1 q2 hS)
          · rw [if_neg (by rw [q1]; simp)]
            exact ⟨fun _ _ => trivial, fun _ => Ext.rfl' _, let ⟨_, _, _, k1, k2⟩ := q2.go (hS.putO (litO_spec h1).2.2.2.1 und_rd); seq_sound hndf r l hk.2 h2 k1 k2 hQ⟩
    · cases hl
/-- A REGION. -/
theorem region_wp {id : Nat} {draw : Bool} {los : List LO} (hm : P.follows .mixedOrders = true) (hl : litR P N ops draw = some los) (h : opsWp P los K σ) (hS : Sat N w0 m0 pl σ ρ m act w) (hQ : ∀ act' w', Aft N w0 m0 pl K act' w' → Q .normal act' w')
    (hp : ∀ c (a : Act) (d : Tmp) (v : Value) w, Q (.panic c) (a.put (some d) v) w → Q (.panic c) a w) : (Code.region id ops draw).wpIn (FF ro) 1 P Q act w := by
  unfold litR at hl
  split at hl
  · rename_i hd
    subst hd
    dsimp only at hl
    split at hl
    · rename_i hc
      simp only [Bool.and_eq_true, decide_eq_true_eq] at hc
      obtain ⟨⟨⟨⟨c1, c1'⟩, c2⟩, c3⟩, c4⟩ := hc
      have hS' : Sat N w0 m0 pl σ ρ m act w.drew := hS.ext (Ext.dr w)
      exact wp_region_seqL _ _ _ hm hp c1 c1' c2 c3 (seq_sound c1' _ los c4 hl h hS' hQ)
    · cases hl
  · rename_i hd
    have : draw = false := by simpa using hd
    subst this
    exact wpIn_region_list (ops_wpList _ los hl h hS hQ)
end
end Go.Proofs.Ytohhjnpiiackjaa
/-! An evaluation of Go's code over plain values: regions in more than one order. Over any program. -/
namespace Go.Proofs.Ytohhjnpiiackjaa
open Go.RowKit
/-- Orders as a tree: 'rd': what only reads; 'ef i t alt': i comes up, then t, or one of 'alt'; 'seq': all that is in the first part is ahead of all that is in the second. -/
inductive RT where
  | done
  | rd (i : Nat) (t : RT)
  | ef (i : Nat) (t alt : RT)
  | no
  | seq (t r : RT)
  deriving Inhabited
def RT.flat : RT → RT → RT
  | .done, r => r
  | .rd i t, r => .rd i (t.flat r)
  | .ef i t alt, r => .ef i (t.flat r) (alt.flat r)
  | .no, _ => .no
  | .seq t u, r => t.flat (u.flat r)
def wpT (ro : Option Nat) (P : Program) (ops : Array Oper) (Q : Exit → Act → World → Prop) (soft : Nat → Oper → Bool) (still : Oper → Bool) : RT → Act → World → Prop
  | .done, a, w => Q .normal a w
  | .rd i t, a, w => ∃ o v, ∃ S' : World → Prop, (∀ w w', S' w → Ext w w' → S' w') ∧ (still o = true → ∀ w, S' w) ∧ S' w ∧ ops[i]? = some o ∧ YieldsIf P ops S' o v a ∧ wpT ro P ops Q soft still t (a.put o.dst v) w
  | .ef i t alt, a, w => wpOpIn (FF ro) 1 P ops Q i (fun a' w' => (softO soft ops i = true → Ext w w') ∧ wpT ro P ops Q soft still t a' w') a w ∧ wpT ro P ops Q soft still alt a w
  | .no, _, _ => True
  | .seq _ _, _, _ => False
def seqT (md : Region.Mode) (ops : Array Oper) (soft : Nat → Oper → Bool) (still : Oper → Bool) : RT → Nat → Array Bool → Option (List Nat) → Bool
  | .done, _, listed, none => (Region.ready md ops listed).isEmpty
  | .rd i t, n + 1, listed, none => (Region.ready md ops listed).contains i && Region.free md ops listed i &&
      ((match ops[i]? with | some o => still o | none => false) || (List.range ops.size).all fun j => listed.getD j true || j == i || softO soft ops j || waits md ops ops.size j i) && seqT md ops soft still t n (listed.setIfInBounds i true) none
  | .ef i t alt, n + 1, listed, rem => match rem.getD (Region.ready md ops listed) with
    | j :: r => j == i && seqT md ops soft still t n (listed.setIfInBounds i true) none && seqT md ops soft still alt (n + 1) listed (some r)
    | [] => false
  | .no, _, _, some [] => true
  | _, _, _, _ => false
section
variable {P : Program} {ops : Array Oper} {Q : Exit → Act → World → Prop} {md : Region.Mode} {ro : Option Nat} {soft : Nat → Oper → Bool} {still : Oper → Bool}
theorem wpAnyL_of_tree (hs : Region.noSelect ops = true) (hdf : noDefer ops = true) (hQ : ∀ c (a : Act) (d : Tmp) (v : Value) w, Q (.panic c) (a.put (some d) v) w → Q (.panic c) a w) : ∀ (T : RT) (n : Nat) (listed : Array Bool) (rem : Option (List Nat)) (a : Act) (w : World), listed.size = ops.size → Down md ops listed →
    (∀ r, rem = some r → ∀ i ∈ r, i ∈ Region.ready md ops listed) → seqT md ops soft still T n listed rem = true → wpT ro P ops Q soft still T a w →
    match rem with
    | none => wpAnyL ro P md ops Q soft n listed a w
    | some r => ∃ n', (r = [] ∨ n = n' + 1) ∧ ∀ i ∈ r, wpOpIn (FF ro) 1 P ops Q i (fun a' w' => (softO soft ops i = true → Ext w w') ∧ wpAnyL ro P md ops Q soft n' (listed.setIfInBounds i true) a' w') a w := by
  intro T
  induction T with
  | done =>
    intro n listed rem a w hsz hD hrem hB h
    cases rem with
    | some r => simp [seqT] at hB
    | none =>
      have hr : Region.ready md ops listed = [] := by simpa [seqT] using hB
      cases n with
      | zero => exact ⟨hr, h⟩
      | succ n => exact ⟨fun _ => h, fun i hi => by rw [hr] at hi; cases hi⟩
  | rd i t ih =>
    intro n listed rem a w hsz hD hrem hB h
    cases rem with
    | some r => cases n <;> simp [seqT] at hB
    | none =>
      cases n with
      | zero => simp [seqT] at hB
      | succ n =>
        simp only [seqT, Bool.and_eq_true] at hB
        obtain ⟨o, v, S', hx, hst, hSw, ho, hy, h'⟩ := h
        have hr : i ∈ Region.ready md ops listed := by simpa using hB.1.1.1
        have hB2 := hB.1.2
        rw [ho] at hB2
        simp only [Bool.or_eq_true] at hB2
        exact wpAnyL_first hx ho (Region.noSelect_spec hs) hdf (fun c a w k => by
          cases hd : o.dst with
          | none => rw [hd] at k; exact k
          | some d => rw [hd] at k; exact hQ c a d v w k) n listed a w hD (by
          rcases hB2 with h1 | h1
          · exact .inl (hst h1)
          · refine .inr (fun j hj hji hsj => ?_)
            have hlt : j < ops.size := by
              rcases Nat.lt_or_ge j listed.size with h2 | h2
              · omega
              · simp [Array.getElem?_eq_none h2] at hj
            have := List.all_eq_true.1 h1 j (List.mem_range.2 hlt)
            simp only [Bool.or_eq_true, beq_iff_eq] at this
            rcases this with ((h3 | h3) | h3) | h3
            · rw [hj] at h3; cases h3
            · exact absurd h3 hji
            · rw [hsj] at h3; cases h3
            · exact h3) (Region.free_spec ho hB.1.1.2) hr hy hSw (ih n _ none _ _ (by simpa using hsz) (hD.set hr) (fun r e => by cases e) hB.2 h')
  | ef i t alt iht iha =>
    intro n listed rem a w hsz hD hrem hB h
    cases n with
    | zero => cases rem <;> simp [seqT] at hB
    | succ n =>
      simp only [seqT] at hB
      split at hB
      · rename_i j r hj
        simp only [Bool.and_eq_true, beq_iff_eq] at hB
        obtain ⟨⟨rfl, hB1⟩, hB2⟩ := hB
        have hall : ∀ k ∈ j :: r, k ∈ Region.ready md ops listed := by
          cases rem with
          | none => rw [show Option.getD none (Region.ready md ops listed) = Region.ready md ops listed from rfl] at hj; rw [hj]; exact fun k hk => hk
          | some r' => rw [show Option.getD (some r') (Region.ready md ops listed) = r' from rfl] at hj; rw [← hj]; exact hrem r' rfl
        have hr : j ∈ Region.ready md ops listed := hall j (by simp)
        obtain ⟨n', h1, h2⟩ := iha (n + 1) listed (some r) a w hsz hD (fun r' e k hk => by cases e; exact hall k (by simp [hk])) hB2 h.2
        have hone : wpOpIn (FF ro) 1 P ops Q j (fun a' w' => (softO soft ops j = true → Ext w w') ∧ wpAnyL ro P md ops Q soft n (listed.setIfInBounds j true) a' w') a w :=
          wpOpIn_mono (fun a' w' k => ⟨k.1, iht n _ none _ _ (by simpa using hsz) (hD.set hr) (fun r e => by cases e) hB1 k.2⟩) h.1
        have hmany : ∀ k ∈ j :: r, wpOpIn (FF ro) 1 P ops Q k (fun a' w' => (softO soft ops k = true → Ext w w') ∧ wpAnyL ro P md ops Q soft n (listed.setIfInBounds k true) a' w') a w := fun k hk => by
          rcases List.mem_cons.1 hk with rfl | hk
          · exact hone
          · rcases h1 with h1 | h1
            · rw [h1] at hk; cases hk
            · have : n' = n := by omega
              rw [← this]; exact h2 k hk
        cases rem with
        | none =>
          rw [show Option.getD none (Region.ready md ops listed) = Region.ready md ops listed from rfl] at hj
          exact ⟨fun e => (by rw [hj] at e; cases e), fun k hk => hmany k (by rw [← hj]; exact hk)⟩
        | some r' =>
          rw [show Option.getD (some r') (Region.ready md ops listed) = r' from rfl] at hj
          subst hj
          exact ⟨n, .inr rfl, hmany⟩
      · cases hB
  | no =>
    intro n listed rem a w hsz hD hrem hB h
    cases rem with
    | none => cases n <;> simp [seqT] at hB
    | some r =>
      cases r with
      | nil => exact ⟨0, .inl rfl, fun i hi => by cases hi⟩
      | cons x r => cases n <;> simp [seqT] at hB
  | seq t r _ _ => intro n listed rem a w hsz hD hrem hB h; exact h.elim
/-! ### The tree of the evaluation -/
inductive LT where
  | done
  | op (o : LO) (t : LT)
  | alt (o : LO) (t r : LT)
  | no
  | seq (t r : LT)
  deriving Inhabited
/-- Less is known. -/
def SubS (τ σ : AS) : Prop := (∀ t a, τ.t t = some a → σ.t t = some a) ∧ ∀ s b, τ.b s = some b → σ.b s = some b
/-- What σ says may be said as τ says it. -/
def Sub (τ σ : AS) : Prop := ∀ (N : Nat) (w0 : World) (m0 : Env w0) (pl : List Nat) (ρ : Site → Loc) (m : Mem) (act : Act) (w : World), Sat N w0 m0 pl σ ρ m act w → ∃ ρ' m', Sat N w0 m0 pl τ ρ' m' act w
theorem SubS.sub {τ σ : AS} (h : SubS τ σ) : Sub τ σ := fun _ _ _ _ ρ m _ _ hS => ⟨ρ, m, hS.weak (fun t a k => .inl (h.1 t a k)) h.2⟩
theorem Sub.refl' (σ : AS) : Sub σ σ := fun _ _ _ _ ρ m _ _ hS => ⟨ρ, m, hS⟩
theorem Sub.trans' {a b c : AS} (h : Sub a b) (k : Sub b c) : Sub a c := fun N w0 m0 pl ρ m act w hS => let ⟨ρ', m', h1⟩ := k N w0 m0 pl ρ m act w hS; h N w0 m0 pl ρ' m' act w h1
def opsT (P : Program) : LT → (AS → Prop) → AS → Prop
  | .done, K, σ => K σ
  | .op o t, K, σ => loWp P o (opsT P t K) σ
  | .alt o t r, K, σ => loWp P o (opsT P t K) σ ∧ opsT P r K σ
  | .no, _, _ => True
  | .seq t r, K, σ => ∃ J : AS → Prop, opsT P t (fun τ' => ∃ τ, Sub τ τ' ∧ J τ) σ ∧ ∀ τ, J τ → opsT P r K τ
def litT (P : Program) (N : Nat) (ops : Array Oper) : RT → Option LT
  | .done => some .done
  | .rd i t => match ops[i]?, litT P N ops t with
    | some o, some t' => if (stillOf P o || (litOp P o.op).isLoad) = true then (litO P N ops (ltOf P ops i) o).map (.op · t') else none
    | _, _ => none
  | .ef i t alt => match ops[i]?, litT P N ops t, litT P N ops alt with
    | some o, some t', some r' => (litO P N ops (ltOf P ops i) o).map (.alt · t' r')
    | _, _, _ => none
  | .no => some .no
  | .seq t r => match litT P N ops t, litT P N ops r with
    | some t', some r' => some (.seq t' r')
    | _, _ => none
/-- What may be taken first. -/
def hoist (P : Program) (ops : Array Oper) (listed : Array Bool) : Option Nat :=
  match (Region.ready .any ops listed).find? fun i => match ops[i]? with
      | some o => stillOf P o
      | none => false with
  | some i => some i
  | none => (Region.ready .any ops listed).find? fun i => match ops[i]? with
      | some o => (litOp P o.op).isLoad && (List.range ops.size).all fun j => listed.getD j true || j == i || softO (softOf P ops) ops j || waits .any ops ops.size j i
      | none => false
def stageT (P : Program) (ops : Array Oper) : Nat → Array Bool → List Nat → RT
  | 0, _, _ => .done
  | f + 1, listed, S => if S.all (fun i => listed.getD i true) then .done else match hoist P ops listed with
    | some i => .rd i (stageT P ops f (listed.setIfInBounds i true) S)
    | none => (Region.ready .any ops listed).foldr (fun i alt => .ef i (stageT P ops f (listed.setIfInBounds i true) S) alt) .no
/-- What is ahead of an operation that all the others are ahead of, or behind. -/
def barrier (ops : Array Oper) (listed : Array Bool) : List Nat :=
  let un := (List.range ops.size).filter fun i => !listed.getD i true
  match un.find? fun b => un.any (fun i => waits .any ops ops.size b i) && un.all fun i => i == b || waits .any ops ops.size b i || waits .any ops ops.size i b with
  | some b => un.filter fun i => waits .any ops ops.size b i
  | none => un
def findT (P : Program) (ops : Array Oper) : Nat → Array Bool → RT
  | 0, _ => .done
  | f + 1, listed => match hoist P ops listed with
    | some i => .rd i (findT P ops f (listed.setIfInBounds i true))
    | none => match Region.ready .any ops listed with
      | [] => .done
      | [i] => .ef i (findT P ops f (listed.setIfInBounds i true)) .no
      | _ =>
        let S := barrier ops listed
        .seq (stageT P ops ops.size listed S) (findT P ops f (S.foldl (fun l i => l.setIfInBounds i true) listed))
def litRT (P : Program) (N : Nat) (ops : Array Oper) : Option LT :=
  let T := findT P ops (ops.size + 1) (Array.replicate ops.size false)
  if (Region.noSelect ops && noDefer ops && seqT .any ops (softOf P ops) (stillOf P) (T.flat .done) ops.size (Array.replicate ops.size false) none) = true then litT P N ops T else none
end
section
variable {P : Program} {N : Nat} {w0 : World} {m0 : Env w0} {pl : List Nat} {σ : AS} {ρ : Site → Loc} {m : Mem} {act : Act} {w : World} {ops : Array Oper} {Q : Exit → Act → World → Prop} {ro : Option Nat}
theorem tree_sound (hndf : noDefer ops = true) : ∀ (T : RT) (T' : LT) (rest : RT) {J : AS → Prop} {σ : AS} {ρ : Site → Loc} {m : Mem} {act : Act} {w : World}, litT P N ops T = some T' → opsT P T' J σ → Sat N w0 m0 pl σ ρ m act w →
    (∀ act' w', Aft N w0 m0 pl J act' w' → wpT ro P ops Q (softOf P ops) (stillOf P) rest act' w') → wpT ro P ops Q (softOf P ops) (stillOf P) (T.flat rest) act w
  | .done, T', rest, J, σ, ρ, m, act, w, hl, h, hS, hQ => by
    simp [litT] at hl; subst hl
    exact hQ _ _ ⟨σ, ρ, m, h, hS⟩
  | .no, T', rest, J, σ, ρ, m, act, w, hl, h, hS, hQ => trivial
  | .seq t u, T', rest, J, σ, ρ, m, act, w, hl, h, hS, hQ => by
    simp only [litT] at hl
    split at hl
    · rename_i t' r' h1 h2
      cases hl
      obtain ⟨J', h3, h4⟩ := h
      exact tree_sound hndf t t' (u.flat rest) h1 h3 hS (fun act' w' ⟨τ, ρ', m', ⟨τ2, k0, k1⟩, k2⟩ => let ⟨ρ2, m2, k3⟩ := k0 _ _ _ _ _ _ _ _ k2; tree_sound hndf u r' rest h2 (h4 τ2 k1) k3 hQ)
    · cases hl
  | .rd i t, T', rest, J, σ, ρ, m, act, w, hl, h, hS, hQ => by
    simp only [litT] at hl
    split at hl
    · rename_i o t' ho h2
      split at hl
      · rename_i hk1
        obtain ⟨lo, h1, rfl⟩ := Option.map_eq_some_iff.1 hl
        simp only [Bool.or_eq_true] at hk1
        cases hst : stillOf P o with
        | true =>
          obtain ⟨v, k1, ⟨τ, ρ', m', k2, k3⟩, _⟩ := lo_yields (G := fun _ => True) h1 h hS (.inl hst)
          exact ⟨o, v, fun _ => True, fun _ _ _ _ => trivial, fun _ _ => trivial, trivial, ho, k1, tree_sound hndf t t' rest h2 k2 k3 hQ⟩
        | false =>
          have hld : (litOp P o.op).isLoad = true := by
            rcases hk1 with hk1 | hk1
            · rw [hst] at hk1; cases hk1
            · exact hk1
          obtain ⟨v, k1, ⟨τ, ρ', m', k2, k3⟩, _⟩ := lo_yields (G := Stay σ ρ m w) h1 h hS (.inr ⟨hld, fun _ h => h⟩)
          exact ⟨o, v, Stay σ ρ m w, fun _ _ hs hx => Stay.trans_ext hS hs hx, (fun e => by rw [hst] at e; cases e), .refl hS, ho, k1, tree_sound hndf t t' rest h2 k2 k3 hQ⟩
      · cases hl
    · cases hl
  | .ef i t alt, T', rest, J, σ, ρ, m, act, w, hl, h, hS, hQ => by
    simp only [litT] at hl
    split at hl
    · rename_i o t' r' ho h2 h3
      obtain ⟨lo, h1, rfl⟩ := Option.map_eq_some_iff.1 hl
      obtain ⟨ha, hb⟩ := h
      refine ⟨?_, tree_sound hndf alt r' rest h3 hb hS hQ⟩
      show wpOpIn (FF ro) 1 P ops Q i _ act w
      unfold wpOpIn
      simp only [ho]
      rcases lo_cases h1 ha hS with ⟨q1, q2⟩ | ⟨q1, q2⟩
      · rw [if_pos q1]
        cases hst : stillOf P o with
        | true =>
          obtain ⟨v, k1, ⟨τ, ρ', m', k2, k3⟩, _⟩ := lo_yields (G := fun _ => True) h1 ha hS (.inl hst)
          rcases k1 with ⟨_, k1⟩ | ⟨k1, _⟩
          · unfold Oper.wpIn
            refine ⟨fun _ _ => trivial, ?_⟩
            rw [Oper.semAt_eq _ _ _ (noDefer_spec hndf ho), k1 w trivial, Oper.uponIn_value]
            exact ⟨fun _ => Ext.rfl' _, tree_sound hndf t t' rest h2 k2 k3 hQ⟩
          · rw [k1] at q1; cases q1
        | false =>
          have hsoft : softO (softOf P ops) ops i = true → o.op.mild = true ∨ ((litOp P o.op).isCall = true ∧ ltOf P ops i = false) ∨ (fixO ops (litOp P o.op)).isApp0 = true := fun hsf => by
            unfold softO at hsf
            rw [ho] at hsf
            unfold softOf at hsf
            unfold stillOf at hst
            simp only [hst, Bool.or_false, Bool.or_eq_true] at hsf
            rcases hsf with (h' | h') | h'
            · exact .inl h'
            · simp only [Bool.and_eq_true, Bool.not_eq_true'] at h'
              exact .inr (.inl h')
            · exact .inr (.inr h')
          exact Oper.wpIn_mono (fun act' w' ⟨⟨τ, ρ', m', k2, k3⟩, k4⟩ => ⟨fun hsf => k4 (hsoft hsf), tree_sound hndf t t' rest h2 k2 k3 hQ⟩) (run_wp2 h1 q2 hS)
      · rw [if_neg (by rw [q1]; simp)]
        exact ⟨fun _ _ => trivial, fun _ => Ext.rfl' _, tree_sound hndf t t' rest h2 q2 (hS.putO (litO_spec h1).2.2.2.1 und_rd) hQ⟩
    · cases hl
/-- A REGION, IN ALL ITS ORDERS. -/
theorem regT_wp {id : Nat} {K : AS → Prop} {T' : LT} (hm : P.follows .mixedOrders = true) (hl : litRT P N ops = some T') (h : opsT P T' K σ) (hS : Sat N w0 m0 pl σ ρ m act w) (hQ : ∀ act' w', Aft N w0 m0 pl K act' w' → Q .normal act' w')
    (hp : ∀ c (a : Act) (d : Tmp) (v : Value) w, Q (.panic c) (a.put (some d) v) w → Q (.panic c) a w) : (Code.region id ops true).wpIn (FF ro) 1 P Q act w := by
  unfold litRT at hl
  dsimp only at hl
  split at hl
  · rename_i hc
    simp only [Bool.and_eq_true] at hc
    obtain ⟨⟨c1, c2⟩, c3⟩ := hc
    refine wpIn_region_any hm (wpAny_of_L (soft := softOf P ops) _ _ _ _ ?_)
    exact wpAnyL_of_tree (soft := softOf P ops) (still := stillOf P) c1 c2 hp _ _ _ none _ _ (by simp) (Down.start _) (fun r e => by cases e) c3 (tree_sound c2 _ T' .done hl h (hS.ext (Ext.dr w)) hQ)
  · cases hl
end
end Go.Proofs.Ytohhjnpiiackjaa
/-! An evaluation of Go's code over plain values: code, functions. Over any program. -/
namespace Go.Proofs.Ytohhjnpiiackjaa
open Go.RowKit
inductive LCode where
  | skip
  | region (ops : List LO)
  | seq (a b : LCode)
  | cond (c : Opd) (a b : LCode)
  | block (id : Nat) (c : LCode)
  | loop (c : LCode)
  | exit (id : Nat)
  | ret
  | regT (t : LT)
  | rng (nt : Nat) (g : Opd) (C : Code × Code) (la lb : LCode) (ps : List Nat)
  deriving Inhabited
def litC (P : Program) (N : Nat) : Code → Option LCode
  | .skip => some .skip
  | .region _ ops draw => match litR P N ops draw with
    | some l => some (.region l)
    | none => if draw = true then (litRT P N ops).map .regT else none
  | .seq a b => match litC P N a, litC P N b with
    | some x, some y => some (.seq x y)
    | _, _ => none
  | .cond c a b => match opd c, litC P N a, litC P N b with
    | some c, some x, some y => some (.cond c x y)
    | _, _, _ => none
  | .block id c => (litC P N c).map (.block id)
  | .loop c => (litC P N c).map .loop
  | .exit id => some (.exit id)
  | .ret => some .ret
  | .scope c => litC P N c
  | .label _ => some .skip
  | .rangeFunc g ps a b => match opd g, litC P N a, litC P N b with
    | some g, some la, some lb => some (.rng N g (a, b) la lb ps.toList)
    | _, _, _ => none
  | _ => none
inductive AEx where
  | normal
  | exit (id : Nat)
  | ret
  deriving DecidableEq
def thenA (K : AS → Prop) (Q : AEx → AS → Prop) : AEx → AS → Prop
  | .normal, σ => K σ
  | e, σ => Q e σ
def blockA (id : Nat) (Q : AEx → AS → Prop) : AEx → AS → Prop
  | .exit id', σ => if id' = id then Q .normal σ else Q (.exit id') σ
  | e, σ => Q e σ
/-- What a loop's record says of the way on. -/
def jumpQ (Q : AEx → AS → Prop) : Option Code → AS → Prop
  | none, σ => Q .normal σ
  | some .ret, σ => Q .ret σ
  | some (.exit id), σ => Q (.exit id) σ
  | _, _ => False
/-- A range over a function: the record is laid, and lent to the function. -/
def rngWp0 (P : Program) (nt : Nat) (g : Opd) (C : Code × Code) (ps : List Nat) (Q : AEx → AS → Prop) (σ : AS) : Prop :=
  ∃ (fz lent : List Site) (tm : List (Nat × AV)) (σ1 : AS) (gf : FuncId) (fs cs : List AV) (B : List (Site × Box)),
    (∀ t a, tm.lookup t = some a → ((frzsL fz σ).purge nt).t t = some a) ∧ σ1 = ((frzsL fz σ).purge nt).add (.loc nt 0) (.loop C ps nt tm none) ∧
    (σ1.o g = .fn gf fs cs ∨ ∃ fs' cs', σ1.o g = .pv (.fn gf fs' cs') ∧ fs = fs'.map .pv ∧ cs = cs'.map .pv) ∧ lent.Nodup ∧ lent.all (fun s => !s.isLoc (nt + 1)) = true ∧ lentBx σ1 lent 0 lent = some B ∧
    AV.allSL (fun x => lent.contains x) (fs ++ [.yld (.loc nt 0)] ++ cs) = true ∧
    CallsA P gf (AV.mapL (inG lent) (fs ++ [.yld (.loc nt 0)] ++ cs)) B (fun r B' => r.allS (outOk lent) = true ∧ (∀ p ∈ B', outOk lent p.1 = true ∧ p.2.allS (outOk lent) = true) ∧
      match (((dropL lent σ1).purge (nt + 1)).adds (renL lent (nt + 1) B')).b (.loc nt 0) with
      | some (.loop _ _ _ _ st) => jumpQ Q st ((((dropL lent σ1).purge (nt + 1)).adds (renL lent (nt + 1) B')).drop (.loc nt 0))
      | _ => False)
/-- .. of a state that says less. -/
def rngWp (P : Program) (nt : Nat) (g : Opd) (C : Code × Code) (ps : List Nat) (Q : AEx → AS → Prop) (σ : AS) : Prop := ∃ τ, Sub τ σ ∧ rngWp0 P nt g C ps Q τ
def awp (P : Program) : LCode → (AEx → AS → Prop) → AS → Prop
  | .skip, Q, σ => Q .normal σ
  | .region ops, Q, σ => opsWp P ops (Q .normal) σ
  | .regT t, Q, σ => opsT P t (Q .normal) σ
  | .seq a b, Q, σ => awp P a (thenA (awp P b Q) Q) σ
  | .cond c a b, Q, σ => match σ.o c with
    | .pv (.bool t) => if t = true then awp P a Q σ else awp P b Q σ
    | _ => False
  | .block id c, Q, σ => awp P c (blockA id Q) σ
  | .loop c, Q, σ => ∃ (I : Nat → AS → Prop) (n : Nat) (τ : AS), Sub τ σ ∧ I n τ ∧ ∀ n τ, I n τ → awp P c (thenA (fun τ' => ∃ k τ2, k < n ∧ Sub τ2 τ' ∧ I k τ2) Q) τ
  | .exit id, Q, σ => Q (.exit id) σ
  | .ret, Q, σ => Q .ret σ
  | .rng nt g C _ _ ps, Q, σ => rngWp P nt g C ps Q σ
section
variable {P : Program} {N : Nat} {w0 : World} {m0 : Env w0} {pl : List Nat} {σ : AS} {ρ : Site → Loc} {m : Mem} {act : Act} {w : World}
/-- What is asked of the model's ending. -/
def Post (N : Nat) (w0 : World) (m0 : Env w0) (pl : List Nat) (Q : AEx → AS → Prop) : Exit → Act → World → Prop
  | .normal, a, w => Aft N w0 m0 pl (Q .normal) a w
  | .exit id, a, w => Aft N w0 m0 pl (Q (.exit id)) a w
  | .ret, a, w => Aft N w0 m0 pl (Q .ret) a w
  | _, _, _ => False
theorem stepR_scope {b : Frame} {a : Act} {k : List Item} {cs : List Frame} {c : Code} : step P (lone (b.atR a (.code (.scope c) :: k)) cs w) = .next (lone (b.atR a (.code c :: .inScope c :: k)) cs w) :=
  step_lone_go (by simp [stepG, stepG.exec, Frame.atR])
theorem stepR_inScope {b : Frame} {a : Act} {k : List Item} {cs : List Frame} {c : Code} : step P (lone (b.atR a (.inScope c :: k)) cs w) = .next (lone (b.atR a k) cs w) :=
  step_lone_go (by simp [stepG, stepG.exec, Frame.atR])
theorem wpIn_scope_straight {F : Fence} {n : Nat} {a : Act} {Q : Exit → Act → World → Prop} {c : Code} (h : c.wpIn F n P (Exit.noGoto Q) a w) : (Code.scope c).wpIn F n P Q a w := by
  intro b k cs hro hb hr
  have h0 : (lone (b.atR a (.code (.scope c) :: k)) cs w).fenced P F := fenced_calm hb hr rfl
  obtain ⟨e, a₁, w₁, hq, harr⟩ := h b (.inScope c :: k) cs hro hb hr
  cases e with
  | normal => exact ⟨.normal, a₁, w₁, hq, .head h0 stepR_scope (StepsIn.trans harr (.one (fenced_calm hb hr rfl) stepR_inScope))⟩
  | exit id =>
    have hx : exitTo id (.inScope c :: k) = exitTo id k := by simp [exitTo]
    exact ⟨_, a₁, w₁, hq, fun k' hk => .head h0 stepR_scope (harr.1 k' (by rw [hx]; exact hk)),
      fun hr' hk => let ⟨k₁, h1, h2⟩ := harr.2 hr' (by rw [hx]; exact hk); ⟨k₁, h1, .head h0 stepR_scope h2⟩⟩
  | goto l => exact hq.elim
  | ret => exact ⟨_, a₁, w₁, hq, .of_steps (.one h0 stepR_scope) harr⟩
  | panic ch => exact ⟨_, a₁, w₁, hq, .of_steps (.one h0 stepR_scope) harr⟩
  | outgrown => exact ⟨_, a₁, w₁, hq, .of_steps (.one h0 stepR_scope) harr⟩
/-- No range over a function. -/
def noRF : Code → Bool
  | .seq a b => noRF a && noRF b
  | .cond _ a b => noRF a && noRF b
  | .block _ c => noRF c
  | .loop c => noRF c
  | .scope c => noRF c
  | .rangeFunc _ _ _ _ => false
  | _ => true
theorem noRF_seq {a b : Code} (h : noRF (.seq a b) = true) : noRF a = true ∧ noRF b = true := by simpa [noRF] using h
theorem noRF_cond {c : Operand} {a b : Code} (h : noRF (.cond c a b) = true) : noRF a = true ∧ noRF b = true := by simpa [noRF] using h
theorem noRF_rf {g : Operand} {ps : Array Tmp} {a b : Code} {t : Bool} (h : t = true → noRF (.rangeFunc g ps a b) = true) : t = false := by
  cases t with
  | false => rfl
  | true => have := h rfl; simp [noRF] at this
/-- A round's record stays. -/
def InRound (ro : Option Nat) (w0 : World) (pl : List Nat) : Prop := ∀ l, ro = some l → (∃ r, w0.heap[l]? = some (.loop r)) ∧ l ∉ pl
theorem putObj_keep (w : World) (l : Nat) (o : Obj) : Keep [l] w (w.putObj l o) := ⟨rfl, rfl, rfl, by simp, fun k hk hn => World.putObj_heap_other (by simpa using hn)⟩
set_option maxHeartbeats 1000000 in
theorem rng_sound {ro : Option Nat} (hro : InRound ro w0 pl) {g : Operand} {ps : Array Tmp} {a b : Code} {g' : Opd} (hg : opd g = some g') {Q : AEx → AS → Prop} (h : rngWp P N g' (a, b) ps.toList Q σ) (hS : Sat N w0 m0 pl σ ρ m act w) (hsf : m0.strict = false) :
    (Code.rangeFunc g ps a b).wpIn (FF ro) 1 P (Post N w0 m0 pl Q) act w := by
  obtain ⟨σ, hsub, fz, lent, tm, σ1, gf, fs, cs, B, htm, hσ1, hfn, hnd, hnl, hB, hall, hC⟩ := h
  obtain ⟨ρ, m, hS⟩ := hsub _ _ _ _ _ _ _ _ hS
  obtain ⟨m1, _, hF0⟩ := hS.frzsL fz
  have hF1 := hF0.purge N
  have hND := NoD.purge N (frzsL fz σ)
  refine wpIn_rangeFunc (fun fn _ => ?_)
  -- the record
  obtain ⟨l, mark, w1, ds, hent, hmk, hdn, hds, hx1, hl1, hbk, hnew⟩ : ∃ (l : Nat) (mark : List Deferred) (w1 : World) (ds : List Nat), (Instr.enterLoop fn act.tmps ps a b (FF ro).round).run P w = .ok (l, mark) w1 ∧ mark = ds.map markOf ∧ ds.Nodup ∧
      (∀ D ∈ ds, w.heap.size ≤ D ∧ w1.heap[D]? = some (.deferred (some []))) ∧ Ext w w1 ∧ w.heap.size ≤ l ∧ (∃ r : Loop, w1.heap[l]? = some (.loop r) ∧ r.state = .ready ∧ r.pending = none ∧ r.params = ps ∧ r.assign = a ∧ r.body = b ∧ r.tmps = act.tmps) ∧ True := by
    cases ro with
    | none =>
      refine ⟨_, _, _, [w.heap.size], run_enterLoop_outer _ _ _ _ _, rfl, by simp, fun D hD => ?_, (Ext.al w _).trans' (Ext.al _ _), by omega, ⟨{ state := .ready, pending := none, fn, tmps := act.tmps, params := ps, assign := a, body := b, defers := w.heap.size }, ?_, rfl, rfl, rfl, rfl, rfl, rfl⟩, trivial⟩
      · simp at hD
        subst hD
        refine ⟨Nat.le_refl _, ?_⟩
        exact (Below.heap_alloc _ _ _ (by simp)).trans (World.alloc_heap_new w _)
      · have := World.alloc_heap_new (w.alloc (.deferred (some []))) (.loop { state := .ready, pending := none, fn, tmps := act.tmps, params := ps, assign := a, body := b, defers := w.heap.size })
        rwa [World.size_alloc] at this
    | some l0 =>
      obtain ⟨⟨r0, hr0⟩, hl0⟩ := hro l0 rfl
      have hr1 : w.heap[l0]? = some (.loop r0) := (hS.keep.block l0 (Array.getElem?_eq_some_iff.1 hr0).1 hl0).trans hr0
      refine ⟨_, _, _, [], run_enterLoop_inner hr1 _ _ _ _ _, rfl, by simp, (fun D hD => by cases hD), Ext.al w _, Nat.le_refl _, ⟨{ state := .ready, pending := none, fn, tmps := act.tmps, params := ps, assign := a, body := b, defers := r0.defers }, World.alloc_heap_new w _, rfl, rfl, rfl, rfl, rfl, rfl⟩, trivial⟩
  obtain ⟨r, hr1, hr2, hr3, hr4, hr5, hr6, hr7⟩ := hbk
  let act1 : Act := { act with defers := mark ++ act.defers }
  have hF2 : Sat N w0 m0 pl ((frzsL fz σ).purge N) ρ m1 act1 w1 := by
    have k := hF1.ext hx1
    obtain ⟨ds0, ⟨d1, d2, g3, g1⟩, g0, g2'⟩ := hF1.nod
    have g2 : ∀ D ∈ ds0, (w0.heap.size ≤ D ∨ D ∈ pl) ∧ w1.heap[D]? = some (.deferred (some [])) := fun D hD => ⟨(g2' D hD).1, by rw [hx1.block _ (Array.getElem?_eq_some_iff.1 (g2' D hD).2).1]; exact (g2' D hD).2⟩
    exact ⟨⟨ds ++ ds0, ⟨ds ++ d1, d2, by rw [g3, List.append_assoc], by show mark ++ act.defers = _; rw [hmk, g1, List.map_append]; simp only [List.append_assoc]⟩, ⟨List.nodup_append.2 ⟨hdn, g0.1, fun a ha b hb e => by
      have h1 := (hds a ha).1
      have h2 := (Array.getElem?_eq_some_iff.1 (g2' b hb).2).1
      omega⟩, fun e => by rw [hsf] at e; cases e⟩, fun D hD => by
      rcases List.mem_append.1 hD with hD | hD
      · exact ⟨.inl (Nat.le_trans hS.keep.size (hds D hD).1), (hds D hD).2⟩
      · exact g2 D hD⟩, k.sz, k.tm, k.bx, k.injk, k.mem, k.offk, k.ownk, k.keep, k.base, k.fro, k.par⟩
  have hρ := upd_loc ρ N 0 ⟨l, 0, 0, true⟩
  have hF3 : Sat N w0 m0 pl σ1 (upd ρ (.loc N 0) ⟨l, 0, 0, true⟩) m1 act1 w1 := by
    rw [hσ1]
    refine hF2.add hND (l := ⟨l, 0, 0, true⟩) ⟨by rw [upd_self], r, by rw [upd_self]; exact hr1, hr2, hr3, by rw [hr4], hr5, hr6, by rw [hr7]; exact hF1.sz, fun t c k => ?_⟩ (fun _ s b k rr => ?_) (fun _ o => ?_) (fun _ => .inl (Nat.le_trans hS.keep.size hl1))
    · obtain ⟨v, k1, k2⟩ := hF1.tm t c (htm t c k)
      exact ⟨v, by rw [hr7]; exact k1, k2.mono (Le.refl _) hρ (hND.t t c (htm t c k))⟩
    · have := hF1.ltk k (((hF1.bx s b k).blk_same (fun r => hx1.block _ (hF1.lt k r))).1 rr)
      have e' : l < w.heap.size := this
      omega
    · exact hF1.mem_new hl1 o
  generalize hρ1 : upd ρ (.loc N 0) ⟨l, 0, 0, true⟩ = ρ1 at hF3
  have hlρ : ρ1 (.loc N 0) = ⟨l, 0, 0, true⟩ := by rw [← hρ1, upd_self]
  obtain ⟨ρc, hin, hBx, hout⟩ := lend hF3 hnd hnl hB
  have hfv : ∃ vf vc : Array Value, act.eval g = .func (.func gf) vf vc ∧ vf.size = fs.length ∧ vc.size = cs.length ∧ (∀ (j : Nat) (d : Value) (c : AV), vf[j]? = some d → fs[j]? = some c → RdA ρ1 m1 d c) ∧ (∀ (j : Nat) (d : Value) (c : AV), vc[j]? = some d → cs[j]? = some c → RdA ρ1 m1 d c) := by
    have h1 := hF3.opd hg
    have e0 : act1.eval g = act.eval g := by cases g <;> rfl
    rw [e0] at h1
    rcases hfn with hfn | ⟨fs', cs', hfn, rfl, rfl⟩
    · rw [hfn] at h1; exact fnA_inv h1
    · rw [hfn] at h1
      obtain ⟨vf, vc, e1, e2, e3, e4, e5⟩ := fn_inv h1.pv_inv
      refine ⟨vf, vc, e1, by simpa using e2, by simpa using e3, fun j d c k1 k2 => ?_, fun j d c k1 k2 => ?_⟩
      · rw [List.getElem?_map] at k2
        obtain ⟨x, k3, rfl⟩ := Option.map_eq_some_iff.1 k2
        exact .pv _ _ (e4 j d x k1 k3)
      · rw [List.getElem?_map] at k2
        obtain ⟨x, k3, rfl⟩ := Option.map_eq_some_iff.1 k2
        exact .pv _ _ (e5 j d x k1 k3)
  obtain ⟨vf, vc, hv, f1, f2, f3, f4⟩ := hfv
  obtain ⟨b1, b2⟩ := argsA_rd (ρ := ρ1) (m := m1) (va := #[Value.func (.yield l) #[] #[]]) (xs := [AV.yld (.loc N 0)]) f1 rfl f2 f3 (fun j u y hu hy => by
    cases j with
    | zero =>
      simp at hu hy
      subst hu hy
      have := RdA.yld (ρ := ρ1) (m := m1) (.loc N 0)
      rwa [hlρ] at this
    | succ j => simp at hu) f4
  obtain ⟨gfn, gcode, g1, g2, g3⟩ := hC.1
  have g2' : ¬ gfn.name = "runtime.NumGoroutine" := by simpa using g2
  refine ⟨l, mark, w1, { target := .fn (.func gf) vc, args := vf ++ #[Value.func (.yield l) #[] #[]] }, w1, gf, vf ++ #[Value.func (.yield l) #[] #[]] ++ vc, w1, hent, ?_, fun _ _ => trivial, ?_, FF.one, callsFF ?_⟩
  · simp [resolve, hv, Deferred.ofValue]
    rfl
  · simp [invoke, callFunc, g1, g2', g3]
  refine (hC.2 w1 m1 ρc _ hBx ⟨hF3.mem, hF3.glob, lentBx_nodup hB⟩ (by rw [mapL_len]; exact b1) (fun j u y hu hy => by
    rw [mapL_get] at hy
    obtain ⟨a, k1, rfl⟩ := Option.map_eq_some_iff.1 hy
    exact (b2 j u a hu k1).map hin (allSL_get hall k1))).mono ?_
  intro e w3 h
  obtain ⟨v, rr, B', ρ', m', rfl, hK, k1, k2, k3⟩ := hout (fun r B' => match (((dropL lent σ1).purge (N + 1)).adds (renL lent (N + 1) B')).b (.loc N 0) with
      | some (.loop _ _ _ _ st) => jumpQ Q st ((((dropL lent σ1).purge (N + 1)).adds (renL lent (N + 1) B')).drop (.loc N 0))
      | _ => False) e w3 h
  clear h hout
  replace k3 := k3 (.loc N 0) (by simp [Site.isLoc])
  generalize ((dropL lent σ1).purge (N + 1)).adds (renL lent (N + 1) B') = τ at hK k1
  split at hK
  · rename_i C' ps' nt' tm' st hbx
    obtain ⟨hr3, r3, u1, u2, u3, _⟩ := k1.bx _ _ hbx
    have hpar : ρ' (.loc N 0) = ρ1 (.loc N 0) := k3
    rw [hpar, hlρ] at u1
    have hnb : r3.state ≠ .busy := by rw [u2]; cases st <;> simp
    have hrun := run_endLoop (P := P) u1 hnb
    have hS4 : Sat N w0 m0 pl (τ.drop (.loc N 0)) ρ' m' act1 (w3.putObj l (.loop { r3 with state := .exhausted })) := (k1.drop _).write (k := l) (fun s b k r => by
      rw [AS.b_drop] at k
      split at k
      · cases k
      · rename_i hne
        refine hne (k1.injk _ _ _ _ l k hbx r (.inl ⟨hr3, ?_⟩))
        rw [hpar, hlρ]) (fun o => by
      have := k1.off _ _ hbx hr3 o
      rwa [hpar, hlρ] at this) (by
      have := k1.own _ _ hbx hr3
      rwa [hpar, hlρ] at this) (.inl (by rw [u1]; simp)) (putObj_keep _ _ _)
    refine ⟨st, _, by rw [← u3]; exact hrun, ?_⟩
    cases st with
    | none => exact ⟨_, _, _, hK, hS4⟩
    | some c =>
      cases c with
      | ret => exact wpIn_ret ⟨_, _, _, hK, hS4⟩
      | exit id => exact wpIn_exit ⟨_, _, _, hK, hS4⟩
      | _ => exact hK.elim
  · exact hK.elim
theorem awp_sound {ro : Option Nat} (hro : InRound ro w0 pl) (hm : P.follows .mixedOrders = true) : ∀ (c : Code) (l : LCode) (Q : AEx → AS → Prop) {σ : AS} {ρ : Site → Loc} {m : Mem} {act : Act} {w : World}, (m0.strict = true → noRF c = true) → litC P N c = some l → awp P l Q σ → Sat N w0 m0 pl σ ρ m act w → c.wpIn (FF ro) 1 P (Post N w0 m0 pl Q) act w := by
  intro c
  induction c with
  | skip =>
    intro l Q σ ρ m act w hst hl h hS
    simp [litC] at hl; subst hl
    exact wpIn_skip ⟨σ, ρ, m, h, hS⟩
  | region id ops draw =>
    intro l Q σ ρ m act w hst hl h hS
    simp only [litC] at hl
    split at hl
    · rename_i los k1
      cases hl
      exact region_wp hm k1 h hS (fun _ _ k => k) (fun _ _ _ _ _ h => h)
    · split at hl
      · rename_i hd
        subst hd
        simp only [Option.map_eq_some_iff] at hl
        obtain ⟨T', k1, rfl⟩ := hl
        exact regT_wp hm k1 h hS (fun _ _ k => k) (fun _ _ _ _ _ h => h)
      · cases hl
  | seq a b iha ihb =>
    intro l Q σ ρ m act w hst hl h hS
    simp only [litC] at hl
    split at hl
    · rename_i x y h1 h2
      cases hl
      refine wpIn_seq (wpIn_mono (iha x _ (fun e => (noRF_seq (hst e)).1) h1 h hS) (fun e act' w' hq => ?_))
      cases e with
      | normal =>
        obtain ⟨τ, ρ', m', k1, k2⟩ := hq
        exact ihb y Q (fun e => (noRF_seq (hst e)).2) h2 k1 k2
      | exit id => exact hq
      | ret => exact hq
      | goto l => exact hq.elim
      | panic ch => exact hq.elim
      | outgrown => exact hq.elim
    · cases hl
  | cond c a b iha ihb =>
    intro l Q σ ρ m act w hst hl h hS
    simp only [litC] at hl
    split at hl
    · rename_i c' x y h0 h1 h2
      cases hl
      unfold awp at h
      split at h
      · rename_i t ht
        have hc := hS.opd h0
        rw [ht] at hc
        refine wpIn_cond hc.bool_inv ?_
        cases t
        · exact ihb y Q (fun e => (noRF_cond (hst e)).2) h2 (by simpa using h) hS
        · exact iha x Q (fun e => (noRF_cond (hst e)).1) h1 (by simpa using h) hS
      · exact h.elim
    · cases hl
  | block id c ih =>
    intro l Q σ ρ m act w hst hl h hS
    simp only [litC, Option.map_eq_some_iff] at hl
    obtain ⟨x, k1, rfl⟩ := hl
    refine wpIn_block (wpIn_mono (ih x _ hst k1 h hS) (fun e act' w' hq => ?_))
    cases e with
    | exit id' =>
      obtain ⟨τ, ρ', m', q1, q2⟩ := hq
      by_cases he : id' = id
      · subst he
        simp only [blockA, if_true] at q1
        simp only [Exit.inBlock, if_true]
        exact ⟨τ, ρ', m', q1, q2⟩
      · simp only [blockA, he, if_false] at q1
        simp only [Exit.inBlock, he, if_false]
        exact ⟨τ, ρ', m', q1, q2⟩
    | normal => exact hq
    | ret => exact hq
    | goto l => exact hq.elim
    | panic ch => exact hq.elim
    | outgrown => exact hq.elim
  | loop c ih =>
    intro l Q σ ρ m act w hst hl h hS
    simp only [litC, Option.map_eq_some_iff] at hl
    obtain ⟨x, k1, rfl⟩ := hl
    obtain ⟨I, n, τ, hsub, hI, hround⟩ := h
    obtain ⟨ρ1, m1, hS1⟩ := hsub _ _ _ _ _ _ _ _ hS
    refine wpIn_loop_ghost (fun n act w => ∃ τ ρ m, I n τ ∧ Sat N w0 m0 pl τ ρ m act w) n ⟨τ, ρ1, m1, hI, hS1⟩ ?_
    intro n act w ⟨τ, ρ, m, hI, hS⟩
    refine wpIn_mono (ih x _ hst k1 (hround n τ hI) hS) (fun e act' w' hq => ?_)
    cases e with
    | normal =>
      obtain ⟨τ', ρ', m', ⟨k, τ2, q1, q2, q3⟩, q4⟩ := hq
      obtain ⟨ρ2, m2, q5⟩ := q2 _ _ _ _ _ _ _ _ q4
      exact ⟨k, q1, τ2, ρ2, m2, q3, q5⟩
    | exit id => exact hq
    | ret => exact hq
    | goto l => exact hq.elim
    | panic ch => exact hq.elim
    | outgrown => exact hq.elim
  | scope c ih =>
    intro l Q σ ρ m act w hst hl h hS
    refine wpIn_scope_straight (wpIn_mono (ih l Q hst hl h hS) (fun e act' w' hq => ?_))
    cases e <;> first | exact hq | exact hq.elim
  | label l0 =>
    intro l Q σ ρ m act w hst hl h hS
    simp [litC] at hl; subst hl
    exact wpIn_label ⟨σ, ρ, m, h, hS⟩
  | exit id =>
    intro l Q σ ρ m act w hst hl h hS
    simp [litC] at hl; subst hl
    exact wpIn_exit ⟨σ, ρ, m, h, hS⟩
  | ret =>
    intro l Q σ ρ m act w hst hl h hS
    simp [litC] at hl; subst hl
    exact wpIn_ret ⟨σ, ρ, m, h, hS⟩
  | rangeFunc g ps a b =>
    intro l Q σ ρ m act w hst hl h hS
    simp only [litC] at hl
    split at hl
    · rename_i g' la lb k1 k2 k3
      cases hl
      exact rng_sound hro k1 h hS (noRF_rf hst)
    · cases hl
  | _ => intro l Q σ ρ m act w hst hl h hS; simp [litC] at hl
end
end Go.Proofs.Ytohhjnpiiackjaa
/-! An evaluation of Go's code over plain values: functions. Over any program. -/
namespace Go.Proofs.Ytohhjnpiiackjaa
open Go.RowKit
inductive LRes where
  | tm (t : Nat)
  | cell (t : Nat) (row : Bool) (n : Nat)
  deriving Inhabited
def litRs (P : Program) : List ResultVar → Option (List LRes)
  | [] => some []
  | .tmp t :: r => (litRs P r).map (LRes.tm t :: ·)
  | .cell a t :: r => match sizeT P t, P.underlying t, litRs P r with
    | some n, some _, some l => some (.cell a (rowT P t) n :: l)
    | _, _, _ => none
structure LFn where
  nt : Nat
  code : LCode
  res : List LRes
  deriving Inhabited
def litF (P : Program) (f : FuncId) : Option LFn := match P.funcs[f]? with
  | some fn => if fn.name == "runtime.NumGoroutine" then none else match fn.body with
    | some c => match litC P fn.ntmps c, litRs P fn.results.toList with
      | some l, some r => some ⟨fn.ntmps, l, r⟩
      | _, _ => none
    | none => none
  | none => none
/-- The i-th result. -/
def AS.res1 (σ : AS) : LRes → Option AV
  | .tm t => σ.t t
  | .cell t row n => match σ.t t with
    | some (.ptr s off) => match σ.b s with
      | some (.cells as) => if row = true then (if off + n ≤ as.length then some (ofCells ((as.drop off).take n)) else none) else as[off]?
      | _ => none
    | _ => none
def AS.resA (σ : AS) : List LRes → Option (List AV)
  | [] => some []
  | x :: r => match σ.res1 x, σ.resA r with
    | some a, some l => some (a :: l)
    | _, _ => none
def ofTup : List AV → AV
  | [a] => a
  | l => match unpvs l with
    | some xs => .pv (.tup xs)
    | none => .tup l
def expG (outs : List Site) (s : Site) : Site := match s with
  | .par i => .par i
  | s => match outs.findIdx? (fun x => decide (x = s)) with
    | some j => .ret j
    | none => s
def noRet (s : Site) : Bool := !s.isRet
def AS.exp (σ : AS) (outs : List Site) : List Site → List (Site × Box)
  | [] => []
  | s :: r => match σ.b s with
    | some b => (expG outs s, b.ren (expG outs)) :: σ.exp outs r
    | none => σ.exp outs r
def frzL : List Site → AS → AS
  | [], σ => σ
  | s :: r, σ => frzL r (σ.frz s)
/-- What a function hands back: what is frozen ahead of it (fz), what of its own goes out (outs). -/
def retWp (rs : List LRes) (R : AV → List (Site × Box) → Prop) (σ : AS) : Prop :=
  ∃ (fz outs : List Site) (l : List AV), (frzL fz σ).resA rs = some l ∧ (ofTup l).allS noRet = true ∧ outs.all noRet = true ∧ (∀ s ∈ outs, ∀ b, (frzL fz σ).b s = some b → b.allS noRet = true) ∧ R ((ofTup l).map (expG outs)) ((frzL fz σ).exp outs outs)
def finQ (F : AS → Prop) : AEx → AS → Prop
  | .exit _, _ => False
  | _, σ => F σ
/-- .. plain values alone. -/
def retF (rs : List LRes) (R : AV → List (Site × Box) → Prop) (σ : AS) : Prop := match σ.resA rs with
  | some l => match ofTup l with
    | .pv x => R (.pv x) []
    | _ => False
  | none => False
theorem retF_wp {rs : List LRes} {R : AV → List (Site × Box) → Prop} {σ : AS} (h : retF rs R σ) : retWp rs R σ := by
  unfold retF at h
  split at h
  · rename_i l hl
    split at h
    · rename_i x hx
      exact ⟨[], [], l, hl, by rw [hx]; rfl, rfl, (fun s hs => by cases hs), by rw [hx]; exact h⟩
    · exact h.elim
  · exact h.elim
def initT : Nat → List AV → List (Nat × AV)
  | _, [] => []
  | k, a :: r => (k, a) :: initT (k + 1) r
def resFn (tmps : Array Value) : ResultVar → Sem Value := fun
  | .tmp t => pure (tmps.getD t undef)
  | .cell a t => do loadVar t (← asAddr (tmps.getD a undef))
section
variable {P : Program} {N : Nat} {w0 : World} {m0 : Env w0} {pl : List Nat} {σ : AS} {ρ : Site → Loc} {m : Mem} {act : Act} {w : World}
theorem Sat.frzL : ∀ (fz : List Site) {σ : AS} {m : Mem}, Sat N w0 m0 pl σ ρ m act w → ∃ m', Sat N w0 m0 pl (frzL fz σ) ρ m' act w
  | [], σ, m, h => ⟨m, h⟩
  | s :: r, σ, m, h => by
    obtain ⟨m1, _, h1⟩ := h.frz s
    exact Sat.frzL r h1
theorem initT_get : ∀ (l : List AV) (k j : Nat) (a : AV), (initT k l).lookup j = some a → k ≤ j ∧ l[j - k]? = some a
  | [], k, j, a, h => by simp [initT] at h
  | b :: r, k, j, a, h => by
    unfold initT at h
    rcases Nat.decEq j k with hne | rfl
    · rw [lookup_cons_ne hne] at h
      obtain ⟨h1, h2⟩ := initT_get r (k + 1) j a h
      refine ⟨by omega, ?_⟩
      rw [show j - k = (j - (k + 1)) + 1 by omega, List.getElem?_cons_succ]; exact h2
    · rw [lookup_cons_eq] at h
      cases h
      exact ⟨Nat.le_refl _, by simp⟩
theorem mem_lookup {l : List (Site × Box)} {s : Site} {b : Box} (h : l.lookup s = some b) : (s, b) ∈ l := by
  induction l with
  | nil => simp [List.lookup] at h
  | cons p r ih =>
    obtain ⟨a, c⟩ := p
    by_cases e : s = a
    · subst e; rw [lookup_cons_eq] at h; cases h; simp
    · rw [lookup_cons_ne e] at h; simp [ih h]
theorem mem_lentB {ρ : Site → Loc} {w : World} {B : List (Site × Box)} {s : Site} {b : Box} {k : Nat} (h : B.lookup s = some b) (hr : blk ρ w s b k) : k ∈ lentB ρ w B := by
  exact mem_lent.2 ⟨(s, b), mem_lookup h, hr⟩
theorem res1_run {rv : ResultVar} {x : LRes} (hx : litRs P [rv] = some [x]) {a : AV} (ha : σ.res1 x = some a) (hS : Sat N w0 m0 pl σ ρ m act w) :
    ∃ v, (resFn act.tmps rv).run P w = .ok v w ∧ RdA ρ m v a := by
  cases rv with
  | tmp t =>
    simp [litRs] at hx
    subst hx
    obtain ⟨v, k1, k2⟩ := hS.tm t a ha
    refine ⟨act.tmps.getD t undef, rfl, ?_⟩
    rw [Array.getD_eq_getD_getElem?, k1]; exact k2
  | cell t0 ty =>
    simp only [litRs] at hx
    split at hx
    · rename_i n dd l h1 h2 h3
      cases h3
      cases hx
      simp only [AS.res1] at ha
      split at ha
      · rename_i s off ht
        obtain ⟨v, k1, k2⟩ := hS.tm t0 _ ht
        have hv := k2.ptr_inv
        subst hv
        have hget : act.tmps.getD t0 undef = .pointer (some ⟨(ρ s).b, off, none⟩) := by rw [Array.getD_eq_getD_getElem?, k1]; rfl
        split at ha
        · rename_i as hb
          have hB := hS.bx s _ hb
          split at ha
          · rename_i hr
            split at ha
            · rename_i hl
              cases ha
              obtain ⟨ds, q1, q2, q3, q4⟩ := cells_box hB hl
              refine ⟨.agg ds.toArray, ?_, ofCells_rd (by simp [q1, List.length_take, List.length_drop]; omega) (fun u hu => q3 u (by simpa using hu)) (fun j u c e1 e2 => q4 j u c (by simpa using e1) e2)⟩
              have := r_loadn (P := P) h2 hr q2 (by rw [h1, q1])
              simp only [Instr.loadAt, Instr.sureAddr, Sem.run_bind, Sem.run_pure, Result.andThen_ok] at this
              simp only [resFn, hget, asAddr, Sem.run_bind, Sem.run_pure, Result.andThen_ok]
              exact this
            · cases ha
          · rename_i hr
            have hlt := (List.getElem?_eq_some_iff.1 ha).1
            obtain ⟨ds, q1, q2, q3, q4⟩ := cells_box hB (off := off) (n := 1) (by omega)
            match ds, q1 with
            | [v], _ =>
              refine ⟨v, ?_, q4 0 v a rfl (by rw [List.getElem?_take, if_pos (by omega), List.getElem?_drop]; exact ha)⟩
              have := r_load1 (P := P) h2 (by simpa using hr) q2.1
              simp only [Instr.loadAt, Instr.sureAddr, Sem.run_bind, Sem.run_pure, Result.andThen_ok] at this
              simp only [resFn, hget, asAddr, Sem.run_bind, Sem.run_pure, Result.andThen_ok]
              exact this
        · cases ha
      · cases ha
    · cases hx
theorem resA_run : ∀ (rvs : List ResultVar) (rs : List LRes) (l : List AV), litRs P rvs = some rs → σ.resA rs = some l → Sat N w0 m0 pl σ ρ m act w →
    ∃ vs : List Value, (rvs.mapM (resFn act.tmps)).run P w = .ok vs w ∧ vs.length = l.length ∧ ∀ (j : Nat) (v : Value) (a : AV), vs[j]? = some v → l[j]? = some a → RdA ρ m v a
  | [], rs, l, h, hl, hS => by
    simp [litRs] at h; subst h
    simp [AS.resA] at hl; subst hl
    exact ⟨[], rfl, rfl, fun j v a e => by simp at e⟩
  | rv :: rvs, rs, l, h, hl, hS => by
    obtain ⟨x, rs', hx, h', rfl⟩ : ∃ x rs', litRs P [rv] = some [x] ∧ litRs P rvs = some rs' ∧ rs = x :: rs' := by
      cases rv with
      | tmp t =>
        simp only [litRs, Option.map_eq_some_iff] at h
        obtain ⟨rs', k1, rfl⟩ := h
        exact ⟨.tm t, rs', by simp [litRs], k1, rfl⟩
      | cell a t =>
        simp only [litRs] at h
        split at h
        · rename_i n dd l' h1 h2 h3
          cases h
          exact ⟨.cell a (rowT P t) n, l', by simp [litRs, h1, h2], h3, rfl⟩
        · cases h
    unfold AS.resA at hl
    split at hl
    · rename_i a l' h1 h2
      cases hl
      obtain ⟨v, k1, k2⟩ := res1_run hx h1 hS
      obtain ⟨vs, k3, k4, k5⟩ := resA_run rvs rs' l' h' h2 hS
      refine ⟨v :: vs, ?_, by simp [k4], fun j u c e1 e2 => ?_⟩
      · simp only [List.mapM_cons, Sem.run_bind, k1, Result.andThen_ok, k3]
        rfl
      · cases j with
        | zero => simp at e1 e2; subst e1 e2; exact k2
        | succ j => exact k5 j u c (by simpa using e1) (by simpa using e2)
    · cases hl
theorem ofTup_rd {vs : List Value} {l : List AV} (h1 : vs.length = l.length) (h2 : ∀ (j : Nat) (v : Value) (a : AV), vs[j]? = some v → l[j]? = some a → RdA ρ m v a) :
    RdA ρ m (if h : vs.toArray.size = 1 then vs.toArray[0] else .tuple vs.toArray) (ofTup l) := by
  match l, vs, h1 with
  | [a], [v], _ => exact h2 0 v a rfl rfl
  | [], vs, h1 =>
    have : vs = [] := List.eq_nil_of_length_eq_zero h1
    subst this
    exact .pv _ _ (.tup _ _ rfl (fun j v c e1 e2 => by simp at e2))
  | a :: b :: r, vs, h1 =>
    have hs : ¬ vs.toArray.size = 1 := by
      intro e
      simp at e
      rw [e] at h1; simp at h1
    rw [dif_neg hs]
    show RdA ρ m _ (match unpvs (a :: b :: r) with
      | some xs => .pv (.tup xs)
      | none => .tup (a :: b :: r))
    cases hx : unpvs (a :: b :: r) with
    | some xs =>
      have e := unpvs_spec hx
      rw [e] at h1 h2
      refine .pv _ _ (.tup _ _ (by simpa using h1) (fun j v c e1 e2 => ?_))
      exact (h2 j v (.pv c) (by simpa using e1) (by rw [List.getElem?_map, e2]; rfl)).pv_inv
    | none => exact .tup _ _ (by simpa using h1) (fun j v c e1 e2 => h2 j v c (by simpa using e1) e2)
theorem findIdx_get {outs : List Site} {s : Site} {j : Nat} (h : outs.findIdx? (fun x => decide (x = s)) = some j) : outs[j]? = some s := by
  obtain ⟨hj, h1, _⟩ := List.findIdx?_eq_some_iff_getElem.1 h
  rw [List.getElem?_eq_getElem hj]
  simpa using h1
/-- What goes out. -/
theorem exp_out (hS : Sat N w0 m0 pl σ ρ m act w) {outs : List Site} (ho : outs.all noRet = true) (hb : ∀ s ∈ outs, ∀ b, σ.b s = some b → b.allS noRet = true) :
    ∃ ρ' : Site → Loc, (∀ s, noRet s = true → ρ' (expG outs s) = ρ s) ∧ Bxs ρ' m w (σ.exp outs outs) ∧ (∀ i, ρ' (.par i) = ρ (.par i)) ∧
      (∀ s b k, (σ.exp outs outs).lookup s = some b → blk ρ' w s b k → ∃ s0 b0, σ.b s0 = some b0 ∧ blk ρ w s0 b0 k) := by
  let ρ' : Site → Loc := fun s => match s with
    | .ret j => ρ (outs.getD j default)
    | s => ρ s
  have hg : ∀ s, noRet s = true → ρ' (expG outs s) = ρ s := fun s hs => by
    cases s with
    | par i => rfl
    | ret j => simp [noRet, Site.isRet] at hs
    | loc d j =>
      unfold expG
      simp only
      split
      · rename_i k hk
        have := findIdx_get hk
        simp [ρ', List.getD, this]
      · rfl
  have look : ∀ (l : List Site), (∀ s ∈ l, s ∈ outs) → ∀ s b, (σ.exp outs l).lookup s = some b → ∃ s0 b0, s0 ∈ outs ∧ σ.b s0 = some b0 ∧ s = expG outs s0 ∧ b = b0.ren (expG outs) := by
    intro l
    induction l with
    | nil => intro _ s b h; simp [AS.exp] at h
    | cons x r ih =>
      intro hl s b h
      unfold AS.exp at h
      split at h
      · rename_i b0 hb0
        by_cases e : s = expG outs x
        · subst e
          rw [lookup_cons_eq] at h
          cases h
          exact ⟨x, b0, hl x (by simp), hb0, rfl, rfl⟩
        · rw [lookup_cons_ne e] at h
          exact ih (fun s hs => hl s (by simp [hs])) s b h
      · exact ih (fun s hs => hl s (by simp [hs])) s b h
  have hno : ∀ s ∈ outs, noRet s = true := fun s hs => List.all_eq_true.1 ho s hs
  refine ⟨ρ', hg, ⟨fun s b h => ?_, fun s s' b b' k h h' r r' => ?_, fun s b k h r => ?_⟩, fun i => rfl, fun s b k h r => ?_⟩
  · obtain ⟨s0, b0, k1, k2, rfl, rfl⟩ := look outs (fun _ h => h) s b h
    exact (hS.bx s0 b0 k2).ren hg (hno s0 k1) (hb s0 k1 b0 k2)
  · obtain ⟨s0, b0, k1, k2, rfl, rfl⟩ := look outs (fun _ h => h) s b h
    obtain ⟨s1, b1, q1, q2, rfl, rfl⟩ := look outs (fun _ h => h) s' b' h'
    rw [hS.injk s0 s1 b0 b1 k k2 q2 ((blk_ren (hg s0 (hno s0 k1))).1 r) ((blk_ren (hg s1 (hno s1 q1))).1 r')]
  · obtain ⟨s0, b0, k1, k2, rfl, rfl⟩ := look outs (fun _ h => h) s b h
    exact hS.offk s0 b0 k k2 ((blk_ren (hg s0 (hno s0 k1))).1 r)
  · obtain ⟨s0, b0, k1, k2, rfl, rfl⟩ := look outs (fun _ h => h) s b h
    exact ⟨s0, b0, k2, (blk_ren (hg s0 (hno s0 k1))).1 r⟩
/-- The marks are taken away. -/
theorem marks_away {fn : Func} {R : Ending → World → Prop} : ∀ (ds : List Nat) {w : World}, ds.Nodup → (∀ D ∈ ds, (w0.heap.size ≤ D ∨ D ∈ pl) ∧ w.heap[D]? = some (.deferred (some []))) → act.defers = [] → Sat N w0 m0 pl σ ρ m act w →
    ∃ w2, Sat N w0 m0 pl σ ρ m act w2 ∧ (LeavesIn (FF none) 1 P fn act.tmps R [] .returning w2 → LeavesInM (FF none) 1 P fn act.tmps R (ds.map markOf) .returning w)
  | [], w, _, _, _, hS => ⟨w, hS, fun h => h⟩
  | D :: r, w, hn, hd, ha, hS => by
    obtain ⟨d1, d2⟩ := hd D (by simp)
    have hn' := List.nodup_cons.1 hn
    have hS1 : Sat N w0 m0 pl σ ρ m act (w.putObj D (.deferred none)) := hS.write (k := D) (fun s b hs hr => (hS.bx s b hs).objk hr d2) (fun o => by
      cases hv : m D o with
      | none => rfl
      | some v =>
        have := hS.mem D o v hv
        simp [World.mem, World.cell?, d2] at this) d1 (.inr ha) (putObj_keep _ _ _)
    obtain ⟨w2, k1, k2⟩ := marks_away r hn'.2 (fun D' hD' => by
      refine ⟨(hd D' (by simp [hD'])).1, ?_⟩
      have hne : D' ≠ D := fun e => hn'.1 (by rw [← e]; exact hD')
      rw [World.putObj_heap_other hne]
      exact (hd D' (by simp [hD'])).2) ha hS1
    exact ⟨w2, k1, fun h => ⟨by simp, .inl ⟨D, _, rfl, run_takeDeferred d2, k2 h⟩⟩⟩
/-- A FUNCTION. -/
theorem calls_of_awp_gen {f : FuncId} {F : LFn} {as : List AV} {B : List (Site × Box)} {R : AV → List (Site × Box) → Prop} (hm : P.follows .mixedOrders = true) (hf : litF P f = some F) (hn : as.length ≤ F.nt)
    {Fin : AS → Prop} (hfin : ∀ σ, Fin σ → retWp F.res R σ) (h : awp P F.code (finQ Fin) ⟨initT 0 as, B⟩) : CallsA P f as B R := by
  unfold litF at hf
  split at hf
  · rename_i fn hfn
    split at hf
    · cases hf
    · rename_i hname
      split at hf
      · rename_i c hc
        split at hf
        · rename_i l rs hl hrs
          cases hf
          refine ⟨⟨fn, c, hfn, by simpa using hname, hc⟩, fun w m ρ vs hB hmw hvs hrd => ?_⟩
          refine (callsIn_wide (n := 1)).1 (callsIn_of_wp_marks (F := FF none) hfn hc trivial ?_ rfl)
          have hS : Sat fn.ntmps w ⟨m, ρ, [], hmw.2.1, false⟩ (lentB ρ w B) ⟨initT 0 as, B⟩ ρ m { tmps := vs ++ Array.replicate (fn.ntmps - vs.size) undef, defers := [] } w := by
            have hn' : as.length ≤ fn.ntmps := hn
            refine ⟨⟨[], mix0, nod0, fun D hD => by cases hD⟩, by simp; omega, fun t a k => ?_, hB.bx, hB.injk, hmw.1, hB.offk, fun s b i k r => .inr (mem_lentB k r), Keep.rfl' _ _, ⟨Le.refl _, hB.free hmw.2.2⟩, fun b o v k => .inl k, fun i => rfl⟩
            obtain ⟨_, k1⟩ := initT_get as 0 t a k
            rw [Nat.sub_zero] at k1
            have hlt : t < vs.size := by rw [hvs]; exact (List.getElem?_eq_some_iff.1 k1).1
            exact ⟨vs[t], by rw [Array.getElem?_append, if_pos hlt, Array.getElem?_eq_getElem hlt], hrd t _ a (Array.getElem?_eq_getElem hlt) k1⟩
          refine wpIn_mono (awp_sound (ro := none) (fun l e => by cases e) hm c l _ (fun e => by cases e) hl h hS) (fun e act' w' hq => ?_)
          have fin : Aft fn.ntmps w ⟨m, ρ, [], hmw.2.1, false⟩ (lentB ρ w B) Fin act' w' → LeavesInM (FF none) 1 P fn act'.tmps (CPost w m ρ B R) act'.defers .returning w' := by
            rintro ⟨τ, ρ1, m1, hFin, hT⟩
            obtain ⟨ds, hd1, hd2, hd3⟩ := hT.nod
            have hd1 := hd1.nil
            have hT0 : Sat fn.ntmps w ⟨m, ρ, [], hmw.2.1, false⟩ (lentB ρ w B) τ ρ1 m1 { act' with defers := [] } w' := ⟨⟨[], mix0, nod0, fun D hD => by cases hD⟩, hT.sz, hT.tm, hT.bx, hT.injk, hT.mem, hT.offk, hT.ownk, hT.keep, hT.base, hT.fro, hT.par⟩
            obtain ⟨w2, hT2, hL⟩ := marks_away (P := P) (fn := fn) (R := CPost w m ρ B R) ds hd2.1 hd3 rfl hT0
            rw [hd1]
            refine hL ?_
            obtain ⟨fz, outs, la, q1, q2, q3, q4, q5⟩ := hfin τ hFin
            obtain ⟨m2, hF⟩ := hT2.frzL fz
            obtain ⟨vs', r1, r2, r3⟩ := resA_run fn.results.toList rs la hrs q1 hF
            obtain ⟨ρ', g1, g2, g3, g4⟩ := exp_out hF q3 q4
            have hrd2 := ofTup_rd r2 r3
            refine ⟨_, ?_, _, _, _, ρ', m2, rfl, q5, g2, hF.base.1, hF.mem, fun i => (g3 i).trans (hF.par i), fun s b i k r => ?_, hF.fro, hrd2.map g1 q2, hF.keep⟩
            · show (do let vs ← fn.results.mapM (resFn act'.tmps); pure (if h : vs.size = 1 then vs[0] else .tuple vs) : Sem Value).run P w2 = _
              rw [Sem.run_bind, Array.mapM_eq_mapM_toList, Sem.run_map, r1]
              rfl
            · obtain ⟨s0, b0, e1, e2⟩ := g4 s b i k r
              exact hF.ownk s0 b0 i e1 e2
          cases e with
          | normal => exact fin hq
          | ret => exact fin hq
          | exit id => obtain ⟨τ, ρ1, m1, q, _⟩ := hq; exact q.elim
          | goto l => exact hq.elim
          | panic ch => exact hq.elim
          | outgrown => exact hq.elim
        · cases hf
      · cases hf
  · cases hf
theorem calls_of_awp {f : FuncId} {F : LFn} {as : List AV} {B : List (Site × Box)} {R : AV → List (Site × Box) → Prop} (hm : P.follows .mixedOrders = true) (hf : litF P f = some F) (hn : as.length ≤ F.nt)
    (h : awp P F.code (finQ (retF F.res R)) ⟨initT 0 as, B⟩) : CallsA P f as B R := calls_of_awp_gen hm hf hn (fun _ h => retF_wp h) h
/-! ### Steps -/
section
variable {Q : AEx → AS → Prop} {K : AV → AS → Prop}
/-- Once more: with less of the measure. -/
def again (J : Nat → AS → Prop) (n : Nat) (τ' : AS) : Prop := ∃ k τ2, k < n ∧ Sub τ2 τ' ∧ J k τ2
/-- A loop: I k τ: the states at its head, with what is left of the measure. -/
theorem awp_loop {c : LCode} (I : Nat → AS → Prop) (h0 : ∃ n τ, Sub τ σ ∧ I n τ) (round : ∀ J : Nat → AS → Prop, (∀ k τ, I k τ → J k τ) → ∀ n τ, I n τ → awp P c (thenA (again J n) Q) τ) : awp P (.loop c) Q σ :=
  let ⟨n, τ, h1, h2⟩ := h0; ⟨I, n, τ, h1, h2, fun n τ h => round I (fun _ _ h => h) n τ h⟩
def subT : List (Nat × AV) → AS → Prop
  | [], _ => True
  | (t, a) :: r, σ => σ.t t = some a ∧ subT r σ
def subB : List (Site × Box) → AS → Prop
  | [], _ => True
  | (s, b) :: r, σ => σ.b s = some b ∧ subB r σ
theorem subT_spec : ∀ {l : List (Nat × AV)}, subT l σ → ∀ t a, l.lookup t = some a → σ.t t = some a
  | [], _, t, a, h => by simp [List.lookup] at h
  | (t', a') :: r, hs, t, a, h => by
    by_cases e : t = t'
    · subst e; rw [lookup_cons_eq] at h; cases h; exact hs.1
    · rw [lookup_cons_ne e] at h; exact subT_spec hs.2 t a h
theorem subB_spec : ∀ {l : List (Site × Box)}, subB l σ → ∀ s b, l.lookup s = some b → σ.b s = some b
  | [], _, s, b, h => by simp [List.lookup] at h
  | (s', b') :: r, hs, s, b, h => by
    by_cases e : s = s'
    · subst e; rw [lookup_cons_eq] at h; cases h; exact hs.1
    · rw [lookup_cons_ne e] at h; exact subB_spec hs.2 s b h
theorem SubS.mk {tm : List (Nat × AV)} {bx : List (Site × Box)} (h1 : subT tm σ) (h2 : subB bx σ) : SubS ⟨tm, bx⟩ σ := ⟨fun t a h => subT_spec h1 t a h, fun s b h => subB_spec h2 s b h⟩
theorem Sub.mk {tm : List (Nat × AV)} {bx : List (Site × Box)} (h1 : subT tm σ) (h2 : subB bx σ) : Sub ⟨tm, bx⟩ σ := (SubS.mk h1 h2).sub
/-- A call that hands back a flat value. -/
theorem call_flat {f : Opd} {args : List Opd} {d k : Nat} {g : FuncId} {fs xs cs : List PV} {y : PV} (h1 : (σ.o f).snap σ k = some (.fn g fs cs)) (h2 : snapW (AV.snap σ k) (args.map σ.o) = some xs)
    (hc : CallsA P g ((fs ++ xs ++ cs).map .pv) [] (fun r _ => r = .pv y)) (hy : y.flat = true) (hK : K (.pv y) σ) : callWp P f args d K σ :=
  .inl ⟨k, g, fs, xs, cs, h1, h2, hc.mono (fun _ _ h => ⟨y, h, hy, hK⟩)⟩
/-- A call of plain values that hands back a plain value. -/
theorem call_pv (fz : List Site) {f : Opd} {args : List Opd} {d : Nat} {g : FuncId} {fs xs cs : List PV} {y : PV} (h1 : (frzsL fz σ).o f = .pv (.fn g fs cs)) (h2 : (frzsL fz σ).pvs args = some xs)
    (hc : CallsA P g ((fs ++ xs ++ cs).map .pv) [] (fun r B => r = .pv y ∧ B = [])) (hK : K (.pv y) ((frzsL fz σ).purge d)) : callWp P f args d K σ :=
  .inr ⟨fz, g, fs, xs, cs, h1, h2, hc.mono (fun _ _ ⟨h, h'⟩ => by subst h h'; exact ⟨⟨rfl, fun p hp => by cases hp⟩, hK⟩)⟩
end
end
end Go.Proofs.Ytohhjnpiiackjaa
/-! An evaluation of Go's code over plain values: what a round comes to. Over any program. -/
namespace Go.Proofs.Ytohhjnpiiackjaa
open Go.RowKit
def Site.isPar : Site → Bool
  | .par _ => true
  | _ => false
/-- The parameters are laid. -/
def putL : List Nat → List AV → List (Nat × AV) → List (Nat × AV)
  | p :: ps, a :: as, tm => putL ps as ((p, a) :: tm)
  | _, _, tm => tm
/-- What a round leaves: the record, the boxes. -/
def retR (C : Code × Code) (ps : List Nat) (nt : Nat) (tm : List (Nat × AV)) (i : Nat) (R : AV → List (Site × Box) → Prop) (st : Option Code) (σ : AS) : Prop :=
  ∃ (fz outs : List Site), outs.all noRet = true ∧ outs.all (fun s => !decide (s = .par i)) = true ∧ (∀ s ∈ outs, ∀ b, (frzL fz σ).b s = some b → b.allS noRet = true) ∧
    R (.pv (.bool st.isNone)) ((.par i, .loop C ps nt tm st) :: (frzL fz σ).exp outs outs)
def roundQ (C : Code × Code) (ps : List Nat) (nt : Nat) (tm : List (Nat × AV)) (i : Nat) (R : AV → List (Site × Box) → Prop) : AEx → AS → Prop
  | .normal, σ => retR C ps nt tm i R none σ
  | .ret, σ => retR C ps nt tm i R (some .ret) σ
  | .exit id, σ => retR C ps nt tm i R (some (.exit id)) σ
mutual
theorem map_id' : ∀ a : AV, a.map id = a
  | .any => rfl
  | .pv _ => rfl
  | .ptr _ _ => rfl
  | .elt _ _ _ _ => rfl
  | .vec _ _ _ _ => rfl
  | .mp _ => rfl
  | .yld _ => rfl
  | .fn f fs cs => by simp only [AV.map, mapL_id fs, mapL_id cs]
  | .agg cs => by simp only [AV.map, mapL_id cs]
  | .tup vs => by simp only [AV.map, mapL_id vs]
theorem mapL_id : ∀ l : List AV, AV.mapL id l = l
  | [] => rfl
  | a :: r => by simp only [AV.mapL, map_id' a, mapL_id r]
end
section
variable {P : Program} {N : Nat} {w0 : World} {m0 : Env w0} {pl : List Nat} {σ : AS} {ρ : Site → Loc} {m : Mem} {act : Act} {w : World}
theorem Sat.morepl (h : Sat N w0 m0 pl σ ρ m act w) {pl' : List Nat} (hp : ∀ k ∈ pl, k ∈ pl') (hz : ∀ k ∈ pl', ∀ o, m0.m k o = none) : Sat N w0 m0 pl' σ ρ m act w :=
  ⟨let ⟨ds, h1, h2, h3⟩ := h.nod; ⟨ds, h1, h2, fun D hD => ⟨(h3 D hD).1.imp id (hp D), (h3 D hD).2⟩⟩, h.sz, h.tm, h.bx, h.injk, h.mem, h.offk, fun s b i k r => (h.ownk s b i k r).imp id (hp _),
    ⟨h.keep.os, h.keep.tape, h.keep.output, h.keep.size, fun k h1 h2 => h.keep.block k h1 (fun q => h2 (hp k q))⟩, ⟨h.base.1, hz⟩, fun b o v k => (h.fro b o v k).imp id (fun q => q.imp id (hp b)), h.par⟩
theorem wpFF {ro : Option Nat} {n n' : Nat} {c : Code} {Q : Exit → Act → World → Prop} {a : Act} (h : c.wpIn (FF ro) n P Q a w) : c.wpIn (FF ro) n' P Q a w := fun b k cs h1 h2 _ => h b k cs h1 h2 (room_wide _)
theorem putL_rd {ρ : Site → Loc} {m : Mem} {nt : Nat} : ∀ (ps : List Nat) (as : List AV) (vs : List Value) (tm : List (Nat × AV)) (t0 : Array Value), ps.length = as.length → vs.length = as.length → (∀ p ∈ ps, p < nt) → t0.size = nt →
    (∀ (j : Nat) (d : Value) (c : AV), vs[j]? = some d → as[j]? = some c → RdA ρ m d c) → (∀ t a, tm.lookup t = some a → ∃ v, t0[t]? = some v ∧ RdA ρ m v a) →
    ((ps.zip vs).foldl (fun (tmps : Array Value) (x : Nat × Value) => tmps.setIfInBounds x.1 x.2) t0).size = nt ∧
      ∀ t a, (putL ps as tm).lookup t = some a → ∃ v, ((ps.zip vs).foldl (fun (tmps : Array Value) (x : Nat × Value) => tmps.setIfInBounds x.1 x.2) t0)[t]? = some v ∧ RdA ρ m v a
  | [], as, vs, tm, t0, h1, h2, h3, h4, h5, h6 => by
    cases as with
    | nil => exact ⟨by simpa using h4, fun t a k => by simpa using h6 t a k⟩
    | cons a as => simp at h1
  | p :: ps, [], vs, tm, t0, h1, h2, h3, h4, h5, h6 => by simp at h1
  | p :: ps, a :: as, [], tm, t0, h1, h2, h3, h4, h5, h6 => by simp at h2
  | p :: ps, a :: as, v :: vs, tm, t0, h1, h2, h3, h4, h5, h6 => by
    simp only [List.zip_cons_cons, List.foldl_cons, putL]
    refine putL_rd ps as vs ((p, a) :: tm) (t0.setIfInBounds p v) (by simpa using h1) (by simpa using h2) (fun q hq => h3 q (by simp [hq])) (by simpa using h4) (fun j d c k1 k2 => h5 (j + 1) d c (by simpa using k1) (by simpa using k2)) (fun t b k => ?_)
    rcases Nat.decEq t p with hne | rfl
    · rw [lookup_cons_ne hne] at k
      obtain ⟨u, k1, k2⟩ := h6 t b k
      exact ⟨u, by rw [Array.getElem?_setIfInBounds_ne (fun e => hne e.symm)]; exact k1, k2⟩
    · rw [lookup_cons_eq] at k
      cases k
      exact ⟨v, by rw [Array.getElem?_setIfInBounds_self_of_lt (by rw [h4]; exact h3 _ (by simp))], h5 0 v a rfl rfl⟩
set_option maxHeartbeats 1000000 in
/-- A ROUND. -/
theorem yields_of_awp (hm : P.follows .mixedOrders = true) {C : Code × Code} {ps : List Nat} {nt i : Nat} {tm : List (Nat × AV)} {la lb : LCode} (hla : litC P nt C.1 = some la) (hlb : litC P nt C.2 = some lb) {as : List AV} {B : List (Site × Box)}
    {R : AV → List (Site × Box) → Prop} (hB : B.lookup (.par i) = some (.loop C ps nt tm none)) (hps : ps.length = as.length) (hpn : ∀ p ∈ ps, p < nt) (htm : AV.allSL Site.isPar (tm.map (·.2)) = true)
    (h : awp P la (thenA (awp P lb (roundQ C ps nt tm i R)) (fun _ _ => False)) ⟨putL ps as tm, B.filter fun p => !decide (p.1 = .par i)⟩) : YieldsA P i as B R := by
  intro w m ρ vs hBx ⟨hmw, hmg, hnk⟩ hvs hrd
  obtain ⟨hreal, r, u1, u2, u3, u4, u5, u6, u7, u8⟩ := hBx.bx _ _ hB
  refine ⟨r, u1, by rw [u4, hvs]; simpa using hps.symm, ?_⟩
  obtain ⟨l, hl⟩ : ∃ l, l = (ρ (.par i)).b := ⟨_, rfl⟩
  rw [← hl] at u1 ⊢
  have hlw : l < w.heap.size := (Array.getElem?_eq_some_iff.1 u1).1
  obtain ⟨B1, hB1⟩ : ∃ B1, B1 = B.filter fun p => !decide (p.1 = .par i) := ⟨_, rfl⟩
  rw [← hB1] at h
  have hlook : ∀ s b, B1.lookup s = some b → B.lookup s = some b ∧ s ≠ .par i := fun s b k => by
    rw [hB1, show List.lookup s (B.filter fun p => !decide (p.1 = .par i)) = _ from lookup_filter (fun x => !decide (x = .par i)) s B] at k
    split at k
    · rename_i hne; exact ⟨k, by simpa using hne⟩
    · cases k
  have hpl : ∀ k, k ∈ lentB ρ w B1 → k ∈ lentB ρ w B := fun k hk => by
    obtain ⟨p, hp, e⟩ := mem_lent.1 hk
    exact mem_lent.2 ⟨p, by rw [hB1] at hp; exact (List.mem_filter.1 hp).1, e⟩
  obtain ⟨pl1, hpl1⟩ : ∃ pl1, pl1 = (lentB ρ w B1).filter (fun k => !decide (k = l)) := ⟨_, rfl⟩
  have hl1 : l ∉ pl1 := by rw [hpl1]; simp
  have hlB : l ∈ lentB ρ w B := by rw [hl]; exact mem_lentB hB (blk_own hreal)
  have hpl1' : ∀ k ∈ pl1, k ∈ lentB ρ w B := fun k hk => hpl k (by rw [hpl1] at hk; exact (List.mem_filter.1 hk).1)
  have hsz := putL_rd (ρ := ρ) (m := m) (nt := nt) ps as vs.toList tm r.tmps hps (by simpa using hvs) hpn u7 (fun j d c k1 k2 => hrd j d c (by simpa using k1) k2) u8
  have hfold : (r.params.zip vs).foldl (fun tmps (x : Nat × Value) => tmps.setIfInBounds x.1 x.2) r.tmps = (ps.zip vs.toList).foldl (fun (tmps : Array Value) (x : Nat × Value) => tmps.setIfInBounds x.1 x.2) r.tmps := by
    rw [u4, ← Array.foldl_toList]
    simp
  have hS : Sat nt w ⟨m, ρ, [], hmg, false⟩ pl1 ⟨putL ps as tm, B1⟩ ρ m { tmps := (r.params.zip vs).foldl (fun tmps (x : Nat × Value) => tmps.setIfInBounds x.1 x.2) r.tmps, defers := [] } w := by
    rw [hfold]
    refine ⟨⟨[], mix0, nod0, fun D hD => by cases hD⟩, hsz.1, hsz.2, fun s b k => hBx.bx s b (hlook s b k).1, fun s s' b b' i k k' => hBx.injk s s' b b' i (hlook s b k).1 (hlook s' b' k').1, hmw, fun s b i k => hBx.offk s b i (hlook s b k).1, fun s b j k r' => .inr ?_, Keep.rfl' _ _, ⟨Le.refl _, fun k hk => hBx.free hnk k (hpl1' k hk)⟩, fun b o v k => .inl k, fun i => rfl⟩
    rw [hpl1]
    refine List.mem_filter.2 ⟨mem_lentB k r', ?_⟩
    have : j ≠ l := fun e => (hlook s b k).2 (hBx.injk s _ b _ j (hlook s b k).1 hB r' (by rw [e, hl]; exact blk_own hreal))
    simpa using this
  refine roundIn_of_wpIn trivial ?_
  have hin1 : InRound (some l) w pl1 := fun l' e => by cases e; exact ⟨⟨r, u1⟩, hl1⟩
  have hwa := awp_sound hin1 hm C.1 la _ (fun e => by cases e) hla h hS
  rw [← u5] at hwa
  refine wpIn_mono (wpFF hwa) ?_
  intro e act1 w1 hq
  cases e with
  | normal =>
    obtain ⟨τ1, ρ1, m1, hb, hS1⟩ := hq
    have v1 : w1.heap[l]? = some (.loop r) := (hS1.keep.block l hlw hl1).trans u1
    refine ⟨_, run_beginRound v1 u2, ?_⟩
    obtain ⟨w2, hw2⟩ : ∃ w2, w2 = w1.putObj l (.loop { r with state := .busy }) := ⟨_, rfl⟩
    rw [← hw2]
    have v2 : w2.heap[l]? = some (.loop { r with state := .busy }) := by rw [hw2]; exact World.putObj_heap_same (Array.getElem?_eq_some_iff.1 v1).1
    have kw12 : Keep [l] w1 w2 := by rw [hw2]; exact putObj_keep _ _ _
    have nol : ∀ s b, τ1.b s = some b → ¬ blk ρ1 w1 s b l := fun s b k rr => by
      rcases hS1.ownk s b l k rr with q | q
      · omega
      · exact hl1 q
    have nolk : ∀ s b j, τ1.b s = some b → blk ρ1 w2 s b j → j ≠ l := fun s b j k rr e => by
      subst e
      refine nol s b k (((hS1.bx s b k).blk_same (fun r => kw12.block _ (hS1.lt k r) ?_)).1 rr)
      rw [List.mem_singleton]
      intro e2
      exact nol s b k (.inl ⟨r, e2⟩)
    have hml : ∀ o, m1 l o = none := fun o => by
      cases hv : m1 l o with
      | none => rfl
      | some v =>
        have := hS1.mem l o v hv
        simp [World.mem, World.cell?, v1] at this
    have hS2 : Sat nt w ⟨m, ρ, [], hmg, false⟩ (l :: pl1) τ1 ρ1 m1 act1 w2 := (hS1.morepl (fun k hk => by simp [hk]) (fun k hk => by
      rcases List.mem_cons.1 hk with rfl | hk
      · exact hBx.free hnk _ hlB
      · exact hBx.free hnk k (hpl1' k hk))).write (k := l) nol hml (.inr (by simp)) (.inl (by rw [v1]; simp)) kw12
    obtain ⟨pl2, hpl2⟩ : ∃ pl2, pl2 = (pl1 ++ List.range' w.heap.size (w2.heap.size - w.heap.size)).filter (fun k => @decide (∀ o, m1 k o = none) (Classical.propDecidable _)) := ⟨_, rfl⟩
    have in2 : ∀ b, (w.heap.size ≤ b ∨ b ∈ l :: pl1) → b < w2.heap.size → b ≠ l → (∀ o, m1 b o = none) → b ∈ pl2 := fun b hb hlt hne hz => by
      rw [hpl2]
      refine List.mem_filter.2 ⟨?_, by simpa using hz⟩
      rw [List.mem_append]
      rcases hb with hb | hb
      · exact .inr (List.mem_range'_1.2 ⟨hb, by omega⟩)
      · rcases List.mem_cons.1 hb with hb | hb
        · exact absurd hb hne
        · exact .inl hb
    have out2 : ∀ b ∈ pl2, w.heap.size ≤ b ∨ b ∈ pl1 := fun b hb => by
      rw [hpl2] at hb
      have hb := (List.mem_filter.1 hb).1
      rw [List.mem_append] at hb
      rcases hb with hb | hb
      · exact .inr hb
      · exact .inl (List.mem_range'_1.1 hb).1
    have hl2 : l ∉ pl2 := fun hb => by
      rcases out2 l hb with q | q
      · omega
      · exact hl1 q
    have hz2 : ∀ k ∈ pl2, ∀ o, m1 k o = none := fun k hk => by
      rw [hpl2] at hk
      simpa using (List.mem_filter.1 hk).2
    have hS2' : Sat nt w2 ⟨m1, ρ1, [], hS2.glob, false⟩ pl2 τ1 ρ1 m1 act1 w2 :=
      ⟨let ⟨ds, h1, h2, h3⟩ := hS2.nod; ⟨ds, h1, h2, fun D hD => ⟨.inr (in2 D (h3 D hD).1 (Array.getElem?_eq_some_iff.1 (h3 D hD).2).1 (fun e => by have := (h3 D hD).2; rw [e, v2] at this; cases this) (fun o => by
        cases hv : m1 D o with
        | none => rfl
        | some v =>
          have := hS2.mem D o v hv
          simp [World.mem, World.cell?, (h3 D hD).2] at this)), (h3 D hD).2⟩⟩, hS2.sz, hS2.tm, hS2.bx, hS2.injk, hS2.mem, hS2.offk,
        fun s b j k rr => .inr (in2 _ (hS2.ownk s b j k rr) (hS2.ltk k rr) (nolk s b j k rr) (hS2.offk s b j k rr)), Keep.rfl' _ _, ⟨Le.refl _, fun k hk => hz2 k hk⟩, fun b o v k => .inl k, fun i => rfl⟩
    have hin2 : InRound (some l) w2 pl2 := fun l' e => by cases e; exact ⟨⟨_, v2⟩, hl2⟩
    have hwb := awp_sound hin2 hm C.2 lb _ (fun e => by cases e) hlb hb hS2'
    rw [← u6] at hwb
    refine wpIn_mono (wpFF hwb) ?_
    -- the round's end
    have fin : ∀ (st : Option Code) (act3 : Act) (w3 : World), Aft nt w2 ⟨m1, ρ1, [], hS2.glob, false⟩ pl2 (retR C ps nt tm i R st) act3 w3 → ∃ v w', (Instr.endRound l st).run P w3 = .ok v w' ∧ CPost w m ρ B R (.returned v) w' := by
      rintro st act3 w3 ⟨τ, ρ3, m3, ⟨fz, outs, q1, q1', q2, q3⟩, hS3⟩
      obtain ⟨m4, hF⟩ := hS3.frzL fz
      obtain ⟨ρ', g1, g2, g3, g4⟩ := exp_out hF q1 q2
      have v3 : w3.heap[l]? = some (.loop { r with state := .busy }) := (hF.keep.block l (Array.getElem?_eq_some_iff.1 v2).1 hl2).trans v2
      have hrun := run_endRound (P := P) st v3
      obtain ⟨w4, hw4⟩ : ∃ w4, w4 = w3.putObj l (.loop { { r with state := .busy } with state := if st.isNone then .ready else .done, pending := st }) := ⟨_, rfl⟩
      rw [← hw4] at hrun
      have v4 : w4.heap[l]? = some (.loop { { r with state := .busy } with state := if st.isNone then .ready else .done, pending := st }) := by rw [hw4]; exact World.putObj_heap_same (Array.getElem?_eq_some_iff.1 v3).1
      have kw34 : Keep [l] w3 w4 := by rw [hw4]; exact putObj_keep _ _ _
      have par4 : ∀ j, ρ' (.par j) = ρ (.par j) := fun j => (g3 j).trans ((hF.par j).trans (hS1.par j))
      have hm4 : Le m m4 := hS1.base.1.trans hF.base.1
      have ksz : w.heap.size ≤ w2.heap.size := hS2.keep.size
      have nol3 : ∀ s b, (frzL fz τ).b s = some b → ¬ blk ρ3 w3 s b l := fun s b k rr => by
        rcases hF.ownk s b l k rr with q | q
        · omega
        · exact hl2 q
      have nol4 : ∀ s b, ((frzL fz τ).exp outs outs).lookup s = some b → ¬ blk ρ' w3 s b l := fun s b k rr => by
        obtain ⟨s0, b0, e1, e2⟩ := g4 s b l k rr
        exact nol3 s0 b0 e1 e2
      have stay4 : ∀ s b, ((frzL fz τ).exp outs outs).lookup s = some b → ∀ j, blk ρ' w3 s b j → w4.heap[j]? = w3.heap[j]? := fun s b k j rr => kw34.block _ (by
        obtain ⟨s0, b0, e1, e2⟩ := g4 s b j k rr
        exact hF.ltk e1 e2) (by
        rw [List.mem_singleton]
        intro e; subst e; exact nol4 s b k rr)
      have back4 : ∀ s b, ((frzL fz τ).exp outs outs).lookup s = some b → ∀ j, blk ρ' w4 s b j → blk ρ' w3 s b j := fun s b k j rr => ((g2.bx s b k).blk_same (fun r => stay4 s b k _ (blk_own r))).1 rr
      have hml4 : ∀ o, m4 l o = none := fun o => by
        cases hv : m4 l o with
        | none => rfl
        | some v =>
          have := hF.mem l o v hv
          simp [World.mem, World.cell?, v3] at this
      refine ⟨_, w4, hrun, .bool st.isNone, .pv (.bool st.isNone), _, ρ', m4, rfl, q3, ?_, ?_, ?_, ?_, ?_, ?_, .pv _ _ (.bool _), ?_⟩
      · refine ⟨fun s b k => ?_, fun s s' b b' j k k' rr rr' => ?_, fun s b j k rr o => ?_⟩
        · by_cases hs : s = .par i
          · subst hs
            rw [lookup_cons_eq] at k; cases k
            refine ⟨by rw [par4]; exact hreal, { { r with state := .busy } with state := if st.isNone then .ready else .done, pending := st }, by rw [par4, ← hl]; exact v4, by cases st <;> rfl, rfl, u4, u5, u6, u7, fun t a k => ?_⟩
            obtain ⟨v, k1, k2⟩ := u8 t a k
            obtain ⟨j, hj⟩ := mem_of_lookup k
            have k3 := k2.more hm4
            have k4 := k3.map (g := id) (ρ' := ρ') (q := Site.isPar) (fun s hs => by
              cases s with
              | par i => exact par4 i
              | _ => cases hs) (allSL_get htm hj)
            rw [map_id'] at k4
            exact ⟨v, k1, k4⟩
          · rw [lookup_cons_ne hs] at k
            exact (g2.bx s b k).more (Le.refl _) (stay4 s b k)
        · by_cases hs : s = .par i <;> by_cases hs' : s' = .par i
          · rw [hs, hs']
          · subst hs
            rw [lookup_cons_eq] at k; cases k
            rw [lookup_cons_ne hs'] at k'
            have e := (blk_plain rfl rr).2
            rw [par4, ← hl] at e
            subst e
            exact absurd (back4 s' b' k' _ rr') (nol4 s' b' k')
          · subst hs'
            rw [lookup_cons_eq] at k'; cases k'
            rw [lookup_cons_ne hs] at k
            have e := (blk_plain rfl rr').2
            rw [par4, ← hl] at e
            subst e
            exact absurd (back4 s b k _ rr) (nol4 s b k)
          · rw [lookup_cons_ne hs] at k
            rw [lookup_cons_ne hs'] at k'
            exact g2.injk s s' b b' j k k' (back4 s b k _ rr) (back4 s' b' k' _ rr')
        · by_cases hs : s = .par i
          · subst hs
            rw [lookup_cons_eq] at k; cases k
            have e := (blk_plain rfl rr).2
            rw [par4, ← hl] at e
            subst e; exact hml4 o
          · rw [lookup_cons_ne hs] at k
            exact g2.offk s b j k (back4 s b k _ rr) o
      · exact hm4
      · intro b o v hv
        have h1 := hF.mem b o v hv
        refine (World.cell?_of_block (a := ⟨b, o, none⟩) (kw34.block b (lt_of_cell h1) ?_)).trans h1
        rw [List.mem_singleton]
        intro e
        have e' : b = l := e
        subst e'
        rw [hml4 o] at hv; cases hv
      · exact par4
      · intro s b j k rr
        by_cases hs : s = .par i
        · subst hs
          rw [lookup_cons_eq] at k; cases k
          have e := (blk_plain rfl rr).2
          rw [par4, ← hl] at e
          subst e; exact .inr hlB
        · rw [lookup_cons_ne hs] at k
          obtain ⟨s0, b0, e1, e2⟩ := g4 s b j k (back4 s b k _ rr)
          rcases hF.ownk s0 b0 j e1 e2 with q | q
          · exact .inl (Nat.le_trans ksz q)
          · exact (out2 _ q).imp id (hpl1' _)
      · intro b o v hv
        rcases hF.fro b o v hv with q | q | q
        · rcases hS2.fro b o v q with q | q | q
          · exact .inl q
          · exact .inr (.inl q)
          · rcases List.mem_cons.1 q with q | q
            · subst q; exact .inr (.inr hlB)
            · exact .inr (.inr (hpl1' _ q))
        · exact .inr (.inl (Nat.le_trans ksz q))
        · exact .inr ((out2 _ q).imp id (hpl1' _))
      · have k1 := hS2.keep
        have k3 := hF.keep
        refine ⟨kw34.os.trans (k3.os.trans k1.os), kw34.tape.trans (k3.tape.trans k1.tape), kw34.output.trans (k3.output.trans k1.output), Nat.le_trans ksz (Nat.le_trans k3.size kw34.size), fun k hk hn => ?_⟩
        have hkl : k ≠ l := fun e => hn (e ▸ hlB)
        have hk1 : k ∉ pl1 := fun q => hn (hpl1' _ q)
        have a1 := k1.block k hk (by simp [hkl, hk1])
        have a2 := k3.block k (by omega) (fun q => by
          rcases out2 k q with q | q
          · omega
          · exact hk1 q)
        have a3 := kw34.block k (by have := k3.size; omega) (by simpa using hkl)
        exact a3.trans (a2.trans a1)
    intro e act3 w3 hq3
    cases e with
    | normal => exact fin none act3 w3 hq3
    | ret => exact fin (some .ret) act3 w3 hq3
    | exit id => exact fin (some (.exit id)) act3 w3 hq3
    | goto t => exact hq3.elim
    | panic ch => exact hq3.elim
    | outgrown => exact hq3.elim
  | ret => obtain ⟨_, _, _, q, _⟩ := hq; exact q.elim
  | exit id => obtain ⟨_, _, _, q, _⟩ := hq; exact q.elim
  | goto t => exact hq.elim
  | panic ch => exact hq.elim
  | outgrown => exact hq.elim
end
end Go.Proofs.Ytohhjnpiiackjaa
/-! An evaluation of Go's code over plain values, carried out: what is reckoned is reckoned at once. No program here. -/
namespace Go.Proofs.Ytohhjnpiiackjaa
open Go.RowKit
universe u
section
variable {α : Type u}
end
/-! ### The same, by fewer steps -/
theorem natBeq (a b : Nat) : Nat.beq a b = decide (a = b) := by
  cases h : Nat.beq a b with
  | true => rw [Nat.eq_of_beq_eq_true h]; simp
  | false =>
    have : a ≠ b := fun e => by subst e; rw [Nat.beq_refl] at h; cases h
    simp [this]
def Site.isLocF (d : Nat) : Site → Bool
  | .loc e _ => Nat.beq d e
  | _ => false
theorem Site.isLocF_eq (d : Nat) (s : Site) : s.isLocF d = s.isLoc d := by
  cases s with
  | loc e j =>
    show Nat.beq d e = (d == e)
    rw [natBeq]; rfl
  | _ => rfl
def Site.beqF : Site → Site → Bool
  | .par i, .par j => Nat.beq i j
  | .loc a b, .loc c d => Nat.beq a c && Nat.beq b d
  | .ret i, .ret j => Nat.beq i j
  | _, _ => false
theorem Site.beqF_eq (s t : Site) : s.beqF t = decide (s = t) := by
  cases s <;> cases t <;> simp only [Site.beqF, natBeq] <;> simp
theorem Site.beqF_eq' (s t : Site) : s.beqF t = (s == t) := by rw [Site.beqF_eq]; rfl
def AV.hasF (d : Nat) (a : AV) : Bool := match a with
  | .pv _ => false
  | .any => false
  | .ptr s _ => s.isLocF d
  | .elt s _ _ _ => s.isLocF d
  | .vec s _ _ _ => s.isLocF d
  | .mp s => s.isLocF d
  | .yld s => s.isLocF d
  | a => a.has d
theorem AV.hasF_eq (d : Nat) (a : AV) : a.hasF d = a.has d := by cases a <;> simp [AV.hasF, AV.has, Site.isLocF_eq]
def AV.purgeF (d : Nat) (a : AV) : AV := match a.hasF d with
  | true => .any
  | false => a
theorem AV.purgeF_eq (d : Nat) (a : AV) : a.purgeF d = a.purge d := by
  unfold AV.purgeF AV.purge
  rw [AV.hasF_eq]
  cases a.has d <;> rfl
def Box.purgeF (d : Nat) : Box → Box
  | .rows e e2 n els => .rows e e2 n (els.map (RowE.map (AV.purge d)))
  | .cells as => .cells (as.map (AV.purgeF d))
  | .loop C ps nt tm st => .loop C ps nt (tm.map fun p => (p.1, p.2.purgeF d)) st
  | b => b
theorem Box.purgeF_eq (d : Nat) (b : Box) : b.purgeF d = b.purge d := by
  have h : AV.purgeF d = AV.purge d := funext (AV.purgeF_eq d)
  cases b <;> simp [Box.purgeF, Box.purge, h]
def AS.purgeF (d : Nat) (σ : AS) : AS := ⟨σ.tm.map fun p => (p.1, p.2.purgeF d), (σ.bx.filter fun p => !p.1.isLocF d).map fun p => (p.1, p.2.purgeF d)⟩
theorem AS.purgeF_eq (d : Nat) (σ : AS) : σ.purgeF d = σ.purge d := by
  have h : AV.purgeF d = AV.purge d := funext (AV.purgeF_eq d)
  have h2 : Box.purgeF d = Box.purge d := funext (Box.purgeF_eq d)
  have h3 : Site.isLocF d = Site.isLoc d := funext (Site.isLocF_eq d)
  simp only [AS.purgeF, AS.purge, h, h2, h3]
def lookF {β : Type} (s : Site) : List (Site × β) → Option β
  | [] => none
  | (a, b) :: r => match s.beqF a with
    | true => some b
    | false => lookF s r
theorem lookF_eq {β : Type} (s : Site) : ∀ l : List (Site × β), lookF s l = l.lookup s
  | [] => rfl
  | (a, b) :: r => by
    unfold lookF
    rw [List.lookup, Site.beqF_eq', lookF_eq s r]
    cases (s == a) <;> rfl
def AS.bF (σ : AS) (s : Site) : Option Box := lookF s σ.bx
theorem AS.bF_eq (σ : AS) (s : Site) : σ.bF s = σ.b s := lookF_eq s σ.bx
def memF (s : Site) : List Site → Bool
  | [] => false
  | a :: r => match s.beqF a with
    | true => true
    | false => memF s r
theorem memF_eq (s : Site) : ∀ l : List Site, memF s l = l.contains s
  | [] => rfl
  | a :: r => by
    unfold memF
    rw [List.contains_cons, Site.beqF_eq', memF_eq s r]
    cases (s == a) <;> rfl
end Go.Proofs.Ytohhjnpiiackjaa
/-! An evaluation of Go's code over plain values, carried out: operations. Over any program. -/
namespace Go.Proofs.Ytohhjnpiiackjaa
open Go.RowKit
def natI (z : Int) : Option Nat := match decide (0 ≤ z) with
  | true => some z.toNat
  | false => none
theorem natI_iff {z : Int} {n : Nat} : natI z = some n ↔ z = n := by
  unfold natI
  by_cases h : 0 ≤ z
  · simp [h]; omega
  · simp [h]; omega
def okCells (n : Nat) (x : PV) : Bool := (x.cells.length == n) && ((AV.pv x).wide || (AV.pv x).one)
def opXR (l : XOp) (d : Nat) (σ : AS) : Option (AV × AS) :=
  match l with
  | .eqv neg kt x y => match σ.o x, σ.o y with
    | .pv a, .pv b => match kt.ok a && kt.ok b with
      | true => some (.pv (.bool (eqK a b != neg)), σ)
      | false => none
    | _, _ => none
  | .mmk => some (.mp (.loc d 0), (σ.purgeF d).add (.loc d 0) (.map []))
  | .look kt z ok x i => match σ.o i with
    | .pv k => match kt.ok k with
      | true => match σ.o x with
        | .mp s => match σ.bF s with
          | some (.map es) => match keysOk kt es with
            | true => some (lookA ok (findV k es) z, σ)
            | false => none
          | _ => none
        | .pv .nilmap => some (lookA ok none z, σ)
        | _ => none
      | false => none
    | _ => none
  | .upd kt x i v => match σ.o i with
    | .pv k => match kt.ok k with
      | true => match σ.o x with
        | .mp s => match (σ.frzA (σ.o v)).bF s, (σ.frzA (σ.o v)).o v with
          | some (.map es), .pv val => match keysOk kt es with
            | true => some (.any, (σ.frzA (σ.o v)).set s (.map (putK k val es)))
            | false => none
          | _, _ => none
        | _ => none
      | false => none
    | _ => none
  | .mlen x => match σ.o x with
    | .mp s => match σ.bF s with
      | some (.map es) => some (.pv (.int .i64 es.length), σ)
      | _ => none
    | .pv .nilmap => some (.pv (.int .i64 0), σ)
    | _ => none
  | .copy n x y => match σ.cont (σ.o y) n with
    | some ys => match σ.o x with
      | .pv (.emp _) => some (.pv (.int .i64 0), σ)
      | .vec s n' lo len => match σ.bF s with
        | some (.arr e n'' xs) => match (n' == n) && (n'' == n) && Nat.ble (lo + len) xs.length with
          | true => some (.pv (.int .i64 (ys.take len).length), σ.set s (.arr e n (splice xs lo (ys.take len))))
          | false => none
        | _ => none
      | _ => none
    | none => none
  | .clear n z x => match σ.o x with
    | .pv (.emp _) => some (.pv (.tup []), σ)
    | .vec s n' lo len => match σ.bF s with
      | some (.arr e n'' xs) => match (n' == n) && (n'' == n) && Nat.ble (lo + len) xs.length with
        | true => some (.pv (.tup []), σ.set s (.arr e n (splice xs lo (List.replicate len z))))
        | false => none
      | _ => none
    | _ => none
  | .sla n x hi => match σ.o hi with
    | .pv (.int _ h) => match natI h with
      | some k => match σ.o x with
        | .ptr s off => match σ.bF s with
          | some (.cells as') => match unpvs as' with
            | some xs => match Nat.ble k n && Nat.ble (off + n) xs.length with
              | true => some (.pv (.lst false 1 ((xs.drop off).take k)), σ.frz s)
              | false => none
            | none => none
          | _ => none
        | .pv (.ref xs) => match Nat.ble k n && Nat.ble n xs.length with
          | true => some (.pv (.lst false 1 (xs.take k)), σ)
          | false => none
        | _ => none
      | none => none
    | _ => none
  | .slw _ _ _ _ => none
  | .slen x => match σ.o x with
    | .pv (.str s) => some (.pv (.int .i64 s.size), σ)
    | _ => none
  | .sidx x i => match σ.o x, σ.o i with
    | .pv (.str s), .pv (.int _ z) => match sAt s z with
      | some b => some (.pv (.int .u8 b.toNat), σ)
      | none => none
    | _, _ => none
  | .ssl x lo hi => match σ.o x with
    | .pv (.str s) => match σ.ob lo 0, σ.ob hi s.size with
      | some l, some h => match natI l, natI h with
        | some i, some j => match Nat.ble i j && Nat.ble j s.size with
          | true => some (.pv (.str (s.extract i j)), σ)
          | false => none
        | _, _ => none
      | _, _ => none
    | _ => none
  | .scat x y => match σ.o x, σ.o y with
    | .pv (.str a), .pv (.str b) => match Nat.ble (a.size + b.size) 9223372036854775807 with
      | true => some (.pv (.str (a ++ b)), σ)
      | false => none
    | _, _ => none
  | .sbyt _ x => match σ.o x with
    | .pv (.str s) => match Nat.ble s.size 1000000 with
      | true => some (.pv (.lst false 1 (bytesP s)), σ)
      | false => none
    | _ => none
  | .sof x => match σ.cont (σ.o x) 1 with
    | some xs => match bytesN xs with
      | some ns => some (.pv (.str (bytesS ns)), σ)
      | none => none
    | none => none
  | .mif t x => match σ.o x with
    | .pv a => some (.pv (.iface t a), σ)
    | _ => none
  | .nif neg x => match σ.o x with
    | .pv .nilif => some (.pv (.bool (!neg)), σ)
    | .pv (.iface _ _) => some (.pv (.bool neg), σ)
    | _ => none
  | .tas t z x => match σ.o x with
    | .pv .nilif => some (.pv (.tup [z, .bool false]), σ)
    | .pv (.iface u a) => some (.pv (.tup (if u = t then [a, .bool true] else [z, .bool false])), σ)
    | _ => none
  | .pan _ => none
  | .alB _ _ => none
  | .aps e n bytes x y => match σ.o y with
    | .pv (.str s0) => match σ.o x with
      | .pv (.emp _) => match Nat.ble (bytesP s0).length 1000000 && Nat.ble bytes 1000 with
        | true => some (.vec (.loc d 0) n 0 (bytesP s0).length, (σ.purgeF d).add (.loc d 0) (.arr e n (bytesP s0)))
        | false => none
      | .vec s n' lo len => match σ.bF s with
        | some (.arr e' n'' xs) => match (e' == e) && (n' == n) && (n'' == n) && (lo + len == xs.length) && Nat.ble (len + (bytesP s0).length) 1000000 && Nat.ble bytes 1000 with
          | true => some (.vec (.loc d 0) n 0 (len + (bytesP s0).length), ((σ.drop s).purgeF d).add (.loc d 0) (.arr e n (xs.drop lo ++ bytesP s0)))
          | false => none
        | _ => none
      | _ => none
    | _ => none
theorem fitA {a b : Nat} (h1 : a ≤ 1000000) (h2 : b ≤ 1000) : a * b ≤ 140737488355328 ∧ a ≤ 9223372036854775807 :=
  ⟨Nat.le_trans (Nat.mul_le_mul h1 h2) (by decide), by omega⟩
theorem opXR_sound {l : XOp} {d : Nat} {σ τ : AS} {a : AV} {K : AV → AS → Prop} (h : opXR l d σ = some (a, τ)) (hK : K a τ) : opWpX l d K σ := by
  cases l
  all_goals
    simp only [opXR, AS.purgeF_eq, AS.bF_eq] at h
    simp only [opWpX]
    repeat' split at h
    all_goals first
      | (cases h; done)
      | (cases h; simp_all; done)
      | (cases h; simp_all; exact fitA (by omega) (by omega))
      | (cases h; simp_all; omega)
      | (cases h; simp_all [natI_iff]; done)
      | (cases h; simp_all [natI_iff]; omega)
/-- What an operation comes to, carried out. -/
def opR (l : LOp) (d : Nat) (σ : AS) : Option (AV × AS) :=
  match l with
  | .mov x => some (σ.o x, σ)
  | .pick c a b => match σ.o c with
    | .pv (.bool true) => some (σ.o a, σ)
    | .pv (.bool false) => some (σ.o b, σ)
    | _ => none
  | .bin bt op x y => match σ.o x, σ.o y with
    | .pv (.int k a), .pv (.int k' b) => match binI op k k' a b with
      | some r => some (.pv r, σ)
      | none => none
    | .pv (.bool a), .pv (.bool b) => match bt with
      | true => match binB op a b with
        | some r => some (.pv r, σ)
        | none => none
      | false => none
    | _, _ => none
  | .not x => match σ.o x with
    | .pv (.bool a) => some (.pv (.bool (!a)), σ)
    | _ => none
  | .neg x => match σ.o x with
    | .pv (.int k a) => some (.pv (.int k (k.wrap (0 - a))), σ)
    | _ => none
  | .nilq k neg x => match nilOf k (σ.o x) with
    | some b => some (.pv (.bool (b != neg)), σ)
    | none => none
  | .x y => opXR y d σ
  | .box n x => let a := (σ.purgeF d).o x
    match (a.cells.length == n) && (a.wide || a.one) with
    | true => some (.ptr (.loc d 0) 0, (σ.purgeF d).add (.loc d 0) (.cells a.cells))
    | false => none
  | .alloc z => some (.ptr (.loc d 0) 0, (σ.purgeF d).add (.loc d 0) (.cells (z.cells.map .pv)))
  | .build z ps => match fillA σ (z.cells.map .pv) ps with
    | some l => some (ofCells l, σ)
    | none => none
  | .bslice e n ps => match (σ.frzs ps).pvs ps with
    | some [] => some (.pv (.emp (some false)), σ)
    | some (x :: xs) => match (x :: xs).all (okCells n) with
      | true => some (.vec (.loc d 0) n 0 (x :: xs).length, ((σ.frzs ps).purgeF d).add (.loc d 0) (.arr e n (x :: xs)))
      | false => none
    | none => none
  | .load row n x => match σ.o x with
    | .pv (.ref cs) => match row with
      | true => match Nat.ble n cs.length with
        | true => some (.pv (.agg (cs.take n)), σ)
        | false => none
      | false => match cs with
        | c :: _ => some (.pv c, σ)
        | [] => none
    | .ptr s off => match σ.bF s with
      | some (.cells as) => match row with
        | true => match Nat.ble (off + n) as.length with
          | true => some (ofCells ((as.drop off).take n), σ)
          | false => none
        | false => match as[off]? with
          | some a => some (a, σ)
          | none => none
      | _ => none
    | .elt s n' i off => match σ.bF s with
      | some (.arr _ n'' xs) => match xs[i]? with
        | some x => match n' == n'' with
          | true => match row with
            | true => match Nat.ble (off + n) x.cells.length with
              | true => some (.pv (.agg ((x.cells.drop off).take n)), σ)
              | false => none
            | false => match x.cells[off]? with
              | some c => some (.pv c, σ)
              | none => none
          | false => none
        | none => none
      | some (.rows _ _ _ els) => match els[i]? with
        | some (.av a) => match (n' == 1) && (off == 0) && !row with
          | true => some (a, σ)
          | false => none
        | _ => none
      | _ => none
    | _ => none
  | .store n x y => match σ.o x with
    | .ptr s off => match σ.bF s with
      | some (.cells as) => let a := σ.o y
        match (a.cells.length == n) && (a.wide || a.one) && Nat.ble (off + n) as.length with
        | true => some (.any, σ.set s (.cells (splice as off a.cells)))
        | false => none
      | _ => none
    | .elt s n' i off => match σ.bF s with
      | some (.rows e e2 n2 els) => match (n == 1) && (n' == 1) && (off == 0) && Nat.blt i els.length && (σ.o y).one with
        | true => some (.any, σ.set s (.rows e e2 n2 (els.set i (.av (σ.o y)))))
        | false => none
      | some (.arr _ _ _) => match (σ.frzA (σ.o y)).bF s, (σ.frzA (σ.o y)).o y with
        | some (.arr e n'' xs), .pv p => match xs[i]? with
          | some x => match (n' == n'') && Nat.blt 0 n && okCells n p && Nat.ble (off + n) x.cells.length with
            | true => some (.any, (σ.frzA (σ.o y)).set s (.arr e n'' (xs.set i (setAt x off p))))
            | false => none
          | none => none
        | _, _ => none
      | _ => none
    | _ => none
  | .fa off x => match σ.o x with
    | .pv (.ref cs) => match Nat.ble off cs.length with
      | true => some (.pv (.ref (cs.drop off)), σ)
      | false => none
    | .ptr s o => some (.ptr s (o + off), σ)
    | .elt s n i o => some (.elt s n i (o + off), σ)
    | _ => none
  | .fld row off n x => let a := σ.o x
    match a.wide with
    | true => match row with
      | true => match Nat.ble (off + n) a.cells.length with
        | true => some (ofCells ((a.cells.drop off).take n), σ)
        | false => none
      | false => match a.cells[off]? with
        | some c => some (c, σ)
        | none => none
    | false => none
  | .ia n arr x i => match σ.o i with
    | .pv (.int _ zi) => match natI zi with
      | none => none
      | some z => match arr with
        | none => match σ.o x with
          | .pv (.lst _ n' xs) => match xs[z]? with
            | some y => match n' == n with
              | true => some (.pv (.ref y.cells), σ)
              | false => none
            | none => none
          | .vec s n' lo len => match (n' == n) && Nat.blt z len with
            | true => some (.elt s n (lo + z) 0, σ)
            | false => none
          | _ => none
        | some l => match Nat.blt z l with
          | true => match σ.o x with
            | .pv (.ref cs) => match Nat.ble (z * n) cs.length with
              | true => some (.pv (.ref (cs.drop (z * n))), σ)
              | false => none
            | .ptr s o => some (.ptr s (o + z * n), σ)
            | .elt s n' j o => some (.elt s n' j (o + z * n), σ)
            | _ => none
          | false => none
    | _ => none
  | .len arr x => match arr with
    | some l => some (.pv (.int .i64 l), σ)
    | none => match σ.o x with
      | .pv (.lst _ _ xs) => some (.pv (.int .i64 xs.length), σ)
      | .pv (.emp _) => some (.pv (.int .i64 0), σ)
      | .vec _ _ _ len => some (.pv (.int .i64 len), σ)
      | _ => none
  | .ext x i => match σ.o x with
    | .pv (.tup vs) => match vs[i]? with
      | some v => some (.pv v, σ)
      | none => none
    | .tup vs => match vs[i]? with
      | some v => some (v, σ)
      | none => none
    | _ => none
  | .mkf f fs cs => match σ.pvs fs, σ.pvs cs with
    | some a, some b => some (.pv (.fn f a b), σ)
    | _, _ => some (.fn f (fs.map σ.o) (cs.map σ.o), σ)
  | .nilc x => match σ.o x with
    | .pv (.ref cs) => some (.pv (.ref cs), σ)
    | .ptr s o => some (.ptr s o, σ)
    | .elt s n i o => some (.elt s n i o, σ)
    | _ => none
  | .minmax mx x y => match σ.o x, σ.o y with
    | .pv (.int k a), .pv (.int _ b) => some (.pv (.int k (if mx = true then (if b > a then b else a) else (if b < a then b else a))), σ)
    | _, _ => none
  | .conv k x => match σ.o x with
    | .pv (.int _ a) => some (.pv (.int k (k.wrap a)), σ)
    | _ => none
  | .app e n bytes x y => match σ.cont (σ.o y) n with
    | some ys => match σ.o x with
      | .pv (.emp _) => match Nat.ble ys.length 1000000 && Nat.ble bytes 1000 with
        | true => some (.vec (.loc d 0) n 0 ys.length, (σ.purgeF d).add (.loc d 0) (.arr e n ys))
        | false => none
      | .vec s n' lo len => match σ.bF s with
        | some (.arr e' n'' xs) => match (e' == e) && (n' == n) && (n'' == n) && (lo + len == xs.length) && Nat.ble (len + ys.length) 1000000 && Nat.ble bytes 1000 with
          | true => some (.vec (.loc d 0) n 0 (len + ys.length), ((σ.drop s).purgeF d).add (.loc d 0) (.arr e n (xs.drop lo ++ ys)))
          | false => none
        | _ => none
      | _ => none
    | none => none
  | .app0 e n bytes x y => match σ.cont (σ.o y) n with
    | some ys => match σ.o x with
      | .pv (.emp _) => match Nat.ble ys.length 1000000 && Nat.ble bytes 1000 with
        | true => some (.vec (.loc d 0) n 0 ys.length, (σ.purgeF d).add (.loc d 0) (.arr e n ys))
        | false => none
      | _ => none
    | none => none
  | .mks e n bytes z l c => match σ.o l, σ.o c with
    | .pv (.int _ ai), .pv (.int _ bi) => match natI ai, natI bi with
      | some a, some b => match Nat.ble a b && Nat.ble b 1000000 && Nat.ble bytes 1000 with
        | true => some (.vec (.loc d 0) n 0 a, (σ.purgeF d).add (.loc d 0) (.arr e n (List.replicate a z)))
        | false => none
      | _, _ => none
    | _, _ => none
  | .slc n none x lo hi none => match σ.ob lo 0 with
    | some li => match natI li with
      | none => none
      | some l => match σ.o x with
        | .pv (.lst nn n' xs) => match σ.ob hi xs.length with
          | some hh => match natI hh with
            | some h => match Nat.ble l h && Nat.ble h xs.length && (n' == n) with
              | true => some (.pv (.lst nn n ((xs.take h).drop l)), σ)
              | false => none
            | none => none
          | none => none
        | .pv (.emp nl) => match σ.ob hi 0 with
          | some hh => match natI hh with
            | some h => match (l == 0) && (h == 0) with
              | true => some (.pv (.emp nl), σ)
              | false => none
            | none => none
          | none => none
        | .vec s n' lo0 len => match σ.ob hi len with
          | some hh => match natI hh with
            | some h => match Nat.ble l h && Nat.ble h len && (n' == n) with
              | true => some (.vec s n (lo0 + l) (h - l), σ)
              | false => none
            | none => none
          | none => none
        | _ => none
    | none => none
  | _ => none
theorem opR_sound {l : LOp} {d : Nat} {σ τ : AS} {a : AV} {K : AV → AS → Prop} (h : opR l d σ = some (a, τ)) (hK : K a τ) : opWp l d K σ := by
  cases l
  case x y => exact opXR_sound h hK
  case bslice e n ps =>
    simp only [opR, AS.purgeF_eq, AS.bF_eq] at h
    simp only [opWp]
    cases hx : (σ.frzs ps).pvs ps with
    | none => rw [hx] at h; cases h
    | some xs =>
      rw [hx] at h
      cases xs with
      | nil => cases h; exact hK
      | cons x r =>
        dsimp only at h ⊢
        split at h
        · rename_i hall
          cases h
          refine ⟨fun y hy => ?_, hK⟩
          have := List.all_eq_true.1 hall y hy
          simpa [okCells] using this
        · cases h
  case minmax mx x y =>
    simp only [opR, AS.purgeF_eq, AS.bF_eq] at h
    simp only [opWp]
    split at h
    · rename_i e1 e2
      cases h
      rw [e1, e2]
      exact hK
    · cases h
  case store n x y =>
    simp only [opR, AS.purgeF_eq, AS.bF_eq] at h
    simp only [opWp]
    split at h
    · rename_i s off e1
      rw [e1]
      dsimp only
      split at h
      · rename_i as hb
        rw [hb]
        dsimp only
        split at h
        · rename_i hc
          cases h
          simp only [Bool.and_eq_true, beq_iff_eq, Bool.or_eq_true, Nat.ble_eq] at hc
          exact ⟨hc.1.1, hc.1.2, hc.2, hK⟩
        · cases h
      · cases h
    · rename_i s n' i off e1
      rw [e1]
      dsimp only
      split at h
      · rename_i e e2 n2 els hb
        rw [hb]
        dsimp only
        split at h
        · rename_i hc
          cases h
          simp only [Bool.and_eq_true, beq_iff_eq] at hc
          exact ⟨⟨hc.1.1.1.1, hc.1.1.1.2, hc.1.1.2, Nat.le_of_ble_eq_true hc.1.2, hc.2⟩, hK⟩
        · cases h
      · rename_i e0 n0 xs0 hb
        rw [hb]
        dsimp only
        split at h
        · rename_i e n'' xs p hb2 hp
          rw [hb2, hp]
          dsimp only
          split at h
          · rename_i x hx
            rw [hx]
            dsimp only
            split at h
            · rename_i hc
              cases h
              simp only [Bool.and_eq_true, beq_iff_eq, Nat.ble_eq, okCells, Bool.or_eq_true] at hc
              exact ⟨hc.1.1.1, Nat.le_of_ble_eq_true hc.1.1.2, hc.1.2.1, hc.1.2.2, hc.2, hK⟩
            · cases h
          · cases h
        · cases h
      · cases h
    · cases h
  case app e n bytes x y =>
    simp only [opR, AS.purgeF_eq, AS.bF_eq] at h
    simp only [opWp]
    repeat' split at h
    all_goals first
      | contradiction
      | (cases h; done)
      | (cases h; simp_all [okCells, natI_iff]; exact fitA (by omega) (by omega))
      | (cases h; simp_all [okCells, natI_iff]; exact .inl (fitA (by omega) (by omega)))
  case mkf f fs cs =>
    simp only [opR, AS.purgeF_eq, AS.bF_eq] at h
    simp only [opWp]
    cases h1 : σ.pvs fs <;> cases h2 : σ.pvs cs <;> (rw [h1, h2] at h; cases h; exact hK)
  all_goals
    simp only [opR, AS.purgeF_eq, AS.bF_eq] at h
    simp only [opWp]
    repeat' split at h
    all_goals first
      | contradiction
      | (cases h; done)
      | (cases h; simp_all [okCells, natI_iff]; done)
      | (cases h; simp_all [okCells, natI_iff]; omega)
      | (cases h; simp_all [okCells, natI_iff]; exact fitA (by omega) (by omega))
end Go.Proofs.Ytohhjnpiiackjaa
