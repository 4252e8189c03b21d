/- An evaluation of Go's code over plain values, carried out: code, calls, rounds. Over any program. (Several texts in one.) -/
import Derived.Test.YtohhjnpiiackjaaBaseC
set_option linter.unusedVariables false
set_option linter.unusedSimpArgs false
/-! An evaluation of Go's code over plain values, carried out: code, calls, rounds. Over any program. -/
namespace Go.Proofs.Ytohhjnpiiackjaa
open Go.RowKit
def nodupB : List Site → Bool
  | [] => true
  | s :: r => !memF s r && nodupB r
theorem nodupB_spec : ∀ {l : List Site}, nodupB l = true → l.Nodup
  | [], _ => List.nodup_nil
  | s :: r, h => by
    simp only [nodupB, Bool.and_eq_true, Bool.not_eq_true'] at h
    exact List.nodup_cons.2 ⟨by have := h.1; rw [memF_eq] at this; simpa using this, nodupB_spec h.2⟩
def fnOf : AV → Option (FuncId × List AV × List AV)
  | .fn g fs cs => some (g, fs, cs)
  | .pv (.fn g fs cs) => some (g, fs.map .pv, cs.map .pv)
  | _ => none
/-- The table of rounds' codes. -/
abbrev TYR := Nat → List Nat → Option (LCode × LCode × (Code × Code))
/-- How far references are followed. -/
def fuel : Nat := 4000
/-! What is known on both ways -/
mutual
def PV.beq : PV → PV → Bool
  | .int k a, .int k' b => decide (k = k') && decide (a = b)
  | .bool a, .bool b => decide (a = b)
  | .str a, .str b => decide (a.data.toList = b.data.toList)
  | .nilp, .nilp => true
  | .nilfn, .nilfn => true
  | .nilmap, .nilmap => true
  | .nilif, .nilif => true
  | .opq, .opq => true
  | .emp a, .emp b => decide (a = b)
  | .lst a n xs, .lst b m ys => decide (a = b) && decide (n = m) && PV.beqL xs ys
  | .ref xs, .ref ys => PV.beqL xs ys
  | .fn f a b, .fn g c d => decide (f = g) && PV.beqL a c && PV.beqL b d
  | .agg xs, .agg ys => PV.beqL xs ys
  | .tup xs, .tup ys => PV.beqL xs ys
  | .iface t x, .iface u y => decide (t = u) && PV.beq x y
  | _, _ => false
def PV.beqL : List PV → List PV → Bool
  | [], [] => true
  | x :: xs, y :: ys => PV.beq x y && PV.beqL xs ys
  | _, _ => false
end
mutual
def AV.beq : AV → AV → Bool
  | .any, .any => true
  | .pv x, .pv y => x.beq y
  | .ptr s a, .ptr t b => decide (s = t) && decide (a = b)
  | .elt s n i a, .elt t m j b => decide (s = t) && decide (n = m) && decide (i = j) && decide (a = b)
  | .vec s n i a, .vec t m j b => decide (s = t) && decide (n = m) && decide (i = j) && decide (a = b)
  | .mp s, .mp t => decide (s = t)
  | .yld s, .yld t => decide (s = t)
  | .fn f a b, .fn g c d => decide (f = g) && AV.beqL a c && AV.beqL b d
  | .agg xs, .agg ys => AV.beqL xs ys
  | .tup xs, .tup ys => AV.beqL xs ys
  | _, _ => false
def AV.beqL : List AV → List AV → Bool
  | [], [] => true
  | x :: xs, y :: ys => AV.beq x y && AV.beqL xs ys
  | _, _ => false
end
def beqM : List (PV × PV) → List (PV × PV) → Bool
  | [], [] => true
  | (a, b) :: xs, (c, d) :: ys => a.beq c && b.beq d && beqM xs ys
  | _, _ => false
def beqT : List (Nat × AV) → List (Nat × AV) → Bool
  | [], [] => true
  | (t, a) :: xs, (u, b) :: ys => decide (t = u) && a.beq b && beqT xs ys
  | _, _ => false
def beqSt : Option Code → Option Code → Bool
  | none, none => true
  | some .ret, some .ret => true
  | some (.exit i), some (.exit j) => decide (i = j)
  | _, _ => false
def Box.beq (TY : TYR) : Box → Box → Bool
  | .cells a, .cells b => AV.beqL a b
  | .arr e n xs, .arr f m ys => decide (e = f) && decide (n = m) && PV.beqL xs ys
  | .map a, .map b => beqM a b
  | .loop _ ps nt tm st, .loop _ ps' nt' tm' st' => decide (ps = ps') && decide (nt = nt') && (TY nt ps).isSome && beqSt st st' && beqT tm tm'
  | _, _ => false
/-! ### What the records of loops bear -/
def COk (P : Program) (TY : TYR) : LCode → Prop
  | .seq a b => COk P TY a ∧ COk P TY b
  | .cond _ a b => COk P TY a ∧ COk P TY b
  | .block _ c => COk P TY c
  | .loop c => COk P TY c
  | .rng nt _ C la lb ps => litC P nt C.1 = some la ∧ litC P nt C.2 = some lb ∧ TY nt ps = some (la, lb, C) ∧ COk P TY la ∧ COk P TY lb
  | _ => True
def tabOk (TY : TYR) : LCode → Prop
  | .seq a b => tabOk TY a ∧ tabOk TY b
  | .cond _ a b => tabOk TY a ∧ tabOk TY b
  | .block _ c => tabOk TY c
  | .loop c => tabOk TY c
  | .rng nt _ C la lb ps => TY nt ps = some (la, lb, C) ∧ tabOk TY la ∧ tabOk TY lb
  | _ => True
theorem litC_ok {P : Program} {TY : TYR} {N : Nat} : ∀ (c : Code) (l : LCode), litC P N c = some l → tabOk TY l → COk P TY l := by
  intro c
  induction c with
  | seq a b iha ihb =>
    intro l h ht
    simp only [litC] at h
    split at h
    · rename_i x y h1 h2; cases h; exact ⟨iha _ h1 ht.1, ihb _ h2 ht.2⟩
    · cases h
  | cond c a b iha ihb =>
    intro l h ht
    simp only [litC] at h
    split at h
    · rename_i c' x y h0 h1 h2; cases h; exact ⟨iha _ h1 ht.1, ihb _ h2 ht.2⟩
    · cases h
  | block id c ih =>
    intro l h ht
    simp only [litC, Option.map_eq_some_iff] at h
    obtain ⟨x, k1, rfl⟩ := h
    exact ih x k1 ht
  | loop c ih =>
    intro l h ht
    simp only [litC, Option.map_eq_some_iff] at h
    obtain ⟨x, k1, rfl⟩ := h
    exact ih x k1 ht
  | scope c ih => intro l h ht; exact ih l h ht
  | rangeFunc g ps a b iha ihb =>
    intro l h ht
    simp only [litC] at h
    split at h
    · rename_i g' x y h0 h1 h2; cases h; exact ⟨h1, h2, ht.1, iha _ h1 ht.2.1, ihb _ h2 ht.2.2⟩
    · cases h
  | region id ops draw =>
    intro l h ht
    simp only [litC] at h
    split at h
    · cases h; trivial
    · split at h
      · simp only [Option.map_eq_some_iff] at h
        obtain ⟨x, _, rfl⟩ := h; trivial
      · cases h
  | _ => intro l h ht; simp [litC] at h <;> subst h <;> trivial
def Box.good (P : Program) (TY : TYR) : Box → Prop
  | .loop C ps nt _ _ => ∀ la lb C', TY nt ps = some (la, lb, C') → C = C' ∧ litC P nt C.1 = some la ∧ litC P nt C.2 = some lb ∧ COk P TY la ∧ COk P TY lb
  | _ => True
section
variable {P : Program} {TY : TYR}
theorem opWp_mono {l : LOp} {d : Nat} {σ : AS} {K K' : AV → AS → Prop} (hk : ∀ a τ, K a τ → K' a τ) (h : opWp l d K σ) : opWp l d K' σ := by
  cases l
  case x y =>
    simp only [opWp] at h ⊢
    cases y
    all_goals
      simp only [opWpX] at h ⊢
      repeat' split at h
      all_goals first
        | exact h.elim
        | exact hk _ _ h
        | exact ⟨h.1, hk _ _ h.2⟩
        | exact ⟨h.1, h.2.1, hk _ _ h.2.2⟩
        | (simp_all; done)
        | (simp_all <;> first | exact hk _ _ h.2 | exact hk _ _ h | exact hk _ _ h.2.2)
  case minmax mx x y =>
    simp only [opWp] at h ⊢
    split at h
    · exact hk _ _ h
    · exact h.elim
  case app e n bytes x y =>
    simp only [opWp] at h ⊢
    split at h
    · split at h
      · exact ⟨h.1, h.2.1, hk _ _ h.2.2⟩
      · split at h
        · exact h.imp (fun h => ⟨h.1, h.2.1, h.2.2.1, hk _ _ h.2.2.2⟩) (fun h => ⟨h.1, h.2.1, h.2.2.1, hk _ _ h.2.2.2.1, hk _ _ h.2.2.2.2⟩)
        · exact h.elim
      · exact h.elim
    · exact h.elim
  all_goals
    simp only [opWp] at h ⊢
    repeat' split at h
    all_goals first
      | exact h.elim
      | (obtain ⟨D, e, xs, x, h1, h2, h3, h4, h5, h6, h7⟩ := h; exact ⟨D, e, xs, x, h1, h2, h3, h4, h5, h6, hk _ _ h7⟩)
      | (simp_all; done)
      | (simp_all <;> first | exact hk _ _ h.2 | exact hk _ _ h | exact hk _ _ h.2.2)
theorem callWp_mono {f : Opd} {args : List Opd} {d : Nat} {σ : AS} {K K' : AV → AS → Prop} (hk : ∀ a τ, K a τ → K' a τ) (h : callWp P f args d K σ) : callWp P f args d K' σ := by
  rcases h with ⟨k, g, fs, xs, cs, h1, h2, h3⟩ | ⟨fz, g, fs, xs, cs, h1, h2, h3⟩
  · exact .inl ⟨k, g, fs, xs, cs, h1, h2, h3.mono (fun _ _ ⟨y, e1, e2, e3⟩ => ⟨y, e1, e2, hk _ _ e3⟩)⟩
  · exact .inr ⟨fz, g, fs, xs, cs, h1, h2, h3.mono (fun _ _ ⟨e1, e2⟩ => ⟨e1, hk _ _ e2⟩)⟩
theorem callLwp_mono {f : Opd} {args : List Opd} {σ : AS} {K K' : AV → AS → Prop} (hk : ∀ a τ, K a τ → K' a τ) (h : callLwp P f args K σ) : callLwp P f args K' σ := by
  obtain ⟨d, fz, lent, g, fs, cs, B, h1, h2, h3, h4, h5, h6⟩ := h
  exact ⟨d, fz, lent, g, fs, cs, B, h1, h2, h3, h4, h5, h6.mono (fun _ _ ⟨e1, e2, e3⟩ => ⟨e1, e2, hk _ _ e3⟩)⟩
theorem callYwp_mono {f : Opd} {args : List Opd} {σ : AS} {K K' : AV → AS → Prop} (hk : ∀ a τ, K a τ → K' a τ) (h : callYwp P f args K σ) : callYwp P f args K' σ := by
  obtain ⟨d, fz, lent, s, i, B, h1, h2, h3, h4, h5, h6, h7⟩ := h
  refine ⟨d, fz, lent, s, i, B, h1, h2, h3, h4, h5, h6, fun w m ρ vs a1 a2 a3 a4 => ?_⟩
  obtain ⟨r, k1, k2, k3⟩ := h7 w m ρ vs a1 a2 a3 a4
  exact ⟨r, k1, k2, k3.mono (fun e w' ⟨v, r, B', ρ', m', q1, ⟨e1, e2, e3⟩, q2⟩ => ⟨v, r, B', ρ', m', q1, ⟨e1, e2, hk _ _ e3⟩, q2⟩)⟩
theorem runWp_mono {o : LO} {σ : AS} {K K' : AV → AS → Prop} (hk : ∀ a τ, K a τ → K' a τ) (h : runWp P o K σ) : runWp P o K' σ := by
  unfold runWp at h ⊢
  split at h
  · rcases h with h | ⟨hlt, h | h⟩
    · exact Or.inl (callWp_mono hk h)
    · exact Or.inr ⟨hlt, Or.inl (callLwp_mono hk h)⟩
    · exact Or.inr ⟨hlt, Or.inr (callYwp_mono hk h)⟩
  · exact opWp_mono hk h
theorem loWp_mono {o : LO} {σ : AS} {K K' : AS → Prop} (hk : ∀ τ, K τ → K' τ) (h : loWp P o K σ) : loWp P o K' σ := by
  unfold loWp at h ⊢
  split at h
  · exact runWp_mono (fun a τ q => hk _ q) h
  · split at h
    · split at h
      · rename_i e; rw [if_pos e]; exact runWp_mono (fun a τ q => hk _ q) h
      · rename_i e; rw [if_neg e]; exact hk _ h
    · exact hk _ h
    · exact h.elim
theorem opsWp_mono : ∀ {l : List LO} {σ : AS} {K K' : AS → Prop}, (∀ τ, K τ → K' τ) → opsWp P l K σ → opsWp P l K' σ
  | [], σ, K, K', hk, h => hk _ h
  | o :: r, σ, K, K', hk, h => loWp_mono (fun τ q => q.mono fun τ q => opsWp_mono hk q) h
theorem opsT_mono : ∀ {l : LT} {σ : AS} {K K' : AS → Prop}, (∀ τ, K τ → K' τ) → opsT P l K σ → opsT P l K' σ
  | .done, σ, K, K', hk, h => hk _ h
  | .op o t, σ, K, K', hk, h => loWp_mono (fun τ q => opsT_mono hk q) h
  | .alt o t r, σ, K, K', hk, h => ⟨loWp_mono (fun τ q => opsT_mono hk q) h.1, opsT_mono hk h.2⟩
  | .no, σ, K, K', hk, h => trivial
  | .seq t r, σ, K, K', hk, ⟨J, h1, h2⟩ => ⟨J, h1, fun τ q => opsT_mono hk (h2 τ q)⟩
theorem jumpQ_mono {Q Q' : AEx → AS → Prop} (hk : ∀ e τ, Q e τ → Q' e τ) : ∀ {st : Option Code} {σ : AS}, jumpQ Q st σ → jumpQ Q' st σ := by
  intro st σ h
  cases st with
  | none => exact hk _ _ h
  | some c => cases c <;> first | exact hk _ _ h | exact h.elim
theorem awp_mono : ∀ {c : LCode} {σ : AS} {Q Q' : AEx → AS → Prop}, awp P c Q σ → (∀ e τ, Q e τ → Q' e τ) → awp P c Q' σ
  | .skip, σ, Q, Q', h, hk => hk _ _ h
  | .region ops, σ, Q, Q', h, hk => opsWp_mono (fun τ q => hk _ _ q) h
  | .regT t, σ, Q, Q', h, hk => opsT_mono (fun τ q => hk _ _ q) h
  | .seq a b, σ, Q, Q', h, hk => awp_mono (c := a) h (fun e τ q => by
      cases e with
      | normal => exact awp_mono (c := b) q hk
      | exit id => exact hk _ _ q
      | ret => exact hk _ _ q)
  | .cond c a b, σ, Q, Q', h, hk => by
      unfold awp at h ⊢
      split at h
      · split at h
        · rename_i e; rw [if_pos e]; exact awp_mono h hk
        · rename_i e; rw [if_neg e]; exact awp_mono h hk
      · exact h.elim
  | .block id c, σ, Q, Q', h, hk => awp_mono (c := c) h (fun e τ q => by
      cases e with
      | normal => exact hk _ _ q
      | exit id' =>
        by_cases e : id' = id
        · simp only [blockA, e, if_true] at q ⊢; exact hk _ _ q
        · simp only [blockA, e, if_false] at q ⊢; exact hk _ _ q
      | ret => exact hk _ _ q)
  | .loop c, σ, Q, Q', ⟨I, n, τ, h1, h2, h3⟩, hk => ⟨I, n, τ, h1, h2, fun n τ hI => awp_mono (c := c) (h3 n τ hI) (fun e τ q => by
      cases e with
      | normal => exact q
      | exit id => exact hk _ _ q
      | ret => exact hk _ _ q)⟩
  | .exit id, σ, Q, Q', h, hk => hk _ _ h
  | .ret, σ, Q, Q', h, hk => hk _ _ h
  | .rng nt g C la lb ps, σ, Q, Q', ⟨τ0, hs0, fz, lent, tm, σ1, gf, fs, cs, B, h1, h2, h3, h4, h5, h6, h7, h8⟩, hk => ⟨τ0, hs0, fz, lent, tm, σ1, gf, fs, cs, B, h1, h2, h3, h4, h5, h6, h7, h8.mono (fun r B' ⟨e1, e2, e3⟩ => ⟨e1, e2, by
      revert e3
      cases (((dropL lent σ1).purge (nt + 1)).adds (renL lent (nt + 1) B')).b (.loc nt 0) with
      | none => exact fun h => h.elim
      | some b => cases b <;> first | exact fun h => h.elim | exact fun h => jumpQ_mono hk h⟩)⟩
end
end Go.Proofs.Ytohhjnpiiackjaa
/-! An evaluation of Go's code over plain values, carried out: what is carried out is so. Over any program. -/
namespace Go.Proofs.Ytohhjnpiiackjaa
open Go.RowKit
section
variable {P : Program} {TY : TYR}
theorem YieldsA.mono {i : Nat} {as : List AV} {B : List (Site × Box)} {Post Post' : AV → List (Site × Box) → Prop} (h : YieldsA P i as B Post) (hp : ∀ r B', Post r B' → Post' r B') : YieldsA P i as B Post' :=
  fun w m ρ vs a1 a2 a3 a4 => let ⟨r, k1, k2, k3⟩ := h w m ρ vs a1 a2 a3 a4; ⟨r, k1, k2, k3.mono (fun e w' ⟨v, r, B', ρ', m', q1, q2, q3⟩ => ⟨v, r, B', ρ', m', q1, hp _ _ q2, q3⟩)⟩
/-! ### What is known on both ways -/
end
end Go.Proofs.Ytohhjnpiiackjaa
/-! An evaluation of Go's code over plain values, carried out: tables of functions. Over any program. -/
namespace Go.Proofs.Ytohhjnpiiackjaa
open Go.RowKit
/-- The codes of the ranges over functions in a function, in order. -/
def rangeCodes : Code → List (Code × Code)
  | .seq a b => rangeCodes a ++ rangeCodes b
  | .cond _ a b => rangeCodes a ++ rangeCodes b
  | .block _ c => rangeCodes c
  | .loop c => rangeCodes c
  | .scope c => rangeCodes c
  | .rangeFunc _ _ a b => (a, b) :: (rangeCodes a ++ rangeCodes b)
  | _ => []
def rcode (P : Program) (f : FuncId) (k : Nat) : Code × Code := match P.funcs[f]? with
  | some fn => match fn.body with
    | some c => (rangeCodes c).getD k (.skip, .skip)
    | none => (.skip, .skip)
  | none => (.skip, .skip)
/-- Tables as lists. -/
def tyOf (l : List ((Nat × List Nat) × (LCode × LCode × (Code × Code)))) : TYR := fun nt ps => l.lookup (nt, ps)
theorem litF_ok {P : Program} {TY : TYR} {f : FuncId} {F : LFn} (h : litF P f = some F) (ht : tabOk TY F.code) : COk P TY F.code := by
  unfold litF at h
  split at h
  · split at h
    · cases h
    · split at h
      · split at h
        · rename_i l r h1 h2
          cases h
          exact litC_ok _ _ h1 ht
        · cases h
      · cases h
  · cases h
end Go.Proofs.Ytohhjnpiiackjaa
