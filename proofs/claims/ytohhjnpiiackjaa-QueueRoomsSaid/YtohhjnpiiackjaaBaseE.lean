/- An evaluation of Go's code over plain values, carried out: code, calls, rounds. Over any program. (Several texts in one.) -/
import Derived.Test.YtohhjnpiiackjaaBaseC
set_option linter.unusedVariables false
set_option linter.unusedSimpArgs false
/-! An evaluation of Go's code over plain values, carried out: code, calls, rounds. Over any program. -/
namespace Go.Proofs.Ytohhjnpiiackjaa
open Go.RowKit

mutual
def AV.sites : AV → List Site
  | .any => []
  | .pv _ => []
  | .ptr s _ => [s]
  | .elt s _ _ _ => [s]
  | .vec s _ _ _ => [s]
  | .mp s => [s]
  | .yld s => [s]
  | .fn _ fs cs => AV.sitesL fs ++ AV.sitesL cs
  | .agg cs => AV.sitesL cs
  | .tup vs => AV.sitesL vs
def AV.sitesL : List AV → List Site
  | [] => []
  | a :: r => AV.sites a ++ AV.sitesL r
end
def Box.sites : Box → List Site
  | .rows _ _ _ els => AV.sitesL (els.filterMap fun el => match el with
    | .av a => some a
    | .own _ => none)
  | .cells as => AV.sitesL as
  | .loop _ _ _ tm _ => AV.sitesL (tm.map (·.2))
  | _ => []
def AV.sitesG (a : AV) : List Site := match a.sitesF with
  | some l => l
  | none => a.sites
def sitesGL : List AV → List Site
  | [] => []
  | a :: r => match a.sitesF with
    | some [] => sitesGL r
    | some l => l ++ sitesGL r
    | none => a.sites ++ sitesGL r
def sitesGT : List (Nat × AV) → List Site
  | [] => []
  | (_, a) :: r => match a.sitesF with
    | some [] => sitesGT r
    | some l => l ++ sitesGT r
    | none => a.sites ++ sitesGT r
def Box.sitesG : Box → List Site
  | .rows e e2 n els => (Box.rows e e2 n els).sites
  | .cells as => sitesGL as
  | .loop _ _ _ tm _ => sitesGT tm
  | _ => []
/-- The boxes that are reached. -/
def reach (σ : AS) : Nat → List Site → List Site → List Site
  | 0, _, acc => acc
  | _ + 1, [], acc => acc
  | f + 1, s :: r, acc => match memF s acc with
    | true => reach σ f r acc
    | false => match σ.bF s with
      | some b => reach σ f (b.sitesG ++ r) (acc ++ [s])
      | none => reach σ f r acc
def nodupB : List Site → Bool
  | [] => true
  | s :: r => !memF s r && nodupB r
theorem nodupB_spec : ∀ {l : List Site}, nodupB l = true → l.Nodup
  | [], _ => List.nodup_nil
  | s :: r, h => by
    simp only [nodupB, Bool.and_eq_true, Bool.not_eq_true'] at h
    exact List.nodup_cons.2 ⟨by have := h.1; rw [memF_eq] at this; simpa using this, nodupB_spec h.2⟩
/-- A name for what comes back. -/
def freeD (bx : List (Site × Box)) (lent : List Site) : Nat → Nat → Nat
  | 0, d => d
  | n + 1, d => match bx.any (fun p => p.1.isLocF d) || lent.any (fun s => s.isLocF d) with
    | true => freeD bx lent n (d + 1000000)
    | false => d
def fnOf : AV → Option (FuncId × List AV × List AV)
  | .fn g fs cs => some (g, fs, cs)
  | .pv (.fn g fs cs) => some (g, fs.map .pv, cs.map .pv)
  | _ => none
abbrev CallR := FuncId → List AV → List (Site × Box) → Option (AV × List (Site × Box))
/-- The table of rounds' codes. -/
abbrev TYR := Nat → List Nat → Option (LCode × LCode × (Code × Code))
abbrev YldR := Nat → List AV → List (Site × Box) → Option (AV × List (Site × Box))
/-- How far references are followed. -/
def fuel : Nat := 4000
/-- Boxes are lent: to a function, to a round. -/
def lendR1 (ex : CallR) (yl : YldR) (f : Opd) (args : List Opd) (d : Nat) (σ : AS) : Option (AV × AS) :=
  match σ.o f with
  | .yld s =>
    let all := args.map σ.o
    forceSs (reach σ fuel (s :: sitesGL all) []) fun lent =>
    forceN (freeD (dropF lent σ).bx lent 8 d) fun d' =>
    match lentF σ lent 0 lent with
    | some B => forceBx B fun B => match nodupB lent && lent.all (fun s => !s.isLocF d') && allLF (fun x => memF x lent) all && (lent.head? == some s) with
      | true => forceFs (mapLF (inF lent) all) fun as => match yl 0 as B with
        | some (r, B') => match r.allF (outOk lent) && B'.all (fun p => outOk lent p.1 && p.2.allF (outOk lent)) with
          | true => some (r.mapF (outG lent d'), ((dropF lent σ).purgeF d').adds (renF lent d' B'))
          | false => none
        | none => none
      | false => none
    | none => none
  | f' => match fnOf f' with
    | some (g, fs, cs) =>
      let all := fs ++ args.map σ.o ++ cs
      forceSs (reach σ fuel (sitesGL all) []) fun lent =>
      forceN (freeD (dropF lent σ).bx lent 8 d) fun d' =>
      match lentF σ lent 0 lent with
      | some B => forceBx B fun B => match nodupB lent && lent.all (fun s => !s.isLocF d') && allLF (fun x => memF x lent) all with
        | true => forceFs (mapLF (inF lent) all) fun as => match ex g as B with
          | some (r, B') => match r.allF (outOk lent) && B'.all (fun p => outOk lent p.1 && p.2.allF (outOk lent)) with
            | true => some (r.mapF (outG lent d'), ((dropF lent σ).purgeF d').adds (renF lent d' B'))
            | false => none
          | none => none
        | false => none
      | none => none
    | none => none
/-- Does no box mention one that is not there? -/
def isTidy (σ : AS) : Bool := σ.bx.all fun p => match p.2 with
  | .cells as => allLF (fun s => (σ.bF s).isSome) as
  | .loop _ _ _ tm _ => allTF (fun s => (σ.bF s).isSome) tm
  | _ => true
def lendR (ex : CallR) (yl : YldR) (f : Opd) (args : List Opd) (d : Nat) (σ : AS) : Option (AV × AS) := match isTidy σ with
  | true => lendR1 ex yl f args d σ
  | false => (frzsL [.ret 0] σ).force fun σ => lendR1 ex yl f args d σ
/-- A call beside loads: of plain values. -/
def softR (ex : CallR) (f : Opd) (args : List Opd) (d : Nat) (σ : AS) : Option (AV × AS) :=
  let flat := match (σ.o f).snap σ 4, snapW (AV.snap σ 4) (args.map σ.o) with
    | some (.fn g fs cs), some xs => forceFs ((fs ++ xs ++ cs).map .pv) fun as => match ex g as [] with
      | some (.pv y, []) => match y.flat with
        | true => some y
        | false => none
      | _ => none
    | _, _ => none
  match flat with
  | some y => some (.pv y, σ)
  | none =>
    forceSs (reach σ fuel (sitesGL (σ.o f :: args.map σ.o)) []) fun fz =>
    (frzsL fz σ).force fun σ1 =>
    match σ1.o f, σ1.pvs args with
    | .pv (.fn g fs cs), some xs => forceFs ((fs ++ xs ++ cs).map .pv) fun as => match ex g as [] with
      | some (r, B') => match r.allF Site.isRet && B'.all (fun p => p.1.isRet && p.2.allF Site.isRet) with
        | true => some (r.mapF (toLoc d), (σ1.purgeF d).adds (renB d B'))
        | false => none
      | none => none
    | _, _ => none
def runR (ex : CallR) (yl : YldR) (o : LO) (σ : AS) : Option (AV × AS) := match o.op with
  | .call f args => match o.lt with
    | true => lendR ex yl f args (o.dst.getD 0) σ
    | false => softR ex f args (o.dst.getD 0) σ
  | l => opR l (o.dst.getD 0) σ
/-- Does an operation leave the state as it is? -/
def LO.quiet (o : LO) : Bool := o.op.still || o.op.isLoad
def putR (o : LO) (a : AV) (τ : AS) : Option AS := a.forceF fun a => match o.quiet with
  | true => some (τ.putO o.dst a)
  | false => τ.force fun τ => some (τ.putO o.dst a)
def loR (ex : CallR) (yl : YldR) (o : LO) (σ : AS) : Option AS := match o.g with
  | none => match runR ex yl o σ with
    | some (a, τ) => putR o a τ
    | none => none
  | some (t, want) => match σ.t t with
    | some (.pv (.bool b)) => match b == want with
      | true => match runR ex yl o σ with
        | some (a, τ) => putR o a τ
        | none => none
      | false => some (σ.putO o.dst und)
    | some (.pv (.tup [])) => some (σ.putO o.dst und)
    | _ => none
def opsR (ex : CallR) (yl : YldR) : List LO → AS → Option AS
  | [], σ => some σ
  | o :: r, σ => match loR ex yl o σ with
    | some τ => opsR ex yl r τ
    | none => none
/-- Of each slot, and of each box, the newest. -/
def cptT : List (Nat × AV) → List Nat → List (Nat × AV)
  | [], _ => []
  | (t, a) :: r, seen => match seen.contains t with
    | true => cptT r seen
    | false => (t, a) :: cptT r (t :: seen)
def cptB : List (Site × Box) → List Site → List (Site × Box)
  | [], _ => []
  | (s, b) :: r, seen => match memF s seen with
    | true => cptB r seen
    | false => (s, b) :: cptB r (s :: seen)
def AS.cpt (σ : AS) : AS := ⟨cptT σ.tm [], cptB σ.bx []⟩
/-! What is known on both ways -/
mutual
def PV.beq : PV → PV → Bool
  | .int k a, .int k' b => decide (k = k') && decide (a = b)
  | .bool a, .bool b => decide (a = b)
  | .str a, .str b => decide (a.data.toList = b.data.toList)
  | .nilp, .nilp => true
  | .nilfn, .nilfn => true
  | .nilmap, .nilmap => true
  | .nilif, .nilif => true
  | .emp a, .emp b => decide (a = b)
  | .lst a n xs, .lst b m ys => decide (a = b) && decide (n = m) && PV.beqL xs ys
  | .ref xs, .ref ys => PV.beqL xs ys
  | .fn f a b, .fn g c d => decide (f = g) && PV.beqL a c && PV.beqL b d
  | .agg xs, .agg ys => PV.beqL xs ys
  | .tup xs, .tup ys => PV.beqL xs ys
  | .iface t x, .iface u y => decide (t = u) && PV.beq x y
  | _, _ => false
def PV.beqL : List PV → List PV → Bool
  | [], [] => true
  | x :: xs, y :: ys => PV.beq x y && PV.beqL xs ys
  | _, _ => false
end
mutual
def AV.beq : AV → AV → Bool
  | .any, .any => true
  | .pv x, .pv y => x.beq y
  | .ptr s a, .ptr t b => decide (s = t) && decide (a = b)
  | .elt s n i a, .elt t m j b => decide (s = t) && decide (n = m) && decide (i = j) && decide (a = b)
  | .vec s n i a, .vec t m j b => decide (s = t) && decide (n = m) && decide (i = j) && decide (a = b)
  | .mp s, .mp t => decide (s = t)
  | .yld s, .yld t => decide (s = t)
  | .fn f a b, .fn g c d => decide (f = g) && AV.beqL a c && AV.beqL b d
  | .agg xs, .agg ys => AV.beqL xs ys
  | .tup xs, .tup ys => AV.beqL xs ys
  | _, _ => false
def AV.beqL : List AV → List AV → Bool
  | [], [] => true
  | x :: xs, y :: ys => AV.beq x y && AV.beqL xs ys
  | _, _ => false
end
def beqM : List (PV × PV) → List (PV × PV) → Bool
  | [], [] => true
  | (a, b) :: xs, (c, d) :: ys => a.beq c && b.beq d && beqM xs ys
  | _, _ => false
def beqT : List (Nat × AV) → List (Nat × AV) → Bool
  | [], [] => true
  | (t, a) :: xs, (u, b) :: ys => decide (t = u) && a.beq b && beqT xs ys
  | _, _ => false
def beqSt : Option Code → Option Code → Bool
  | none, none => true
  | some .ret, some .ret => true
  | some (.exit i), some (.exit j) => decide (i = j)
  | _, _ => false
def Box.beq (TY : TYR) : Box → Box → Bool
  | .cells a, .cells b => AV.beqL a b
  | .arr e n xs, .arr f m ys => decide (e = f) && decide (n = m) && PV.beqL xs ys
  | .map a, .map b => beqM a b
  | .loop _ ps nt tm st, .loop _ ps' nt' tm' st' => decide (ps = ps') && decide (nt = nt') && (TY nt ps).isSome && beqSt st st' && beqT tm tm'
  | _, _ => false
def AS.meet (TY : TYR) (σ1 σ2 : AS) : AS :=
  ⟨(cptT σ1.tm []).filter fun p => match σ2.t p.1 with
    | some a => p.2.beq a
    | none => false, (cptB σ1.bx []).filter fun p => match σ2.b p.1 with
    | some b => p.2.beq TY b
    | none => false⟩
/-- All orders of a stage, and what is known behind each. -/
def stageR (TY : TYR) (ex : CallR) (yl : YldR) : LT → AS → Option AS
  | .done, σ => some σ
  | .op o t, σ => match loR ex yl o σ with
    | some τ => stageR TY ex yl t τ
    | none => none
  | .alt o t .no, σ => match loR ex yl o σ with
    | some τ => stageR TY ex yl t τ
    | none => none
  | .alt o t r, σ => match loR ex yl o σ with
    | some τ => match stageR TY ex yl t τ, stageR TY ex yl r σ with
      | some τ1, some τ2 => (τ1.meet TY τ2).force fun τ => some τ
      | _, _ => none
    | none => none
  | _, _ => none
def opsTR (TY : TYR) (ex : CallR) (yl : YldR) : LT → AS → Option AS
  | .done, σ => some σ
  | .op o t, σ => match loR ex yl o σ with
    | some τ => opsTR TY ex yl t τ
    | none => none
  | .alt o t .no, σ => match loR ex yl o σ with
    | some τ => opsTR TY ex yl t τ
    | none => none
  | .seq t r, σ => match stageR TY ex yl t σ with
    | some τ => opsTR TY ex yl r τ
    | none => none
  | _, _ => none
def parsGo : List (Site × Box) → List Site → List Site
  | [], acc => acc
  | (.par i, _) :: r, acc => match memF (.par i) acc with
    | true => parsGo r acc
    | false => parsGo r (acc ++ [.par i])
  | _ :: r, acc => parsGo r acc
def parsOf (σ : AS) : List Site := parsGo σ.bx []
/-- What a function hands back. -/
def retR' (rs : List LRes) (σ : AS) : Option (AV × List (Site × Box)) :=
  match σ.resA rs with
  | some l =>
    AV.forceF (ofTup l) fun r =>
    forceSs (reach σ fuel (parsOf σ ++ r.sitesG) []) fun outs =>
    match r.allF noRet && outs.all noRet && outs.all (fun s => match σ.bF s with | some b => b.allF noRet | none => true) with
    | true => AV.forceF (r.mapF (expF outs)) fun r => forceBx (expLF σ outs outs) fun B => some (r, B)
    | false => none
  | none => none
/-- What a round hands back. -/
def retY (C : Code × Code) (ps : List Nat) (nt : Nat) (tm : List (Nat × AV)) (i : Nat) (st : Option Code) (σ : AS) : Option (AV × List (Site × Box)) :=
  forceSs (reach σ fuel (parsOf σ) []) fun outs =>
  match outs.all noRet && outs.all (fun s => !decide (s = .par i)) && outs.all (fun s => match σ.bF s with | some b => b.allF noRet | none => true) with
  | true => forceBx (expLF σ outs outs) fun B => some (.pv (.bool st.isNone), (.par i, .loop C ps nt tm st) :: B)
  | false => none
def exG (T : FuncId → Option LFn) (run : LCode → AS → Option (AEx × AS)) : CallR := fun f as B =>
  match T f with
  | some F => match Nat.ble as.length F.nt with
    | true => match run F.code ⟨initT 0 as, B⟩ with
      | some (.normal, τ) => retR' F.res τ
      | some (.ret, τ) => retR' F.res τ
      | _ => none
    | false => none
  | none => none
def yldG (TY : TYR) (run : LCode → AS → Option (AEx × AS)) : YldR := fun i as B =>
  match B.lookup (.par i) with
  | some (.loop C ps nt tm none) => match TY nt ps with
    | some (la, lb, _) => match (ps.length == as.length) && ps.all (fun p => Nat.blt p nt) && AV.allSL Site.isPar (tm.map (·.2)) with
      | true => (⟨putL ps as tm, B.filter fun p => !decide (p.1 = .par i)⟩ : AS).force fun σ0 => match run la σ0 with
        | some (.normal, τ) => match run lb τ with
          | some (.normal, τ2) => retY C ps nt tm i none τ2
          | some (.ret, τ2) => retY C ps nt tm i (some .ret) τ2
          | some (.exit id, τ2) => retY C ps nt tm i (some (.exit id)) τ2
          | none => none
        | _ => none
      | false => none
    | none => none
  | _ => none
/-- The slots whose boxes are there. -/
def liveT (σ : AS) : List (Nat × AV) := (cptT σ.tm []).filter fun p => p.2.allF fun s => (σ.bF s).isSome
/-- A range over a function. -/
def rngR1 (ex : CallR) (nt : Nat) (g : Opd) (C : Code × Code) (ps : List Nat) (σ : AS) : Option (AEx × AS) :=
  forceT (liveT (σ.purgeF nt)) fun tm =>
  AS.force ((σ.purgeF nt).add (.loc nt 0) (.loop C ps nt tm none)) fun σ1 =>
  match fnOf (σ1.o g) with
  | some (gf, fs, cs) =>
    let all := fs ++ [.yld (.loc nt 0)] ++ cs
    forceSs (reach σ1 fuel (sitesGL all) []) fun lent =>
    match lentF σ1 lent 0 lent with
    | some B => forceBx B fun B => match nodupB lent && lent.all (fun s => !s.isLocF (nt + 1)) && allLF (fun x => memF x lent) all with
      | true => match ex gf (mapLF (inF lent) all) B with
        | some (r, B') => match r.allF (outOk lent) && B'.all (fun p => outOk lent p.1 && p.2.allF (outOk lent)) with
          | true =>
            AS.force (((dropF lent σ1).purgeF (nt + 1)).adds (renF lent (nt + 1) B')) fun τ =>
            match τ.bF (.loc nt 0) with
            | some (.loop _ _ _ _ none) => some (.normal, τ.drop (.loc nt 0))
            | some (.loop _ _ _ _ (some .ret)) => some (.ret, τ.drop (.loc nt 0))
            | some (.loop _ _ _ _ (some (.exit id))) => some (.exit id, τ.drop (.loc nt 0))
            | _ => none
          | false => none
        | none => none
      | false => none
    | none => none
  | none => none
def rngR (ex : CallR) (nt : Nat) (g : Opd) (C : Code × Code) (ps : List Nat) (σ : AS) : Option (AEx × AS) := match isTidy σ with
  | true => rngR1 ex nt g C ps σ
  | false => (frzsL [.ret 0] σ).force fun σ => rngR1 ex nt g C ps σ
def exL (T : FuncId → Option LFn) (TY : TYR) : Nat → LCode → AS → Option (AEx × AS)
  | 0, _, _ => none
  | n + 1, c, σ => match c with
    | .skip => some (.normal, σ)
    | .region ops => match opsR (exG T (exL T TY n)) (yldG TY (exL T TY n)) ops σ with
      | some τ => some (.normal, τ)
      | none => none
    | .seq a b => match exL T TY n a σ with
      | some (.normal, τ) => exL T TY n b τ
      | r => r
    | .cond c a b => match σ.o c with
      | .pv (.bool true) => exL T TY n a σ
      | .pv (.bool false) => exL T TY n b σ
      | _ => none
    | .block id c => match exL T TY n c σ with
      | some (.exit id', τ) => match id' == id with
        | true => some (.normal, τ)
        | false => some (.exit id', τ)
      | r => r
    | .loop c => match exL T TY n c σ with
      | some (.normal, τ) => τ.cpt.force fun τ => exL T TY n (.loop c) τ
      | r => r
    | .exit id => some (.exit id, σ)
    | .ret => some (.ret, σ)
    | .regT t => match opsTR TY (exG T (exL T TY n)) (yldG TY (exL T TY n)) t σ with
      | some τ => some (.normal, τ)
      | none => none
    | .rng nt g C _ _ ps => rngR (exG T (exL T TY n)) nt g C ps σ

/-! ### What the records of loops bear -/
def COk (P : Program) (TY : TYR) : LCode → Prop
  | .seq a b => COk P TY a ∧ COk P TY b
  | .cond _ a b => COk P TY a ∧ COk P TY b
  | .block _ c => COk P TY c
  | .loop c => COk P TY c
  | .rng nt _ C la lb ps => litC P nt C.1 = some la ∧ litC P nt C.2 = some lb ∧ TY nt ps = some (la, lb, C) ∧ COk P TY la ∧ COk P TY lb
  | _ => True
def tabOk (TY : TYR) : LCode → Prop
  | .seq a b => tabOk TY a ∧ tabOk TY b
  | .cond _ a b => tabOk TY a ∧ tabOk TY b
  | .block _ c => tabOk TY c
  | .loop c => tabOk TY c
  | .rng nt _ C la lb ps => TY nt ps = some (la, lb, C) ∧ tabOk TY la ∧ tabOk TY lb
  | _ => True
theorem litC_ok {P : Program} {TY : TYR} {N : Nat} : ∀ (c : Code) (l : LCode), litC P N c = some l → tabOk TY l → COk P TY l := by
  intro c
  induction c with
  | seq a b iha ihb =>
    intro l h ht
    simp only [litC] at h
    split at h
    · rename_i x y h1 h2; cases h; exact ⟨iha _ h1 ht.1, ihb _ h2 ht.2⟩
    · cases h
  | cond c a b iha ihb =>
    intro l h ht
    simp only [litC] at h
    split at h
    · rename_i c' x y h0 h1 h2; cases h; exact ⟨iha _ h1 ht.1, ihb _ h2 ht.2⟩
    · cases h
  | block id c ih =>
    intro l h ht
    simp only [litC, Option.map_eq_some_iff] at h
    obtain ⟨x, k1, rfl⟩ := h
    exact ih x k1 ht
  | loop c ih =>
    intro l h ht
    simp only [litC, Option.map_eq_some_iff] at h
    obtain ⟨x, k1, rfl⟩ := h
    exact ih x k1 ht
  | scope c ih => intro l h ht; exact ih l h ht
  | rangeFunc g ps a b iha ihb =>
    intro l h ht
    simp only [litC] at h
    split at h
    · rename_i g' x y h0 h1 h2; cases h; exact ⟨h1, h2, ht.1, iha _ h1 ht.2.1, ihb _ h2 ht.2.2⟩
    · cases h
  | region id ops draw =>
    intro l h ht
    simp only [litC] at h
    split at h
    · cases h; trivial
    · split at h
      · simp only [Option.map_eq_some_iff] at h
        obtain ⟨x, _, rfl⟩ := h; trivial
      · cases h
  | _ => intro l h ht; simp [litC] at h <;> subst h <;> trivial
def Box.good (P : Program) (TY : TYR) : Box → Prop
  | .loop C ps nt _ _ => ∀ la lb C', TY nt ps = some (la, lb, C') → C = C' ∧ litC P nt C.1 = some la ∧ litC P nt C.2 = some lb ∧ COk P TY la ∧ COk P TY lb
  | _ => True
def goodL (P : Program) (TY : TYR) (l : List (Site × Box)) : Prop := ∀ p ∈ l, p.2.good P TY
section
variable {P : Program} {TY : TYR}
theorem cptT_sub : ∀ (l : List (Nat × AV)) (seen : List Nat) (t : Nat) (a : AV), (cptT l seen).lookup t = some a → t ∉ seen ∧ l.lookup t = some a
  | [], seen, t, a, h => by simp [cptT, List.lookup] at h
  | (t', a') :: r, seen, t, a, h => by
    unfold cptT at h
    split at h
    · rename_i hs
      obtain ⟨h1, h2⟩ := cptT_sub r seen t a h
      have hne : t ≠ t' := fun e => h1 (by rw [e]; simpa using hs)
      exact ⟨h1, by rw [lookup_cons_ne hne]; exact h2⟩
    · rename_i hs
      by_cases e : t = t'
      · subst e
        rw [lookup_cons_eq] at h ⊢
        exact ⟨by simpa using hs, h⟩
      · rw [lookup_cons_ne e] at h ⊢
        obtain ⟨h1, h2⟩ := cptT_sub r (t' :: seen) t a h
        exact ⟨fun q => h1 (by simp [q]), h2⟩
theorem cptB_sub : ∀ (l : List (Site × Box)) (seen : List Site) (t : Site) (a : Box), (cptB l seen).lookup t = some a → t ∉ seen ∧ l.lookup t = some a
  | [], seen, t, a, h => by simp [cptB, List.lookup] at h
  | (t', a') :: r, seen, t, a, h => by
    unfold cptB at h
    split at h
    · rename_i hs
      obtain ⟨h1, h2⟩ := cptB_sub r seen t a h
      have hne : t ≠ t' := fun e => h1 (by rw [e]; rw [memF_eq] at hs; simpa using hs)
      exact ⟨h1, by rw [lookup_cons_ne hne]; exact h2⟩
    · rename_i hs
      by_cases e : t = t'
      · subst e
        rw [lookup_cons_eq] at h ⊢
        exact ⟨by rw [memF_eq] at hs; simpa using hs, h⟩
      · rw [lookup_cons_ne e] at h ⊢
        obtain ⟨h1, h2⟩ := cptB_sub r (t' :: seen) t a h
        exact ⟨fun q => h1 (by simp [q]), h2⟩
theorem cpt_sub (σ : AS) : Sub σ.cpt σ := SubS.sub ⟨fun t a h => (cptT_sub _ _ t a h).2, fun s b h => (cptB_sub _ _ s b h).2⟩
theorem opWp_mono {l : LOp} {d : Nat} {σ : AS} {K K' : AV → AS → Prop} (hk : ∀ a τ, K a τ → K' a τ) (h : opWp l d K σ) : opWp l d K' σ := by
  cases l
  case x y =>
    simp only [opWp] at h ⊢
    cases y
    all_goals
      simp only [opWpX] at h ⊢
      repeat' split at h
      all_goals first
        | exact h.elim
        | exact hk _ _ h
        | exact ⟨h.1, hk _ _ h.2⟩
        | exact ⟨h.1, h.2.1, hk _ _ h.2.2⟩
        | (simp_all; done)
        | (simp_all <;> first | exact hk _ _ h.2 | exact hk _ _ h | exact hk _ _ h.2.2)
  case minmax mx x y =>
    simp only [opWp] at h ⊢
    split at h
    · exact hk _ _ h
    · exact h.elim
  case app e n bytes x y =>
    simp only [opWp] at h ⊢
    split at h
    · split at h
      · exact ⟨h.1, h.2.1, hk _ _ h.2.2⟩
      · split at h
        · exact h.imp (fun h => ⟨h.1, h.2.1, h.2.2.1, hk _ _ h.2.2.2⟩) (fun h => ⟨h.1, h.2.1, h.2.2.1, hk _ _ h.2.2.2.1, hk _ _ h.2.2.2.2⟩)
        · exact h.elim
      · exact h.elim
    · exact h.elim
  all_goals
    simp only [opWp] at h ⊢
    repeat' split at h
    all_goals first
      | exact h.elim
      | (simp_all; done)
      | (simp_all <;> first | exact hk _ _ h.2 | exact hk _ _ h | exact hk _ _ h.2.2)
theorem callWp_mono {f : Opd} {args : List Opd} {d : Nat} {σ : AS} {K K' : AV → AS → Prop} (hk : ∀ a τ, K a τ → K' a τ) (h : callWp P f args d K σ) : callWp P f args d K' σ := by
  rcases h with ⟨k, g, fs, xs, cs, h1, h2, h3⟩ | ⟨fz, g, fs, xs, cs, h1, h2, h3⟩
  · exact .inl ⟨k, g, fs, xs, cs, h1, h2, h3.mono (fun _ _ ⟨y, e1, e2, e3⟩ => ⟨y, e1, e2, hk _ _ e3⟩)⟩
  · exact .inr ⟨fz, g, fs, xs, cs, h1, h2, h3.mono (fun _ _ ⟨e1, e2⟩ => ⟨e1, hk _ _ e2⟩)⟩
theorem callLwp_mono {f : Opd} {args : List Opd} {σ : AS} {K K' : AV → AS → Prop} (hk : ∀ a τ, K a τ → K' a τ) (h : callLwp P f args K σ) : callLwp P f args K' σ := by
  obtain ⟨d, fz, lent, g, fs, cs, B, h1, h2, h3, h4, h5, h6⟩ := h
  exact ⟨d, fz, lent, g, fs, cs, B, h1, h2, h3, h4, h5, h6.mono (fun _ _ ⟨e1, e2, e3⟩ => ⟨e1, e2, hk _ _ e3⟩)⟩
theorem callYwp_mono {f : Opd} {args : List Opd} {σ : AS} {K K' : AV → AS → Prop} (hk : ∀ a τ, K a τ → K' a τ) (h : callYwp P f args K σ) : callYwp P f args K' σ := by
  obtain ⟨d, fz, lent, s, i, B, h1, h2, h3, h4, h5, h6, h7⟩ := h
  refine ⟨d, fz, lent, s, i, B, h1, h2, h3, h4, h5, h6, fun w m ρ vs a1 a2 a3 a4 => ?_⟩
  obtain ⟨r, k1, k2, k3⟩ := h7 w m ρ vs a1 a2 a3 a4
  exact ⟨r, k1, k2, k3.mono (fun e w' ⟨v, r, B', ρ', m', q1, ⟨e1, e2, e3⟩, q2⟩ => ⟨v, r, B', ρ', m', q1, ⟨e1, e2, hk _ _ e3⟩, q2⟩)⟩
theorem runWp_mono {o : LO} {σ : AS} {K K' : AV → AS → Prop} (hk : ∀ a τ, K a τ → K' a τ) (h : runWp P o K σ) : runWp P o K' σ := by
  unfold runWp at h ⊢
  split at h
  · rcases h with h | ⟨hlt, h | h⟩
    · exact Or.inl (callWp_mono hk h)
    · exact Or.inr ⟨hlt, Or.inl (callLwp_mono hk h)⟩
    · exact Or.inr ⟨hlt, Or.inr (callYwp_mono hk h)⟩
  · exact opWp_mono hk h
theorem loWp_mono {o : LO} {σ : AS} {K K' : AS → Prop} (hk : ∀ τ, K τ → K' τ) (h : loWp P o K σ) : loWp P o K' σ := by
  unfold loWp at h ⊢
  split at h
  · exact runWp_mono (fun a τ q => hk _ q) h
  · split at h
    · split at h
      · rename_i e; rw [if_pos e]; exact runWp_mono (fun a τ q => hk _ q) h
      · rename_i e; rw [if_neg e]; exact hk _ h
    · exact hk _ h
    · exact h.elim
theorem opsWp_mono : ∀ {l : List LO} {σ : AS} {K K' : AS → Prop}, (∀ τ, K τ → K' τ) → opsWp P l K σ → opsWp P l K' σ
  | [], σ, K, K', hk, h => hk _ h
  | o :: r, σ, K, K', hk, h => loWp_mono (fun τ q => opsWp_mono hk q) h
theorem opsT_mono : ∀ {l : LT} {σ : AS} {K K' : AS → Prop}, (∀ τ, K τ → K' τ) → opsT P l K σ → opsT P l K' σ
  | .done, σ, K, K', hk, h => hk _ h
  | .op o t, σ, K, K', hk, h => loWp_mono (fun τ q => opsT_mono hk q) h
  | .alt o t r, σ, K, K', hk, h => ⟨loWp_mono (fun τ q => opsT_mono hk q) h.1, opsT_mono hk h.2⟩
  | .no, σ, K, K', hk, h => trivial
  | .seq t r, σ, K, K', hk, ⟨J, h1, h2⟩ => ⟨J, h1, fun τ q => opsT_mono hk (h2 τ q)⟩
theorem jumpQ_mono {Q Q' : AEx → AS → Prop} (hk : ∀ e τ, Q e τ → Q' e τ) : ∀ {st : Option Code} {σ : AS}, jumpQ Q st σ → jumpQ Q' st σ := by
  intro st σ h
  cases st with
  | none => exact hk _ _ h
  | some c => cases c <;> first | exact hk _ _ h | exact h.elim
theorem awp_mono : ∀ {c : LCode} {σ : AS} {Q Q' : AEx → AS → Prop}, awp P c Q σ → (∀ e τ, Q e τ → Q' e τ) → awp P c Q' σ
  | .skip, σ, Q, Q', h, hk => hk _ _ h
  | .region ops, σ, Q, Q', h, hk => opsWp_mono (fun τ q => hk _ _ q) h
  | .regT t, σ, Q, Q', h, hk => opsT_mono (fun τ q => hk _ _ q) h
  | .seq a b, σ, Q, Q', h, hk => awp_mono (c := a) h (fun e τ q => by
      cases e with
      | normal => exact awp_mono (c := b) q hk
      | exit id => exact hk _ _ q
      | ret => exact hk _ _ q)
  | .cond c a b, σ, Q, Q', h, hk => by
      unfold awp at h ⊢
      split at h
      · split at h
        · rename_i e; rw [if_pos e]; exact awp_mono h hk
        · rename_i e; rw [if_neg e]; exact awp_mono h hk
      · exact h.elim
  | .block id c, σ, Q, Q', h, hk => awp_mono (c := c) h (fun e τ q => by
      cases e with
      | normal => exact hk _ _ q
      | exit id' =>
        by_cases e : id' = id
        · simp only [blockA, e, if_true] at q ⊢; exact hk _ _ q
        · simp only [blockA, e, if_false] at q ⊢; exact hk _ _ q
      | ret => exact hk _ _ q)
  | .loop c, σ, Q, Q', ⟨I, n, τ, h1, h2, h3⟩, hk => ⟨I, n, τ, h1, h2, fun n τ hI => awp_mono (c := c) (h3 n τ hI) (fun e τ q => by
      cases e with
      | normal => exact q
      | exit id => exact hk _ _ q
      | ret => exact hk _ _ q)⟩
  | .exit id, σ, Q, Q', h, hk => hk _ _ h
  | .ret, σ, Q, Q', h, hk => hk _ _ h
  | .rng nt g C la lb ps, σ, Q, Q', ⟨τ0, hs0, fz, lent, tm, σ1, gf, fs, cs, B, h1, h2, h3, h4, h5, h6, h7, h8⟩, hk => ⟨τ0, hs0, fz, lent, tm, σ1, gf, fs, cs, B, h1, h2, h3, h4, h5, h6, h7, h8.mono (fun r B' ⟨e1, e2, e3⟩ => ⟨e1, e2, by
      revert e3
      cases (((dropL lent σ1).purge (nt + 1)).adds (renL lent (nt + 1) B')).b (.loc nt 0) with
      | none => exact fun h => h.elim
      | some b => cases b <;> first | exact fun h => h.elim | exact fun h => jumpQ_mono hk h⟩)⟩
end
end Go.Proofs.Ytohhjnpiiackjaa

/-! An evaluation of Go's code over plain values, carried out: what is carried out is so. Over any program. -/
namespace Go.Proofs.Ytohhjnpiiackjaa
open Go.RowKit

section
variable {P : Program} {TY : TYR}
theorem goodL_map {f : Box → Box} (hf : ∀ b, b.good P TY → (f b).good P TY) {g : Site → Site} {l : List (Site × Box)} (h : goodL P TY l) : goodL P TY (l.map fun p => (g p.1, f p.2)) := fun p hp => by
  obtain ⟨q, hq, rfl⟩ := List.mem_map.1 hp
  exact hf _ (h q hq)
theorem goodL_filter {q : Site × Box → Bool} {l : List (Site × Box)} (h : goodL P TY l) : goodL P TY (l.filter q) := fun p hp => h p (List.mem_filter.1 hp).1
theorem good_purge (d : Nat) (b : Box) (h : b.good P TY) : (b.purge d).good P TY := by cases b <;> exact h
theorem good_frz (s : Site) (n : Nat) (xs : List PV) (b : Box) (h : b.good P TY) : (b.frz s n xs).good P TY := by cases b <;> exact h
theorem good_ren (g : Site → Site) (b : Box) (h : b.good P TY) : (b.ren g).good P TY := by cases b <;> exact h
theorem goodS_purge (d : Nat) {σ : AS} (h : goodL P TY σ.bx) : goodL P TY (σ.purge d).bx := goodL_map (f := Box.purge d) (g := id) (fun b => good_purge d b) (goodL_filter h)
theorem goodS_drop (s : Site) {σ : AS} (h : goodL P TY σ.bx) : goodL P TY (σ.drop s).bx := goodL_filter h
theorem goodS_add (s : Site) {b : Box} (hb : b.good P TY) {σ : AS} (h : goodL P TY σ.bx) : goodL P TY (σ.add s b).bx := fun p hp => by
  rcases List.mem_cons.1 hp with rfl | hp
  · exact hb
  · exact h p hp
theorem goodS_set (s : Site) {b : Box} (hb : b.good P TY) {σ : AS} (h : goodL P TY σ.bx) : goodL P TY (σ.set s b).bx := goodS_add s hb h
theorem good_live (q : Site → Bool) (b : Box) (h : b.good P TY) : (b.live q).good P TY := by cases b <;> exact h
theorem goodS_tidy {σ : AS} (h : goodL P TY σ.bx) : goodL P TY σ.tidy.bx := goodL_map (f := Box.live fun s => (σ.b s).isSome) (g := id) (fun b => good_live _ b) h
theorem goodS_frz (s : Site) {σ : AS} (h : goodL P TY σ.bx) : goodL P TY (σ.frz s).bx := by
  unfold AS.frz
  split
  · exact goodS_tidy h
  · exact goodL_map (g := id) (fun b => good_frz _ _ _ b) (goodL_filter h)
  · split
    · exact goodL_map (g := id) (fun b => good_frz _ _ _ b) (goodL_filter h)
    · exact h
  · exact h
theorem goodS_frz1 (a : AV) {σ : AS} (h : goodL P TY σ.bx) : goodL P TY (σ.frz1 a).bx := by
  unfold AS.frz1
  split
  · exact goodS_frz _ h
  · exact h
theorem goodS_frzC : ∀ (l : List AV) {σ : AS}, goodL P TY σ.bx → goodL P TY (σ.frzC l).bx
  | [], σ, h => h
  | a :: r, σ, h => goodS_frzC r (goodS_frz1 a h)
theorem goodS_frzA (a : AV) {σ : AS} (h : goodL P TY σ.bx) : goodL P TY (σ.frzA a).bx := by
  unfold AS.frzA
  split
  · exact goodS_frzC _ h
  · exact goodS_frz1 _ h
theorem goodS_frzs : ∀ (l : List Opd) {σ : AS}, goodL P TY σ.bx → goodL P TY (σ.frzs l).bx
  | [], σ, h => h
  | x :: r, σ, h => goodS_frzs r (goodS_frzA _ h)
theorem opXR_good {l : XOp} {d : Nat} {σ τ : AS} {a : AV} (h : opXR l d σ = some (a, τ)) (hg : goodL P TY σ.bx) : goodL P TY τ.bx := by
  cases l
  all_goals
    simp only [opXR, AS.purgeF_eq, AS.bF_eq] at h
    repeat' split at h
    all_goals first
      | (cases h; done)
      | (cases h; exact hg)
      | (cases h; refine goodS_add _ ?_ (goodS_purge _ hg); exact trivial)
      | (cases h; refine goodS_set _ ?_ hg; exact trivial)
      | (cases h; refine goodS_set _ ?_ (goodS_frzA _ hg); exact trivial)
      | (cases h; exact goodS_frz _ hg)
theorem opR_good {l : LOp} {d : Nat} {σ τ : AS} {a : AV} (h : opR l d σ = some (a, τ)) (hg : goodL P TY σ.bx) : goodL P TY τ.bx := by
  cases l
  case x y => exact opXR_good h hg
  all_goals
    simp only [opR, AS.purgeF_eq, AS.bF_eq] at h
    repeat' split at h
    all_goals first
      | contradiction
      | (cases h; done)
      | (cases h; exact hg)
      | (cases h; refine goodS_add _ ?_ (goodS_purge _ hg); exact trivial)
      | (cases h; refine goodS_add _ ?_ (goodS_purge _ (goodS_drop _ hg)); exact trivial)
      | (cases h; refine goodS_add _ ?_ (goodS_purge _ (goodS_frzs _ hg)); exact trivial)
      | (cases h; refine goodS_set _ ?_ hg; exact trivial)
      | (cases h; refine goodS_set _ ?_ (goodS_frzA _ hg); exact trivial)
      | (cases h; exact goodS_frzs _ hg)
theorem goodS_frzsL : ∀ (l : List Site) {σ : AS}, goodL P TY σ.bx → goodL P TY (frzsL l σ).bx
  | [], σ, h => h
  | s :: r, σ, h => goodS_frzsL r (goodS_frz s h)
theorem goodS_dropL : ∀ (l : List Site) {σ : AS}, goodL P TY σ.bx → goodL P TY (dropL l σ).bx
  | [], σ, h => h
  | s :: r, σ, h => goodS_dropL r (goodS_drop s h)
theorem goodL_app {a b : List (Site × Box)} (h : goodL P TY a) (k : goodL P TY b) : goodL P TY (a ++ b) := fun p hp => by
  rcases List.mem_append.1 hp with hp | hp
  · exact h p hp
  · exact k p hp
theorem goodL_renL (lent : List Site) (d : Nat) {B : List (Site × Box)} (h : goodL P TY B) : goodL P TY (renL lent d B) := goodL_map (fun b => good_ren _ b) h
theorem goodL_renB (d : Nat) {B : List (Site × Box)} (h : goodL P TY B) : goodL P TY (renB d B) := goodL_map (fun b => good_ren _ b) h
theorem goodS_get {σ : AS} (h : goodL P TY σ.bx) {s : Site} {b : Box} (hb : σ.b s = some b) : b.good P TY := h (s, b) (mem_lookup hb)
theorem goodL_lentBx {σ : AS} (h : goodL P TY σ.bx) (lent : List Site) : ∀ (l : List Site) (i : Nat) (B : List (Site × Box)), lentBx σ lent i l = some B → goodL P TY B
  | [], i, B, e => by simp [lentBx] at e; subst e; exact fun p hp => by cases hp
  | s :: r, i, B, e => by
    unfold lentBx at e
    split at e
    · rename_i b l h1 h2
      split at e
      · cases e
        intro p hp
        rcases List.mem_cons.1 hp with rfl | hp
        · exact good_ren _ b (goodS_get h h1)
        · exact goodL_lentBx h lent r (i + 1) l h2 p hp
      · cases e
    · cases e
theorem goodL_exp {σ : AS} (h : goodL P TY σ.bx) (outs : List Site) : ∀ (l : List Site), goodL P TY (σ.exp outs l)
  | [], p, hp => by simp [AS.exp] at hp
  | s :: r, p, hp => by
    unfold AS.exp at hp
    split at hp
    · rename_i b hb
      rcases List.mem_cons.1 hp with rfl | hp
      · exact good_ren _ b (goodS_get h hb)
      · exact goodL_exp h outs r p hp
    · exact goodL_exp h outs r p hp
theorem goodS_putO {σ : AS} (h : goodL P TY σ.bx) (d : Option Nat) (a : AV) : goodL P TY (σ.putO d a).bx := by cases d <;> exact h
theorem cptB_mem : ∀ (l : List (Site × Box)) (seen : List Site) (p : Site × Box), p ∈ cptB l seen → p ∈ l
  | [], seen, p, h => by simp [cptB] at h
  | (s, b) :: r, seen, p, h => by
    unfold cptB at h
    split at h
    · exact List.mem_cons_of_mem _ (cptB_mem r seen p h)
    · rcases List.mem_cons.1 h with rfl | h
      · simp
      · exact List.mem_cons_of_mem _ (cptB_mem r _ p h)
theorem goodS_cpt {σ : AS} (h : goodL P TY σ.bx) : goodL P TY σ.cpt.bx := fun p hp => h p (cptB_mem _ _ p hp)

def exOk (P : Program) (TY : TYR) (ex : CallR) : Prop := ∀ g as B r B', ex g as B = some (r, B') → goodL P TY B → CallsA P g as B (fun r1 B1 => r1 = r ∧ B1 = B') ∧ goodL P TY B'
def ylOk (P : Program) (TY : TYR) (yl : YldR) : Prop := ∀ i as B r B', yl i as B = some (r, B') → goodL P TY B → YieldsA P i as B (fun r1 B1 => r1 = r ∧ B1 = B') ∧ goodL P TY B'
theorem YieldsA.mono {i : Nat} {as : List AV} {B : List (Site × Box)} {Post Post' : AV → List (Site × Box) → Prop} (h : YieldsA P i as B Post) (hp : ∀ r B', Post r B' → Post' r B') : YieldsA P i as B Post' :=
  fun w m ρ vs a1 a2 a3 a4 => let ⟨r, k1, k2, k3⟩ := h w m ρ vs a1 a2 a3 a4; ⟨r, k1, k2, k3.mono (fun e w' ⟨v, r, B', ρ', m', q1, q2, q3⟩ => ⟨v, r, B', ρ', m', q1, hp _ _ q2, q3⟩)⟩
theorem lendR1_sound {ex : CallR} {yl : YldR} (hex : exOk P TY ex) (hyl : ylOk P TY yl) {f : Opd} {args : List Opd} {d : Nat} {σ τ : AS} {a : AV} (h : lendR1 ex yl f args d σ = some (a, τ)) (hg : goodL P TY σ.bx) :
    (∀ K : AV → AS → Prop, K a τ → callLwp P f args K σ ∨ callYwp P f args K σ) ∧ goodL P TY τ.bx := by
  unfold lendR1 at h
  simp only [forceSs_eq, forceN_eq, forceBx_eq, forceFs_eq, AV.forceF_eq, AV.forceL_eq, AV.force_eq, AS.force_eq, forceT_eq, lentF_eq, dropF_eq, renF_eq, AS.purgeF_eq, allLF_eq, memF_eq, AV.allF_eq, Box.allF_eq, mapLF_eq, inF_eq', AV.mapF_eq, Site.isLocF_eq, AS.bF_eq, expF_eq, expLF_eq] at h
  split at h
  · rename_i s hfn
    skip
    split at h
    · rename_i B hB
      split at h
      · rename_i hc
        split at h
        · rename_i r B' hr
          split at h
          · rename_i hc2
            cases h
            simp only [Bool.and_eq_true] at hc hc2
            have hBg := goodL_lentBx hg _ _ _ _ hB
            obtain ⟨hC, hB'⟩ := hyl _ _ _ _ _ hr hBg
            refine ⟨fun K hK => .inr ⟨_, [], _, s, 0, B, hfn, ?_, nodupB_spec hc.1.1.1, hc.1.1.2, hB, hc.1.2, hC.mono ?_⟩, goodL_app (goodL_renL _ _ hB') (goodS_purge _ (goodS_dropL _ hg))⟩
            · have := hc.2
              rw [beq_iff_eq] at this
              rw [← List.head?_eq_getElem?]; exact this
            · rintro r1 B1 ⟨rfl, rfl⟩
              refine ⟨hc2.1, fun p hp => ?_, hK⟩
              have := List.all_eq_true.1 hc2.2 p hp
              simpa using this
          · cases h
        · cases h
      · cases h
    · cases h
  · split at h
    · rename_i g fs cs hfn
      skip
      split at h
      · rename_i B hB
        split at h
        · rename_i hc
          split at h
          · rename_i r B' hr
            split at h
            · rename_i hc2
              cases h
              simp only [Bool.and_eq_true] at hc hc2
              have hBg := goodL_lentBx hg _ _ _ _ hB
              obtain ⟨hC, hB'⟩ := hex _ _ _ _ _ hr hBg
              refine ⟨fun K hK => .inl ⟨_, [], _, g, fs, cs, B, ?_, nodupB_spec hc.1.1, hc.1.2, hB, hc.2, hC.mono ?_⟩, goodL_app (goodL_renL _ _ hB') (goodS_purge _ (goodS_dropL _ hg))⟩
              · unfold fnOf at hfn
                split at hfn
                · rename_i e; cases hfn; exact .inl e
                · rename_i fs' cs' e; cases hfn; exact .inr ⟨fs', cs', e, rfl, rfl⟩
                · cases hfn
              · rintro r1 B1 ⟨rfl, rfl⟩
                refine ⟨hc2.1, fun p hp => ?_, hK⟩
                have := List.all_eq_true.1 hc2.2 p hp
                simpa using this
            · cases h
          · cases h
        · cases h
      · cases h
    · cases h
theorem lendR_sound {ex : CallR} {yl : YldR} (hex : exOk P TY ex) (hyl : ylOk P TY yl) {f : Opd} {args : List Opd} {d : Nat} {σ τ : AS} {a : AV} (h : lendR ex yl f args d σ = some (a, τ)) (hg : goodL P TY σ.bx) :
    (∀ K : AV → AS → Prop, K a τ → callLwp P f args K σ ∨ callYwp P f args K σ) ∧ goodL P TY τ.bx := by
  unfold lendR at h
  simp only [AS.force_eq] at h
  split at h
  · exact lendR1_sound hex hyl h hg
  · obtain ⟨k1, k2⟩ := lendR1_sound hex hyl h (goodS_frzsL _ hg)
    refine ⟨fun K hK => ?_, k2⟩
    rcases k1 K hK with ⟨d, fz, h1⟩ | ⟨d, fz, h1⟩
    · exact .inl ⟨d, .ret 0 :: fz, h1⟩
    · exact .inr ⟨d, .ret 0 :: fz, h1⟩
theorem goodL_nil : goodL P TY [] := fun p hp => by cases hp
theorem softR_sound {ex : CallR} (hex : exOk P TY ex) {f : Opd} {args : List Opd} {d : Nat} {σ τ : AS} {a : AV} (h : softR ex f args d σ = some (a, τ)) (hg : goodL P TY σ.bx) : (∀ K : AV → AS → Prop, K a τ → callWp P f args d K σ) ∧ goodL P TY τ.bx := by
  unfold softR at h
  simp only [forceSs_eq, forceN_eq, forceBx_eq, forceFs_eq, AV.forceF_eq, AV.forceL_eq, AV.force_eq, AS.force_eq, forceT_eq, lentF_eq, dropF_eq, renF_eq, AS.purgeF_eq, allLF_eq, memF_eq, AV.allF_eq, Box.allF_eq, mapLF_eq, inF_eq', AV.mapF_eq, Site.isLocF_eq, AS.bF_eq, expF_eq, expLF_eq] at h
  skip
  split at h
  · rename_i y hy
    cases h
    split at hy
    · rename_i g fs cs xs h1 h2
      split at hy
      · rename_i y' hr
        split at hy
        · rename_i hfl
          cases hy
          exact ⟨fun K hK => .inl ⟨4, g, fs, xs, cs, h1, h2, (hex _ _ _ _ _ hr goodL_nil).1.mono (fun r1 B1 ⟨e1, e2⟩ => ⟨_, e1, hfl, hK⟩)⟩, hg⟩
        · cases hy
      · cases hy
    · cases hy
  · split at h
    · rename_i g fs cs xs h1 h2
      split at h
      · rename_i r B' hr
        split at h
        · rename_i hc
          cases h
          simp only [Bool.and_eq_true] at hc
          obtain ⟨hC, hB'⟩ := hex _ _ _ _ _ hr goodL_nil
          refine ⟨fun K hK => .inr ⟨_, g, fs, xs, cs, h1, h2, hC.mono ?_⟩, goodL_app (goodL_renB _ hB') (goodS_purge _ (goodS_frzsL _ hg))⟩
          rintro r1 B1 ⟨rfl, rfl⟩
          refine ⟨⟨hc.1, fun p hp => ?_⟩, hK⟩
          have := List.all_eq_true.1 hc.2 p hp
          simpa using this
        · cases h
      · cases h
    · cases h
theorem runR_sound {ex : CallR} {yl : YldR} (hex : exOk P TY ex) (hyl : ylOk P TY yl) {o : LO} {σ τ : AS} {a : AV} (h : runR ex yl o σ = some (a, τ)) (hg : goodL P TY σ.bx) : (∀ K : AV → AS → Prop, K a τ → runWp P o K σ) ∧ goodL P TY τ.bx := by
  unfold runR at h
  unfold runWp
  split at h
  · rename_i f args ho
    rw [ho]
    dsimp only
    split at h
    · rename_i hlt
      obtain ⟨k1, k2⟩ := lendR_sound hex hyl h hg
      exact ⟨fun K hK => Or.inr ⟨hlt, k1 K hK⟩, k2⟩
    · obtain ⟨k1, k2⟩ := softR_sound hex h hg
      exact ⟨fun K hK => Or.inl (k1 K hK), k2⟩
  · rename_i hne
    refine ⟨fun K hK => ?_, opR_good h hg⟩
    split
    · rename_i f args ho
      exact absurd ho (hne f args)
    · exact opR_sound h hK
theorem putR_eq {o : LO} {a : AV} {τ : AS} : putR o a τ = some (τ.putO o.dst a) := by
  unfold putR
  simp only [AV.forceF_eq, AS.force_eq]
  split <;> rfl
theorem loR_sound {ex : CallR} {yl : YldR} (hex : exOk P TY ex) (hyl : ylOk P TY yl) {o : LO} {σ τ : AS} (h : loR ex yl o σ = some τ) (hg : goodL P TY σ.bx) : (∀ K : AS → Prop, K τ → loWp P o K σ) ∧ goodL P TY τ.bx := by
  unfold loR at h
  simp only [putR_eq] at h
  unfold loWp
  split at h
  · rename_i hgd
    rw [hgd]
    split at h
    · rename_i a τ' hr
      cases h
      obtain ⟨k1, k2⟩ := runR_sound hex hyl hr hg
      exact ⟨fun K hK => k1 _ hK, goodS_putO k2 _ _⟩
    · cases h
  · rename_i t want hgd
    rw [hgd]
    dsimp only
    split at h
    · rename_i b hb
      rw [hb]
      dsimp only
      split at h
      · rename_i hbw
        have hbw' : b = want := by simpa using hbw
        simp only [if_pos hbw']
        split at h
        · rename_i a τ' hr
          cases h
          obtain ⟨k1, k2⟩ := runR_sound hex hyl hr hg
          exact ⟨fun K hK => k1 _ hK, goodS_putO k2 _ _⟩
        · cases h
      · rename_i hbw
        have hbw' : ¬ b = want := by simpa using hbw
        simp only [if_neg hbw']
        cases h
        exact ⟨fun K hK => hK, goodS_putO hg _ _⟩
    · rename_i hb
      rw [hb]
      cases h
      exact ⟨fun K hK => hK, goodS_putO hg _ _⟩
    · cases h
theorem opsR_sound {ex : CallR} {yl : YldR} (hex : exOk P TY ex) (hyl : ylOk P TY yl) : ∀ {ops : List LO} {σ τ : AS}, opsR ex yl ops σ = some τ → goodL P TY σ.bx → (∀ {K : AS → Prop}, K τ → opsWp P ops K σ) ∧ goodL P TY τ.bx
  | [], σ, τ, h, hg => by simp [opsR] at h; subst h; exact ⟨fun hK => hK, hg⟩
  | o :: r, σ, τ, h, hg => by
    unfold opsR at h
    split at h
    · rename_i τ' hr
      obtain ⟨k1, k2⟩ := loR_sound hex hyl hr hg
      obtain ⟨q1, q2⟩ := opsR_sound hex hyl h k2
      exact ⟨fun hK => k1 _ (q1 hK), q2⟩
    · cases h
/-! ### What is known on both ways -/
mutual
theorem PV.beq_eq : ∀ (x y : PV), x.beq y = true → x = y
  | .int k a, y, h => by cases y <;> simp [PV.beq] at h; rw [h.1, h.2]
  | .bool a, y, h => by cases y <;> simp [PV.beq] at h; rw [h]
  | .str a, y, h => by
    cases y <;> simp [PV.beq] at h
    rename_i b
    obtain ⟨a⟩ := a
    obtain ⟨b⟩ := b
    have : a = b := h
    rw [this]
  | .nilp, y, h => by cases y <;> simp [PV.beq] at h <;> rfl
  | .nilfn, y, h => by cases y <;> simp [PV.beq] at h <;> rfl
  | .nilmap, y, h => by cases y <;> simp [PV.beq] at h <;> rfl
  | .nilif, y, h => by cases y <;> simp [PV.beq] at h <;> rfl
  | .emp a, y, h => by cases y <;> simp [PV.beq] at h; rw [h]
  | .lst a n xs, y, h => by
    cases y <;> simp [PV.beq] at h
    rw [h.1.1, h.1.2, PV.beqL_eq _ _ h.2]
  | .ref xs, y, h => by cases y <;> simp [PV.beq] at h; rw [PV.beqL_eq _ _ h]
  | .fn f a b, y, h => by
    cases y <;> simp [PV.beq] at h
    rw [h.1.1, PV.beqL_eq _ _ h.1.2, PV.beqL_eq _ _ h.2]
  | .agg xs, y, h => by cases y <;> simp [PV.beq] at h; rw [PV.beqL_eq _ _ h]
  | .tup xs, y, h => by cases y <;> simp [PV.beq] at h; rw [PV.beqL_eq _ _ h]
  | .iface t x, y, h => by
    cases y <;> simp [PV.beq] at h
    rw [h.1, PV.beq_eq _ _ h.2]
theorem PV.beqL_eq : ∀ (x y : List PV), PV.beqL x y = true → x = y
  | [], [], _ => rfl
  | [], _ :: _, h => by simp [PV.beqL] at h
  | _ :: _, [], h => by simp [PV.beqL] at h
  | x :: xs, y :: ys, h => by
    simp only [PV.beqL, Bool.and_eq_true] at h
    rw [PV.beq_eq _ _ h.1, PV.beqL_eq _ _ h.2]
end
mutual
theorem AV.beq_eq : ∀ (x y : AV), x.beq y = true → x = y
  | .any, y, h => by cases y <;> simp [AV.beq] at h <;> rfl
  | .pv x, y, h => by cases y <;> simp [AV.beq] at h; rw [PV.beq_eq _ _ h]
  | .ptr s a, y, h => by cases y <;> simp [AV.beq] at h; rw [h.1, h.2]
  | .elt s n i a, y, h => by cases y <;> simp [AV.beq] at h; rw [h.1.1.1, h.1.1.2, h.1.2, h.2]
  | .vec s n i a, y, h => by cases y <;> simp [AV.beq] at h; rw [h.1.1.1, h.1.1.2, h.1.2, h.2]
  | .mp s, y, h => by cases y <;> simp [AV.beq] at h; rw [h]
  | .yld s, y, h => by cases y <;> simp [AV.beq] at h; rw [h]
  | .fn f a b, y, h => by
    cases y <;> simp [AV.beq] at h
    rw [h.1.1, AV.beqL_eq _ _ h.1.2, AV.beqL_eq _ _ h.2]
  | .agg xs, y, h => by cases y <;> simp [AV.beq] at h; rw [AV.beqL_eq _ _ h]
  | .tup xs, y, h => by cases y <;> simp [AV.beq] at h; rw [AV.beqL_eq _ _ h]
theorem AV.beqL_eq : ∀ (x y : List AV), AV.beqL x y = true → x = y
  | [], [], _ => rfl
  | [], _ :: _, h => by simp [AV.beqL] at h
  | _ :: _, [], h => by simp [AV.beqL] at h
  | x :: xs, y :: ys, h => by
    simp only [AV.beqL, Bool.and_eq_true] at h
    rw [AV.beq_eq _ _ h.1, AV.beqL_eq _ _ h.2]
end
theorem beqM_eq : ∀ (x y : List (PV × PV)), beqM x y = true → x = y
  | [], [], _ => rfl
  | [], _ :: _, h => by simp [beqM] at h
  | _ :: _, [], h => by simp [beqM] at h
  | (a, b) :: xs, (c, d) :: ys, h => by
    simp only [beqM, Bool.and_eq_true] at h
    rw [PV.beq_eq _ _ h.1.1, PV.beq_eq _ _ h.1.2, beqM_eq _ _ h.2]
theorem beqT_eq : ∀ (x y : List (Nat × AV)), beqT x y = true → x = y
  | [], [], _ => rfl
  | [], _ :: _, h => by simp [beqT] at h
  | _ :: _, [], h => by simp [beqT] at h
  | (a, b) :: xs, (c, d) :: ys, h => by
    simp only [beqT, Bool.and_eq_true, decide_eq_true_eq] at h
    rw [h.1.1, AV.beq_eq _ _ h.1.2, beqT_eq _ _ h.2]
theorem beqSt_eq (x y : Option Code) (h : beqSt x y = true) : x = y := by
  unfold beqSt at h
  split at h
  · rfl
  · rfl
  · rw [of_decide_eq_true h]
  · cases h
theorem Box.beq_eq (x y : Box) (h : x.beq TY y = true) (hx : x.good P TY) (hy : y.good P TY) : x = y := by
  cases x <;> cases y <;> simp [Box.beq] at h
  · rw [AV.beqL_eq _ _ h]
  · rw [h.1.1, h.1.2, PV.beqL_eq _ _ h.2]
  · rw [beqM_eq _ _ h]
  · rename_i C ps nt tm st C' ps' nt' tm' st'
    obtain ⟨⟨⟨⟨rfl, rfl⟩, h1⟩, h2⟩, h3⟩ := h
    obtain ⟨⟨la, lb, C0⟩, hT⟩ := Option.isSome_iff_exists.1 h1
    rw [(hx la lb C0 hT).1, (hy la lb C0 hT).1, beqSt_eq _ _ h2, beqT_eq _ _ h3]
theorem cptT_mem : ∀ (l : List (Nat × AV)) (seen : List Nat) (p : Nat × AV), p ∈ cptT l seen → p.1 ∉ seen ∧ l.lookup p.1 = some p.2
  | [], seen, p, h => by simp [cptT] at h
  | (s, b) :: r, seen, p, h => by
    unfold cptT at h
    split at h
    · rename_i hs
      obtain ⟨h1, h2⟩ := cptT_mem r seen p h
      have hne : p.1 ≠ s := fun e => h1 (by rw [e]; simpa using hs)
      exact ⟨h1, by rw [lookup_cons_ne hne]; exact h2⟩
    · rename_i hs
      rcases List.mem_cons.1 h with rfl | h
      · exact ⟨by simpa using hs, lookup_cons_eq⟩
      · obtain ⟨h1, h2⟩ := cptT_mem r _ p h
        have hne : p.1 ≠ s := fun e => h1 (by rw [e]; simp)
        exact ⟨fun e => h1 (by simp [e]), by rw [lookup_cons_ne hne]; exact h2⟩
theorem cptB_mem2 : ∀ (l : List (Site × Box)) (seen : List Site) (p : Site × Box), p ∈ cptB l seen → p.1 ∉ seen ∧ l.lookup p.1 = some p.2
  | [], seen, p, h => by simp [cptB] at h
  | (s, b) :: r, seen, p, h => by
    unfold cptB at h
    split at h
    · rename_i hs
      obtain ⟨h1, h2⟩ := cptB_mem2 r seen p h
      have hne : p.1 ≠ s := fun e => h1 (by rw [e]; rw [memF_eq] at hs; simpa using hs)
      exact ⟨h1, by rw [lookup_cons_ne hne]; exact h2⟩
    · rename_i hs
      rcases List.mem_cons.1 h with rfl | h
      · exact ⟨by rw [memF_eq] at hs; simpa using hs, lookup_cons_eq⟩
      · obtain ⟨h1, h2⟩ := cptB_mem2 r _ p h
        have hne : p.1 ≠ s := fun e => h1 (by rw [e]; simp)
        exact ⟨fun e => h1 (by simp [e]), by rw [lookup_cons_ne hne]; exact h2⟩
theorem mem_lookup2 {α β : Type} [BEq α] [LawfulBEq α] {l : List (α × β)} {s : α} {b : β} (h : l.lookup s = some b) : (s, b) ∈ l := by
  induction l with
  | nil => simp [List.lookup] at h
  | cons p r ih =>
    obtain ⟨a, c⟩ := p
    by_cases e : s = a
    · subst e; rw [lookup_cons_eq] at h; cases h; simp
    · rw [lookup_cons_ne e] at h; simp [ih h]
theorem meet_sub (σ1 σ2 : AS) (g1 : goodL P TY σ1.bx) (g2 : goodL P TY σ2.bx) : Sub (σ1.meet TY σ2) σ1 ∧ Sub (σ1.meet TY σ2) σ2 := by
  have ht : ∀ t a, (σ1.meet TY σ2).t t = some a → σ1.t t = some a ∧ σ2.t t = some a := fun t a h => by
    have hm := mem_lookup2 h
    obtain ⟨h1, h2⟩ := List.mem_filter.1 hm
    refine ⟨(cptT_mem _ _ _ h1).2, ?_⟩
    split at h2
    · rename_i a' ha'
      rw [ha', ← AV.beq_eq _ _ h2]
    · cases h2
  have hb : ∀ s b, (σ1.meet TY σ2).b s = some b → σ1.b s = some b ∧ σ2.b s = some b := fun s b h => by
    have hm := mem_lookup h
    obtain ⟨h1, h2⟩ := List.mem_filter.1 hm
    refine ⟨(cptB_mem2 _ _ _ h1).2, ?_⟩
    split at h2
    · rename_i a' ha'
      have hx : b.good P TY := g1 _ (cptB_mem _ _ _ h1)
      rw [ha', ← Box.beq_eq _ _ h2 hx (goodS_get g2 ha')]
    · cases h2
  exact ⟨SubS.sub ⟨fun t a h => (ht t a h).1, fun s b h => (hb s b h).1⟩, SubS.sub ⟨fun t a h => (ht t a h).2, fun s b h => (hb s b h).2⟩⟩
theorem goodS_meet {σ1 σ2 : AS} (h : goodL P TY σ1.bx) : goodL P TY (σ1.meet TY σ2).bx := fun p hp => h p (cptB_mem _ _ p (List.mem_filter.1 hp).1)
theorem stageR_sound {ex : CallR} {yl : YldR} (hex : exOk P TY ex) (hyl : ylOk P TY yl) : ∀ (l : LT) {σ τ : AS}, stageR TY ex yl l σ = some τ → goodL P TY σ.bx → (∀ {K : AS → Prop}, (∀ τ', Sub τ τ' → K τ') → opsT P l K σ) ∧ goodL P TY τ.bx
  | .done, σ, τ, h, hg => by simp [stageR] at h; subst h; exact ⟨fun hK => hK _ (Sub.refl' _), hg⟩
  | .op o t, σ, τ, h, hg => by
    unfold stageR at h
    split at h
    · rename_i τ' hr
      obtain ⟨k1, k2⟩ := loR_sound hex hyl hr hg
      obtain ⟨q1, q2⟩ := stageR_sound hex hyl t h k2
      exact ⟨fun hK => k1 _ (q1 hK), q2⟩
    · cases h
  | .alt o t r, σ, τ, h, hg => by
    unfold stageR at h
    simp only [AS.force_eq] at h
    split at h
    all_goals (try (rename_i e; cases e))
    · rename_i o' t'
      split at h
      · rename_i τ' hr
        obtain ⟨k1, k2⟩ := loR_sound hex hyl hr hg
        obtain ⟨q1, q2⟩ := stageR_sound hex hyl t h k2
        exact ⟨fun hK => ⟨k1 _ (q1 hK), trivial⟩, q2⟩
      · cases h
    · split at h
      · rename_i τ' hr
        split at h
        · rename_i τ1 τ2 h1 h2
          cases h
          obtain ⟨k1, k2⟩ := loR_sound hex hyl hr hg
          obtain ⟨q1, q2⟩ := stageR_sound hex hyl t h1 k2
          obtain ⟨p1, p2⟩ := stageR_sound hex hyl r h2 hg
          obtain ⟨m1, m2⟩ := meet_sub τ1 τ2 q2 p2
          exact ⟨fun hK => ⟨k1 _ (q1 (fun x hx => hK x (m1.trans' hx))), p1 (fun x hx => hK x (m2.trans' hx))⟩, goodS_meet q2⟩
        · cases h
      · cases h
    · cases h
  | .no, σ, τ, h, hg => by simp [stageR] at h
  | .seq t r, σ, τ, h, hg => by simp [stageR] at h
theorem opsTR_sound {ex : CallR} {yl : YldR} (hex : exOk P TY ex) (hyl : ylOk P TY yl) : ∀ (l : LT) {σ τ : AS}, opsTR TY ex yl l σ = some τ → goodL P TY σ.bx → (∀ {K : AS → Prop}, K τ → opsT P l K σ) ∧ goodL P TY τ.bx
  | .done, σ, τ, h, hg => by simp [opsTR] at h; subst h; exact ⟨fun hK => hK, hg⟩
  | .op o t, σ, τ, h, hg => by
    unfold opsTR at h
    split at h
    · rename_i τ' hr
      obtain ⟨k1, k2⟩ := loR_sound hex hyl hr hg
      obtain ⟨q1, q2⟩ := opsTR_sound hex hyl t h k2
      exact ⟨fun hK => k1 _ (q1 hK), q2⟩
    · cases h
  | .alt o t .no, σ, τ, h, hg => by
    unfold opsTR at h
    split at h
    · rename_i τ' hr
      obtain ⟨k1, k2⟩ := loR_sound hex hyl hr hg
      obtain ⟨q1, q2⟩ := opsTR_sound hex hyl t h k2
      exact ⟨fun hK => ⟨k1 _ (q1 hK), trivial⟩, q2⟩
    · cases h
  | .alt o t .done, σ, τ, h, hg => by simp [opsTR] at h
  | .alt o t (.op _ _), σ, τ, h, hg => by simp [opsTR] at h
  | .alt o t (.alt _ _ _), σ, τ, h, hg => by simp [opsTR] at h
  | .alt o t (.seq _ _), σ, τ, h, hg => by simp [opsTR] at h
  | .no, σ, τ, h, hg => by simp [opsTR] at h
  | .seq t r, σ, τ, h, hg => by
    unfold opsTR at h
    split at h
    · rename_i τ' hr
      obtain ⟨k1, k2⟩ := stageR_sound hex hyl t hr hg
      obtain ⟨q1, q2⟩ := opsTR_sound hex hyl r h k2
      exact ⟨fun hK => ⟨fun x => x = τ', k1 (fun x hx => ⟨τ', hx, rfl⟩), fun x hx => by subst hx; exact q1 hK⟩, q2⟩
    · cases h
theorem retR'_wp {rs : List LRes} {σ : AS} {r : AV} {B' : List (Site × Box)} (h : retR' rs σ = some (r, B')) (hg : goodL P TY σ.bx) : retWp rs (fun r1 B1 => r1 = r ∧ B1 = B') σ ∧ goodL P TY B' := by
  unfold retR' at h
  simp only [forceSs_eq, forceN_eq, forceBx_eq, forceFs_eq, AV.forceF_eq, AV.forceL_eq, AV.force_eq, AS.force_eq, forceT_eq, lentF_eq, dropF_eq, renF_eq, AS.purgeF_eq, allLF_eq, memF_eq, AV.allF_eq, Box.allF_eq, mapLF_eq, inF_eq', AV.mapF_eq, Site.isLocF_eq, AS.bF_eq, expF_eq, expLF_eq] at h
  split at h
  · rename_i l hl
    skip
    split at h
    · rename_i hc
      cases h
      simp only [Bool.and_eq_true] at hc
      refine ⟨⟨[], _, l, hl, hc.1.1, hc.1.2, fun s hs b hb => ?_, rfl, rfl⟩, goodL_exp hg _ _⟩
      have := List.all_eq_true.1 hc.2 s hs
      rw [show (frzL [] σ).b s = σ.b s from rfl] at hb
      rw [hb] at this
      exact this
    · cases h
  · cases h
theorem retY_wp {C : Code × Code} {ps : List Nat} {nt : Nat} {tm : List (Nat × AV)} {i : Nat} {st : Option Code} {σ : AS} {r : AV} {B' : List (Site × Box)} (h : retY C ps nt tm i st σ = some (r, B')) (hg : goodL P TY σ.bx) (hC : (Box.loop C ps nt tm st).good P TY) :
    retR C ps nt tm i (fun r1 B1 => r1 = r ∧ B1 = B') st σ ∧ goodL P TY B' := by
  unfold retY at h
  simp only [forceSs_eq, forceN_eq, forceBx_eq, forceFs_eq, AV.forceF_eq, AV.forceL_eq, AV.force_eq, AS.force_eq, forceT_eq, lentF_eq, dropF_eq, renF_eq, AS.purgeF_eq, allLF_eq, memF_eq, AV.allF_eq, Box.allF_eq, mapLF_eq, inF_eq', AV.mapF_eq, Site.isLocF_eq, AS.bF_eq, expF_eq, expLF_eq] at h
  skip
  split at h
  · rename_i hc
    cases h
    simp only [Bool.and_eq_true] at hc
    refine ⟨⟨[], _, hc.1.1, hc.1.2, fun s hs b hb => ?_, rfl, rfl⟩, fun p hp => ?_⟩
    · have := List.all_eq_true.1 hc.2 s hs
      rw [show (frzL [] σ).b s = σ.b s from rfl] at hb
      rw [hb] at this
      exact this
    · rcases List.mem_cons.1 hp with rfl | hp
      · exact hC
      · exact goodL_exp hg _ _ p hp
  · cases h
theorem rngR1_sound {ex : CallR} (hex : exOk P TY ex) {nt : Nat} {g : Opd} {C : Code × Code} {la lb : LCode} {ps : List Nat} (hC : COk P TY (.rng nt g C la lb ps)) {σ τ : AS} {e : AEx} (h : rngR1 ex nt g C ps σ = some (e, τ)) (hg : goodL P TY σ.bx) :
    (∀ Q : AEx → AS → Prop, Q e τ → rngWp0 P nt g C ps Q σ) ∧ goodL P TY τ.bx := by
  have hCg : ∀ tm, (Box.loop C ps nt tm none).good P TY := fun tm la' lb' C' ht => by
    obtain ⟨c1, c2, c3, c4, c5⟩ := hC
    rw [c3] at ht
    cases ht
    exact ⟨rfl, c1, c2, c4, c5⟩
  unfold rngR1 at h
  simp only [forceSs_eq, forceN_eq, forceBx_eq, forceFs_eq, AV.forceF_eq, AV.forceL_eq, AV.force_eq, AS.force_eq, forceT_eq, lentF_eq, dropF_eq, renF_eq, AS.purgeF_eq, allLF_eq, memF_eq, AV.allF_eq, Box.allF_eq, mapLF_eq, inF_eq', AV.mapF_eq, Site.isLocF_eq, AS.bF_eq, expF_eq, expLF_eq] at h
  skip
  split at h
  · rename_i gf fs cs hfn
    split at h
    · rename_i B hB
      split at h
      · rename_i hc
        split at h
        · rename_i r B' hr
          split at h
          · rename_i hc2
            simp only [Bool.and_eq_true] at hc hc2
            have hg1 := goodS_add (.loc nt 0) (hCg (liveT (σ.purge nt))) (goodS_purge nt hg)
            have hBg := goodL_lentBx hg1 _ _ _ _ hB
            obtain ⟨hCa, hB'⟩ := hex _ _ _ _ _ hr hBg
            have hfin : ∀ (Q : AEx → AS → Prop), (match ((((dropL (reach ((σ.purge nt).add (.loc nt 0) (.loop C ps nt (liveT (σ.purge nt)) none)) fuel (sitesGL (fs ++ [.yld (.loc nt 0)] ++ cs)) []) ((σ.purge nt).add (.loc nt 0) (.loop C ps nt (liveT (σ.purge nt)) none))).purge (nt + 1)).adds (renL (reach ((σ.purge nt).add (.loc nt 0) (.loop C ps nt (liveT (σ.purge nt)) none)) fuel (sitesGL (fs ++ [.yld (.loc nt 0)] ++ cs)) []) (nt + 1) B'))).b (.loc nt 0) with
                | some (.loop _ _ _ _ st) => jumpQ Q st (((((dropL (reach ((σ.purge nt).add (.loc nt 0) (.loop C ps nt (liveT (σ.purge nt)) none)) fuel (sitesGL (fs ++ [.yld (.loc nt 0)] ++ cs)) []) ((σ.purge nt).add (.loc nt 0) (.loop C ps nt (liveT (σ.purge nt)) none))).purge (nt + 1)).adds (renL (reach ((σ.purge nt).add (.loc nt 0) (.loop C ps nt (liveT (σ.purge nt)) none)) fuel (sitesGL (fs ++ [.yld (.loc nt 0)] ++ cs)) []) (nt + 1) B'))).drop (.loc nt 0))
                | _ => False) → rngWp0 P nt g C ps Q σ := fun Q hQ => by
              refine ⟨[], _, _, _, gf, fs, cs, B, fun t a k => ?_, rfl, ?_, nodupB_spec hc.1.1, hc.1.2, hB, hc.2, hCa.mono ?_⟩
              · exact (cptT_mem _ _ _ (List.mem_filter.1 (mem_lookup2 k)).1).2
              · unfold fnOf at hfn
                split at hfn
                · rename_i e; cases hfn; exact .inl e
                · rename_i fs' cs' e; cases hfn; exact .inr ⟨fs', cs', e, rfl, rfl⟩
                · cases hfn
              · rintro r1 B1 ⟨rfl, rfl⟩
                refine ⟨hc2.1, fun p hp => ?_, hQ⟩
                have := List.all_eq_true.1 hc2.2 p hp
                simpa using this
            have hgl := goodS_drop (.loc nt 0) (σ := ((dropL (reach ((σ.purge nt).add (.loc nt 0) (.loop C ps nt (liveT (σ.purge nt)) none)) fuel (sitesGL (fs ++ [.yld (.loc nt 0)] ++ cs)) []) ((σ.purge nt).add (.loc nt 0) (.loop C ps nt (liveT (σ.purge nt)) none))).purge (nt + 1)).adds (renL (reach ((σ.purge nt).add (.loc nt 0) (.loop C ps nt (liveT (σ.purge nt)) none)) fuel (sitesGL (fs ++ [.yld (.loc nt 0)] ++ cs)) []) (nt + 1) B')) (goodL_app (goodL_renL _ _ hB') (goodS_purge _ (goodS_dropL _ hg1)))
            generalize ((dropL (reach ((σ.purge nt).add (.loc nt 0) (.loop C ps nt (liveT (σ.purge nt)) none)) fuel (sitesGL (fs ++ [.yld (.loc nt 0)] ++ cs)) []) ((σ.purge nt).add (.loc nt 0) (.loop C ps nt (liveT (σ.purge nt)) none))).purge (nt + 1)).adds (renL (reach ((σ.purge nt).add (.loc nt 0) (.loop C ps nt (liveT (σ.purge nt)) none)) fuel (sitesGL (fs ++ [.yld (.loc nt 0)] ++ cs)) []) (nt + 1) B') = T at h hfin hgl
            split at h
            · rename_i hb; cases h; exact ⟨fun Q hQ => hfin Q (by rw [hb]; exact hQ), hgl⟩
            · rename_i hb; cases h; exact ⟨fun Q hQ => hfin Q (by rw [hb]; exact hQ), hgl⟩
            · rename_i hb; cases h; exact ⟨fun Q hQ => hfin Q (by rw [hb]; exact hQ), hgl⟩
            · cases h
          · cases h
        · cases h
      · cases h
    · cases h
  · cases h
theorem rngR_sound {ex : CallR} (hex : exOk P TY ex) {nt : Nat} {g : Opd} {C : Code × Code} {la lb : LCode} {ps : List Nat} (hC : COk P TY (.rng nt g C la lb ps)) {σ τ : AS} {e : AEx} (h : rngR ex nt g C ps σ = some (e, τ)) (hg : goodL P TY σ.bx) :
    (∀ Q : AEx → AS → Prop, Q e τ → rngWp0 P nt g C ps Q σ) ∧ goodL P TY τ.bx := by
  unfold rngR at h
  simp only [AS.force_eq] at h
  split at h
  · exact rngR1_sound hex hC h hg
  · obtain ⟨k1, k2⟩ := rngR1_sound hex hC h (goodS_frzsL _ hg)
    refine ⟨fun Q hQ => ?_, k2⟩
    obtain ⟨fz, h1⟩ := k1 Q hQ
    exact ⟨.ret 0 :: fz, h1⟩
/-- WHAT IS CARRIED OUT IS SO. -/
theorem ex_sound (hm : P.follows .mixedOrders = true) {T : FuncId → Option LFn} (hT : ∀ f F, T f = some F → litF P f = some F ∧ COk P TY F.code) : ∀ (n : Nat),
    (∀ (c : LCode) (σ τ : AS) (e : AEx), exL T TY n c σ = some (e, τ) → COk P TY c → goodL P TY σ.bx → (∀ Q : AEx → AS → Prop, Q e τ → awp P c Q σ) ∧ goodL P TY τ.bx) ∧ exOk P TY (exG T (exL T TY n)) ∧ ylOk P TY (yldG TY (exL T TY n)) := by
  have callOk : ∀ n, (∀ (c : LCode) (σ τ : AS) (e : AEx), exL T TY n c σ = some (e, τ) → COk P TY c → goodL P TY σ.bx → (∀ Q : AEx → AS → Prop, Q e τ → awp P c Q σ) ∧ goodL P TY τ.bx) → exOk P TY (exG T (exL T TY n)) := by
    intro n ih g as B r B' h hg
    unfold exG at h
    split at h
    · rename_i F hF
      split at h
      · rename_i hle
        have fin : ∀ τ e, exL T TY n F.code ⟨initT 0 as, B⟩ = some (e, τ) → (e = .normal ∨ e = .ret) → retR' F.res τ = some (r, B') → CallsA P g as B (fun r1 B1 => r1 = r ∧ B1 = B') ∧ goodL P TY B' := fun τ e hrun he hret => by
          obtain ⟨k1, k2⟩ := ih _ _ _ _ hrun (hT g F hF).2 hg
          obtain ⟨q1, q2⟩ := retR'_wp hret k2
          refine ⟨calls_of_awp_gen hm (hT g F hF).1 (Nat.le_of_ble_eq_true hle) (Fin := retWp F.res (fun r1 B1 => r1 = r ∧ B1 = B')) (fun _ h => h) (k1 _ ?_), q2⟩
          rcases he with rfl | rfl <;> exact q1
        split at h
        · rename_i τ hrun; exact fin τ .normal hrun (.inl rfl) h
        · rename_i τ hrun; exact fin τ .ret hrun (.inr rfl) h
        · cases h
      · cases h
    · cases h
  have yldOk : ∀ n, (∀ (c : LCode) (σ τ : AS) (e : AEx), exL T TY n c σ = some (e, τ) → COk P TY c → goodL P TY σ.bx → (∀ Q : AEx → AS → Prop, Q e τ → awp P c Q σ) ∧ goodL P TY τ.bx) → ylOk P TY (yldG TY (exL T TY n)) := by
    intro n ih i as B r B' h hg
    unfold yldG at h
    simp only [AS.force_eq] at h
    split at h
    · rename_i C ps nt tm hB
      split at h
      · rename_i la lb C' hTY
        split at h
        · rename_i hc
          simp only [Bool.and_eq_true] at hc
          have hbg : (Box.loop C ps nt tm none).good P TY := hg _ (mem_lookup hB)
          obtain ⟨_, c1, c2, c3, c4⟩ := hbg la lb C' hTY
          have hg0 : goodL P TY (B.filter fun p => !decide (p.1 = .par i)) := goodL_filter hg
          split at h
          · rename_i τ hra
            obtain ⟨a1, a2⟩ := ih _ _ _ _ hra c3 hg0
            have fin : ∀ (st : Option Code) (e : AEx) τ2, exL T TY n lb τ = some (e, τ2) → retY C ps nt tm i st τ2 = some (r, B') → (∀ R σ, retR C ps nt tm i R st σ → roundQ C ps nt tm i R e σ) → YieldsA P i as B (fun r1 B1 => r1 = r ∧ B1 = B') ∧ goodL P TY B' := fun st e τ2 hrb hret hq => by
              obtain ⟨b1, b2⟩ := ih _ _ _ _ hrb c4 a2
              obtain ⟨q1, q2⟩ := retY_wp hret b2 (fun la' lb' C'' ht => hbg la' lb' C'' ht)
              exact ⟨yields_of_awp hm c1 c2 hB (by simpa using hc.1.1) (fun p hp => by
                have := List.all_eq_true.1 hc.1.2 p hp
                have h2 : p + 1 ≤ nt := by simpa [Nat.blt] using this
                omega) hc.2 (a1 _ (b1 _ (hq _ _ q1))), q2⟩
            split at h
            · rename_i τ2 hrb; exact fin none .normal τ2 hrb h (fun _ _ h => h)
            · rename_i τ2 hrb; exact fin (some .ret) .ret τ2 hrb h (fun _ _ h => h)
            · rename_i id τ2 hrb; exact fin (some (.exit id)) (.exit id) τ2 hrb h (fun _ _ h => h)
            · cases h
          · cases h
        · cases h
      · cases h
    · cases h
  intro n
  induction n with
  | zero =>
    have h0 : ∀ (c : LCode) (σ τ : AS) (e : AEx), exL T TY 0 c σ = some (e, τ) → COk P TY c → goodL P TY σ.bx → (∀ Q : AEx → AS → Prop, Q e τ → awp P c Q σ) ∧ goodL P TY τ.bx := fun c σ τ e h => by simp [exL] at h
    exact ⟨h0, callOk 0 h0, yldOk 0 h0⟩
  | succ n ih =>
    have main : ∀ (c : LCode) (σ τ : AS) (e : AEx), exL T TY (n + 1) c σ = some (e, τ) → COk P TY c → goodL P TY σ.bx → (∀ Q : AEx → AS → Prop, Q e τ → awp P c Q σ) ∧ goodL P TY τ.bx := by
      intro c σ τ e h hco hg
      cases c with
      | skip => simp [exL] at h; obtain ⟨rfl, rfl⟩ := h; exact ⟨fun Q hQ => hQ, hg⟩
      | region ops =>
        simp only [exL] at h
        split at h
        · rename_i τ' hr
          cases h
          obtain ⟨k1, k2⟩ := opsR_sound ih.2.1 ih.2.2 hr hg
          exact ⟨fun Q hQ => k1 hQ, k2⟩
        · cases h
      | regT t =>
        simp only [exL] at h
        split at h
        · rename_i τ' hr
          cases h
          obtain ⟨k1, k2⟩ := opsTR_sound ih.2.1 ih.2.2 t hr hg
          exact ⟨fun Q hQ => k1 hQ, k2⟩
        · cases h
      | seq a b =>
        simp only [exL] at h
        split at h
        · rename_i τ' ha
          obtain ⟨k1, k2⟩ := ih.1 _ _ _ _ ha hco.1 hg
          obtain ⟨q1, q2⟩ := ih.1 _ _ _ _ h hco.2 k2
          exact ⟨fun Q hQ => k1 _ (q1 Q hQ), q2⟩
        · rename_i r hne
          obtain ⟨k1, k2⟩ := ih.1 _ _ _ _ h hco.1 hg
          refine ⟨fun Q hQ => k1 _ ?_, k2⟩
          cases e with
          | normal => exact absurd h (hne τ)
          | exit id => exact hQ
          | ret => exact hQ
      | cond c a b =>
        simp only [exL] at h
        show (∀ Q : AEx → AS → Prop, Q e τ → match σ.o c with
          | .pv (.bool t) => if t = true then awp P a Q σ else awp P b Q σ
          | _ => False) ∧ _
        split at h
        · rename_i hc; rw [hc]; exact ih.1 _ _ _ _ h hco.1 hg
        · rename_i hc; rw [hc]; exact ih.1 _ _ _ _ h hco.2 hg
        · cases h
      | block id c =>
        simp only [exL] at h
        show (∀ Q : AEx → AS → Prop, Q e τ → awp P c (blockA id Q) σ) ∧ _
        split at h
        · rename_i id' τ' hr
          obtain ⟨k1, k2⟩ := ih.1 _ _ _ _ hr hco hg
          split at h
          · rename_i hid
            cases h
            refine ⟨fun Q hQ => k1 _ ?_, k2⟩
            have : id' = id := by simpa using hid
            show if id' = id then Q .normal τ else Q (.exit id') τ
            rw [if_pos this]; exact hQ
          · rename_i hid
            cases h
            refine ⟨fun Q hQ => k1 _ ?_, k2⟩
            have : ¬ id' = id := by simpa using hid
            show if id' = id then Q .normal τ else Q (.exit id') τ
            rw [if_neg this]; exact hQ
        · rename_i r hne
          obtain ⟨k1, k2⟩ := ih.1 _ _ _ _ h hco hg
          refine ⟨fun Q hQ => k1 _ ?_, k2⟩
          cases e with
          | normal => exact hQ
          | exit id' => exact absurd h (hne id' τ)
          | ret => exact hQ
      | loop c =>
        simp only [exL, AS.force_eq] at h
        split at h
        · rename_i τ' hr
          obtain ⟨a1, a2⟩ := ih.1 _ _ _ _ hr hco hg
          obtain ⟨b1, b2⟩ := ih.1 _ _ _ _ h hco (goodS_cpt a2)
          refine ⟨fun Q hQ => ?_, b2⟩
          obtain ⟨I, n0, τ0, h1, h2, h3⟩ := b1 Q hQ
          refine ⟨fun k t => (k = n0 + 1 ∧ t = σ) ∨ I k t, n0 + 1, σ, Sub.refl' σ, .inl ⟨rfl, rfl⟩, ?_⟩
          rintro k t (⟨rfl, rfl⟩ | hI)
          · refine a1 _ ?_
            have hs := cpt_sub τ'
            exact ⟨n0, τ0, Nat.lt_succ_self _, h1.trans' hs, .inr h2⟩
          · exact awp_mono (h3 k t hI) (fun e τ2 q => by
              cases e with
              | normal => obtain ⟨k', τ3, q1, q2, q3⟩ := q; exact ⟨k', τ3, q1, q2, .inr q3⟩
              | exit id => exact q
              | ret => exact q)
        · rename_i r hne
          obtain ⟨k1, k2⟩ := ih.1 _ _ _ _ h hco hg
          refine ⟨fun Q hQ => ⟨fun k t => t = σ, 0, σ, Sub.refl' _, rfl, ?_⟩, k2⟩
          rintro k t rfl
          refine k1 _ ?_
          cases e with
          | normal => exact absurd h (hne τ)
          | exit id => exact hQ
          | ret => exact hQ
      | exit id => simp [exL] at h; obtain ⟨rfl, rfl⟩ := h; exact ⟨fun Q hQ => hQ, hg⟩
      | ret => simp [exL] at h; obtain ⟨rfl, rfl⟩ := h; exact ⟨fun Q hQ => hQ, hg⟩
      | rng nt g C la lb ps => exact (rngR_sound ih.2.1 hco h hg).imp (fun k Q hQ => ⟨_, Sub.refl' _, k Q hQ⟩) id
    exact ⟨main, callOk _ main, yldOk _ main⟩
end
end Go.Proofs.Ytohhjnpiiackjaa

/-! An evaluation of Go's code over plain values, carried out: tables of functions. Over any program. -/
namespace Go.Proofs.Ytohhjnpiiackjaa
open Go.RowKit

/-- The codes of the ranges over functions in a function, in order. -/
def rangeCodes : Code → List (Code × Code)
  | .seq a b => rangeCodes a ++ rangeCodes b
  | .cond _ a b => rangeCodes a ++ rangeCodes b
  | .block _ c => rangeCodes c
  | .loop c => rangeCodes c
  | .scope c => rangeCodes c
  | .rangeFunc _ _ a b => (a, b) :: (rangeCodes a ++ rangeCodes b)
  | _ => []
def rcode (P : Program) (f : FuncId) (k : Nat) : Code × Code := match P.funcs[f]? with
  | some fn => match fn.body with
    | some c => (rangeCodes c).getD k (.skip, .skip)
    | none => (.skip, .skip)
  | none => (.skip, .skip)
def noRng : LCode → Bool
  | .seq a b => noRng a && noRng b
  | .cond _ a b => noRng a && noRng b
  | .block _ c => noRng c
  | .loop c => noRng c
  | .rng _ _ _ _ _ _ => false
  | _ => true
theorem noRng_ok {TY : TYR} : ∀ {c : LCode}, noRng c = true → tabOk TY c
  | .skip, _ => trivial
  | .region _, _ => trivial
  | .regT _, _ => trivial
  | .seq a b, h => by
    simp only [noRng, Bool.and_eq_true] at h
    exact ⟨noRng_ok h.1, noRng_ok h.2⟩
  | .cond _ a b, h => by
    simp only [noRng, Bool.and_eq_true] at h
    exact ⟨noRng_ok h.1, noRng_ok h.2⟩
  | .block _ c, h => noRng_ok (c := c) h
  | .loop c, h => noRng_ok (c := c) h
  | .exit _, _ => trivial
  | .ret, _ => trivial
  | .rng _ _ _ _ _ _, h => by simp [noRng] at h
/-- Tables as lists. -/
def tyOf (l : List ((Nat × List Nat) × (LCode × LCode × (Code × Code)))) : TYR := fun nt ps => l.lookup (nt, ps)
def ttOf (l : List (Nat × LFn)) : FuncId → Option LFn := fun f => l.lookup f
def allT (P : Program) (TY : TYR) : List (Nat × LFn) → Prop
  | [] => True
  | p :: r => (litF P p.1 = some p.2 ∧ tabOk TY p.2.code) ∧ allT P TY r
theorem litF_ok {P : Program} {TY : TYR} {f : FuncId} {F : LFn} (h : litF P f = some F) (ht : tabOk TY F.code) : COk P TY F.code := by
  unfold litF at h
  split at h
  · split at h
    · cases h
    · split at h
      · split at h
        · rename_i l r h1 h2
          cases h
          exact litC_ok _ _ h1 ht
        · cases h
      · cases h
  · cases h
theorem allT_get {P : Program} {TY : TYR} : ∀ {l : List (Nat × LFn)}, allT P TY l → ∀ f F, ttOf l f = some F → litF P f = some F ∧ COk P TY F.code
  | [], _, f, F, h => by simp [ttOf, List.lookup] at h
  | (g, G) :: r, hl, f, F, h => by
    unfold ttOf at h
    by_cases e : f = g
    · subst e
      rw [lookup_cons_eq] at h
      cases h
      exact ⟨hl.1.1, litF_ok hl.1.1 hl.1.2⟩
    · rw [lookup_cons_ne e] at h
      exact allT_get hl.2 f F h
/-- A call, carried out. -/
theorem run_ok {P : Program} (hm : P.follows .mixedOrders = true) {l : List (Nat × LFn)} {ty : List ((Nat × List Nat) × (LCode × LCode × (Code × Code)))} (h : allT P (tyOf ty) l) {n : Nat} {f : FuncId} {as : List AV} {r : AV} {B' : List (Site × Box)}
    (hr : exG (ttOf l) (exL (ttOf l) (tyOf ty) n) f as [] = some (r, B')) : CallsA P f as [] (fun r1 B1 => r1 = r ∧ B1 = B') :=
  ((ex_sound hm (allT_get h) n).2.1 f as [] r B' hr (fun p hp => by cases hp)).1
end Go.Proofs.Ytohhjnpiiackjaa
