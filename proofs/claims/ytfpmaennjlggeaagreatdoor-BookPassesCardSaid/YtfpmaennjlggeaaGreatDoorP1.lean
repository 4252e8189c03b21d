/- The registrar's book: what the statement needs, joined and shortened by program. -/
import Derived.Test.YtfpmaennjlggeaaGreatDoorP0
import Derived.OrdersHeld
import Derived.OrdersIn
import Derived.TacticsIn
import Derived.RangeFuncLeaves
import Derived.RangeFuncRecord
import Derived.Scope
import Derived.RangeFuncNested
import Derived.Sort.LoopGhostIn
import Derived.ChangeSame
import Derived.ProofKit
import Derived.Deep.Slices
import Derived.ReadAgain
import Derived.OpenShut
import Derived.Eval
import Derived.Test.YtfpmaennjlggeaaGreatDoorProg
set_option linter.unusedSimpArgs false
set_option linter.unusedVariables false
set_option maxHeartbeats 32000000
set_option maxRecDepth 10000
namespace Go.Proofs.YtfpmaennjlggeaaGreatDoor
open Go.RowKit
section
section
variable {P:Program}{N:Nat}{w0:World}{m0:Env w0}{pl:List Nat}{σ:AS}{ρ:Site→Loc}{m:Mem}{act:Act}{w:World}{o:Oper}{d:Nat}{K:AV→AS→Prop}
theorem ZdM {x:Option Operand}{x':Option Opd}(h:oopd x=some x'):(x=none∧x'=none)∨∃a a',x=some a∧x'=some a'∧opd a=some a':=by
 cases x with
 |none=>simp[oopd]at h;exact .inl ⟨rfl,h.symm⟩
 |some a=>
  simp only[oopd,ZxP]at h;obtain⟨a',k1,rfl⟩:=h;exact .inr ⟨a,a',rfl,rfl,k1⟩
theorem ZeV {l:List Operand}{x y:Opd}(h:opds l=some [x,y]):∃a b,l=[a,b]∧opd a=some x∧opd b=some y:=by
 obtain⟨h1,h2⟩:=ZbK h
 match l,h1 with
 |[a,b],_=>
  obtain⟨x',k1,k2⟩:=h2 0 a rfl;obtain⟨y',k3,k4⟩:=h2 1 b rfl;simp at k1 k3;subst k1 k3;exact⟨a,b,rfl,k2,k4⟩
def LOp.still:LOp→Bool
 |.mov _=>true
 |.pick _ _ _=>true
 |.bin _ _ _ _=>true
 |.not _=>true
 |.neg _=>true
 |.nilq _ _ _=>true
 |.build _ _=>true
 |.fa _ _=>true
 |.fld _ _ _ _=>true
 |.ia _ _ _ _=>true
 |.len _ _=>true
 |.ext _ _=>true
 |.mkf _ _ _=>true
 |.nilc _=>true
 |.minmax _ _ _=>true
 |.conv _ _=>true
 |.slc _ _ _ _ _ _=>true
 |.x y=>y.still
 |_=>false
def LOp.ZvJ:LOp→Bool
 |.load _ _ _=>true
 |.x y=>y.read
 |_=>false
theorem Zni {y:Operand}{x:PV}(h:opd y=some (.c x)):(∃f,y=.func f)∨∃v,y=.const v∧pvOf v=some x:=by
 cases y with
 |tmp k=>simp[opd]at h
 |const v=>simp[opd]at h;exact .inr ⟨v,rfl,h⟩
 |func f=>exact .inl ⟨f,rfl⟩
 |global g=>simp[opd]at h
theorem Zgp {y:Operand}(h:opd y=some (.c (.emp (some true))))(act:Act):act.eval y=Zdo .sl:=by
 rcases Zni h with⟨f,rfl⟩|⟨v,rfl,hv⟩
 ·simp[opd]at h
 ·unfold pvOf at hv;split at hv<;>first|rfl|cases hv
theorem Zgq {y:Operand}(h:opd y=some (.c .nilp))(act:Act):act.eval y=Zdo .pt:=by
 rcases Zni h with⟨f,rfl⟩|⟨v,rfl,hv⟩
 ·simp[opd]at h
 ·unfold pvOf at hv;split at hv<;>first|rfl|cases hv
theorem Zgr {y:Operand}(h:opd y=some (.c .nilmap))(act:Act):act.eval y=Zdo .mp:=by
 rcases Zni h with⟨f,rfl⟩|⟨v,rfl,hv⟩
 ·simp[opd]at h
 ·unfold pvOf at hv;split at hv<;>first|rfl|cases hv
theorem Znw (hn:∀f l,Zay P o.op≠.call f l)(h:opWp (Zay P o.op) d K σ)(hS:Sat N w0 m0 pl σ ρ m act w):Res P N w0 m0 pl o act w K:=by
 cases hop:o.op<;>rw[hop]at h hn<;>simp only[Zay]at h hn
 case move x=>
  split at h
  ·rename_i y e;exact(Zg6 e (.inl hop) h hS (G:=fun _=>True)).res trivial hS
  ·exact h.elim
 case assign x=>
  split at h
  ·rename_i y e;exact(Zg6 e (.inr hop) h hS (G:=fun _=>True)).res trivial hS
  ·exact h.elim
 case pick c a b=>
  split at h
  ·rename_i e1 e2 e3;exact(Zkq e1 e2 e3 hop h hS (G:=fun _=>True)).res trivial hS
  ·exact h.elim
 case binOp op t x y u=>
  split at h
  ·rename_i e1 e2 e3;exact(Zg7 e1 e2 hop h hS (fun e=>by cases e) (G:=fun _=>True)).res trivial hS
  ·rename_i e1 e2 e3;exact(Zg7 e1 e2 hop h hS (fun _=>e3) (G:=fun _=>True)).res trivial hS
  ·rename_i e1 e2 e3;exact(Zc6 e1 (Zgp e2 act) ⟨_,e3⟩ hop h hS (G:=fun _=>True)).res trivial hS
  ·rename_i e1 e2 e3;exact(Zc6 e1 (Zgq e2 act) ⟨_,e3⟩ hop h hS (G:=fun _=>True)).res trivial hS
  ·rename_i e1 e2 e3;exact(Zc6 e1 (Zgr e2 act) ⟨_,_,e3⟩ hop h hS (G:=fun _=>True)).res trivial hS
  ·exact h.elim
 case unOp op t x=>
  cases op<;>simp only at h
  case not=>
   split at h
   ·rename_i e;exact(ZmL e hop h hS (G:=fun _=>True)).res trivial hS
   ·exact h.elim
  case neg=>
   split at h
   ·rename_i e;exact(ZmM e hop h hS (G:=fun _=>True)).res trivial hS
   ·exact h.elim
  all_goals exact h.elim
 case box t x=>
  split at h
  ·rename_i e1 e2;exact Zsp e1 e2 hop h hS
  ·exact h.elim
 case alloc t=>
  split at h
  ·rename_i e1;exact ZmS e1 hop h hS
  ·exact h.elim
 case build t ps=>
  split at h
  ·rename_i e1 e2;split at h
   ·rename_i e3;exact(Zh2 e1 e2 e3 hop h hS (G:=fun _=>True)).res trivial hS
   ·exact h.elim
  ·exact h.elim
 case buildSlice t len ps=>
  split at h
  ·rename_i e1 e2;split at h
   ·rename_i e3;exact ZlH e1 e2 e3.1 e3.2.1 e3.2.2.1 e3.2.2.2 hop h hS
   ·exact h.elim
  ·exact h.elim
 case load t x=>
  split at h
  ·rename_i e1 e2 e3;exact(Zks e1 e2 e3 hop h hS).res (.refl hS) hS
  ·exact h.elim
 case store t x y=>
  split at h
  ·rename_i e1 e2 e3;exact ZmJ e1 e2 e3 hop h hS
  ·exact h.elim
 case fieldAddr t x f=>
  split at h
  ·rename_i e1 e2;exact(Zrx e1 e2 hop h hS (G:=fun _=>True)).res trivial hS
  ·exact h.elim
 case indexAddr t x i=>
  split at h
  ·rename_i e1 e2 e3;exact(Zrw e1 e2 e3 hop h hS (G:=fun _=>True)).res trivial hS
  ·exact h.elim
 case extract x i=>
  split at h
  ·rename_i e1;exact(ZmQ e1 hop h hS (G:=fun _=>True)).res trivial hS
  ·exact h.elim
 case nilCheck x=>
  split at h
  ·rename_i e1;exact(Zkr e1 hop h hS (G:=fun _=>True)).res trivial hS
  ·exact h.elim
 case convert src dst x=>
  split at h
  ·rename_i e1 e2 e3;exact(Zkt e1 e2 e3 hop h hS (G:=fun _=>True)).res trivial hS
  ·exact h.elim
 case makeFunc fn fs cs=>
  cases fn<;>simp only at h
  case func f=>
   split at h
   ·rename_i e1 e2;exact(ZmN e1 e2 hop h hS (G:=fun _=>True)).res trivial hS
   ·exact h.elim
  all_goals exact h.elim
 case slice t x lo hi mx=>
  cases mx<;>simp only at h
  case none=>
   split at h
   ·rename_i e1 e2 e3 e4;exact(ZmK e1 e2 (ZdM e3) (ZdM e4) hop h hS (G:=fun _=>True)).res trivial hS
   ·exact h.elim
  case some=>exact h.elim
 case field t x f=>
  split at h
  ·rename_i e1 e2;split at h
   ·rename_i e3;split at h
    ·rename_i e4 e5;exact(ZmP e1 e2 e3 e4 (by rw[e5];rfl) hop h hS (G:=fun _=>True)).res trivial hS
    ·exact h.elim
   ·exact h.elim
  ·exact h.elim
 case makeSlice t l c=>
  split at h
  ·rename_i e1 e2 e3;split at h
   ·rename_i e4 e5;split at h
    ·rename_i e6;exact Zso e2 e3 e1 e4 e5 rfl e6.1 e6.2 hop h hS
    ·exact h.elim
   ·exact h.elim
  ·exact h.elim
 case call c=>
  split at h
  ·rename_i hc;split at h
   ·rename_i ha ht;split at h
    ·rename_i e1 e2;exact(ZmO e1 e2 hc ha ht hop h hS (G:=fun _=>True)).res trivial hS
    ·exact h.elim
   ·exact h.elim
  ·rename_i hc;split at h
   ·rename_i ha ht;split at h
    ·rename_i e1 e2 e3;split at h
     ·rename_i e4 e5;split at h
      ·rename_i e6;obtain⟨rfl,e7,e8⟩:=e6;obtain⟨v,w',a,σ',ρ',m',k1,k2,k3,k4,k5⟩:=ZmR e1 e2 e3 e4 e5 rfl e7 e8 hc ha ht hop h hS;exact⟨v,w',a,σ',ρ',m',k1,k2,k3,k4,fun hm=>by rw[hop]at hm;cases hm⟩
      ·exact h.elim
     ·exact h.elim
    ·exact h.elim
   ·exact h.elim
  ·rename_i hc;split at h
   ·rename_i e1;obtain⟨a,b,k1,k2,k3⟩:=ZeV e1;exact(Zc7 (mx:=false) k2 k3 hc k1 hop h hS (G:=fun _=>True)).res trivial hS
   ·exact h.elim
  ·rename_i hc;split at h
   ·rename_i e1;obtain⟨a,b,k1,k2,k3⟩:=ZeV e1;exact(Zc7 (mx:=true) k2 k3 hc k1 hop h hS (G:=fun _=>True)).res trivial hS
   ·exact h.elim
  ·rename_i f hc;simp only[hc]at hn;split at h
   ·rename_i e1 e2;simp only[e1,e2]at hn;exact absurd rfl (hn _ _)
   ·exact h.elim
  ·exact h.elim
 all_goals exact h.elim
theorem ZpP {e n bytes:Nat}{x' y':Opd}(hn:Zay P o.op=.app e n bytes x' y')(h:opWp (Zay P o.op) d K σ)(hS:Sat N w0 m0 pl σ ρ m act w):ResE (∃nl,σ.o x'=.pv (.emp nl)) P N w0 m0 pl o act w K:=by
 rw[hn]at h;cases hop:o.op<;>rw[hop]at hn
 case call c=>
  simp only[Zay,nilK]at hn;split at hn
  case h_2 hc=>
   split at hn
   ·rename_i ha ht;split at hn
    ·rename_i e1 e2 e3;split at hn
     ·rename_i e4 e5;split at hn
      ·rename_i e6;obtain⟨rfl,e7,e8⟩:=e6;cases hn;exact ZmR e1 e2 e3 e4 e5 rfl e7 e8 hc ha ht hop h hS
      ·cases hn
     ·cases hn
    ·cases hn
   ·cases hn
  all_goals (exfalso;repeat' (first|(cases hn;done)|split at hn))
 case unOp op t x=>exfalso;cases op<;>simp only[Zay,nilK]at hn<;>(try split at hn)<;>cases hn
 case makeFunc fn fs cs=>exfalso;cases fn<;>simp only[Zay,nilK]at hn<;>(try split at hn)<;>cases hn
 case slice t x lo hi mx=>exfalso;cases mx<;>simp only[Zay,nilK]at hn<;>(try split at hn)<;>cases hn
 all_goals (exfalso;simp only[Zay,nilK]at hn;repeat' (first|(cases hn;done)|split at hn))
theorem Znv {G:World→Prop}(hn:(Zay P o.op).still=true)(h:opWp (Zay P o.op) d K σ)(hS:Sat N w0 m0 pl σ ρ m act w):ResP G P σ ρ m o act w K:=by
 cases hop:o.op<;>rw[hop]at h hn<;>simp only[Zay]at h hn
 case move x=>
  split at h
  ·rename_i y e;exact Zg6 e (.inl hop) h hS
  ·exact h.elim
 case assign x=>
  split at h
  ·rename_i y e;exact Zg6 e (.inr hop) h hS
  ·exact h.elim
 case pick c a b=>
  split at h
  ·rename_i e1 e2 e3;exact Zkq e1 e2 e3 hop h hS
  ·exact h.elim
 case binOp op t x y u=>
  split at h
  ·rename_i e1 e2 e3;exact Zg7 e1 e2 hop h hS (fun e=>by cases e)
  ·rename_i e1 e2 e3;exact Zg7 e1 e2 hop h hS (fun _=>e3)
  ·rename_i e1 e2 e3;exact Zc6 e1 (Zgp e2 act) ⟨_,e3⟩ hop h hS
  ·rename_i e1 e2 e3;exact Zc6 e1 (Zgq e2 act) ⟨_,e3⟩ hop h hS
  ·rename_i e1 e2 e3;exact Zc6 e1 (Zgr e2 act) ⟨_,_,e3⟩ hop h hS
  ·exact h.elim
 case unOp op t x=>
  cases op<;>simp only at h
  case not=>
   split at h
   ·rename_i e;exact ZmL e hop h hS
   ·exact h.elim
  case neg=>
   split at h
   ·rename_i e;exact ZmM e hop h hS
   ·exact h.elim
  all_goals exact h.elim
 case box t x=>
  split at h
  ·rename_i e1 e2;simp_all [LOp.still]
  ·exact h.elim
 case alloc t=>
  split at h
  ·rename_i e1;simp_all [LOp.still]
  ·exact h.elim
 case build t ps=>
  split at h
  ·rename_i e1 e2;split at h
   ·rename_i e3;exact Zh2 e1 e2 e3 hop h hS
   ·exact h.elim
  ·exact h.elim
 case buildSlice t len ps=>
  split at h
  ·rename_i e1 e2;split at h
   ·rename_i e3;simp_all [LOp.still]
   ·exact h.elim
  ·exact h.elim
 case load t x=>
  split at h
  ·rename_i e1 e2 e3;simp_all [LOp.still]
  ·exact h.elim
 case store t x y=>
  split at h
  ·rename_i e1 e2 e3;simp_all [LOp.still]
  ·exact h.elim
 case fieldAddr t x f=>
  split at h
  ·rename_i e1 e2;exact Zrx e1 e2 hop h hS
  ·exact h.elim
 case indexAddr t x i=>
  split at h
  ·rename_i e1 e2 e3;exact Zrw e1 e2 e3 hop h hS
  ·exact h.elim
 case extract x i=>
  split at h
  ·rename_i e1;exact ZmQ e1 hop h hS
  ·exact h.elim
 case nilCheck x=>
  split at h
  ·rename_i e1;exact Zkr e1 hop h hS
  ·exact h.elim
 case convert src dst x=>
  split at h
  ·rename_i e1 e2 e3;exact Zkt e1 e2 e3 hop h hS
  ·exact h.elim
 case makeFunc fn fs cs=>
  cases fn<;>simp only at h
  case func f=>
   split at h
   ·rename_i e1 e2;exact ZmN e1 e2 hop h hS
   ·exact h.elim
  all_goals exact h.elim
 case slice t x lo hi mx=>
  cases mx<;>simp only at h
  case none=>
   split at h
   ·rename_i e1 e2 e3 e4;exact ZmK e1 e2 (ZdM e3) (ZdM e4) hop h hS
   ·exact h.elim
  case some=>exact h.elim
 case field t x f=>
  split at h
  ·rename_i e1 e2;split at h
   ·rename_i e3;split at h
    ·rename_i e4 e5;exact ZmP e1 e2 e3 e4 (by rw[e5];rfl) hop h hS
    ·exact h.elim
   ·exact h.elim
  ·exact h.elim
 case makeSlice t l c=>
  split at h
  ·rename_i e1 e2 e3;split at h
   ·rename_i e4 e5;split at h
    ·rename_i e6;simp_all [LOp.still]
    ·exact h.elim
   ·exact h.elim
  ·exact h.elim
 case call c=>
  split at h
  ·rename_i hc;split at h
   ·rename_i ha ht;split at h
    ·rename_i e1 e2;exact ZmO e1 e2 hc ha ht hop h hS
    ·exact h.elim
   ·exact h.elim
  ·rename_i hc;split at h
   ·rename_i ha ht;split at h
    ·rename_i e1 e2 e3;split at h
     ·rename_i e4 e5;split at h
      ·rename_i e6;obtain⟨e0,e7,e8⟩:=e6
       simp_all [LOp.still]
      ·exact h.elim
     ·exact h.elim
    ·exact h.elim
   ·exact h.elim
  ·rename_i hc;split at h
   ·rename_i e1;obtain⟨a,b,k1,k2,k3⟩:=ZeV e1;exact Zc7 (mx:=false) k2 k3 hc k1 hop h hS
   ·exact h.elim
  ·rename_i hc;split at h
   ·rename_i e1;obtain⟨a,b,k1,k2,k3⟩:=ZeV e1;exact Zc7 (mx:=true) k2 k3 hc k1 hop h hS
   ·exact h.elim
  ·rename_i f hc;simp only[hc]at hn;split at h
   ·rename_i e1 e2;simp[e1,e2,LOp.still]at hn
   ·exact h.elim
  ·exact h.elim
 all_goals exact h.elim
theorem ZpO (hn:∃b n x,Zay P o.op=.load b n x)(h:opWp (Zay P o.op) d K σ)(hS:Sat N w0 m0 pl σ ρ m act w):ResP (Stay σ ρ m w) P σ ρ m o act w K:=by
 obtain⟨b,n,x,hn⟩:=hn;cases hop:o.op<;>rw[hop]at h hn
 case load t x=>
  simp only[Zay]at h;split at h
  ·rename_i e1 e2 e3;exact Zks e1 e2 e3 hop h hS
  ·exact h.elim
 case unOp op t x=>
  clear h hS;cases op<;>simp only[Zay,nilK]at hn<;>(try split at hn)<;>cases hn
 case makeFunc fn fs cs=>
  clear h hS;cases fn<;>simp only[Zay,nilK]at hn<;>(try split at hn)<;>cases hn
 case slice t x lo hi mx=>
  clear h hS;cases mx<;>simp only[Zay,nilK]at hn<;>(try split at hn)<;>cases hn
 all_goals (exfalso;clear h hS;simp only[Zay,nilK]at hn;repeat' (first|(cases hn;done)|split at hn))
def litXS (P:Program)(op:Op):Option XOp:=match litX P op with
 |some y=>some y
 |none=>litS P op
def litOp (P:Program)(op:Op):LOp:=match litXS P op with
 |some y=>.x y
 |none=>Zay P op
theorem Zir {op:Op}{y:XOp}:Zay P op≠.x y:=fun h=>by
 cases op
 case unOp op t x=>cases op<;>simp only[Zay,nilK]at h<;>(try split at h)<;>cases h
 case makeFunc fn fs cs=>cases fn<;>simp only[Zay,nilK]at h<;>(try split at h)<;>cases h
 case slice t x lo hi mx=>cases mx<;>simp only[Zay,nilK]at h<;>(try split at h)<;>cases h
 all_goals (simp only[Zay,nilK]at h;repeat' (first|(cases h;done)|split at h))
theorem ZlU {y:XOp}(hl:litX P o.op=some y)(h:opWpX y d K σ)(hS:Sat N w0 m0 pl σ ρ m act w):
  Res P N w0 m0 pl o act w K∧(∀G:World→Prop,y.still=true→ResP G P σ ρ m o act w K)∧(y.read=true→ResP (Stay σ ρ m w) P σ ρ m o act w K):=by
 have still:(∀G:World→Prop,ResP G P σ ρ m o act w K)→Res P N w0 m0 pl o act w K∧(∀G:World→Prop,y.still=true→ResP G P σ ρ m o act w K)∧(y.read=true→ResP (Stay σ ρ m w) P σ ρ m o act w K):=
  fun h=>⟨(h (fun _=>True)).res trivial hS,fun G _=>h G,fun _=>h _⟩
 have read:y.still=false→ResP (Stay σ ρ m w) P σ ρ m o act w K→Res P N w0 m0 pl o act w K∧(∀G:World→Prop,y.still=true→ResP G P σ ρ m o act w K)∧(y.read=true→ResP (Stay σ ρ m w) P σ ρ m o act w K):=
  fun hn h=>⟨h.res (.refl hS) hS,fun G e=>(by rw[hn]at e;cases e),fun _=>h⟩
 have eff:y.still=false→y.read=false→Res P N w0 m0 pl o act w K→Res P N w0 m0 pl o act w K∧(∀G:World→Prop,y.still=true→ResP G P σ ρ m o act w K)∧(y.read=true→ResP (Stay σ ρ m w) P σ ρ m o act w K):=
  fun hn hr h=>⟨h,fun G e=>(by rw[hn]at e;cases e),fun e=>(by rw[hr]at e;cases e)⟩
 cases hop:o.op<;>rw[hop]at hl
 case binOp op t x y u=>
  simp only[litX]at hl;split at hl
  ·rename_i e1 e2 e3;split at hl
   ·rename_i hc;split at hl
    ·cases hl;exact still fun G=>Zom e1 e2 e3 hc (.inl ⟨rfl,rfl⟩) hop h hS
    ·cases hl;exact still fun G=>Zom e1 e2 e3 hc (.inr ⟨rfl,rfl⟩) hop h hS
    ·cases hl
   ·cases hl
  ·cases hl
 case makeMap t r=>
  cases r with
  |none=>simp only[litX]at hl;cases hl;exact eff rfl rfl (Zs2 hop h hS)
  |some r=>simp[litX]at hl
 case lookup t x i ok=>
  simp only[litX]at hl;split at hl
  ·rename_i hu;split at hl
   ·rename_i e1 e2 e3 e4;cases hl;exact read rfl (Zp7 e1 e2 hu e3 e4 hop h hS)
   ·cases hl
  ·cases hl
 case mapUpdate t x i v=>
  simp only[litX]at hl;split at hl
  ·rename_i hu;split at hl
   ·rename_i e1 e2 e3 e4;cases hl;exact eff rfl rfl (Zmv e1 e2 e3 hu e4 (.inl hop) h hS)
   ·cases hl
  ·cases hl
 case insert t x i v=>
  simp only[litX]at hl;split at hl
  ·rename_i hu;split at hl
   ·rename_i e1 e2 e3 e4;cases hl;exact eff rfl rfl (Zmv e1 e2 e3 hu e4 (.inr hop) h hS)
   ·cases hl
  ·cases hl
 case call c=>
  simp only[litX]at hl;split at hl
  ·rename_i hc;split at hl
   ·rename_i ha ht;split at hl
    ·rename_i e1 e2;cases hl;exact read rfl (ZpX e1 e2 hc ha ht hop h hS)
    ·cases hl
   ·cases hl
  ·rename_i hc;split at hl
   ·rename_i ha ht;split at hl
    ·rename_i e1 e2 e3;split at hl
     ·rename_i hn;cases hl;exact eff rfl rfl (ZqE e1 e2 e3 hn hc ha ht hop h hS)
     ·cases hl
    ·cases hl
   ·cases hl
  ·rename_i hc;split at hl
   ·rename_i ha ht;split at hl
    ·rename_i e1 e2;split at hl
     ·rename_i hz;split at hl
      ·rename_i hn;cases hl;exact eff rfl rfl (ZoH e1 e2 hz hn.1 hn.2 hc ha ht hop h hS)
      ·cases hl
     ·cases hl
    ·cases hl
   ·cases hl
  ·cases hl
 case slice t x lo hi mx=>
  cases lo with
  |some lo=>simp[litX]at hl
  |none=>
   cases hi with
   |none=>
    cases mx with
    |some mx=>simp[litX]at hl
    |none=>
     simp only[litX]at hl;split at hl
     ·rename_i e1 e2;split at hl
      ·rename_i hn;cases hl;exact eff rfl rfl (Zpk e1 e2 hn hop h hS)
      ·cases hl
     ·cases hl
   |some hi=>
    cases mx with
    |some mx=>simp[litX]at hl
    |none=>
     simp only[litX]at hl;split at hl
     ·rename_i e1 e2 e3;split at hl
      ·rename_i hn;cases hl;exact eff rfl rfl (Zsr e1 e2 e3 hn hop h hS)
      ·cases hl
     ·rename_i e1 e2 e3;split at hl
      ·rename_i hn;cases hl;exact eff rfl rfl (Zsq e1 e2 e3 hn hop h hS)
      ·cases hl
     ·cases hl
 all_goals (simp[litX]at hl)
theorem ZlV {y:XOp}(hl:litS P o.op=some y)(h:opWpX y d K σ)(hS:Sat N w0 m0 pl σ ρ m act w):
  Res P N w0 m0 pl o act w K∧(∀G:World→Prop,y.still=true→ResP G P σ ρ m o act w K)∧(y.read=true→ResP (Stay σ ρ m w) P σ ρ m o act w K):=by
 have still:(∀G:World→Prop,ResP G P σ ρ m o act w K)→Res P N w0 m0 pl o act w K∧(∀G:World→Prop,y.still=true→ResP G P σ ρ m o act w K)∧(y.read=true→ResP (Stay σ ρ m w) P σ ρ m o act w K):=
  fun h=>⟨(h (fun _=>True)).res trivial hS,fun G _=>h G,fun _=>h _⟩
 have eff:y.still=false→y.read=false→Res P N w0 m0 pl o act w K→Res P N w0 m0 pl o act w K∧(∀G:World→Prop,y.still=true→ResP G P σ ρ m o act w K)∧(y.read=true→ResP (Stay σ ρ m w) P σ ρ m o act w K):=
  fun hn hr h=>⟨h,fun G e=>(by rw[hn]at e;cases e),fun e=>(by rw[hr]at e;cases e)⟩
 cases hop:o.op<;>rw[hop]at hl
 case binOp op t x y u=>
  cases op
  case add=>
   simp only[litS]at hl;split at hl
   ·rename_i e1 e2 e3;cases hl;exact still fun G=>Zpn e1 e2 hop h hS
   ·cases hl
  case eql=>
   simp only[litS]at hl;split at hl
   ·rename_i e1 e2 e3;cases hl;exact still fun G=>ZnG (neg:=false) e1 e2 e3 hop h hS
   ·cases hl
  case neq=>
   simp only[litS]at hl;split at hl
   ·rename_i e1 e2 e3;cases hl;exact still fun G=>ZnG (neg:=true) e1 e2 e3 hop h hS
   ·cases hl
  all_goals (simp[litS]at hl)
 case makeInterface t x=>
  simp only[litS]at hl;split at hl
  ·cases hl
  ·rename_i e1 e2 e3;cases hl;exact still fun G=>Zs3 e2 e3 (fun ms k=>e1 ms k) hop h hS
  ·cases hl
 case alloc t=>
  simp only[litS]at hl;split at hl
  ·rename_i v hv;split at hl
   ·rename_i hc;split at hl
    ·cases hl;exact eff rfl rfl (ZtY hv hc hop h hS)
    ·cases hl
   ·cases hl
  ·cases hl
 case panic x=>
  simp only[litS]at hl;split at hl
  ·cases hl;exact h.elim
  ·cases hl
 case typeAssert x s t c=>
  cases c
  ·simp[litS]at hl
  ·simp only[litS]at hl;split at hl
   ·cases hl
   ·rename_i e1 e2 e3 e4;cases hl;exact still fun G=>Zsc e2 e3 (fun ms k=>e1 ms k) e4 hop h hS
   ·cases hl
 case index t x i=>
  simp only[litS]at hl;split at hl
  ·rename_i e1 e2 e3;cases hl;exact still fun G=>Zpm e1 e2 e3 hop h hS
  ·cases hl
 case slice t x lo hi mx=>
  cases mx with
  |some mx=>simp[litS]at hl
  |none=>
   simp only[litS]at hl;split at hl
   ·rename_i e1 e2 e3 e4;cases hl;exact still fun G=>Zsk e1 e2 e3 e4 hop h hS
   ·cases hl
 case convert src dst x=>
  simp only[litS]at hl;split at hl
  ·rename_i e1 e2 e3;split at hl
   ·rename_i e4;cases hl;exact eff rfl rfl (Zsn e1 e2 e4 e3 hop h hS)
   ·cases hl
  ·rename_i e1 e2 e3;split at hl
   ·rename_i e4;cases hl;exact eff rfl rfl (Zpo e1 e2 e3 e4 hop h hS)
   ·cases hl
  ·cases hl
 case call c=>
  simp only[litS]at hl;split at hl
  ·rename_i hc;split at hl
   ·rename_i ha ht;split at hl
    ·rename_i e1 e2;cases hl;exact still fun G=>Zpj e1 e2 hc ha ht hop h hS
    ·cases hl
   ·cases hl
  ·rename_i hc;split at hl
   ·rename_i ha ht;split at hl
    ·rename_i e1 e2 e3 e4;split at hl
     ·rename_i e5 e6;split at hl
      ·rename_i hn;cases hl;exact eff rfl rfl (ZtN e1 e2 e3 e5 e6 rfl hn.1 e4 hn.2 hc ha ht hop h hS)
      ·cases hl
     ·cases hl
    ·cases hl
   ·cases hl
  ·cases hl
 all_goals (simp[litS]at hl)
theorem Zdv {y:XOp}(hl:litXS P o.op=some y)(h:opWpX y d K σ)(hS:Sat N w0 m0 pl σ ρ m act w):
  Res P N w0 m0 pl o act w K∧(∀G:World→Prop,y.still=true→ResP G P σ ρ m o act w K)∧(y.read=true→ResP (Stay σ ρ m w) P σ ρ m o act w K):=by
 unfold litXS at hl;split at hl
 ·rename_i y' hx;cases hl;exact ZlU hx h hS
 ·exact ZlV hl h hS
theorem ZpN (hn:∀f l,litOp P o.op≠.call f l)(h:opWp (litOp P o.op) d K σ)(hS:Sat N w0 m0 pl σ ρ m act w):Res P N w0 m0 pl o act w K:=by
 unfold litOp at h hn;split at h
 ·rename_i y hl;exact(Zdv hl h hS).1
 ·rename_i hl;rw[hl]at hn;exact Znw hn h hS
theorem ZsS {e n bytes:Nat}{x' y':Opd}(hn:litOp P o.op=.app e n bytes x' y')(h:opWp (litOp P o.op) d K σ)(hS:Sat N w0 m0 pl σ ρ m act w):ResE (∃nl,σ.o x'=.pv (.emp nl)) P N w0 m0 pl o act w K:=by
 unfold litOp at h hn;split at h
 ·rename_i y hl;rw[hl]at hn;cases hn
 ·rename_i hl;rw[hl]at hn;exact ZpP hn h hS
theorem ZpM {G:World→Prop}(hn:(litOp P o.op).still=true)(h:opWp (litOp P o.op) d K σ)(hS:Sat N w0 m0 pl σ ρ m act w):ResP G P σ ρ m o act w K:=by
 unfold litOp at h hn;split at h
 ·rename_i y hl;rw[hl]at hn;exact(Zdv hl h hS).2.1 G hn
 ·rename_i hl;rw[hl]at hn;exact Znv hn h hS
theorem ZsR (hn:(litOp P o.op).ZvJ=true)(h:opWp (litOp P o.op) d K σ)(hS:Sat N w0 m0 pl σ ρ m act w):ResP (Stay σ ρ m w) P σ ρ m o act w K:=by
 unfold litOp at h hn;split at h
 ·rename_i y hl;rw[hl]at hn;exact(Zdv hl h hS).2.2 hn
 ·rename_i hl;rw[hl]at hn;dsimp only at hn;refine ZpO ?_ h hS;cases hx:Zay P o.op<;>rw[hx]at hn<;>first|exact⟨_,_,_,rfl⟩|(exact absurd hx Zir)|cases hn
theorem ZfD {f:Opd}{l:List Opd}(h:litOp P o.op=.call f l):Zay P o.op=.call f l:=by
 unfold litOp at h;split at h
 ·cases h
 ·exact h
theorem ZlW {h:LOp}(hh:litOp P o.op=h)(hx:∀y,h≠.x y):Zay P o.op=h:=by
 unfold litOp at hh;split at hh
 ·rename_i y _;exact absurd hh.symm (hx y)
 ·exact hh
end
end
section
mutual
def AV.map (g:Site→Site):AV→AV
 |.any=>.any
 |.pv x=>.pv x
 |.ptr s off=>.ptr (g s) off
 |.elt s n i off=>.elt (g s) n i off
 |.vec s n lo len=>.vec (g s) n lo len
 |.mp s=>.mp (g s)
 |.yld s=>.yld (g s)
 |.fn f fs cs=>.fn f (AV.Zu9 g fs) (AV.Zu9 g cs)
 |.agg cs=>.agg (AV.Zu9 g cs)
 |.tup vs=>.tup (AV.Zu9 g vs)
def AV.Zu9 (g:Site→Site):List AV→List AV
 |[]=>[]
 |a::r=>AV.map g a::AV.Zu9 g r
end
theorem ZbO {g:Site→Site}:∀{l:List AV} {i:Nat},(AV.Zu9 g l)[i]?=(l[i]?).map (AV.map g)
 |[],i=>by simp[AV.Zu9]
 |a::r,0=>by simp[AV.Zu9]
 |a::r,i+1=>by
  simp only[AV.Zu9,List.getElem?_cons_succ];exact ZbO
theorem ZbN {g:Site→Site}:∀{l:List AV},(AV.Zu9 g l).length=l.length
 |[]=>rfl
 |a::r=>by simp only[AV.Zu9,Zyg,ZbN]
theorem ZaK {q:Site→Bool}:∀{l:List AV} {i:Nat} {a:AV},AV.Zu4 q l=true→l[i]?=some a→a.Zu3 q=true
 |[],i,a,_,h=>by simp at h
 |b::r,0,a,hl,h=>by
  simp[AV.Zu4]at hl h;subst h;exact hl.1
 |b::r,i+1,a,hl,h=>by
  simp only[AV.Zu4,ZxO]at hl;exact ZaK hl.2 (by simpa using h)
theorem RdA.map {ρ ρ':Site→Loc}{m:Mem}{q:Site→Bool}{g:Site→Site}(hg:∀s,q s=true→ρ' (g s)=ρ s){v:Value}{a:AV}(h:RdA ρ m v a)(ha:a.Zu3 q=true):RdA ρ' m v (a.map g):=by
 induction h with
 |any v=>exact .any v
 |pv v x h=>exact .pv v x h
 |ptr s off=>rw[AV.Zu3]at ha;rw[←hg s ha];exact .ptr _ off
 |elt s n i off=>rw[AV.Zu3]at ha;rw[←hg s ha];exact .elt _ n i off
 |vec s n lo len cap h0 h1 h2=>rw[AV.Zu3]at ha;rw[←hg s ha]at h1 h2 ⊢;exact .vec _ n lo len cap h0 h1 h2
 |vec0 s n lo a h=>exact .vec0 _ n lo a h
 |mp s=>rw[AV.Zu3]at ha;rw[←hg s ha];exact .mp _
 |yld s=>rw[AV.Zu3]at ha;rw[←hg s ha];exact .yld _
 |fn f vf vc fs cs h0 h1 h2 h3 ih2 ih3=>
  simp only[AV.Zu3,ZxO]at ha;refine .fn f vf vc _ _ (by rw[ZbN];exact h0) (by rw[ZbN];exact h1) (fun j d c k1 k2=>?_) (fun j d c k1 k2=>?_)
  ·rw[ZbO]at k2;obtain⟨a,k3,rfl⟩:=ZxP.1 k2;exact ih2 j d a k1 k3 (ZaK ha.1 k3)
  ·rw[ZbO]at k2;obtain⟨a,k3,rfl⟩:=ZxP.1 k2;exact ih3 j d a k1 k3 (ZaK ha.2 k3)
 |agg vs cs h0 h1 h2 ih=>
  rw[AV.Zu3]at ha;refine .agg vs _ (by rw[ZbN];exact h0) h1 (fun j d c k1 k2=>?_);rw[ZbO]at k2;obtain⟨a,k3,rfl⟩:=ZxP.1 k2;exact ih j d a k1 k3 (ZaK ha k3)
 |tup vs cs h0 h2 ih=>
  rw[AV.Zu3]at ha;refine .tup vs _ (by rw[ZbN];exact h0) (fun j d c k1 k2=>?_);rw[ZbO]at k2;obtain⟨a,k3,rfl⟩:=ZxP.1 k2;exact ih j d a k1 k3 (ZaK ha k3)
def RowE.Zu3 (q:Site→Bool):RowE→Bool
 |.av a=>a.Zu3 q
 |.own _=>true
def Box.ren (g:Site→Site):Box→Box
 |.rows e e2 n els=>.rows e e2 n (els.map (RowE.map (AV.map g)))
 |.cells azz=>.cells (AV.Zu9 g azz)
 |.loop C ps nt tm st=>.loop C ps nt (tm.map fun p=>(p.1,p.2.map g)) st
 |b=>b
def Box.Zu3 (q:Site→Bool):Box→Bool
 |.rows _ _ _ els=>els.all (RowE.Zu3 q)
 |.cells azz=>AV.Zu4 q azz
 |.loop _ _ _ tm _=>AV.Zu4 q (tm.map (·.2))
 |_=>true
theorem ZkR {g:Site→Site}:∀l:List AV,AV.Zu9 g l=l.map (AV.map g)
 |[]=>rfl
 |a::r=>by simp only[AV.Zu9,ZxZ,ZkR r]
theorem Box.Zw2 {q:Site→Bool}{b:Box}(hd:b.Zu3 q=true){a:AV}(h:(∃azz,b=.cells azz∧a∈azz)∨(∃C ps nt tm st t,b=.loop C ps nt tm st∧(t,a)∈tm)∨(∃e e2 n els,b=.rows e e2 n els∧.av a∈els)):a.Zu3 q=true:=by
 rcases h with⟨azz,rfl,h⟩|⟨C,ps,nt,tm,st,t,rfl,h⟩|⟨e,e2,n,els,rfl,h⟩
 ·obtain⟨i,hi⟩:=ZxV.1 h;exact ZaK hd hi
 ·obtain⟨i,hi⟩:=ZxV.1 h;have hd':AV.Zu4 q (tm.map (·.2))=true:=hd;exact ZaK (i:=i) hd' (by rw[ZxM,hi];rfl)
 ·exact Zx7.1 hd _ h
theorem RdB.ren {ρ ρ':Site→Loc}{m:Mem}{w:World}{q:Site→Bool}{g:Site→Site}(hg:∀s,q s=true→ρ' (g s)=ρ s){s:Site}{b:Box}(h:RdB ρ m w s b)(hs:q s=true)(hb:b.Zu3 q=true):RdB ρ' m w (g s) (b.ren g):=by
 exact h.gen (AV.map g) (by cases b<;>first|rfl|(show Box.cells _=_;rw[ZkR])) (Le.refl m) (hg s hs) (fun v a hv hw=>hv.map hg (Box.Zw2 hb hw)) (fun _ _=>rfl)
theorem Zte {w:World}{l:Loc}{b:Box}{g:Site→Site}:ins w l (b.ren g)=ins w l b:=by
 cases b with
 |rows e e2 n els=>exact Zhz rfl
 |_=>rfl
theorem ZaF {ρ ρ':Site→Loc}{w:World}{s s':Site}{b:Box}{g:Site→Site}{k:Nat}(h:ρ' s'=ρ s):blk ρ' w s' (b.ren g) k↔blk ρ w s b k:=by unfold blk;rw[Zte,h]
mutual
def PV.flat:PV→Bool
 |.int _ _=>true
 |.bool _=>true
 |.str _=>true
 |.nilp=>true
 |.nilfn=>true
 |.nilmap=>true
 |.nilif=>true
 |.opq=>true
 |.iface _ x=>PV.flat x
 |.emp _=>true
 |.agg cs=>PV.ZwH cs
 |.tup vs=>PV.ZwH vs
 |_=>false
def PV.ZwH:List PV→Bool
 |[]=>true
 |x::r=>PV.flat x&&PV.ZwH r
end
theorem ZfW:∀{l:List PV} {i:Nat} {x:PV},PV.ZwH l=true→l[i]?=some x→x.flat=true
 |[],i,x,_,h=>by simp at h
 |b::r,0,x,hl,h=>by
  simp[PV.ZwH]at hl h;subst h;exact hl.1
 |b::r,i+1,x,hl,h=>by
  simp only[PV.ZwH,ZxO]at hl;exact ZfW hl.2 (by simpa using h)
theorem RdP.flat {m m':Mem}{v:Value}{x:PV}(h:RdP m v x)(hx:x.flat=true):RdP m' v x:=by
 induction h with
 |int k n=>exact .int k n
 |bool b=>exact .bool b
 |str s=>exact .str s
 |nilp=>exact .nilp
 |nilfn=>exact .nilfn
 |nilmap=>exact .nilmap
 |nilif=>exact .nilif
 |opq v h=>exact .opq v h
 |emp a nl h0 h1 h2=>exact .emp a nl h0 h1 h2
 |agg vs cs h0 h1 h2 ih=>exact .agg vs cs h0 h1 (fun j d c k1 k2=>ih j d c k1 k2 (ZfW (by rw[PV.flat]at hx;exact hx) k2))
 |tup vs cs h0 h2 ih=>exact .tup vs cs h0 (fun j d c k1 k2=>ih j d c k1 k2 (ZfW (by rw[PV.flat]at hx;exact hx) k2))
 |lst=>simp[PV.flat]at hx
 |ref=>simp[PV.flat]at hx
 |fn=>simp[PV.flat]at hx
 |iface t v x h ih=>exact .iface t v x (ih (by rw[PV.flat]at hx;exact hx))
def snapW (f:AV→Option PV):List AV→Option (List PV)
 |[]=>some []
 |a::r=>match f a,snapW f r with
  |some x,some l=>some (x::l)
  |_,_=>none
def AV.Zwg (σ:AS):AV→Option PV
 |.pv x=>some x
 |.vec s n lo len=>match σ.b s with
  |some (.arr _ n' xs)=>if n'=n∧lo+len≤xs.length then some (.lst false n ((xs.drop lo).take len))else none
  |_=>none
 |_=>none
def AV.snap (σ:AS):Nat→AV→Option PV
 |0,a=>a.Zwg σ
 |k+1,a=>match a with
  |.ptr s off=>match σ.b s with
   |some (.cells azz)=>(snapW (AV.snap σ k) (azz.drop off)).map .ref
   |_=>none
  |.fn f fs cs=>match snapW (AV.snap σ k) fs,snapW (AV.snap σ k) cs with
   |some a,some b=>some (.fn f a b)
   |_,_=>none
  |.agg cs=>(snapW (AV.snap σ k) cs).map .agg
  |a=>a.Zwg σ
section
variable {N:Nat}{w0:World}{m0:Env w0}{pl:List Nat}{σ:AS}{ρ:Site→Loc}{m:Mem}{act:Act}{w:World}
theorem Zcq {f:AV→Option PV}:∀{l:List AV} {xs:List PV},snapW f l=some xs→l.length=xs.length∧∀(j:Nat) (a:AV),l[j]?=some a→∃x,xs[j]?=some x∧f a=some x
 |[],xs,h=>by rw[snapW]at h;cases h;exact⟨rfl,fun j a e=>by simp at e⟩
 |a::r,xs,h=>by
  rw[snapW]at h;split at h
  ·rename_i x l h1 h2;cases h;obtain⟨k1,k2⟩:=Zcq h2;refine⟨by simp[k1],fun j b e=>?_⟩;cases j with
   |zero=>simp at e;subst e;exact⟨x,rfl,h1⟩
   |succ j=>simpa using k2 j b (by simpa using e)
  ·cases h
theorem Zku (hS:Sat N w0 m0 pl σ ρ m act w){v:Value}{a:AV}{x:PV}(h:a.Zwg σ=some x)(hv:RdA ρ m v a):RdP w.mem v x:=by
 cases a with
 |pv y=>rw[AV.Zwg]at h;cases h;exact hv.Zu5.mono hS.mem
 |vec s n lo len=>
  rw[AV.Zwg]at h;split at h
  ·rename_i e n' xs hb;split at h
   ·rename_i hc;obtain⟨rfl,hl⟩:=hc;cases h;exact Zo5 (hS.bx s _ hb) hS.mem (fun _ o v hv=>hv) hl hv
   ·cases h
  ·cases h
 |_=>simp[AV.Zwg]at h
theorem ZmT (hS:Sat N w0 m0 pl σ ρ m act w):∀{k:Nat} {v:Value} {a:AV} {x:PV},a.snap σ k=some x→RdA ρ m v a→RdP w.mem v x:=by
 intro k;induction k with
 |zero=>intro v a x h hv;exact Zku hS h hv
 |succ k ih=>
  intro v a x h hv;cases a with
  |ptr s off=>
   rw[AV.snap]at h;split at h
   ·rename_i azz hb;obtain⟨xs,k1,rfl⟩:=ZxP.1 h;obtain⟨k2,k3⟩:=Zcq k1;rw[hv.Zvk];have hlen:off≤azz.length∨azz.drop off=[]:=by
     rcases Nat.le_total off azz.length with h|h
     ·exact .inl h
     ·exact .inr (List.drop_of_length_le h)
    rcases hlen with hlen|hlen
    ·obtain⟨ds,q1,q2,q3,q4⟩:=ZcZ (hS.bx s _ hb) (off:=off) (n:=azz.length-off) (by omega);refine .ref _ _ xs ds q2 (by rw[←k2,Zyn];exact q1) q3 (fun j u c e1 e2=>?_);have hj:j<(azz.drop off).length:=by rw[k2];exact(ZxN.1 e2).1
     obtain⟨x,k4,k5⟩:=k3 j _ (ZxL hj);rw[e2]at k4;cases k4;refine ih k5 (q4 j u _ e1 ?_);rw[Zx1,if_pos (by rw[Zyn]at hj;exact hj)];exact ZxL hj
    ·rw[hlen]at k2
     have:xs=[]:=ZyG k2.symm
     subst this;exact .ref _ _ [] [] trivial rfl (fun d hd=>by cases hd) (fun j d c e=>by simp at e)
   ·cases h
  |fn f fs cs=>
   rw[AV.snap]at h;split at h
   ·rename_i a b e1 e2;cases h;obtain⟨a1,a2⟩:=Zcq e1;obtain⟨b1,b2⟩:=Zcq e2;cases hv with
    |fn _ vf vc _ _ h0 h1 h2 h3=>
     refine .fn f vf vc a b (by omega) (by omega) (fun j d c q1 q2=>?_) (fun j d c q1 q2=>?_)
     ·have hj:j<fs.length:=by rw[a1];exact(ZxN.1 q2).1
      obtain⟨x,k4,k5⟩:=a2 j _ (ZxL hj);rw[q2]at k4;cases k4;exact ih k5 (h2 j d _ q1 (ZxL hj))
     ·have hj:j<cs.length:=by rw[b1];exact(ZxN.1 q2).1
      obtain⟨x,k4,k5⟩:=b2 j _ (ZxL hj);rw[q2]at k4;cases k4;exact ih k5 (h3 j d _ q1 (ZxL hj))
   ·cases h
  |agg cs=>
   rw[AV.snap]at h;obtain⟨xs,k1,rfl⟩:=ZxP.1 h;obtain⟨b1,b2⟩:=Zcq k1;cases hv with
   |agg vs _ h0 h1 h2=>
    refine .agg vs xs (by omega) h1 (fun j d c q1 q2=>?_);have hj:j<cs.length:=by rw[b1];exact(ZxN.1 q2).1
    obtain⟨x,k4,k5⟩:=b2 j _ (ZxL hj);rw[q2]at k4;cases k4;exact ih k5 (h2 j d _ q1 (ZxL hj))
  |_=>exact Zku hS (by simpa only[AV.snap]using h) hv
end
structure Bxs (ρ:Site→Loc)(m:Mem)(w:World)(B:List (Site×Box)):Prop where
 bx:∀s b,B.lookup s=some b→RdB ρ m w s b
 injk:∀s s' b b' k,B.lookup s=some b→B.lookup s'=some b'→blk ρ w s b k→blk ρ w s' b' k→s=s'
 offk:∀s b k,B.lookup s=some b→blk ρ w s b k→∀o,m k o=none
theorem Bxs.nil (ρ:Site→Loc)(m:Mem)(w:World):Bxs ρ m w []:=⟨fun s b h=>by simp[List.lookup]at h,fun s s' b b' k h=>by simp[List.lookup]at h,fun s b k h=>by simp[List.lookup]at h⟩
theorem Bxs.inj {ρ:Site→Loc}{m:Mem}{w:World}{B:List (Site×Box)}(h:Bxs ρ m w B)(s s':Site)(b b':Box)(k:B.lookup s=some b)(k':B.lookup s'=some b')(r:(ρ s).real=true)(r':(ρ s').real=true)(e:(ρ s).b=(ρ s').b):s=s':=
 h.injk s s' b b' _ k k' (ZaA r) (by rw[e];exact ZaA r')
theorem Bxs.off {ρ:Site→Loc}{m:Mem}{w:World}{B:List (Site×Box)}(h:Bxs ρ m w B)(s:Site)(b:Box)(k:B.lookup s=some b)(r:(ρ s).real=true):∀o,m (ρ s).b o=none:=h.offk s b _ k (ZaA r)
def lentB (ρ:Site→Loc)(w:World)(B:List (Site×Box)):List Nat:=B.flatMap fun p=>(if(ρ p.1).real=true then[(ρ p.1).b]else[])++ins w (ρ p.1) p.2
theorem Zcb {ρ:Site→Loc}{w:World}{B:List (Site×Box)}{k:Nat}:k∈lentB ρ w B↔∃p∈B,blk ρ w p.1 p.2 k:=by
 unfold lentB;rw[List.mem_flatMap];constructor
 ·rintro⟨p,hp,h⟩;refine⟨p,hp,?_⟩;rcases Zyp.1 h with h|h
  ·split at h
   ·rename_i hr;exact .inl ⟨hr,(Zyi.1 h).symm⟩
   ·cases h
  ·exact .inr h
 ·rintro⟨p,hp,h⟩;refine⟨p,hp,Zyp.2 ?_⟩;rcases h with⟨h,rfl⟩|h
  ·exact .inl (by rw[if_pos h];simp)
  ·exact .inr h
def Callable (P : Program) (f : FuncId) : Prop := ∃ fn c, P.funcs[f]? = some fn ∧ (fn.name == "runtime.NumGoroutine") = false ∧ fn.body = some c
def CPost (w:World)(m:Mem)(ρ:Site→Loc)(B:List (Site×Box))(Post:AV→List (Site×Box)→Prop)(e:Ending)(w':World):Prop:=
 ∃v r B' ρ' m',e=.returned v∧Post r B'∧Bxs ρ' m' w' B'∧Le m m'∧Le m' w'.mem∧(∀i,ρ' (.par i)=ρ (.par i))∧
   (∀s b k,B'.lookup s=some b→blk ρ' w' s b k→w.heap.size≤k∨k∈lentB ρ w B)∧(∀b o v,m' b o=some v→m b o=some v∨w.heap.size≤b∨b∈lentB ρ w B)∧RdA ρ' m' v r∧Keep (lentB ρ w B) w w'
theorem ZkX {l:List (Site×Box)}(hn:(l.map (·.1)).Nodup){p:Site×Box}(h:p∈l):l.lookup p.1=some p.2:=by
 induction l with
 |nil=>cases h
 |cons q r ih=>
  obtain⟨a,b⟩:=q;rw[ZxZ,List.nodup_cons]at hn;rcases Zx2.1 h with rfl|h
  ·exact Zag
  ·rw[Zad (fun e=>hn.1 (by rw[←e];exact ZxY.2 ⟨p,h,rfl⟩))];exact ih hn.2 h
theorem Bxs.free {ρ:Site→Loc}{m:Mem}{w:World}{B:List (Site×Box)}(h:Bxs ρ m w B)(hn:(B.map (·.1)).Nodup):∀k∈lentB ρ w B,∀o,m k o=none:=fun k hk o=>by
 obtain⟨p,hp,e⟩:=Zcb.1 hk;exact h.offk p.1 p.2 k (ZkX hn hp) e o
def Zai (P:Program)(f:FuncId)(azz:List AV)(B:List (Site×Box))(Post:AV→List (Site×Box)→Prop):Prop:=
 Callable P f∧∀(w:World) (m:Mem) (ρ:Site→Loc) (vs:Array Value),Bxs ρ m w B→(Le m w.mem∧Glob m w∧(B.map (·.1)).Nodup)→vs.size=azz.length→(∀(j:Nat) (d:Value) (c:AV),vs[j]?=some d→azz[j]?=some c→RdA ρ m d c)→
  Calls P f vs w (CPost w m ρ B Post)
theorem Zai.mono {P:Program}{f:FuncId}{azz:List AV}{B:List (Site×Box)}{Post Post':AV→List (Site×Box)→Prop}(h:Zai P f azz B Post)(hp:∀r B',Post r B'→Post' r B'):Zai P f azz B Post':=
 ⟨h.1,fun w m ρ vs h1 h2 h3 h4=>(h.2 w m ρ vs h1 h2 h3 h4).mono fun e w' ⟨v,r,B',ρ',m',k1,k2,k3⟩=>⟨v,r,B',ρ',m',k1,hp _ _ k2,k3⟩⟩
end
section
def FF (ro:Option Nat):Fence:={ Fence.wide with round:=ro }
theorem FF.one {ro:Option Nat}{n:Nat}:(FF ro).depth.isSome=true→1≤n:=fun h=>by cases h
theorem Zf4 {P:Program}{ro:Option Nat}{n:Nat}{f:FuncId}{args:Array Value}{w:World}{R:Ending→World→Prop}(h:Calls P f args w R):CallsIn (FF ro) n P f args w R:=
 ⟨trivial,fun cs _=>(callsIn_wide (n:=n).2 h).2 cs (room_wide _)⟩
def Op.Zxe:Op→Bool
 |.defer _=>true
 |_=>false
def Zcj (ops:Array Oper):Bool:=ops.all fun o=>!Op.Zxe o.op
theorem Zbh {ops:Array Oper}(h:Zcj ops=true){i:Nat}{o:Oper}(hi:ops[i]?=some o):∀c,o.op≠.defer c:=fun c e=>by
 have:=Array.all_eq_true'.1 h o (Array.mem_of_getElem? hi)
 rw[e]at this;cases this
section
variable {P:Program}{ops:Array Oper}{Q:Exit→Act→World→Prop}{md:Region.Mode}{ro:Option Nat}{S:World→Prop}
theorem ZeC {i:Nat}{o:Oper}{v:Value}{a:Act}(hi:ops[i]?=some o)(hd:∀c,o.op≠.defer c)(hy:YieldsIf P ops S o v a)
  {K:Act→World→Prop} {w:World} (hS:S w) (h:K (a.put o.dst v) w):wpOpIn (FF ro) 1 P ops Q i K a w:=by
 unfold wpOpIn;simp only[hi];rcases hy with⟨hw,hv⟩|⟨hw,rfl⟩
 ·simp only[hw,if_true,Oper.wpIn,Oper.semAt_eq _ _ _ hd,hv w hS,Oper.uponIn];exact⟨fun _ _=>trivial,h⟩
 ·simp only[hw,Bool.false_eq_true,if_false];exact⟨fun _ _=>trivial,h⟩
theorem Zmq {j:Nat}{oi oj:Oper}{v:Value}(hj:ops[j]?=some oj)(hd:∀c,oj.op≠.defer c)(hap:oi.apart ops oj=true)
  (hsi:∀cs b,oi.op≠.select cs b) (hsj:∀cs b,oj.op≠.select cs b)
  (hQ:∀c a w,Q (.panic c) (a.put oi.dst v) w→Q (.panic c) a w) {K:Act→World→Prop} {a:Act} {w:World}
  (hy:YieldsIf P ops S oi v a) (h:wpOpIn (FF ro) 1 P ops Q j K (a.put oi.dst v) w):
  wpOpIn (FF ro) 1 P ops Q j (fun a' w'=>YieldsIf P ops S oi v a'∧K (a'.put oi.dst v) w') a w:=by
 obtain⟨h1,h2,h3⟩:=Oper.apart_spec hap;have keep:∀(a:Act),YieldsIf P ops S oi v a→∀u,YieldsIf P ops S oi v (a.put oj.dst u):=fun a hy u=>
  hy.of_same (execOp_put oi hsi a oj.dst u h3) (wanted_put oi a oj.dst u h3)
 have keepD:∀d,YieldsIf P ops S oi v { a with defers:=d::a.defers }:=fun d=>hy.of_same rfl rfl
 unfold wpOpIn at *;simp only[hj]at *;rw[wanted_put oj a oi.dst v h1]at h;split
 ·rename_i hw;simp only[hw,if_true]at h;unfold Oper.wpIn at *;refine⟨fun _ _=>trivial,?_⟩;have h:=h.2;rw[Oper.semAt_eq _ _ _ hd,execOp_put oj hsj a oi.dst v h1]at h;rw[Oper.semAt_eq _ _ _ hd];generalize(execOp a.eval oj).run P w=r at *;cases r with
  |ok x w'=>
   cases x<;>simp only[Oper.uponIn]at h ⊢
   case value u=>exact⟨keep a hy u,by rw[←Act.put_comm a v u h2];exact h⟩
   case skip=>exact⟨keep a hy _,by rw[←Act.put_comm a v undef h2];exact h⟩
   case defer d=>
    refine⟨keep _ (keepD d) _,?_⟩;rw[←Act.put_comm _ v undef h2,←Act.put_defers];exact h
   case enter f args=>
    refine⟨h.1,CallsIn.mono h.2 fun e w'' he=>?_⟩;cases e with
    |returned u=>exact⟨keep a hy u,by rw[←Act.put_comm a v u h2];exact he⟩
    |panicked c=>exact hQ _ _ _ he
    |outgrown=>exact he
   case row row args=>exact⟨h.1,RowsIn.mono h.2 fun u w'' he=>⟨keep a hy u,by rw[←Act.put_comm a v u h2];exact he⟩⟩
   case round l f tmps assign body=>
    refine⟨h.1,RoundIn.mono h.2 fun e w'' he=>?_⟩;cases e with
    |returned u=>exact⟨keep a hy u,by rw[←Act.put_comm a v u h2];exact he⟩
    |panicked c=>exact hQ _ _ _ he
    |outgrown=>exact he
  |halt x w'=>
   cases x<;>simp only[Oper.uponIn]at h ⊢
   case panic u=>exact hQ _ _ _ h
 ·rename_i hw;simp only[hw]at h;exact⟨fun _ _=>trivial,keep a hy _,by rw[←Act.put_comm a v undef h2];exact h.2⟩
end
section
variable {P:Program}{ops:Array Oper}{Q:Exit→Act→World→Prop}{md:Region.Mode}{ro:Option Nat}
def ancO (md:Region.Mode)(acc:List Nat):List Edge→Nat→Nat
 |[],m=>m
 |e::r,m=>match Region.binds md e with
  |true=>ancO md acc r (m||| (1 <<< e.on)||| acc.getD e.on 0)
  |false=>ancO md acc r m
def ancL (md:Region.Mode):List Oper→List Nat→List Nat
 |[],acc=>acc
 |o::r,acc=>match ancO md acc o.after.toList 0 with
  |0=>ancL md r (acc++[0])
  |n+1=>ancL md r (acc++[n+1])
def waits (md:Region.Mode)(ops:Array Oper)(_:Nat)(j k:Nat):Bool:=Nat.testBit ((ancL md ops.toList []).getD j 0) k
inductive Wait (md:Region.Mode)(ops:Array Oper):Nat→Nat→Prop where
 |one {j:Nat} {o:Oper} {e:Edge} (ho:ops[j]?=some o) (he:e∈o.after) (hb:Region.binds md e=true):Wait md ops j e.on
 |more {j k:Nat} {o:Oper} {e:Edge} (ho:ops[j]?=some o) (he:e∈o.after) (hb:Region.binds md e=true) (h:Wait md ops e.on k):Wait md ops j k
theorem Zj8 {acc:List Nat}{j:Nat}{o:Oper}(ho:ops[j]?=some o)(hacc:∀i k,Nat.testBit (acc.getD i 0) k=true→Wait md ops i k):∀(l:List Edge) (m:Nat),(∀e∈l,e∈o.after)→(∀k,Nat.testBit m k=true→Wait md ops j k)→∀k,Nat.testBit (ancO md acc l m) k=true→Wait md ops j k
 |[],m,_,hm,k,h=>hm k h
 |e::r,m,hl,hm,k,h=>by
  unfold ancO at h;cases hb:Region.binds md e with
  |false=>
   rw[hb]at h;exact Zj8 ho hacc r m (fun x hx=>hl x (by simp[hx])) hm k h
  |true=>
   rw[hb]at h;refine Zj8 ho hacc r _ (fun x hx=>hl x (by simp[hx])) (fun k' h'=>?_) k h;rw[Nat.testBit_or,Nat.testBit_or,Zyk,Zyk]at h';rcases h' with(h'|h')|h'
   ·exact hm k' h'
   ·rw[Nat.one_shiftLeft,Nat.testBit_two_pow]at h'
    have:e.on=k':=by simpa using h'
    rw[←this];exact .one ho (hl e (by simp)) hb
   ·exact .more ho (hl e (by simp)) hb (hacc _ _ h')
theorem Zj9:∀(l pre:List Oper) (acc:List Nat),ops.toList=pre++l→acc.length=pre.length→(∀i k,Nat.testBit (acc.getD i 0) k=true→Wait md ops i k)→∀i k,Nat.testBit ((ancL md l acc).getD i 0) k=true→Wait md ops i k
 |[],pre,acc,_,_,hacc=>hacc
 |o::r,pre,acc,hp,hl,hacc=>by
  have ho:ops[acc.length]?=some o:=by
   rw[←Zyu,hp,hl];simp
  have step:∀m,ancO md acc o.after.toList 0=m→∀i k,Nat.testBit ((acc++[m]).getD i 0) k=true→Wait md ops i k:=by
   intro m hm i k h;rw[List.getD_eq_getElem?_getD,Zyl]at h;split at h
   ·exact hacc i k (by rw[List.getD_eq_getElem?_getD];exact h)
   ·rename_i hi;cases hx:[m][i-acc.length]? with
    |none=>rw[hx]at h;simp at h
    |some x=>
     have h0:i-acc.length=0:=by have:=(ZxN.1 hx).1;simp at this;omega
     rw[h0]at hx;simp at hx;subst hx;have hi':i=acc.length:=by omega
     subst hi';rw[h0]at h;simp only[List.getElem?_cons_zero,Zym]at h;rw[←hm]at h;exact Zj8 ho hacc _ 0 (fun e he=>by simpa using he) (fun k h=>by simp at h) k h
  unfold ancL;split
  ·rename_i h0;exact Zj9 r (pre++[o]) _ (by rw[hp];simp) (by simp[hl]) (step 0 h0)
  ·rename_i n h0;exact Zj9 r (pre++[o]) _ (by rw[hp];simp) (by simp[hl]) (step (n+1) h0)
theorem ZlD {f j k:Nat}(h:waits md ops f j k=true):Wait md ops j k:=Zj9 ops.toList [] [] (by simp) rfl (fun i k h=>by simp at h) j k h
def Down (md:Region.Mode)(ops:Array Oper)(listed:Array Bool):Prop:=∀j o,listed.getD j false=true→ops[j]?=some o→∀e∈o.after,Region.binds md e=true→listed.getD e.on false=true
theorem ZcT {l:Array Bool}{k:Nat}(h:l.getD k true=false):l.getD k false=false:=by
 rcases Nat.lt_or_ge k l.size with h'|h'
 ·simp[h']at h ⊢;exact h
 ·simp[Array.getElem?_eq_none h']at h
theorem Down.wait {listed:Array Bool}(h:Down md ops listed){j k:Nat}(hj:listed.getD j false=true)(hw:Wait md ops j k):listed.getD k false=true:=by
 induction hw with
 |one ho he hb=>exact h _ _ hj ho _ he hb
 |more ho he hb _ ih=>exact ih (h _ _ hj ho _ he hb)
theorem Zjn {listed:Array Bool}(h:Down md ops listed){f j k:Nat}(hj:j∈Region.ready md ops listed)(hw:waits md ops f j k=true):listed.getD k false=true:=by
 obtain⟨_,o,ho,hall⟩:=mem_ready.1 hj;cases ZlD hw with
 |one ho' he hb=>rw[ho]at ho';cases ho';exact hall _ he hb
 |more ho' he hb h2=>rw[ho]at ho';cases ho';exact h.wait (hall _ he hb) h2
theorem Down.set {listed:Array Bool}(h:Down md ops listed){i:Nat}(hi:i∈Region.ready md ops listed):Down md ops (listed.setIfInBounds i true):=by
 intro j o hj ho e he hb;have up:∀k,listed.getD k false=true→(listed.setIfInBounds i true).getD k false=true:=fun k hk=>by
  rcases Nat.decEq k i with hne|rfl
  ·rw[getD_set_ne false (fun e=>hne e.symm)];exact hk
  ·rcases Nat.lt_or_ge k listed.size with h'|h'
   ·simp[h']
   ·simp[Array.getElem?_eq_none h']at hk
 rcases Nat.decEq j i with hne|rfl
 ·rw[getD_set_ne false (fun e=>hne e.symm)]at hj;exact up _ (h j o hj ho e he hb)
 ·obtain⟨_,o',ho',hall⟩:=mem_ready.1 hi;rw[ho]at ho';cases ho';exact up _ (hall e he hb)
theorem Down.start (n:Nat):Down md ops (Array.replicate n false):=by
 intro j o hj;rcases Nat.lt_or_ge j n with h|h
 ·simp[h]at hj
 ·simp[h]at hj
def softO (soft:Nat→Oper→Bool)(ops:Array Oper)(j:Nat):Bool:=match ops[j]? with
 |some o=>soft j o
 |none=>true
def ZdD (ro:Option Nat)(P:Program)(md:Region.Mode)(ops:Array Oper)(Q:Exit→Act→World→Prop)(soft:Nat→Oper→Bool):Nat→Array Bool→Act→World→Prop
 |0,listed,a,w=>Region.ready md ops listed=[]∧Q .normal a w
 |fuel+1,listed,a,w=>
  (Region.ready md ops listed=[]→Q .normal a w)∧
  ∀i∈Region.ready md ops listed,wpOpIn (FF ro) 1 P ops Q i (fun a' w'=>(softO soft ops i=true→Ext w w')∧ZdD ro P md ops Q soft fuel (listed.setIfInBounds i true) a' w') a w
variable {soft:Nat→Oper→Bool}
theorem Zec:∀(fuel:Nat) (listed:Array Bool) (a:Act) (w:World),ZdD ro P md ops Q soft fuel listed a w→wpAnyIn (FF ro) 1 P md ops Q fuel listed a w
 |0,_,_,_,h=>h
 |fuel+1,_,_,_,h=>⟨h.1,fun i hi=>wpOpIn_mono (fun a' w' k=>Zec fuel _ a' w' k.2) (h.2 i hi)⟩
theorem ZeD {S':World→Prop}{i:Nat}{oi:Oper}{v:Value}(hx:∀w w',S' w→Ext w w'→S' w')(hi:ops[i]?=some oi)(hsel:∀(j:Nat) (o:Oper) cs b,ops[j]?=some o→o.op≠.select cs b)(hdf:Zcj ops=true)
  (hQ:∀c a w,Q (.panic c) (a.put oi.dst v) w→Q (.panic c) a w):
  ∀(fuel:Nat) (listed:Array Bool) (a:Act) (w:World),Down md ops listed→((∀w,S' w)∨∀j,listed.getD j true=false→j≠i→softO soft ops j=false→waits md ops ops.size j i=true)→
   (∀j oj,ops[j]?=some oj→j≠i→listed.getD j true=false→(∀e∈oj.after,Region.binds md e=true→e.on≠i)→oi.apart ops oj=true)→
   i∈Region.ready md ops listed→YieldsIf P ops S' oi v a→S' w→
   ZdD ro P md ops Q soft fuel (listed.setIfInBounds i true) (a.put oi.dst v) w→ZdD ro P md ops Q soft (fuel+1) listed a w:=by
 intro fuel;induction fuel with
 |zero=>
  intro listed a w _ _ _ hr hy hS H;refine⟨fun h=>absurd hr (by rw[h];simp),fun j hj=>?_⟩;rcases Nat.decEq j i with hji|hji
  ·have h2:=ready_mono hj hji;rw[H.1]at h2;exact absurd h2 (by simp)
  ·rw[hji];exact ZeC hi (Zbh hdf hi) hy hS ⟨fun _=>Ext.ZvU _,H⟩
 |succ fuel ih=>
  intro listed a w hD hns hfree hr hy hS H;refine⟨fun h=>absurd hr (by rw[h];simp),fun j hj=>?_⟩;rcases Nat.decEq j i with hji|hji
  ·have h1:=H.2 j (ready_mono hj hji);obtain⟨hjun,oj,hoj,hall⟩:=mem_ready.1 hj;have hiun:=(mem_ready.1 hr).1;have hnot:∀e∈oj.after,Region.binds md e=true→e.on≠i:=fun e he hb heq=>by
    have k1:=hall e he hb;rw[heq,ZcT hiun]at k1;cases k1
   have h2:=Zmq hoj (Zbh hdf hoj) (hfree j oj hoj hji hjun hnot) (fun cs b=>hsel i oi cs b hi) (fun cs b=>hsel j oj cs b hoj) hQ hy h1;have hri:i∈Region.ready md ops (listed.setIfInBounds j true):=ready_mono hr (Ne.symm hji);have hun:∀k,(listed.setIfInBounds j true).getD k true=false→listed.getD k true=false:=fun k hk=>by
    rcases Nat.decEq j k with hjk|hjk
    ·rw[getD_set_ne true hjk]at hk;exact hk
    ·rw[←hjk];exact hjun
   refine wpOpIn_mono (fun a' w' h3=>?_) h2;have hS2:S' w':=by
    rcases hns with hall'|hns
    ·exact hall' w'
    ·cases hsj:softO soft ops j with
     |true=>exact hx w w' hS (h3.2.1 hsj)
     |false=>
      have:=Zjn hD hj (hns j hjun hji hsj)
      rw[ZcT hiun]at this;cases this
   refine⟨h3.2.1,ih (listed.setIfInBounds j true) a' w' (hD.set hj) (hns.imp id (fun h k hk=>h k (hun k hk))) (fun k ok hk hki hkun hno=>hfree k ok hk hki (hun k hkun) hno) hri h3.1 hS2 ?_⟩;rw[Array.setIfInBounds_comm _ _ hji];exact h3.2.2
  ·rw[hji];exact ZeC hi (Zbh hdf hi) hy hS ⟨fun _=>Ext.ZvU _,H⟩
def Zge (ro:Option Nat)(P:Program)(ops:Array Oper)(Q:Exit→Act→World→Prop)(soft:Nat→Oper→Bool)(still:Oper→Bool):List (Nat×Bool)→Act→World→Prop
 |[],a,w=>Q .normal a w
 |(i,false)::r,a,w=>∃o v,∃S':World→Prop,(∀w w',S' w→Ext w w'→S' w')∧(still o=true→∀w,S' w)∧S' w∧ops[i]?=some o∧YieldsIf P ops S' o v a∧Zge ro P ops Q soft still r (a.put o.dst v) w
 |(i,true)::r,a,w=>wpOpIn (FF ro) 1 P ops Q i (fun a' w'=>(softO soft ops i=true→Ext w w')∧Zge ro P ops Q soft still r a' w') a w
def seqL (md:Region.Mode)(ops:Array Oper)(soft:Nat→Oper→Bool)(still:Oper→Bool):List (Nat×Bool)→Array Bool→Bool
 |[],listed=>(Region.ready md ops listed).isEmpty
 |(i,false)::r,listed=>(Region.ready md ops listed).contains i&&Region.free md ops listed i&&
   ((match ops[i]? with|some o=>still o|none=>false)||(List.range ops.size).all fun j=>listed.getD j true||j==i||softO soft ops j||waits md ops ops.size j i)&&seqL md ops soft still r (listed.setIfInBounds i true)
 |(i,true)::r,listed=>(Region.ready md ops listed==[i])&&seqL md ops soft still r (listed.setIfInBounds i true)
theorem Zg0 {still:Oper→Bool}(hs:Region.noSelect ops=true)(hdf:Zcj ops=true)(hQ:∀c (a:Act) (d:Tmp) (v:Value) w,Q (.panic c) (a.put (some d) v) w→Q (.panic c) a w):∀(l:List (Nat×Bool)) (listed:Array Bool) (a:Act) (w:World),listed.size=ops.size→Down md ops listed→
  seqL md ops soft still l listed=true→Zge ro P ops Q soft still l a w→ZdD ro P md ops Q soft l.length listed a w:=by
 intro l;induction l with
 |nil=>
  intro listed a w _ _ hB h;exact⟨by simpa[seqL]using hB,h⟩
 |cons x r ih=>
  obtain⟨i,b⟩:=x;intro listed a w hsz hD hB h;cases b with
  |false=>
   simp only[seqL,ZxO]at hB;obtain⟨o,v,S',hx,hst,hSw,ho,hy,h'⟩:=h;have hr:i∈Region.ready md ops listed:=by simpa using hB.1.1.1
   have hB2:=hB.1.2;rw[ho]at hB2;simp only[Zyk]at hB2;exact ZeD hx ho (Region.noSelect_spec hs) hdf (fun c a w k=>by
    cases hd:o.dst with
    |none=>rw[hd]at k;exact k
    |some d=>rw[hd]at k;exact hQ c a d v w k) r.length listed a w hD (by
    rcases hB2 with h1|h1
    ·exact .inl (hst h1)
    ·refine .inr (fun j hj hji hsj=>?_);have hlt:j<ops.size:=by
      rcases Nat.lt_or_ge j listed.size with h2|h2
      ·omega
      ·simp[Array.getElem?_eq_none h2]at hj
     have:=Zx7.1 h1 j (List.mem_range.2 hlt)
     simp only[Zyk,beq_iff_eq]at this;rcases this with((h3|h3)|h3)|h3
     ·rw[hj]at h3;cases h3
     ·exact absurd h3 hji
     ·rw[hsj]at h3;cases h3
     ·exact h3) (Region.free_spec ho hB.1.1.2) hr hy hSw (ih _ _ _ (by simpa using hsz) (hD.set hr) hB.2 h')
  |true=>
   simp only[seqL,ZxO,beq_iff_eq]at hB;refine⟨fun h0=>by rw[hB.1]at h0;simp at h0,fun j hj=>?_⟩;have hj':=hj;rw[hB.1,Zyi]at hj';subst hj';exact wpOpIn_mono (fun a' w' k=>⟨k.1,ih _ _ _ (by simpa using hsz) (hD.set hj) hB.2 k.2⟩) h
theorem Zdm {id:Nat}{a:Act}{w:World}{o:Array Oper}(soft:Nat→Oper→Bool)(still:Oper→Bool)(l:List (Nat×Bool))(hm:P.follows .mixedOrders=true)(hQ:∀c (a:Act) (d:Tmp) (v:Value) w,Q (.panic c) (a.put (some d) v) w→Q (.panic c) a w)
  (h1:Region.noSelect o=true) (h1':Zcj o=true) (h2:l.length=o.size) (h3:seqL .any o soft still l (Array.replicate o.size false)=true)
  (h:Zge ro P o Q soft still l a w.drew):(Code.region id o true).wpIn (FF ro) 1 P Q a w:=by
 refine wpIn_region_any hm (Zec (soft:=soft) _ _ _ _ ?_)
 have:=Zg0 (P:=P) (soft:=soft) (still:=still) h1 h1' hQ l _ _ _ (by simp) (Down.start _) h3 h
 rw[h2]at this;exact this
end
end
section
def toLoc (d:Nat):Site→Site
 |.ret j=>.loc d j
 |s=>s
def Site.Zu6:Site→Bool
 |.ret _=>true
 |_=>false
def AS.Zvd (B:List (Site×Box))(σ:AS):AS:=⟨σ.tm,B++σ.bx⟩
def renB (d:Nat)(B:List (Site×Box)):List (Site×Box):=B.map fun p=>(toLoc d p.1,p.2.ren (toLoc d))
def retOk (r:AV)(B:List (Site×Box)):Prop:=r.Zu3 Site.Zu6=true∧∀p∈B,p.1.Zu6=true∧p.2.Zu3 Site.Zu6=true
def frzsL:List Site→AS→AS
 |[],σ=>σ
 |s::r,σ=>frzsL r (σ.frz s)
def Zb8 (P:Program)(f:Opd)(args:List Opd)(d:Nat)(K:AV→AS→Prop)(σ:AS):Prop:=
 (∃k g fs xs cs,(σ.o f).snap σ k=some (.fn g fs cs)∧snapW (AV.snap σ k) (args.map σ.o)=some xs∧Zai P g ((fs++xs++cs).map .pv) [] (fun r _=>∃y,r=.pv y∧y.flat=true∧K (.pv y) σ))∨
 (∃(fz:List Site) (g:FuncId) (fs xs cs:List PV),(frzsL fz σ).o f=.pv (.fn g fs cs)∧(frzsL fz σ).pvs args=some xs∧Zai P g ((fs++xs++cs).map .pv) [] (fun r B=>retOk r B∧K (r.map (toLoc d)) (((frzsL fz σ).Zu0 d).Zvd (renB d B))))
section
variable {P:Program}{N:Nat}{w0:World}{m0:Env w0}{pl:List Nat}{σ:AS}{ρ:Site→Loc}{m:Mem}{act:Act}{w:World}{o:Oper}{d:Nat}{K:AV→AS→Prop}{ro:Option Nat}
theorem Sat.frzsL:∀(fz:List Site) {σ:AS} {m:Mem},Sat N w0 m0 pl σ ρ m act w→∃m',Le m m'∧Sat N w0 m0 pl (frzsL fz σ) ρ m' act w
 |[],σ,m,h=>⟨m,Le.refl m,h⟩
 |s::r,σ,m,h=>by
  obtain⟨m1,l1,h1⟩:=h.frz s;obtain⟨m2,l2,h2⟩:=Sat.frzsL r h1;exact⟨m2,l1.trans l2,h2⟩
theorem ZfB (d:Nat):∀(B:List (Site×Box)),(∀p∈B,p.1.Zu6=true)→∀s b,(renB d B).lookup s=some b→∃j b',s=.loc d j∧B.lookup (.ret j)=some b'∧b=b'.ren (toLoc d)
 |[],_,s,b,h=>by simp[renB,List.lookup]at h
 |(s',b')::r,hB,s,b,h=>by
  have h1:=hB (s',b') (by simp);cases s' with
  |ret j=>
   simp only[renB,ZxZ,toLoc]at h;rcases Classical.em (s=.loc d j)with e|e
   ·subst e;rw[Zag]at h;cases h;exact⟨j,b',rfl,Zag,rfl⟩
   ·rw[Zad e]at h;obtain⟨j2,b2,e1,e2,e3⟩:=ZfB d r (fun p hp=>hB p (by simp[hp])) s b h;refine⟨j2,b2,e1,?_,e3⟩;rw[Zad (fun e4=>e (by rw[e1];cases e4;rfl))];exact e2
  |par i=>cases h1
  |loc e i=>cases h1
theorem Zeu {α β:Type}[BEq α][LawfulBEq α](k:α):∀(l r:List (α×β)),(l++r).lookup k=(l.lookup k).or (r.lookup k)
 |[],r=>by simp[List.lookup]
 |(a,b)::l,r=>by
  by_cases h:k=a
  ·subst h;rw[List.cons_append,Zag,Zag];rfl
  ·rw[List.cons_append,Zad h,Zad h];exact Zeu k l r
theorem Sat.ret (h:Sat N w0 m0 pl σ ρ m act w)(hN:NoD d σ){w':World}(hx:Ext w w'){m':Mem}{ρ':Site→Loc}{B:List (Site×Box)}(hB:Bxs ρ' m' w' B)(hk:∀p∈B,p.1.Zu6=true∧p.2.Zu3 Site.Zu6=true)(hm:Le m m')(hw:Le m' w'.mem)
  (hb:∀s b k,B.lookup s=some b→blk ρ' w' s b k→w.heap.size≤k) (hf:∀b o v,m' b o=some v→m b o=some v∨w.heap.size≤b):
  ∃ρ'',Sat N w0 m0 pl (σ.Zvd (renB d B)) ρ'' m' act w'∧∀{v:Value} {r:AV},r.Zu3 Site.Zu6=true→RdA ρ' m' v r→RdA ρ'' m' v (r.map (toLoc d)):=by
 let ρ'':Site→Loc:=fun s=>match s with
  |.loc e j=>if e=d then ρ' (.ret j)else ρ s
  |s=>ρ s
 have e1:∀s,s.Zu1 d=false→ρ'' s=ρ s:=fun s hs=>by
  cases s with
  |loc e j=>
   have:¬e=d:=fun h=>by subst h;simp[Site.Zu1]at hs
   simp[ρ'',this]
  |_=>rfl
 have e2:∀s,s.Zu6=true→ρ'' (toLoc d s)=ρ' s:=fun s hs=>by
  cases s with
  |ret j=>simp[ρ'',toLoc]
  |_=>cases hs
 have hX:=h.ext hx;have hX2:Sat N w0 m0 pl σ ρ m' act w':=hX.ZxG hm hw (fun s b i k r o=>by
  cases hv:m' i o with
  |none=>rfl
  |some v=>
   have r':=((h.bx s b k).blk_same (fun r=>hx.block _ (h.lt k r))).1 r;have hlt:=h.ltk k r';rcases hf _ _ _ hv with k1|k1
   ·rw[h.offk s b i k r' o]at k1;cases k1
   ·omega) (fun b o v hv=>by
  rcases hf b o v hv with k|k
  ·exact .inl k
  ·exact .inr (.inl (Zx5 h.keep.size k)))
 have look:∀s b,(σ.Zvd (renB d B)).b s=some b→(∃j b',s=.loc d j∧B.lookup (.ret j)=some b'∧b=b'.ren (toLoc d))∨(σ.b s=some b∧s.Zu1 d=false):=fun s b k=>by
  have k':(renB d B++σ.bx).lookup s=some b:=k;rw[Zeu]at k';cases hl:(renB d B).lookup s with
  |some c=>
   rw[hl]at k';simp at k';subst k';exact .inl (ZfB d B (fun p hp=>(hk p hp).1) s c hl)
  |none=>
   rw[hl]at k';simp at k';exact .inr ⟨k',(hN.b s b k').1⟩
 have mem:∀{l:List (Site×Box)} {s b},l.lookup s=some b→(s,b)∈l:=by
  intro l;induction l with
  |nil=>intro s b h;simp[List.lookup]at h
  |cons p r ih=>
   obtain⟨a,c⟩:=p;intro s b h;by_cases e:s=a
   ·subst e;rw[Zag]at h;cases h;simp
   ·rw[Zad e]at h;simp[ih h]
 refine⟨ρ'',⟨hX2.nod,hX2.sz,fun t a k=>?_,fun s b k=>?_,fun s s' b b' i k k' r r'=>?_,hX2.mem,fun s b i k r=>?_,fun s b i k r=>?_,hX2.keep,hX2.base,hX2.fro,fun i=>hX2.par i⟩,fun hr hv=>hv.map e2 hr⟩
 ·obtain⟨v,k1,k2⟩:=hX2.tm t a k;exact⟨v,k1,k2.mono (Le.refl _) e1 (hN.t t a k)⟩
 ·rcases look s b k with⟨j,b',rfl,k1,rfl⟩|⟨k1,k2⟩
  ·exact(hB.bx _ _ k1).ren e2 (s:=.ret j) rfl (hk _ (mem k1)).2
  ·exact(hX2.bx s b k1).stay (Le.refl _) e1 k2 (hN.b s b k1).2 (fun _ _=>rfl)
 ·rcases look s b k with⟨j,b2,rfl,k1,rfl⟩|⟨k1,k2⟩<;>rcases look s' b' k' with⟨j',b2',rfl,k1',rfl⟩|⟨k1',k2'⟩
  ·have:=hB.injk _ _ _ _ i k1 k1' ((ZaF (e2 (.ret j) rfl)).1 r) ((ZaF (e2 (.ret j') rfl)).1 r')
   cases this;rfl
  ·have a1:=hb _ _ i k1 ((ZaF (e2 (.ret j) rfl)).1 r);have a2:=h.ltk k1' (((h.bx s' b' k1').blk_same (fun r=>hx.block _ (h.lt k1' r))).1 ((ZbI (e1 s' k2')).1 r'));omega
  ·have a1:=hb _ _ i k1' ((ZaF (e2 (.ret j') rfl)).1 r');have a2:=h.ltk k1 (((h.bx s b k1).blk_same (fun r=>hx.block _ (h.lt k1 r))).1 ((ZbI (e1 s k2)).1 r));omega
  ·exact hX2.injk s s' b b' i k1 k1' ((ZbI (e1 s k2)).1 r) ((ZbI (e1 s' k2')).1 r')
 ·rcases look s b k with⟨j,b2,rfl,k1,rfl⟩|⟨k1,k2⟩
  ·exact hB.offk _ _ i k1 ((ZaF (e2 (.ret j) rfl)).1 r)
  ·exact hX2.offk s b i k1 ((ZbI (e1 s k2)).1 r)
 ·rcases look s b k with⟨j,b2,rfl,k1,rfl⟩|⟨k1,k2⟩
  ·exact .inl (Zx5 h.keep.size (hb _ _ i k1 ((ZaF (e2 (.ret j) rfl)).1 r)))
  ·exact hX2.ownk s b i k1 ((ZbI (e1 s k2)).1 r)
theorem ZiI {m:Mem}{v:Value}{g:FuncId}{fs cs:List PV}(h:RdP m v (.fn g fs cs)):∃vf vc:Array Value,v=.func (.func g) vf vc∧vf.size=fs.length∧vc.size=cs.length∧(∀(j:Nat) (d:Value) (c:PV),vf[j]?=some d→fs[j]?=some c→RdP m d c)∧(∀(j:Nat) (d:Value) (c:PV),vc[j]?=some d→cs[j]?=some c→RdP m d c):=by
 cases h with
 |fn _ vf vc _ _ h0 h1 h2 h3=>exact⟨vf,vc,rfl,h0,h1,h2,h3⟩
theorem callop {c:Call}{fo:Operand}(ho:o.op=.call c)(hc:c.callee=.value fo){g:FuncId}{vf vc:Array Value}(hv:act.eval fo=.func (.func g) vf vc)(hg:Callable P g):
  (execOp act.eval o).run P w=.ok (.enter g (vf++c.args.map act.eval++vc)) w:=by
 obtain⟨fn,code,h1,h2,h3⟩:=hg;have h2' : ¬ fn.name = "runtime.NumGoroutine" := by simpa using h2
 unfold execOp;simp only[ho];simp[resolve,hc,hv,Deferred.ofValue,invoke,callFunc,h1,h2',h3]
theorem Zo6 {m:Mem}{ρ:Site→Loc}{vf va vc:Array Value}{fs xs cs:List PV}(h1:vf.size=fs.length)(h2:va.size=xs.length)(h3:vc.size=cs.length)(k1:∀(j:Nat) (d:Value) (c:PV),vf[j]?=some d→fs[j]?=some c→RdP m d c)
  (k2:∀(j:Nat) (d:Value) (c:PV),va[j]?=some d→xs[j]?=some c→RdP m d c) (k3:∀(j:Nat) (d:Value) (c:PV),vc[j]?=some d→cs[j]?=some c→RdP m d c):
  (vf++va++vc).size=((fs++xs++cs).map AV.pv).length∧∀(j:Nat) (d:Value) (c:AV),(vf++va++vc)[j]?=some d→((fs++xs++cs).map AV.pv)[j]?=some c→RdA ρ m d c:=by
 refine⟨by simp[h1,h2,h3],fun j d c e1 e2=>?_⟩;rw[ZxM]at e2;obtain⟨x,e3,rfl⟩:=ZxP.1 e2;refine .pv _ _ ?_;rw[Array.getElem?_append,Array.getElem?_append]at e1;rw[Zyl,Zyl]at e3;simp only[Array.size_append,ZxU,h1,h2]at e1 e3;split at e1
 ·rename_i c1;rw[if_pos c1]at e3;split at e1
  ·rename_i c2;rw[if_pos c2]at e3;exact k1 j d x e1 e3
  ·rename_i c2;rw[if_neg c2]at e3;exact k2 _ d x e1 e3
 ·rename_i c1;rw[if_neg c1]at e3;exact k3 _ d x e1 e3
theorem ZtC {f:Opd}{args:List Opd}(hl:litOp P o.op=.call f args)(h:Zb8 P f args d K σ)(hS:Sat N w0 m0 pl σ ρ m act w){Q:Exit→Act→World→Prop} :
  o.wpIn (FF ro) 1 P act w (fun act' w'=>∃v a τ ρ' m',act'=act.put o.dst v∧K a τ∧Sat N w0 m0 pl τ ρ' m' act w'∧RdA ρ' m' v a∧Ext w w') Q:=by
 obtain⟨c,fo,ho,hc,hf,ha⟩:∃c fo,o.op=.call c∧c.callee=.value fo∧opd fo=some f∧opds c.args.toList=some args:=by
  replace hl:=ZfD hl;cases hop:o.op<;>rw[hop]at hl
  case call c=>
   simp only[Zay,nilK]at hl;split at hl
   all_goals first
    |(rename_i fo hc
      split at hl
      ·rename_i e1 e2;cases hl;exact⟨c,fo,rfl,hc,e1,e2⟩
      ·cases hl)
    |(exfalso;repeat' (first|(cases hl;done)|split at hl))
  case unOp op t x=>exfalso;cases op<;>simp only[Zay,nilK]at hl<;>(try split at hl)<;>cases hl
  case makeFunc fn fs cs=>exfalso;cases fn<;>simp only[Zay,nilK]at hl<;>(try split at hl)<;>cases hl
  case slice t x lo hi mx=>exfalso;cases mx<;>simp only[Zay,nilK]at hl<;>(try split at hl)<;>cases hl
  all_goals (exfalso;simp only[Zay,nilK]at hl;repeat' (first|(cases hl;done)|split at hl))
 obtain⟨q1,q2⟩:=ZbK ha;have hargs:∀(τ:AS) (ρ':Site→Loc) (m':Mem),Sat N w0 m0 pl τ ρ' m' act w→(c.args.map act.eval).size=args.length∧∀(j:Nat) (u:Value) (y:Opd),(c.args.map act.eval)[j]?=some u→args[j]?=some y→RdA ρ' m' u (τ.o y):=fun τ ρ' m' hτ=>by
  refine⟨by simp;simpa using q1,fun j u y hu hy=>?_⟩;rw[Array.getElem?_map]at hu;obtain⟨x,k1,rfl⟩:=ZxP.1 hu;obtain⟨y',k2,k3⟩:=q2 j x (by simpa using k1);rw[hy]at k2;cases k2;exact hτ.opd k3
 unfold Oper.wpIn;refine⟨fun _ _=>trivial,?_⟩;rw[Oper.semAt_eq _ _ _ (fun c' e=>by rw[ho]at e;cases e)];rcases h with⟨k,g,fs,xs,cs,h1,h2,hC⟩|⟨fz,g,fs,xs,cs,h1,h2,hC⟩
 ·obtain⟨vf,vc,hv,f1,f2,f3,f4⟩:=ZiI (ZmT hS h1 (hS.opd hf));rw[callop ho hc hv hC.1,Oper.uponIn_enter];refine⟨FF.one,Zf4 ?_⟩;obtain⟨s1,s2⟩:=Zcq h2;rw[ZxS]at s1;obtain⟨a1,a2⟩:=hargs σ ρ m hS;obtain⟨b1,b2⟩:=Zo6 (ρ:=ρ) (m:=w.mem) (va:=c.args.map act.eval) (xs:=xs) f1 (by omega) f2 f3 (fun j u x e1 e2=>by
   have hj:j<args.length:=by rw[s1];exact(ZxN.1 e2).1
   obtain⟨x',k1,k2⟩:=s2 j (σ.o args[j]) (by rw[ZxM,ZxL hj];rfl);rw[e2]at k1;cases k1;exact ZmT hS k2 (a2 j u _ e1 (ZxL hj))) f4
  refine(hC.2 w w.mem ρ _ (Bxs.nil _ _ _) ⟨Le.refl _,hS.glob.mono hS.mem,List.nodup_nil⟩ b1 b2).mono ?_;rintro e w' ⟨v,r,B,ρ',m',rfl,⟨y,rfl,hy,hK⟩,_,_,_,_,_,_,hv',hkp⟩;have hx:Ext w w':=Keep.ext hkp;exact⟨v,.pv y,σ,ρ,m,rfl,hK,hS.ext hx,.pv _ _ (hv'.Zu5.flat hy),hx⟩
 ·obtain⟨m1,hm1,hF⟩:=Sat.frzsL fz hS;have hfv:=hF.opd hf;rw[h1]at hfv;obtain⟨vf,vc,hv,f1,f2,f3,f4⟩:=ZiI hfv.Zu5;rw[callop ho hc hv hC.1,Oper.uponIn_enter];refine⟨FF.one,Zf4 ?_⟩;obtain⟨s1,s2⟩:=Zdr h2;obtain⟨a1,a2⟩:=hargs _ ρ m1 hF;obtain⟨b1,b2⟩:=Zo6 (ρ:=ρ) (m:=m1) (va:=c.args.map act.eval) (xs:=xs) f1 (by omega) f2 f3 (fun j u x e1 e2=>by
   have hj:j<args.length:=by rw[s1];exact(ZxN.1 e2).1
   obtain⟨x',k1,k2⟩:=s2 j _ (ZxL hj);rw[e2]at k1;cases k1
   have:=a2 j u _ e1 (ZxL hj)
   rw[k2]at this;exact this.Zu5) f4
  refine(hC.2 w m1 ρ _ (Bxs.nil _ _ _) ⟨hF.mem,hF.glob,List.nodup_nil⟩ b1 b2).mono ?_;rintro e w' ⟨v,r,B,ρ',m',rfl,⟨⟨r1,r2⟩,hK⟩,hB,hm',hw',_,hbl,hfr,hv',hkp⟩;have hx:Ext w w':=Keep.ext hkp;obtain⟨ρ'',k1,k2⟩:=(hF.Zu0 d).ret (NoD.Zu0 d _) hx hB r2 hm' hw' (fun s b i hs hr=>by
   rcases hbl s b i hs hr with k|k
   ·exact k
   ·simp[lentB]at k) (fun b o v hv=>by
   rcases hfr b o v hv with k|k|k
   ·exact .inl k
   ·exact .inr k
   ·simp[lentB]at k)
  exact⟨v,_,_,ρ'',m',rfl,hK,k1,k2 r1 hv',hx⟩
end
end
section
def inG (lent:List Site)(s:Site):Site:=match lent.findIdx? (fun x=>decide (x=s))with
 |some j=>.par j
 |none=>s
def outG (lent:List Site)(d:Nat):Site→Site
 |.par i=>lent.getD i default
 |.ret j=>.loc d j
 |s=>s
def outOk (lent:List Site):Site→Bool
 |.par i=>decide (i<lent.length)
 |.ret _=>true
 |_=>false
def Zas (σ:AS)(lent:List Site):Nat→List Site→Option (List (Site×Box))
 |_,[]=>some []
 |i,s::r=>match σ.b s,Zas σ lent (i+1) r with
  |some b,some l=>if b.Zu3 (fun x=>lent.contains x)=true then some ((.par i,b.ren (inG lent))::l)else none
  |_,_=>none
def dropL:List Site→AS→AS
 |[],σ=>σ
 |s::r,σ=>dropL r (σ.drop s)
def renL (lent:List Site)(d:Nat)(B:List (Site×Box)):List (Site×Box):=B.map fun p=>(outG lent d p.1,p.2.ren (outG lent d))
def Zc1 (P:Program)(f:Opd)(args:List Opd)(K:AV→AS→Prop)(σ:AS):Prop:=
 ∃(d:Nat) (fz lent:List Site) (g:FuncId) (fs cs:List AV) (B:List (Site×Box)),
  ((frzsL fz σ).o f=.fn g fs cs∨∃fs' cs',(frzsL fz σ).o f=.pv (.fn g fs' cs')∧fs=fs'.map .pv∧cs=cs'.map .pv)∧lent.Nodup∧lent.all (fun s=>!s.Zu1 d)=true∧Zas (frzsL fz σ) lent 0 lent=some B∧
  AV.Zu4 (fun x=>lent.contains x) (fs++args.map (frzsL fz σ).o++cs)=true∧
  Zai P g (AV.Zu9 (inG lent) (fs++args.map (frzsL fz σ).o++cs)) B (fun r B'=>r.Zu3 (outOk lent)=true∧(∀p∈B',outOk lent p.1=true∧p.2.Zu3 (outOk lent)=true)∧
   K (r.map (outG lent d)) (((dropL lent (frzsL fz σ)).Zu0 d).Zvd (renL lent d B')))
section
variable {P:Program}{N:Nat}{w0:World}{m0:Env w0}{pl:List Nat}{σ:AS}{ρ:Site→Loc}{m:Mem}{act:Act}{w:World}{o:Oper}{d:Nat}{K:AV→AS→Prop}
theorem Zou:∀(l:List Site) (σ:AS) (s:Site) (b:Box),(dropL l σ).b s=some b→σ.b s=some b∧s∉l
 |[],σ,s,b,h=>⟨h,by simp⟩
 |x::r,σ,s,b,h=>by
  obtain⟨h1,h2⟩:=Zou r _ s b h;rw[AS.Zvz]at h1;split at h1
  ·cases h1
  ·rename_i hne;exact⟨h1,by simp[hne,h2]⟩
theorem Zot:∀(l:List Site) (σ:AS),(dropL l σ).tm=σ.tm
 |[],σ=>rfl
 |x::r,σ=>by rw[dropL,Zot r];rfl
theorem Zl9 {l:List Site}{s:Site}{j:Nat}(h:l.findIdx? (fun x=>decide (x=s))=some j):l[j]?=some s:=by
 obtain⟨hj,h1,_⟩:=Zyy.1 h;rw[ZxL hj];simpa using h1
theorem ZfP {lent:List Site}{s:Site}(h:s∈lent):∃j,lent.findIdx? (fun x=>decide (x=s))=some j∧lent[j]?=some s:=by
 cases hf:lent.findIdx? (fun x=>decide (x=s))with
 |some j=>exact⟨j,rfl,Zl9 hf⟩
 |none=>
  rw[Zyz]at hf
  have:=hf s h
  simp at this
theorem Zdw (σ:AS)(lent:List Site):∀(l:List Site) (i:Nat) (B:List (Site×Box)),Zas σ lent i l=some B→
  (∀s b,B.lookup s=some b→∃j s0 b0,s=.par (i+j)∧l[j]?=some s0∧σ.b s0=some b0∧b=b0.ren (inG lent)∧b0.Zu3 (fun x=>lent.contains x)=true)∧(∀s∈l,∃b,σ.b s=some b)∧(∀s0∈l,∃s b,(s,b)∈B∧∃j,s=.par (i+j)∧l[j]?=some s0)∧(∀p∈B,∃j s0 b0,p.1=.par (i+j)∧l[j]?=some s0∧σ.b s0=some b0∧p.2=b0.ren (inG lent))
 |[],i,B,h=>by
  simp[Zas]at h;subst h;exact⟨fun s b h=>by simp[List.lookup]at h,fun s h=>(by cases h),fun s h=>(by cases h),fun p h=>(by cases h)⟩
 |x::r,i,B,h=>by
  unfold Zas at h;split at h
  ·rename_i b l h1 h2;split at h
   ·rename_i hall;cases h;obtain⟨k1,k2,k3,k4⟩:=Zdw σ lent r (i+1) l h2;refine⟨fun s c hs=>?_,fun s hs=>?_,fun s hs=>?_,fun p hp=>?_⟩
    ·by_cases e:s=.par i
     ·subst e;rw[Zag]at hs;cases hs;exact⟨0,x,b,rfl,rfl,h1,rfl,hall⟩
     ·rw[Zad e]at hs;obtain⟨j,s0,b0,e1,e2,e3⟩:=k1 s c hs;exact⟨j+1,s0,b0,by rw[e1];congr 1;omega,by simpa using e2,e3⟩
    ·rcases Zx2.1 hs with rfl|hs
     ·exact⟨b,h1⟩
     ·exact k2 s hs
    ·rcases Zx2.1 hs with rfl|hs
     ·exact⟨.par i,b.ren (inG lent),by simp,0,rfl,rfl⟩
     ·obtain⟨s',b',q1,j,q2,q3⟩:=k3 s hs;exact⟨s',b',by simp[q1],j+1,by rw[q2];congr 1;omega,by simpa using q3⟩
    ·rcases Zx2.1 hp with rfl|hp
     ·exact⟨0,x,b,rfl,rfl,h1,rfl⟩
     ·obtain⟨j,s0,b0,q1,q2,q3⟩:=k4 p hp;exact⟨j+1,s0,b0,by rw[q1];congr 1;omega,by simpa using q2,q3⟩
   ·cases h
  ·cases h
theorem ZfA (lent:List Site)(d:Nat):∀(B:List (Site×Box)) s b,(renL lent d B).lookup s=some b→∃s0 b0,B.lookup s0=some b0∧(s0,b0)∈B∧s=outG lent d s0∧b=b0.ren (outG lent d)
 |[],s,b,h=>by simp[renL,List.lookup]at h
 |(s',b')::r,s,b,h=>by
  simp only[renL,ZxZ]at h;by_cases e:s=outG lent d s'
  ·subst e;rw[Zag]at h;cases h;exact⟨s',b',Zag,by simp,rfl,rfl⟩
  ·rw[Zad e]at h;obtain⟨s0,b0,h0,h1,h2,h3⟩:=ZfA lent d r s b h;exact⟨s0,b0,by rw[Zad (fun e2=>e (by rw[h2,e2]))];exact h0,by simp[h1],h2,h3⟩
theorem ZhE {v:Value}{g:FuncId}{fs cs:List AV}(h:RdA ρ m v (.fn g fs cs)):∃vf vc:Array Value,v=.func (.func g) vf vc∧vf.size=fs.length∧vc.size=cs.length∧(∀(j:Nat) (d:Value) (c:AV),vf[j]?=some d→fs[j]?=some c→RdA ρ m d c)∧(∀(j:Nat) (d:Value) (c:AV),vc[j]?=some d→cs[j]?=some c→RdA ρ m d c):=by
 cases h with
 |fn _ vf vc _ _ h0 h1 h2 h3=>exact⟨vf,vc,rfl,h0,h1,h2,h3⟩
theorem ZhR {vf va vc:Array Value}{fs xs cs:List AV}(h1:vf.size=fs.length)(h2:va.size=xs.length)(h3:vc.size=cs.length)(k1:∀(j:Nat) (d:Value) (c:AV),vf[j]?=some d→fs[j]?=some c→RdA ρ m d c)
  (k2:∀(j:Nat) (d:Value) (c:AV),va[j]?=some d→xs[j]?=some c→RdA ρ m d c) (k3:∀(j:Nat) (d:Value) (c:AV),vc[j]?=some d→cs[j]?=some c→RdA ρ m d c):
  (vf++va++vc).size=(fs++xs++cs).length∧∀(j:Nat) (d:Value) (c:AV),(vf++va++vc)[j]?=some d→(fs++xs++cs)[j]?=some c→RdA ρ m d c:=by
 refine⟨by simp[h1,h2,h3],fun j d c e1 e3=>?_⟩;rw[Array.getElem?_append,Array.getElem?_append]at e1;rw[Zyl,Zyl]at e3;simp only[Array.size_append,ZxU,h1,h2]at e1 e3;split at e1
 ·rename_i c1;rw[if_pos c1]at e3;split at e1
  ·rename_i c2;rw[if_pos c2]at e3;exact k1 j d c e1 e3
  ·rename_i c2;rw[if_neg c2]at e3;exact k2 _ d c e1 e3
 ·rename_i c1;rw[if_neg c1]at e3;exact k3 _ d c e1 e3
theorem Zdg {f:Opd}{args:List Opd}(hl:litOp P o.op=.call f args):∃c fo,o.op=.call c∧c.callee=.value fo∧opd fo=some f∧opds c.args.toList=some args:=by
 replace hl:=ZfD hl;cases hop:o.op<;>rw[hop]at hl
 case call c=>
  simp only[Zay,nilK]at hl;split at hl
  all_goals first
   |(rename_i fo hc
     split at hl
     ·rename_i e1 e2;cases hl;exact⟨c,fo,rfl,hc,e1,e2⟩
     ·cases hl)
   |(exfalso;repeat' (first|(cases hl;done)|split at hl))
 case unOp op t x=>exfalso;cases op<;>simp only[Zay,nilK]at hl<;>(try split at hl)<;>cases hl
 case makeFunc fn fs cs=>exfalso;cases fn<;>simp only[Zay,nilK]at hl<;>(try split at hl)<;>cases hl
 case slice t x lo hi mx=>exfalso;cases mx<;>simp only[Zay,nilK]at hl<;>(try split at hl)<;>cases hl
 all_goals (exfalso;simp only[Zay,nilK]at hl;repeat' (first|(cases hl;done)|split at hl))
theorem ZdN {l:List Site}(h:l.Nodup){i j:Nat}{s:Site}(hi:l[i]?=some s)(hj:l[j]?=some s):i=j:=by
 obtain⟨h1,e1⟩:=ZxN.1 hi;obtain⟨h2,e2⟩:=ZxN.1 hj;have hp:=ZyE.1 h;rcases Nat.lt_trichotomy i j with hlt|he|hlt
 ·exact absurd (e1.trans e2.symm) (hp i j h1 h2 hlt)
 ·exact he
 ·exact absurd (e2.trans e1.symm) (hp j i h2 h1 hlt)
theorem ZfH {σ:AS}{lent:List Site}:∀(r:List Site) (i:Nat) (B:List (Site×Box)),Zas σ lent i r=some B→B.map (·.1)=(List.range' i r.length).map .par
 |[],i,B,h=>by simp[Zas]at h;subst h;rfl
 |s::r,i,B,h=>by
  unfold Zas at h;split at h
  ·rename_i b l h1 h2;split at h
   ·cases h;rw[ZxZ,ZfH r (i+1) l h2];rfl
   ·cases h
  ·cases h
theorem Zcd {σ:AS}{lent:List Site}{B:List (Site×Box)}(h:Zas σ lent 0 lent=some B):(B.map (·.1)).Nodup:=by
 rw[ZfH _ _ _ h,List.nodup_iff_pairwise_ne,List.pairwise_map];exact List.Pairwise.imp (fun h e=>h (by cases e;rfl)) (List.nodup_iff_pairwise_ne.1 List.nodup_range')
theorem lend {σ1:AS}{m1:Mem}{lent:List Site}{B:List (Site×Box)}(hF:Sat N w0 m0 pl σ1 ρ m1 act w)(hnd:lent.Nodup)(hnl:lent.all (fun s=>!s.Zu1 d)=true)(hB:Zas σ1 lent 0 lent=some B):
  ∃ρc:Site→Loc,(∀s,lent.contains s=true→ρc (inG lent s)=ρ s)∧Bxs ρc m1 w B∧∀(R:AV→List (Site×Box)→Prop) (e:Ending) (w':World),CPost w m1 ρc B (fun r B'=>r.Zu3 (outOk lent)=true∧(∀p∈B',outOk lent p.1=true∧p.2.Zu3 (outOk lent)=true)∧R r B') e w'→
   ∃v r B' ρ' m',e=.returned v∧R r B'∧Sat N w0 m0 pl (((dropL lent σ1).Zu0 d).Zvd (renL lent d B')) ρ' m' act w'∧RdA ρ' m' v (r.map (outG lent d))∧∀s,s.Zu1 d=false→ρ' s=ρ s:=by
 obtain⟨l1,l2,l3,l4⟩:=Zdw σ1 lent lent 0 B hB
 let ρc:Site→Loc:=fun s=>match s with
  |.par i=>ρ (lent.getD i default)
  |s=>ρ s
 have hin:∀s,lent.contains s=true→ρc (inG lent s)=ρ s:=fun s hs=>by
  obtain⟨j,k1,k2⟩:=ZfP (show s∈lent by simpa using hs);unfold inG;rw[k1];simp[ρc,List.getD,k2]
 have hlook:∀s b,B.lookup s=some b→∃j s0 b0,s=.par j∧lent[j]?=some s0∧σ1.b s0=some b0∧b=b0.ren (inG lent)∧b0.Zu3 (fun x=>lent.contains x)=true:=fun s b hs=>by
  obtain⟨j,s0,b0,e1,e2⟩:=l1 s b hs;exact⟨j,s0,b0,by simpa using e1,e2⟩
 have hpar:∀j s0,lent[j]?=some s0→ρc (.par j)=ρ s0:=fun j s0 hj=>by simp[ρc,List.getD,hj]
 have hinpar:∀j s0,lent[j]?=some s0→inG lent s0=.par j:=fun j s0 hj=>by
  obtain⟨j',k1,k2⟩:=ZfP (ZxQ hj);have e:j'=j:=ZdN hnd k2 hj;unfold inG;rw[k1,e]
 have hBx:Bxs ρc m1 w B:=by
  refine⟨fun s b hs=>?_,fun s s' b b' i hs hs' r r'=>?_,fun s b i hs r=>?_⟩
  ·obtain⟨j,s0,b0,rfl,e2,e3,rfl,e5⟩:=hlook s b hs
   have:=(hF.bx s0 b0 e3).ren hin (by simpa using ZxQ e2) e5
   rwa [hinpar j s0 e2]at this
  ·obtain⟨j,s0,b0,rfl,e2,e3,rfl,_⟩:=hlook s b hs;obtain⟨j',s0',b0',rfl,e2',e3',rfl,_⟩:=hlook s' b' hs'
   have:=hF.injk s0 s0' b0 b0' i e3 e3' ((ZaF (hpar j s0 e2)).1 r) ((ZaF (hpar j' s0' e2')).1 r')
   subst this
   have:j=j':=ZdN hnd e2 e2'
   rw[this]
  ·obtain⟨j,s0,b0,rfl,e2,e3,rfl,_⟩:=hlook s b hs;exact hF.offk s0 b0 i e3 ((ZaF (hpar j s0 e2)).1 r)
 have hlent:∀k,k∈lentB ρc w B→∃s0 b0,s0∈lent∧σ1.b s0=some b0∧blk ρ w s0 b0 k:=fun k hk=>by
  obtain⟨p,hp,e⟩:=Zcb.1 hk;obtain⟨j,s0,b0,e1,e2,e3,e4⟩:=l4 p hp;rw[Zyj]at e1;rw[e1,e4]at e;exact⟨s0,b0,ZxQ e2,e3,(ZaF (hpar j s0 e2)).1 e⟩
 refine⟨ρc,hin,hBx,fun R e w' h=>?_⟩;revert h;rintro⟨v,r,B',ρ',m',rfl,⟨r1,r2,hK⟩,hB',hm',hw',hp',hbl,hfr,hv',hkp⟩;have hN:=NoD.Zu0 d (dropL lent σ1)
 let ρ'':Site→Loc:=fun s=>match s with
  |.loc e j=>if e=d then ρ' (.ret j)else ρ s
  |s=>ρ s
 have e1:∀s,s.Zu1 d=false→ρ'' s=ρ s:=fun s hs=>by
  cases s with
  |loc e j=>
   have:¬e=d:=fun h=>by subst h;simp[Site.Zu1]at hs
   simp[ρ'',this]
  |_=>rfl
 have hlentd:∀s∈lent,s.Zu1 d=false:=fun s hs=>by
  have:=Zx7.1 hnl s hs
  simpa using this
 have e2:∀s,outOk lent s=true→ρ'' (outG lent d s)=ρ' s:=fun s hs=>by
  cases s with
  |par i=>
   simp only[outOk,decide_eq_true_eq]at hs;have hg:=ZxL hs
   have:outG lent d (.par i)=lent[i]:=by simp[outG,List.getD,hg]
   rw[this,e1 _ (hlentd _ (Zyh hs)),hp' i,hpar i _ hg]
  |ret j=>simp[ρ'',outG]
  |loc e j=>cases hs
 have hst:∀s b,((dropL lent σ1).Zu0 d).b s=some b→s.Zu1 d=false∧s∉lent∧∃b0,σ1.b s=some b0∧b=b0.Zu0 d:=fun s b k=>by
  rw[AS.Zvl]at k;split at k
  ·cases k
  ·rename_i hnd;obtain⟨b0,k1,rfl⟩:=ZxP.1 k;obtain⟨k2,k3⟩:=Zou lent σ1 s b0 k1;exact⟨by simpa using hnd,k3,b0,k2,rfl⟩
 have look:∀s b,(((dropL lent σ1).Zu0 d).Zvd (renL lent d B')).b s=some b→(∃s0 b0,B'.lookup s0=some b0∧outOk lent s0=true∧b0.Zu3 (outOk lent)=true∧s=outG lent d s0∧b=b0.ren (outG lent d))∨(((dropL lent σ1).Zu0 d).b s=some b):=fun s b k=>by
  have k':(renL lent d B'++((dropL lent σ1).Zu0 d).bx).lookup s=some b:=k;rw[Zeu]at k';cases hl:(renL lent d B').lookup s with
  |some c=>
   rw[hl]at k';simp at k';subst k';obtain⟨s0,b0,k1,k2,k3,k4⟩:=ZfA lent d B' s c hl;exact .inl ⟨s0,b0,k1,(r2 _ k2).1,(r2 _ k2).2,k3,k4⟩
  |none=>
   rw[hl]at k';simp at k';exact .inr k'
 have notlent:∀s b0 k,s∉lent→σ1.b s=some b0→blk ρ w s b0 k→k∉lentB ρc w B:=fun s b0 k hs hb hr hk=>by
  obtain⟨s0,b0',k1,k2,k3⟩:=hlent _ hk
  have:=hF.injk s0 s b0' b0 k k2 hb k3 hr
  subst this;exact hs k1
 have stay:∀s b0,s∉lent→σ1.b s=some b0→∀k,blk ρ w s b0 k→w'.heap[k]?=w.heap[k]?:=fun s b0 hs hb k hr=>hkp.block k (hF.ltk hb hr) (notlent s b0 k hs hb hr)
 have back:∀s b0,s.Zu1 d=false→s∉lent→σ1.b s=some b0→∀k,blk ρ'' w' s (b0.Zu0 d) k→blk ρ w s b0 k:=fun s b0 h1 hs hb k hr=>
  ((hF.bx s b0 hb).blk_same (fun r=>stay s b0 hs hb _ (ZaA r))).1 (Za4.1 ((ZbI (e1 s h1)).1 hr))
 have hnod:∃ds:List Nat,Mix m0.rest ds act.defers∧Nod m0.strict ds∧∀D∈ds,(w0.heap.size≤D∨D∈pl)∧w'.heap[D]?=some (.deferred (some [])):=by
  obtain⟨ds,g1,g0,g2⟩:=hF.nod;refine⟨ds,g1,g0,fun D hD=>⟨(g2 D hD).1,?_⟩⟩;obtain⟨g3,g4⟩:=g2 D hD;rw[hkp.block D (Zx8.1 g4).1 (fun q=>by
   obtain⟨s1,b1,q1,q2,q3⟩:=hlent _ q;exact(hF.bx s1 b1 q2).ZxA q3 g4)]
  exact g4
 have newb:∀s0 b0 k,B'.lookup s0=some b0→blk ρ' w' s0 b0 k→w.heap.size≤k∨k∈lentB ρc w B:=hbl;refine⟨v,r,B',ρ'',m',rfl,hK,⟨hnod,hF.sz,fun t a k=>?_,fun s b k=>?_,fun s s' b b' i k k' rr rr'=>?_,hw',fun s b i k rr=>?_,fun s b i k rr=>?_,?_,hF.base.trans hm',fun b o' v' hv2=>?_,fun i=>hF.par i⟩,hv'.map e2 r1,e1⟩
 ·have k':((dropL lent σ1).Zu0 d).t t=some a:=k;have hno:=hN.t t a k';rw[AS.Zwe]at k';obtain⟨a0,k1,rfl⟩:=ZxP.1 k';have k2:σ1.t t=some a0:=by
   unfold AS.t at k1 ⊢;rw[Zot]at k1;exact k1
  obtain⟨u,k3,k4⟩:=hF.tm t a0 k2;refine⟨u,k3,?_⟩;have k5:RdA ρ m1 u (a0.Zu0 d):=by
   unfold AV.Zu0;split
   ·exact .any u
   ·exact k4
  exact k5.mono hm' e1 hno
 ·rcases look s b k with⟨s0,b0,k1,k2,k3,rfl,rfl⟩|k1
  ·exact(hB'.bx s0 b0 k1).ren e2 k2 k3
  ·obtain⟨k2,k3,b0,k4,rfl⟩:=hst s b k1;exact((hF.bx s b0 k4).Zu0 d).stay hm' e1 k2 (Box.Zvr d b0) (fun i hr=>stay s b0 k3 k4 i (Za4.1 hr))
 ·rcases look s b k with⟨s0,b0,k1,k2,k3,rfl,rfl⟩|k1<;>rcases look s' b' k' with⟨s0',b0',k1',k2',k3',rfl,rfl⟩|k1'
  ·rw[hB'.injk s0 s0' b0 b0' i k1 k1' ((ZaF (e2 s0 k2)).1 rr) ((ZaF (e2 s0' k2')).1 rr')]
  ·obtain⟨h2,h3,c0,h4,rfl⟩:=hst s' b' k1';have r2':=back s' c0 h2 h3 h4 i rr';rcases newb s0 b0 i k1 ((ZaF (e2 s0 k2)).1 rr)with q|q
   ·have:=hF.ltk h4 r2';omega
   ·exact absurd q (notlent s' c0 i h3 h4 r2')
  ·obtain⟨h2,h3,c0,h4,rfl⟩:=hst s b k1;have r2:=back s c0 h2 h3 h4 i rr;rcases newb s0' b0' i k1' ((ZaF (e2 s0' k2')).1 rr')with q|q
   ·have:=hF.ltk h4 r2;omega
   ·exact absurd q (notlent s c0 i h3 h4 r2)
  ·obtain⟨h2,h3,c0,h4,rfl⟩:=hst s b k1;obtain⟨h2',h3',c0',h4',rfl⟩:=hst s' b' k1';exact hF.injk s s' c0 c0' i h4 h4' (back s c0 h2 h3 h4 i rr) (back s' c0' h2' h3' h4' i rr')
 ·rcases look s b k with⟨s0,b0,k1,k2,k3,rfl,rfl⟩|k1
  ·exact hB'.offk s0 b0 i k1 ((ZaF (e2 s0 k2)).1 rr)
  ·obtain⟨h2,h3,c0,h4,rfl⟩:=hst s b k1;have r2:=back s c0 h2 h3 h4 i rr;intro o';cases hx:m' i o' with
   |none=>rfl
   |some u=>
    rcases hfr _ _ _ hx with q|q|q
    ·rw[hF.offk s c0 i h4 r2 o']at q;cases q
    ·have:=hF.ltk h4 r2;omega
    ·exact absurd q (notlent s c0 i h3 h4 r2)
 ·rcases look s b k with⟨s0,b0,k1,k2,k3,rfl,rfl⟩|k1
  ·rcases newb s0 b0 i k1 ((ZaF (e2 s0 k2)).1 rr)with q|q
   ·exact .inl (Zx5 hF.keep.size q)
   ·obtain⟨s1,b1,q1,q2,q3⟩:=hlent _ q;exact hF.ownk s1 b1 i q2 q3
  ·obtain⟨h2,h3,c0,h4,rfl⟩:=hst s b k1;exact hF.ownk s c0 i h4 (back s c0 h2 h3 h4 i rr)
 ·refine⟨hkp.os.trans hF.keep.os,hkp.tape.trans hF.keep.tape,hkp.output.trans hF.keep.output,Zx5 hF.keep.size hkp.size,fun k hk hn=>?_⟩;refine(hkp.block k (Nat.lt_of_lt_of_le hk hF.keep.size) (fun q=>?_)).trans (hF.keep.block k hk hn);obtain⟨s1,b1,q1,q2,q3⟩:=hlent _ q;rcases hF.ownk s1 b1 k q2 q3 with h'|h'
  ·omega
  ·exact hn h'
 ·rcases hfr _ _ _ hv2 with q|q|q
  ·exact hF.fro _ _ _ q
  ·exact .inr (.inl (Zx5 hF.keep.size q))
  ·obtain⟨s1,b1,q1,q2,q3⟩:=hlent _ q;rcases hF.ownk s1 b1 _ q2 q3 with h'|h'
   ·exact .inr (.inl h')
   ·exact .inr (.inr h')
theorem ZqU {ro:Option Nat}{f:Opd}{args:List Opd}(hl:litOp P o.op=.call f args)(h:Zc1 P f args K σ)(hS:Sat N w0 m0 pl σ ρ m act w){Q:Exit→Act→World→Prop} :
  o.wpIn (FF ro) 1 P act w (fun act' w'=>∃v a τ ρ' m',act'=act.put o.dst v∧K a τ∧Sat N w0 m0 pl τ ρ' m' act w'∧RdA ρ' m' v a) Q:=by
 obtain⟨c,fo,ho,hc,hf,ha⟩:=Zdg hl;obtain⟨d,fz,lent,g,fs,cs,B,hfn,hnd,hnl,hB,hall,hC⟩:=h;obtain⟨m1,_,hF⟩:=hS.frzsL fz;generalize frzsL fz σ=σ1 at hfn hB hall hC hF;obtain⟨q1,q2⟩:=ZbK ha;obtain⟨ρc,hin,hBx,hout⟩:=lend hF hnd hnl hB;have hfv:∃vf vc:Array Value,act.eval fo=.func (.func g) vf vc∧vf.size=fs.length∧vc.size=cs.length∧(∀(j:Nat) (d:Value) (c:AV),vf[j]?=some d→fs[j]?=some c→RdA ρ m1 d c)∧(∀(j:Nat) (d:Value) (c:AV),vc[j]?=some d→cs[j]?=some c→RdA ρ m1 d c):=by
  have h1:=hF.opd hf;rcases hfn with hfn|⟨fs',cs',hfn,rfl,rfl⟩
  ·rw[hfn]at h1;exact ZhE h1
  ·rw[hfn]at h1;obtain⟨vf,vc,e1,e2,e3,e4,e5⟩:=ZiI h1.Zu5;refine⟨vf,vc,e1,by simpa using e2,by simpa using e3,fun j d c k1 k2=>?_,fun j d c k1 k2=>?_⟩
   ·rw[ZxM]at k2;obtain⟨x,k3,rfl⟩:=ZxP.1 k2;exact .pv _ _ (e4 j d x k1 k3)
   ·rw[ZxM]at k2;obtain⟨x,k3,rfl⟩:=ZxP.1 k2;exact .pv _ _ (e5 j d x k1 k3)
 obtain⟨vf,vc,hv,f1,f2,f3,f4⟩:=hfv;have hsz:(c.args.map act.eval).size=(args.map σ1.o).length:=by simp;simpa using q1
 obtain⟨b1,b2⟩:=ZhR (ρ:=ρ) (m:=m1) (va:=c.args.map act.eval) (xs:=args.map σ1.o) f1 hsz f2 f3 (fun j u y hu hy=>by
  rw[Array.getElem?_map]at hu;obtain⟨x,k1,rfl⟩:=ZxP.1 hu;obtain⟨y',k2,k3⟩:=q2 j x (by simpa using k1);rw[ZxM,k2]at hy;cases hy;exact hF.opd k3) f4
 unfold Oper.wpIn;refine⟨fun _ _=>trivial,?_⟩;rw[Oper.semAt_eq _ _ _ (fun c' e=>by rw[ho]at e;cases e),callop ho hc hv hC.1,Oper.uponIn_enter];refine⟨FF.one,Zf4 ?_⟩;refine(hC.2 w m1 ρc _ hBx ⟨hF.mem,hF.glob,Zcd hB⟩ (by rw[ZbN];exact b1) (fun j u y hu hy=>by
  rw[ZbO]at hy;obtain⟨a,k1,rfl⟩:=ZxP.1 hy;exact(b2 j u a hu k1).map hin (ZaK hall k1))).mono ?_
 intro e w' h;obtain⟨v,r,B',ρ',m',rfl,hK,k1,k2,_⟩:=hout (fun r B'=>K (r.map (outG lent d)) (((dropL lent σ1).Zu0 d).Zvd (renL lent d B'))) e w' h;exact⟨v,_,_,ρ',m',rfl,hK,k1,k2⟩
end
end
section
def Zck (P:Program)(i:Nat)(azz:List AV)(B:List (Site×Box))(Post:AV→List (Site×Box)→Prop):Prop:=
 ∀(w:World) (m:Mem) (ρ:Site→Loc) (vs:Array Value),Bxs ρ m w B→(Le m w.mem∧Glob m w∧(B.map (·.1)).Nodup)→vs.size=azz.length→(∀(j:Nat) (d:Value) (c:AV),vs[j]?=some d→azz[j]?=some c→RdA ρ m d c)→
  ∃r,w.heap[(ρ (.par i)).b]?=some (.loop r)∧vs.size=r.params.size∧RoundIn (FF none) 0 P (ρ (.par i)).b r.fn ((r.params.zip vs).foldl (fun tmps (t,a)=>tmps.setIfInBounds t a) r.tmps) r.assign r.body w (CPost w m ρ B Post)
def Zc0 (P:Program)(f:Opd)(args:List Opd)(K:AV→AS→Prop)(σ:AS):Prop:=
 ∃(d:Nat) (fz lent:List Site) (s:Site) (i:Nat) (B:List (Site×Box)),(frzsL fz σ).o f=.yld s∧lent[i]?=some s∧lent.Nodup∧lent.all (fun s=>!s.Zu1 d)=true∧Zas (frzsL fz σ) lent 0 lent=some B∧
  AV.Zu4 (fun x=>lent.contains x) (args.map (frzsL fz σ).o)=true∧
  Zck P i (AV.Zu9 (inG lent) (args.map (frzsL fz σ).o)) B (fun r B'=>r.Zu3 (outOk lent)=true∧(∀p∈B',outOk lent p.1=true∧p.2.Zu3 (outOk lent)=true)∧
   K (r.map (outG lent d)) (((dropL lent (frzsL fz σ)).Zu0 d).Zvd (renL lent d B')))
theorem ZsE {ro:Option Nat}{n:Nat}{P:Program}{l:Nat}{f:FuncId}{tmps:Array Value}{a b:Code}{w:World}{R:Ending→World→Prop}(h:RoundIn (FF none) n P l f tmps a b w R):RoundIn (FF ro) n P l f tmps a b w R:=h
section
variable {P:Program}{N:Nat}{w0:World}{m0:Env w0}{pl:List Nat}{σ:AS}{ρ:Site→Loc}{m:Mem}{act:Act}{w:World}{o:Oper}{d:Nat}{K:AV→AS→Prop}
theorem ZrZ {v:Value}{s:Site}(h:RdA ρ m v (.yld s)):v=.func (.yield (ρ s).b) #[] #[]:=by cases h;rfl
theorem yieldop {c:Call}{fo:Operand}(ho:o.op=.call c)(hc:c.callee=.value fo){l:Nat}(hv:act.eval fo=.func (.yield l) #[] #[]){r:Loop}(hr:w.heap[l]?=some (.loop r))(hs:(c.args.map act.eval).size=r.params.size):
  (execOp act.eval o).run P w=.ok (.round l r.fn ((r.params.zip (c.args.map act.eval)).foldl (fun tmps (t,a)=>tmps.setIfInBounds t a) r.tmps) r.assign r.body) w:=by
 have:=run_yield (P:=P) hr hs
 unfold execOp;simp only[ho];simp[resolve,hc,hv,Deferred.ofValue,invoke,this]
theorem ZqT {ro:Option Nat}{f:Opd}{args:List Opd}(hl:litOp P o.op=.call f args)(h:Zc0 P f args K σ)(hS:Sat N w0 m0 pl σ ρ m act w){Q:Exit→Act→World→Prop} :
  o.wpIn (FF ro) 1 P act w (fun act' w'=>∃v a τ ρ' m',act'=act.put o.dst v∧K a τ∧Sat N w0 m0 pl τ ρ' m' act w'∧RdA ρ' m' v a) Q:=by
 obtain⟨c,fo,ho,hc,hf,ha⟩:=Zdg hl;obtain⟨d,fz,lent,s,i,B,hfn,hi,hnd,hnl,hB,hall,hC⟩:=h;obtain⟨m1,_,hF⟩:=hS.frzsL fz;generalize frzsL fz σ=σ1 at hfn hB hall hC hF;obtain⟨q1,q2⟩:=ZbK ha;obtain⟨ρc,hin,hBx,hout⟩:=lend hF hnd hnl hB;have hv:act.eval fo=.func (.yield (ρ s).b) #[] #[]:=by
  have:=hF.opd hf
  rw[hfn]at this;exact ZrZ this
 have hpar:ρc (.par i)=ρ s:=by
  have h1:=hin s (by simpa using ZxQ hi);have h2:inG lent s=.par i:=by
   obtain⟨j',k1,k2⟩:=ZfP (ZxQ hi);have e:j'=i:=ZdN hnd k2 hi;unfold inG;rw[k1,e]
  rw[h2]at h1;exact h1
 have hsz:(c.args.map act.eval).size=(args.map σ1.o).length:=by simp;simpa using q1
 have hrd:∀(j:Nat) (u:Value) (y:AV),(c.args.map act.eval)[j]?=some u→(args.map σ1.o)[j]?=some y→RdA ρ m1 u y:=fun j u y hu hy=>by
  rw[Array.getElem?_map]at hu;obtain⟨x,k1,rfl⟩:=ZxP.1 hu;obtain⟨y',k2,k3⟩:=q2 j x (by simpa using k1);rw[ZxM,k2]at hy;cases hy;exact hF.opd k3
 obtain⟨r,hr,hps,hR⟩:=hC w m1 ρc (c.args.map act.eval) hBx ⟨hF.mem,hF.glob,Zcd hB⟩ (by rw[ZbN];exact hsz) (fun j u y hu hy=>by
  rw[ZbO]at hy;obtain⟨a,k1,rfl⟩:=ZxP.1 hy;exact(hrd j u a hu k1).map hin (ZaK hall k1))
 rw[hpar]at hr hR;unfold Oper.wpIn;refine⟨fun _ _=>trivial,?_⟩;rw[Oper.semAt_eq _ _ _ (fun c' e=>by rw[ho]at e;cases e),yieldop ho hc hv hr hps,Oper.uponIn_round];refine⟨FF.one,ZsE (hR.mono ?_)⟩;intro e w' h;obtain⟨v,r,B',ρ',m',rfl,hK,k1,k2,_⟩:=hout (fun r B'=>K (r.map (outG lent d)) (((dropL lent σ1).Zu0 d).Zvd (renL lent d B'))) e w' h;exact⟨v,_,_,ρ',m',rfl,hK,k1,k2⟩
end
end
section
structure LO where
 dst:Option Nat
 g:Option (Nat×Bool)
 op:LOp
 lt:Bool
 deriving Inhabited
def AS.ZvD (d:Option Nat)(a:AV)(σ:AS):AS:=match d with
 |some d=>σ.put d a
 |none=>σ
def runWp (P:Program)(o:LO)(K:AV→AS→Prop)(σ:AS):Prop:=match o.op with
 |.call f args=>Zb8 P f args (o.dst.getD 0) K σ∨(o.lt=true∧(Zc1 P f args K σ∨Zc0 P f args K σ))
 |l=>opWp l (o.dst.getD 0) K σ
def und:AV:=.pv (.tup [])
def loWp (P:Program)(o:LO)(K:AS→Prop)(σ:AS):Prop:=match o.g with
 |none=>runWp P o (fun a τ=>K (τ.ZvD o.dst a)) σ
 |some (t,want)=>match σ.t t with
  |some (.pv (.bool b))=>if b=want then runWp P o (fun a τ=>K (τ.ZvD o.dst a)) σ else K (σ.ZvD o.dst und)
  |some (.pv (.tup []))=>K (σ.ZvD o.dst und)
  |_=>False
def opsWp (P:Program):List LO→(AS→Prop)→AS→Prop
 |[],K,σ=>K σ
 |o::r,K,σ=>loWp P o (opsWp P r K) σ
def fresh0 (ops:Array Oper)(t:Nat):Bool:=ops.any fun o=>(o.dst==some t)&&(match o.op with
 |.buildSlice _ 0 _=>true
 |_=>false)
def fixO (ops:Array Oper)(l:LOp):LOp:=match l with
 |.app e n b (.t k) y=>if fresh0 ops k=true then .app0 e n b (.t k) y else .app e n b (.t k) y
 |.app e n b (.c x) y=>match x with
  |.emp nl=>.app0 e n b (.c (.emp nl)) y
  |x=>.app e n b (.c x) y
 |l=>l
def LOp.ZvQ:LOp→Bool
 |.app0 _ _ _ _ _=>true
 |_=>false
theorem Zd2 {ops:Array Oper}{l:LOp}:(fixO ops l=l∧(∀e n b x y,l=.app e n b x y→True))∨∃e n b x y,l=.app e n b x y∧fixO ops l=.app0 e n b x y:=by
 cases l with
 |app e n b x y=>
  cases x with
  |t k=>
   unfold fixO;dsimp only;split
   ·exact .inr ⟨e,n,b,.t k,y,rfl,rfl⟩
   ·exact .inl ⟨rfl,fun _ _ _ _ _ _=>trivial⟩
  |c x=>
   cases x with
   |emp nl=>exact .inr ⟨e,n,b,_,y,rfl,rfl⟩
   |_=>exact .inl ⟨rfl,fun _ _ _ _ _ _=>trivial⟩
 |_=>exact .inl ⟨rfl,fun _ _ _ _ _ _=>trivial⟩
def dstOk (N:Nat):Option Nat→Bool
 |some d=>decide (d<N)
 |none=>true
def litO (P:Program)(N:Nat)(ops:Array Oper)(lt:Bool)(o:Oper):Option LO:=
 if dstOk N o.dst=true then
  match o.guard with
  |none=>some ⟨o.dst,none,fixO ops (litOp P o.op),lt⟩
  |some (j,want)=>match(ops[j]?).bind (·.dst)with
   |some t=>some ⟨o.dst,some (t,want),fixO ops (litOp P o.op),lt⟩
   |none=>none
 else none
def litOs (P:Program)(N:Nat)(ops:Array Oper):List (Bool×Oper)→Option (List LO)
 |[]=>some []
 |(lt,o)::r=>match litO P N ops lt o,litOs P N ops r with
  |some a,some l=>some (a::l)
  |_,_=>none
def LOp.ZvX:LOp→Bool
 |.call _ _=>true
 |_=>false
def ZaM (P:Program)(o:Oper):Bool:=(litOp P o.op).still
def hardF (P:Program)(f:FuncId):Bool:=match P.funcs[f]? with
 |some fn=>fn.params.toList.any fun t=>match P.underlying t with
  |some (.pointer _)=>true
  |_=>false
 |none=>false
def hardO (P:Program)(ops:Array Oper):LOp→Bool
 |.call (.c (.fn f _ _)) _=>hardF P f
 |.call (.t _) [.t k]=>ops.any fun o=>o.dst==some k&&(match litOp P o.op with
  |.build _ _=>true
  |_=>false)
 |_=>false
def ltOf (P:Program)(ops:Array Oper)(j:Nat):Bool:=(match ops[j]? with
 |some o=>hardO P ops (litOp P o.op)
 |none=>false)||(List.range ops.size).all fun i=>match ops[i]? with
 |some o=>!(litOp P o.op).ZvJ||waits .any ops ops.size j i
 |none=>true
def ZbH (P:Program)(ops:Array Oper)(j:Nat)(o:Oper):Bool:=o.op.mild||((litOp P o.op).ZvX&&!ltOf P ops j)||(fixO ops (litOp P o.op)).ZvQ||(litOp P o.op).still
def ZhG (P:Program)(ops:Array Oper):Nat→Array Bool→List (Nat×Bool)
 |0,_=>[]
 |f+1,listed=>
  match(Region.ready .any ops listed).find? fun i=>match ops[i]? with
    |some o=>ZaM P o
    |none=>false with
  |some i=>(i,false)::ZhG P ops f (listed.setIfInBounds i true)
  |none=>match(Region.ready .any ops listed).find? fun i=>match ops[i]? with
    |some o=>(litOp P o.op).ZvJ&&(List.range ops.size).all fun j=>listed.getD j true||j==i||softO (ZbH P ops) ops j||waits .any ops ops.size j i
    |none=>false with
   |some i=>(i,false)::ZhG P ops f (listed.setIfInBounds i true)
   |none=>match Region.ready .any ops listed with
    |i::_=>(i,true)::ZhG P ops f (listed.setIfInBounds i true)
    |[]=>[]
def ordOk (P:Program)(ops:Array Oper):List (Nat×Bool)→Bool
 |[]=>true
 |(i,false)::r=>(match ops[i]? with
   |some o=>ZaM P o||(litOp P o.op).ZvJ
   |none=>false)&&ordOk P ops r
 |(i,true)::r=>(match ops[i]? with
   |some _=>true
   |none=>false)&&ordOk P ops r
def litR (P:Program)(N:Nat)(ops:Array Oper)(draw:Bool):Option (List LO):=
 if draw=true then
  let l:=ZhG P ops ops.size (Array.replicate ops.size false)
  if Region.noSelect ops&&Zcj ops&&decide (l.length=ops.size)&&seqL .any ops (ZbH P ops) (ZaM P) l (Array.replicate ops.size false)&&ordOk P ops l=true then
   litOs P N ops (l.map fun p=>(ltOf P ops p.1,ops.getD p.1 default))
  else none
 else litOs P N ops (ops.toList.map fun o=>(true,o))
section
variable {P:Program}{N:Nat}{w0:World}{m0:Env w0}{pl:List Nat}{σ:AS}{ρ:Site→Loc}{m:Mem}{act:Act}{w:World}{o:Oper}{lo:LO}{K:AS→Prop}{ops:Array Oper}{Q:Exit→Act→World→Prop}{ro:Option Nat}
theorem Za2 {lt:Bool}(h:litO P N ops lt o=some lo):lo.lt=lt∧lo.dst=o.dst∧lo.op=fixO ops (litOp P o.op)∧(∀d,o.dst=some d→d<N)∧((o.guard=none∧lo.g=none)∨∃j want t,o.guard=some (j,want)∧lo.g=some (t,want)∧(ops[j]?).bind (·.dst)=some t):=by
 unfold litO at h;split at h
 ·rename_i hd;have hd':∀d,o.dst=some d→d<N:=fun d e=>by rw[e]at hd;simpa[dstOk]using hd
  split at h
  ·rename_i hg;cases h;exact⟨rfl,rfl,rfl,hd',.inl ⟨hg,rfl⟩⟩
  ·rename_i j want hg;split at h
   ·rename_i t ht;cases h;exact⟨rfl,rfl,rfl,hd',.inr ⟨j,want,t,hg,rfl,ht⟩⟩
   ·cases h
 ·cases h
theorem Sat.ZvD (h:Sat N w0 m0 pl σ ρ m act w){d:Option Nat}(hd:∀k,d=some k→k<N){v:Value}{a:AV}(hv:RdA ρ m v a):Sat N w0 m0 pl (σ.ZvD d a) ρ m (act.put d v) w:=by
 cases d with
 |none=>exact h
 |some d=>exact h.put (hd d rfl) hv
theorem Zgf {ρ:Site→Loc}{m:Mem}:RdA ρ m undef und:=.pv _ _ (.tup _ _ rfl (fun j d c e1 e2=>by simp at e2))
theorem ZdS {lt:Bool}(hl:litO P N ops lt o=some lo)(h:loWp P lo K σ)(hS:Sat N w0 m0 pl σ ρ m act w):
  (Region.wanted o (yielded ops act.tmps)=true∧runWp P lo (fun a τ=>K (τ.ZvD o.dst a)) σ)∨(Region.wanted o (yielded ops act.tmps)=false∧K (σ.ZvD o.dst und)):=by
 obtain⟨e0,e1,e2,e3,e4⟩:=Za2 hl;unfold loWp at h;rcases e4 with⟨hg,hlg⟩|⟨j,want,t,hg,hlg,ht⟩
 ·rw[hlg]at h;refine .inl ⟨by simp[Region.wanted,hg],?_⟩;rw[←e1];exact h
 ·rw[hlg]at h;simp only at h;split at h
  ·rename_i b hb;obtain⟨v,k1,k2⟩:=hS.tm t _ hb;have hv:=k2.Zvo;subst hv;have hy:yielded ops act.tmps j=some b:=by unfold yielded;rw[ht];simp[k1]
   have hw:Region.wanted o (yielded ops act.tmps)=decide (b=want):=by
    simp only[Region.wanted,hg,hy];cases b<;>cases want<;>rfl
   split at h
   ·rename_i hbw;exact .inl ⟨by rw[hw];simpa using hbw,by rw[←e1];exact h⟩
   ·rename_i hbw;exact .inr ⟨by rw[hw];simpa using hbw,by rw[←e1];exact h⟩
  ·rename_i hb;obtain⟨v,k1,k2⟩:=hS.tm t _ hb;obtain⟨us,hv,hl,_⟩:=k2.ZwB;subst hv;have hy:yielded ops act.tmps j=none:=by unfold yielded;rw[ht];simp[k1]
   exact .inr ⟨by simp only[Region.wanted,hg,hy];rfl,by rw[←e1];exact h⟩
  ·exact h.elim
def Aft (N:Nat)(w0:World)(m0:Env w0)(pl:List Nat)(K:AS→Prop)(act:Act)(w:World):Prop:=∃τ ρ m,K τ∧Sat N w0 m0 pl τ ρ m act w
theorem Zt7 {lt:Bool}(hl:litO P N ops lt o=some lo){K':AV→AS→Prop}(h:runWp P lo K' σ)(hS:Sat N w0 m0 pl σ ρ m act w):
  o.wpIn (FF ro) 1 P act w (fun act' w'=>∃v a τ ρ' m',act'=act.put o.dst v∧K' a τ∧Sat N w0 m0 pl τ ρ' m' act w'∧RdA ρ' m' v a∧(o.op.mild=true∨((litOp P o.op).ZvX=true∧lt=false)∨(fixO ops (litOp P o.op)).ZvQ=true→Ext w w')) Q:=by
 obtain⟨e0,e1,e2,e3,e4⟩:=Za2 hl;unfold runWp at h;rw[e2,e1]at h;have hdf:∀c,o.op≠.defer c:=fun c e=>by
  rw[e]at h;exact h.elim
 rcases Zd2 (ops:=ops) (l:=litOp P o.op)with⟨hfx,_⟩|⟨e,n,b,x,y,hap,hfx⟩
 ·rw[hfx]at h ⊢;split at h
  ·rename_i f args hc;have hmild:o.op.mild=false:=by
    obtain⟨c,fo,ho,_⟩:=Zdg hc;rw[ho];rfl
   have hn0:(litOp P o.op).ZvQ=false:=by rw[hc];rfl
   rcases h with h|⟨hlt,h⟩
   ·exact Oper.wpIn_mono (fun act' w' ⟨v,a,τ,ρ',m',k1,k2,k3,k4,k5⟩=>⟨v,a,τ,ρ',m',k1,k2,k3,k4,fun _=>k5⟩) (ZtC hc h hS)
   ·refine Oper.wpIn_mono (fun act' w' ⟨v,a,τ,ρ',m',k1,k2,k3,k4⟩=>⟨v,a,τ,ρ',m',k1,k2,k3,k4,fun h=>?_⟩) (h.elim (fun h=>ZqU hc h hS) (fun h=>ZqT hc h hS));rcases h with h|⟨_,h⟩|h
    ·rw[hmild]at h;cases h
    ·rw[e0]at hlt;rw[hlt]at h;cases h
    ·rw[hc]at hn0 h;rw[hn0]at h;cases h
  ·rename_i hc;have hni:(litOp P o.op).ZvX=false:=by
    cases hx:litOp P o.op<;>first|rfl|(exact absurd hx (hc _ _))
   have hn0:(litOp P o.op).ZvQ=false:=by
    cases hx:litOp P o.op<;>first|rfl|(exfalso;replace hx:=ZlW hx (fun _ e=>by cases e);clear h hS hl e2 hc hni hfx;cases hop:o.op<;>rw[hop]at hx<;>(try rename_i op t x;try cases op)<;>(try rename_i fn fs cs;try cases fn)<;>simp only[Zay,nilK]at hx<;>repeat' (first|(cases hx;done)|split at hx))
   obtain⟨v,w',a,τ,ρ',m',k1,k2,k3,k4,k5⟩:=ZpN (fun f l e=>hc f l e) h hS;have hext:o.op.mild=true∨((litOp P o.op).ZvX=true∧lt=false)∨(litOp P o.op).ZvQ=true→Ext w w':=fun h=>by
    rcases h with h|⟨h,_⟩|h
    ·exact k5 h
    ·rw[hni]at h;cases h
    ·rw[hn0]at h;cases h
   unfold Oper.wpIn;refine⟨fun _ _=>trivial,?_⟩;rw[Oper.semAt_eq _ _ _ hdf];rcases k1 with k1|⟨k1,rfl⟩
   ·rw[k1,Oper.uponIn_value];exact⟨v,a,τ,ρ',m',rfl,k2,k3,k4,hext⟩
   ·rw[k1,Oper.uponIn_skip];exact⟨undef,a,τ,ρ',m',rfl,k2,k3,k4,hext⟩
 ·rw[hfx]at h ⊢;have hE:(∃nl,σ.o x=.pv (.emp nl))∧opWp (litOp P o.op) (o.dst.getD 0) K' σ:=by
   rw[hap];simp only[opWp]at h ⊢;split at h
   ·split at h
    ·rename_i nl ex;exact⟨⟨nl,ex⟩,by rw[ex];exact h⟩
    ·exact h.elim
   ·exact h.elim
  obtain⟨v,w',a,τ,ρ',m',k1,k2,k3,k4,k5⟩:=ZsS hap hE.2 hS;unfold Oper.wpIn;refine⟨fun _ _=>trivial,?_⟩;rw[Oper.semAt_eq _ _ _ hdf];rcases k1 with k1|⟨k1,rfl⟩
  ·rw[k1,Oper.uponIn_value];exact⟨v,a,τ,ρ',m',rfl,k2,k3,k4,fun _=>k5 hE.1⟩
  ·rw[k1,Oper.uponIn_skip];exact⟨undef,a,τ,ρ',m',rfl,k2,k3,k4,fun _=>k5 hE.1⟩
theorem Zg8 {lt:Bool}(hl:litO P N ops lt o=some lo)(h:runWp P lo (fun a τ=>K (τ.ZvD o.dst a)) σ)(hS:Sat N w0 m0 pl σ ρ m act w):
  o.wpIn (FF ro) 1 P act w (fun act' w'=>Aft N w0 m0 pl K act' w'∧(o.op.mild=true∨((litOp P o.op).ZvX=true∧lt=false)∨(fixO ops (litOp P o.op)).ZvQ=true→Ext w w')) Q:=by
 refine Oper.wpIn_mono (fun act' w' ⟨v,a,τ,ρ',m',k1,k2,k3,k4,k5⟩=>?_) (Zt7 hl h hS);subst k1;exact⟨⟨_,ρ',m',k2,k3.ZvD (Za2 hl).2.2.2.1 k4⟩,k5⟩
theorem ZfC {rest:List Oper}{lt:Bool}(hl:litO P N ops lt o=some lo)(h:loWp P lo K σ)(hS:Sat N w0 m0 pl σ ρ m act w)(hr:∀act' w',Aft N w0 m0 pl K act' w'→wpListIn (FF ro) 1 P ops Q rest act' w'):wpListIn (FF ro) 1 P ops Q (o::rest) act w:=by
 unfold wpListIn;rcases ZdS hl h hS with⟨h1,h2⟩|⟨h1,h2⟩
 ·rw[if_pos h1];exact Oper.wpIn_mono (fun act' w' k=>hr act' w' k.1) (Zg8 hl h2 hS)
 ·rw[if_neg (by rw[h1];simp)];exact⟨fun _ _=>trivial,hr _ _ ⟨_,ρ,m,h2,hS.ZvD (Za2 hl).2.2.2.1 Zgf⟩⟩
theorem Zgn:∀(l:List Oper) (los:List LO) {σ:AS} {ρ:Site→Loc} {m:Mem} {act:Act} {w:World},litOs P N ops (l.map fun o=>(true,o))=some los→opsWp P los K σ→Sat N w0 m0 pl σ ρ m act w→(∀act' w',Aft N w0 m0 pl K act' w'→Q .normal act' w')→wpListIn (FF ro) 1 P ops Q l act w
 |[],los,σ,ρ,m,act,w,hl,h,hS,hQ=>by
  simp[litOs]at hl;subst hl;exact hQ _ _ ⟨σ,ρ,m,h,hS⟩
 |o::r,los,σ,ρ,m,act,w,hl,h,hS,hQ=>by
  rw[ZxZ]at hl;unfold litOs at hl;split at hl
  ·rename_i a l h1 h2;cases hl;exact ZfC h1 h hS (fun act' w' ⟨τ,ρ',m',k1,k2⟩=>Zgn r l h2 k1 k2 hQ)
  ·cases hl
theorem Zbj {G:World→Prop}{lt:Bool}(hl:litO P N ops lt o=some lo)(h:loWp P lo K σ)(hS:Sat N w0 m0 pl σ ρ m act w)(hk:(litOp P o.op).still=true∨(litOp P o.op).ZvJ=true∧∀w',G w'→Stay σ ρ m w w'):
  ∃v,YieldsIf P ops G o v act∧Aft N w0 m0 pl K (act.put o.dst v) w∧∃τ,K τ∧τ.bx=σ.bx∧Sat N w0 m0 pl τ ρ m (act.put o.dst v) w:=by
 obtain⟨e0,e1,e2,e3,e4⟩:=Za2 hl;have putbx:∀a,(σ.ZvD o.dst a).bx=σ.bx:=fun a=>by cases o.dst<;>rfl
 rcases ZdS hl h hS with⟨h1,h2⟩|⟨h1,h2⟩
 ·unfold runWp at h2;have hfx:fixO ops (litOp P o.op)=litOp P o.op:=by
   rcases Zd2 (ops:=ops) (l:=litOp P o.op)with⟨hfx,_⟩|⟨e,n,b,x,y,hap,_⟩
   ·exact hfx
   ·rw[hap]at hk;rcases hk with hk|⟨hk,_⟩<;>cases hk
  rw[e2,e1,hfx]at h2;have hop:opWp (litOp P o.op) (o.dst.getD 0) (fun a τ=>τ=σ∧K (τ.ZvD o.dst a)) σ∨True:=.inr trivial;split at h2
  ·rename_i f args hc;rw[hc]at hk;rcases hk with hk|⟨hk,_⟩<;>cases hk
  ·have hP:∃G':World→Prop,(∀w',G w'→G' w')∧ResP G' P σ ρ m o act w (fun a τ=>K (τ.ZvD o.dst a)):=by
    rcases hk with hk|⟨hk,hG⟩
    ·exact⟨G,fun _ h=>h,ZpM hk h2 hS⟩
    ·refine⟨Stay σ ρ m w,hG,ZsR hk h2 hS⟩
   obtain⟨G',g1,v,a,g2,g3,g4⟩:=hP;exact⟨v,.inl ⟨h1,fun w' hw'=>g2 w' (g1 w' hw')⟩,⟨_,ρ,m,g4,hS.ZvD e3 g3⟩,_,g4,putbx a,hS.ZvD e3 g3⟩
 ·exact⟨undef,.inr ⟨h1,rfl⟩,⟨_,ρ,m,h2,hS.ZvD e3 Zgf⟩,_,h2,putbx _,hS.ZvD e3 Zgf⟩
theorem Stay.Zv2 {w w' w'':World}(hS:Sat N w0 m0 pl σ ρ m act w)(h:Stay σ ρ m w w')(k:Ext w' w''):Stay σ ρ m w w'':=
 ⟨h.1.trans k.le,fun s b hs hr=>by
  have h1:=h.2 s b hs hr;have hlt:=hS.lt hs hr;refine(k.block _ ?_).trans h1;rcases Nat.lt_or_ge (ρ s).b w'.heap.size with h2|h2
  ·exact h2
  ·rw[Array.getElem?_eq_none h2,Zys hlt]at h1;cases h1⟩
theorem Zcs (hndf:Zcj ops=true):∀(l:List (Nat×Bool)) (los:List LO) {σ:AS} {ρ:Site→Loc} {m:Mem} {act:Act} {w:World},ordOk P ops l=true→litOs P N ops (l.map fun p=>(ltOf P ops p.1,ops.getD p.1 default))=some los→
  opsWp P los K σ→Sat N w0 m0 pl σ ρ m act w→(∀act' w',Aft N w0 m0 pl K act' w'→Q .normal act' w')→Zge ro P ops Q (ZbH P ops) (ZaM P) l act w
 |[],los,σ,ρ,m,act,w,hk,hl,h,hS,hQ=>by
  simp[litOs]at hl;subst hl;exact hQ _ _ ⟨σ,ρ,m,h,hS⟩
 |(i,b)::r,los,σ,ρ,m,act,w,hk,hl,h,hS,hQ=>by
  simp only[ZxZ]at hl;unfold litOs at hl;split at hl
  ·rename_i a l h1 h2;cases hl;cases b with
   |false=>
    simp only[ordOk,ZxO]at hk;cases ho:ops[i]? with
    |none=>rw[ho]at hk;simp at hk
    |some o=>
     rw[ho]at hk;have hg:ops.getD i default=o:=by simp[Array.getD_eq_getD_getElem?,ho]
     rw[hg]at h1;have hk1:=hk.1;simp only[Zyk]at hk1;cases hst:ZaM P o with
     |true=>
      obtain⟨v,k1,⟨τ,ρ',m',k2,k3⟩,_⟩:=Zbj (G:=fun _=>True) h1 h hS (.inl hst);exact⟨o,v,fun _=>True,fun _ _ _ _=>trivial,fun _ _=>trivial,trivial,ho,k1,Zcs hndf r l hk.2 h2 k2 k3 hQ⟩
     |false=>
      have hld:(litOp P o.op).ZvJ=true:=by
       rcases hk1 with hk1|hk1
       ·rw[hst]at hk1;cases hk1
       ·exact hk1
      obtain⟨v,k1,⟨τ,ρ',m',k2,k3⟩,_⟩:=Zbj (G:=Stay σ ρ m w) h1 h hS (.inr ⟨hld,fun _ h=>h⟩);exact⟨o,v,Stay σ ρ m w,fun _ _ hs hx=>Stay.Zv2 hS hs hx,(fun e=>by rw[hst]at e;cases e),.refl hS,ho,k1,Zcs hndf r l hk.2 h2 k2 k3 hQ⟩
   |true=>
    simp only[ordOk,ZxO]at hk;cases ho:ops[i]? with
    |none=>rw[ho]at hk;simp at hk
    |some o=>
     have hg:ops.getD i default=o:=by simp[Array.getD_eq_getD_getElem?,ho]
     rw[hg]at h1;show wpOpIn (FF ro) 1 P ops Q i _ act w;unfold wpOpIn;simp only[ho];rcases ZdS h1 h hS with⟨q1,q2⟩|⟨q1,q2⟩
     ·rw[if_pos q1];cases hst:ZaM P o with
      |true=>
       obtain⟨v,k1,⟨τ,ρ',m',k2,k3⟩,_⟩:=Zbj (G:=fun _=>True) h1 h hS (.inl hst);rcases k1 with⟨_,k1⟩|⟨k1,_⟩
       ·unfold Oper.wpIn;refine⟨fun _ _=>trivial,?_⟩;rw[Oper.semAt_eq _ _ _ (Zbh hndf ho),k1 w trivial,Oper.uponIn_value];exact⟨fun _=>Ext.ZvU _,Zcs hndf r l hk.2 h2 k2 k3 hQ⟩
       ·rw[k1]at q1;cases q1
      |false=>
       have hsoft:softO (ZbH P ops) ops i=true→o.op.mild=true∨((litOp P o.op).ZvX=true∧ltOf P ops i=false)∨(fixO ops (litOp P o.op)).ZvQ=true:=fun hsf=>by
        unfold softO at hsf;rw[ho]at hsf;unfold ZbH at hsf;unfold ZaM at hst;simp only[hst,Bool.or_false,Zyk]at hsf;rcases hsf with(h'|h')|h'
        ·exact .inl h'
        ·simp only[ZxO,Bool.not_eq_true']at h';exact .inr (.inl h')
        ·exact .inr (.inr h')
       exact Oper.wpIn_mono (fun act' w' ⟨⟨τ,ρ',m',k2,k3⟩,k4⟩=>⟨fun hsf=>k4 (hsoft hsf),Zcs hndf r l hk.2 h2 k2 k3 hQ⟩) (Zg8 h1 q2 hS)
     ·rw[if_neg (by rw[q1];simp)];exact⟨fun _ _=>trivial,fun _=>Ext.ZvU _,Zcs hndf r l hk.2 h2 q2 (hS.ZvD (Za2 h1).2.2.2.1 Zgf) hQ⟩
  ·cases hl
theorem Zm6 {id:Nat}{draw:Bool}{los:List LO}(hm:P.follows .mixedOrders=true)(hl:litR P N ops draw=some los)(h:opsWp P los K σ)(hS:Sat N w0 m0 pl σ ρ m act w)(hQ:∀act' w',Aft N w0 m0 pl K act' w'→Q .normal act' w')
  (hp:∀c (a:Act) (d:Tmp) (v:Value) w,Q (.panic c) (a.put (some d) v) w→Q (.panic c) a w):(Code.region id ops draw).wpIn (FF ro) 1 P Q act w:=by
 unfold litR at hl;split at hl
 ·rename_i hd;subst hd;dsimp only at hl;split at hl
  ·rename_i hc;simp only[ZxO,decide_eq_true_eq]at hc;obtain⟨⟨⟨⟨c1,c1'⟩,c2⟩,c3⟩,c4⟩:=hc;have hS':Sat N w0 m0 pl σ ρ m act w.drew:=hS.ext (Ext.dr w);exact Zdm _ _ _ hm hp c1 c1' c2 c3 (Zcs c1' _ los c4 hl h hS' hQ)
  ·cases hl
 ·rename_i hd
  have:draw=false:=by simpa using hd
  subst this;exact wpIn_region_list (Zgn _ los hl h hS hQ)
end
end
section
inductive RT where
 |done
 |rd (i:Nat) (t:RT)
 |ef (i:Nat) (t alt:RT)
 |no
 |seq (t r:RT)
 deriving Inhabited
def RT.flat:RT→RT→RT
 |.done,r=>r
 |.rd i t,r=>.rd i (t.flat r)
 |.ef i t alt,r=>.ef i (t.flat r) (alt.flat r)
 |.no,_=>.no
 |.seq t u,r=>t.flat (u.flat r)
def wpT (ro:Option Nat)(P:Program)(ops:Array Oper)(Q:Exit→Act→World→Prop)(soft:Nat→Oper→Bool)(still:Oper→Bool):RT→Act→World→Prop
 |.done,a,w=>Q .normal a w
 |.rd i t,a,w=>∃o v,∃S':World→Prop,(∀w w',S' w→Ext w w'→S' w')∧(still o=true→∀w,S' w)∧S' w∧ops[i]?=some o∧YieldsIf P ops S' o v a∧wpT ro P ops Q soft still t (a.put o.dst v) w
 |.ef i t alt,a,w=>wpOpIn (FF ro) 1 P ops Q i (fun a' w'=>(softO soft ops i=true→Ext w w')∧wpT ro P ops Q soft still t a' w') a w∧wpT ro P ops Q soft still alt a w
 |.no,_,_=>True
 |.seq _ _,_,_=>False
def seqT (md:Region.Mode)(ops:Array Oper)(soft:Nat→Oper→Bool)(still:Oper→Bool):RT→Nat→Array Bool→Option (List Nat)→Bool
 |.done,_,listed,none=>(Region.ready md ops listed).isEmpty
 |.rd i t,n+1,listed,none=>(Region.ready md ops listed).contains i&&Region.free md ops listed i&&
   ((match ops[i]? with|some o=>still o|none=>false)||(List.range ops.size).all fun j=>listed.getD j true||j==i||softO soft ops j||waits md ops ops.size j i)&&seqT md ops soft still t n (listed.setIfInBounds i true) none
 |.ef i t alt,n+1,listed,rem=>match rem.getD (Region.ready md ops listed)with
  |j::r=>j==i&&seqT md ops soft still t n (listed.setIfInBounds i true) none&&seqT md ops soft still alt (n+1) listed (some r)
  |[]=>false
 |.no,_,_,some []=>true
 |_,_,_,_=>false
section
variable {P:Program}{ops:Array Oper}{Q:Exit→Act→World→Prop}{md:Region.Mode}{ro:Option Nat}{soft:Nat→Oper→Bool}{still:Oper→Bool}
theorem Zf9 (hs:Region.noSelect ops=true)(hdf:Zcj ops=true)(hQ:∀c (a:Act) (d:Tmp) (v:Value) w,Q (.panic c) (a.put (some d) v) w→Q (.panic c) a w):∀(T:RT) (n:Nat) (listed:Array Bool) (rem:Option (List Nat)) (a:Act) (w:World),listed.size=ops.size→Down md ops listed→
  (∀r,rem=some r→∀i∈r,i∈Region.ready md ops listed)→seqT md ops soft still T n listed rem=true→wpT ro P ops Q soft still T a w→
  match rem with
  |none=>ZdD ro P md ops Q soft n listed a w
  |some r=>∃n',(r=[]∨n=n'+1)∧∀i∈r,wpOpIn (FF ro) 1 P ops Q i (fun a' w'=>(softO soft ops i=true→Ext w w')∧ZdD ro P md ops Q soft n' (listed.setIfInBounds i true) a' w') a w:=by
 intro T;induction T with
 |done=>
  intro n listed rem a w hsz hD hrem hB h;cases rem with
  |some r=>simp[seqT]at hB
  |none=>
   have hr:Region.ready md ops listed=[]:=by simpa[seqT]using hB
   cases n with
   |zero=>exact⟨hr,h⟩
   |succ n=>exact⟨fun _=>h,fun i hi=>by rw[hr]at hi;cases hi⟩
 |rd i t ih=>
  intro n listed rem a w hsz hD hrem hB h;cases rem with
  |some r=>cases n<;>simp[seqT]at hB
  |none=>
   cases n with
   |zero=>simp[seqT]at hB
   |succ n=>
    simp only[seqT,ZxO]at hB;obtain⟨o,v,S',hx,hst,hSw,ho,hy,h'⟩:=h;have hr:i∈Region.ready md ops listed:=by simpa using hB.1.1.1
    have hB2:=hB.1.2;rw[ho]at hB2;simp only[Zyk]at hB2;exact ZeD hx ho (Region.noSelect_spec hs) hdf (fun c a w k=>by
     cases hd:o.dst with
     |none=>rw[hd]at k;exact k
     |some d=>rw[hd]at k;exact hQ c a d v w k) n listed a w hD (by
     rcases hB2 with h1|h1
     ·exact .inl (hst h1)
     ·refine .inr (fun j hj hji hsj=>?_);have hlt:j<ops.size:=by
       rcases Nat.lt_or_ge j listed.size with h2|h2
       ·omega
       ·simp[Array.getElem?_eq_none h2]at hj
      have:=Zx7.1 h1 j (List.mem_range.2 hlt)
      simp only[Zyk,beq_iff_eq]at this;rcases this with((h3|h3)|h3)|h3
      ·rw[hj]at h3;cases h3
      ·exact absurd h3 hji
      ·rw[hsj]at h3;cases h3
      ·exact h3) (Region.free_spec ho hB.1.1.2) hr hy hSw (ih n _ none _ _ (by simpa using hsz) (hD.set hr) (fun r e=>by cases e) hB.2 h')
 |ef i t alt iht iha=>
  intro n listed rem a w hsz hD hrem hB h;cases n with
  |zero=>cases rem<;>simp[seqT]at hB
  |succ n=>
   simp only[seqT]at hB;split at hB
   ·rename_i j r hj;simp only[ZxO,beq_iff_eq]at hB;obtain⟨⟨rfl,hB1⟩,hB2⟩:=hB;have hall:∀k∈j::r,k∈Region.ready md ops listed:=by
     cases rem with
     |none=>rw[show Option.getD none (Region.ready md ops listed)=Region.ready md ops listed from rfl]at hj;rw[hj];exact fun k hk=>hk
     |some r'=>rw[show Option.getD (some r') (Region.ready md ops listed)=r' from rfl]at hj;rw[←hj];exact hrem r' rfl
    have hr:j∈Region.ready md ops listed:=hall j (by simp);obtain⟨n',h1,h2⟩:=iha (n+1) listed (some r) a w hsz hD (fun r' e k hk=>by cases e;exact hall k (by simp[hk])) hB2 h.2;have hone:wpOpIn (FF ro) 1 P ops Q j (fun a' w'=>(softO soft ops j=true→Ext w w')∧ZdD ro P md ops Q soft n (listed.setIfInBounds j true) a' w') a w:=
     wpOpIn_mono (fun a' w' k=>⟨k.1,iht n _ none _ _ (by simpa using hsz) (hD.set hr) (fun r e=>by cases e) hB1 k.2⟩) h.1
    have hmany:∀k∈j::r,wpOpIn (FF ro) 1 P ops Q k (fun a' w'=>(softO soft ops k=true→Ext w w')∧ZdD ro P md ops Q soft n (listed.setIfInBounds k true) a' w') a w:=fun k hk=>by
     rcases Zx2.1 hk with rfl|hk
     ·exact hone
     ·rcases h1 with h1|h1
      ·rw[h1]at hk;cases hk
      ·have:n'=n:=by omega
       rw[←this];exact h2 k hk
    cases rem with
    |none=>
     rw[show Option.getD none (Region.ready md ops listed)=Region.ready md ops listed from rfl]at hj;exact⟨fun e=>(by rw[hj]at e;cases e),fun k hk=>hmany k (by rw[←hj];exact hk)⟩
    |some r'=>
     rw[show Option.getD (some r') (Region.ready md ops listed)=r' from rfl]at hj;subst hj;exact⟨n,.inr rfl,hmany⟩
   ·cases hB
 |no=>
  intro n listed rem a w hsz hD hrem hB h;cases rem with
  |none=>cases n<;>simp[seqT]at hB
  |some r=>
   cases r with
   |nil=>exact⟨0,.inl rfl,fun i hi=>by cases hi⟩
   |cons x r=>cases n<;>simp[seqT]at hB
 |seq t r _ _=>intro n listed rem a w hsz hD hrem hB h;exact h.elim
inductive LT where
 |done
 |op (o:LO) (t:LT)
 |alt (o:LO) (t r:LT)
 |no
 |seq (t r:LT)
 deriving Inhabited
def SubS (τ σ:AS):Prop:=(∀t a,τ.t t=some a→σ.t t=some a)∧∀s b,τ.b s=some b→σ.b s=some b
def Sub (τ σ:AS):Prop:=∀(N:Nat) (w0:World) (m0:Env w0) (pl:List Nat) (ρ:Site→Loc) (m:Mem) (act:Act) (w:World),Sat N w0 m0 pl σ ρ m act w→∃ρ' m',Sat N w0 m0 pl τ ρ' m' act w
theorem SubS.sub {τ σ:AS}(h:SubS τ σ):Sub τ σ:=fun _ _ _ _ ρ m _ _ hS=>⟨ρ,m,hS.ZxE (fun t a k=>.inl (h.1 t a k)) h.2⟩
theorem Sub.Zxz (σ:AS):Sub σ σ:=fun _ _ _ _ ρ m _ _ hS=>⟨ρ,m,hS⟩
theorem Sub.trans' {a b c:AS}(h:Sub a b)(k:Sub b c):Sub a c:=fun N w0 m0 pl ρ m act w hS=>let ⟨ρ',m',h1⟩:=k N w0 m0 pl ρ m act w hS;h N w0 m0 pl ρ' m' act w h1
def opsT (P:Program):LT→(AS→Prop)→AS→Prop
 |.done,K,σ=>K σ
 |.op o t,K,σ=>loWp P o (opsT P t K) σ
 |.alt o t r,K,σ=>loWp P o (opsT P t K) σ∧opsT P r K σ
 |.no,_,_=>True
 |.seq t r,K,σ=>∃J:AS→Prop,opsT P t (fun τ'=>∃τ,Sub τ τ'∧J τ) σ∧∀τ,J τ→opsT P r K τ
def litT (P:Program)(N:Nat)(ops:Array Oper):RT→Option LT
 |.done=>some .done
 |.rd i t=>match ops[i]?,litT P N ops t with
  |some o,some t'=>if(ZaM P o||(litOp P o.op).ZvJ)=true then(litO P N ops (ltOf P ops i) o).map (.op · t')else none
  |_,_=>none
 |.ef i t alt=>match ops[i]?,litT P N ops t,litT P N ops alt with
  |some o,some t',some r'=>(litO P N ops (ltOf P ops i) o).map (.alt · t' r')
  |_,_,_=>none
 |.no=>some .no
 |.seq t r=>match litT P N ops t,litT P N ops r with
  |some t',some r'=>some (.seq t' r')
  |_,_=>none
def hoist (P:Program)(ops:Array Oper)(listed:Array Bool):Option Nat:=
 match(Region.ready .any ops listed).find? fun i=>match ops[i]? with
   |some o=>ZaM P o
   |none=>false with
 |some i=>some i
 |none=>(Region.ready .any ops listed).find? fun i=>match ops[i]? with
   |some o=>(litOp P o.op).ZvJ&&(List.range ops.size).all fun j=>listed.getD j true||j==i||softO (ZbH P ops) ops j||waits .any ops ops.size j i
   |none=>false
def ZmF (P:Program)(ops:Array Oper):Nat→Array Bool→List Nat→RT
 |0,_,_=>.done
 |f+1,listed,S=>if S.all (fun i=>listed.getD i true)then .done else match hoist P ops listed with
  |some i=>.rd i (ZmF P ops f (listed.setIfInBounds i true) S)
  |none=>(Region.ready .any ops listed).foldr (fun i alt=>.ef i (ZmF P ops f (listed.setIfInBounds i true) S) alt) .no
def barrier (ops:Array Oper)(listed:Array Bool):List Nat:=
 let un:=(List.range ops.size).filter fun i=>!listed.getD i true
 match un.find? fun b=>un.any (fun i=>waits .any ops ops.size b i)&&un.all fun i=>i==b||waits .any ops ops.size b i||waits .any ops ops.size i b with
 |some b=>un.filter fun i=>waits .any ops ops.size b i
 |none=>un
def findT (P:Program)(ops:Array Oper):Nat→Array Bool→RT
 |0,_=>.done
 |f+1,listed=>match hoist P ops listed with
  |some i=>.rd i (findT P ops f (listed.setIfInBounds i true))
  |none=>match Region.ready .any ops listed with
   |[]=>.done
   |[i]=>.ef i (findT P ops f (listed.setIfInBounds i true)) .no
   |_=>
    let S:=barrier ops listed
    .seq (ZmF P ops ops.size listed S) (findT P ops f (S.foldl (fun l i=>l.setIfInBounds i true) listed))
def litRT (P:Program)(N:Nat)(ops:Array Oper):Option LT:=
 let T:=findT P ops (ops.size+1) (Array.replicate ops.size false)
 if(Region.noSelect ops&&Zcj ops&&seqT .any ops (ZbH P ops) (ZaM P) (T.flat .done) ops.size (Array.replicate ops.size false) none)=true then litT P N ops T else none
end
section
variable {P:Program}{N:Nat}{w0:World}{m0:Env w0}{pl:List Nat}{σ:AS}{ρ:Site→Loc}{m:Mem}{act:Act}{w:World}{ops:Array Oper}{Q:Exit→Act→World→Prop}{ro:Option Nat}
theorem Za7 (hndf:Zcj ops=true):∀(T:RT) (T':LT) (rest:RT) {J:AS→Prop} {σ:AS} {ρ:Site→Loc} {m:Mem} {act:Act} {w:World},litT P N ops T=some T'→opsT P T' J σ→Sat N w0 m0 pl σ ρ m act w→
  (∀act' w',Aft N w0 m0 pl J act' w'→wpT ro P ops Q (ZbH P ops) (ZaM P) rest act' w')→wpT ro P ops Q (ZbH P ops) (ZaM P) (T.flat rest) act w
 |.done,T',rest,J,σ,ρ,m,act,w,hl,h,hS,hQ=>by
  simp[litT]at hl;subst hl;exact hQ _ _ ⟨σ,ρ,m,h,hS⟩
 |.no,T',rest,J,σ,ρ,m,act,w,hl,h,hS,hQ=>trivial
 |.seq t u,T',rest,J,σ,ρ,m,act,w,hl,h,hS,hQ=>by
  simp only[litT]at hl;split at hl
  ·rename_i t' r' h1 h2;cases hl;obtain⟨J',h3,h4⟩:=h;exact Za7 hndf t t' (u.flat rest) h1 h3 hS (fun act' w' ⟨τ,ρ',m',⟨τ2,k0,k1⟩,k2⟩=>let ⟨ρ2,m2,k3⟩:=k0 _ _ _ _ _ _ _ _ k2;Za7 hndf u r' rest h2 (h4 τ2 k1) k3 hQ)
  ·cases hl
 |.rd i t,T',rest,J,σ,ρ,m,act,w,hl,h,hS,hQ=>by
  simp only[litT]at hl;split at hl
  ·rename_i o t' ho h2;split at hl
   ·rename_i hk1;obtain⟨lo,h1,rfl⟩:=ZxP.1 hl;simp only[Zyk]at hk1;cases hst:ZaM P o with
    |true=>
     obtain⟨v,k1,⟨τ,ρ',m',k2,k3⟩,_⟩:=Zbj (G:=fun _=>True) h1 h hS (.inl hst);exact⟨o,v,fun _=>True,fun _ _ _ _=>trivial,fun _ _=>trivial,trivial,ho,k1,Za7 hndf t t' rest h2 k2 k3 hQ⟩
    |false=>
     have hld:(litOp P o.op).ZvJ=true:=by
      rcases hk1 with hk1|hk1
      ·rw[hst]at hk1;cases hk1
      ·exact hk1
     obtain⟨v,k1,⟨τ,ρ',m',k2,k3⟩,_⟩:=Zbj (G:=Stay σ ρ m w) h1 h hS (.inr ⟨hld,fun _ h=>h⟩);exact⟨o,v,Stay σ ρ m w,fun _ _ hs hx=>Stay.Zv2 hS hs hx,(fun e=>by rw[hst]at e;cases e),.refl hS,ho,k1,Za7 hndf t t' rest h2 k2 k3 hQ⟩
   ·cases hl
  ·cases hl
 |.ef i t alt,T',rest,J,σ,ρ,m,act,w,hl,h,hS,hQ=>by
  simp only[litT]at hl;split at hl
  ·rename_i o t' r' ho h2 h3;obtain⟨lo,h1,rfl⟩:=ZxP.1 hl;obtain⟨ha,hb⟩:=h;refine⟨?_,Za7 hndf alt r' rest h3 hb hS hQ⟩;show wpOpIn (FF ro) 1 P ops Q i _ act w;unfold wpOpIn;simp only[ho];rcases ZdS h1 ha hS with⟨q1,q2⟩|⟨q1,q2⟩
   ·rw[if_pos q1];cases hst:ZaM P o with
    |true=>
     obtain⟨v,k1,⟨τ,ρ',m',k2,k3⟩,_⟩:=Zbj (G:=fun _=>True) h1 ha hS (.inl hst);rcases k1 with⟨_,k1⟩|⟨k1,_⟩
     ·unfold Oper.wpIn;refine⟨fun _ _=>trivial,?_⟩;rw[Oper.semAt_eq _ _ _ (Zbh hndf ho),k1 w trivial,Oper.uponIn_value];exact⟨fun _=>Ext.ZvU _,Za7 hndf t t' rest h2 k2 k3 hQ⟩
     ·rw[k1]at q1;cases q1
    |false=>
     have hsoft:softO (ZbH P ops) ops i=true→o.op.mild=true∨((litOp P o.op).ZvX=true∧ltOf P ops i=false)∨(fixO ops (litOp P o.op)).ZvQ=true:=fun hsf=>by
      unfold softO at hsf;rw[ho]at hsf;unfold ZbH at hsf;unfold ZaM at hst;simp only[hst,Bool.or_false,Zyk]at hsf;rcases hsf with(h'|h')|h'
      ·exact .inl h'
      ·simp only[ZxO,Bool.not_eq_true']at h';exact .inr (.inl h')
      ·exact .inr (.inr h')
     exact Oper.wpIn_mono (fun act' w' ⟨⟨τ,ρ',m',k2,k3⟩,k4⟩=>⟨fun hsf=>k4 (hsoft hsf),Za7 hndf t t' rest h2 k2 k3 hQ⟩) (Zg8 h1 q2 hS)
   ·rw[if_neg (by rw[q1];simp)];exact⟨fun _ _=>trivial,fun _=>Ext.ZvU _,Za7 hndf t t' rest h2 q2 (hS.ZvD (Za2 h1).2.2.2.1 Zgf) hQ⟩
  ·cases hl
theorem Zm7 {id:Nat}{K:AS→Prop}{T':LT}(hm:P.follows .mixedOrders=true)(hl:litRT P N ops=some T')(h:opsT P T' K σ)(hS:Sat N w0 m0 pl σ ρ m act w)(hQ:∀act' w',Aft N w0 m0 pl K act' w'→Q .normal act' w')
  (hp:∀c (a:Act) (d:Tmp) (v:Value) w,Q (.panic c) (a.put (some d) v) w→Q (.panic c) a w):(Code.region id ops true).wpIn (FF ro) 1 P Q act w:=by
 unfold litRT at hl;dsimp only at hl;split at hl
 ·rename_i hc;simp only[ZxO]at hc;obtain⟨⟨c1,c2⟩,c3⟩:=hc;refine wpIn_region_any hm (Zec (soft:=ZbH P ops) _ _ _ _ ?_);exact Zf9 (soft:=ZbH P ops) (still:=ZaM P) c1 c2 hp _ _ _ none _ _ (by simp) (Down.start _) (fun r e=>by cases e) c3 (Za7 c2 _ T' .done hl h (hS.ext (Ext.dr w)) hQ)
 ·cases hl
end
end
section
inductive LCode where
 |skip
 |region (ops:List LO)
 |seq (a b:LCode)
 |cond (c:Opd) (a b:LCode)
 |block (id:Nat) (c:LCode)
 |loop (c:LCode)
 |exit (id:Nat)
 |ret
 |regT (t:LT)
 |rng (nt:Nat) (g:Opd) (C:Code×Code) (la lb:LCode) (ps:List Nat)
 deriving Inhabited
def litC (P:Program)(N:Nat):Code→Option LCode
 |.skip=>some .skip
 |.region _ ops draw=>match litR P N ops draw with
  |some l=>some (.region l)
  |none=>if draw=true then(litRT P N ops).map .regT else none
 |.seq a b=>match litC P N a,litC P N b with
  |some x,some y=>some (.seq x y)
  |_,_=>none
 |.cond c a b=>match opd c,litC P N a,litC P N b with
  |some c,some x,some y=>some (.cond c x y)
  |_,_,_=>none
 |.block id c=>(litC P N c).map (.block id)
 |.loop c=>(litC P N c).map .loop
 |.exit id=>some (.exit id)
 |.ret=>some .ret
 |.scope c=>litC P N c
 |.label _=>some .skip
 |.rangeFunc g ps a b=>match opd g,litC P N a,litC P N b with
  |some g,some la,some lb=>some (.rng N g (a,b) la lb ps.toList)
  |_,_,_=>none
 |_=>none
inductive AEx where
 |normal
 |exit (id:Nat)
 |ret
 deriving DecidableEq
def thenA (K:AS→Prop)(Q:AEx→AS→Prop):AEx→AS→Prop
 |.normal,σ=>K σ
 |e,σ=>Q e σ
def Zcf (id:Nat)(Q:AEx→AS→Prop):AEx→AS→Prop
 |.exit id',σ=>if id'=id then Q .normal σ else Q (.exit id') σ
 |e,σ=>Q e σ
def jumpQ (Q:AEx→AS→Prop):Option Code→AS→Prop
 |none,σ=>Q .normal σ
 |some .ret,σ=>Q .ret σ
 |some (.exit id),σ=>Q (.exit id) σ
 |_,_=>False
def Zt8 (P:Program)(nt:Nat)(g:Opd)(C:Code×Code)(ps:List Nat)(Q:AEx→AS→Prop)(σ:AS):Prop:=
 ∃(fz lent:List Site) (tm:List (Nat×AV)) (σ1:AS) (gf:FuncId) (fs cs:List AV) (B:List (Site×Box)),
  (∀t a,tm.lookup t=some a→((frzsL fz σ).Zu0 nt).t t=some a)∧σ1=((frzsL fz σ).Zu0 nt).add (.loc nt 0) (.loop C ps nt tm none)∧
  (σ1.o g=.fn gf fs cs∨∃fs' cs',σ1.o g=.pv (.fn gf fs' cs')∧fs=fs'.map .pv∧cs=cs'.map .pv)∧lent.Nodup∧lent.all (fun s=>!s.Zu1 (nt+1))=true∧Zas σ1 lent 0 lent=some B∧
  AV.Zu4 (fun x=>lent.contains x) (fs++[.yld (.loc nt 0)]++cs)=true∧
  Zai P gf (AV.Zu9 (inG lent) (fs++[.yld (.loc nt 0)]++cs)) B (fun r B'=>r.Zu3 (outOk lent)=true∧(∀p∈B',outOk lent p.1=true∧p.2.Zu3 (outOk lent)=true)∧
   match(((dropL lent σ1).Zu0 (nt+1)).Zvd (renL lent (nt+1) B')).b (.loc nt 0)with
   |some (.loop _ _ _ _ st)=>jumpQ Q st ((((dropL lent σ1).Zu0 (nt+1)).Zvd (renL lent (nt+1) B')).drop (.loc nt 0))
   |_=>False)
def rngWp (P:Program)(nt:Nat)(g:Opd)(C:Code×Code)(ps:List Nat)(Q:AEx→AS→Prop)(σ:AS):Prop:=∃τ,Sub τ σ∧Zt8 P nt g C ps Q τ
def awp (P:Program):LCode→(AEx→AS→Prop)→AS→Prop
 |.skip,Q,σ=>Q .normal σ
 |.region ops,Q,σ=>opsWp P ops (Q .normal) σ
 |.regT t,Q,σ=>opsT P t (Q .normal) σ
 |.seq a b,Q,σ=>awp P a (thenA (awp P b Q) Q) σ
 |.cond c a b,Q,σ=>match σ.o c with
  |.pv (.bool t)=>if t=true then awp P a Q σ else awp P b Q σ
  |_=>False
 |.block id c,Q,σ=>awp P c (Zcf id Q) σ
 |.loop c,Q,σ=>∃(I:Nat→AS→Prop) (n:Nat) (τ:AS),Sub τ σ∧I n τ∧∀n τ,I n τ→awp P c (thenA (fun τ'=>∃k τ2,k<n∧Sub τ2 τ'∧I k τ2) Q) τ
 |.exit id,Q,σ=>Q (.exit id) σ
 |.ret,Q,σ=>Q .ret σ
 |.rng nt g C _ _ ps,Q,σ=>rngWp P nt g C ps Q σ
section
variable {P:Program}{N:Nat}{w0:World}{m0:Env w0}{pl:List Nat}{σ:AS}{ρ:Site→Loc}{m:Mem}{act:Act}{w:World}
def Post (N:Nat)(w0:World)(m0:Env w0)(pl:List Nat)(Q:AEx→AS→Prop):Exit→Act→World→Prop
 |.normal,a,w=>Aft N w0 m0 pl (Q .normal) a w
 |.exit id,a,w=>Aft N w0 m0 pl (Q (.exit id)) a w
 |.ret,a,w=>Aft N w0 m0 pl (Q .ret) a w
 |_,_,_=>False
theorem Zbs {b:Frame}{a:Act}{k:List Item}{cs:List Frame}{c:Code}:step P (lone (b.atR a (.code (.scope c)::k)) cs w)=.next (lone (b.atR a (.code c::.inScope c::k)) cs w):=
 step_lone_go (by simp[stepG,stepG.exec,Frame.atR])
theorem Zg4 {b:Frame}{a:Act}{k:List Item}{cs:List Frame}{c:Code}:step P (lone (b.atR a (.inScope c::k)) cs w)=.next (lone (b.atR a k) cs w):=
 step_lone_go (by simp[stepG,stepG.exec,Frame.atR])
theorem ZbV {F:Fence}{n:Nat}{a:Act}{Q:Exit→Act→World→Prop}{c:Code}(h:c.wpIn F n P (Exit.noGoto Q) a w):(Code.scope c).wpIn F n P Q a w:=by
 intro b k cs hro hb hr;have h0:(lone (b.atR a (.code (.scope c)::k)) cs w).fenced P F:=fenced_calm hb hr rfl;obtain⟨e,a₁,w₁,hq,harr⟩:=h b (.inScope c::k) cs hro hb hr;cases e with
 |normal=>exact⟨.normal,a₁,w₁,hq,.head h0 Zbs (StepsIn.trans harr (.one (fenced_calm hb hr rfl) Zg4))⟩
 |exit id=>
  have hx:exitTo id (.inScope c::k)=exitTo id k:=by simp[exitTo]
  exact⟨_,a₁,w₁,hq,fun k' hk=>.head h0 Zbs (harr.1 k' (by rw[hx];exact hk)),
   fun hr' hk=>let ⟨k₁,h1,h2⟩:=harr.2 hr' (by rw[hx];exact hk);⟨k₁,h1,.head h0 Zbs h2⟩⟩
 |goto l=>exact hq.elim
 |ret=>exact⟨_,a₁,w₁,hq,.of_steps (.one h0 Zbs) harr⟩
 |panic ch=>exact⟨_,a₁,w₁,hq,.of_steps (.one h0 Zbs) harr⟩
 |outgrown=>exact⟨_,a₁,w₁,hq,.of_steps (.one h0 Zbs) harr⟩
def noRF:Code→Bool
 |.seq a b=>noRF a&&noRF b
 |.cond _ a b=>noRF a&&noRF b
 |.block _ c=>noRF c
 |.loop c=>noRF c
 |.scope c=>noRF c
 |.rangeFunc _ _ _ _=>false
 |_=>true
theorem ZeW {a b:Code}(h:noRF (.seq a b)=true):noRF a=true∧noRF b=true:=by simpa[noRF]using h
theorem ZdP {c:Operand}{a b:Code}(h:noRF (.cond c a b)=true):noRF a=true∧noRF b=true:=by simpa[noRF]using h
theorem ZnF {g:Operand}{ps:Array Tmp}{a b:Code}{t:Bool}(h:t=true→noRF (.rangeFunc g ps a b)=true):t=false:=by
 cases t with
 |false=>rfl
 |true=>have:=h rfl;simp[noRF]at this
def Zf8 (ro:Option Nat)(w0:World)(pl:List Nat):Prop:=∀l,ro=some l→(∃r,w0.heap[l]?=some (.loop r))∧l∉pl
theorem Zb2 (w:World)(l:Nat)(o:Obj):Keep [l] w (w.putObj l o):=⟨rfl,rfl,rfl,by simp,fun k hk hn=>World.putObj_heap_other (by simpa using hn)⟩
theorem Zh6 {ro:Option Nat}(hro:Zf8 ro w0 pl){g:Operand}{ps:Array Tmp}{a b:Code}{g':Opd}(hg:opd g=some g'){Q:AEx→AS→Prop}(h:rngWp P N g' (a,b) ps.toList Q σ)(hS:Sat N w0 m0 pl σ ρ m act w)(hsf:m0.strict=false):
  (Code.rangeFunc g ps a b).wpIn (FF ro) 1 P (Post N w0 m0 pl Q) act w:=by
 obtain⟨σ,hsub,fz,lent,tm,σ1,gf,fs,cs,B,htm,hσ1,hfn,hnd,hnl,hB,hall,hC⟩:=h;obtain⟨ρ,m,hS⟩:=hsub _ _ _ _ _ _ _ _ hS;obtain⟨m1,_,hF0⟩:=hS.frzsL fz;have hF1:=hF0.Zu0 N;have hND:=NoD.Zu0 N (frzsL fz σ);refine wpIn_rangeFunc (fun fn _=>?_);obtain⟨l,mark,w1,ds,hent,hmk,hdn,hds,hx1,hl1,hbk,hnew⟩:∃(l:Nat) (mark:List Deferred) (w1:World) (ds:List Nat),(Instr.enterLoop fn act.tmps ps a b (FF ro).round).run P w=.ok (l,mark) w1∧mark=ds.map Zgw∧ds.Nodup∧
   (∀D∈ds,w.heap.size≤D∧w1.heap[D]?=some (.deferred (some [])))∧Ext w w1∧w.heap.size≤l∧(∃r:Loop,w1.heap[l]?=some (.loop r)∧r.state=.ready∧r.pending=none∧r.params=ps∧r.assign=a∧r.body=b∧r.tmps=act.tmps)∧True:=by
  cases ro with
  |none=>
   refine⟨_,_,_,[w.heap.size],run_enterLoop_outer _ _ _ _ _,rfl,by simp,fun D hD=>?_,(Ext.al w _).trans' (Ext.al _ _),by omega,⟨{ state:=.ready,pending:=none,fn,tmps:=act.tmps,params:=ps,assign:=a,body:=b,defers:=w.heap.size },?_,rfl,rfl,rfl,rfl,rfl,rfl⟩,trivial⟩
   ·simp at hD;subst hD;refine⟨ZxR _,?_⟩;exact(Below.heap_alloc _ _ _ (by simp)).trans (World.alloc_heap_new w _)
   ·have:=World.alloc_heap_new (w.alloc (.deferred (some []))) (.loop { state:=.ready,pending:=none,fn,tmps:=act.tmps,params:=ps,assign:=a,body:=b,defers:=w.heap.size })
    rwa [World.size_alloc]at this
  |some l0=>
   obtain⟨⟨r0,hr0⟩,hl0⟩:=hro l0 rfl;have hr1:w.heap[l0]?=some (.loop r0):=(hS.keep.block l0 (Zx8.1 hr0).1 hl0).trans hr0;refine⟨_,_,_,[],run_enterLoop_inner hr1 _ _ _ _ _,rfl,by simp,(fun D hD=>by cases hD),Ext.al w _,ZxR _,⟨{ state:=.ready,pending:=none,fn,tmps:=act.tmps,params:=ps,assign:=a,body:=b,defers:=r0.defers },World.alloc_heap_new w _,rfl,rfl,rfl,rfl,rfl,rfl⟩,trivial⟩
 obtain⟨r,hr1,hr2,hr3,hr4,hr5,hr6,hr7⟩:=hbk
 let act1:Act:={ act with defers:=mark++act.defers }
 have hF2:Sat N w0 m0 pl ((frzsL fz σ).Zu0 N) ρ m1 act1 w1:=by
  have k:=hF1.ext hx1;obtain⟨ds0,⟨d1,d2,g3,g1⟩,g0,g2'⟩:=hF1.nod;have g2:∀D∈ds0,(w0.heap.size≤D∨D∈pl)∧w1.heap[D]?=some (.deferred (some [])):=fun D hD=>⟨(g2' D hD).1,by rw[hx1.block _ (Zx8.1 (g2' D hD).2).1];exact(g2' D hD).2⟩
  exact⟨⟨ds++ds0,⟨ds++d1,d2,by rw[g3,List.append_assoc],by show mark++act.defers=_;rw[hmk,g1,Zyb];simp only[List.append_assoc]⟩,⟨List.nodup_append.2 ⟨hdn,g0.1,fun a ha b hb e=>by
   have h1:=(hds a ha).1;have h2:=(Zx8.1 (g2' b hb).2).1
   omega⟩,fun e=>by rw[hsf]at e;cases e⟩,fun D hD=>by
   rcases Zyp.1 hD with hD|hD
   ·exact⟨.inl (Zx5 hS.keep.size (hds D hD).1),(hds D hD).2⟩
   ·exact g2 D hD⟩,k.sz,k.tm,k.bx,k.injk,k.mem,k.offk,k.ownk,k.keep,k.base,k.fro,k.par⟩
 have hρ:=Zfa ρ N 0 ⟨l,0,0,true⟩;have hF3:Sat N w0 m0 pl σ1 (upd ρ (.loc N 0) ⟨l,0,0,true⟩) m1 act1 w1:=by
  rw[hσ1];refine hF2.add hND (l:=⟨l,0,0,true⟩) ⟨by rw[ZaL],r,by rw[ZaL];exact hr1,hr2,hr3,by rw[hr4],hr5,hr6,by rw[hr7];exact hF1.sz,fun t c k=>?_⟩ (fun _ s b k rr=>?_) (fun _ o=>?_) (fun _=>.inl (Zx5 hS.keep.size hl1))
  ·obtain⟨v,k1,k2⟩:=hF1.tm t c (htm t c k);exact⟨v,by rw[hr7];exact k1,k2.mono (Le.refl _) hρ (hND.t t c (htm t c k))⟩
  ·have:=hF1.ltk k (((hF1.bx s b k).blk_same (fun r=>hx1.block _ (hF1.lt k r))).1 rr)
   have e':l<w.heap.size:=this;omega
  ·exact hF1.Zv4 hl1 o
 generalize hρ1:upd ρ (.loc N 0) ⟨l,0,0,true⟩=ρ1 at hF3;have hlρ:ρ1 (.loc N 0)=⟨l,0,0,true⟩:=by rw[←hρ1,ZaL]
 obtain⟨ρc,hin,hBx,hout⟩:=lend hF3 hnd hnl hB;have hfv:∃vf vc:Array Value,act.eval g=.func (.func gf) vf vc∧vf.size=fs.length∧vc.size=cs.length∧(∀(j:Nat) (d:Value) (c:AV),vf[j]?=some d→fs[j]?=some c→RdA ρ1 m1 d c)∧(∀(j:Nat) (d:Value) (c:AV),vc[j]?=some d→cs[j]?=some c→RdA ρ1 m1 d c):=by
  have h1:=hF3.opd hg;have e0:act1.eval g=act.eval g:=by cases g<;>rfl
  rw[e0]at h1;rcases hfn with hfn|⟨fs',cs',hfn,rfl,rfl⟩
  ·rw[hfn]at h1;exact ZhE h1
  ·rw[hfn]at h1;obtain⟨vf,vc,e1,e2,e3,e4,e5⟩:=ZiI h1.Zu5;refine⟨vf,vc,e1,by simpa using e2,by simpa using e3,fun j d c k1 k2=>?_,fun j d c k1 k2=>?_⟩
   ·rw[ZxM]at k2;obtain⟨x,k3,rfl⟩:=ZxP.1 k2;exact .pv _ _ (e4 j d x k1 k3)
   ·rw[ZxM]at k2;obtain⟨x,k3,rfl⟩:=ZxP.1 k2;exact .pv _ _ (e5 j d x k1 k3)
 obtain⟨vf,vc,hv,f1,f2,f3,f4⟩:=hfv;obtain⟨b1,b2⟩:=ZhR (ρ:=ρ1) (m:=m1) (va:=#[Value.func (.yield l) #[] #[]]) (xs:=[AV.yld (.loc N 0)]) f1 rfl f2 f3 (fun j u y hu hy=>by
  cases j with
  |zero=>
   simp at hu hy;subst hu hy
   have:=RdA.yld (ρ:=ρ1) (m:=m1) (.loc N 0)
   rwa [hlρ]at this
  |succ j=>simp at hu) f4
 obtain⟨gfn,gcode,g1,g2,g3⟩:=hC.1;have g2' : ¬ gfn.name = "runtime.NumGoroutine" := by simpa using g2
 refine⟨l,mark,w1,{ target:=.fn (.func gf) vc,args:=vf++#[Value.func (.yield l) #[] #[]]},w1,gf,vf++#[Value.func (.yield l) #[] #[]]++vc,w1,hent,?_,fun _ _=>trivial,?_,FF.one,Zf4 ?_⟩
 ·simp[resolve,hv,Deferred.ofValue];rfl
 ·simp[invoke,callFunc,g1,g2',g3]
 refine(hC.2 w1 m1 ρc _ hBx ⟨hF3.mem,hF3.glob,Zcd hB⟩ (by rw[ZbN];exact b1) (fun j u y hu hy=>by
  rw[ZbO]at hy;obtain⟨a,k1,rfl⟩:=ZxP.1 hy;exact(b2 j u a hu k1).map hin (ZaK hall k1))).mono ?_
 intro e w3 h;obtain⟨v,rr,B',ρ',m',rfl,hK,k1,k2,k3⟩:=hout (fun r B'=>match(((dropL lent σ1).Zu0 (N+1)).Zvd (renL lent (N+1) B')).b (.loc N 0)with
   |some (.loop _ _ _ _ st)=>jumpQ Q st ((((dropL lent σ1).Zu0 (N+1)).Zvd (renL lent (N+1) B')).drop (.loc N 0))
   |_=>False) e w3 h
 clear h hout;replace k3:=k3 (.loc N 0) (by simp[Site.Zu1]);generalize((dropL lent σ1).Zu0 (N+1)).Zvd (renL lent (N+1) B')=τ at hK k1;split at hK
 ·rename_i C' ps' nt' tm' st hbx;obtain⟨hr3,r3,u1,u2,u3,_⟩:=k1.bx _ _ hbx;have hpar:ρ' (.loc N 0)=ρ1 (.loc N 0):=k3;rw[hpar,hlρ]at u1;have hnb:r3.state≠.busy:=by rw[u2];cases st<;>simp
  have hrun:=run_endLoop (P:=P) u1 hnb;have hS4:Sat N w0 m0 pl (τ.drop (.loc N 0)) ρ' m' act1 (w3.putObj l (.loop { r3 with state:=.exhausted })):=(k1.drop _).write (k:=l) (fun s b k r=>by
   rw[AS.Zvz]at k;split at k
   ·cases k
   ·rename_i hne;refine hne (k1.injk _ _ _ _ l k hbx r (.inl ⟨hr3,?_⟩));rw[hpar,hlρ]) (fun o=>by
   have:=k1.off _ _ hbx hr3 o
   rwa [hpar,hlρ]at this) (by
   have:=k1.own _ _ hbx hr3
   rwa [hpar,hlρ]at this) (.inl (by rw[u1];simp)) (Zb2 _ _ _)
  refine⟨st,_,by rw[←u3];exact hrun,?_⟩;cases st with
  |none=>exact⟨_,_,_,hK,hS4⟩
  |some c=>
   cases c with
   |ret=>exact wpIn_ret ⟨_,_,_,hK,hS4⟩
   |exit id=>exact wpIn_exit ⟨_,_,_,hK,hS4⟩
   |_=>exact hK.elim
 ·exact hK.elim
theorem ZcG {ro:Option Nat}(hro:Zf8 ro w0 pl)(hm:P.follows .mixedOrders=true):∀(c:Code) (l:LCode) (Q:AEx→AS→Prop) {σ:AS} {ρ:Site→Loc} {m:Mem} {act:Act} {w:World},(m0.strict=true→noRF c=true)→litC P N c=some l→awp P l Q σ→Sat N w0 m0 pl σ ρ m act w→c.wpIn (FF ro) 1 P (Post N w0 m0 pl Q) act w:=by
 intro c;induction c with
 |skip=>
  intro l Q σ ρ m act w hst hl h hS;simp[litC]at hl;subst hl;exact wpIn_skip ⟨σ,ρ,m,h,hS⟩
 |region id ops draw=>
  intro l Q σ ρ m act w hst hl h hS;simp only[litC]at hl;split at hl
  ·rename_i los k1;cases hl;exact Zm6 hm k1 h hS (fun _ _ k=>k) (fun _ _ _ _ _ h=>h)
  ·split at hl
   ·rename_i hd;subst hd;simp only[ZxP]at hl;obtain⟨T',k1,rfl⟩:=hl;exact Zm7 hm k1 h hS (fun _ _ k=>k) (fun _ _ _ _ _ h=>h)
   ·cases hl
 |seq a b iha ihb=>
  intro l Q σ ρ m act w hst hl h hS;simp only[litC]at hl;split at hl
  ·rename_i x y h1 h2;cases hl;refine wpIn_seq (wpIn_mono (iha x _ (fun e=>(ZeW (hst e)).1) h1 h hS) (fun e act' w' hq=>?_));cases e with
   |normal=>
    obtain⟨τ,ρ',m',k1,k2⟩:=hq;exact ihb y Q (fun e=>(ZeW (hst e)).2) h2 k1 k2
   |exit id=>exact hq
   |ret=>exact hq
   |goto l=>exact hq.elim
   |panic ch=>exact hq.elim
   |outgrown=>exact hq.elim
  ·cases hl
 |cond c a b iha ihb=>
  intro l Q σ ρ m act w hst hl h hS;simp only[litC]at hl;split at hl
  ·rename_i c' x y h0 h1 h2;cases hl;unfold awp at h;split at h
   ·rename_i t ht;have hc:=hS.opd h0;rw[ht]at hc;refine wpIn_cond hc.Zvo ?_;cases t
    ·exact ihb y Q (fun e=>(ZdP (hst e)).2) h2 (by simpa using h) hS
    ·exact iha x Q (fun e=>(ZdP (hst e)).1) h1 (by simpa using h) hS
   ·exact h.elim
  ·cases hl
 |block id c ih=>
  intro l Q σ ρ m act w hst hl h hS;simp only[litC,ZxP]at hl;obtain⟨x,k1,rfl⟩:=hl;refine wpIn_block (wpIn_mono (ih x _ hst k1 h hS) (fun e act' w' hq=>?_));cases e with
  |exit id'=>
   obtain⟨τ,ρ',m',q1,q2⟩:=hq;by_cases he:id'=id
   ·subst he;simp only[Zcf,if_true]at q1;simp only[Exit.inBlock,if_true];exact⟨τ,ρ',m',q1,q2⟩
   ·simp only[Zcf,he,if_false]at q1;simp only[Exit.inBlock,he,if_false];exact⟨τ,ρ',m',q1,q2⟩
  |normal=>exact hq
  |ret=>exact hq
  |goto l=>exact hq.elim
  |panic ch=>exact hq.elim
  |outgrown=>exact hq.elim
 |loop c ih=>
  intro l Q σ ρ m act w hst hl h hS;simp only[litC,ZxP]at hl;obtain⟨x,k1,rfl⟩:=hl;obtain⟨I,n,τ,hsub,hI,hround⟩:=h;obtain⟨ρ1,m1,hS1⟩:=hsub _ _ _ _ _ _ _ _ hS;refine wpIn_loop_ghost (fun n act w=>∃τ ρ m,I n τ∧Sat N w0 m0 pl τ ρ m act w) n ⟨τ,ρ1,m1,hI,hS1⟩ ?_;intro n act w ⟨τ,ρ,m,hI,hS⟩;refine wpIn_mono (ih x _ hst k1 (hround n τ hI) hS) (fun e act' w' hq=>?_);cases e with
  |normal=>
   obtain⟨τ',ρ',m',⟨k,τ2,q1,q2,q3⟩,q4⟩:=hq;obtain⟨ρ2,m2,q5⟩:=q2 _ _ _ _ _ _ _ _ q4;exact⟨k,q1,τ2,ρ2,m2,q3,q5⟩
  |exit id=>exact hq
  |ret=>exact hq
  |goto l=>exact hq.elim
  |panic ch=>exact hq.elim
  |outgrown=>exact hq.elim
 |scope c ih=>
  intro l Q σ ρ m act w hst hl h hS;refine ZbV (wpIn_mono (ih l Q hst hl h hS) (fun e act' w' hq=>?_));cases e<;>first|exact hq|exact hq.elim
 |label l0=>
  intro l Q σ ρ m act w hst hl h hS;simp[litC]at hl;subst hl;exact wpIn_label ⟨σ,ρ,m,h,hS⟩
 |exit id=>
  intro l Q σ ρ m act w hst hl h hS;simp[litC]at hl;subst hl;exact wpIn_exit ⟨σ,ρ,m,h,hS⟩
 |ret=>
  intro l Q σ ρ m act w hst hl h hS;simp[litC]at hl;subst hl;exact wpIn_ret ⟨σ,ρ,m,h,hS⟩
 |rangeFunc g ps a b=>
  intro l Q σ ρ m act w hst hl h hS;simp only[litC]at hl;split at hl
  ·rename_i g' la lb k1 k2 k3;cases hl;exact Zh6 hro k1 h hS (ZnF hst)
  ·cases hl
 |_=>intro l Q σ ρ m act w hst hl h hS;simp[litC]at hl
end
end
section
inductive LRes where
 |tm (t:Nat)
 |cell (t:Nat) (row:Bool) (n:Nat)
 deriving Inhabited
def litRs (P:Program):List ResultVar→Option (List LRes)
 |[]=>some []
 |.tmp t::r=>(litRs P r).map (LRes.tm t::·)
 |.cell a t::r=>match sizeT P t,P.underlying t,litRs P r with
  |some n,some _,some l=>some (.cell a (rowT P t) n::l)
  |_,_,_=>none
structure LFn where
 nt:Nat
 code:LCode
 res:List LRes
 deriving Inhabited
def litF (P:Program)(f:FuncId):Option LFn:=match P.funcs[f]? with
 | some fn => if fn.name == "runtime.NumGoroutine" then none else match fn.body with
  |some c=>match litC P fn.ntmps c,litRs P fn.results.toList with
   |some l,some r=>some ⟨fn.ntmps,l,r⟩
   |_,_=>none
  |none=>none
 |none=>none
def AS.Zxy (σ:AS):LRes→Option AV
 |.tm t=>σ.t t
 |.cell t row n=>match σ.t t with
  |some (.ptr s off)=>match σ.b s with
   |some (.cells azz)=>if row=true then(if off+n≤azz.length then some (Zb3 ((azz.drop off).take n))else none)else azz[off]?
   |_=>none
  |_=>none
def AS.ZwX (σ:AS):List LRes→Option (List AV)
 |[]=>some []
 |x::r=>match σ.Zxy x,σ.ZwX r with
  |some a,some l=>some (a::l)
  |_,_=>none
def ofTup:List AV→AV
 |[a]=>a
 |l=>match unpvs l with
  |some xs=>.pv (.tup xs)
  |none=>.tup l
def expG (outs:List Site)(s:Site):Site:=match s with
 |.par i=>.par i
 |s=>match outs.findIdx? (fun x=>decide (x=s))with
  |some j=>.ret j
  |none=>s
def noRet (s:Site):Bool:=!s.Zu6
def AS.exp (σ:AS)(outs:List Site):List Site→List (Site×Box)
 |[]=>[]
 |s::r=>match σ.b s with
  |some b=>(expG outs s,b.ren (expG outs))::σ.exp outs r
  |none=>σ.exp outs r
def frzL:List Site→AS→AS
 |[],σ=>σ
 |s::r,σ=>frzL r (σ.frz s)
def retWp (rs:List LRes)(R:AV→List (Site×Box)→Prop)(σ:AS):Prop:=
 ∃(fz outs:List Site) (l:List AV),(frzL fz σ).ZwX rs=some l∧(ofTup l).Zu3 noRet=true∧outs.all noRet=true∧(∀s∈outs,∀b,(frzL fz σ).b s=some b→b.Zu3 noRet=true)∧R ((ofTup l).map (expG outs)) ((frzL fz σ).exp outs outs)
def finQ (F:AS→Prop):AEx→AS→Prop
 |.exit _,_=>False
 |_,σ=>F σ
def retF (rs:List LRes)(R:AV→List (Site×Box)→Prop)(σ:AS):Prop:=match σ.ZwX rs with
 |some l=>match ofTup l with
  |.pv x=>R (.pv x) []
  |_=>False
 |none=>False
theorem ZsH {rs:List LRes}{R:AV→List (Site×Box)→Prop}{σ:AS}(h:retF rs R σ):retWp rs R σ:=by
 unfold retF at h;split at h
 ·rename_i l hl;split at h
  ·rename_i x hx;exact⟨[],[],l,hl,by rw[hx];rfl,rfl,(fun s hs=>by cases hs),by rw[hx];exact h⟩
  ·exact h.elim
 ·exact h.elim
def initT:Nat→List AV→List (Nat×AV)
 |_,[]=>[]
 |k,a::r=>(k,a)::initT (k+1) r
def resFn (tmps:Array Value):ResultVar→Sem Value:=fun
 |.tmp t=>pure (tmps.getD t undef)
 |.cell a t=>do loadVar t (←asAddr (tmps.getD a undef))
section
variable {P:Program}{N:Nat}{w0:World}{m0:Env w0}{pl:List Nat}{σ:AS}{ρ:Site→Loc}{m:Mem}{act:Act}{w:World}
theorem Sat.frzL:∀(fz:List Site) {σ:AS} {m:Mem},Sat N w0 m0 pl σ ρ m act w→∃m',Sat N w0 m0 pl (frzL fz σ) ρ m' act w
 |[],σ,m,h=>⟨m,h⟩
 |s::r,σ,m,h=>by
  obtain⟨m1,_,h1⟩:=h.frz s;exact Sat.frzL r h1
theorem ZcS:∀(l:List AV) (k j:Nat) (a:AV),(initT k l).lookup j=some a→k≤j∧l[j-k]?=some a
 |[],k,j,a,h=>by simp[initT,List.lookup]at h
 |b::r,k,j,a,h=>by
  unfold initT at h;rcases Nat.decEq j k with hne|rfl
  ·rw[Zad hne]at h;obtain⟨h1,h2⟩:=ZcS r (k+1) j a h;refine⟨by omega,?_⟩;rw[show j-k=(j-(k+1))+1 by omega,List.getElem?_cons_succ];exact h2
  ·rw[Zag]at h;cases h;exact⟨ZxR _,by simp⟩
theorem ZlQ {l:List (Site×Box)}{s:Site}{b:Box}(h:l.lookup s=some b):(s,b)∈l:=by
 induction l with
 |nil=>simp[List.lookup]at h
 |cons p r ih=>
  obtain⟨a,c⟩:=p;by_cases e:s=a
  ·subst e;rw[Zag]at h;cases h;simp
  ·rw[Zad e]at h;simp[ih h]
theorem Zcx {ρ:Site→Loc}{w:World}{B:List (Site×Box)}{s:Site}{b:Box}{k:Nat}(h:B.lookup s=some b)(hr:blk ρ w s b k):k∈lentB ρ w B:=by
 exact Zcb.2 ⟨(s,b),ZlQ h,hr⟩
theorem Zpv {rv:ResultVar}{x:LRes}(hx:litRs P [rv]=some [x]){a:AV}(ha:σ.Zxy x=some a)(hS:Sat N w0 m0 pl σ ρ m act w):
  ∃v,(resFn act.tmps rv).run P w=.ok v w∧RdA ρ m v a:=by
 cases rv with
 |tmp t=>
  simp[litRs]at hx;subst hx;obtain⟨v,k1,k2⟩:=hS.tm t a ha;refine⟨act.tmps.getD t undef,rfl,?_⟩;rw[Array.getD_eq_getD_getElem?,k1];exact k2
 |cell t0 ty=>
  simp only[litRs]at hx;split at hx
  ·rename_i n dd l h1 h2 h3;cases h3;cases hx;simp only[AS.Zxy]at ha;split at ha
   ·rename_i s off ht;obtain⟨v,k1,k2⟩:=hS.tm t0 _ ht;have hv:=k2.Zvk;subst hv;have hget:act.tmps.getD t0 undef=.pointer (some ⟨(ρ s).b,off,none⟩):=by rw[Array.getD_eq_getD_getElem?,k1];rfl
    split at ha
    ·rename_i azz hb;have hB:=hS.bx s _ hb;split at ha
     ·rename_i hr;split at ha
      ·rename_i hl;cases ha;obtain⟨ds,q1,q2,q3,q4⟩:=ZcZ hB hl;refine⟨.agg ds.toArray,?_,Zcw (by simp[q1,ZxT,Zyn];omega) (fun u hu=>q3 u (by simpa using hu)) (fun j u c e1 e2=>q4 j u c (by simpa using e1) e2)⟩
       have:=Znc (P:=P) h2 hr q2 (by rw[h1,q1])
       simp only[Instr.loadAt,Instr.sureAddr,Sem.run_bind,Sem.run_pure,Result.andThen_ok]at this;simp only[resFn,hget,asAddr,Sem.run_bind,Sem.run_pure,Result.andThen_ok];exact this
      ·cases ha
     ·rename_i hr;have hlt:=(ZxN.1 ha).1;obtain⟨ds,q1,q2,q3,q4⟩:=ZcZ hB (off:=off) (n:=1) (by omega)
      match ds,q1 with
      |[v],_=>
       refine⟨v,?_,q4 0 v a rfl (by rw[Zx1,if_pos (by omega),Zx3];exact ha)⟩
       have:=Znd (P:=P) h2 (by simpa using hr) q2.1
       simp only[Instr.loadAt,Instr.sureAddr,Sem.run_bind,Sem.run_pure,Result.andThen_ok]at this;simp only[resFn,hget,asAddr,Sem.run_bind,Sem.run_pure,Result.andThen_ok];exact this
    ·cases ha
   ·cases ha
  ·cases hx
theorem ZeT:∀(rvs:List ResultVar) (rs:List LRes) (l:List AV),litRs P rvs=some rs→σ.ZwX rs=some l→Sat N w0 m0 pl σ ρ m act w→
  ∃vs:List Value,(rvs.mapM (resFn act.tmps)).run P w=.ok vs w∧vs.length=l.length∧∀(j:Nat) (v:Value) (a:AV),vs[j]?=some v→l[j]?=some a→RdA ρ m v a
 |[],rs,l,h,hl,hS=>by
  simp[litRs]at h;subst h;simp[AS.ZwX]at hl;subst hl;exact⟨[],rfl,rfl,fun j v a e=>by simp at e⟩
 |rv::rvs,rs,l,h,hl,hS=>by
  obtain⟨x,rs',hx,h',rfl⟩:∃x rs',litRs P [rv]=some [x]∧litRs P rvs=some rs'∧rs=x::rs':=by
   cases rv with
   |tmp t=>
    simp only[litRs,ZxP]at h;obtain⟨rs',k1,rfl⟩:=h;exact⟨.tm t,rs',by simp[litRs],k1,rfl⟩
   |cell a t=>
    simp only[litRs]at h;split at h
    ·rename_i n dd l' h1 h2 h3;cases h;exact⟨.cell a (rowT P t) n,l',by simp[litRs,h1,h2],h3,rfl⟩
    ·cases h
  unfold AS.ZwX at hl;split at hl
  ·rename_i a l' h1 h2;cases hl;obtain⟨v,k1,k2⟩:=Zpv hx h1 hS;obtain⟨vs,k3,k4,k5⟩:=ZeT rvs rs' l' h' h2 hS;refine⟨v::vs,?_,by simp[k4],fun j u c e1 e2=>?_⟩
   ·simp only[List.mapM_cons,Sem.run_bind,k1,Result.andThen_ok,k3];rfl
   ·cases j with
    |zero=>simp at e1 e2;subst e1 e2;exact k2
    |succ j=>exact k5 j u c (by simpa using e1) (by simpa using e2)
  ·cases hl
theorem ZkM {vs:List Value}{l:List AV}(h1:vs.length=l.length)(h2:∀(j:Nat) (v:Value) (a:AV),vs[j]?=some v→l[j]?=some a→RdA ρ m v a):
  RdA ρ m (if h:vs.toArray.size=1 then vs.toArray[0]else .tuple vs.toArray) (ofTup l):=by
 match l,vs,h1 with
 |[a],[v],_=>exact h2 0 v a rfl rfl
 |[],vs,h1=>
  have:vs=[]:=ZyG h1
  subst this;exact .pv _ _ (.tup _ _ rfl (fun j v c e1 e2=>by simp at e2))
 |a::b::r,vs,h1=>
  have hs:¬vs.toArray.size=1:=by
   intro e;simp at e;rw[e]at h1;simp at h1
  rw[dif_neg hs];show RdA ρ m _ (match unpvs (a::b::r)with
   |some xs=>.pv (.tup xs)
   |none=>.tup (a::b::r))
  cases hx:unpvs (a::b::r)with
  |some xs=>
   have e:=Zbr hx;rw[e]at h1 h2;refine .pv _ _ (.tup _ _ (by simpa using h1) (fun j v c e1 e2=>?_));exact(h2 j v (.pv c) (by simpa using e1) (by rw[ZxM,e2];rfl)).Zu5
  |none=>exact .tup _ _ (by simpa using h1) (fun j v c e1 e2=>h2 j v c (by simpa using e1) e2)
theorem ZjL {outs:List Site}{s:Site}{j:Nat}(h:outs.findIdx? (fun x=>decide (x=s))=some j):outs[j]?=some s:=by
 obtain⟨hj,h1,_⟩:=Zyy.1 h;rw[ZxL hj];simpa using h1
theorem ZhH (hS:Sat N w0 m0 pl σ ρ m act w){outs:List Site}(ho:outs.all noRet=true)(hb:∀s∈outs,∀b,σ.b s=some b→b.Zu3 noRet=true):
  ∃ρ':Site→Loc,(∀s,noRet s=true→ρ' (expG outs s)=ρ s)∧Bxs ρ' m w (σ.exp outs outs)∧(∀i,ρ' (.par i)=ρ (.par i))∧
   (∀s b k,(σ.exp outs outs).lookup s=some b→blk ρ' w s b k→∃s0 b0,σ.b s0=some b0∧blk ρ w s0 b0 k):=by
 let ρ':Site→Loc:=fun s=>match s with
  |.ret j=>ρ (outs.getD j default)
  |s=>ρ s
 have hg:∀s,noRet s=true→ρ' (expG outs s)=ρ s:=fun s hs=>by
  cases s with
  |par i=>rfl
  |ret j=>simp[noRet,Site.Zu6]at hs
  |loc d j=>
   unfold expG;simp only;split
   ·rename_i k hk
    have:=ZjL hk
    simp[ρ',List.getD,this]
   ·rfl
 have look:∀(l:List Site),(∀s∈l,s∈outs)→∀s b,(σ.exp outs l).lookup s=some b→∃s0 b0,s0∈outs∧σ.b s0=some b0∧s=expG outs s0∧b=b0.ren (expG outs):=by
  intro l;induction l with
  |nil=>intro _ s b h;simp[AS.exp,List.lookup]at h
  |cons x r ih=>
   intro hl s b h;unfold AS.exp at h;split at h
   ·rename_i b0 hb0;by_cases e:s=expG outs x
    ·subst e;rw[Zag]at h;cases h;exact⟨x,b0,hl x (by simp),hb0,rfl,rfl⟩
    ·rw[Zad e]at h;exact ih (fun s hs=>hl s (by simp[hs])) s b h
   ·exact ih (fun s hs=>hl s (by simp[hs])) s b h
 have hno:∀s∈outs,noRet s=true:=fun s hs=>Zx7.1 ho s hs
 refine⟨ρ',hg,⟨fun s b h=>?_,fun s s' b b' k h h' r r'=>?_,fun s b k h r=>?_⟩,fun i=>rfl,fun s b k h r=>?_⟩
 ·obtain⟨s0,b0,k1,k2,rfl,rfl⟩:=look outs (fun _ h=>h) s b h;exact(hS.bx s0 b0 k2).ren hg (hno s0 k1) (hb s0 k1 b0 k2)
 ·obtain⟨s0,b0,k1,k2,rfl,rfl⟩:=look outs (fun _ h=>h) s b h;obtain⟨s1,b1,q1,q2,rfl,rfl⟩:=look outs (fun _ h=>h) s' b' h';rw[hS.injk s0 s1 b0 b1 k k2 q2 ((ZaF (hg s0 (hno s0 k1))).1 r) ((ZaF (hg s1 (hno s1 q1))).1 r')]
 ·obtain⟨s0,b0,k1,k2,rfl,rfl⟩:=look outs (fun _ h=>h) s b h;exact hS.offk s0 b0 k k2 ((ZaF (hg s0 (hno s0 k1))).1 r)
 ·obtain⟨s0,b0,k1,k2,rfl,rfl⟩:=look outs (fun _ h=>h) s b h;exact⟨s0,b0,k2,(ZaF (hg s0 (hno s0 k1))).1 r⟩
theorem Zep {fn:Func}{R:Ending→World→Prop}:∀(ds:List Nat) {w:World},ds.Nodup→(∀D∈ds,(w0.heap.size≤D∨D∈pl)∧w.heap[D]?=some (.deferred (some [])))→act.defers=[]→Sat N w0 m0 pl σ ρ m act w→
  ∃w2,Sat N w0 m0 pl σ ρ m act w2∧(LeavesIn (FF none) 1 P fn act.tmps R [] .returning w2→LeavesInM (FF none) 1 P fn act.tmps R (ds.map Zgw) .returning w)
 |[],w,_,_,_,hS=>⟨w,hS,fun h=>h⟩
 |D::r,w,hn,hd,ha,hS=>by
  obtain⟨d1,d2⟩:=hd D (by simp);have hn':=List.nodup_cons.1 hn;have hS1:Sat N w0 m0 pl σ ρ m act (w.putObj D (.deferred none)):=hS.write (k:=D) (fun s b hs hr=>(hS.bx s b hs).ZxA hr d2) (fun o=>by
   cases hv:m D o with
   |none=>rfl
   |some v=>
    have:=hS.mem D o v hv
    simp[World.mem,World.cell?,d2]at this) d1 (.inr ha) (Zb2 _ _ _)
  obtain⟨w2,k1,k2⟩:=Zep r hn'.2 (fun D' hD'=>by
   refine⟨(hd D' (by simp[hD'])).1,?_⟩;have hne:D'≠D:=fun e=>hn'.1 (by rw[←e];exact hD')
   rw[World.putObj_heap_other hne];exact(hd D' (by simp[hD'])).2) ha hS1
  exact⟨w2,k1,fun h=>⟨by simp,.inl ⟨D,_,rfl,run_takeDeferred d2,k2 h⟩⟩⟩
theorem ZaW {f:FuncId}{F:LFn}{azz:List AV}{B:List (Site×Box)}{R:AV→List (Site×Box)→Prop}(hm:P.follows .mixedOrders=true)(hf:litF P f=some F)(hn:azz.length≤F.nt)
  {Fin:AS→Prop} (hfin:∀σ,Fin σ→retWp F.res R σ) (h:awp P F.code (finQ Fin) ⟨initT 0 azz,B⟩):Zai P f azz B R:=by
 unfold litF at hf;split at hf
 ·rename_i fn hfn;split at hf
  ·cases hf
  ·rename_i hname;split at hf
   ·rename_i c hc;split at hf
    ·rename_i l rs hl hrs;cases hf;refine⟨⟨fn,c,hfn,by simpa using hname,hc⟩,fun w m ρ vs hB hmw hvs hrd=>?_⟩;refine(callsIn_wide (n:=1)).1 (callsIn_of_wp_marks (F:=FF none) hfn hc trivial ?_ rfl);have hS:Sat fn.ntmps w ⟨m,ρ,[],hmw.2.1,false⟩ (lentB ρ w B) ⟨initT 0 azz,B⟩ ρ m { tmps:=vs++Array.replicate (fn.ntmps-vs.size) undef,defers:=[]} w:=by
      have hn':azz.length≤fn.ntmps:=hn;refine⟨⟨[],mix0,nod0,fun D hD=>by cases hD⟩,by simp;omega,fun t a k=>?_,hB.bx,hB.injk,hmw.1,hB.offk,fun s b i k r=>.inr (Zcx k r),Keep.ZvU _ _,⟨Le.refl _,hB.free hmw.2.2⟩,fun b o v k=>.inl k,fun i=>rfl⟩;obtain⟨_,k1⟩:=ZcS azz 0 t a k;rw[Nat.sub_zero]at k1;have hlt:t<vs.size:=by rw[hvs];exact(ZxN.1 k1).1
      exact⟨vs[t],by rw[Array.getElem?_append,if_pos hlt,Zys hlt],hrd t _ a (Zys hlt) k1⟩
     refine wpIn_mono (ZcG (ro:=none) (fun l e=>by cases e) hm c l _ (fun e=>by cases e) hl h hS) (fun e act' w' hq=>?_);have fin:Aft fn.ntmps w ⟨m,ρ,[],hmw.2.1,false⟩ (lentB ρ w B) Fin act' w'→LeavesInM (FF none) 1 P fn act'.tmps (CPost w m ρ B R) act'.defers .returning w':=by
      rintro⟨τ,ρ1,m1,hFin,hT⟩;obtain⟨ds,hd1,hd2,hd3⟩:=hT.nod;have hd1:=hd1.nil;have hT0:Sat fn.ntmps w ⟨m,ρ,[],hmw.2.1,false⟩ (lentB ρ w B) τ ρ1 m1 { act' with defers:=[]} w':=⟨⟨[],mix0,nod0,fun D hD=>by cases hD⟩,hT.sz,hT.tm,hT.bx,hT.injk,hT.mem,hT.offk,hT.ownk,hT.keep,hT.base,hT.fro,hT.par⟩;obtain⟨w2,hT2,hL⟩:=Zep (P:=P) (fn:=fn) (R:=CPost w m ρ B R) ds hd2.1 hd3 rfl hT0;rw[hd1];refine hL ?_;obtain⟨fz,outs,la,q1,q2,q3,q4,q5⟩:=hfin τ hFin;obtain⟨m2,hF⟩:=hT2.frzL fz;obtain⟨vs',r1,r2,r3⟩:=ZeT fn.results.toList rs la hrs q1 hF;obtain⟨ρ',g1,g2,g3,g4⟩:=ZhH hF q3 q4;have hrd2:=ZkM r2 r3;refine⟨_,?_,_,_,_,ρ',m2,rfl,q5,g2,hF.base.1,hF.mem,fun i=>(g3 i).trans (hF.par i),fun s b i k r=>?_,hF.fro,hrd2.map g1 q2,hF.keep⟩
      ·show(do let vs ←fn.results.mapM (resFn act'.tmps);pure (if h:vs.size=1 then vs[0]else .tuple vs):Sem Value).run P w2=_;rw[Sem.run_bind,Array.mapM_eq_mapM_toList,Sem.run_map,r1];rfl
      ·obtain⟨s0,b0,e1,e2⟩:=g4 s b i k r;exact hF.ownk s0 b0 i e1 e2
     cases e with
     |normal=>exact fin hq
     |ret=>exact fin hq
     |exit id=>obtain⟨τ,ρ1,m1,q,_⟩:=hq;exact q.elim
     |goto l=>exact hq.elim
     |panic ch=>exact hq.elim
     |outgrown=>exact hq.elim
    ·cases hf
   ·cases hf
 ·cases hf
theorem ZiZ {f:FuncId}{F:LFn}{azz:List AV}{B:List (Site×Box)}{R:AV→List (Site×Box)→Prop}(hm:P.follows .mixedOrders=true)(hf:litF P f=some F)(hn:azz.length≤F.nt)
  (h:awp P F.code (finQ (retF F.res R)) ⟨initT 0 azz,B⟩):Zai P f azz B R:=ZaW hm hf hn (fun _ h=>ZsH h) h
section
variable {Q:AEx→AS→Prop}{K:AV→AS→Prop}
def again (J:Nat→AS→Prop)(n:Nat)(τ':AS):Prop:=∃k τ2,k<n∧Sub τ2 τ'∧J k τ2
def subT:List (Nat×AV)→AS→Prop
 |[],_=>True
 |(t,a)::r,σ=>σ.t t=some a∧subT r σ
def subB:List (Site×Box)→AS→Prop
 |[],_=>True
 |(s,b)::r,σ=>σ.b s=some b∧subB r σ
theorem Zfe:∀{l:List (Nat×AV)},subT l σ→∀t a,l.lookup t=some a→σ.t t=some a
 |[],_,t,a,h=>by simp[List.lookup]at h
 |(t',a')::r,hs,t,a,h=>by
  by_cases e:t=t'
  ·subst e;rw[Zag]at h;cases h;exact hs.1
  ·rw[Zad e]at h;exact Zfe hs.2 t a h
theorem ZhY:∀{l:List (Site×Box)},subB l σ→∀s b,l.lookup s=some b→σ.b s=some b
 |[],_,s,b,h=>by simp[List.lookup]at h
 |(s',b')::r,hs,s,b,h=>by
  by_cases e:s=s'
  ·subst e;rw[Zag]at h;cases h;exact hs.1
  ·rw[Zad e]at h;exact ZhY hs.2 s b h
theorem SubS.mk {tm:List (Nat×AV)}{bx:List (Site×Box)}(h1:subT tm σ)(h2:subB bx σ):SubS ⟨tm,bx⟩ σ:=⟨fun t a h=>Zfe h1 t a h,fun s b h=>ZhY h2 s b h⟩
theorem Sub.mk {tm:List (Nat×AV)}{bx:List (Site×Box)}(h1:subT tm σ)(h2:subB bx σ):Sub ⟨tm,bx⟩ σ:=(SubS.mk h1 h2).sub
theorem Zi1 {f:Opd}{args:List Opd}{d k:Nat}{g:FuncId}{fs xs cs:List PV}{y:PV}(h1:(σ.o f).snap σ k=some (.fn g fs cs))(h2:snapW (AV.snap σ k) (args.map σ.o)=some xs)
  (hc:Zai P g ((fs++xs++cs).map .pv) [] (fun r _=>r=.pv y)) (hy:y.flat=true) (hK:K (.pv y) σ):Zb8 P f args d K σ:=
 .inl ⟨k,g,fs,xs,cs,h1,h2,hc.mono (fun _ _ h=>⟨y,h,hy,hK⟩)⟩
theorem Zaj (fz:List Site){f:Opd}{args:List Opd}{d:Nat}{g:FuncId}{fs xs cs:List PV}{y:PV}(h1:(frzsL fz σ).o f=.pv (.fn g fs cs))(h2:(frzsL fz σ).pvs args=some xs)
  (hc:Zai P g ((fs++xs++cs).map .pv) [] (fun r B=>r=.pv y∧B=[])) (hK:K (.pv y) ((frzsL fz σ).Zu0 d)):Zb8 P f args d K σ:=
 .inr ⟨fz,g,fs,xs,cs,h1,h2,hc.mono (fun _ _ ⟨h,h'⟩=>by subst h h';exact⟨⟨rfl,fun p hp=>by cases hp⟩,hK⟩)⟩
theorem ZqR (fz:List Site){f:Opd}{args:List Opd}{d:Nat}{g:FuncId}{fs xs cs:List PV}{e n len:Nat}{ys:List PV}(h1:(frzsL fz σ).o f=.pv (.fn g fs cs))(h2:(frzsL fz σ).pvs args=some xs)
  (hc:Zai P g ((fs++xs++cs).map .pv) [] (fun r B=>r=.vec (.ret 0) n 0 len∧B=[(.ret 0,.arr e n ys)])) (hK:K (.vec (.loc d 0) n 0 len) (((frzsL fz σ).Zu0 d).add (.loc d 0) (.arr e n ys))):Zb8 P f args d K σ:=
 .inr ⟨fz,g,fs,xs,cs,h1,h2,hc.mono (fun _ _ ⟨h,h'⟩=>by subst h h';exact⟨⟨rfl,fun p hp=>by simp at hp;subst hp;exact⟨rfl,rfl⟩⟩,hK⟩)⟩
end
end
end
section
def Site.ZvV:Site→Bool
 |.par _=>true
 |_=>false
def putL:List Nat→List AV→List (Nat×AV)→List (Nat×AV)
 |p::ps,a::azz,tm=>putL ps azz ((p,a)::tm)
 |_,_,tm=>tm
def retR (C:Code×Code)(ps:List Nat)(nt:Nat)(tm:List (Nat×AV))(i:Nat)(R:AV→List (Site×Box)→Prop)(st:Option Code)(σ:AS):Prop:=
 ∃(fz outs:List Site),outs.all noRet=true∧outs.all (fun s=>!decide (s=.par i))=true∧(∀s∈outs,∀b,(frzL fz σ).b s=some b→b.Zu3 noRet=true)∧
  R (.pv (.bool st.isNone)) ((.par i,.loop C ps nt tm st)::(frzL fz σ).exp outs outs)
def Zm4 (C:Code×Code)(ps:List Nat)(nt:Nat)(tm:List (Nat×AV))(i:Nat)(R:AV→List (Site×Box)→Prop):AEx→AS→Prop
 |.normal,σ=>retR C ps nt tm i R none σ
 |.ret,σ=>retR C ps nt tm i R (some .ret) σ
 |.exit id,σ=>retR C ps nt tm i R (some (.exit id)) σ
mutual
theorem Zeq:∀a:AV,a.map id=a
 |.any=>rfl
 |.pv _=>rfl
 |.ptr _ _=>rfl
 |.elt _ _ _ _=>rfl
 |.vec _ _ _ _=>rfl
 |.mp _=>rfl
 |.yld _=>rfl
 |.fn f fs cs=>by simp only[AV.map,Zds fs,Zds cs]
 |.agg cs=>by simp only[AV.map,Zds cs]
 |.tup vs=>by simp only[AV.map,Zds vs]
theorem Zds:∀l:List AV,AV.Zu9 id l=l
 |[]=>rfl
 |a::r=>by simp only[AV.Zu9,Zeq a,Zds r]
end
section
variable {P:Program}{N:Nat}{w0:World}{m0:Env w0}{pl:List Nat}{σ:AS}{ρ:Site→Loc}{m:Mem}{act:Act}{w:World}
theorem Sat.Zxt (h:Sat N w0 m0 pl σ ρ m act w){pl':List Nat}(hp:∀k∈pl,k∈pl')(hz:∀k∈pl',∀o,m0.m k o=none):Sat N w0 m0 pl' σ ρ m act w:=
 ⟨let ⟨ds,h1,h2,h3⟩:=h.nod;⟨ds,h1,h2,fun D hD=>⟨(h3 D hD).1.imp id (hp D),(h3 D hD).2⟩⟩,h.sz,h.tm,h.bx,h.injk,h.mem,h.offk,fun s b i k r=>(h.ownk s b i k r).imp id (hp _),
  ⟨h.keep.os,h.keep.tape,h.keep.output,h.keep.size,fun k h1 h2=>h.keep.block k h1 (fun q=>h2 (hp k q))⟩,⟨h.base.1,hz⟩,fun b o v k=>(h.fro b o v k).imp id (fun q=>q.imp id (hp b)),h.par⟩
theorem wpFF {ro:Option Nat}{n n':Nat}{c:Code}{Q:Exit→Act→World→Prop}{a:Act}(h:c.wpIn (FF ro) n P Q a w):c.wpIn (FF ro) n' P Q a w:=fun b k cs h1 h2 _=>h b k cs h1 h2 (room_wide _)
theorem Znk {ρ:Site→Loc}{m:Mem}{nt:Nat}:∀(ps:List Nat) (azz:List AV) (vs:List Value) (tm:List (Nat×AV)) (t0:Array Value),ps.length=azz.length→vs.length=azz.length→(∀p∈ps,p<nt)→t0.size=nt→
  (∀(j:Nat) (d:Value) (c:AV),vs[j]?=some d→azz[j]?=some c→RdA ρ m d c)→(∀t a,tm.lookup t=some a→∃v,t0[t]?=some v∧RdA ρ m v a)→
  ((ps.zip vs).foldl (fun(tmps:Array Value) (x:Nat×Value)=>tmps.setIfInBounds x.1 x.2) t0).size=nt∧
   ∀t a,(putL ps azz tm).lookup t=some a→∃v,((ps.zip vs).foldl (fun(tmps:Array Value) (x:Nat×Value)=>tmps.setIfInBounds x.1 x.2) t0)[t]?=some v∧RdA ρ m v a
 |[],azz,vs,tm,t0,h1,h2,h3,h4,h5,h6=>by
  cases azz with
  |nil=>exact⟨by simpa using h4,fun t a k=>by simpa using h6 t a k⟩
  |cons a azz=>simp at h1
 |p::ps,[],vs,tm,t0,h1,h2,h3,h4,h5,h6=>by simp at h1
 |p::ps,a::azz,[],tm,t0,h1,h2,h3,h4,h5,h6=>by simp at h2
 |p::ps,a::azz,v::vs,tm,t0,h1,h2,h3,h4,h5,h6=>by
  simp only[List.zip_cons_cons,List.foldl_cons,putL];refine Znk ps azz vs ((p,a)::tm) (t0.setIfInBounds p v) (by simpa using h1) (by simpa using h2) (fun q hq=>h3 q (by simp[hq])) (by simpa using h4) (fun j d c k1 k2=>h5 (j+1) d c (by simpa using k1) (by simpa using k2)) (fun t b k=>?_);rcases Nat.decEq t p with hne|rfl
  ·rw[Zad hne]at k;obtain⟨u,k1,k2⟩:=h6 t b k;exact⟨u,by rw[Array.getElem?_setIfInBounds_ne (fun e=>hne e.symm)];exact k1,k2⟩
  ·rw[Zag]at k;cases k;exact⟨v,by rw[Array.getElem?_setIfInBounds_self_of_lt (by rw[h4];exact h3 _ (by simp))],h5 0 v a rfl rfl⟩
theorem ZgZ (hm:P.follows .mixedOrders=true){C:Code×Code}{ps:List Nat}{nt i:Nat}{tm:List (Nat×AV)}{la lb:LCode}(hla:litC P nt C.1=some la)(hlb:litC P nt C.2=some lb){azz:List AV}{B:List (Site×Box)}
  {R:AV→List (Site×Box)→Prop} (hB:B.lookup (.par i)=some (.loop C ps nt tm none)) (hps:ps.length=azz.length) (hpn:∀p∈ps,p<nt) (htm:AV.Zu4 Site.ZvV (tm.map (·.2))=true)
  (h:awp P la (thenA (awp P lb (Zm4 C ps nt tm i R)) (fun _ _=>False)) ⟨putL ps azz tm,B.filter fun p=>!decide (p.1=.par i)⟩):Zck P i azz B R:=by
 intro w m ρ vs hBx ⟨hmw,hmg,hnk⟩ hvs hrd;obtain⟨hreal,r,u1,u2,u3,u4,u5,u6,u7,u8⟩:=hBx.bx _ _ hB;refine⟨r,u1,by rw[u4,hvs];simpa using hps.symm,?_⟩;obtain⟨l,hl⟩:∃l,l=(ρ (.par i)).b:=⟨_,rfl⟩;rw[←hl]at u1 ⊢;have hlw:l<w.heap.size:=(Zx8.1 u1).1;obtain⟨B1,hB1⟩:∃B1,B1=B.filter fun p=>!decide (p.1=.par i):=⟨_,rfl⟩
 rw[←hB1]at h;have hlook:∀s b,B1.lookup s=some b→B.lookup s=some b∧s≠.par i:=fun s b k=>by
  rw[hB1,show List.lookup s (B.filter fun p=>!decide (p.1=.par i))=_ from ZaU (fun x=>!decide (x=.par i)) s B]at k;split at k
  ·rename_i hne;exact⟨k,by simpa using hne⟩
  ·cases k
 have hpl:∀k,k∈lentB ρ w B1→k∈lentB ρ w B:=fun k hk=>by
  obtain⟨p,hp,e⟩:=Zcb.1 hk;exact Zcb.2 ⟨p,by rw[hB1]at hp;exact(ZxX.1 hp).1,e⟩
 obtain⟨pl1,hpl1⟩:∃pl1,pl1=(lentB ρ w B1).filter (fun k=>!decide (k=l)):=⟨_,rfl⟩;have hl1:l∉pl1:=by rw[hpl1];simp
 have hlB:l∈lentB ρ w B:=by rw[hl];exact Zcx hB (ZaA hreal)
 have hpl1':∀k∈pl1,k∈lentB ρ w B:=fun k hk=>hpl k (by rw[hpl1]at hk;exact(ZxX.1 hk).1)
 have hsz:=Znk (ρ:=ρ) (m:=m) (nt:=nt) ps azz vs.toList tm r.tmps hps (by simpa using hvs) hpn u7 (fun j d c k1 k2=>hrd j d c (by simpa using k1) k2) u8;have hfold:(r.params.zip vs).foldl (fun tmps (x:Nat×Value)=>tmps.setIfInBounds x.1 x.2) r.tmps=(ps.zip vs.toList).foldl (fun(tmps:Array Value) (x:Nat×Value)=>tmps.setIfInBounds x.1 x.2) r.tmps:=by
  rw[u4,←Array.foldl_toList];simp
 have hS:Sat nt w ⟨m,ρ,[],hmg,false⟩ pl1 ⟨putL ps azz tm,B1⟩ ρ m { tmps:=(r.params.zip vs).foldl (fun tmps (x:Nat×Value)=>tmps.setIfInBounds x.1 x.2) r.tmps,defers:=[]} w:=by
  rw[hfold];refine⟨⟨[],mix0,nod0,fun D hD=>by cases hD⟩,hsz.1,hsz.2,fun s b k=>hBx.bx s b (hlook s b k).1,fun s s' b b' i k k'=>hBx.injk s s' b b' i (hlook s b k).1 (hlook s' b' k').1,hmw,fun s b i k=>hBx.offk s b i (hlook s b k).1,fun s b j k r'=>.inr ?_,Keep.ZvU _ _,⟨Le.refl _,fun k hk=>hBx.free hnk k (hpl1' k hk)⟩,fun b o v k=>.inl k,fun i=>rfl⟩;rw[hpl1];refine ZxX.2 ⟨Zcx k r',?_⟩
  have:j≠l:=fun e=>(hlook s b k).2 (hBx.injk s _ b _ j (hlook s b k).1 hB r' (by rw[e,hl];exact ZaA hreal))
  simpa using this
 refine roundIn_of_wpIn trivial ?_;have hin1:Zf8 (some l) w pl1:=fun l' e=>by cases e;exact⟨⟨r,u1⟩,hl1⟩
 have hwa:=ZcG hin1 hm C.1 la _ (fun e=>by cases e) hla h hS;rw[←u5]at hwa;refine wpIn_mono (wpFF hwa) ?_;intro e act1 w1 hq;cases e with
 |normal=>
  obtain⟨τ1,ρ1,m1,hb,hS1⟩:=hq;have v1:w1.heap[l]?=some (.loop r):=(hS1.keep.block l hlw hl1).trans u1;refine⟨_,run_beginRound v1 u2,?_⟩;obtain⟨w2,hw2⟩:∃w2,w2=w1.putObj l (.loop { r with state:=.busy }):=⟨_,rfl⟩;rw[←hw2];have v2:w2.heap[l]?=some (.loop { r with state:=.busy }):=by rw[hw2];exact World.putObj_heap_same (Zx8.1 v1).1
  have kw12:Keep [l] w1 w2:=by rw[hw2];exact Zb2 _ _ _
  have nol:∀s b,τ1.b s=some b→¬blk ρ1 w1 s b l:=fun s b k rr=>by
   rcases hS1.ownk s b l k rr with q|q
   ·omega
   ·exact hl1 q
  have nolk:∀s b j,τ1.b s=some b→blk ρ1 w2 s b j→j≠l:=fun s b j k rr e=>by
   subst e;refine nol s b k (((hS1.bx s b k).blk_same (fun r=>kw12.block _ (hS1.lt k r) ?_)).1 rr);rw[Zyi];intro e2;exact nol s b k (.inl ⟨r,e2⟩)
  have hml:∀o,m1 l o=none:=fun o=>by
   cases hv:m1 l o with
   |none=>rfl
   |some v=>
    have:=hS1.mem l o v hv
    simp[World.mem,World.cell?,v1]at this
  have hS2:Sat nt w ⟨m,ρ,[],hmg,false⟩ (l::pl1) τ1 ρ1 m1 act1 w2:=(hS1.Zxt (fun k hk=>by simp[hk]) (fun k hk=>by
   rcases Zx2.1 hk with rfl|hk
   ·exact hBx.free hnk _ hlB
   ·exact hBx.free hnk k (hpl1' k hk))).write (k:=l) nol hml (.inr (by simp)) (.inl (by rw[v1];simp)) kw12
  obtain⟨pl2,hpl2⟩:∃pl2,pl2=(pl1++List.range' w.heap.size (w2.heap.size-w.heap.size)).filter (fun k=>@decide (∀o,m1 k o=none) (Classical.propDecidable _)):=⟨_,rfl⟩;have in2:∀b,(w.heap.size≤b∨b∈l::pl1)→b<w2.heap.size→b≠l→(∀o,m1 b o=none)→b∈pl2:=fun b hb hlt hne hz=>by
   rw[hpl2];refine ZxX.2 ⟨?_,by simpa using hz⟩;rw[Zyp];rcases hb with hb|hb
   ·exact .inr (List.mem_range'_1.2 ⟨hb,by omega⟩)
   ·rcases Zx2.1 hb with hb|hb
    ·exact absurd hb hne
    ·exact .inl hb
  have out2:∀b∈pl2,w.heap.size≤b∨b∈pl1:=fun b hb=>by
   rw[hpl2]at hb;have hb:=(ZxX.1 hb).1;rw[Zyp]at hb;rcases hb with hb|hb
   ·exact .inr hb
   ·exact .inl (List.mem_range'_1.1 hb).1
  have hl2:l∉pl2:=fun hb=>by
   rcases out2 l hb with q|q
   ·omega
   ·exact hl1 q
  have hz2:∀k∈pl2,∀o,m1 k o=none:=fun k hk=>by
   rw[hpl2]at hk;simpa using(ZxX.1 hk).2
  have hS2':Sat nt w2 ⟨m1,ρ1,[],hS2.glob,false⟩ pl2 τ1 ρ1 m1 act1 w2:=
   ⟨let ⟨ds,h1,h2,h3⟩:=hS2.nod;⟨ds,h1,h2,fun D hD=>⟨.inr (in2 D (h3 D hD).1 (Zx8.1 (h3 D hD).2).1 (fun e=>by have:=(h3 D hD).2;rw[e,v2]at this;cases this) (fun o=>by
    cases hv:m1 D o with
    |none=>rfl
    |some v=>
     have:=hS2.mem D o v hv
     simp[World.mem,World.cell?,(h3 D hD).2]at this)),(h3 D hD).2⟩⟩,hS2.sz,hS2.tm,hS2.bx,hS2.injk,hS2.mem,hS2.offk,
    fun s b j k rr=>.inr (in2 _ (hS2.ownk s b j k rr) (hS2.ltk k rr) (nolk s b j k rr) (hS2.offk s b j k rr)),Keep.ZvU _ _,⟨Le.refl _,fun k hk=>hz2 k hk⟩,fun b o v k=>.inl k,fun i=>rfl⟩
  have hin2:Zf8 (some l) w2 pl2:=fun l' e=>by cases e;exact⟨⟨_,v2⟩,hl2⟩
  have hwb:=ZcG hin2 hm C.2 lb _ (fun e=>by cases e) hlb hb hS2';rw[←u6]at hwb;refine wpIn_mono (wpFF hwb) ?_;have fin:∀(st:Option Code) (act3:Act) (w3:World),Aft nt w2 ⟨m1,ρ1,[],hS2.glob,false⟩ pl2 (retR C ps nt tm i R st) act3 w3→∃v w',(Instr.endRound l st).run P w3=.ok v w'∧CPost w m ρ B R (.returned v) w':=by
   rintro st act3 w3 ⟨τ,ρ3,m3,⟨fz,outs,q1,q1',q2,q3⟩,hS3⟩;obtain⟨m4,hF⟩:=hS3.frzL fz;obtain⟨ρ',g1,g2,g3,g4⟩:=ZhH hF q1 q2;have v3:w3.heap[l]?=some (.loop { r with state:=.busy }):=(hF.keep.block l (Zx8.1 v2).1 hl2).trans v2;have hrun:=run_endRound (P:=P) st v3;obtain⟨w4,hw4⟩:∃w4,w4=w3.putObj l (.loop { { r with state:=.busy }with state:=if st.isNone then .ready else .done,pending:=st }):=⟨_,rfl⟩;rw[←hw4]at hrun;have v4:w4.heap[l]?=some (.loop { { r with state:=.busy }with state:=if st.isNone then .ready else .done,pending:=st }):=by rw[hw4];exact World.putObj_heap_same (Zx8.1 v3).1
   have kw34:Keep [l] w3 w4:=by rw[hw4];exact Zb2 _ _ _
   have par4:∀j,ρ' (.par j)=ρ (.par j):=fun j=>(g3 j).trans ((hF.par j).trans (hS1.par j))
   have hm4:Le m m4:=hS1.base.1.trans hF.base.1;have ksz:w.heap.size≤w2.heap.size:=hS2.keep.size;have nol3:∀s b,(frzL fz τ).b s=some b→¬blk ρ3 w3 s b l:=fun s b k rr=>by
    rcases hF.ownk s b l k rr with q|q
    ·omega
    ·exact hl2 q
   have nol4:∀s b,((frzL fz τ).exp outs outs).lookup s=some b→¬blk ρ' w3 s b l:=fun s b k rr=>by
    obtain⟨s0,b0,e1,e2⟩:=g4 s b l k rr;exact nol3 s0 b0 e1 e2
   have stay4:∀s b,((frzL fz τ).exp outs outs).lookup s=some b→∀j,blk ρ' w3 s b j→w4.heap[j]?=w3.heap[j]?:=fun s b k j rr=>kw34.block _ (by
    obtain⟨s0,b0,e1,e2⟩:=g4 s b j k rr;exact hF.ltk e1 e2) (by
    rw[Zyi];intro e;subst e;exact nol4 s b k rr)
   have back4:∀s b,((frzL fz τ).exp outs outs).lookup s=some b→∀j,blk ρ' w4 s b j→blk ρ' w3 s b j:=fun s b k j rr=>((g2.bx s b k).blk_same (fun r=>stay4 s b k _ (ZaA r))).1 rr
   have hml4:∀o,m4 l o=none:=fun o=>by
    cases hv:m4 l o with
    |none=>rfl
    |some v=>
     have:=hF.mem l o v hv
     simp[World.mem,World.cell?,v3]at this
   refine⟨_,w4,hrun,.bool st.isNone,.pv (.bool st.isNone),_,ρ',m4,rfl,q3,?_,?_,?_,?_,?_,?_,.pv _ _ (.bool _),?_⟩
   ·refine⟨fun s b k=>?_,fun s s' b b' j k k' rr rr'=>?_,fun s b j k rr o=>?_⟩
    ·by_cases hs:s=.par i
     ·subst hs;rw[Zag]at k;cases k;refine⟨by rw[par4];exact hreal,{ { r with state:=.busy }with state:=if st.isNone then .ready else .done,pending:=st },by rw[par4,←hl];exact v4,by cases st<;>rfl,rfl,u4,u5,u6,u7,fun t a k=>?_⟩;obtain⟨v,k1,k2⟩:=u8 t a k;obtain⟨j,hj⟩:=ZdR k;have k3:=k2.more hm4;have k4:=k3.map (g:=id) (ρ':=ρ') (q:=Site.ZvV) (fun s hs=>by
       cases s with
       |par i=>exact par4 i
       |_=>cases hs) (ZaK htm hj)
      rw[Zeq]at k4;exact⟨v,k1,k4⟩
     ·rw[Zad hs]at k;exact(g2.bx s b k).more (Le.refl _) (stay4 s b k)
    ·by_cases hs:s=.par i<;>by_cases hs':s'=.par i
     ·rw[hs,hs']
     ·subst hs;rw[Zag]at k;cases k;rw[Zad hs']at k';have e:=(Za5 rfl rr).2;rw[par4,←hl]at e;subst e;exact absurd (back4 s' b' k' _ rr') (nol4 s' b' k')
     ·subst hs';rw[Zag]at k';cases k';rw[Zad hs]at k;have e:=(Za5 rfl rr').2;rw[par4,←hl]at e;subst e;exact absurd (back4 s b k _ rr) (nol4 s b k)
     ·rw[Zad hs]at k;rw[Zad hs']at k';exact g2.injk s s' b b' j k k' (back4 s b k _ rr) (back4 s' b' k' _ rr')
    ·by_cases hs:s=.par i
     ·subst hs;rw[Zag]at k;cases k;have e:=(Za5 rfl rr).2;rw[par4,←hl]at e;subst e;exact hml4 o
     ·rw[Zad hs]at k;exact g2.offk s b j k (back4 s b k _ rr) o
   ·exact hm4
   ·intro b o v hv;have h1:=hF.mem b o v hv;refine(World.cell?_of_block (a:=⟨b,o,none⟩) (kw34.block b (ZaH h1) ?_)).trans h1;rw[Zyi];intro e;have e':b=l:=e;subst e';rw[hml4 o]at hv;cases hv
   ·exact par4
   ·intro s b j k rr;by_cases hs:s=.par i
    ·subst hs;rw[Zag]at k;cases k;have e:=(Za5 rfl rr).2;rw[par4,←hl]at e;subst e;exact .inr hlB
    ·rw[Zad hs]at k;obtain⟨s0,b0,e1,e2⟩:=g4 s b j k (back4 s b k _ rr);rcases hF.ownk s0 b0 j e1 e2 with q|q
     ·exact .inl (Zx5 ksz q)
     ·exact(out2 _ q).imp id (hpl1' _)
   ·intro b o v hv;rcases hF.fro b o v hv with q|q|q
    ·rcases hS2.fro b o v q with q|q|q
     ·exact .inl q
     ·exact .inr (.inl q)
     ·rcases Zx2.1 q with q|q
      ·subst q;exact .inr (.inr hlB)
      ·exact .inr (.inr (hpl1' _ q))
    ·exact .inr (.inl (Zx5 ksz q))
    ·exact .inr ((out2 _ q).imp id (hpl1' _))
   ·have k1:=hS2.keep;have k3:=hF.keep;refine⟨kw34.os.trans (k3.os.trans k1.os),kw34.tape.trans (k3.tape.trans k1.tape),kw34.output.trans (k3.output.trans k1.output),Zx5 ksz (Zx5 k3.size kw34.size),fun k hk hn=>?_⟩;have hkl:k≠l:=fun e=>hn (e▸hlB)
    have hk1:k∉pl1:=fun q=>hn (hpl1' _ q)
    have a1:=k1.block k hk (by simp[hkl,hk1]);have a2:=k3.block k (by omega) (fun q=>by
     rcases out2 k q with q|q
     ·omega
     ·exact hk1 q)
    have a3:=kw34.block k (by have:=k3.size;omega) (by simpa using hkl);exact a3.trans (a2.trans a1)
  intro e act3 w3 hq3;cases e with
  |normal=>exact fin none act3 w3 hq3
  |ret=>exact fin (some .ret) act3 w3 hq3
  |exit id=>exact fin (some (.exit id)) act3 w3 hq3
  |goto t=>exact hq3.elim
  |panic ch=>exact hq3.elim
  |outgrown=>exact hq3.elim
 |ret=>obtain⟨_,_,_,q,_⟩:=hq;exact q.elim
 |exit id=>obtain⟨_,_,_,q,_⟩:=hq;exact q.elim
 |goto t=>exact hq.elim
 |panic ch=>exact hq.elim
 |outgrown=>exact hq.elim
end
end
section
universe u
section
variable {α:Type u}
end
theorem ZrF (a b:Nat):Nat.beq a b=decide (a=b):=by
 cases h:Nat.beq a b with
 |true=>rw[Nat.eq_of_beq_eq_true h];simp
 |false=>
  have:a≠b:=fun e=>by subst e;rw[Nat.beq_refl]at h;cases h
  simp[this]
def Site.ZvW (d:Nat):Site→Bool
 |.loc e _=>Nat.beq d e
 |_=>false
theorem Site.Zwr (d:Nat)(s:Site):s.ZvW d=s.Zu1 d:=by
 cases s with
 |loc e j=>
  show Nat.beq d e=(d==e);rw[ZrF];rfl
 |_=>rfl
def Site.Zxx:Site→Site→Bool
 |.par i,.par j=>Nat.beq i j
 |.loc a b,.loc c d=>Nat.beq a c&&Nat.beq b d
 |.ret i,.ret j=>Nat.beq i j
 |_,_=>false
theorem Site.Zxk (s t:Site):s.Zxx t=decide (s=t):=by
 cases s<;>cases t<;>simp only[Site.Zxx,ZrF]<;>simp
theorem Site.ZwG (s t:Site):s.Zxx t=(s==t):=by rw[Site.Zxk];rfl
def AV.ZxC (d:Nat)(a:AV):Bool:=match a with
 |.pv _=>false
 |.any=>false
 |.ptr s _=>s.ZvW d
 |.elt s _ _ _=>s.ZvW d
 |.vec s _ _ _=>s.ZvW d
 |.mp s=>s.ZvW d
 |.yld s=>s.ZvW d
 |a=>a.has d
theorem AV.Zxg (d:Nat)(a:AV):a.ZxC d=a.has d:=by cases a<;>simp[AV.ZxC,AV.has,Site.Zwr]
def AV.Zu8 (d:Nat)(a:AV):AV:=match a.ZxC d with
 |true=>.any
 |false=>a
theorem AV.Zu7 (d:Nat)(a:AV):a.Zu8 d=a.Zu0 d:=by
 unfold AV.Zu8 AV.Zu0;rw[AV.Zxg];cases a.has d<;>rfl
def Box.Zu8 (d:Nat):Box→Box
 |.rows e e2 n els=>.rows e e2 n (els.map (RowE.map (AV.Zu0 d)))
 |.cells azz=>.cells (azz.map (AV.Zu8 d))
 |.loop C ps nt tm st=>.loop C ps nt (tm.map fun p=>(p.1,p.2.Zu8 d)) st
 |b=>b
theorem Box.Zu7 (d:Nat)(b:Box):b.Zu8 d=b.Zu0 d:=by
 have h:AV.Zu8 d=AV.Zu0 d:=funext (AV.Zu7 d);cases b<;>simp[Box.Zu8,Box.Zu0,h]
def AS.Zu8 (d:Nat)(σ:AS):AS:=⟨σ.tm.map fun p=>(p.1,p.2.Zu8 d),(σ.bx.filter fun p=>!p.1.ZvW d).map fun p=>(p.1,p.2.Zu8 d)⟩
theorem AS.Zu7 (d:Nat)(σ:AS):σ.Zu8 d=σ.Zu0 d:=by
 have h:AV.Zu8 d=AV.Zu0 d:=funext (AV.Zu7 d);have h2:Box.Zu8 d=Box.Zu0 d:=funext (Box.Zu7 d);have h3:Site.ZvW d=Site.Zu1 d:=funext (Site.Zwr d);simp only[AS.Zu8,AS.Zu0,h,h2,h3]
def lookF {β:Type}(s:Site):List (Site×β)→Option β
 |[]=>none
 |(a,b)::r=>match s.Zxx a with
  |true=>some b
  |false=>lookF s r
theorem ZkY {β:Type}(s:Site):∀l:List (Site×β),lookF s l=l.lookup s
 |[]=>rfl
 |(a,b)::r=>by
  unfold lookF;rw[List.lookup,Site.ZwG,ZkY s r];cases(s==a)<;>rfl
def AS.bF (σ:AS)(s:Site):Option Box:=lookF s σ.bx
theorem AS.Zws (σ:AS)(s:Site):σ.bF s=σ.b s:=ZkY s σ.bx
def memF (s:Site):List Site→Bool
 |[]=>false
 |a::r=>match s.Zxx a with
  |true=>true
  |false=>memF s r
theorem ZnJ (s:Site):∀l:List Site,memF s l=l.contains s
 |[]=>rfl
 |a::r=>by
  unfold memF;rw[List.contains_cons,Site.ZwG,ZnJ s r];cases(s==a)<;>rfl
end
section
def natI (z:Int):Option Nat:=match decide (0≤z)with
 |true=>some z.toNat
 |false=>none
theorem ZbL {z:Int}{n:Nat}:natI z=some n↔z=n:=by
 unfold natI;by_cases h:0≤z
 ·simp[h];omega
 ·simp[h];omega
def Zci (n:Nat)(x:PV):Bool:=(x.cells.length==n)&&((AV.pv x).wide||(AV.pv x).one)
def opXR (l:XOp)(d:Nat)(σ:AS):Option (AV×AS):=
 match l with
 |.eqv neg kt x y=>match σ.o x,σ.o y with
  |.pv a,.pv b=>match kt.ok a&&kt.ok b with
   |true=>some (.pv (.bool (eqK a b != neg)),σ)
   |false=>none
  |_,_=>none
 |.mmk=>some (.mp (.loc d 0),(σ.Zu8 d).add (.loc d 0) (.map []))
 |.look kt z ok x i=>match σ.o i with
  |.pv k=>match kt.ok k with
   |true=>match σ.o x with
    |.mp s=>match σ.bF s with
     |some (.map es)=>match Zbi kt es with
      |true=>some (lookA ok (findV k es) z,σ)
      |false=>none
     |_=>none
    |.pv .nilmap=>some (lookA ok none z,σ)
    |_=>none
   |false=>none
  |_=>none
 |.upd kt x i v=>match σ.o i with
  |.pv k=>match kt.ok k with
   |true=>match σ.o x with
    |.mp s=>match(σ.Zv7 (σ.o v)).bF s,(σ.Zv7 (σ.o v)).o v with
     |some (.map es),.pv val=>match Zbi kt es with
      |true=>some (.any,(σ.Zv7 (σ.o v)).set s (.map (putK k val es)))
      |false=>none
     |_,_=>none
    |_=>none
   |false=>none
  |_=>none
 |.mlen x=>match σ.o x with
  |.mp s=>match σ.bF s with
   |some (.map es)=>some (.pv (.int .i64 es.length),σ)
   |_=>none
  |.pv .nilmap=>some (.pv (.int .i64 0),σ)
  |_=>none
 |.copy n x y=>match σ.cont (σ.o y) n with
  |some ys=>match σ.o x with
   |.pv (.emp _)=>some (.pv (.int .i64 0),σ)
   |.vec s n' lo len=>match σ.bF s with
    |some (.arr e n'' xs)=>match(n'==n)&&(n''==n)&&Nat.ble (lo+len) xs.length with
     |true=>some (.pv (.int .i64 (ys.take len).length),σ.set s (.arr e n (splice xs lo (ys.take len))))
     |false=>none
    |_=>none
   |_=>none
  |none=>none
 |.clear n z x=>match σ.o x with
  |.pv (.emp _)=>some (.pv (.tup []),σ)
  |.vec s n' lo len=>match σ.bF s with
   |some (.arr e n'' xs)=>match(n'==n)&&(n''==n)&&Nat.ble (lo+len) xs.length with
    |true=>some (.pv (.tup []),σ.set s (.arr e n (splice xs lo (List.replicate len z))))
    |false=>none
   |_=>none
  |_=>none
 |.sla n x hi=>match σ.o hi with
  |.pv (.int _ h)=>match natI h with
   |some k=>match σ.o x with
    |.ptr s off=>match σ.bF s with
     |some (.cells as')=>match unpvs as' with
      |some xs=>match Nat.ble k n&&Nat.ble (off+n) xs.length with
       |true=>some (.pv (.lst false 1 ((xs.drop off).take k)),σ.frz s)
       |false=>none
      |none=>none
     |_=>none
    |.pv (.ref xs)=>match Nat.ble k n&&Nat.ble n xs.length with
     |true=>some (.pv (.lst false 1 (xs.take k)),σ)
     |false=>none
    |_=>none
   |none=>none
  |_=>none
 |.slw _ _ _ _=>none
 |.slen x=>match σ.o x with
  |.pv (.str s)=>some (.pv (.int .i64 s.size),σ)
  |_=>none
 |.sidx x i=>match σ.o x,σ.o i with
  |.pv (.str s),.pv (.int _ z)=>match sAt s z with
   |some b=>some (.pv (.int .u8 b.toNat),σ)
   |none=>none
  |_,_=>none
 |.ssl x lo hi=>match σ.o x with
  |.pv (.str s)=>match σ.ob lo 0,σ.ob hi s.size with
   |some l,some h=>match natI l,natI h with
    |some i,some j=>match Nat.ble i j&&Nat.ble j s.size with
     |true=>some (.pv (.str (s.extract i j)),σ)
     |false=>none
    |_,_=>none
   |_,_=>none
  |_=>none
 |.scat x y=>match σ.o x,σ.o y with
  |.pv (.str a),.pv (.str b)=>match Nat.ble (a.size+b.size) 9223372036854775807 with
   |true=>some (.pv (.str (a++b)),σ)
   |false=>none
  |_,_=>none
 |.sbyt _ x=>match σ.o x with
  |.pv (.str s)=>match Nat.ble s.size 1000000 with
   |true=>some (.pv (.lst false 1 (ZaG s)),σ)
   |false=>none
  |_=>none
 |.sof x=>match σ.cont (σ.o x) 1 with
  |some xs=>match Zc2 xs with
   |some ns=>some (.pv (.str (ZeN ns)),σ)
   |none=>none
  |none=>none
 |.mif t x=>match σ.o x with
  |.pv a=>some (.pv (.iface t a),σ)
  |_=>none
 |.nif neg x=>match σ.o x with
  |.pv .nilif=>some (.pv (.bool (!neg)),σ)
  |.pv (.iface _ _)=>some (.pv (.bool neg),σ)
  |_=>none
 |.tas t z x=>match σ.o x with
  |.pv .nilif=>some (.pv (.tup [z,.bool false]),σ)
  |.pv (.iface u a)=>some (.pv (.tup (if u=t then[a,.bool true]else[z,.bool false])),σ)
  |_=>none
 |.pan _=>none
 |.alB _ _=>none
 |.aps e n bytes x y=>match σ.o y with
  |.pv (.str s0)=>match σ.o x with
   |.pv (.emp _)=>match Nat.ble (ZaG s0).length 1000000&&Nat.ble bytes 1000 with
    |true=>some (.vec (.loc d 0) n 0 (ZaG s0).length,(σ.Zu8 d).add (.loc d 0) (.arr e n (ZaG s0)))
    |false=>none
   |.vec s n' lo len=>match σ.bF s with
    |some (.arr e' n'' xs)=>match(e'==e)&&(n'==n)&&(n''==n)&&(lo+len==xs.length)&&Nat.ble (len+(ZaG s0).length) 1000000&&Nat.ble bytes 1000 with
     |true=>some (.vec (.loc d 0) n 0 (len+(ZaG s0).length),((σ.drop s).Zu8 d).add (.loc d 0) (.arr e n (xs.drop lo++ZaG s0)))
     |false=>none
    |_=>none
   |_=>none
  |_=>none
theorem fitA {a b:Nat}(h1:a≤1000000)(h2:b≤1000):a*b≤140737488355328∧a≤9223372036854775807:=
 ⟨Zx5 (Nat.mul_le_mul h1 h2) (by decide),by omega⟩
theorem ZlO {l:XOp}{d:Nat}{σ τ:AS}{a:AV}{K:AV→AS→Prop}(h:opXR l d σ=some (a,τ))(hK:K a τ):opWpX l d K σ:=by
 cases l
 all_goals
  simp only[opXR,AS.Zu7,AS.Zws]at h;simp only[opWpX]
  repeat' split at h
  all_goals first
   |(cases h;done)
   |(cases h;simp_all;done)
   |(cases h;simp_all;exact fitA (by omega) (by omega))
   |(cases h;simp_all;omega)
   |(cases h;simp_all [ZbL];done)
   |(cases h;simp_all [ZbL];omega)
def opR (l:LOp)(d:Nat)(σ:AS):Option (AV×AS):=
 match l with
 |.mov x=>some (σ.o x,σ)
 |.pick c a b=>match σ.o c with
  |.pv (.bool true)=>some (σ.o a,σ)
  |.pv (.bool false)=>some (σ.o b,σ)
  |_=>none
 |.bin bt op x y=>match σ.o x,σ.o y with
  |.pv (.int k a),.pv (.int k' b)=>match binI op k k' a b with
   |some r=>some (.pv r,σ)
   |none=>none
  |.pv (.bool a),.pv (.bool b)=>match bt with
   |true=>match binB op a b with
    |some r=>some (.pv r,σ)
    |none=>none
   |false=>none
  |_,_=>none
 |.not x=>match σ.o x with
  |.pv (.bool a)=>some (.pv (.bool (!a)),σ)
  |_=>none
 |.neg x=>match σ.o x with
  |.pv (.int k a)=>some (.pv (.int k (k.wrap (0-a))),σ)
  |_=>none
 |.nilq k neg x=>match nilOf k (σ.o x)with
  |some b=>some (.pv (.bool (b != neg)),σ)
  |none=>none
 |.x y=>opXR y d σ
 |.box n x=>let a:=(σ.Zu8 d).o x
  match(a.cells.length==n)&&(a.wide||a.one)with
  |true=>some (.ptr (.loc d 0) 0,(σ.Zu8 d).add (.loc d 0) (.cells a.cells))
  |false=>none
 |.alloc z=>some (.ptr (.loc d 0) 0,(σ.Zu8 d).add (.loc d 0) (.cells (z.cells.map .pv)))
 |.build z ps=>match fillA σ (z.cells.map .pv) ps with
  |some l=>some (Zb3 l,σ)
  |none=>none
 |.bslice e n ps=>match(σ.ZwT ps).pvs ps with
  |some []=>some (.pv (.emp (some false)),σ)
  |some (x::xs)=>match(x::xs).all (Zci n)with
   |true=>some (.vec (.loc d 0) n 0 (x::xs).length,((σ.ZwT ps).Zu8 d).add (.loc d 0) (.arr e n (x::xs)))
   |false=>none
  |none=>none
 |.load row n x=>match σ.o x with
  |.pv (.ref cs)=>match row with
   |true=>match Nat.ble n cs.length with
    |true=>some (.pv (.agg (cs.take n)),σ)
    |false=>none
   |false=>match cs with
    |c::_=>some (.pv c,σ)
    |[]=>none
  |.ptr s off=>match σ.bF s with
   |some (.cells azz)=>match row with
    |true=>match Nat.ble (off+n) azz.length with
     |true=>some (Zb3 ((azz.drop off).take n),σ)
     |false=>none
    |false=>match azz[off]? with
     |some a=>some (a,σ)
     |none=>none
   |_=>none
  |.elt s n' i off=>match σ.bF s with
   |some (.arr _ n'' xs)=>match xs[i]? with
    |some x=>match n'==n'' with
     |true=>match row with
      |true=>match Nat.ble (off+n) x.cells.length with
       |true=>some (.pv (.agg ((x.cells.drop off).take n)),σ)
       |false=>none
      |false=>match x.cells[off]? with
       |some c=>some (.pv c,σ)
       |none=>none
     |false=>none
    |none=>none
   |some (.rows _ _ _ els)=>match els[i]? with
    |some (.av a)=>match(n'==1)&&(off==0)&&!row with
     |true=>some (a,σ)
     |false=>none
    |_=>none
   |_=>none
  |_=>none
 |.store n x y=>match σ.o x with
  |.ptr s off=>match σ.bF s with
   |some (.cells azz)=>let a:=σ.o y
    match(a.cells.length==n)&&(a.wide||a.one)&&Nat.ble (off+n) azz.length with
    |true=>some (.any,σ.set s (.cells (splice azz off a.cells)))
    |false=>none
   |_=>none
  |.elt s n' i off=>match σ.bF s with
   |some (.rows e e2 n2 els)=>match(n==1)&&(n'==1)&&(off==0)&&Nat.blt i els.length&&(σ.o y).one with
    |true=>some (.any,σ.set s (.rows e e2 n2 (els.set i (.av (σ.o y)))))
    |false=>none
   |some (.arr _ _ _)=>match(σ.Zv7 (σ.o y)).bF s,(σ.Zv7 (σ.o y)).o y with
    |some (.arr e n'' xs),.pv p=>match xs[i]? with
     |some x=>match(n'==n'')&&Nat.blt 0 n&&Zci n p&&Nat.ble (off+n) x.cells.length with
      |true=>some (.any,(σ.Zv7 (σ.o y)).set s (.arr e n'' (xs.set i (setAt x off p))))
      |false=>none
     |none=>none
    |_,_=>none
   |_=>none
  |_=>none
 |.fa off x=>match σ.o x with
  |.pv (.ref cs)=>match Nat.ble off cs.length with
   |true=>some (.pv (.ref (cs.drop off)),σ)
   |false=>none
  |.ptr s o=>some (.ptr s (o+off),σ)
  |.elt s n i o=>some (.elt s n i (o+off),σ)
  |_=>none
 |.fld row off n x=>let a:=σ.o x
  match a.wide with
  |true=>match row with
   |true=>match Nat.ble (off+n) a.cells.length with
    |true=>some (Zb3 ((a.cells.drop off).take n),σ)
    |false=>none
   |false=>match a.cells[off]? with
    |some c=>some (c,σ)
    |none=>none
  |false=>none
 |.ia n arr x i=>match σ.o i with
  |.pv (.int _ zi)=>match natI zi with
   |none=>none
   |some z=>match arr with
    |none=>match σ.o x with
     |.pv (.lst _ n' xs)=>match xs[z]? with
      |some y=>match n'==n with
       |true=>some (.pv (.ref y.cells),σ)
       |false=>none
      |none=>none
     |.vec s n' lo len=>match(n'==n)&&Nat.blt z len with
      |true=>some (.elt s n (lo+z) 0,σ)
      |false=>none
     |_=>none
    |some l=>match Nat.blt z l with
     |true=>match σ.o x with
      |.pv (.ref cs)=>match Nat.ble (z*n) cs.length with
       |true=>some (.pv (.ref (cs.drop (z*n))),σ)
       |false=>none
      |.ptr s o=>some (.ptr s (o+z*n),σ)
      |.elt s n' j o=>some (.elt s n' j (o+z*n),σ)
      |_=>none
     |false=>none
  |_=>none
 |.len arr x=>match arr with
  |some l=>some (.pv (.int .i64 l),σ)
  |none=>match σ.o x with
   |.pv (.lst _ _ xs)=>some (.pv (.int .i64 xs.length),σ)
   |.pv (.emp _)=>some (.pv (.int .i64 0),σ)
   |.vec _ _ _ len=>some (.pv (.int .i64 len),σ)
   |_=>none
 |.ext x i=>match σ.o x with
  |.pv (.tup vs)=>match vs[i]? with
   |some v=>some (.pv v,σ)
   |none=>none
  |.tup vs=>match vs[i]? with
   |some v=>some (v,σ)
   |none=>none
  |_=>none
 |.mkf f fs cs=>match σ.pvs fs,σ.pvs cs with
  |some a,some b=>some (.pv (.fn f a b),σ)
  |_,_=>some (.fn f (fs.map σ.o) (cs.map σ.o),σ)
 |.nilc x=>match σ.o x with
  |.pv (.ref cs)=>some (.pv (.ref cs),σ)
  |.ptr s o=>some (.ptr s o,σ)
  |.elt s n i o=>some (.elt s n i o,σ)
  |_=>none
 |.minmax mx x y=>match σ.o x,σ.o y with
  |.pv (.int k a),.pv (.int _ b)=>some (.pv (.int k (if mx=true then(if b>a then b else a)else(if b<a then b else a))),σ)
  |_,_=>none
 |.conv k x=>match σ.o x with
  |.pv (.int _ a)=>some (.pv (.int k (k.wrap a)),σ)
  |_=>none
 |.app e n bytes x y=>match σ.cont (σ.o y) n with
  |some ys=>match σ.o x with
   |.pv (.emp _)=>match Nat.ble ys.length 1000000&&Nat.ble bytes 1000 with
    |true=>some (.vec (.loc d 0) n 0 ys.length,(σ.Zu8 d).add (.loc d 0) (.arr e n ys))
    |false=>none
   |.vec s n' lo len=>match σ.bF s with
    |some (.arr e' n'' xs)=>match(e'==e)&&(n'==n)&&(n''==n)&&(lo+len==xs.length)&&Nat.ble (len+ys.length) 1000000&&Nat.ble bytes 1000 with
     |true=>some (.vec (.loc d 0) n 0 (len+ys.length),((σ.drop s).Zu8 d).add (.loc d 0) (.arr e n (xs.drop lo++ys)))
     |false=>none
    |_=>none
   |_=>none
  |none=>none
 |.app0 e n bytes x y=>match σ.cont (σ.o y) n with
  |some ys=>match σ.o x with
   |.pv (.emp _)=>match Nat.ble ys.length 1000000&&Nat.ble bytes 1000 with
    |true=>some (.vec (.loc d 0) n 0 ys.length,(σ.Zu8 d).add (.loc d 0) (.arr e n ys))
    |false=>none
   |_=>none
  |none=>none
 |.mks e n bytes z l c=>match σ.o l,σ.o c with
  |.pv (.int _ ai),.pv (.int _ bi)=>match natI ai,natI bi with
   |some a,some b=>match Nat.ble a b&&Nat.ble b 1000000&&Nat.ble bytes 1000 with
    |true=>some (.vec (.loc d 0) n 0 a,(σ.Zu8 d).add (.loc d 0) (.arr e n (List.replicate a z)))
    |false=>none
   |_,_=>none
  |_,_=>none
 |.slc n none x lo hi none=>match σ.ob lo 0 with
  |some li=>match natI li with
   |none=>none
   |some l=>match σ.o x with
    |.pv (.lst nn n' xs)=>match σ.ob hi xs.length with
     |some hh=>match natI hh with
      |some h=>match Nat.ble l h&&Nat.ble h xs.length&&(n'==n)with
       |true=>some (.pv (.lst nn n ((xs.take h).drop l)),σ)
       |false=>none
      |none=>none
     |none=>none
    |.pv (.emp nl)=>match σ.ob hi 0 with
     |some hh=>match natI hh with
      |some h=>match(l==0)&&(h==0)with
       |true=>some (.pv (.emp nl),σ)
       |false=>none
      |none=>none
     |none=>none
    |.vec s n' lo0 len=>match σ.ob hi len with
     |some hh=>match natI hh with
      |some h=>match Nat.ble l h&&Nat.ble h len&&(n'==n)with
       |true=>some (.vec s n (lo0+l) (h-l),σ)
       |false=>none
      |none=>none
     |none=>none
    |_=>none
  |none=>none
 |_=>none
theorem Zny {l:LOp}{d:Nat}{σ τ:AS}{a:AV}{K:AV→AS→Prop}(h:opR l d σ=some (a,τ))(hK:K a τ):opWp l d K σ:=by
 cases l
 case x y=>exact ZlO h hK
 case bslice e n ps=>
  simp only[opR,AS.Zu7,AS.Zws]at h;simp only[opWp];cases hx:(σ.ZwT ps).pvs ps with
  |none=>rw[hx]at h;cases h
  |some xs=>
   rw[hx]at h;cases xs with
   |nil=>cases h;exact hK
   |cons x r=>
    dsimp only at h ⊢;split at h
    ·rename_i hall;cases h;refine⟨fun y hy=>?_,hK⟩
     have:=Zx7.1 hall y hy
     simpa[Zci]using this
    ·cases h
 case minmax mx x y=>
  simp only[opR,AS.Zu7,AS.Zws]at h;simp only[opWp];split at h
  ·rename_i e1 e2;cases h;rw[e1,e2];exact hK
  ·cases h
 case store n x y=>
  simp only[opR,AS.Zu7,AS.Zws]at h;simp only[opWp];split at h
  ·rename_i s off e1;rw[e1];dsimp only;split at h
   ·rename_i azz hb;rw[hb];dsimp only;split at h
    ·rename_i hc;cases h;simp only[ZxO,beq_iff_eq,Zyk,Nat.ble_eq]at hc;exact⟨hc.1.1,hc.1.2,hc.2,hK⟩
    ·cases h
   ·cases h
  ·rename_i s n' i off e1;rw[e1];dsimp only;split at h
   ·rename_i e e2 n2 els hb;rw[hb];dsimp only;split at h
    ·rename_i hc;cases h;simp only[ZxO,beq_iff_eq]at hc;exact⟨⟨hc.1.1.1.1,hc.1.1.1.2,hc.1.1.2,ZxK hc.1.2,hc.2⟩,hK⟩
    ·cases h
   ·rename_i e0 n0 xs0 hb;rw[hb];dsimp only;split at h
    ·rename_i e n'' xs p hb2 hp;rw[hb2,hp];dsimp only;split at h
     ·rename_i x hx;rw[hx];dsimp only;split at h
      ·rename_i hc;cases h;simp only[ZxO,beq_iff_eq,Nat.ble_eq,Zci,Zyk]at hc;exact⟨hc.1.1.1,ZxK hc.1.1.2,hc.1.2.1,hc.1.2.2,hc.2,hK⟩
      ·cases h
     ·cases h
    ·cases h
   ·cases h
  ·cases h
 case app e n bytes x y=>
  simp only[opR,AS.Zu7,AS.Zws]at h;simp only[opWp]
  repeat' split at h
  all_goals first
   |contradiction
   |(cases h;done)
   |(cases h;simp_all [Zci,ZbL];exact fitA (by omega) (by omega))
   |(cases h;simp_all [Zci,ZbL];exact .inl (fitA (by omega) (by omega)))
 case mkf f fs cs=>
  simp only[opR,AS.Zu7,AS.Zws]at h;simp only[opWp];cases h1:σ.pvs fs<;>cases h2:σ.pvs cs<;>(rw[h1,h2]at h;cases h;exact hK)
 all_goals
  simp only[opR,AS.Zu7,AS.Zws]at h;simp only[opWp]
  repeat' split at h
  all_goals first
   |contradiction
   |(cases h;done)
   |(cases h;simp_all [Zci,ZbL];done)
   |(cases h;simp_all [Zci,ZbL];omega)
   |(cases h;simp_all [Zci,ZbL];exact fitA (by omega) (by omega))
def ZdO:List Site→Bool
 |[]=>true
 |s::r=>!memF s r&&ZdO r
theorem Zbe:∀{l:List Site},ZdO l=true→l.Nodup
 |[],_=>List.nodup_nil
 |s::r,h=>by
  simp only[ZdO,ZxO,Bool.not_eq_true']at h;exact List.nodup_cons.2 ⟨by have:=h.1;rw[ZnJ]at this;simpa using this,Zbe h.2⟩
def fnOf:AV→Option (FuncId×List AV×List AV)
 |.fn g fs cs=>some (g,fs,cs)
 |.pv (.fn g fs cs)=>some (g,fs.map .pv,cs.map .pv)
 |_=>none
abbrev TYR:=Nat→List Nat→Option (LCode×LCode×(Code×Code))
def fuel:Nat:=4000
mutual
def PV.beq:PV→PV→Bool
 |.int k a,.int k' b=>decide (k=k')&&decide (a=b)
 |.bool a,.bool b=>decide (a=b)
 |.str a,.str b=>decide (a.data.toList=b.data.toList)
 |.nilp,.nilp=>true
 |.nilfn,.nilfn=>true
 |.nilmap,.nilmap=>true
 |.nilif,.nilif=>true
 |.opq,.opq=>true
 |.emp a,.emp b=>decide (a=b)
 |.lst a n xs,.lst b m ys=>decide (a=b)&&decide (n=m)&&PV.ZwW xs ys
 |.ref xs,.ref ys=>PV.ZwW xs ys
 |.fn f a b,.fn g c d=>decide (f=g)&&PV.ZwW a c&&PV.ZwW b d
 |.agg xs,.agg ys=>PV.ZwW xs ys
 |.tup xs,.tup ys=>PV.ZwW xs ys
 |.iface t x,.iface u y=>decide (t=u)&&PV.beq x y
 |_,_=>false
def PV.ZwW:List PV→List PV→Bool
 |[],[]=>true
 |x::xs,y::ys=>PV.beq x y&&PV.ZwW xs ys
 |_,_=>false
end
def COk (P:Program)(TY:TYR):LCode→Prop
 |.seq a b=>COk P TY a∧COk P TY b
 |.cond _ a b=>COk P TY a∧COk P TY b
 |.block _ c=>COk P TY c
 |.loop c=>COk P TY c
 |.rng nt _ C la lb ps=>litC P nt C.1=some la∧litC P nt C.2=some lb∧TY nt ps=some (la,lb,C)∧COk P TY la∧COk P TY lb
 |_=>True
def tabOk (TY:TYR):LCode→Prop
 |.seq a b=>tabOk TY a∧tabOk TY b
 |.cond _ a b=>tabOk TY a∧tabOk TY b
 |.block _ c=>tabOk TY c
 |.loop c=>tabOk TY c
 |.rng nt _ C la lb ps=>TY nt ps=some (la,lb,C)∧tabOk TY la∧tabOk TY lb
 |_=>True
theorem Zs9 {P:Program}{TY:TYR}{N:Nat}:∀(c:Code) (l:LCode),litC P N c=some l→tabOk TY l→COk P TY l:=by
 intro c;induction c with
 |seq a b iha ihb=>
  intro l h ht;simp only[litC]at h;split at h
  ·rename_i x y h1 h2;cases h;exact⟨iha _ h1 ht.1,ihb _ h2 ht.2⟩
  ·cases h
 |cond c a b iha ihb=>
  intro l h ht;simp only[litC]at h;split at h
  ·rename_i c' x y h0 h1 h2;cases h;exact⟨iha _ h1 ht.1,ihb _ h2 ht.2⟩
  ·cases h
 |block id c ih=>
  intro l h ht;simp only[litC,ZxP]at h;obtain⟨x,k1,rfl⟩:=h;exact ih x k1 ht
 |loop c ih=>
  intro l h ht;simp only[litC,ZxP]at h;obtain⟨x,k1,rfl⟩:=h;exact ih x k1 ht
 |scope c ih=>intro l h ht;exact ih l h ht
 |rangeFunc g ps a b iha ihb=>
  intro l h ht;simp only[litC]at h;split at h
  ·rename_i g' x y h0 h1 h2;cases h;exact⟨h1,h2,ht.1,iha _ h1 ht.2.1,ihb _ h2 ht.2.2⟩
  ·cases h
 |region id ops draw=>
  intro l h ht;simp only[litC]at h;split at h
  ·cases h;trivial
  ·split at h
   ·simp only[ZxP]at h;obtain⟨x,_,rfl⟩:=h;trivial
   ·cases h
 |_=>intro l h ht;simp[litC]at h<;>subst h<;>trivial
section
variable {P:Program}{TY:TYR}
theorem Znx {l:LOp}{d:Nat}{σ:AS}{K K':AV→AS→Prop}(hk:∀a τ,K a τ→K' a τ)(h:opWp l d K σ):opWp l d K' σ:=by
 cases l
 case x y=>
  simp only[opWp]at h ⊢;cases y
  all_goals
   simp only[opWpX]at h ⊢
   repeat' split at h
   all_goals first
    |exact h.elim
    |exact hk _ _ h
    |exact⟨h.1,hk _ _ h.2⟩
    |exact⟨h.1,h.2.1,hk _ _ h.2.2⟩
    |(simp_all;done)
    |(simp_all<;>first|exact hk _ _ h.2|exact hk _ _ h|exact hk _ _ h.2.2)
 case minmax mx x y=>
  simp only[opWp]at h ⊢;split at h
  ·exact hk _ _ h
  ·exact h.elim
 case app e n bytes x y=>
  simp only[opWp]at h ⊢;split at h
  ·split at h
   ·exact⟨h.1,h.2.1,hk _ _ h.2.2⟩
   ·split at h
    ·exact h.imp (fun h=>⟨h.1,h.2.1,h.2.2.1,hk _ _ h.2.2.2⟩) (fun h=>⟨h.1,h.2.1,h.2.2.1,hk _ _ h.2.2.2.1,hk _ _ h.2.2.2.2⟩)
    ·exact h.elim
   ·exact h.elim
  ·exact h.elim
 all_goals
  simp only[opWp]at h ⊢
  repeat' split at h
  all_goals first
   |exact h.elim
   |(simp_all;done)
   |(simp_all<;>first|exact hk _ _ h.2|exact hk _ _ h|exact hk _ _ h.2.2)
theorem Zj2 {f:Opd}{args:List Opd}{d:Nat}{σ:AS}{K K':AV→AS→Prop}(hk:∀a τ,K a τ→K' a τ)(h:Zb8 P f args d K σ):Zb8 P f args d K' σ:=by
 rcases h with⟨k,g,fs,xs,cs,h1,h2,h3⟩|⟨fz,g,fs,xs,cs,h1,h2,h3⟩
 ·exact .inl ⟨k,g,fs,xs,cs,h1,h2,h3.mono (fun _ _ ⟨y,e1,e2,e3⟩=>⟨y,e1,e2,hk _ _ e3⟩)⟩
 ·exact .inr ⟨fz,g,fs,xs,cs,h1,h2,h3.mono (fun _ _ ⟨e1,e2⟩=>⟨e1,hk _ _ e2⟩)⟩
theorem Zi3 {f:Opd}{args:List Opd}{σ:AS}{K K':AV→AS→Prop}(hk:∀a τ,K a τ→K' a τ)(h:Zc1 P f args K σ):Zc1 P f args K' σ:=by
 obtain⟨d,fz,lent,g,fs,cs,B,h1,h2,h3,h4,h5,h6⟩:=h;exact⟨d,fz,lent,g,fs,cs,B,h1,h2,h3,h4,h5,h6.mono (fun _ _ ⟨e1,e2,e3⟩=>⟨e1,e2,hk _ _ e3⟩)⟩
theorem Zi2 {f:Opd}{args:List Opd}{σ:AS}{K K':AV→AS→Prop}(hk:∀a τ,K a τ→K' a τ)(h:Zc0 P f args K σ):Zc0 P f args K' σ:=by
 obtain⟨d,fz,lent,s,i,B,h1,h2,h3,h4,h5,h6,h7⟩:=h;refine⟨d,fz,lent,s,i,B,h1,h2,h3,h4,h5,h6,fun w m ρ vs a1 a2 a3 a4=>?_⟩;obtain⟨r,k1,k2,k3⟩:=h7 w m ρ vs a1 a2 a3 a4;exact⟨r,k1,k2,k3.mono (fun e w' ⟨v,r,B',ρ',m',q1,⟨e1,e2,e3⟩,q2⟩=>⟨v,r,B',ρ',m',q1,⟨e1,e2,hk _ _ e3⟩,q2⟩)⟩
theorem Zgh {o:LO}{σ:AS}{K K':AV→AS→Prop}(hk:∀a τ,K a τ→K' a τ)(h:runWp P o K σ):runWp P o K' σ:=by
 unfold runWp at h ⊢;split at h
 ·rcases h with h|⟨hlt,h|h⟩
  ·exact Or.inl (Zj2 hk h)
  ·exact Or.inr ⟨hlt,Or.inl (Zi3 hk h)⟩
  ·exact Or.inr ⟨hlt,Or.inr (Zi2 hk h)⟩
 ·exact Znx hk h
theorem ZbC {o:LO}{σ:AS}{K K':AS→Prop}(hk:∀τ,K τ→K' τ)(h:loWp P o K σ):loWp P o K' σ:=by
 unfold loWp at h ⊢;split at h
 ·exact Zgh (fun a τ q=>hk _ q) h
 ·split at h
  ·split at h
   ·rename_i e;rw[if_pos e];exact Zgh (fun a τ q=>hk _ q) h
   ·rename_i e;rw[if_neg e];exact hk _ h
  ·exact hk _ h
  ·exact h.elim
theorem Zgo:∀{l:List LO} {σ:AS} {K K':AS→Prop},(∀τ,K τ→K' τ)→opsWp P l K σ→opsWp P l K' σ
 |[],σ,K,K',hk,h=>hk _ h
 |o::r,σ,K,K',hk,h=>ZbC (fun τ q=>Zgo hk q) h
theorem ZcR:∀{l:LT} {σ:AS} {K K':AS→Prop},(∀τ,K τ→K' τ)→opsT P l K σ→opsT P l K' σ
 |.done,σ,K,K',hk,h=>hk _ h
 |.op o t,σ,K,K',hk,h=>ZbC (fun τ q=>ZcR hk q) h
 |.alt o t r,σ,K,K',hk,h=>⟨ZbC (fun τ q=>ZcR hk q) h.1,ZcR hk h.2⟩
 |.no,σ,K,K',hk,h=>trivial
 |.seq t r,σ,K,K',hk,⟨J,h1,h2⟩=>⟨J,h1,fun τ q=>ZcR hk (h2 τ q)⟩
theorem ZlY {Q Q':AEx→AS→Prop}(hk:∀e τ,Q e τ→Q' e τ):∀{st:Option Code} {σ:AS},jumpQ Q st σ→jumpQ Q' st σ:=by
 intro st σ h;cases st with
 |none=>exact hk _ _ h
 |some c=>cases c<;>first|exact hk _ _ h|exact h.elim
theorem ZbR:∀{c:LCode} {σ:AS} {Q Q':AEx→AS→Prop},awp P c Q σ→(∀e τ,Q e τ→Q' e τ)→awp P c Q' σ
 |.skip,σ,Q,Q',h,hk=>hk _ _ h
 |.region ops,σ,Q,Q',h,hk=>Zgo (fun τ q=>hk _ _ q) h
 |.regT t,σ,Q,Q',h,hk=>ZcR (fun τ q=>hk _ _ q) h
 |.seq a b,σ,Q,Q',h,hk=>ZbR (c:=a) h (fun e τ q=>by
   cases e with
   |normal=>exact ZbR (c:=b) q hk
   |exit id=>exact hk _ _ q
   |ret=>exact hk _ _ q)
 |.cond c a b,σ,Q,Q',h,hk=>by
   unfold awp at h ⊢;split at h
   ·split at h
    ·rename_i e;rw[if_pos e];exact ZbR h hk
    ·rename_i e;rw[if_neg e];exact ZbR h hk
   ·exact h.elim
 |.block id c,σ,Q,Q',h,hk=>ZbR (c:=c) h (fun e τ q=>by
   cases e with
   |normal=>exact hk _ _ q
   |exit id'=>
    by_cases e:id'=id
    ·simp only[Zcf,e,if_true]at q ⊢;exact hk _ _ q
    ·simp only[Zcf,e,if_false]at q ⊢;exact hk _ _ q
   |ret=>exact hk _ _ q)
 |.loop c,σ,Q,Q',⟨I,n,τ,h1,h2,h3⟩,hk=>⟨I,n,τ,h1,h2,fun n τ hI=>ZbR (c:=c) (h3 n τ hI) (fun e τ q=>by
   cases e with
   |normal=>exact q
   |exit id=>exact hk _ _ q
   |ret=>exact hk _ _ q)⟩
 |.exit id,σ,Q,Q',h,hk=>hk _ _ h
 |.ret,σ,Q,Q',h,hk=>hk _ _ h
 |.rng nt g C la lb ps,σ,Q,Q',⟨τ0,hs0,fz,lent,tm,σ1,gf,fs,cs,B,h1,h2,h3,h4,h5,h6,h7,h8⟩,hk=>⟨τ0,hs0,fz,lent,tm,σ1,gf,fs,cs,B,h1,h2,h3,h4,h5,h6,h7,h8.mono (fun r B' ⟨e1,e2,e3⟩=>⟨e1,e2,by
   revert e3;cases(((dropL lent σ1).Zu0 (nt+1)).Zvd (renL lent (nt+1) B')).b (.loc nt 0)with
   |none=>exact fun h=>h.elim
   |some b=>cases b<;>first|exact fun h=>h.elim|exact fun h=>ZlY hk h⟩)⟩
end
end
section
section
variable {P:Program}{TY:TYR}
theorem Zck.mono {i:Nat}{azz:List AV}{B:List (Site×Box)}{Post Post':AV→List (Site×Box)→Prop}(h:Zck P i azz B Post)(hp:∀r B',Post r B'→Post' r B'):Zck P i azz B Post':=
 fun w m ρ vs a1 a2 a3 a4=>let ⟨r,k1,k2,k3⟩:=h w m ρ vs a1 a2 a3 a4;⟨r,k1,k2,k3.mono (fun e w' ⟨v,r,B',ρ',m',q1,q2,q3⟩=>⟨v,r,B',ρ',m',q1,hp _ _ q2,q3⟩)⟩
mutual
theorem PV.beq_eq:∀(x y:PV),x.beq y=true→x=y
 |.int k a,y,h=>by cases y<;>simp[PV.beq]at h;rw[h.1,h.2]
 |.bool a,y,h=>by cases y<;>simp[PV.beq]at h;rw[h]
 |.str a,y,h=>by
  cases y<;>simp[PV.beq]at h;rename_i b;obtain⟨a⟩:=a;obtain⟨b⟩:=b
  have:a=b:=h
  rw[this]
 |.nilp,y,h=>by cases y<;>simp[PV.beq]at h<;>rfl
 |.nilfn,y,h=>by cases y<;>simp[PV.beq]at h<;>rfl
 |.nilmap,y,h=>by cases y<;>simp[PV.beq]at h<;>rfl
 |.nilif,y,h=>by cases y<;>simp[PV.beq]at h<;>rfl
 |.opq,y,h=>by cases y<;>simp[PV.beq]at h<;>rfl
 |.emp a,y,h=>by cases y<;>simp[PV.beq]at h;rw[h]
 |.lst a n xs,y,h=>by
  cases y<;>simp[PV.beq]at h;rw[h.1.1,h.1.2,PV.ZvO _ _ h.2]
 |.ref xs,y,h=>by cases y<;>simp[PV.beq]at h;rw[PV.ZvO _ _ h]
 |.fn f a b,y,h=>by
  cases y<;>simp[PV.beq]at h;rw[h.1.1,PV.ZvO _ _ h.1.2,PV.ZvO _ _ h.2]
 |.agg xs,y,h=>by cases y<;>simp[PV.beq]at h;rw[PV.ZvO _ _ h]
 |.tup xs,y,h=>by cases y<;>simp[PV.beq]at h;rw[PV.ZvO _ _ h]
 |.iface t x,y,h=>by
  cases y<;>simp[PV.beq]at h;rw[h.1,PV.beq_eq _ _ h.2]
theorem PV.ZvO:∀(x y:List PV),PV.ZwW x y=true→x=y
 |[],[],_=>rfl
 |[],_::_,h=>by simp[PV.ZwW]at h
 |_::_,[],h=>by simp[PV.ZwW]at h
 |x::xs,y::ys,h=>by
  simp only[PV.ZwW,ZxO]at h;rw[PV.beq_eq _ _ h.1,PV.ZvO _ _ h.2]
end
end
end
section
def ZaY:Code→List (Code×Code)
 |.seq a b=>ZaY a++ZaY b
 |.cond _ a b=>ZaY a++ZaY b
 |.block _ c=>ZaY c
 |.loop c=>ZaY c
 |.scope c=>ZaY c
 |.rangeFunc _ _ a b=>(a,b)::(ZaY a++ZaY b)
 |_=>[]
def rcode (P:Program)(f:FuncId)(k:Nat):Code×Code:=match P.funcs[f]? with
 |some fn=>match fn.body with
  |some c=>(ZaY c).getD k (.skip,.skip)
  |none=>(.skip,.skip)
 |none=>(.skip,.skip)
def tyOf (l:List ((Nat×List Nat)×(LCode×LCode×(Code×Code)))):TYR:=fun nt ps=>l.lookup (nt,ps)
theorem ZfE {P:Program}{TY:TYR}{f:FuncId}{F:LFn}(h:litF P f=some F)(ht:tabOk TY F.code):COk P TY F.code:=by
 unfold litF at h;split at h
 ·split at h
  ·cases h
  ·split at h
   ·split at h
    ·rename_i l r h1 h2;cases h;exact Zs9 _ _ h1 ht
    ·cases h
   ·cases h
 ·cases h
end
section
open Go.RowKit Go.ChangeShapes Go.WideShapes
theorem Keep.but {w w':World}(h:Keep [] w w')(may:MemPlace→Prop):w.keptBut w' may:=
 ⟨h.os,h.output,fun i hi=>by
  rw[h.block i hi (by simp)];cases w.heap[i]? with
  |none=>rfl
  |some o=>cases o<;>first|exact⟨rfl,rfl,rfl,fun _ _=>rfl⟩|exact .inr ⟨rfl,rfl⟩|rfl⟩
theorem Znn {H:Type}{enc:TypeId×Value→H}{P:Program}{f:Func}{s:ChangeSpec}{apart fresh handsOn again:Bool}{W W':World}{args:Array Value}{v:Value}{ds gs:List (DataW H)}{before pa pv:List MemPlace}
  (hW:DataW.Whole enc P f.params.toList s.vars apart W args.toList ds gs before)
  (hres:∀(b:Nat) (sp:Nat→Bool) (hd:Bool),DataW.TrodAll enc P W' b sp hd f.resultTypes.toList (v.resultList f.resultTypes.size) (s.fn H (ds++gs)).results [])
  (hargs:∀sp:Nat→Bool,(∀p∈before,sp p.block=true)→DataW.TrodAll enc P W' 0 sp true f.params.toList args.toList (s.fn H (ds++gs)).args pa)
  (hvars:∀sp:Nat→Bool,(∀p∈before,sp p.block=true)→DataW.TrodVars enc P W' sp s.vars (s.fn H (ds++gs)).vars pv)
  (hps:before=pa++pv) (hk:Keep [] W W')
  (hok:∀(j:Nat) (t:TypeId) (r:Value),f.resultTypes[j]?=some t→(v.resultList f.resultTypes.size)[j]?=some r→Value.okWide P W' .any 0 t r):
  s.post enc P f apart fresh handsOn again W args v W':=by
 have hlt:=fun p hp=>hW.lt p hp
 have hold:∀p∈before,(fun b=>decide (b<W.heap.size)) p.block=true:=fun p hp=>by simpa using hW.lt p hp
 refine⟨ds,gs,before,[],pa,pv,hW,hres _ _ _,hargs _ hold,hvars _ hold,World.keptBut_mono (fun p hp=>⟨hp,?_⟩) (hk.but (·∈before)),fun _=>?_⟩
 ·rw[hps,Zyp]at hp;exact Or.inr hp
 ·obtain⟨_,_,_,_,_,hz,hn⟩:=hW;refine⟨hok,_,_,([]++pa)++pv,⟨[]++pa,pv,trodAll_append (hargs _ (fun _ _=>rfl)) (hres _ _ _),hvars _ (fun _ _=>rfl),rfl,?_,?_⟩,?_⟩
  ·intro b off hp;have hp':MemPlace.cell b off∈before:=by rw[hps];simpa using hp
   have hb:b<W.heap.size:=hlt _ hp'
   have:=hz b off hp'
   unfold World.frozen? at this ⊢;rw[hk.block b hb (by simp)];exact this
  ·intro ha
   have:=hn ha
   rw[hps]at this;simpa using this
  ·intro p hp _;rw[hps];simpa using hp
theorem ZgO {P:Program}{f:FuncId}{xs:List PV}{b:Bool}(h:Zai P f (xs.map .pv) [] (fun r _=>r=.pv (.bool b))){w:World}{vs:Array Value}(hl:vs.size=xs.length)(hv:∀(j:Nat) (v:Value) (x:PV),vs[j]?=some v→xs[j]?=some x→RdP w.mem v x)(hg:Glob w.mem w:=by exact trivial):
  Calls P f vs w fun e w'=>e=.returned (.bool b)∧Keep [] w w':=by
 refine(h.2 w w.mem (fun _=>default) vs (Bxs.nil _ _ _) ⟨Le.refl _,hg,List.nodup_nil⟩ (by simpa using hl) (fun j d c h1 h2=>?_)).mono fun e w' ⟨v,r,B',ρ',m',he,hr,_,_,_,_,_,_,hrd,hk⟩=>?_
 ·rw[ZxM]at h2;obtain⟨x,k1,rfl⟩:=ZxP.1 h2;exact .pv _ _ (hv j d x h1 k1)
 ·subst hr;rw[hrd.Zvo]at he;exact⟨he,hk⟩
end
section
open Go.RowKit Go.ChangeShapes Go.WideShapes Go.Deep
section
variable {H:Type}{enc:TypeId×Value→H}{P:Program}{w W W':World}{sp:Nat→Bool}{held:Bool}
theorem Zrf {b o n:Nat}{cs:List Value}(h:w.cells? 0 ⟨b,o,none⟩ n=some cs):At w.mem b o cs:=by
 obtain⟨_,h1,h2⟩:=World.cells?_some h;refine At.Zvm fun j u hj=>?_
 have hlt:=(ZxN.1 hj).1;have h3:=h2 j (by omega);rw[hj]at h3;have e:(⟨b,o,none⟩:Addr).add j=⟨b,o+j,none⟩:=by
  unfold Addr.add;split
  ·rename_i h0;subst h0;rfl
  ·rfl
 rw[e]at h3;exact h3
structure CellsP (m:Mem)(n:Nat)(cs:List Value)(x:PV):Prop where
 l1:cs.length=n
 l2:x.cells.length=n
 one:∀d∈cs,d.oneCell'=true
 rd:∀(j:Nat) (d:Value) (c:PV),cs[j]?=some d→x.cells[j]?=some c→RdP m d c
theorem ZjV {α β:Type}{p:Nat→α→β→Prop}:∀(l:List α),(∀(i:Nat) (a:α),l[i]?=some a→∃b,p i a b)→∃r:List β,r.length=l.length∧∀(i:Nat) (a:α) (b:β),l[i]?=some a→r[i]?=some b→p i a b:=by
 intro l;induction l generalizing p with
 |nil=>exact fun _=>⟨[],rfl,fun i a b h=>by simp at h⟩
 |cons x l ih=>
  intro h;obtain⟨b,hb⟩:=h 0 x rfl;obtain⟨r,h1,h2⟩:=ih (p:=fun i=>p (i+1)) (fun i a ha=>h (i+1) a (by simpa using ha));refine⟨b::r,by simp[h1],fun i a b' ha hb'=>?_⟩;cases i with
  |zero=>simp at ha hb';subst ha hb';exact hb
  |succ i=>exact h2 i a b' (by simpa using ha) (by simpa using hb')
theorem Zpz {α:Type}{t e:TypeId}{n:Nat}(f:α→PV)(Q:α→Prop)(ht:P.underlying t=some (.slice e))(hn:P.cellsOf e=n){fuel:Nat}{v:Value}{x:DataW H×List MemPlace}(h:DataW.trod enc P w 0 sp held fuel t [v]=some x)
  (hs:∀a len cap,v=.slice (some a) len cap→a.spot=none) (he:∀(k:Nat) (cs:List Value) (y:DataW H×List MemPlace),DataW.trod enc P w 0 sp held k e cs=some y→cs.length=n→∃a:α,Q a∧CellsP w.mem n cs (f a)):
  ∃l:List α,(∀a∈l,Q a)∧l.length≤9223372036854775807∧RdP w.mem v (.lst false n (l.map f)):=by
 rcases open_slice ht h with⟨h0,_⟩|⟨a,len,cap,m,k,D,Pl,h0,_,hl,hc,hm,_,hx⟩
 ·have:v=.slice none 0 0:=by simpa using h0
  subst this;refine⟨[],fun a ha=>by simp at ha,by simp,?_⟩;exact .lst none 0 false n [] (fun _=>[]) (by simp) (by simp) (fun _=>rfl) (fun A hA=>by cases hA) (fun hh=>by cases hh) (fun i x hx=>by simp at hx) (fun i x hx=>by simp at hx) (fun i x j d c hx=>by simp at hx)
 ·have hv:v=.slice (some a) len cap:=by simpa using h0
  subst hv;have hsp:=hs _ _ _ rfl;obtain⟨b,o,s⟩:=a;simp only at hsp;subst hsp;have hml:len≤m:=by rw[hm];split<;>omega
  have hel:∀(i:Nat) (u:Nat),(List.range len)[i]?=some u→∃z:List Value×α,Q z.2∧At w.mem b (o+i*n) z.1∧CellsP w.mem n z.1 (f z.2):=by
   intro i u hu;have hi:i<len:=by have:=(ZxN.1 hu).1;simpa using this
   obtain⟨cs',h1,h2⟩:=hx i (by omega);rw[hn]at h1;obtain⟨_,hlen,_⟩:=World.cells?_some h1;obtain⟨z,hz1,hz2⟩:=he _ _ _ h2 hlen;refine⟨(cs',z),hz1,?_,hz2⟩;have e:(⟨b,o,none⟩:Addr).add (i*n)=⟨b,o+i*n,none⟩:=by
    unfold Addr.add;split
    ·rename_i h0;rw[h0];rfl
    ·rfl
   rw[e]at h1;exact Zrf h1
  obtain⟨r,hr1,hr2⟩:=ZjV (List.range len) hel;simp only[List.length_range]at hr1;have hr3:∀(i:Nat) (z:List Value×α),r[i]?=some z→Q z.2∧At w.mem b (o+i*n) z.1∧CellsP w.mem n z.1 (f z.2):=fun i z hz=>by
   have hi:i<len:=by have:=(ZxN.1 hz).1;omega
   exact hr2 i i z (by simp[hi]) hz
  refine⟨r.map (·.2),fun a ha=>?_,?_,?_⟩
  ·obtain⟨z,hz,rfl⟩:=ZxY.1 ha;obtain⟨i,hi⟩:=ZxV.1 hz;exact(hr3 i z hi).1
  ·rw[ZxS,hr1];have:maxLen=9223372036854775807:=rfl;omega
  ·have hlen:((r.map (·.2)).map f).length=len:=by simp[hr1]
   have key:∀(i:Nat) (x:PV),((r.map (·.2)).map f)[i]?=some x→∃z,r[i]?=some z∧x=f z.2:=fun i x hx=>by
    rw[List.map_map,ZxM]at hx;obtain⟨z,h1,h2⟩:=ZxP.1 hx;exact⟨z,h1,h2.symm⟩
   have hds:∀(i:Nat) (z:List Value×α),r[i]?=some z→(r.getD i ([],z.2)).1=z.1:=fun i z hz=>by simp[List.getD_eq_getElem?_getD,hz]
   have hd2:∀(i:Nat) (z:List Value×α),r[i]?=some z→(match r[i]? with|some z=>z.1|none=>[])=z.1:=fun i z hz=>by rw[hz]
   rw[←hlen];refine .lst (some ⟨b,o,none⟩) cap false n _ (fun i=>match r[i]? with|some z=>z.1|none=>[]) (by omega) (by have:maxLen=9223372036854775807:=rfl;omega) (fun hh=>by cases hh) (fun A hA=>by cases hA;rfl) (fun hh=>by cases hh) (fun i x hx=>?_) (fun i x hx=>?_) (fun i x j d c hx=>?_)
   ·obtain⟨z,hz,rfl⟩:=key i x hx;refine⟨b,o,rfl,?_⟩;rw[hd2 i z hz];exact(hr3 i z hz).2.1
   ·obtain⟨z,hz,rfl⟩:=key i x hx;rw[hd2 i z hz];exact⟨(hr3 i z hz).2.2.l1,(hr3 i z hz).2.2.l2,(hr3 i z hz).2.2.one⟩
   ·obtain⟨z,hz,rfl⟩:=key i x hx;rw[hd2 i z hz];exact(hr3 i z hz).2.2.rd j d c
theorem ZgA {k:IntKind}{n:Int}(h:(Lit.int k n).wf=true):k.min≤n∧n≤k.max:=by
 simpa[Lit.wf]using h
theorem Zml (hl:laidOutB P=true)(hm:mapsRowed P=true)(hfull:((List.range P.types.size).all fun t=>match P.underlying t with|some (.slice e)=>decide (0<P.cellsOf e)|_=>true)=true){ts:List TypeId}(hts:∀t∈ts,t<P.types.size)
  {vs:List Value} {ds:List (DataW H)} {p:List MemPlace} (h:DataW.TrodAll enc P W 0 (fun _=>true) true ts vs ds p) (hp:∀x∈p,sp x.block=true) (hk:Keep [] W W'):DataW.TrodAll enc P W' 0 sp true ts vs ds p:=by
 have h1:=DataW.TrodAll.respare (kids_rows hl hm) (slices_full_of P hfull) hts h hp;clear h hp;induction ts generalizing vs ds p with
 |nil=>
  obtain⟨rfl,rfl,rfl⟩:=trodAll_nil h1;exact trodAll_mk0
 |cons t ts ih=>
  obtain⟨v,vs',d,ds',a,b,rfl,rfl,rfl,⟨n,hn⟩,h2⟩:=trodAll_cons h1;refine⟨a,b,⟨n,DataW.trod_carry n _ _ _ hn fun x hx=>?_⟩,ih (fun t ht=>hts t (by simp[ht])) h2,rfl⟩;have hlt:=DataW.trod_lt n _ _ _ hn x hx;cases x with
  |cell b o=>
   show W'.cell? _=W.cell? _;unfold World.cell?;rw[hk.block b hlt (by simp)]
  |map b=>
   show W'.heap[b]?=W.heap[b]?;rw[hk.block b hlt (by simp)]
theorem ZkG {f:Func}{s:ChangeSpec}{args:Array Value}{ds gs:List (DataW H)}{before:List MemPlace}{tb:TypeId}(hl:laidOutB P=true)(hm:mapsRowed P=true)(hfull:((List.range P.types.size).all fun t=>match P.underlying t with|some (.slice e)=>decide (0<P.cellsOf e)|_=>true)=true)
  (hts:∀t∈f.params.toList,t<P.types.size) (hvars:s.vars=[]) (hs:s.fn H (ds++gs)={ results:=[.lit (.bool true)],args:=ds }) (hres:f.resultTypes=#[tb]) (htb:P.underlying tb=some .bool)
  (hW:DataW.Whole enc P f.params.toList s.vars false W args.toList ds gs before) (hk:Keep [] W W'):s.post enc P f false true false false W args (.bool true) W':=by
 have hW':=hW;obtain⟨p,q,hA,hV,rfl,hfz,hnd⟩:=hW;rw[hvars]at hV;obtain⟨rfl,rfl⟩:=trodVars_none hV;refine Znn (pa:=p) (pv:=[]) hW' (fun b sp hd=>?_) (fun sp hsp=>?_) (fun sp hsp=>?_) rfl hk ?_
 ·rw[hs,hres];exact trodAll_cons_mk (shut_bool htb _) trodAll_mk0
 ·rw[hs];exact Zml hl hm hfull hts hA (fun x hx=>hsp x (by simp[hx])) hk
 ·rw[hs,hvars];rfl
 ·intro j t r h1 h2;rw[hres]at h1 h2;exact ok_one (f:=f) hres rfl (okWide_bool_mk htb _) j t r (by rw[hres];exact h1) (by rw[hres];exact h2)
end
end
section
open Go.RowKit Go.ChangeShapes Go.WideShapes Go.Deep
section
variable {H:Type}{enc:TypeId×Value→H}{P:Program}{w W W':World}{sp:Nat→Bool}{held:Bool}
theorem Zna {α:Type}{t e:TypeId}{n:Nat}(f:α→PV)(Q:α→Prop)(ht:P.underlying t=some (.slice e))(hn:P.cellsOf e=n)(hn0:0<n){fuel:Nat}{v:Value}{x:DataW H×List MemPlace}(h:DataW.trod enc P w 0 sp held fuel t [v]=some x)
  (he:∀(k:Nat) (cs:List Value) (y:DataW H×List MemPlace),DataW.trod enc P w 0 sp held k e cs=some y→cs.length=n→∃a:α,Q a∧CellsP w.mem n cs (f a)):
  ∃l:List α,(∀a∈l,Q a)∧l.length≤9223372036854775807∧RdP w.mem v (.lst false n (l.map f)):=by
 by_cases hv:∃a cap,v=.slice (some a) 0 cap∧cap≤maxLen
 ·obtain⟨a,cap,rfl,hc⟩:=hv;refine⟨[],fun a ha=>by simp at ha,by simp,?_⟩;have hc':cap≤9223372036854775807:=by have:maxLen=9223372036854775807:=rfl;omega
  exact .lst (some a) cap false n [] (fun _=>[]) (by simp) hc' (fun e=>by cases e) (fun _ _=>rfl) (fun hh=>by cases hh) (fun i x hx=>by simp at hx) (fun i x hx=>by simp at hx) (fun i x j d c hx=>by simp at hx)
 ·refine Zpz f Q ht hn h (fun a len cap e=>?_) he;subst e;rcases open_slice ht h with⟨h0,_⟩|⟨a',len',cap',m,k,D,Pl,h0,_,hl,hc,hm,_,hx⟩
  ·simp at h0
  ·simp at h0;obtain⟨rfl,rfl,rfl⟩:=h0;have hlen:0<len:=by
    rcases Nat.eq_zero_or_pos len with e|e
    ·subst e;exact absurd ⟨a,cap,rfl,hc⟩ hv
    ·exact e
   have hml:len≤m:=by rw[hm];split<;>omega
   obtain⟨cs,h1,_⟩:=hx 0 (by omega);obtain⟨_,h2,h3⟩:=World.cells?_some h1;have h4:=h3 0 (by omega);rw[ZxL (by omega)]at h4
   have:=World.cell?_spot h4
   simpa[Addr.add]using this
end
end
section
def Gives (P:Program)(f:FuncId)(xs:List PV)(y:PV):Prop:=Zai P f (xs.map .pv) [] (fun r B=>r=.pv y∧B=[])
def hold (K:AS→Prop):AS→Prop:=K
def osel (r:Option (AV×AS))(l:LOp)(d:Nat)(K:AV→AS→Prop)(σ:AS):Prop:=match r with
 |some (a,τ)=>K a τ
 |none=>opWp l d K σ
def runS (P:Program)(o:LO)(K:AV→AS→Prop)(σ:AS):Prop:=match o.op with
 |.call _ _=>runWp P o K σ
 |l=>osel (opR l (o.dst.getD 0) σ) l (o.dst.getD 0) K σ
def gsel (P:Program)(a:Option AV)(want:Bool)(o:LO)(K:AS→Prop)(σ:AS):Prop:=match a with
 |some (.pv (.bool b))=>if b=want then runS P o (fun a τ=>K (τ.ZvD o.dst a)) σ else K (σ.ZvD o.dst und)
 |some (.pv (.tup []))=>K (σ.ZvD o.dst und)
 |_=>False
def loS (P:Program)(o:LO)(K:AS→Prop)(σ:AS):Prop:=match o.g with
 |none=>runS P o (fun a τ=>K (τ.ZvD o.dst a)) σ
 |some (t,want)=>gsel P (σ.t t) want o K σ
def opsS (P:Program):List LO→(AS→Prop)→AS→Prop
 |[],K,σ=>K σ
 |o::r,K,σ=>loS P o (hold (opsS P r K)) σ
def opsTS (P:Program):LT→(AS→Prop)→AS→Prop
 |.done,K,σ=>K σ
 |.op o t,K,σ=>loS P o (hold (opsTS P t K)) σ
 |.alt o t r,K,σ=>loS P o (hold (opsTS P t K)) σ∧opsTS P r K σ
 |.no,_,_=>True
 |.seq t r,K,σ=>∃J:AS→Prop,opsTS P t (fun τ'=>∃τ,Sub τ τ'∧J τ) σ∧∀τ,J τ→opsTS P r K τ
def csel (a:AV)(A B:AS→Prop)(σ:AS):Prop:=match a with
 |.pv (.bool true)=>A σ
 |.pv (.bool false)=>B σ
 |_=>False
def awpS (P:Program):LCode→(AEx→AS→Prop)→AS→Prop
 |.skip,Q,σ=>Q .normal σ
 |.region ops,Q,σ=>opsS P ops (Q .normal) σ
 |.regT t,Q,σ=>opsTS P t (Q .normal) σ
 |.seq a b,Q,σ=>awpS P a (thenA (hold (awpS P b Q)) Q) σ
 |.cond c a b,Q,σ=>csel (σ.o c) (hold (awpS P a Q)) (hold (awpS P b Q)) σ
 |.block id c,Q,σ=>awpS P c (Zcf id Q) σ
 |.loop c,Q,σ=>∃(I:Nat→AS→Prop) (n:Nat) (τ:AS),Sub τ σ∧I n τ∧∀n τ,I n τ→awpS P c (thenA (again I n) Q) τ
 |.exit id,Q,σ=>Q (.exit id) σ
 |.ret,Q,σ=>Q .ret σ
 |.rng nt g C _ _ ps,Q,σ=>rngWp P nt g C ps Q σ
section
variable {P:Program}
theorem ZsP {l:LOp}{d:Nat}{K:AV→AS→Prop}{σ:AS}(h:osel (opR l d σ) l d K σ):opWp l d K σ:=by
 unfold osel at h;split at h
 ·rename_i e;exact Zny e h
 ·exact h
theorem Zm2 {o:LO}{K:AV→AS→Prop}{σ:AS}(h:runS P o K σ):runWp P o K σ:=by
 unfold runS at h;split at h
 ·exact h
 ·rename_i hne;unfold runWp;split
  ·rename_i f args e;exact absurd e (hne f args)
  ·exact ZsP h
theorem ZkZ {o:LO}{K:AS→Prop}{σ:AS}(h:loS P o K σ):loWp P o K σ:=by
 unfold loS at h;unfold loWp;split at h
 ·rename_i e;(try rw[e]);exact Zm2 h
 ·rename_i t want e
  (try rw[e])
  (try dsimp only)
  unfold gsel at h;split at h
  ·rename_i b hb
   (try rw[hb])
   (try dsimp only)
   split at h
   ·rename_i e2;rw[if_pos e2];exact Zm2 h
   ·rename_i e2;rw[if_neg e2];exact h
  ·rename_i hb;(try rw[hb]);exact h
  ·exact h.elim
theorem Zhk:∀{l:List LO} {K:AS→Prop} {σ:AS},opsS P l K σ→opsWp P l K σ
 |[],K,σ,h=>h
 |o::r,K,σ,h=>ZbC (fun τ q=>Zhk q) (ZkZ h)
theorem Zdc:∀{l:LT} {K:AS→Prop} {σ:AS},opsTS P l K σ→opsT P l K σ
 |.done,K,σ,h=>h
 |.op o t,K,σ,h=>ZbC (fun τ q=>Zdc q) (ZkZ h)
 |.alt o t r,K,σ,h=>⟨ZbC (fun τ q=>Zdc q) (ZkZ h.1),Zdc h.2⟩
 |.no,K,σ,h=>trivial
 |.seq t r,K,σ,⟨J,h1,h2⟩=>⟨J,Zdc h1,fun τ hJ=>Zdc (h2 τ hJ)⟩
theorem ZaZ:∀{c:LCode} {Q:AEx→AS→Prop} {σ:AS},awpS P c Q σ→awp P c Q σ
 |.skip,Q,σ,h=>h
 |.region ops,Q,σ,h=>Zhk h
 |.regT t,Q,σ,h=>Zdc h
 |.seq a b,Q,σ,h=>by
  have h':awpS P a (thenA (hold (awpS P b Q)) Q) σ:=h;show awp P a (thenA (awp P b Q) Q) σ;refine ZbR (ZaZ h') (fun e τ q=>?_);cases e with
  |normal=>
   have q':awpS P b Q τ:=q;exact ZaZ q'
  |exit id=>exact q
  |ret=>exact q
 |.cond c a b,Q,σ,h=>by
  have h':csel (σ.o c) (hold (awpS P a Q)) (hold (awpS P b Q)) σ:=h;unfold csel at h';unfold awp;split at h'
  ·rename_i e;rw[e];exact ZaZ (c:=a) h'
  ·rename_i e;rw[e];exact ZaZ (c:=b) h'
  ·exact h'.elim
 |.block id c,Q,σ,h=>ZaZ (c:=c) h
 |.loop c,Q,σ,⟨I,n,τ,h1,h2,h3⟩=>⟨I,n,τ,h1,h2,fun n τ hI=>ZaZ (c:=c) (h3 n τ hI)⟩
 |.exit id,Q,σ,h=>h
 |.ret,Q,σ,h=>h
 |.rng _ _ _ _ _ _,Q,σ,h=>h
theorem Zab {f:FuncId}{F:LFn}{args:List AV}{B:List (Site×Box)}{R:AV→List (Site×Box)→Prop}(hm:P.follows .mixedOrders=true)(hf:litF P f=some F)(hn:args.length≤F.nt)
  (h:awpS P F.code (finQ (retF F.res R)) ⟨initT 0 args,B⟩):Zai P f args B R:=ZiZ hm hf hn (ZaZ h)
theorem Zaf {c:LCode}{Q:AEx→AS→Prop}{σ:AS}(I:Nat→AS→Prop)(h0:∃n τ,Sub τ σ∧I n τ)(round:∀J:Nat→AS→Prop,(∀k τ,I k τ→J k τ)→∀n τ,I n τ→awpS P c (thenA (again J n) Q) τ):awpS P (.loop c) Q σ:=
 let ⟨n,τ,h1,h2⟩:=h0;⟨I,n,τ,h1,h2,fun n τ h=>round I (fun _ _ h=>h) n τ h⟩
end
section
variable {P:Program}{σ:AS}{K:AS→Prop}{Q:AEx→AS→Prop}{tm:List (Nat×AV)}{bx:List (Site×Box)}
theorem Zti:hold K ⟨tm,bx⟩=K ⟨tm,bx⟩:=propext ⟨fun h=>h,fun h=>h⟩
theorem Zt9 {d:Nat}{a:AV}:AS.put d a ⟨tm,bx⟩=⟨(d,a)::tm,bx⟩:=rfl
theorem ZsK {d:Nat}{a:AV}:AS.ZvD (some d) a ⟨tm,bx⟩=⟨(d,a)::tm,bx⟩:=rfl
theorem Znj {a:AV}:AS.ZvD none a ⟨tm,bx⟩=⟨tm,bx⟩:=rfl
theorem ZuV {s:Site}{b:Box}:AS.add s b ⟨tm,bx⟩=⟨tm,(s,b)::bx⟩:=rfl
theorem Zt5 {s:Site}{b:Box}:AS.set s b ⟨tm,bx⟩=⟨tm,(s,b)::bx⟩:=rfl
theorem Ztr {s:Site}:AS.drop s ⟨tm,bx⟩=⟨tm,bx.filter fun p=>!decide (p.1=s)⟩:=rfl
theorem ZpC {d:Nat}:AS.Zu0 d ⟨tm,bx⟩=⟨tm.map fun p=>(p.1,p.2.Zu0 d),(bx.filter fun p=>!p.1.Zu1 d).map fun p=>(p.1,p.2.Zu0 d)⟩:=rfl
theorem ZpK:opsS P [] K σ=K σ:=rfl
theorem Znu {o:LO}{r:List LO}:opsS P (o::r) K σ=loS P o (hold (opsS P r K)) σ:=rfl
theorem Zp4:opsTS P .done K σ=K σ:=rfl
theorem Zun {o:LO}{t:LT}:opsTS P (.op o t) K σ=loS P o (hold (opsTS P t K)) σ:=rfl
theorem loS_n {d:Option Nat}{op:LOp}{lt:Bool}:loS P ⟨d,none,op,lt⟩ K σ=runS P ⟨d,none,op,lt⟩ (fun a τ=>K (τ.ZvD d a)) σ:=rfl
theorem loS_g {d:Option Nat}{t:Nat}{want:Bool}{op:LOp}{lt:Bool}:loS P ⟨d,some (t,want),op,lt⟩ K σ=gsel P (σ.t t) want ⟨d,some (t,want),op,lt⟩ K σ:=rfl
theorem Zuy {b want:Bool}{o:LO}:gsel P (some (.pv (.bool b))) want o K σ=if b=want then runS P o (fun a τ=>K (τ.ZvD o.dst a)) σ else K (σ.ZvD o.dst und):=rfl
theorem Ztl {o:LO}:gsel P (some (.pv (.bool true))) true o K σ=runS P o (fun a τ=>K (τ.ZvD o.dst a)) σ:=rfl
theorem Zto {o:LO}:gsel P (some (.pv (.bool false))) false o K σ=runS P o (fun a τ=>K (τ.ZvD o.dst a)) σ:=rfl
theorem Ztm {o:LO}:gsel P (some (.pv (.bool true))) false o K σ=K (σ.ZvD o.dst und):=rfl
theorem Ztn {o:LO}:gsel P (some (.pv (.bool false))) true o K σ=K (σ.ZvD o.dst und):=rfl
theorem Zux {want:Bool}{o:LO}:gsel P (some (.pv (.tup []))) want o K σ=K (σ.ZvD o.dst und):=rfl
theorem Zns {a:AV}{τ:AS}{l:LOp}{d:Nat}{K:AV→AS→Prop}:osel (some (a,τ)) l d K σ=K a τ:=rfl
theorem ZuG {A B:AS→Prop}:csel (.pv (.bool true)) A B σ=A σ:=rfl
theorem ZuH {A B:AS→Prop}:csel (.pv (.bool false)) A B σ=B σ:=rfl
theorem Zo0:awpS P .skip Q σ=Q .normal σ:=rfl
theorem Zj6 {ops:List LO}:awpS P (.region ops) Q σ=opsS P ops (Q .normal) σ:=rfl
theorem Zo1 {t:LT}:awpS P (.regT t) Q σ=opsTS P t (Q .normal) σ:=rfl
theorem Zrb {a b:LCode}:awpS P (.seq a b) Q σ=awpS P a (thenA (hold (awpS P b Q)) Q) σ:=rfl
theorem Zo3 {c:Opd}{a b:LCode}:awpS P (.cond c a b) Q σ=csel (σ.o c) (hold (awpS P a Q)) (hold (awpS P b Q)) σ:=rfl
theorem Zmk {id:Nat}{c:LCode}:awpS P (.block id c) Q σ=awpS P c (Zcf id Q) σ:=rfl
theorem Zo2 {id:Nat}:awpS P (.exit id) Q σ=Q (.exit id) σ:=rfl
theorem Zrc:awpS P .ret Q σ=Q .ret σ:=rfl
theorem Zsa:thenA K Q .normal σ=K σ:=rfl
theorem Zsb {i:Nat}:thenA K Q (.exit i) σ=Q (.exit i) σ:=rfl
theorem Zr9:thenA K Q .ret σ=Q .ret σ:=rfl
theorem ZqW {i:Nat}:Zcf i Q .normal σ=Q .normal σ:=rfl
theorem ZqV {i:Nat}:Zcf i Q .ret σ=Q .ret σ:=rfl
theorem ZqX {i j:Nat}:Zcf i Q (.exit j) σ=if j=i then Q .normal σ else Q (.exit j) σ:=rfl
theorem ZuB {F:AS→Prop}:finQ F .normal σ=F σ:=rfl
theorem ZuA {F:AS→Prop}:finQ F .ret σ=F σ:=rfl
theorem Zaa {f:Opd}{args:List Opd}{d:Nat}{K:AV→AS→Prop}{k:Nat}{g:FuncId}{fs xs cs:List PV}{y:PV}(h1:(σ.o f).snap σ k=some (.fn g fs cs))(h2:snapW (AV.snap σ k) (args.map σ.o)=some xs)
  (hc:Gives P g (fs++xs++cs) y) (hy:y.flat=true) (hK:K (.pv y) σ) {X:Prop}:Zb8 P f args d K σ∨X:=
 .inl (Zi1 h1 h2 (hc.mono (fun _ _ h=>h.1)) hy hK)
end
theorem gl0 {α:Type}{a:α}{l:List α}:(a::l)[0]?=some a:=rfl
theorem gl1 {α:Type}{a b:α}{l:List α}:(a::b::l)[1]?=some b:=rfl
theorem gl2 {α:Type}{a b c:α}{l:List α}:(a::b::c::l)[2]?=some c:=rfl
theorem gl3 {α:Type}{a b c d:α}{l:List α}:(a::b::c::d::l)[3]?=some d:=rfl
attribute [simp] gl0 gl1 gl2 gl3 List.getElem?_cons_succ
theorem Zhp {n:Nat}:natI (n:Int)=some n:=ZbL.2 rfl
theorem ZnI {n:Nat}:natI ((n:Int)+1)=some (n+1):=ZbL.2 (by omega)
theorem Zul:natI 0=some 0:=rfl
theorem Zuk:natI 1=some 1:=rfl
theorem Zuj:natI 2=some 2:=rfl
attribute [simp] Zhp ZnI Zul Zuk Zuj
theorem wrap64 {x:Int}(h:-9223372036854775808≤x∧x≤9223372036854775807):IntKind.i64.wrap x=x:=by rw[IntKind.wrap_i64];omega
theorem ZsB {a b c d:Nat}:(Site.loc a b==Site.loc c d)=(a==c&&b==d):=by rw[Zyr];simp
theorem Zsx {a c:Nat}:(Site.par a==Site.par c)=(a==c):=by rw[Zyr];simp
theorem Zst {a c:Nat}:(Site.ret a==Site.ret c)=(a==c):=by rw[Zyr];simp
theorem ZsA {a b c:Nat}:(Site.loc a b==Site.par c)=false:=rfl
theorem Zsy {a b c:Nat}:(Site.par c==Site.loc a b)=false:=rfl
theorem Zsz {a b c:Nat}:(Site.loc a b==Site.ret c)=false:=rfl
theorem Zsv {a b c:Nat}:(Site.ret c==Site.loc a b)=false:=rfl
theorem Zsw {a c:Nat}:(Site.par a==Site.ret c)=false:=rfl
theorem Zsu {a c:Nat}:(Site.ret a==Site.par c)=false:=rfl
attribute [simp] ZsB Zsx Zst ZsA Zsy Zsz Zsv Zsw Zsu
attribute [simp] Zti Zt9 ZsK Znj ZuV Zt5 Ztr ZpC ZpK Znu Zp4 Zun loS_n loS_g Ztl Zto Ztm Ztn Zux Zuy Zns ZuG ZuH Zo0 Zj6 Zo1 Zrb Zo3 Zmk Zo2 Zrc Zsa Zsb Zr9 ZqW ZqV ZqX ZuB ZuA
attribute [simp] runS runWp opR opXR AS.Zu7 AS.Zws AS.o AS.t AS.b AV.Zu0 AV.has AV.ZvL AV.cells PV.cells AV.wide AV.one initT List.lookup binI binB retF AS.ZwX AS.Zxy ofTup Zb3 unpvs splice subT subB AS.cont AS.ob AS.pvs AS.ZwT AS.Zv7 AS.ZwZ und Zci fillA KT.ok ckAll CK.ok eqK eqL eqC
end
section
attribute [local simp] Box.Zu0 Site.Zu1
section
variable {P:Program}{σ:AS}{K:AV→AS→Prop}
def Zau (σ:AS):List Site→Prop
 |[]=>True
 |s::r=>(∃b,σ.b s=some b∧b.Zu3 noRet=true)∧Zau σ r
theorem Zek:∀{l:List Site},Zau σ l→∀s∈l,∀b,σ.b s=some b→b.Zu3 noRet=true
 |[],_,s,hs,_,_=>by cases hs
 |t::r,h,s,hs,b,hb=>by
  rcases Zx2.1 hs with rfl|hs
  ·obtain⟨b',h1,h2⟩:=h.1;rw[hb]at h1;cases h1;exact h2
  ·exact Zek h.2 s hs b hb
def retB (outs:List Site)(rs:List LRes)(R:AV→List (Site×Box)→Prop)(σ:AS):Prop:=
 ∃l,σ.ZwX rs=some l∧(ofTup l).Zu3 noRet=true∧outs.all noRet=true∧Zau σ outs∧R ((ofTup l).map (expG outs)) (σ.exp outs outs)
theorem Zjl {outs:List Site}{rs:List LRes}{R:AV→List (Site×Box)→Prop}{σ:AS}(h:retB outs rs R σ):retWp rs R σ:=by
 obtain⟨l,h1,h2,h3,h4,h5⟩:=h;exact⟨[],outs,l,h1,h2,h3,fun s hs b hb=>Zek h4 s hs b hb,h5⟩
theorem Zae (outs:List Site){f:FuncId}{F:LFn}{args:List AV}{B:List (Site×Box)}{R:AV→List (Site×Box)→Prop}(hm:P.follows .mixedOrders=true)(hf:litF P f=some F)(hn:args.length≤F.nt)
  (h:awpS P F.code (finQ (retB outs F.res R)) ⟨initT 0 args,B⟩):Zai P f args B R:=ZaW hm hf hn (fun _ h=>Zjl h) (ZaZ h)
theorem Zac (d:Nat)(lent:List Site){f:Opd}{args:List Opd}{d0:Nat}{g:FuncId}{fs cs:List AV}{B:List (Site×Box)}{as':List AV}{R:AV→List (Site×Box)→Prop}(h1:fnOf (σ.o f)=some (g,fs,cs))(h2:ZdO lent=true)(h3:lent.all (fun s=>!s.Zu1 d)=true)
  (hB:Zas σ lent 0 lent=some B) (h4:AV.Zu4 (fun x=>lent.contains x) (fs++args.map σ.o++cs)=true) (ha:AV.Zu9 (inG lent) (fs++args.map σ.o++cs)=as') (hC:Zai P g as' B R)
  (hK:∀r B',R r B'→r.Zu3 (outOk lent)=true∧(∀p∈B',outOk lent p.1=true∧p.2.Zu3 (outOk lent)=true)∧K (r.map (outG lent d)) (((dropL lent σ).Zu0 d).Zvd (renL lent d B'))):
  Zb8 P f args d0 K σ∨(Zc1 P f args K σ∨Zc0 P f args K σ):=by
 refine .inr (.inl ⟨d,[],lent,g,fs,cs,B,?_,Zbe h2,h3,hB,h4,?_⟩)
 ·unfold fnOf at h1;split at h1
  ·rename_i e;cases h1;exact .inl e
  ·rename_i fs' cs' e;cases h1;exact .inr ⟨fs',cs',e,rfl,rfl⟩
  ·cases h1
 ·have:(fs++args.map (frzsL [] σ).o++cs)=fs++args.map σ.o++cs:=rfl
  rw[this,ha];exact hC.mono hK
theorem Zbn {f:Opd}{args:List Opd}{d:Nat}{K:AV→AS→Prop}{k:Nat}{g:FuncId}{fs xs cs:List PV}{y:PV}(h1:(σ.o f).snap σ k=some (.fn g fs cs))(h2:snapW (AV.snap σ k) (args.map σ.o)=some xs)
  (hc:Gives P g (fs++xs++cs) y) (hy:y.flat=true) (hK:K (.pv y) σ):Zb8 P f args d K σ:=Zi1 h1 h2 (hc.mono (fun _ _ h=>h.1)) hy hK
end
end
section
attribute [local simp] Box.Zu0 Site.Zu1
def parsN (n:Nat):List Site:=(List.range n).map .par
def laid:Nat→List Box→List (Site×Box)
 |_,[]=>[]
 |i,b::r=>(.par i,b)::laid (i+1) r
def Site.lt (n:Nat):Site→Bool
 |.par i=>decide (i<n)
 |_=>false
def Zb6 (n:Nat)(L:List Box):Prop:=∀b∈L,b.Zu3 (Site.lt n)=true
theorem Zcv {n:Nat}{s:Site}:s∈parsN n↔s.lt n=true:=by
 unfold parsN;rw[ZxY];constructor
 ·rintro⟨i,hi,rfl⟩;simpa[Site.lt]using hi
 ·intro h;cases s with
  |par i=>exact⟨i,by simpa[Site.lt]using h,rfl⟩
  |loc d j=>cases h
  |ret j=>cases h
theorem Zch {n:Nat}{s:Site}:(parsN n).contains s=s.lt n:=by
 rw[Zyr,Zx4];exact Zcv
theorem ZcQ {n i:Nat}(h:i<n):(parsN n)[i]?=some (.par i):=by simp[parsN,h]
theorem Zjq {n:Nat}:(parsN n).Nodup:=by
 unfold parsN;rw[List.nodup_iff_pairwise_ne,List.pairwise_map];exact List.Pairwise.imp (fun h e=>h (by cases e;rfl)) (List.nodup_iff_pairwise_ne.1 List.nodup_range)
theorem Znq {n i:Nat}(h:i<n):(parsN n).findIdx? (fun x=>decide (x=.par i))=some i:=by
 obtain⟨j,h1,h2⟩:=ZfP (lent:=parsN n) (s:=.par i) (Zcv.2 (by simpa[Site.lt]using h));rw[h1];have hj:j<n:=by
  have:=(ZxN.1 h2).1
  simpa[parsN]using this
 rw[ZcQ hj]at h2;cases h2;rfl
theorem Zej {n:Nat}{s:Site}(h:s.lt n=false):(parsN n).findIdx? (fun x=>decide (x=s))=none:=by
 rw[Zyz];intro x hx;rw[Zcv]at hx
 have:x≠s:=fun e=>by rw[e,h]at hx;cases hx
 simpa using this
theorem ZiA (n:Nat):inG (parsN n)=id:=by
 funext s;unfold inG;cases hs:s.lt n with
 |true=>
  cases s with
  |par i=>rw[Znq (by simpa[Site.lt]using hs)];rfl
  |loc d j=>cases hs
  |ret j=>cases hs
 |false=>rw[Zej hs];rfl
theorem Zel {n d:Nat}{s:Site}(h:s.lt n=true):outG (parsN n) d s=s:=by
 cases s with
 |par i=>show(parsN n).getD i default=_;rw[List.getD_eq_getElem?_getD,ZcQ (by simpa[Site.lt]using h)];rfl
 |loc d j=>cases h
 |ret j=>cases h
theorem ZgJ (n:Nat):expG (parsN n)=id:=by
 funext s;unfold expG;cases s with
 |par i=>rfl
 |loc d j=>dsimp only;rw[Zej rfl];rfl
 |ret j=>dsimp only;rw[Zej rfl];rfl
mutual
theorem AV.Zwh {g:Site→Site}{q:Site→Bool}(hg:∀s,q s=true→g s=s):∀a:AV,a.Zu3 q=true→a.map g=a
 |.any,_=>rfl
 |.pv _,_=>rfl
 |.ptr _ _,h=>by simp only[AV.map];rw[hg _ h]
 |.elt _ _ _ _,h=>by simp only[AV.map];rw[hg _ h]
 |.vec _ _ _ _,h=>by simp only[AV.map];rw[hg _ h]
 |.mp _,h=>by simp only[AV.map];rw[hg _ h]
 |.yld _,h=>by simp only[AV.map];rw[hg _ h]
 |.fn f fs cs,h=>by
  simp only[AV.Zu3,ZxO]at h;simp only[AV.map,AV.ZvH hg fs h.1,AV.ZvH hg cs h.2]
 |.agg cs,h=>by simp only[AV.map,AV.ZvH hg cs h]
 |.tup vs,h=>by simp only[AV.map,AV.ZvH hg vs h]
theorem AV.ZvH {g:Site→Site}{q:Site→Bool}(hg:∀s,q s=true→g s=s):∀l:List AV,AV.Zu4 q l=true→AV.Zu9 g l=l
 |[],_=>rfl
 |a::r,h=>by
  simp only[AV.Zu4,ZxO]at h;simp only[AV.Zu9,AV.Zwh hg a h.1,AV.ZvH hg r h.2]
end
mutual
theorem AV.Zvw {q q':Site→Bool}(hq:∀s,q s=true→q' s=true):∀a:AV,a.Zu3 q=true→a.Zu3 q'=true
 |.any,_=>rfl
 |.pv _,_=>rfl
 |.ptr _ _,h=>hq _ h
 |.elt _ _ _ _,h=>hq _ h
 |.vec _ _ _ _,h=>hq _ h
 |.mp _,h=>hq _ h
 |.yld _,h=>hq _ h
 |.fn f fs cs,h=>by
  simp only[AV.Zu3,ZxO]at h ⊢;exact⟨AV.Zvj hq fs h.1,AV.Zvj hq cs h.2⟩
 |.agg cs,h=>AV.Zvj hq cs h
 |.tup vs,h=>AV.Zvj hq vs h
theorem AV.Zvj {q q':Site→Bool}(hq:∀s,q s=true→q' s=true):∀l:List AV,AV.Zu4 q l=true→AV.Zu4 q' l=true
 |[],_=>rfl
 |a::r,h=>by
  simp only[AV.Zu4,ZxO]at h ⊢;exact⟨AV.Zvw hq a h.1,AV.Zvj hq r h.2⟩
end
theorem Box.Zvw {q q':Site→Bool}(hq:∀s,q s=true→q' s=true){b:Box}(h:b.Zu3 q=true):b.Zu3 q'=true:=by
 cases b with
 |cells azz=>exact AV.Zvj hq azz h
 |loop C ps nt tm st=>exact AV.Zvj hq _ h
 |arr e n xs=>rfl
 |map es=>rfl
 |ext E=>rfl
 |rows e e2 n els=>
  refine Zx7.2 (fun el hel=>?_)
  have:=Zx7.1 h el hel
  cases el with
  |av a=>exact AV.Zvw hq a this
  |own xs=>rfl
theorem Box.Zw8 {g:Site→Site}{q:Site→Bool}(hg:∀s,q s=true→g s=s){b:Box}(h:b.Zu3 q=true):b.ren g=b:=by
 cases b with
 |cells azz=>simp only[Box.ren];rw[AV.ZvH hg azz h]
 |loop C ps nt tm st=>
  simp only[Box.ren];congr 1;have h':∀p∈tm,p.2.Zu3 q=true:=fun p hp=>by
   obtain⟨i,hi⟩:=ZxV.1 hp;exact ZaK (i:=i) h (by rw[ZxM,hi];rfl)
  clear h;induction tm with
  |nil=>rfl
  |cons p r ih=>
   simp only[ZxZ];rw[AV.Zwh hg p.2 (h' p (by simp)),ih (fun x hx=>h' x (by simp[hx]))]
 |arr e n xs=>rfl
 |map es=>rfl
 |ext E=>rfl
 |rows e e2 n els=>
  simp only[Box.ren];congr 1;rw[List.map_congr_left (g:=id) (fun el hel=>?_),List.map_id]
  have:=Zx7.1 h el hel
  cases el with
  |av a=>show RowE.av _=_;rw[AV.Zwh hg a this];rfl
  |own xs=>rfl
theorem Box.ZwM (b:Box):b.ren id=b:=by
 cases b with
 |cells azz=>simp only[Box.ren,Zds]
 |loop C ps nt tm st=>
  simp only[Box.ren,Zeq];congr 1;exact List.map_id tm
 |arr e n xs=>rfl
 |map es=>rfl
 |ext E=>rfl
 |rows e e2 n els=>
  have:AV.map id=id:=funext Zeq
  simp only[Box.ren,this,RowE.map_id,List.map_id]
theorem Zht {n:Nat}{s:Site}(h:s.lt n=true):outOk (parsN n) s=true:=by
 cases s with
 |par i=>simpa[outOk,parsN,Site.lt]using h
 |loc d j=>cases h
 |ret j=>rfl
theorem ZkU {n:Nat}{s:Site}(h:s.lt n=true):noRet s=true:=by
 cases s with
 |par i=>rfl
 |loc d j=>rfl
 |ret j=>cases h
theorem Zhx:∀(L:List Box) (i j:Nat),(laid i L).lookup (.par (i+j))=L[j]?
 |[],i,j=>by simp[laid,List.lookup]
 |b::r,i,0=>by simp[laid,List.lookup]
 |b::r,i,j+1=>by
  rw[laid,Zad (by simp),show i+(j+1)=(i+1)+j by omega,Zhx r (i+1) j];rfl
theorem Zk3:∀(L:List Box) (i:Nat) (p:Site×Box),p∈laid i L→∃j,L[j]?=some p.2∧p.1=.par (i+j)
 |[],i,p,h=>by simp[laid]at h
 |b::r,i,p,h=>by
  rcases Zx2.1 h with rfl|h
  ·exact⟨0,rfl,rfl⟩
  ·obtain⟨j,h1,h2⟩:=Zk3 r (i+1) p h;exact⟨j+1,h1,by rw[h2];congr 1;omega⟩
theorem ZrL {n d:Nat}:∀{s:Site},s.lt n=true→s.Zu1 d=false:=fun{s} h=>by
 cases s with
 |par i=>rfl
 |loc d j=>cases h
 |ret j=>cases h
mutual
theorem AV.ZwS {d:Nat}{q:Site→Bool}(hg:∀s,q s=true→s.Zu1 d=false):∀a:AV,a.Zu3 q=true→a.has d=false
 |.any,_=>rfl
 |.pv _,_=>rfl
 |.ptr _ _,h=>by simp only[AV.has];exact hg _ h
 |.elt _ _ _ _,h=>by simp only[AV.has];exact hg _ h
 |.vec _ _ _ _,h=>by simp only[AV.has];exact hg _ h
 |.mp _,h=>by simp only[AV.has];exact hg _ h
 |.yld _,h=>by simp only[AV.has];exact hg _ h
 |.fn f fs cs,h=>by
  simp only[AV.Zu3,ZxO]at h;simp only[AV.has,AV.ZvR hg fs h.1,AV.ZvR hg cs h.2];rfl
 |.agg cs,h=>by simp only[AV.has];exact AV.ZvR hg cs h
 |.tup vs,h=>by simp only[AV.has];exact AV.ZvR hg vs h
theorem AV.ZvR {d:Nat}{q:Site→Bool}(hg:∀s,q s=true→s.Zu1 d=false):∀l:List AV,AV.Zu4 q l=true→AV.ZvL d l=false
 |[],_=>rfl
 |a::r,h=>by
  simp only[AV.Zu4,ZxO]at h;simp only[AV.ZvL,AV.ZwS hg a h.1,AV.ZvR hg r h.2];rfl
end
theorem AV.ZvE {n d:Nat}{a:AV}(h:a.Zu3 (Site.lt n)=true):a.Zu0 d=a:=by
 unfold AV.Zu0;rw[AV.ZwS (fun s hs=>ZrL hs) a h];rfl
theorem Box.ZvE {n d:Nat}{b:Box}(h:b.Zu3 (Site.lt n)=true):b.Zu0 d=b:=by
 cases b with
 |cells azz=>
  simp only[Box.Zu0];congr 1;have h':∀a∈azz,a.Zu3 (Site.lt n)=true:=fun a ha=>by
   obtain⟨i,hi⟩:=ZxV.1 ha;exact ZaK h hi
  clear h;induction azz with
  |nil=>rfl
  |cons a r ih=>rw[ZxZ,AV.ZvE (h' a (by simp)),ih (fun x hx=>h' x (by simp[hx]))]
 |loop C ps nt tm st=>
  simp only[Box.Zu0];congr 1;have h':∀p∈tm,p.2.Zu3 (Site.lt n)=true:=fun p hp=>by
   obtain⟨i,hi⟩:=ZxV.1 hp;exact ZaK (i:=i) h (by rw[ZxM,hi];rfl)
  clear h;induction tm with
  |nil=>rfl
  |cons p r ih=>rw[ZxZ,AV.ZvE (h' p (by simp)),ih (fun x hx=>h' x (by simp[hx]))]
 |arr e n xs=>rfl
 |map es=>rfl
 |ext E=>rfl
 |rows e e2 n' els=>
  simp only[Box.Zu0];congr 1;rw[List.map_congr_left (g:=id) (fun el hel=>?_),List.map_id]
  have:=Zx7.1 h el hel
  cases el with
  |av a=>show RowE.av _=_;rw[AV.ZvE this];rfl
  |own xs=>rfl
theorem Zev {n d:Nat}:∀{X:List Box} {i:Nat},Zb6 n X→((laid i X).filter fun p=>!p.1.Zu1 d).map (fun p=>(p.1,p.2.Zu0 d))=laid i X
 |[],i,h=>rfl
 |b::r,i,h=>by
  have hb:=h b (by simp);have hr:Zb6 n r:=fun x hx=>h x (by simp[hx])
  rw[laid,List.filter_cons_of_pos (by rfl),ZxZ,Zev hr,Box.ZvE hb]
theorem Zhw {m:Nat}:∀{X:List Box} {i:Nat},i+X.length≤m→(laid i X).filter (fun p=>!p.1.lt m)=[]
 |[],i,h=>rfl
 |b::r,i,h=>by
  rw[Zyg]at h;rw[laid,List.filter_cons_of_neg (by simp[Site.lt];omega),Zhw (by omega)]
theorem ZjQ {m:Nat}{tm:List (Nat×AV)}{bx:List (Site×Box)}:dropL (parsN m) ⟨tm,bx⟩=⟨tm,bx.filter fun p=>!p.1.lt m⟩:=by
 have:∀(l:List Site) (bx:List (Site×Box)),dropL l ⟨tm,bx⟩=⟨tm,bx.filter fun p=>!l.contains p.1⟩:=by
  intro l;induction l with
  |nil=>intro bx;show(⟨tm,bx⟩:AS)=⟨tm,_⟩;rw[List.filter_eq_self.2];intro _ _;rfl
  |cons s r ih=>
   intro bx;rw[dropL,AS.drop,ih,List.filter_filter];congr 1;apply List.filter_congr;intro p hp;rw[List.contains_cons];by_cases e:p.1=s
   ·simp[e]
   ·simp[e]
 rw[this];congr 1;apply List.filter_congr;intro p hp;rw[Zch]
theorem ZfG {σ:AS}{n:Nat}:∀(r:List Site) (i:Nat) (L:List Box),(∀j s,r[j]?=some s→s=Site.par (i+j))→r.length=L.length→(∀j b,L[j]?=some b→σ.b (.par (i+j))=some b)→Zb6 n L→
  Zas σ (parsN n) i r=some (laid i L)
 |[],i,[],_,_,_,_=>rfl
 |[],i,b::L,_,h,_,_=>by simp at h
 |s::r,i,[],_,h,_,_=>by simp at h
 |s::r,i,b::L,hs,hl,hb,hc=>by
  have h0:s=.par i:=hs 0 s rfl;have h1:=ZfG r (i+1) L (fun j s' e=>by rw[hs (j+1) s' (by simpa using e)];congr 1;omega) (by simpa using hl) (fun j b' e=>by rw[show i+1+j=i+(j+1) by omega];exact hb (j+1) b' (by simpa using e)) (fun x hx=>hc x (by simp[hx]));subst h0;have h2:σ.b (.par i)=some b:=hb 0 b rfl;have h3:b.Zu3 (fun x=>(parsN n).contains x)=true:=Box.Zvw (fun s hs=>by rw[Zch];exact hs) (hc b (by simp));simp only[Zas,h2,h1,h3,if_pos,ZiA,Box.ZwM,laid]
def sees (σ:AS)(L:List Box):Prop:=∀j b,L[j]?=some b→σ.b (.par j)=some b
theorem ZjA {σ:AS}{n:Nat}{L:List Box}(hl:L.length=n)(hs:sees σ L)(hc:Zb6 n L):Zas σ (parsN n) 0 (parsN n)=some (laid 0 L):=
 ZfG _ _ _ (fun j s e=>by
  have:j<n:=by have:=(ZxN.1 e).1;simpa[parsN]using this
  rw[ZcQ this]at e;cases e;simp) (by simp[parsN,hl]) (fun j b e=>by simpa using hs j b e) hc
theorem Zia {n d:Nat}:∀{L:List Box} {i:Nat},i+L.length≤n→Zb6 n L→renL (parsN n) d (laid i L)=laid i L
 |[],i,_,_=>rfl
 |b::r,i,h,hc=>by
  rw[Zyg]at h;have h1:=Zia (L:=r) (i:=i+1) (d:=d) (by omega) (fun x hx=>hc x (by simp[hx]));unfold renL at h1 ⊢;rw[laid,ZxZ,h1];rw[Zel (by simp[Site.lt];omega),Box.Zw8 (fun s hs=>Zel hs) (hc b (by simp))]
theorem Zew {n:Nat}{L:List Box}(h:L.length≤n)(hc:Zb6 n L):∀p∈laid 0 L,outOk (parsN n) p.1=true∧p.2.Zu3 (outOk (parsN n))=true:=fun p hp=>by
 obtain⟨j,h1,h2⟩:=Zk3 L 0 p hp;have hj:=(ZxN.1 h1).1;refine⟨Zht (by rw[h2];simp[Site.lt];omega),Box.Zvw (fun s hs=>Zht hs) (hc _ (ZxQ h1))⟩
theorem Zli {σ:AS}{n:Nat}:∀(r:List Site) (i:Nat) (L:List Box),(∀j s,r[j]?=some s→s=Site.par (i+j))→r.length=L.length→(∀j b,L[j]?=some b→σ.b (.par (i+j))=some b)→σ.exp (parsN n) r=laid i L
 |[],i,[],_,_,_=>rfl
 |[],i,b::L,_,h,_=>by simp at h
 |s::r,i,[],_,h,_=>by simp at h
 |s::r,i,b::L,hs,hl,hb=>by
  have h0:s=.par i:=hs 0 s rfl;have h1:=Zli (n:=n) r (i+1) L (fun j s' e=>by rw[hs (j+1) s' (by simpa using e)];congr 1;omega) (by simpa using hl) (fun j b' e=>by rw[show i+1+j=i+(j+1) by omega];exact hb (j+1) b' (by simpa using e));subst h0;have h2:σ.b (.par i)=some b:=hb 0 b rfl;simp only[AS.exp,h2,h1,ZgJ,Box.ZwM,laid,id]
theorem Zqu {σ:AS}{n:Nat}{L:List Box}(hl:L.length=n)(hs:sees σ L):σ.exp (parsN n) (parsN n)=laid 0 L:=
 Zli _ _ _ (fun j s e=>by
  have:j<n:=by have:=(ZxN.1 e).1;simpa[parsN]using this
  rw[ZcQ this]at e;cases e;simp) (by simp[parsN,hl]) (fun j b e=>by simpa using hs j b e)
theorem Zik {σ:AS}:∀{l:List Site},(∀s∈l,∃b,σ.b s=some b∧b.Zu3 noRet=true)→Zau σ l
 |[],_=>trivial
 |s::r,h=>⟨h s (by simp),Zik (fun x hx=>h x (by simp[hx]))⟩
theorem Zjr {σ:AS}{n:Nat}{L:List Box}(hl:L.length=n)(hs:sees σ L)(hc:Zb6 n L):Zau σ (parsN n):=Zik (fun s h=>by
 rw[Zcv]at h;cases s with
 |par i=>
  have hi:i<L.length:=by rw[hl];simpa[Site.lt]using h
  exact⟨L[i],hs i _ (ZxL hi),Box.Zvw (fun s hs=>ZkU hs) (hc _ (Zyh hi))⟩
 |loc d j=>cases h
 |ret j=>cases h)
theorem Ziz {d e j:Nat}:Site.Zu1 d (.loc e j)=(d==e):=rfl
theorem Ziy {d j:Nat}:Site.Zu1 d (.par j)=false:=rfl
theorem Zix {d j:Nat}:Site.Zu1 d (.ret j)=false:=rfl
theorem Zfm {d:Nat}{l:List AV}:Box.Zu0 d (.cells l)=.cells (l.map (AV.Zu0 d)):=rfl
theorem Zie {d:Nat}{l:List (PV×PV)}:Box.Zu0 d (.map l)=.map l:=rfl
theorem Zif {d n:Nat}{e:TypeId}{l:List PV}:Box.Zu0 d (.arr e n l)=.arr e n l:=rfl
theorem Zgl {d nt:Nat}{C:Code×Code}{ps:List Nat}{tm:List (Nat×AV)}{st:Option Code}:Box.Zu0 d (.loop C ps nt tm st)=.loop C ps nt (tm.map fun p=>(p.1,p.2.Zu0 d)) st:=rfl
theorem Zb0 {tm:List (Nat×AV)}{X:List Box}{r:List (Site×Box)}:sees ⟨tm,laid 0 X++r⟩ X:=fun j b h=>by
 have h1:(laid 0 X).lookup (.par j)=some b:=by have:=Zhx X 0 j;rw[Zyj]at this;rw[this];exact h
 show(laid 0 X++r).lookup (.par j)=some b;clear h;generalize laid 0 X=l at h1;induction l with
 |nil=>cases h1
 |cons p l ih=>
  obtain⟨a,c⟩:=p;by_cases e:Site.par j=a
  ·subst e;rw[Zag]at h1;rw[List.cons_append,Zag];exact h1
  ·rw[Zad e]at h1;rw[List.cons_append,Zad e];exact ih h1
theorem Zct {tm:List (Nat×AV)}{X:List Box}{p:Site×Box}{r:List (Site×Box)}(hp:p.1.lt X.length=false)(h:sees ⟨tm,r⟩ X):sees ⟨tm,p::r⟩ X:=fun j b hj=>by
 have hl:=(ZxN.1 hj).1;obtain⟨a,c⟩:=p;have hne:Site.par j≠a:=fun e=>by subst e;simp[Site.lt]at hp;omega
 show((a,c)::r).lookup (.par j)=some b;rw[Zad hne];exact h j b hj
theorem Zak {P:Program}{o:LO}{t r:LT}{K:AS→Prop}{σ:AS}:opsTS P (.alt o t r) K σ=(loS P o (hold (opsTS P t K)) σ∧hold (opsTS P r K) σ):=rfl
theorem Zaq {P:Program}{K:AS→Prop}{σ:AS}:opsTS P .no K σ=True:=rfl
theorem Zdt {P:Program}{t r:LT}{K:AS→Prop}{σ:AS}(τ:AS)(h1:opsTS P t (fun τ'=>Sub τ τ') σ)(h2:opsTS P r K τ):opsTS P (.seq t r) K σ:=
 ⟨fun x=>x=τ,by
  have:(fun τ'=>∃x,Sub x τ'∧x=τ)=fun τ'=>Sub τ τ':=by
   funext τ';exact propext ⟨fun⟨x,h,e⟩=>e▸h,fun h=>⟨τ,h,rfl⟩⟩
  rw[this];exact h1,fun x e=>by subst e;exact h2⟩
theorem ZhZ {σ:AS}:∀{X:List Box} {i:Nat},(∀j b,X[j]?=some b→σ.b (.par (i+j))=some b)→subB (laid i X) σ
 |[],i,h=>trivial
 |b::r,i,h=>⟨h 0 b rfl,ZhZ (fun j b' e=>by rw[show i+1+j=i+(j+1) by omega];exact h (j+1) b' (by simpa using e))⟩
theorem ZcM {σ:AS}{X:List Box}(h:sees σ X):subB (laid 0 X) σ:=ZhZ (fun j b e=>by rw[Zyj];exact h j b e)
section
variable {P:Program}{σ:AS}{K:AV→AS→Prop}
theorem Zh7 {n:Nat}{rs:List LRes}{R:AV→List (Site×Box)→Prop}{L:List Box}{l:List AV}(h:σ.ZwX rs=some l)(ho:(ofTup l).Zu3 noRet=true)(hl:L.length=n)(hs:sees σ L)(hc:Zb6 n L)(hR:R (ofTup l) (laid 0 L)):retB (parsN n) rs R σ:=by
 refine⟨l,h,ho,?_,Zjr hl hs hc,?_⟩
 ·rw[Zx7];intro s hs;exact ZkU (Zcv.1 hs)
 ·rw[Zqu hl hs,ZgJ,Zeq];exact hR
theorem ZlB (d m:Nat)(X:List Box){f:Opd}{args:List Opd}{d0:Nat}{R:AV→List (Site×Box)→Prop}(h1:σ.o f=.yld (.par 0))(hm:0<m)(hl:X.length=m)(hs:sees σ X)(hc:Zb6 m X)
  (h4:AV.Zu4 (Site.lt m) (args.map σ.o)=true) (hC:Zck P 0 (args.map σ.o) (laid 0 X) R)
  (hK:∀r B',R r B'→∃L',B'=laid 0 L'∧L'.length=m∧Zb6 m L'∧r.Zu3 (Site.lt m)=true∧K r ((((⟨σ.tm,σ.bx.filter fun p=>!p.1.lt m⟩:AS).Zu0 d)).Zvd (laid 0 L'))):
  Zb8 P f args d0 K σ∨(Zc1 P f args K σ∨Zc0 P f args K σ):=by
 refine .inr (.inr ⟨d,[],parsN m,.par 0,0,laid 0 X,h1,ZcQ hm,Zjq,?_,ZjA hl hs hc,?_,?_⟩)
 ·rw[Zx7];intro s hs;rw[ZrL (Zcv.1 hs)];rfl
 ·exact AV.Zvj (fun s hs=>by rw[Zch];exact hs) _ h4
 ·rw[ZiA,Zds];refine hC.mono (fun r B' h=>?_);obtain⟨L',rfl,k1,k2,k3,k4⟩:=hK r B' h;refine⟨AV.Zvw (fun s hs=>Zht hs) _ k3,Zew (by omega) k2,?_⟩;rw[AV.Zwh (fun s hs=>Zel hs) _ k3,Zia (by omega) k2];cases σ;simp only[frzsL];rw[ZjQ];exact k4
end
end
section
attribute [local simp] Box.Zu0 Site.Zu1
section
variable {P:Program}{σ:AS}{K:AV→AS→Prop}
end
end
section
attribute [local simp] Box.Zu0 Site.Zu1
theorem ZaX {P:Program}(hm:P.follows .mixedOrders=true){C:Code×Code}{ps:List Nat}{nt i:Nat}{tm:List (Nat×AV)}{la lb:LCode}(hla:litC P nt C.1=some la)(hlb:litC P nt C.2=some lb){as':List AV}{B:List (Site×Box)}
  {R:AV→List (Site×Box)→Prop} (hB:B.lookup (.par i)=some (.loop C ps nt tm none)) (hps:ps.length=as'.length) (hpn:∀p∈ps,p<nt) (htm:AV.Zu4 Site.ZvV (tm.map (·.2))=true)
  (h:awpS P la (thenA (hold (awpS P lb (Zm4 C ps nt tm i R))) (fun _ _=>False)) ⟨putL ps as' tm,B.filter fun p=>!decide (p.1=.par i)⟩):Zck P i as' B R:=by
 refine ZgZ hm hla hlb hB hps hpn htm ?_;refine ZbR (ZaZ h) (fun e τ q=>?_);cases e with
 |normal=>
  have q':awpS P lb (Zm4 C ps nt tm i R) τ:=q;exact ZaZ q'
 |exit id=>exact q
 |ret=>exact q
section
variable {P:Program}{σ:AS}
theorem Zc9 (lent:List Site)(tm:List (Nat×AV)){nt:Nat}{g:Opd}{C:Code×Code}{ps:List Nat}{la lb:LCode}{Q:AEx→AS→Prop}{gf:FuncId}{fs cs as':List AV}{B:List (Site×Box)}{R:AV→List (Site×Box)→Prop}
  (h1:fnOf (((σ.Zu0 nt).add (.loc nt 0) (.loop C ps nt tm none)).o g)=some (gf,fs,cs)) (htm:subT tm (σ.Zu0 nt)) (h2:ZdO lent=true) (h3:lent.all (fun s=>!s.Zu1 (nt+1))=true)
  (hB:Zas ((σ.Zu0 nt).add (.loc nt 0) (.loop C ps nt tm none)) lent 0 lent=some B) (h4:AV.Zu4 (fun x=>lent.contains x) (fs++[.yld (.loc nt 0)]++cs)=true) (ha:AV.Zu9 (inG lent) (fs++[.yld (.loc nt 0)]++cs)=as') (hC:Zai P gf as' B R)
  (hK:∀r B',R r B'→r.Zu3 (outOk lent)=true∧(∀p∈B',outOk lent p.1=true∧p.2.Zu3 (outOk lent)=true)∧
   ∃C' ps' nt' tm' st,(((dropL lent ((σ.Zu0 nt).add (.loc nt 0) (.loop C ps nt tm none))).Zu0 (nt+1)).Zvd (renL lent (nt+1) B')).b (.loc nt 0)=some (.loop C' ps' nt' tm' st)∧
    jumpQ Q st ((((dropL lent ((σ.Zu0 nt).add (.loc nt 0) (.loop C ps nt tm none))).Zu0 (nt+1)).Zvd (renL lent (nt+1) B')).drop (.loc nt 0))):
  awpS P (.rng nt g C la lb ps) Q σ:=by
 show rngWp P nt g C ps Q σ;refine⟨σ,Sub.Zxz σ,[],lent,tm,_,gf,fs,cs,B,fun t a k=>Zfe htm t a k,rfl,?_,Zbe h2,h3,hB,h4,?_⟩
 ·unfold fnOf at h1;split at h1
  ·rename_i e;cases h1;exact .inl e
  ·rename_i fs' cs' e;cases h1;exact .inr ⟨fs',cs',e,rfl,rfl⟩
  ·cases h1
 ·rw[ha];refine hC.mono (fun r B' h=>?_);obtain⟨k1,k2,C',ps',nt',tm',st,k3,k4⟩:=hK r B' h;refine⟨k1,k2,?_⟩;have k3':(((dropL lent ((((frzsL [] σ).Zu0 nt).add (.loc nt 0) (.loop C ps nt tm none)))).Zu0 (nt+1)).Zvd (renL lent (nt+1) B')).b (.loc nt 0)=some (.loop C' ps' nt' tm' st):=k3;rw[k3'];exact k4
theorem ZsF {nt:Nat}{g:Opd}{C:Code×Code}{ps:List Nat}{la lb:LCode}{Q:AEx→AS→Prop}{τ:AS}(hs:Sub τ σ)(h:awpS P (.rng nt g C la lb ps) Q τ):awpS P (.rng nt g C la lb ps) Q σ:=by
 obtain⟨τ0,h1,h2⟩:rngWp P nt g C ps Q τ:=h;exact⟨τ0,h1.trans' hs,h2⟩
end
end
section
attribute [local simp] Box.Zu0 Site.Zu1
def retFz (fz:List Site)(rs:List LRes)(R:AV→List (Site×Box)→Prop)(σ:AS):Prop:=retF rs R (frzL fz σ)
theorem Zpu {fz:List Site}{rs:List LRes}{R:AV→List (Site×Box)→Prop}{σ:AS}(h:retFz fz rs R σ):retWp rs R σ:=by
 unfold retFz retF at h;split at h
 ·rename_i l hl;split at h
  ·rename_i x hx;exact⟨fz,[],l,hl,by rw[hx];rfl,rfl,(fun s hs=>by cases hs),by rw[hx];exact h⟩
  ·exact h.elim
 ·exact h.elim
theorem Zah {P:Program}(fz:List Site){f:FuncId}{F:LFn}{args:List AV}{B:List (Site×Box)}{R:AV→List (Site×Box)→Prop}(hm:P.follows .mixedOrders=true)(hf:litF P f=some F)(hn:args.length≤F.nt)
  (h:awpS P F.code (finQ (retFz fz F.res R)) ⟨initT 0 args,B⟩):Zai P f args B R:=ZaW hm hf hn (fun _ h=>Zpu h) (ZaZ h)
theorem nble {a b:Nat}:Nat.ble a b=decide (a≤b):=by rw[Zyr,Nat.ble_eq];simp
theorem nblt {a b:Nat}:Nat.blt a b=decide (a<b):=by rw[Zyr,Nat.blt_eq];simp
end
section
set_option maxRecDepth 100000
@[simp] def O (d:Nat)(x:LOp):LO:=⟨some d,none,x,true⟩
@[simp] def Of (d:Nat)(x:LOp):LO:=⟨some d,none,x,false⟩
@[simp] def N (x:LOp):LO:=⟨none,none,x,true⟩
@[simp] def Nf (x:LOp):LO:=⟨none,none,x,false⟩
@[simp] def G (d g:Nat)(b:Bool)(x:LOp):LO:=⟨some d,some (g,b),x,true⟩
@[simp] def Gf (d g:Nat)(b:Bool)(x:LOp):LO:=⟨some d,some (g,b),x,false⟩
@[simp] def Ng (g:Nat)(b:Bool)(x:LOp):LO:=⟨none,some (g,b),x,true⟩
@[simp] def Nh (g:Nat)(b:Bool)(x:LOp):LO:=⟨none,some (g,b),x,false⟩
@[simp] def I (n:Int):Opd:=.c (.int .i64 n)
@[simp] def C (n:Nat):Opd:=.c (.fn n [] [])
@[simp] def M (n:Nat):LOp:=.mov (.t n)
@[simp] def Om (d s:Nat):LO:=⟨some d,none,.mov (.t s),true⟩
@[simp] def OM (d:Nat)(n:Int):LO:=⟨some d,none,.mov (.c (.int .i64 n)),true⟩
@[simp] def Ol (d n s:Nat):LO:=⟨some d,none,.load false n (.t s),true⟩
@[simp] def Ot (d n s:Nat):LO:=⟨some d,none,.load true n (.t s),true⟩
@[simp] def Oa (d n s:Nat):LO:=⟨some d,none,.fa n (.t s),true⟩
@[simp] def Oi (d n s i:Nat):LO:=⟨some d,none,.ia n none (.t s) (.t i),true⟩
@[simp] def Oe (d s i:Nat):LO:=⟨some d,none,.ext (.t s) i,true⟩
@[simp] def On (d s:Nat):LO:=⟨some d,none,.len none (.t s),true⟩
@[simp] def Oz (d s:Nat):LO:=⟨some d,none,.nilc (.t s),true⟩
@[simp] def Oo (d s:Nat):LO:=⟨some d,none,.not (.t s),true⟩
@[simp] def Ox (d n s:Nat):LO:=⟨some d,none,.box n (.t s),true⟩
@[simp] def Ob (d:Nat)(o:BinOp)(a b:Nat):LO:=⟨some d,none,.bin false o (.t a) (.t b),true⟩
@[simp] def Oc (d:Nat)(o:BinOp)(a:Nat)(n:Int):LO:=⟨some d,none,.bin false o (.t a) (.c (.int .i64 n)),true⟩
@[simp] def Ns (n a b:Nat):LO:=⟨none,none,.store n (.t a) (.t b),true⟩
@[simp] def Ce (a n:Nat):LCode:=.cond (.t a) .skip (.exit n)
@[simp] def Cd (a:Nat)(x y:LCode):LCode:=.cond (.t a) x y
@[simp] def Z0:PV:=.int .i64 0
@[simp] def E0:PV:=.emp (some true)
@[simp] def Bf:Opd:=.c (.bool false)
@[simp] def Bt:Opd:=.c (.bool true)
@[simp] def S (l:List LO)(c:LCode):LCode:=.seq (.region l) c
@[simp] def Ok (d n:Nat)(l:List Opd):LO:=⟨some d,none,.call (.c (.fn n [] [])) l,true⟩
@[simp] def Pl (d n:Nat):LO:=⟨some d,none,.load false 1 (.t n),false⟩
@[simp] def Pa (d k n:Nat):LO:=⟨some d,none,.fa k (.t n),false⟩
@[simp] def Pg (d g n:Nat):LO:=⟨some d,some (g,true),.load false 1 (.t n),true⟩
@[simp] def Pi (d g n:Nat):LO:=⟨some d,some (g,true),.load false 1 (.t n),false⟩
@[simp] def Pm (d n:Nat):LO:=⟨some d,none,.mov (.t n),false⟩
@[simp] def Pp (d a b:Nat):LO:=⟨some d,none,.pick (.t a) (.t b) (.c (.bool false)),true⟩
@[simp] def Pq (d a b:Nat):LO:=⟨some d,none,.pick (.t a) (.c (.bool true)) (.t b),true⟩
@[simp] def Pf (d:Nat):LO:=⟨some d,none,.mov (.c (.bool false)),true⟩
@[simp] def Pe (d:Nat):LO:=⟨some d,none,.mov (.c (.emp (some true))),true⟩
@[simp] def Pt (d n m:Nat):LO:=⟨some d,none,.load true n (.t m),false⟩
@[simp] def Py (d a b c x y:Nat):LO:=⟨some d,none,.app a b c (.t x) (.t y),true⟩
@[simp] def Ph (d g k n:Nat):LO:=⟨some d,some (g,true),.fa k (.t n),true⟩
@[simp] def Pn (d g n:Nat):LO:=⟨some d,some (g,true),.mov (.t n),true⟩
@[simp] def Pj (d w n:Nat)(i:Int):LO:=⟨some d,none,.ia w none (.t n) (.c (.int .i64 i)),false⟩
@[simp] def Pz (d n:Nat):LO:=⟨some d,none,.nilc (.t n),false⟩
@[simp] def Pb (d a b n:Nat):LO:=⟨some d,none,.bslice a b [.t n],true⟩
noncomputable section
def L9:LFn :=⟨19,S [Pf 2] (.seq (S [OM 3 0] (.block 0 (.loop (.seq (S [Om 4 3,Om 5 0,On 6 5,Ob 7 .lss 4 6] (Ce 7 0)) (.seq (.block 1 (S [Om 10 0,Om 11 3,Oi 12 1 10 11,Ol 13 1 12,O 14 (.x (.slen (.t 13))),Oc 15 .gtr 14 200] (Cd 15 (S [Pf 2] .ret) .skip))) (.region [Om 8 3,Oc 9 .add 8 1,Om 3 9])))))) (S [Om 16 0,On 17 16,Oc 18 .leq 17 50,Om 2 18] .ret)),[.tm 2]⟩
def L13:LFn :=⟨70,S [Pe 4,OM 5 0] (.seq (S [Om 13 0,Ok 14 30 [.t 13],Om 6 14] (S [Om 15 6,Oc 16 .neq 15 0] (Cd 16 (S [Om 17 6,Pe 4,Om 5 17] .ret) .skip))) (S [Om 19 0,Ok 20 31 [.t 19],Om 18 20,Oe 21 18 0,Oe 22 18 1,Om 7 21,Om 8 22] (.seq (S [Om 23 7,Om 24 1,Ok 25 32 [.t 23,.t 24],Oo 26 25] (Cd 26 (S [Pe 4,OM 5 7] .ret) .skip)) (S [Om 27 7,Oz 28 27,Oa 29 0 28,Ot 30 5 29,O 31 (.build (.agg [E0,E0,E0,E0,E0]) [(0,(5,(.t 30)))]),Ox 32 5 31,Om 9 32] (S [Om 33 9,Om 34 7,Oz 35 34,Oa 36 0 35,Oa 37 1 36,Ol 38 1 37,Om 39 1,Ok 40 33 [.t 38,.t 39],Oz 41 33,Oa 42 0 41,Oa 43 1 42,Ns 1 43 40] (S [Pe 10] (.seq (S [Om 44 7,Oz 45 44,Oa 46 0 45,Oa 47 3 46,Ol 48 1 47,On 49 48,OM 50 0] (.block 0 (.loop (S [Ob 51 .lss 50 49] (.seq (Ce 51 0) (.seq (.block 1 (S [Om 52 50,Oi 53 4 48 50,Ot 54 4 53,O 12 (.alloc (.agg [Z0,Z0,Z0,Z0])),Om 11 52,Ns 4 12 54] (S [Om 55 7,Ot 56 4 12,Ok 57 34 [.t 55,.t 56],Om 58 57,Pn 59 58 9,G 60 58 true (.load true 4 (.t 12)),G 61 58 true (.call (C 34) [.t 59,.t 60]),G 62 58 true (.not (.t 61)),Pp 63 58 62] (Cd 63 (.region [Om 64 10,Om 65 11,Pb 66 3 1 65,Py 67 3 1 8 64 66,Om 10 67]) .skip)))) (.region [Oc 68 .add 50 1,Om 50 68]))))))) (S [Om 69 10,Om 4 69,OM 5 0] .ret)))))))),[.tm 4,.tm 5]⟩
def L38:LFn :=⟨126,S [Ox 1 2 0,O 2 (.mov (.c .nilp)),OM 3 0] (.seq (.block 0 (S [Oa 12 0 1,Ol 13 1 12,On 14 13,Oc 15 .gtr 14 8,Om 16 15,G 17 16 false (.fa 1 (.t 1)),G 18 16 false (.load false 1 (.t 17)),G 19 16 false (.len none (.t 18)),G 20 16 false (.bin false .gtr (.t 19) (I 24)),Pq 21 16 20,Om 11 21] (Cd 11 (S [O 2 (.mov (.c .nilp)),OM 3 3] .ret) (S [Oa 23 0 1,Ol 24 1 23,Ok 25 80 [.t 24,C 81],Oo 26 25,Om 27 26,G 28 27 false (.fa 1 (.t 1)),G 29 27 false (.load false 1 (.t 28)),G 30 27 false (.load true 2 (.t 1)),G 31 27 false (.mkf 83 [.t 30] []),G 32 27 false (.call (C 82) [.t 29,.t 31]),G 33 27 false (.not (.t 32)),Pq 34 27 33,Om 22 34] (Cd 22 (S [O 2 (.mov (.c .nilp)),OM 3 1] .ret) .skip))))) (S [Ot 35 2 1,O 36 (.x .mmk),O 37 (.build (.agg ([E0,E0,.nilmap,E0] ++ List.replicate 1000 (.bool false))) [(0,(2,(.t 35))),(2,(1,(.t 36)))]),Ox 38 1004 37,Om 4 38] (.seq (S [Oa 39 1 1,Ol 40 1 39,On 41 40,OM 42 0] (.block 1 (.loop (S [Ob 43 .lss 42 41] (.seq (Ce 43 1) (.seq (.block 2 (S [Oi 44 7 40 42,Ot 45 7 44,O 6 (.alloc (.agg [Z0,Z0,Z0,Z0,Z0,Z0,Z0])),Ns 7 6 45] (S [Pm 47 4,Pz 48 47,Pa 49 2 48,Pa 51 0 6,Pl 50 49,Pl 52 51,Of 53 (.x (.look ⟨false,[.int .i64]⟩ (.agg [Z0,Z0,Z0,Z0,Z0,Z0,Z0]) true (.t 50) (.t 52))),Om 46 53,Oe 54 46 0,Oe 55 46 1,Of 7 (.alloc (.agg [Z0,Z0,Z0,Z0,Z0,Z0,Z0])),Ns 7 7 54,Om 8 55] (.seq (S [Om 56 8,Om 57 56,G 58 57 true (.load true 7 (.t 7)),G 59 57 true (.load true 7 (.t 6)),G 60 57 true (.x (.eqv true ⟨true,[.int .i64,.int .i64,.int .i64,.int .i64,.int .i64,.int .i64,.int .i64]⟩ (.t 58) (.t 59))),Pp 61 57 60] (Cd 61 (S [O 2 (.mov (.c .nilp)),OM 3 6] .ret) .skip)) (S [Om 62 8,Oo 63 62] (Cd 63 (S [Pm 64 4,Pz 65 64,Pa 66 2 65,Pa 68 0 6,Pl 67 66,Pl 69 68,Pt 70 7 6,N (.x (.upd ⟨false,[.int .i64]⟩ (.t 67) (.t 69) (.t 70)))] (.region [Pm 71 4,Pm 72 4,Pz 73 72,Pa 74 3 73,Pa 76 0 6,Pl 75 74,Pl 77 76,Of 78 (.bslice 3 1 [.t 77]),Py 79 3 1 8 75 78,Oz 80 71,Oa 81 3 80,Ns 1 81 79])) .skip)))))) (.region [Oc 82 .add 42 1,Om 42 82]))))))) (S [Om 83 4,Oz 84 83,Oa 85 3 84,Ol 86 1 85,Ok 87 84 [.t 86]] (.seq (S [Om 88 4,Oz 89 88,Oa 90 3 89,Ol 91 1 90,On 92 91,OM 93 0] (.block 3 (.loop (S [Ob 94 .lss 93 92] (.seq (Ce 94 3) (.seq (.block 4 (S [Om 95 93,Oi 96 1 91 93,Ol 97 1 96,Om 9 95,Om 10 97] (S [Pm 98 9,Of 99 (.bin false .gtr (.t 98) (I 0)),Pm 100 99,Gf 101 100 true (M 4),Gf 102 100 true (.nilc (.t 101)),Gf 103 100 true (.fa 2 (.t 102)),Gf 105 100 true (M 10),Gf 108 100 true (M 4),Gf 109 100 true (.nilc (.t 108)),Gf 110 100 true (.fa 2 (.t 109)),Gf 112 100 true (M 4),Gf 113 100 true (.nilc (.t 112)),Gf 114 100 true (.fa 3 (.t 113)),Gf 116 100 true (M 9),Gf 117 100 true (.bin false .sub (.t 116) (I 1)),Pi 104 100 103,Gf 106 100 true (.x (.look ⟨false,[.int .i64]⟩ (.agg [Z0,Z0,Z0,Z0,Z0,Z0,Z0]) false (.t 104) (.t 105))),Gf 107 100 true (.fld false 3 1 (.t 106)),Pi 111 100 110,Pi 115 100 114,Gf 118 100 true (.ia 1 none (.t 115) (.t 117)),Pi 119 100 118,Gf 120 100 true (.x (.look ⟨false,[.int .i64]⟩ (.agg [Z0,Z0,Z0,Z0,Z0,Z0,Z0]) false (.t 111) (.t 119))),Gf 121 100 true (.fld false 3 1 (.t 120)),G 122 100 true (.bin false .lss (.t 107) (.t 121)),Pp 123 100 122] (Cd 123 (S [O 2 (.mov (.c .nilp)),OM 3 6] .ret) .skip)))) (.region [Oc 124 .add 93 1,Om 93 124]))))))) (S [Om 125 4,Om 2 125,OM 3 0] .ret)))))),[.tm 2,.tm 3]⟩
@[simp] def L39a:LT:=.op (O 9 (.build (.agg [.nilp,.nilmap,.nilmap]) [(0,(1,(.t 5))),(1,(1,(.t 7))),(2,(1,(.t 8)))])) (.alt (Ox 10 3 9) .done .no)
@[simp] def L39b:LT:=.op (O 9 (.build (.agg [.nilp,.nilmap,.nilmap]) [(0,(1,(.t 5))),(1,(1,(.t 7))),(2,(1,(.t 8)))])) (.alt (Ox 10 3 9) (.alt (Of 3 (.alloc .nilp)) .done .no) (.alt (Of 3 (.alloc .nilp)) (.alt (Ox 10 3 9) .done .no) .no))
@[simp] def L39c:LT:=.alt (Pl 5 1) (.alt (Ok 7 85 [.t 6]) L39a .no) (.alt (Ok 7 85 [.t 6]) (.op (Pl 5 1) L39a) .no)
@[simp] def L39d:LT:=.alt (Ok 7 85 [.t 6]) (.alt (Of 8 (.x .mmk)) L39a .no) (.alt (Of 8 (.x .mmk)) (.alt (Ok 7 85 [.t 6]) L39a .no) .no)
@[simp] def L39e:LT:=.alt (Ok 7 85 [.t 6]) L39b (.alt (Of 3 (.alloc .nilp)) (.alt (Ok 7 85 [.t 6]) L39a .no) .no)
@[simp] def L39f:LT:=.alt (Of 8 (.x .mmk)) L39b (.alt (Of 3 (.alloc .nilp)) (.alt (Of 8 (.x .mmk)) L39a .no) .no)
def L39:LFn :=⟨19,S [Ox 1 1 0,O 2 (.mov (.c .nilp))] (.seq (.regT (.op (Pl 6 1) (.seq (.alt (Pl 5 1) (.alt (Ok 7 85 [.t 6]) L39f (.alt (Of 8 (.x .mmk)) L39e (.alt (Of 3 (.alloc .nilp)) L39d .no))) (.alt (Ok 7 85 [.t 6]) (.op (Pl 5 1) L39f) (.alt (Of 8 (.x .mmk)) (.alt (Pl 5 1) L39e (.alt (Ok 7 85 [.t 6]) (.op (Pl 5 1) L39b) (.alt (Of 3 (.alloc .nilp)) L39c .no))) (.alt (Of 3 (.alloc .nilp)) (.alt (Pl 5 1) L39d (.alt (Ok 7 85 [.t 6]) (.op (Pl 5 1) (.alt (Of 8 (.x .mmk)) L39a .no)) (.alt (Of 8 (.x .mmk)) L39c .no))) .no)))) (.alt (Ns 1 3 10) .done .no)))) (S [O 4 (.alloc .nilfn)] (S [O 11 (.mkf 86 [] [.t 1,.t 3,.t 4]),Ns 1 4 11] (S [Pl 12 4,Pl 13 1,Pz 14 13,Pa 15 3 14,Pl 16 15,O 17 (.call (.t 12) [.t 16])] (S [Ol 18 1 3,Om 2 18] .ret))))),[.tm 2]⟩
def L40:LFn :=⟨45,S [Pf 2] (.seq (S [Om 7 0,Oz 8 7,Oa 9 0 8,Ol 10 1 9,Oz 11 10,Oa 12 3 11,Ol 13 1 12,On 14 13,OM 15 0] (.block 0 (.loop (S [Ob 16 .lss 15 14] (.seq (Ce 16 0) (.seq (.block 1 (S [Oi 17 1 13 15,Ol 18 1 17,Om 4 18] (S [Om 19 0,Oz 20 19,Oa 21 0 20,Ol 22 1 21,Oz 23 22,Oa 24 2 23,Ol 25 1 24,Om 26 4,O 27 (.x (.look ⟨false,[.int .i64]⟩ (.agg [Z0,Z0,Z0,Z0,Z0,Z0,Z0]) false (.t 25) (.t 26))),O 5 (.alloc (.agg [Z0,Z0,Z0,Z0,Z0,Z0,Z0])),Ns 7 5 27] (S [Om 28 0,Oa 29 1 5,Ol 30 1 29,Oa 31 3 5,Ol 32 1 31,Ok 33 88 [.t 28,.t 30,.t 32,I 1000],O 6 (.alloc (.agg [Z0,Z0])),Ns 2 6 33] (S [Om 34 0,Ot 35 7 5,Ok 36 87 [.t 34,.t 35],Om 37 36,Ph 38 37 0 6,Pg 39 37 38,Ph 40 37 1 6,Pg 41 37 40,G 42 37 true (.bin false .gtr (.t 39) (.t 41)),Pp 43 37 42] (Cd 43 (S [O 2 (.mov Bt)] .ret) .skip)))))) (.region [Oc 44 .add 15 1,Om 15 44]))))))) (S [Pf 2] .ret)),[.tm 2]⟩
def L43:LFn :=⟨8,S [Ox 2 7 0,Pf 3] (S [Oa 4 0 2,Ol 5 1 4,Ol 6 1 1,Ob 7 .eql 5 6,Om 3 7] .ret),[.tm 3]⟩
def L44:LFn :=⟨33,S [Ox 3 2 0,O 6 (.alloc (.agg [Z0,Z0])),OM 7 0] (S [Ot 13 2 3,Om 14 1,Om 15 2,Ok 16 76 [.t 13,.t 14,.t 15],Om 12 16,Oe 17 12 0,Oe 18 12 1,Oe 19 12 2,Om 8 17,Om 9 18,Om 10 19] (.seq (S [Om 20 10,Oc 21 .neq 20 0] (Cd 21 (S [O 22 (.build (.agg [Z0,Z0]) []),Om 23 10,Ns 2 6 22,Om 7 23] .ret) .skip)) (S [Om 24 8,Ok 25 39 [.t 24],Om 11 25] (.seq (S [Om 26 11,Ok 27 40 [.t 26]] (Cd 27 (S [O 28 (.build (.agg [Z0,Z0]) []),Ns 2 6 28,OM 7 9] .ret) .skip)) (S [Om 29 11,Om 30 1,Om 31 2,Ok 32 88 [.t 29,.t 30,.t 31,I 1000],Ns 2 6 32,OM 7 0] .ret))))),[.cell 6 true 2,.tm 7]⟩
def L47:LFn :=⟨6,.region [Om 3 0,O 4 (.x (.scat (.t 3) (.c (.str ⟨#[10]⟩)))),Ok 5 48 [.t 1,.t 4]],[]⟩
def L59:LFn :=⟨18,S [Ox 1 2 0,Pf 2] (S [Oa 3 0 1,Ol 4 1 3,Ok 5 107 [.t 4],Om 6 5,Ph 7 6 1 1,Pg 8 6 7,G 9 6 true (.call (C 107) [.t 8]),Pp 10 6 9,Om 11 10,Ph 12 11 0 1,Pg 13 11 12,Ph 14 11 1 1,Pg 15 11 14,G 16 11 true (.bin false .leq (.t 13) (.t 15)),Pp 17 11 16,Om 2 17] .ret),[.tm 2]⟩
def L63:LFn :=⟨9,S [Ox 3 1 1,Pf 4] (S [Om 5 0,O 6 (.mkf 112 [] [.t 3]),Ok 7 111 [.t 5,.t 6],Oo 8 7,Om 4 8] .ret),[.tm 4]⟩
def L67:LFn :=⟨80,S [Pf 4] (S [Om 13 1,O 14 (.build (.agg [Z0,Z0,Z0]) [(0,(1,(.t 13))),(1,(1,(I (-1)))),(2,(1,(I (-1))))]),O 5 (.alloc (.agg [Z0,Z0,Z0])),Ns 3 5 14] (S [O 15 (.x .mmk),Ot 16 3 5,Ot 17 3 5,N (.x (.upd ⟨true,[.int .i64,.int .i64,.int .i64]⟩ (.t 15) (.t 16) (.t 17))),Om 18 15,Om 6 18] (S [Ot 19 3 5,Pb 20 197 3 19,Om 7 20] (.seq (.block 0 (.loop (.seq (S [Om 21 7,On 22 21,Oc 23 .gtr 22 0] (Ce 23 0)) (.block 1 (S [Om 24 7,O 25 (.ia 3 none (.t 24) (I 0)),Ot 26 3 25,O 8 (.alloc (.agg [Z0,Z0,Z0])),Ns 3 8 26] (S [Om 27 7,O 28 (.slc 3 none (.t 27) (some (I 1)) none none),Om 7 28] (.seq (S [Pt 29 3 8,Of 30 (.call (C 115) [.t 29]),Of 31 (.bin false .eql (.t 30) (I 2)),Pm 32 31,Gf 33 32 true (M 0),Gf 34 32 true (.nilc (.t 33)),Gf 35 32 true (.fa 2 (.t 34)),Gf 37 32 true (.fa 2 (.t 8)),Gf 39 32 true (.fa 1 (.t 8)),Pi 36 32 35,Pi 38 32 37,Gf 41 32 true (.ia 4 none (.t 36) (.t 38)),Pi 40 32 39,Gf 42 32 true (.ia 1 (some 4) (.t 41) (.t 40)),Pi 43 32 42,G 44 32 true (.bin false .eql (.t 43) (I (-1))),Pp 45 32 44] (Cd 45 (S [Om 46 0,Ot 47 3 8,Om 48 6,Ok 49 116 [.t 46,.t 47,.t 48]] (S [O 4 (.mov Bt)] .ret)) .skip)) (S [Pm 56 0,Of 60 (.mov (I 0)),Pt 51 3 8,Pt 57 3 8,Of 50 (.call (C 117) []),Of 52 (.call (C 115) [.t 51]),Of 53 (.ia 1 none (.t 50) (.t 52)),Pa 54 0 53,Pl 55 54,O 58 (.call (.t 55) [.t 56,.t 57]),On 59 58] (.block 2 (.loop (S [Ob 61 .lss 60 59] (.seq (Ce 61 2) (.seq (.block 3 (S [Oi 62 3 58 60,Ot 63 3 62,O 10 (.alloc (.agg [Z0,Z0,Z0])),Ns 3 10 63] (S [Om 65 6,Ot 66 3 10,O 67 (.x (.look ⟨true,[.int .i64,.int .i64,.int .i64]⟩ (.agg [Z0,Z0,Z0]) true (.t 65) (.t 66))),Om 64 67,Oe 68 64 0,Oe 69 64 1,O 11 (.alloc (.agg [Z0,Z0,Z0])),Ns 3 11 68,Om 12 69] (S [Om 70 12,Oo 71 70] (Cd 71 (S [Om 72 6,Ot 73 3 10,Ot 74 3 8,N (.x (.upd ⟨true,[.int .i64,.int .i64,.int .i64]⟩ (.t 72) (.t 73) (.t 74)))] (.region [Om 75 7,Ot 76 3 10,Pb 77 197 3 76,Py 78 197 3 24 75 77,Om 7 78])) .skip))))) (.region [Oc 79 .add 60 1,Om 60 79])))))))))))))) (S [Pf 4] .ret))))),[.tm 4]⟩
def L70:LFn :=⟨14,S [Ox 2 1 0,O 4 (.alloc Z0)] (S [Ol 6 1 2,Oz 7 6,Oa 8 0 7,Ot 9 5 8,O 5 (.alloc (.agg [E0,E0,E0,E0,E0])),Ns 5 5 9] (S [O 10 (.mkf 120 [] [.t 5,.t 2,.t 4]),N .other] (S [Ol 11 1 2,Om 12 1,Ok 13 121 [.t 11,.t 12]] (S [N (.store 1 (.t 4) (I 0))] .ret)))),[.cell 4 false 1]⟩
def L74:LFn :=⟨8,S [Pe 2] (.seq (S [Om 3 0,O 4 (.nilq .sl false (.t 3))] (Cd 4 (S [Pe 2] .ret) .skip)) (S [O 5 (.bslice 68 4 []),Om 6 0,O 7 (.app0 68 4 32 (.t 5) (.t 6)),Om 2 7] .ret)),[.tm 2]⟩
def L77:LFn :=⟨8,S [Ox 2 7 0,Pf 3] (S [Ol 4 1 1,Oa 5 0 2,Ol 6 1 5,O 7 (.x (.look ⟨false,[.int .i64]⟩ (.bool false) false (.t 4) (.t 6))),Om 3 7] .ret),[.tm 3]⟩
def L93:LFn :=⟨75,S [Ox 3 4 1,O 4 (.mov (.c (.int .u8 (0))))] (S [Pe 5] (S [Om 14 0,O 15 (.mkf 34 [.t 14] []),Om 6 15] (S [O 7 (.mov (.c (.int .u8 (3))))] (S [O 16 (.x .mmk),Om 8 16] (.seq (S [Om 17 0,Oz 18 17,Oa 19 0 18,Oa 20 3 19,Ol 21 1 20,On 22 21,OM 23 0] (.block 0 (.loop (S [Ob 24 .lss 23 22] (.seq (Ce 24 0) (.seq (.block 1 (S [Oi 25 4 21 23,Ot 26 4 25,O 10 (.alloc (.agg [Z0,Z0,Z0,Z0])),Ns 4 10 26] (.seq (S [Oa 27 0 10,Ol 28 1 27,Oa 29 0 3,Ol 30 1 29,Ob 31 .neq 28 30] (Cd 31 (.exit 1) .skip)) (S [Oa 32 1 10,Ol 33 1 32,Oa 34 2 10,Ol 35 1 34,O 36 (.build (.agg [Z0,Z0]) [(0,(1,(.t 33))),(1,(1,(.t 35)))]),O 11 (.alloc (.agg [Z0,Z0])),Ns 2 11 36] (S [Om 38 8,Ot 39 2 11,O 40 (.x (.look ⟨true,[.int .i64,.int .i64]⟩ (.bool false) true (.t 38) (.t 39))),Om 37 40,Oe 41 37 0,Oe 42 37 1,Om 12 41,Om 13 42] (.seq (S [Om 43 13,Oo 44 43] (Cd 44 (S [Om 45 6,Ot 46 4 10,O 47 (.call (.t 45) [.t 46]),Om 12 47] (.region [Om 48 8,Ot 49 2 11,Om 50 12,N (.x (.upd ⟨true,[.int .i64,.int .i64]⟩ (.t 48) (.t 49) (.t 50)))])) .skip)) (.seq (S [Om 51 12,Oo 52 51] (Cd 52 (.exit 1) .skip)) (S [Om 53 5,Om 54 0,Ot 55 4 10,Oa 56 2 3,Ol 57 1 56,Ok 58 144 [.t 54,.t 55,.t 57],Oo 59 58,Pb 60 4 1 59,Py 61 4 1 1 53 60,Om 5 61] (S [Ot 63 4 3,Ok 64 145 [.t 63],Om 65 5,Ok 66 45 [.t 64,.t 65],Om 62 66,Oe 67 62 0,Oe 68 62 1,Oe 69 62 2,Om 7 67] (S [Om 70 7,O 71 (.bin false .neq (.t 70) (.c (.int .u8 (3))))] (Cd 71 (S [Om 72 7,Om 4 72] .ret) .skip))))))))))) (.region [Oc 73 .add 23 1,Om 23 73]))))))) (S [Om 74 7,Om 4 74] .ret)))))),[.tm 4]⟩
def L99:LFn :=⟨9,S [Pf 4] (S [Om 5 0,Om 6 1,Ok 7 147 [.t 5,.t 6],Oc 8 .geq 7 0,Om 4 8] .ret),[.tm 4]⟩
def L106:LFn :=⟨8,S [Ox 2 2 0,Pf 3] (S [Ol 4 1 1,Ot 5 2 2,O 6 (.call (.t 4) [.t 5]),Oo 7 6,Om 3 7] .ret),[.tm 3]⟩
def L108:LFn :=⟨15,S [Pf 6] (S [Om 7 1,Om 8 0,Ob 9 .leq 7 8,Om 10 9,Pn 11 10 0,Pn 12 10 2,G 13 10 true (.bin false .leq (.t 11) (.t 12)),Pp 14 10 13,Om 6 14] .ret),[.tm 6]⟩
def L119:LFn :=⟨8,S [Pf 3] (S [Ol 4 1 1,Om 5 0,O 6 (.call (.t 4) [.t 5]),Oo 7 6,Om 3 7] .ret),[.tm 3]⟩
def L121:LFn :=⟨48,S [Om 10 1,O 11 (.call (C 160) [.t 10,.c (.str ⟨#[32]⟩)]),Om 4 11] (.seq (.regT (.op (Pm 14 4) (.op (Pj 15 1 14 0) (.op (Pl 16 15) (.seq (.alt (Of 13 (.call (C 161) [])) (.op (Of 17 (.x (.look ⟨false,[.str]⟩ (.agg [Z0,.nilfn]) true (.t 13) (.t 16)))) (.op (Om 12 17) (.op (Oe 18 12 0) (.op (Oe 19 12 1) (.alt (Of 5 (.alloc (.agg [Z0,.nilfn]))) (.alt (Ns 2 5 18) .done .no) .no))))) (.alt (Of 5 (.alloc (.agg [Z0,.nilfn]))) (.alt (Of 13 (.call (C 161) [])) (.op (Of 17 (.x (.look ⟨false,[.str]⟩ (.agg [Z0,.nilfn]) true (.t 13) (.t 16)))) (.op (Om 12 17) (.op (Oe 18 12 0) (.op (Oe 19 12 1) (.alt (Ns 2 5 18) .done .no))))) .no) .no)) (.op (Om 6 19) .done)))))) (S [Om 20 6,Om 21 20,Pn 22 21 4,G 23 21 true (.len none (.t 22)),Ph 24 21 0 5,Pg 25 21 24,G 26 21 true (.bin false .add (.t 25) (I 1)),G 27 21 true (.bin false .eql (.t 23) (.t 26)),Pp 28 21 27,Ok 29 162 [.t 28,I 4]] (S [Pe 7] (.seq (S [Om 30 4,O 31 (.slc 1 none (.t 30) (some (I 1)) none none),On 32 31,OM 33 0] (.block 0 (.loop (S [Ob 34 .lss 33 32] (.seq (Ce 34 0) (.seq (.block 1 (S [Oi 35 1 31 33,Ol 36 1 35,Om 9 36] (.region [Om 37 7,Om 38 9,Ok 39 163 [.t 38],Pb 40 3 1 39,Py 41 3 1 8 37 40,Om 7 41]))) (.region [Oc 42 .add 33 1,Om 33 42]))))))) (.region [Oa 43 1 5,Ol 44 1 43,Om 45 0,Om 46 7,O 47 (.call (.t 44) [.t 45,.t 46])]))))),[]⟩
def L124:LFn :=⟨45,S [Ol 9 1 1,Oz 10 9,Oa 11 3 10,Ol 12 1 11,On 13 12,OM 14 0] (.block 0 (.loop (S [Ob 15 .lss 14 13] (.seq (Ce 15 0) (.seq (.block 1 (S [Oi 16 1 12 14,Ol 17 1 16,Om 7 17] (S [Ol 18 1 1,Oz 19 18,Oa 20 2 19,Ol 21 1 20,Om 22 7,O 23 (.x (.look ⟨false,[.int .i64]⟩ (.agg [Z0,Z0,Z0,Z0,Z0,Z0,Z0]) false (.t 21) (.t 22))),O 8 (.alloc (.agg [Z0,Z0,Z0,Z0,Z0,Z0,Z0])),Ns 7 8 23] (S [Om 24 7,Ol 25 1 2,Ob 26 .lss 24 25,Om 27 26,Ph 28 27 1 8,Pg 29 27 28,Pg 30 27 3,G 31 27 true (.bin false .eql (.t 29) (.t 30)),Pp 32 27 31,Om 33 32,G 34 33 true (.load true 7 (.t 8)),Pg 35 33 4,G 36 33 true (.call (C 125) [.t 34,.t 35]),Pp 37 33 36,Om 38 37,Pn 39 38 0,G 40 38 true (.load true 7 (.t 8)),G 41 38 true (.call (.t 39) [.t 40]),G 42 38 true (.not (.t 41)),Pp 43 38 42] (Cd 43 .ret .skip))))) (.region [Oc 44 .add 14 1,Om 14 44])))))),[]⟩
theorem L124_ok:litF Tryz.prog 124=some L124:=by kernel_rfl
def L125:LFn :=⟨14,S [Ox 2 7 0,Pf 4] (S [Om 5 1,Oa 6 3 2,Ol 7 1 6,Oa 8 3 2,Ol 9 1 8,Oa 10 4 2,Ol 11 1 10,Ob 12 .add 9 11,Ok 13 130 [.t 5,.t 7,.t 12],Om 4 13] .ret),[.tm 4]⟩
def L126:LFn :=⟨18,S [OM 2 0] (S [OM 3 0] (.seq (S [Om 6 0,On 7 6,OM 8 0] (.block 0 (.loop (S [Ob 9 .lss 8 7] (.seq (Ce 9 0) (.seq (.block 1 (S [Oi 10 1 6 8,Ol 11 1 10,Om 5 11] (S [Om 12 5,Om 13 3,Ob 14 .neq 12 13] (Cd 14 (S [Om 15 5,Om 2 15] .ret) .skip)))) (.region [Oc 16 .add 8 1,Om 8 16]))))))) (S [Om 17 3,Om 2 17] .ret))),[.tm 2]⟩
def L128:LFn :=⟨9,S [Pf 4] (S [Om 5 0,Om 6 1,Ok 7 165 [.t 5,.t 6],Oc 8 .geq 7 0,Om 4 8] .ret),[.tm 4]⟩
def L130:LFn :=⟨15,S [Pf 6] (S [Om 7 1,Om 8 0,Ob 9 .leq 7 8,Om 10 9,Pn 11 10 0,Pn 12 10 2,G 13 10 true (.bin false .leq (.t 11) (.t 12)),Pp 14 10 13,Om 6 14] .ret),[.tm 6]⟩
def L133:LFn :=⟨5,S [Pf 2] (S [Om 3 0,Ok 4 130 [.t 3,I 1,I 999],Om 2 4] .ret),[.tm 2]⟩
def L142:LFn :=⟨9,S [Ox 3 1 1,Pf 4] (S [Om 5 0,O 6 (.mkf 181 [] [.t 3]),Ok 7 180 [.t 5,.t 6],Oo 8 7,Om 4 8] .ret),[.tm 4]⟩
def L152:LFn :=⟨19,S [OM 4 0] (.seq (S [Om 6 0,On 7 6,OM 8 0] (.block 0 (.loop (S [Ob 9 .lss 8 7] (.seq (Ce 9 0) (.seq (.block 1 (S [Om 10 8,Om 5 10] (S [Om 11 1,Om 12 0,Om 13 5,Oi 14 1 12 13,Ol 15 1 14,O 16 (.call (.t 11) [.t 15])] (Cd 16 (S [Om 17 5,Om 4 17] .ret) .skip)))) (.region [Oc 18 .add 8 1,Om 8 18]))))))) (S [OM 4 (-1)] .ret)),[.tm 4]⟩
def L156:LFn :=⟨29,S [Ox 3 3 1,Pe 4] (.seq (S [Om 6 0,Oz 7 6,Oa 8 2 7,Ol 9 1 8,On 10 9,OM 11 0] (.block 0 (.loop (S [Ob 12 .lss 11 10] (.seq (Ce 12 0) (.seq (.block 1 (S [Om 13 11,Om 5 13] (S [Om 14 0,Oa 15 0 3,Ol 16 1 15,Om 17 5,Ok 18 184 [.t 14,.t 16,.t 17],Oc 19 .eql 18 (-1)] (Cd 19 (.region [Om 20 4,Oa 21 0 3,Ol 22 1 21,Om 23 5,O 24 (.build (.agg [Z0,Z0,Z0]) [(0,(1,(.t 22))),(1,(1,(I (-1)))),(2,(1,(.t 23)))]),Pb 25 197 3 24,Py 26 197 3 24 20 25,Om 4 26]) .skip)))) (.region [Oc 27 .add 11 1,Om 11 27]))))))) (S [Om 28 4,Om 4 28] .ret)),[.tm 4]⟩
def L162:LFn :=⟨9,S [Om 4 0,Oo 5 4] (Cd 5 (.region [Om 6 1,O 7 (.build (.agg [Z0]) [(0,(1,(.t 6)))]),O 8 (.x (.mif 209 (.t 7))),N (.x (.pan (.t 8)))]) .skip),[]⟩
theorem L162_ok:litF Tryz.prog 162=some L162:=by kernel_rfl
def L164:LFn :=⟨20,S [OM 4 0] (S [Om 7 0,Ok 8 195 [.t 7],Om 5 8] (S [Om 9 1,Ok 10 195 [.t 9],Om 6 10] (.seq (S [Om 11 5] (Cd 11 (.seq (S [Om 12 6] (Cd 12 (S [OM 4 0] .ret) .skip)) (S [OM 4 (-1)] .ret)) .skip)) (.seq (S [Om 13 6] (Cd 13 (S [OM 4 1] .ret) .skip)) (.seq (S [Om 14 0,Om 15 1,Ob 16 .lss 14 15] (Cd 16 (S [OM 4 (-1)] .ret) .skip)) (.seq (S [Om 17 0,Om 18 1,Ob 19 .gtr 17 18] (Cd 19 (S [OM 4 1] .ret) .skip)) (S [OM 4 0] .ret))))))),[.tm 4]⟩
def L165:LFn :=⟨19,S [OM 4 0] (.seq (S [Om 6 0,On 7 6,OM 8 0] (.block 0 (.loop (S [Ob 9 .lss 8 7] (.seq (Ce 9 0) (.seq (.block 1 (S [Om 10 8,Om 5 10] (S [Om 11 1,Om 12 0,Om 13 5,Oi 14 4 12 13,Ot 15 4 14,O 16 (.call (.t 11) [.t 15])] (Cd 16 (S [Om 17 5,Om 4 17] .ret) .skip)))) (.region [Oc 18 .add 8 1,Om 8 18]))))))) (S [OM 4 (-1)] .ret)),[.tm 4]⟩
def L173:LFn :=⟨17,S [Pf 4] (S [Om 5 0,Ok 6 195 [.t 5],Om 7 6,Pn 8 7 1,G 9 7 true (.call (C 195) [.t 8]),G 10 7 true (.not (.t 9)),Pp 11 7 10,Om 12 11,G 13 12 false (M 0),G 14 12 false (M 1),G 15 12 false (.bin false .lss (.t 13) (.t 14)),Pq 16 12 15,Om 4 16] .ret),[.tm 4]⟩
def L181:LFn :=⟨8,S [Ox 2 3 0,Pf 3] (S [Ol 4 1 1,Ot 5 3 2,O 6 (.call (.t 4) [.t 5]),Oo 7 6,Om 3 7] .ret),[.tm 3]⟩
def L195:LFn :=⟨6,S [Pf 2] (S [Om 3 0,Om 4 0,Ob 5 .neq 3 4,Om 2 5] .ret),[.tm 2]⟩
def L201:LFn :=⟨25,S [OM 2 0] (.seq (S [Om 5 0,On 6 5,Oc 7 .lss 6 1] (Cd 7 (.region [O 8 (.x (.mif 9 (.c (.str ⟨#[115,108,105,99,101,115,46,77,97,120,58,32,101,109,112,116,121,32,108,105,115,116]⟩)))),N (.x (.pan (.t 8)))]) .skip)) (S [Om 9 0,O 10 (.ia 1 none (.t 9) (I 0)),Ol 11 1 10,Om 3 11] (.seq (S [OM 4 1] (.block 0 (.loop (.seq (S [Om 12 4,Om 13 0,On 14 13,Ob 15 .lss 12 14] (Ce 15 0)) (.seq (.block 1 (.region [Om 18 3,Om 19 0,Om 20 4,Oi 21 1 19 20,Ol 22 1 21,O 23 (.minmax true (.t 18) (.t 22)),Om 3 23])) (.region [Om 16 4,Oc 17 .add 16 1,Om 4 17])))))) (S [Om 24 3,Om 2 24] .ret)))),[.tm 2]⟩
def L215:LFn :=⟨11,S [Ox 1 2 0,OM 2 0] (S [Ot 6 2 1,Ok 7 38 [.t 6],Om 5 7,Oe 8 5 0,Oe 9 5 1,Om 3 8,Om 4 9] (S [Om 10 4,Om 2 10] .ret)),[.tm 2]⟩
def L217:LFn :=⟨54,S [OM 4 0,Pf 5] (S [Om 10 0,On 11 10,Om 6 11] (S [Om 12 6,OM 7 0,Om 8 12] (.seq (.block 0 (.loop (.seq (S [Om 13 7,Om 14 8,Ob 15 .lss 13 14] (Ce 15 0)) (.block 1 (S [Om 16 7,Om 17 8,Ob 18 .add 16 17,O 19 (.conv .u64 (.t 18)),O 20 (.bin false .shr (.t 19) (.c (.int .u64 (1)))),O 21 (.conv .i64 (.t 20)),Om 9 21] (S [Om 22 0,Om 23 9,Oi 24 1 22 23,Ol 25 1 24,Om 26 1,Ok 27 173 [.t 25,.t 26]] (Cd 27 (.region [Om 28 9,Oc 29 .add 28 1,Om 7 29]) (.region [Om 30 9,Om 8 30])))))))) (S [Om 31 7,Om 32 7,Om 33 6,Ob 34 .lss 32 33,Om 35 34,Pn 36 35 0,Pn 37 35 7,G 38 35 true (.ia 1 none (.t 36) (.t 37)),Pg 39 35 38,Pn 40 35 1,G 41 35 true (.bin false .eql (.t 39) (.t 40)),Pn 42 35 41,G 43 42 false (M 0),G 44 42 false (M 7),G 45 42 false (.ia 1 none (.t 43) (.t 44)),G 46 42 false (.load false 1 (.t 45)),G 47 42 false (.call (C 237) [.t 46]),G 48 42 false (M 47),Pn 49 48 1,G 50 48 true (.call (C 237) [.t 49]),G 51 42 false (.pick (.t 48) (.t 50) Bf),G 52 35 true (.pick (.t 42) Bt (.t 51)),Pp 53 35 52,Om 4 31,Om 5 53] .ret)))),[.tm 4,.tm 5]⟩
def L220:LFn :=⟨15,S [OM 4 0,Pf 5] (S [Om 6 0,Oz 7 6,Oa 8 0 7,Oa 9 2 8,Ol 10 1 9,Om 11 1,Ok 12 240 [.t 10,.t 11,C 241],Oe 13 12 0,Oe 14 12 1,Om 4 13,Om 5 14] .ret),[.tm 4,.tm 5]⟩
def L232:LFn :=⟨10,S [Ox 2 2 0,Pf 3] (S [Ol 4 1 1,Oa 5 0 2,Ol 6 1 5,Oa 7 1 2,Ol 8 1 7,Ok 9 108 [.t 4,.t 6,.t 8],Om 3 9] .ret),[.tm 3]⟩
def L237:LFn :=⟨6,S [Pf 2] (S [Om 3 0,Om 4 0,Ob 5 .neq 3 4,Om 2 5] .ret),[.tm 2]⟩
def L240:LFn :=⟨49,S [OM 6 0,Pf 7] (S [Om 12 0,On 13 12,Om 8 13] (S [Om 14 8,OM 9 0,Om 10 14] (.seq (.block 0 (.loop (.seq (S [Om 15 9,Om 16 10,Ob 17 .lss 15 16] (Ce 17 0)) (.block 1 (S [Om 18 9,Om 19 10,Ob 20 .add 18 19,O 21 (.conv .u64 (.t 20)),O 22 (.bin false .shr (.t 21) (.c (.int .u64 (1)))),O 23 (.conv .i64 (.t 22)),Om 11 23] (S [Om 24 2,Om 25 0,Om 26 11,Oi 27 4 25 26,Ot 28 4 27,Om 29 1,O 30 (.call (.t 24) [.t 28,.t 29]),Oc 31 .lss 30 0] (Cd 31 (.region [Om 32 11,Oc 33 .add 32 1,Om 9 33]) (.region [Om 34 11,Om 10 34])))))))) (S [Om 35 9,Om 36 9,Om 37 8,Ob 38 .lss 36 37,Om 39 38,Pn 40 39 2,Pn 41 39 0,Pn 42 39 9,G 43 39 true (.ia 4 none (.t 41) (.t 42)),G 44 39 true (.load true 4 (.t 43)),Pn 45 39 1,G 46 39 true (.call (.t 40) [.t 44,.t 45]),G 47 39 true (.bin false .eql (.t 46) (I 0)),Pp 48 39 47,Om 6 35,Om 7 48] .ret)))),[.tm 6,.tm 7]⟩
end
end
section
set_option maxRecDepth 100000
noncomputable section
def L12:LFn :=⟨43,S [Ox 1 2 0,Pe 2,OM 3 0,OM 4 0] (.seq (S [Ot 10 2 1,Ok 11 27 [.t 10],Om 5 11] (S [Om 12 5,Oc 13 .neq 12 0] (Cd 13 (S [Om 14 5,Pe 2,OM 3 0,Om 4 14] .ret) .skip))) (S [Ot 16 2 1,Ok 17 28 [.t 16],Om 15 17,Oe 18 15 0,Oe 19 15 1,Om 6 18,Om 7 19] (.seq (S [Om 20 7,Oo 21 20] (Cd 21 (S [Pe 2,OM 3 0,OM 4 9] .ret) .skip)) (.seq (S [Om 22 6,Oz 23 22,Oa 24 2 23,Ol 25 1 24,On 26 25,OM 27 0] (.block 0 (.loop (S [Ob 28 .lss 27 26] (.seq (Ce 28 0) (.seq (.block 1 (S [Oi 29 4 25 27,Ot 30 4 29,O 9 (.alloc (.agg [Z0,Z0,Z0,Z0])),Ns 4 9 30] (.region [Om 31 2,Oa 32 0 1,Ol 33 1 32,On 34 33,O 35 (.x (.sla 4 (.t 9) (.t 34))),Ok 36 29 [.t 35],Pb 37 26 1 36,Py 38 26 1 24 31 37,Om 2 38]))) (.region [Oc 39 .add 27 1,Om 27 39]))))))) (S [Om 40 2,Om 41 2,On 42 41,Om 2 40,Om 3 42,OM 4 0] .ret))))),[.tm 2,.tm 3,.tm 4]⟩
def L28:LFn :=⟨51,S [Ox 1 2 0,O 2 (.mov (.c .nilp)),Pf 3] (S [Ot 8 2 1,O 9 (.build (.agg [E0,E0,E0]) [(0,(2,(.t 8)))]),Ox 10 3 9,Om 4 10] (S [Pe 5] (.seq (S [Oa 11 1 1,Ol 12 1 11,On 13 12,OM 14 0] (.block 0 (.loop (S [Ob 15 .lss 14 13] (.seq (Ce 15 0) (.seq (.block 1 (S [Om 16 14,Oi 17 3 12 14,Ot 18 3 17,O 7 (.alloc (.agg [Z0,Z0,E0])),Om 6 16,Ns 3 7 18] (.region [Om 19 5,Om 20 6,Pb 21 3 1 20,Oa 22 0 7,Ol 23 1 22,Ok 24 64 [.t 21,.t 23],Py 25 3 1 8 19 24,Om 5 25]))) (.region [Oc 26 .add 14 1,Om 14 26]))))))) (.seq (.block 2 (.loop (.seq (S [Om 27 5,On 28 27,Oc 29 .gtr 28 0] (Ce 29 2)) (.block 3 (.seq (S [Om 30 4,Oz 31 30,Oa 32 2 31,Ol 33 1 32,On 34 33,Oc 35 .eql 34 40] (Cd 35 (S [O 2 (.mov (.c .nilp)),Pf 3] .ret) .skip)) (S [Pm 36 4,Pm 37 4,Pz 38 37,Pa 39 2 38,Pl 40 39,Of 41 (.call (C 65) []),Of 42 (.bslice 88 4 [.t 41]),Py 43 88 4 32 40 42,Oz 44 36,Oa 45 2 44,Ns 1 45 43] (.region [Om 46 5,Om 47 4,O 48 (.mkf 67 [.t 47] []),Ok 49 66 [.t 46,.t 48],Om 5 49]))))))) (S [Om 50 4,Om 2 50,O 3 (.mov Bt)] .ret))))),[.tm 2,.tm 3]⟩
def Y36_0a:LCode :=(.region [O 17 (.alloc (.agg [Z0,Z0,Z0,Z0,Z0,Z0,Z0])),Ns 7 17 72])
def Y36_0b:LCode :=(.block 4 (.seq (.regT (.op (Of 74 (.fa 0 (.t 17))) (.op (Of 73 (.load false 1 (.t 12))) (.op (Of 75 (.load false 1 (.t 74))) (.op (Of 76 (.x (.look ⟨false,[.int .i64]⟩ E0 false (.t 73) (.t 75)))) (.op (Of 78 (.load false 1 (.t 14))) (.seq (.alt (Of 77 (.call (C 29) [.t 76])) (.alt (Of 79 (.bslice 3 1 [.t 78])) .done .no) (.alt (Of 79 (.bslice 3 1 [.t 78])) (.alt (Of 77 (.call (C 29) [.t 76])) .done .no) .no)) (.alt (O 80 (.app 3 1 8 (.t 77) (.t 79))) (.op (Om 18 80) .done) .no)))))))) (S [Ol 81 1 11,Ot 82 7 17,O 83 (.call (.t 81) [.t 82]),Om 84 83,G 85 84 true (.load false 1 (.t 16)),G 86 84 true (.nilq .sl false (.t 85)),G 87 84 true (M 86),G 88 87 false (M 18),G 89 87 false (.load false 1 (.t 16)),G 90 87 false (.call (C 79) [.t 88,.t 89]),G 91 87 false (.bin false .lss (.t 90) (I 0)),G 92 84 true (.pick (.t 87) Bt (.t 91)),O 93 (.pick (.t 84) (.t 92) Bf)] (Cd 93 (.region [Om 94 18,Ns 1 16 94]) .skip))))
def Y36_1a:LCode :=(.region [O 20 (.alloc (.agg [Z0,Z0,Z0,Z0,Z0,Z0,Z0])),Ns 7 20 115])
def Y36_1b:LCode :=(.block 6 (S [Ol 116 1 12,Oa 117 0 20,Ol 118 1 117,O 119 (.x (.look ⟨false,[.int .i64]⟩ E0 false (.t 116) (.t 118))),Om 21 119] (S [Ol 120 1 11,Ot 121 7 20,O 122 (.call (.t 120) [.t 121]),Om 123 122,G 124 123 true (.load false 1 (.t 19)),G 125 123 true (.nilq .sl false (.t 124)),G 126 123 true (M 125),G 127 126 false (M 21),G 128 126 false (.load false 1 (.t 19)),G 129 126 false (.call (C 79) [.t 127,.t 128]),G 130 126 false (.bin false .lss (.t 129) (I 0)),G 131 123 true (.pick (.t 126) Bt (.t 130)),O 132 (.pick (.t 123) (.t 131) Bf)] (Cd 132 (.region [Om 133 21,Ns 1 19 133]) .skip))))
def L36:LFn :=⟨136,S [Ox 3 2 0,Pe 6,OM 7 0] (S [Ot 23 2 3,Om 24 1,Om 25 2,Ok 26 76 [.t 23,.t 24,.t 25],Om 22 26,Oe 27 22 0,Oe 28 22 1,Oe 29 22 2,O 9 (.alloc .nilmap),Om 8 27,Ns 1 9 28,Om 10 29] (.seq (.block 0 (S [Om 31 10,Oc 32 .neq 31 0,Om 30 32] (Cd 30 (S [Om 33 10,Pe 6,Om 7 33] .ret) (S [Om 35 8,Oz 36 35,Oa 37 0 36,Oa 38 0 37,Ol 39 1 38,Om 40 1,Oi 41 4 39 40,Oa 42 1 41,Ol 43 1 42,Om 34 43] (Cd 34 (S [Pe 6,OM 7 0] .ret) .skip))))) (S [O 44 (.mkf 77 [] [.t 9]),O 11 (.alloc .nilfn),Ns 1 11 44] (S [O 45 (.x .mmk),O 12 (.alloc .nilmap),Ns 1 12 45] (.seq (S [Om 46 8,Oz 47 46,Oa 48 3 47,Ol 49 1 48,On 50 49,OM 51 0] (.block 1 (.loop (S [Ob 52 .lss 51 50] (.seq (Ce 52 1) (.seq (.block 2 (S [Oi 53 1 49 51,Ol 54 1 53,O 14 (.alloc Z0),Ns 1 14 54] (S [Pm 55 8,Pz 56 55,Pa 57 2 56,Pl 58 57,Pl 59 14,Of 60 (.x (.look ⟨false,[.int .i64]⟩ (.agg [Z0,Z0,Z0,Z0,Z0,Z0,Z0]) false (.t 58) (.t 59))),Of 15 (.alloc (.agg [Z0,Z0,Z0,Z0,Z0,Z0,Z0])),Ns 7 15 60] (.seq (S [Ol 61 1 11,Ot 62 7 15,O 63 (.call (.t 61) [.t 62]),Oo 64 63] (Cd 64 (.exit 2) .skip)) (S [O 16 (.alloc E0)] (.seq (S [Om 65 8,Oa 66 2 15,Ol 67 1 66,Oa 68 3 15,Ol 69 1 68,Ol 70 1 14,Ok 71 78 [.t 65,.t 67,.t 69,.t 70]] (.block 3 (.rng 136 (.t 71) (rcode Tryz.prog 36 0) Y36_0a Y36_0b [72]))) (.seq (S [Pm 95 8,Pz 96 95,Pa 97 0 96,Pa 98 0 97,Pa 100 2 15,Pl 99 98,Pl 101 100,Of 102 (.ia 4 none (.t 99) (.t 101)),Pa 103 1 102,Pl 104 103] (Cd 104 (.region [Ol 105 1 14,Pb 106 3 1 105,Ns 1 16 106]) .skip)) (.region [Ol 107 1 12,Ol 108 1 14,Ol 109 1 16,N (.x (.upd ⟨false,[.int .i64]⟩ (.t 107) (.t 108) (.t 109)))])))))))) (.region [Oc 110 .add 51 1,Om 51 110]))))))) (S [O 19 (.alloc E0)] (.seq (S [Om 111 8,Om 112 1,Om 113 2,Ok 114 78 [.t 111,.t 112,.t 113,I 1000]] (.block 5 (.rng 136 (.t 114) (rcode Tryz.prog 36 1) Y36_1a Y36_1b [115]))) (S [Ol 134 1 19,Ok 135 29 [.t 134],Om 6 135,OM 7 0] .ret)))))))),[.tm 6,.tm 7]⟩
theorem L36_ok:litF Tryz.prog 36=some L36:=by kernel_rfl
def L41:LFn :=⟨42,S [Pe 4] (S [Om 8 0,Om 9 1,Ok 10 90 [.t 8,.t 9],Om 5 10] (.seq (S [Om 11 5,Oc 12 .eql 11 (-1)] (Cd 12 (S [Om 13 0,Om 4 13] .ret) .skip)) (.seq (S [Om 14 5,Oc 15 .add 14 1,Om 6 15] (.block 0 (.loop (.seq (S [Om 16 6,Om 17 0,On 18 17,Ob 19 .lss 16 18] (Ce 19 0)) (.seq (.block 1 (S [Om 22 0,Om 23 6,Oi 24 7 22 23,Ot 25 7 24,O 7 (.alloc (.agg [Z0,Z0,Z0,Z0,Z0,Z0,Z0])),Ns 7 7 25] (S [Om 26 1,Ot 27 7 7,O 28 (.call (.t 26) [.t 27]),Oo 29 28] (Cd 29 (S [Om 30 0,Om 31 5,Ot 32 7 7,Oi 33 7 30 31,Ns 7 33 32] (.region [Om 34 5,Oc 35 .add 34 1,Om 5 35])) .skip)))) (.region [Om 20 6,Oc 21 .add 20 1,Om 6 21])))))) (S [Om 36 0,Om 37 5,O 38 (.slc 7 none (.t 36) (some (.t 37)) none none),N (.x (.clear 7 (.agg [Z0,Z0,Z0,Z0,Z0,Z0,Z0]) (.t 38)))] (S [Om 39 0,Om 40 5,O 41 (.slc 7 none (.t 39) none (some (.t 40)) none),Om 4 41] .ret))))),[.tm 4]⟩
def L50:LFn :=⟨27,S [Ox 2 2 0,Pe 4,OM 5 0] (S [Ot 10 2 2,Om 11 1,Ok 12 96 [.t 10,.t 11],Om 9 12,Oe 13 9 0,Oe 14 9 1,Om 6 13,Om 7 14] (.seq (S [Om 15 7,Oc 16 .neq 15 0] (Cd 16 (S [Om 17 7,Pe 4,Om 5 17] .ret) .skip)) (S [Om 18 6,Ok 19 85 [.t 18],O 8 (.alloc .nilmap),Ns 1 8 19] (S [Om 20 6,Oz 21 20,Oa 22 3 21,Ol 23 1 22,Ok 24 29 [.t 23],O 25 (.mkf 97 [] [.t 8]),Ok 26 66 [.t 24,.t 25],Om 4 26,OM 5 0] .ret)))),[.tm 4,.tm 5]⟩
def L52:LFn :=⟨33,S [O 2 (.mov (.c (.str ⟨#[]⟩)))] (S [Pe 3] (.seq (S [Om 8 0,On 9 8,OM 10 0] (.block 0 (.loop (S [Ob 11 .lss 10 9] (.seq (Ce 11 0) (.seq (.block 1 (S [Oi 12 1 8 10,Ol 13 1 12,Om 5 13] (S [Om 14 5] (.block 2 (S [O 15 (.x (.tas 3 Z0 (.t 14))),Oe 16 15 1,Oe 17 15 0] (Cd 16 (S [Om 6 17] (.region [Om 18 3,Om 19 6,Ok 20 101 [.t 19],Pb 21 9 1 20,Py 22 9 1 16 18 21,Om 3 22])) (S [O 23 (.x (.tas 9 (.str ⟨#[]⟩) (.t 14))),Oe 24 23 1,Oe 25 23 0] (Cd 24 (S [Om 7 25] (.region [Om 26 3,Om 27 7,Pb 28 9 1 27,Py 29 9 1 16 26 28,Om 3 29])) .skip)))))))) (.region [Oc 30 .add 10 1,Om 10 30]))))))) (S [Om 31 3,O 32 (.call (C 102) [.t 31,.c (.str ⟨#[32]⟩)]),Om 2 32] .ret))),[.tm 2]⟩
def L55:LFn :=⟨20,S [Pe 2] (S [Pe 3] (.seq (S [Om 6 0,On 7 6,OM 8 0] (.block 0 (.loop (S [Ob 9 .lss 8 7] (.seq (Ce 9 0) (.seq (.block 1 (S [Om 10 8,Oi 11 1 6 8,Ol 12 1 11,Om 4 10,Om 5 12] (.region [Om 13 3,Om 14 5,Om 15 4,Ok 16 104 [.t 14,.t 15],O 17 (.x (.aps 5 1 1 (.t 13) (.t 16))),Om 3 17]))) (.region [Oc 18 .add 8 1,Om 8 18]))))))) (S [Om 19 3,Om 2 19] .ret))),[.tm 2]⟩
def L56:LFn :=⟨6,S [Pf 2] (S [Om 3 0,On 4 3,Oc 5 .leq 4 6,Om 2 5] .ret),[.tm 2]⟩
def L57:LFn :=⟨5,S [Pf 2] (S [Om 3 0,Ok 4 58 [.t 3,C 59],Om 2 4] .ret),[.tm 2]⟩
def L62:LFn :=⟨9,S [Ox 3 1 1,Pf 4] (S [Om 5 0,O 6 (.mkf 110 [] [.t 3]),Ok 7 109 [.t 5,.t 6],Oo 8 7,Om 4 8] .ret),[.tm 4]⟩
def L75:LFn :=⟨8,S [Pe 2] (.seq (S [Om 3 0,O 4 (.nilq .sl false (.t 3))] (Cd 4 (S [Pe 2] .ret) .skip)) (S [O 5 (.bslice 58 4 []),Om 6 0,O 7 (.app0 58 4 32 (.t 5) (.t 6)),Om 2 7] .ret)),[.tm 2]⟩
def Y76_0a:LCode :=(.region [O 13 (.alloc (.agg [Z0,Z0,Z0,Z0,Z0,Z0,Z0])),Ns 7 13 49])
def Y76_0b:LCode :=(.block 1 (.region [Ol 50 1 12,Om 51 50,G 52 51 false (.load false 1 (.t 11)),G 53 51 false (.fa 0 (.t 13)),G 54 51 false (.load false 1 (.t 53)),G 55 51 false (.x (.look ⟨false,[.int .i64]⟩ (.bool false) false (.t 52) (.t 54))),O 56 (.pick (.t 51) Bt (.t 55)),Ns 1 12 56]))
def L76:LFn :=⟨61,S [Ox 3 2 0,O 6 (.mov (.c .nilp)),O 7 (.mov (.c .nilmap)),OM 8 0] (S [Ot 15 2 3,Ok 16 38 [.t 15],Om 14 16,Oe 17 14 0,Oe 18 14 1,Om 9 17,Om 10 18] (.seq (S [Om 19 10,Oc 20 .neq 19 0] (Cd 20 (S [Om 21 10,O 6 (.mov (.c .nilp)),O 7 (.mov (.c .nilmap)),Om 8 21] .ret) .skip)) (.seq (S [Om 22 9,Oz 23 22,Oa 24 0 23,Ot 25 2 24,Om 26 1,Ok 27 122 [.t 25,.t 26],Oo 28 27,Om 29 28,G 30 29 false (M 2),G 31 29 false (.call (C 123) [.t 30]),G 32 29 false (.not (.t 31)),Pq 33 29 32] (Cd 33 (S [O 6 (.mov (.c .nilp)),O 7 (.mov (.c .nilmap)),OM 8 2] .ret) .skip)) (S [Om 34 9,Ok 35 85 [.t 34],O 11 (.alloc .nilmap),Ns 1 11 35] (S [Om 36 9,Oz 37 36,Oa 38 0 37,Oa 39 0 38,Ol 40 1 39,Om 41 1,Oi 42 4 40 41,Oa 43 1 42,Ol 44 1 43,O 12 (.alloc (.bool false)),Ns 1 12 44] (.seq (S [Om 45 9,Om 46 1,Om 47 2,Ok 48 78 [.t 45,.t 46,.t 47,I 1000]] (.block 0 (.rng 61 (.t 48) (rcode Tryz.prog 76 0) Y76_0a Y76_0b [49]))) (.seq (S [Ol 57 1 12,Oo 58 57] (Cd 58 (S [O 6 (.mov (.c .nilp)),O 7 (.mov (.c .nilmap)),OM 8 10] .ret) .skip)) (S [Pm 59 9,Pm 6 59,Pl 60 11,Om 7 60,OM 8 0] .ret)))))))),[.tm 6,.tm 7,.tm 8]⟩
theorem L76_ok:litF Tryz.prog 76=some L76:=by kernel_rfl
def L78:LFn :=⟨10,S [Ox 4 1 0,Ox 5 1 1,Ox 6 1 2,Ox 7 1 3,O 8 (.mov (.c .nilfn))] (S [O 9 (.mkf 124 [] [.t 4,.t 7,.t 5,.t 6]),Om 8 9] .ret),[.tm 8]⟩
theorem L78_ok:litF Tryz.prog 78=some L78:=by kernel_rfl
def L79:LFn :=⟨15,S [OM 4 0] (S [Om 5 0,On 6 5,Om 7 1,On 8 7,Ob 9 .sub 6 8,Om 10 0,Om 11 1,Ok 12 127 [.t 10,.t 11],O 13 (.bslice 3 1 [.t 9,.t 12]),Ok 14 126 [.t 13],Om 4 14] .ret),[.tm 4]⟩
def L82:LFn :=⟨9,S [Ox 3 1 1,Pf 4] (S [Om 5 0,O 6 (.mkf 132 [] [.t 3]),Ok 7 71 [.t 5,.t 6],Oo 8 7,Om 4 8] .ret),[.tm 4]⟩
def L84:LFn :=⟨11,S [Om 3 0,On 4 3,Om 2 4] (.region [Om 5 0,Om 6 2,Om 7 2,O 8 (.conv .u64 (.t 7)),Ok 9 135 [.t 8],Ok 10 134 [.t 5,I 0,.t 6,.t 9]]),[]⟩
def L96:LFn :=⟨48,S [Ox 2 2 0,O 4 (.mov (.c .nilp)),OM 5 0] (S [Ot 11 2 2,Ok 12 38 [.t 11],Om 10 12,Oe 13 10 0,Oe 14 10 1,Om 6 13,Om 7 14] (.seq (S [Om 15 7,Oc 16 .neq 15 0] (Cd 16 (S [Om 17 7,O 4 (.mov (.c .nilp)),Om 5 17] .ret) .skip)) (.seq (S [Om 18 1,On 19 18,OM 20 0] (.block 0 (.loop (S [Ob 21 .lss 20 19] (.seq (Ce 21 0) (.seq (.block 1 (S [Om 22 20,Oi 23 1 18 20,Ol 24 1 23,Om 8 22,Om 9 24] (.seq (S [Om 25 9,Ok 26 133 [.t 25],Oo 27 26,Om 28 27,G 29 28 false (M 8),G 30 28 false (.bin false .gtr (.t 29) (I 0)),G 31 28 false (M 30),Pn 32 31 9,Pn 33 31 1,Pn 34 31 8,G 35 31 true (.bin false .sub (.t 34) (I 1)),G 36 31 true (.ia 1 none (.t 33) (.t 35)),Pg 37 31 36,G 38 31 true (.bin false .leq (.t 32) (.t 37)),G 39 28 false (.pick (.t 31) (.t 38) Bf),Pq 40 28 39] (Cd 40 (S [O 4 (.mov (.c .nilp)),OM 5 2] .ret) .skip)) (.region [Om 41 6,Om 42 9,Oz 43 41,Oa 44 4 43,O 45 (.ia 1 (some 1000) (.t 44) (.t 42)),N (.store 1 (.t 45) Bt)])))) (.region [Oc 46 .add 20 1,Om 20 46]))))))) (S [Om 47 6,Om 4 47,OM 5 0] .ret)))),[.tm 4,.tm 5]⟩
def L100:LFn :=⟨9,S [Pe 0] (S [O 1 (.build (.agg [Z0,.bool false,Z0,Z0]) [(1,(1,Bt))]),O 2 (.build (.agg [Z0,Z0]) [(0,(1,(I (-2)))),(1,(1,(I 2)))]),O 3 (.build (.agg [Z0,.bool false,Z0,Z0]) [(1,(1,Bt)),(2,(2,(.t 2)))]),O 4 (.build (.agg [Z0,.bool false,Z0,Z0]) [(0,(1,(I 1)))]),O 5 (.build (.agg [Z0,.bool false,Z0,Z0]) [(0,(1,(I 1)))]),O 6 (.build (.agg [Z0,.bool false,Z0,Z0]) []),O 7 (.build (.agg [Z0,.bool false,Z0,Z0]) []),O 8 (.bslice 116 4 [.t 1,.t 3,.t 4,.t 5,.t 6,.t 7]),Om 0 8] .ret),[.tm 0]⟩
def L104:LFn :=⟨47,S [O 4 (.mov (.c (.str ⟨#[]⟩)))] (S [Om 8 1,Oc 9 .add 8 1,O 10 (.bin false .mul (I 11) (.t 9)),Om 5 10] (.seq (S [Om 11 0,O 12 (.x (.sbyt 5 (.t 11))),On 13 12,OM 14 0] (.block 0 (.loop (S [Ob 15 .lss 14 13] (.seq (Ce 15 0) (.seq (.block 1 (S [Om 16 14,Oi 17 1 12 14,Ol 18 1 17,Om 6 16,Om 7 18] (.region [Om 19 5,Om 20 6,Oc 21 .add 20 1,Om 22 7,O 23 (.conv .i64 (.t 22)),Oc 24 .add 23 1,Ob 25 .mul 21 24,Ob 26 .add 19 25,Om 5 26]))) (.region [Oc 27 .add 14 1,Om 14 27]))))))) (S [Om 28 0,O 29 (.x (.slen (.t 28))),Ok 30 150 [.t 29,I 3],O 31 (.x (.scat (.c (.str ⟨#[123]⟩)) (.t 30))),O 32 (.x (.scat (.t 31) (.c (.str ⟨#[58]⟩)))),Om 33 0,O 34 (.x (.slen (.t 33))),O 35 (.bin false .sub (I 999) (.t 34)),Ok 36 150 [.t 35,I 3],O 37 (.x (.scat (.t 32) (.t 36))),O 38 (.x (.scat (.t 37) (.c (.str ⟨#[58]⟩)))),Om 39 5,Oc 40 .rem 39 99991,Ok 41 150 [.t 40,I 5],O 42 (.x (.scat (.t 38) (.t 41))),O 43 (.x (.scat (.t 42) (.c (.str ⟨#[125]⟩)))),Om 44 0,O 45 (.x (.scat (.t 43) (.t 44))),O 46 (.x (.scat (.t 45) (.c (.str ⟨#[10]⟩)))),Om 4 46] .ret))),[.tm 4]⟩
def L107:LFn :=⟨5,S [Pf 2] (S [Om 3 0,Ok 4 108 [.t 3,I 0,I 39],Om 2 4] .ret),[.tm 2]⟩
def L110:LFn :=⟨8,S [Pf 3] (S [Ol 4 1 1,Om 5 0,O 6 (.call (.t 4) [.t 5]),Oo 7 6,Om 3 7] .ret),[.tm 3]⟩
def L111:LFn :=⟨9,S [Pf 4] (S [Om 5 0,Om 6 1,Ok 7 153 [.t 5,.t 6],Oc 8 .geq 7 0,Om 4 8] .ret),[.tm 4]⟩
def L114:LFn :=⟨19,S [OM 4 0] (.seq (S [Om 6 0,On 7 6,OM 8 0] (.block 0 (.loop (S [Ob 9 .lss 8 7] (.seq (Ce 9 0) (.seq (.block 1 (S [Om 10 8,Om 5 10] (S [Om 11 1,Om 12 0,Om 13 5,Oi 14 1 12 13,Ol 15 1 14,O 16 (.call (.t 11) [.t 15])] (Cd 16 (S [Om 17 5,Om 4 17] .ret) .skip)))) (.region [Oc 18 .add 8 1,Om 8 18]))))))) (S [OM 4 (-1)] .ret)),[.tm 4]⟩
def L115:LFn :=⟨11,S [Ox 1 3 0,OM 2 0] (.seq (.block 0 (S [Oa 4 2 1,Ol 5 1 4,Oc 6 .eql 5 (-1),Om 3 6] (Cd 3 (S [OM 2 0] .ret) (S [Oa 8 1 1,Ol 9 1 8,Oc 10 .eql 9 (-1),Om 7 10] (Cd 7 (S [OM 2 1] .ret) .skip))))) (S [OM 2 2] .ret)),[.tm 2]⟩
def L122:LFn :=⟨11,S [Ox 2 2 0,Pf 4] (S [Om 5 1,Oa 6 0 2,Ol 7 1 6,On 8 7,Oc 9 .sub 8 1,Ok 10 130 [.t 5,I 0,.t 9],Om 4 10] .ret),[.tm 4]⟩
def L131:LFn :=⟨18,S [Ox 1 2 0,Pf 2] (S [Oa 3 0 1,Ol 4 1 3,Ok 5 166 [.t 4],Om 6 5,Ph 7 6 1 1,Pg 8 6 7,G 9 6 true (.call (C 166) [.t 8]),Pp 10 6 9,Om 11 10,Ph 12 11 0 1,Pg 13 11 12,Ph 14 11 1 1,Pg 15 11 14,G 16 11 true (.bin false .leq (.t 13) (.t 15)),Pp 17 11 16,Om 2 17] .ret),[.tm 2]⟩
def L132:LFn :=⟨8,S [Ox 2 7 0,Pf 3] (S [Ol 4 1 1,Ot 5 7 2,O 6 (.call (.t 4) [.t 5]),Oo 7 6,Om 3 7] .ret),[.tm 3]⟩
def L136:LFn :=⟨2,S [O 0 (.alloc (.agg [Z0,Z0]))] (S [O 1 (.build (.agg [Z0,Z0]) [(0,(1,(I (-1099511627776)))),(1,(1,(I 1099511627776)))]),Ns 2 0 1] .ret),[.cell 0 true 2]⟩
def L137:LFn :=⟨18,S [Ox 2 2 0,Ox 3 2 1,O 4 (.alloc (.agg [Z0,Z0]))] (.seq (.regT (.op (Pa 5 0 2) (.op (Pa 7 0 3) (.op (Pa 11 1 2) (.op (Pa 13 1 3) (.op (Pl 6 5) (.op (Pl 8 7) (.op (Pl 12 11) (.op (Pl 14 13) (.seq (.alt (Of 9 (.bslice 3 1 [.t 6,.t 8])) (.alt (Of 10 (.call (C 178) [.t 9])) (.alt (Of 15 (.bslice 3 1 [.t 12,.t 14])) .done .no) (.alt (Of 15 (.bslice 3 1 [.t 12,.t 14])) (.alt (Of 10 (.call (C 178) [.t 9])) .done .no) .no)) (.alt (Of 15 (.bslice 3 1 [.t 12,.t 14])) (.alt (Of 9 (.bslice 3 1 [.t 6,.t 8])) (.alt (Of 10 (.call (C 178) [.t 9])) .done .no) .no) .no)) (.alt (Ok 16 179 [.t 15]) (.op (O 17 (.build (.agg [Z0,Z0]) [(0,(1,(.t 10))),(1,(1,(.t 16)))])) (.alt (Ns 2 4 17) .done .no)) .no))))))))))) .ret),[.cell 4 true 2]⟩
def L141:LFn :=⟨15,S [Pf 6] (S [Om 7 1,Om 8 0,Ob 9 .leq 7 8,Om 10 9,Pn 11 10 0,Pn 12 10 2,G 13 10 true (.bin false .leq (.t 11) (.t 12)),Pp 14 10 13,Om 6 14] .ret),[.tm 6]⟩
def L145:LFn :=⟨9,S [Ox 1 4 0,O 2 (.alloc (.agg [Z0,E0]))] (S [Oa 3 1 1,Ol 4 1 3,O 5 (.build (.agg [Z0,Z0,Z0]) [(0,(1,(I 2))),(1,(1,(I 0))),(2,(1,(I 2)))]),O 6 (.build (.agg [Z0,Z0,Z0]) [(0,(1,(I 2))),(1,(1,(I 1))),(2,(1,(I 2)))]),O 7 (.bslice 118 3 [.t 5,.t 6]),O 8 (.build (.agg [Z0,E0]) [(0,(1,(.t 4))),(1,(1,(.t 7)))]),Ns 2 2 8] .ret),[.cell 2 true 2]⟩
def L150:LFn :=⟨24,S [O 4 (.mov (.c (.str ⟨#[]⟩)))] (S [O 5 (.alloc (.agg [.int .u8 (0),.int .u8 (0),.int .u8 (0),.int .u8 (0),.int .u8 (0)]))] (.seq (S [Om 7 1,Oc 8 .sub 7 1,Om 6 8] (.block 0 (.loop (.seq (S [Om 9 6,Oc 10 .geq 9 0] (Ce 10 0)) (.seq (.block 1 (S [Om 13 6,Om 14 0,Oc 15 .rem 14 10,O 16 (.bin false .add (I 48) (.t 15)),O 17 (.conv .u8 (.t 16)),O 18 (.ia 1 (some 5) (.t 5) (.t 13)),Ns 1 18 17] (.region [Om 19 0,Oc 20 .quo 19 10,Om 0 20]))) (.region [Om 11 6,Oc 12 .sub 11 1,Om 6 12])))))) (S [Om 21 1,O 22 (.x (.sla 5 (.t 5) (.t 21))),O 23 (.x (.sof (.t 22))),Om 4 23] .ret))),[.tm 4]⟩
def L153:LFn :=⟨19,S [OM 4 0] (.seq (S [Om 6 0,On 7 6,OM 8 0] (.block 0 (.loop (S [Ob 9 .lss 8 7] (.seq (Ce 9 0) (.seq (.block 1 (S [Om 10 8,Om 5 10] (S [Om 11 1,Om 12 0,Om 13 5,Oi 14 3 12 13,Ot 15 3 14,O 16 (.call (.t 11) [.t 15])] (Cd 16 (S [Om 17 5,Om 4 17] .ret) .skip)))) (.region [Oc 18 .add 8 1,Om 8 18]))))))) (S [OM 4 (-1)] .ret)),[.tm 4]⟩
def L166:LFn :=⟨5,S [Pf 2] (S [Om 3 0,Ok 4 130 [.t 3,I (-100000),I 100000],Om 2 4] .ret),[.tm 2]⟩
def L178:LFn :=⟨5,S [OM 2 0] (S [Om 3 0,Ok 4 201 [.t 3],Om 2 4] .ret),[.tm 2]⟩
def L189:LFn :=⟨57,S [Om 6 1,O 7 (.ia 1 none (.t 6) (I 0)),Ol 8 1 7,Ok 9 219 [.t 8,I 1,I 99],Om 10 9,Pn 11 10 1,G 12 10 true (.ia 1 none (.t 11) (I 1)),Pg 13 10 12,G 14 10 true (.call (C 219) [.t 13,I 4,I 30]),Pp 15 10 14,Om 16 15,Pn 17 16 1,G 18 16 true (.ia 1 none (.t 17) (I 2)),Pg 19 16 18,G 20 16 true (.call (C 219) [.t 19,I 0,I 1000]),Pp 21 16 20,Ok 22 162 [.t 21,I 2]] (S [Om 24 0,Om 25 1,O 26 (.ia 1 none (.t 25) (I 0)),Ol 27 1 26,Ok 28 220 [.t 24,.t 27],Om 23 28,Oe 29 23 0,Oe 30 23 1,Om 4 29,Om 5 30] (S [Om 31 5,Oo 32 31,Ok 33 162 [.t 32,I 6]] (.regT (.op (Pm 34 0) (.op (Pm 35 0) (.op (Pz 36 35) (.op (Pa 37 0 36) (.op (Pa 38 2 37) (.op (Pm 41 4) (.op (Pm 42 1) (.op (Pj 43 1 42 0) (.op (Pm 45 1) (.op (Pj 46 1 45 1) (.op (Pm 48 1) (.op (Pj 49 1 48 2) (.op (Pl 39 38) (.op (Pl 44 43) (.op (Pl 47 46) (.op (Pl 50 49) (.op (Of 51 (.build (.agg [Z0,Z0,Z0,.bool false]) [(0,(1,(.t 44))),(1,(1,(.t 47))),(2,(1,(.t 50)))])) (.seq (.alt (Of 40 (.call (C 74) [.t 39])) (.alt (Of 52 (.bslice 68 4 [.t 51])) .done .no) (.alt (Of 52 (.bslice 68 4 [.t 51])) (.alt (Of 40 (.call (C 74) [.t 39])) .done .no) .no)) (.alt (Ok 53 221 [.t 40,.t 41,.t 52]) (.op (Oz 54 34) (.op (Oa 55 0 54) (.op (Oa 56 2 55) (.alt (Ns 1 56 53) .done .no)))) .no)))))))))))))))))))))),[]⟩
def L190:LFn :=⟨107,S [Om 11 1,O 12 (.ia 1 none (.t 11) (I 1)),Ol 13 1 12,Ok 14 219 [.t 13,I 2,I 5],Om 15 14,Pn 16 15 1,G 17 15 true (.ia 1 none (.t 16) (I 2)),Pg 18 15 17,G 19 15 true (.call (C 219) [.t 18,I 0,I 1000]),Pp 20 15 19,Om 21 20,Pn 22 21 1,G 23 21 true (.ia 1 none (.t 22) (I 3)),Pg 24 21 23,G 25 21 true (.call (C 219) [.t 24,I 0,I 2000]),Pp 26 21 25,Ok 27 162 [.t 26,I 2]] (S [Om 29 0,Om 30 1,O 31 (.ia 1 none (.t 30) (I 0)),Ol 32 1 31,Ok 33 220 [.t 29,.t 32],Om 28 33,Oe 34 28 0,Oe 35 28 1,Om 4 34,Om 5 35] (S [Om 36 5,Ok 37 162 [.t 36,I 7]] (S [Om 38 0,Oz 39 38,Oa 40 0 39,Oa 41 2 40,Ol 42 1 41,Om 43 4,Oi 44 4 42 43,Ot 45 4 44,O 6 (.alloc (.agg [Z0,Z0,Z0,.bool false])),Ns 4 6 45] (S [Oa 46 3 6,Ol 47 1 46,Oo 48 47,Om 49 48,Pn 50 49 0,G 51 49 true (.load true 4 (.t 6)),G 52 49 true (.call (C 93) [.t 50,.t 51]),G 53 49 true (.bin false .eql (.t 52) (.c (.int .u8 (3)))),Pp 54 49 53,Ok 55 162 [.t 54,I 8]] (S [OM 7 0] (.seq (S [Om 56 0,Oz 57 56,Oa 58 0 57,Oa 59 3 58,Ol 60 1 59,On 61 60,OM 62 0] (.block 0 (.loop (S [Ob 63 .lss 62 61] (.seq (Ce 63 0) (.seq (.block 1 (S [Oi 64 4 60 62,Ot 65 4 64,O 9 (.alloc (.agg [Z0,Z0,Z0,Z0])),Ns 4 9 65] (S [Oa 66 0 9,Ol 67 1 66,Oa 68 0 6,Ol 69 1 68,Ob 70 .eql 67 69] (Cd 70 (.region [Om 71 7,Oc 72 .add 71 1,Om 7 72]) .skip)))) (.region [Oc 73 .add 62 1,Om 62 73]))))))) (S [Om 74 7,Oa 75 1 6,Ol 76 1 75,Ob 77 .lss 74 76,Ok 78 162 [.t 77,I 3]] (S [Pm 79 1,Pj 80 1 79 0,Pm 82 1,Pj 83 1 82 1,Pm 85 1,Pj 86 1 85 2,Pm 88 1,Pj 89 1 88 3,Pl 81 80,Pl 84 83,Pl 87 86,Pl 90 89,O 91 (.build (.agg [Z0,Z0,Z0,Z0]) [(0,(1,(.t 81))),(1,(1,(.t 84))),(2,(1,(.t 87))),(3,(1,(.t 90)))]),Of 10 (.alloc (.agg [Z0,Z0,Z0,Z0])),Ns 4 10 91] (S [Om 92 0,Ot 93 4 10,Ok 94 34 [.t 92,.t 93],Ok 95 162 [.t 94,I 10]] (.region [Pm 96 0,Pm 97 0,Pz 98 97,Pa 99 0 98,Pa 100 3 99,Pl 101 100,Pt 102 4 10,Ok 103 222 [.t 101,.t 102],Oz 104 96,Oa 105 0 104,Oa 106 3 105,Ns 1 106 103])))))))))),[]⟩
def L209:LFn :=⟨27,S [Ot 7 2 1,O 8 (.mkf 210 [.t 7] []),Om 5 8] (S [Oa 9 0 1,Ol 10 1 9,On 11 10,OM 12 0] (.block 0 (.loop (S [Ob 13 .lss 12 11] (.seq (Ce 13 0) (.seq (.block 1 (S [Om 14 12,Om 6 14] (S [Om 15 5,Ol 16 1 2,Om 17 6,Ol 18 1 3,O 19 (.call (.t 15) [.t 16,.t 17,.t 18]),Om 20 19,Pn 21 20 0,Pn 22 20 6,G 23 20 true (.call (.t 21) [.t 22]),G 24 20 true (.not (.t 23)),Pp 25 20 24] (Cd 25 .ret .skip)))) (.region [Oc 26 .add 12 1,Om 12 26]))))))),[]⟩
def L210:LFn :=⟨38,S [Ox 4 2 0,Ox 7 1 3,Pf 8] (S [Oa 11 1 4,Ol 12 1 11,Om 13 1,Oi 14 3 12 13,Ot 15 3 14,O 9 (.alloc (.agg [Z0,Z0,E0])),Ns 3 9 15] (S [O 16 (.mkf 232 [] [.t 7]),Om 10 16] (S [Oa 17 2 9,Ol 18 1 17,Om 19 2,Oi 20 1 18 19,Ol 21 1 20,Om 22 21,Ph 23 22 1 9,Pg 24 22 23,Pg 25 22 7,G 26 22 true (.bin false .leq (.t 24) (.t 25)),Pp 27 22 26,Om 28 27,Ph 29 28 0 4,Pg 30 28 29,Pn 31 28 2,G 32 28 true (.ia 1 none (.t 30) (.t 31)),Pg 33 28 32,Pn 34 28 10,G 35 28 true (.call (C 105) [.t 33,.t 34]),G 36 28 true (.not (.t 35)),Pp 37 28 36,Om 8 37] .ret))),[.tm 8]⟩
def L216:LFn :=⟨10,S [O 2 (.alloc (.agg [E0,E0]))] (S [Pm 4 0,Pz 5 4,Pa 6 0 5,Pa 7 0 6,Pl 8 7,Of 3 (.call (C 100) []),O 9 (.build (.agg [E0,E0]) [(0,(1,(.t 3))),(1,(1,(.t 8)))]),Ns 2 2 9] .ret),[.cell 2 true 2]⟩
def L223:LFn :=⟨10,S [Ox 3 3 1,Pe 4] (.seq (.regT (.op (Pm 5 0) (.op (Pt 7 3 3) (.seq (.alt (Of 6 (.call (C 244) [.t 5])) (.alt (Pb 8 147 3 7) .done .no) (.alt (Pb 8 147 3 7) (.alt (Of 6 (.call (C 244) [.t 5])) .done .no) .no)) (.alt (Py 9 147 3 40 6 8) (.op (Om 4 9) .done) .no))))) .ret),[.tm 4]⟩
def L244:LFn :=⟨8,S [Pe 2] (.seq (S [Om 3 0,O 4 (.nilq .sl false (.t 3))] (Cd 4 (S [Pe 2] .ret) .skip)) (S [O 5 (.bslice 147 3 []),Om 6 0,O 7 (.app0 147 3 40 (.t 5) (.t 6)),Om 2 7] .ret)),[.tm 2]⟩
end
end
end Go.Proofs.YtfpmaennjlggeaaGreatDoor
