/- The registrar's book: what the statement needs, joined and shortened by program. -/
import Derived.Test.YtlllhbmbnjnoiaaGreatDoorP0
import Derived.OrdersHeld
import Derived.OrdersIn
import Derived.TacticsIn
import Derived.RangeFuncLeaves
import Derived.RangeFuncRecord
import Derived.Scope
import Derived.RangeFuncNested
import Derived.Sort.LoopGhostIn
import Derived.ChangeSame
import Derived.ProofKit
import Derived.Deep.Slices
import Derived.ReadAgain
import Derived.OpenShut
import Derived.Eval
import Derived.Test.YtlllhbmbnjnoiaaGreatDoorProg
set_option linter.unusedSimpArgs false
set_option linter.unusedVariables false
set_option maxHeartbeats 32000000
set_option maxRecDepth 100000
namespace Go.Proofs.YtlllhbmbnjnoiaaGreatDoor
open Go.RowKit
mutual
def AV.map (g:Site->Site):AV->AV
 |.any=>.any
 |.pv x=>.pv x
 |.ptr s off=>.ptr (g s) off
 |.lA s n i off=>.lA (g s) n i off
 |.vec s n lo len=>.vec (g s) n lo len
 |.mp s=>.mp (g s)
 |.nK s=>.nK (g s)
 |.fn f fs cs=>.fn f (AV.iO g fs) (AV.iO g cs)
 |.agg cs=>.agg (AV.iO g cs)
 |.bM vs=>.bM (AV.iO g vs)
def AV.iO (g:Site->Site):List AV->List AV
 |[]=>[]
 |a::r=>AV.map g a::AV.iO g r
end
theorem KF {g:Site->Site}:∀{l:List AV} {i:Nat},(AV.iO g l)[i]?=(l[i]?).map (AV.map g)
 |[],i=>by simp[AV.iO]
 |a::r,0=>by simp[AV.iO]
 |a::r,i+1=>by
  simp only[AV.iO,List.getElem?_cons_succ];exact KF
theorem KG {g:Site->Site}:∀{l:List AV},(AV.iO g l).length=l.length
 |[]=>rfl
 |a::r=>by simp only[AV.iO,pA,KG]
theorem V8 {q:Site->Bool}:∀{l:List AV} {i:Nat} {a:AV},AV.gW q l=true->l[i]?=some a->a.dC q=true
 |[],i,a,_,h=>by simp at h
 |b::r,0,a,hl,h=>by
  simp[AV.gW]at hl h;subst h;exact hl.1
 |b::r,i+1,a,hl,h=>by
  simp only[AV.gW,dK]at hl;exact V8 hl.2 (by simpa using h)
theorem bQ.map {ρ bW:Site->Loc}{m:Mem}{q:Site->Bool}{g:Site->Site}(hg:∀s,q s=true->bW (g s)=ρ s){v:Value}{a:AV}(h:bQ ρ m v a)(ha:a.dC q=true):bQ bW m v (a.map g):=by
 induction h with
 |any v=>exact .any v
 |pv v x h=>exact .pv v x h
 |ptr s off=>rw[AV.dC]at ha;rw[<-hg s ha];exact .ptr _ off
 |lA s n i off=>rw[AV.dC]at ha;rw[<-hg s ha];exact .lA _ n i off
 |vec s n lo len cap h0 h1 h2=>rw[AV.dC]at ha;rw[<-hg s ha]at h1 h2 ⊢;exact .vec _ n lo len cap h0 h1 h2
 |nA s n lo a h=>exact .nA _ n lo a h
 |mp s=>rw[AV.dC]at ha;rw[<-hg s ha];exact .mp _
 |nK s=>rw[AV.dC]at ha;rw[<-hg s ha];exact .nK _
 |fn f vf vc fs cs h0 h1 h2 h3 BS PD=>
  simp only[AV.dC,dK]at ha;refine .fn f vf vc _ _ (by rw[KG];exact h0) (by rw[KG];exact h1) (fun j d c k1 k2=>?_) (fun j d c k1 k2=>?_)
  .rw[KF]at k2;obtain⟨a,k3,rfl⟩:=eA.1 k2;exact BS j d a k1 k3 (V8 ha.1 k3)
  .rw[KF]at k2;obtain⟨a,k3,rfl⟩:=eA.1 k2;exact PD j d a k1 k3 (V8 ha.2 k3)
 |agg vs cs h0 h1 h2 ih=>
  rw[AV.dC]at ha;refine .agg vs _ (by rw[KG];exact h0) h1 (fun j d c k1 k2=>?_);rw[KF]at k2;obtain⟨a,k3,rfl⟩:=eA.1 k2;exact ih j d a k1 k3 (V8 ha k3)
 |bM vs cs h0 h2 ih=>
  rw[AV.dC]at ha;refine .bM vs _ (by rw[KG];exact h0) (fun j d c k1 k2=>?_);rw[KF]at k2;obtain⟨a,k3,rfl⟩:=eA.1 k2;exact ih j d a k1 k3 (V8 ha k3)
def aK.iT (g:Site->Site):aK->aK
 |.cells bT=>.cells (AV.iO g bT)
 |.loop C ps nt tm st=>.loop C ps nt (tm.map fun p=>(p.1,p.2.map g)) st
 |b=>b
def aK.dC (q:Site->Bool):aK->Bool
 |.cells bT=>AV.gW q bT
 |.loop _ _ _ tm _=>AV.gW q (tm.map (·.2))
 |_=>true
theorem ZkR {g:Site->Site}:∀l:List AV,AV.iO g l=l.map (AV.map g)
 |[]=>rfl
 |a::r=>by simp only[AV.iO,iN,ZkR r]
theorem aK.Zxq {q:Site->Bool}{b:aK}(hd:b.dC q=true){a:AV}(h:(∃bT,b=.cells bT/\a∈bT)\/(∃C ps nt tm st t,b=.loop C ps nt tm st/\(t,a)∈tm)):a.dC q=true:=by
 rcases h with⟨bT,rfl,h⟩|⟨C,ps,nt,tm,st,t,rfl,h⟩
 .obtain⟨i,hi⟩:=iK.1 h;exact V8 hd hi
 .obtain⟨i,hi⟩:=iK.1 h;have IF:AV.gW q (tm.map (·.2))=true:=hd;exact V8 (i:=i) IF (by rw[bX,hi];rfl)
theorem kN.iT {ρ bW:Site->Loc}{m:Mem}{w:World}{q:Site->Bool}{g:Site->Site}(hg:∀s,q s=true->bW (g s)=ρ s){s:Site}{b:aK}(h:kN ρ m w s b)(hs:q s=true)(hb:b.dC q=true):kN bW m w (g s) (b.iT g):=by
 exact h.gen (AV.map g) (by cases b<;>first|rfl|(show aK.cells _=_;rw[ZkR])) (Le.refl m) (hg s hs) (fun v a hv hw=>hv.map hg (aK.Zxq hb hw)) (fun _ _=>rfl)
theorem Ztq {w:World}{l:Loc}{b:aK}{g:Site->Site}:ins w l (b.iT g)=ins w l b:=by
 cases b with
 |_=>rfl
theorem uL {ρ bW:Site->Loc}{w:World}{s s':Site}{b:aK}{g:Site->Site}{k:Nat}(h:bW s'=ρ s):fL bW w s' (b.iT g) k↔fL ρ w s b k:=by unfold fL;rw[Ztq,h]
mutual
def PV.flat:PV->Bool
 |.int _ _=>true
 |.bool _=>true
 |.str _=>true
 |.eW=>true
 |.dP=>true
 |.cT=>true
 |.eX=>true
 |.P4=>true
 |.iface _ x=>PV.flat x
 |.emp _=>true
 |.agg cs=>PV.WI cs
 |.bM vs=>PV.WI vs
 |_=>false
def PV.WI:List PV->Bool
 |[]=>true
 |x::r=>PV.flat x&&PV.WI r
end
theorem Zf0:∀{l:List PV} {i:Nat} {x:PV},PV.WI l=true->l[i]?=some x->x.flat=true
 |[],i,x,_,h=>by simp at h
 |b::r,0,x,hl,h=>by
  simp[PV.WI]at hl h;subst h;exact hl.1
 |b::r,i+1,x,hl,h=>by
  simp only[PV.WI,dK]at hl;exact Zf0 hl.2 (by simpa using h)
theorem dH.flat {m m':Mem}{v:Value}{x:PV}(h:dH m v x)(hx:x.flat=true):dH m' v x:=by
 induction h with
 |int k n=>exact .int k n
 |bool b=>exact .bool b
 |str s=>exact .str s
 |eW=>exact .eW
 |dP=>exact .dP
 |cT=>exact .cT
 |eX=>exact .eX
 |P4 v h=>exact .P4 v h
 |emp a nl h0 h1 h2=>exact .emp a nl h0 h1 h2
 |agg vs cs h0 h1 h2 ih=>exact .agg vs cs h0 h1 (fun j d c k1 k2=>ih j d c k1 k2 (Zf0 (by rw[PV.flat]at hx;exact hx) k2))
 |bM vs cs h0 h2 ih=>exact .bM vs cs h0 (fun j d c k1 k2=>ih j d c k1 k2 (Zf0 (by rw[PV.flat]at hx;exact hx) k2))
 |aE=>simp[PV.flat]at hx
 |ref=>simp[PV.flat]at hx
 |fn=>simp[PV.flat]at hx
 |iface t v x h ih=>exact .iface t v x (ih (by rw[PV.flat]at hx;exact hx))
def jF (f:AV->Option PV):List AV->Option (List PV)
 |[]=>some []
 |a::r=>match f a,jF f r with
  |some x,some l=>some (x::l)
  |_,_=>none
def AV.FM (σ:AS):AV->Option PV
 |.pv x=>some x
 |.vec s n lo len=>match σ.b s with
  |some (.arr _ n' xs)=>if n'=n/\lo+len<=xs.length then some (.aE false n ((xs.drop lo).take len))else none
  |_=>none
 |_=>none
def AV.snap (σ:AS):Nat->AV->Option PV
 |0,a=>a.FM σ
 |k+1,a=>match a with
  |.ptr s off=>match σ.b s with
   |some (.cells bT)=>(jF (AV.snap σ k) (bT.drop off)).map .ref
   |_=>none
  |.fn f fs cs=>match jF (AV.snap σ k) fs,jF (AV.snap σ k) cs with
   |some a,some b=>some (.fn f a b)
   |_,_=>none
  |.agg cs=>(jF (AV.snap σ k) cs).map .agg
  |a=>a.FM σ
section
variable {N:Nat}{w0:World}{m0:Env w0}{pl:List Nat}{σ:AS}{ρ:Site->Loc}{m:Mem}{act:Act}{w:World}
theorem XQ {f:AV->Option PV}:∀{l:List AV} {xs:List PV},jF f l=some xs->l.length=xs.length/\∀(j:Nat) (a:AV),l[j]?=some a->∃x,xs[j]?=some x/\f a=some x
 |[],xs,h=>by rw[jF]at h;cases h;exact⟨rfl,fun j a e=>by simp at e⟩
 |a::r,xs,h=>by
  rw[jF]at h;split at h
  .rename_i x l h1 h2;cases h;obtain⟨k1,k2⟩:=XQ h2;refine⟨by simp[k1],fun j b e=>?_⟩;cases j with
   |zero=>simp at e;subst e;exact⟨x,rfl,h1⟩
   |succ j=>simpa using k2 j b (by simpa using e)
  .cases h
theorem Zkp (hS:Sat N w0 m0 pl σ ρ m act w){v:Value}{a:AV}{x:PV}(h:a.FM σ=some x)(hv:bQ ρ m v a):dH w.mem v x:=by
 cases a with
 |pv y=>rw[AV.FM]at h;cases h;exact hv.nH.mono hS.mem
 |vec s n lo len=>
  rw[AV.FM]at h;split at h
  .rename_i e n' xs hb;split at h
   .rename_i hc;obtain⟨rfl,hl⟩:=hc;cases h;exact ZoW (hS.bx s _ hb) hS.mem (fun _ o v hv=>hv) hl hv
   .cases h
  .cases h
 |_=>simp[AV.FM]at h
theorem ZmR (hS:Sat N w0 m0 pl σ ρ m act w):∀{k:Nat} {v:Value} {a:AV} {x:PV},a.snap σ k=some x->bQ ρ m v a->dH w.mem v x:=by
 intro k;induction k with
 |zero=>intro v a x h hv;exact Zkp hS h hv
 |succ k ih=>
  intro v a x h hv;cases a with
  |ptr s off=>
   rw[AV.snap]at h;split at h
   .rename_i bT hb;obtain⟨xs,k1,rfl⟩:=eA.1 h;obtain⟨k2,k3⟩:=XQ k1;rw[hv.DY];have hlen:off<=bT.length\/bT.drop off=[]:=by
     rcases Nat.le_total off bT.length with h|h
     .exact .inl h
     .exact .inr (List.drop_of_length_le h)
    rcases hlen with hlen|hlen
    .obtain⟨ds,q1,q2,q3,q4⟩:=Hm (hS.bx s _ hb) (off:=off) (n:=bT.length-off) (by omega);refine .ref _ _ xs ds q2 (by rw[<-k2,uG];exact q1) q3 (fun j u c e1 e2=>?_);have hj:j<(bT.drop off).length:=by rw[k2];exact(cA.1 e2).1
     obtain⟨x,k4,k5⟩:=k3 j _ (bC hj);rw[e2]at k4;cases k4;refine ih k5 (q4 j u _ e1 ?_);rw[mE,if_pos (by rw[uG]at hj;exact hj)];exact bC hj
    .rw[hlen]at k2
     have:xs=[]:=List.eq_nil_of_length_eq_zero k2.symm
     subst this;exact .ref _ _ [] [] trivial rfl (fun d hd=>by cases hd) (fun j d c e=>by simp at e)
   .cases h
  |fn f fs cs=>
   rw[AV.snap]at h;split at h
   .rename_i a b e1 e2;cases h;obtain⟨a1,a2⟩:=XQ e1;obtain⟨b1,b2⟩:=XQ e2;cases hv with
    |fn _ vf vc _ _ h0 h1 h2 h3=>
     refine .fn f vf vc a b (by omega) (by omega) (fun j d c q1 q2=>?_) (fun j d c q1 q2=>?_)
     .have hj:j<fs.length:=by rw[a1];exact(cA.1 q2).1
      obtain⟨x,k4,k5⟩:=a2 j _ (bC hj);rw[q2]at k4;cases k4;exact ih k5 (h2 j d _ q1 (bC hj))
     .have hj:j<cs.length:=by rw[b1];exact(cA.1 q2).1
      obtain⟨x,k4,k5⟩:=b2 j _ (bC hj);rw[q2]at k4;cases k4;exact ih k5 (h3 j d _ q1 (bC hj))
   .cases h
  |agg cs=>
   rw[AV.snap]at h;obtain⟨xs,k1,rfl⟩:=eA.1 h;obtain⟨b1,b2⟩:=XQ k1;cases hv with
   |agg vs _ h0 h1 h2=>
    refine .agg vs xs (by omega) h1 (fun j d c q1 q2=>?_);have hj:j<cs.length:=by rw[b1];exact(cA.1 q2).1
    obtain⟨x,k4,k5⟩:=b2 j _ (bC hj);rw[q2]at k4;cases k4;exact ih k5 (h2 j d _ q1 (bC hj))
  |_=>exact Zkp hS (by simpa only[AV.snap]using h) hv
end
structure vC (ρ:Site->Loc)(m:Mem)(w:World)(B:List (Site×aK)):Prop where
 bx:∀s b,B.lookup s=some b->kN ρ m w s b
 dZ:∀s s' b b' k,B.lookup s=some b->B.lookup s'=some b'->fL ρ w s b k->fL ρ w s' b' k->s=s'
 eM:∀s b k,B.lookup s=some b->fL ρ w s b k->∀o,m k o=none
theorem vC.nil (ρ:Site->Loc)(m:Mem)(w:World):vC ρ m w []:=⟨fun s b h=>by simp[List.lookup]at h,fun s s' b b' k h=>by simp[List.lookup]at h,fun s b k h=>by simp[List.lookup]at h⟩
theorem vC.inj {ρ:Site->Loc}{m:Mem}{w:World}{B:List (Site×aK)}(h:vC ρ m w B)(s s':Site)(b b':aK)(k:B.lookup s=some b)(k':B.lookup s'=some b')(r:(ρ s).real=true)(r':(ρ s').real=true)(e:(ρ s).b=(ρ s').b):s=s':=
 h.dZ s s' b b' _ k k' (xR r) (by rw[e];exact xR r')
theorem vC.off {ρ:Site->Loc}{m:Mem}{w:World}{B:List (Site×aK)}(h:vC ρ m w B)(s:Site)(b:aK)(k:B.lookup s=some b)(r:(ρ s).real=true):∀o,m (ρ s).b o=none:=h.eM s b _ k (xR r)
def cI (ρ:Site->Loc)(w:World)(B:List (Site×aK)):List Nat:=B.flatMap fun p=>(if(ρ p.1).real=true then[(ρ p.1).b]else[])++ins w (ρ p.1) p.2
theorem TD {ρ:Site->Loc}{w:World}{B:List (Site×aK)}{k:Nat}:k∈cI ρ w B↔∃p∈B,fL ρ w p.1 p.2 k:=by
 unfold cI;rw[List.mem_flatMap];constructor
 .rintro⟨p,hp,h⟩;refine⟨p,hp,?_⟩;rcases sG.1 h with h|h
  .split at h
   .rename_i hr;exact .inl ⟨hr,(rW.1 h).symm⟩
   .cases h
  .exact .inr h
 .rintro⟨p,hp,h⟩;refine⟨p,hp,sG.2 ?_⟩;rcases h with⟨h,rfl⟩|h
  .exact .inl (by rw[if_pos h];simp)
  .exact .inr h
def jM (P : Program) (f : FuncId) : Prop := ∃ fn c, P.funcs[f]? = some fn /\ (fn.name == "runtime.NumGoroutine") = false /\ fn.body = some c
def lC (w:World)(m:Mem)(ρ:Site->Loc)(B:List (Site×aK))(nW:AV->List (Site×aK)->Prop)(e:Ending)(w':World):Prop:=
 ∃v r B' bW m',e=.returned v/\nW r B'/\vC bW m' w' B'/\Le m m'/\Le m' w'.mem/\(∀i,bW (.par i)=ρ (.par i))/\
   (∀s b k,B'.lookup s=some b->fL bW w' s b k->w.heap.size<=k\/k∈cI ρ w B)/\(∀b o v,m' b o=some v->m b o=some v\/w.heap.size<=b\/b∈cI ρ w B)/\bQ bW m' v r/\cV (cI ρ w B) w w'
theorem ZkW {l:List (Site×aK)}(hn:(l.map (·.1)).Nodup){p:Site×aK}(h:p∈l):l.lookup p.1=some p.2:=by
 induction l with
 |nil=>cases h
 |cons q r ih=>
  obtain⟨a,b⟩:=q;rw[iN,List.nodup_cons]at hn;rcases jO.1 h with rfl|h
  .exact mT
  .rw[jD (fun e=>hn.1 (by rw[<-e];exact iJ.2 ⟨p,h,rfl⟩))];exact ih hn.2 h
theorem vC.free {ρ:Site->Loc}{m:Mem}{w:World}{B:List (Site×aK)}(h:vC ρ m w B)(hn:(B.map (·.1)).Nodup):∀k∈cI ρ w B,∀o,m k o=none:=fun k hk o=>by
 obtain⟨p,hp,e⟩:=TD.1 hk;exact h.eM p.1 p.2 k (ZkW hn hp) e o
def cN (P:Program)(f:FuncId)(bT:List AV)(B:List (Site×aK))(nW:AV->List (Site×aK)->Prop):Prop:=
 jM P f/\∀(w:World) (m:Mem) (ρ:Site->Loc) (vs:Array Value),vC ρ m w B->(Le m w.mem/\nJ m w/\(B.map (·.1)).Nodup)->vs.size=bT.length->(∀(j:Nat) (d:Value) (c:AV),vs[j]?=some d->bT[j]?=some c->bQ ρ m d c)->
  Calls P f vs w (lC w m ρ B nW)
theorem cN.mono {P:Program}{f:FuncId}{bT:List AV}{B:List (Site×aK)}{nW P0:AV->List (Site×aK)->Prop}(h:cN P f bT B nW)(hp:∀r B',nW r B'->P0 r B'):cN P f bT B P0:=
 ⟨h.1,fun w m ρ vs h1 h2 h3 h4=>(h.2 w m ρ vs h1 h2 h3 h4).mono fun e w' ⟨v,r,B',bW,m',k1,k2,k3⟩=>⟨v,r,B',bW,m',k1,hp _ _ k2,k3⟩⟩
def FF (ro:Option Nat):Fence:={ Fence.wide with round:=ro }
theorem FF.one {ro:Option Nat}{n:Nat}:(FF ro).depth.isSome=true->1<=n:=fun h=>by cases h
theorem Fv {P:Program}{ro:Option Nat}{n:Nat}{f:FuncId}{args:Array Value}{w:World}{R:Ending->World->Prop}(h:Calls P f args w R):CallsIn (FF ro) n P f args w R:=
 ⟨trivial,fun cs _=>(callsIn_wide (n:=n).2 h).2 cs (room_wide _)⟩
def Op.ZxB:Op->Bool
 |.defer _=>true
 |_=>false
def FW (ops:Array Oper):Bool:=ops.all fun o=>!Op.ZxB o.op
theorem XV {ops:Array Oper}(h:FW ops=true){i:Nat}{o:Oper}(hi:ops[i]?=some o):∀c,o.op≠.defer c:=fun c e=>by
 have:=Array.all_eq_true'.1 h o (Array.mem_of_getElem? hi)
 rw[e]at this;cases this
section
variable {P:Program}{ops:Array Oper}{Q:Exit->Act->World->Prop}{md:Region.Mode}{ro:Option Nat}{S:World->Prop}
theorem ZeK {i:Nat}{o:Oper}{v:Value}{a:Act}(hi:ops[i]?=some o)(hd:∀c,o.op≠.defer c)(hy:YieldsIf P ops S o v a)
  {K:Act->World->Prop} {w:World} (hS:S w) (h:K (a.put o.dst v) w):wpOpIn (FF ro) 1 P ops Q i K a w:=by
 unfold wpOpIn;simp only[hi];rcases hy with⟨hw,hv⟩|⟨hw,rfl⟩
 .simp only[hw,if_true,Oper.wpIn,Oper.semAt_eq _ _ _ hd,hv w hS,Oper.uponIn];exact⟨fun _ _=>trivial,h⟩
 .simp only[hw,Bool.false_eq_true,if_false];exact⟨fun _ _=>trivial,h⟩
theorem Zmj {j:Nat}{oi oj:Oper}{v:Value}(hj:ops[j]?=some oj)(hd:∀c,oj.op≠.defer c)(H4:oi.apart ops oj=true)
  (M0:∀cs b,oi.op≠.select cs b) (CD:∀cs b,oj.op≠.select cs b)
  (hQ:∀c a w,Q (.panic c) (a.put oi.dst v) w->Q (.panic c) a w) {K:Act->World->Prop} {a:Act} {w:World}
  (hy:YieldsIf P ops S oi v a) (h:wpOpIn (FF ro) 1 P ops Q j K (a.put oi.dst v) w):
  wpOpIn (FF ro) 1 P ops Q j (fun a' w'=>YieldsIf P ops S oi v a'/\K (a'.put oi.dst v) w') a w:=by
 obtain⟨h1,h2,h3⟩:=Oper.apart_spec H4;have keep:∀(a:Act),YieldsIf P ops S oi v a->∀u,YieldsIf P ops S oi v (a.put oj.dst u):=fun a hy u=>
  hy.of_same (execOp_put oi M0 a oj.dst u h3) (wanted_put oi a oj.dst u h3)
 have X2:∀d,YieldsIf P ops S oi v { a with defers:=d::a.defers }:=fun d=>hy.of_same rfl rfl
 unfold wpOpIn at *;simp only[hj]at *;rw[wanted_put oj a oi.dst v h1]at h;split
 .rename_i hw;simp only[hw,if_true]at h;unfold Oper.wpIn at *;refine⟨fun _ _=>trivial,?_⟩;have h:=h.2;rw[Oper.semAt_eq _ _ _ hd,execOp_put oj CD a oi.dst v h1]at h;rw[Oper.semAt_eq _ _ _ hd];generalize(execOp a.eval oj).run P w=r at *;cases r with
  |ok x w'=>
   cases x<;>simp only[Oper.uponIn]at h ⊢
   case value u=>exact⟨keep a hy u,by rw[<-Act.put_comm a v u h2];exact h⟩
   case skip=>exact⟨keep a hy _,by rw[<-Act.put_comm a v undef h2];exact h⟩
   case defer d=>
    refine⟨keep _ (X2 d) _,?_⟩;rw[<-Act.put_comm _ v undef h2,<-Act.put_defers];exact h
   case enter f args=>
    refine⟨h.1,CallsIn.mono h.2 fun e YL he=>?_⟩;cases e with
    |returned u=>exact⟨keep a hy u,by rw[<-Act.put_comm a v u h2];exact he⟩
    |panicked c=>exact hQ _ _ _ he
    |outgrown=>exact he
   case row row args=>exact⟨h.1,RowsIn.mono h.2 fun u YL he=>⟨keep a hy u,by rw[<-Act.put_comm a v u h2];exact he⟩⟩
   case round l f tmps assign body=>
    refine⟨h.1,RoundIn.mono h.2 fun e YL he=>?_⟩;cases e with
    |returned u=>exact⟨keep a hy u,by rw[<-Act.put_comm a v u h2];exact he⟩
    |panicked c=>exact hQ _ _ _ he
    |outgrown=>exact he
  |halt x w'=>
   cases x<;>simp only[Oper.uponIn]at h ⊢
   case panic u=>exact hQ _ _ _ h
 .rename_i hw;simp only[hw]at h;exact⟨fun _ _=>trivial,keep a hy _,by rw[<-Act.put_comm a v undef h2];exact h.2⟩
end
section
variable {P:Program}{ops:Array Oper}{Q:Exit->Act->World->Prop}{md:Region.Mode}{ro:Option Nat}
def s3 (md:Region.Mode)(acc:List Nat):List Edge->Nat->Nat
 |[],m=>m
 |e::r,m=>match Region.binds md e with
  |true=>s3 md acc r (m||| (1 <<< e.on)||| acc.getD e.on 0)
  |false=>s3 md acc r m
def DS (md:Region.Mode):List Oper->List Nat->List Nat
 |[],acc=>acc
 |o::r,acc=>match s3 md acc o.after.toList 0 with
  |0=>DS md r (acc++[0])
  |n+1=>DS md r (acc++[n+1])
def waits (md:Region.Mode)(ops:Array Oper)(_:Nat)(j k:Nat):Bool:=Nat.testBit ((DS md ops.toList []).getD j 0) k
inductive xE (md:Region.Mode)(ops:Array Oper):Nat->Nat->Prop where
 |one {j:Nat} {o:Oper} {e:Edge} (ho:ops[j]?=some o) (he:e∈o.after) (hb:Region.binds md e=true):xE md ops j e.on
 |more {j k:Nat} {o:Oper} {e:Edge} (ho:ops[j]?=some o) (he:e∈o.after) (hb:Region.binds md e=true) (h:xE md ops e.on k):xE md ops j k
theorem Zj3 {acc:List Nat}{j:Nat}{o:Oper}(ho:ops[j]?=some o)(tY:∀i k,Nat.testBit (acc.getD i 0) k=true->xE md ops i k):∀(l:List Edge) (m:Nat),(∀e∈l,e∈o.after)->(∀k,Nat.testBit m k=true->xE md ops j k)->∀k,Nat.testBit (s3 md acc l m) k=true->xE md ops j k
 |[],m,_,hm,k,h=>hm k h
 |e::r,m,hl,hm,k,h=>by
  unfold s3 at h;cases hb:Region.binds md e with
  |false=>
   rw[hb]at h;exact Zj3 ho tY r m (fun x hx=>hl x (by simp[hx])) hm k h
  |true=>
   rw[hb]at h;refine Zj3 ho tY r _ (fun x hx=>hl x (by simp[hx])) (fun k' h'=>?_) k h;rw[Nat.testBit_or,Nat.testBit_or,rT,rT]at h';rcases h' with(h'|h')|h'
   .exact hm k' h'
   .rw[Nat.one_shiftLeft,Nat.testBit_two_pow]at h'
    have:e.on=k':=by simpa using h'
    rw[<-this];exact .one ho (hl e (by simp)) hb
   .exact .more ho (hl e (by simp)) hb (tY _ _ h')
theorem Zj4:∀(l pre:List Oper) (acc:List Nat),ops.toList=pre++l->acc.length=pre.length->(∀i k,Nat.testBit (acc.getD i 0) k=true->xE md ops i k)->∀i k,Nat.testBit ((DS md l acc).getD i 0) k=true->xE md ops i k
 |[],pre,acc,_,_,tY=>tY
 |o::r,pre,acc,hp,hl,tY=>by
  have ho:ops[acc.length]?=some o:=by
   rw[<-O5,hp,hl];simp
  have step:∀m,s3 md acc o.after.toList 0=m->∀i k,Nat.testBit ((acc++[m]).getD i 0) k=true->xE md ops i k:=by
   intro m hm i k h;rw[List.getD_eq_getElem?_getD,yX]at h;split at h
   .exact tY i k (by rw[List.getD_eq_getElem?_getD];exact h)
   .rename_i hi;cases hx:[m][i-acc.length]? with
    |none=>rw[hx]at h;simp at h
    |some x=>
     have h0:i-acc.length=0:=by have:=(cA.1 hx).1;simp at this;omega
     rw[h0]at hx;simp at hx;subst hx;have xM:i=acc.length:=by omega
     subst xM;rw[h0]at h;simp only[List.getElem?_cons_zero,rU]at h;rw[<-hm]at h;exact Zj3 ho tY _ 0 (fun e he=>by simpa using he) (fun k h=>by simp at h) k h
  unfold DS;split
  .rename_i h0;exact Zj4 r (pre++[o]) _ (by rw[hp];simp) (by simp[hl]) (step 0 h0)
  .rename_i n h0;exact Zj4 r (pre++[o]) _ (by rw[hp];simp) (by simp[hl]) (step (n+1) h0)
theorem ZlG {f j k:Nat}(h:waits md ops f j k=true):xE md ops j k:=Zj4 ops.toList [] [] (by simp) rfl (fun i k h=>by simp at h) j k h
def Down (md:Region.Mode)(ops:Array Oper)(aI:Array Bool):Prop:=∀j o,aI.getD j false=true->ops[j]?=some o->∀e∈o.after,Region.binds md e=true->aI.getD e.on false=true
theorem ZcS {l:Array Bool}{k:Nat}(h:l.getD k true=false):l.getD k false=false:=by
 rcases Nat.lt_or_ge k l.size with h'|h'
 .simp[h']at h ⊢;exact h
 .simp[Array.getElem?_eq_none h']at h
theorem Down.wait {aI:Array Bool}(h:Down md ops aI){j k:Nat}(hj:aI.getD j false=true)(hw:xE md ops j k):aI.getD k false=true:=by
 induction hw with
 |one ho he hb=>exact h _ _ hj ho _ he hb
 |more ho he hb _ ih=>exact ih (h _ _ hj ho _ he hb)
theorem Zjf {aI:Array Bool}(h:Down md ops aI){f j k:Nat}(hj:j∈Region.ready md ops aI)(hw:waits md ops f j k=true):aI.getD k false=true:=by
 obtain⟨_,o,ho,eU⟩:=mem_ready.1 hj;cases ZlG hw with
 |one y3 he hb=>rw[ho]at y3;cases y3;exact eU _ he hb
 |more y3 he hb h2=>rw[ho]at y3;cases y3;exact h.wait (eU _ he hb) h2
theorem Down.set {aI:Array Bool}(h:Down md ops aI){i:Nat}(hi:i∈Region.ready md ops aI):Down md ops (aI.setIfInBounds i true):=by
 intro j o hj ho e he hb;have up:∀k,aI.getD k false=true->(aI.setIfInBounds i true).getD k false=true:=fun k hk=>by
  rcases Nat.decEq k i with cZ|rfl
  .rw[getD_set_ne false (fun e=>cZ e.symm)];exact hk
  .rcases Nat.lt_or_ge k aI.size with h'|h'
   .simp[h']
   .simp[Array.getElem?_eq_none h']at hk
 rcases Nat.decEq j i with cZ|rfl
 .rw[getD_set_ne false (fun e=>cZ e.symm)]at hj;exact up _ (h j o hj ho e he hb)
 .obtain⟨_,o',y3,eU⟩:=mem_ready.1 hi;rw[ho]at y3;cases y3;exact up _ (eU e he hb)
theorem Down.start (n:Nat):Down md ops (Array.replicate n false):=by
 intro j o hj;rcases Nat.lt_or_ge j n with h|h
 .simp[h]at hj
 .simp[h]at hj
def iS (soft:Nat->Oper->Bool)(ops:Array Oper)(j:Nat):Bool:=match ops[j]? with
 |some o=>soft j o
 |none=>true
def JW (ro:Option Nat)(P:Program)(md:Region.Mode)(ops:Array Oper)(Q:Exit->Act->World->Prop)(soft:Nat->Oper->Bool):Nat->Array Bool->Act->World->Prop
 |0,aI,a,w=>Region.ready md ops aI=[]/\Q .normal a w
 |fuel+1,aI,a,w=>
  (Region.ready md ops aI=[]->Q .normal a w)/\
  ∀i∈Region.ready md ops aI,wpOpIn (FF ro) 1 P ops Q i (fun a' w'=>(iS soft ops i=true->Ext w w')/\JW ro P md ops Q soft fuel (aI.setIfInBounds i true) a' w') a w
variable {soft:Nat->Oper->Bool}
theorem Zej:∀(fuel:Nat) (aI:Array Bool) (a:Act) (w:World),JW ro P md ops Q soft fuel aI a w->wpAnyIn (FF ro) 1 P md ops Q fuel aI a w
 |0,_,_,_,h=>h
 |fuel+1,_,_,_,h=>⟨h.1,fun i hi=>wpOpIn_mono (fun a' w' k=>Zej fuel _ a' w' k.2) (h.2 i hi)⟩
theorem ZeL {S':World->Prop}{i:Nat}{oi:Oper}{v:Value}(hx:∀w w',S' w->Ext w w'->S' w')(hi:ops[i]?=some oi)(Ap:∀(j:Nat) (o:Oper) cs b,ops[j]?=some o->o.op≠.select cs b)(N6:FW ops=true)
  (hQ:∀c a w,Q (.panic c) (a.put oi.dst v) w->Q (.panic c) a w):
  ∀(fuel:Nat) (aI:Array Bool) (a:Act) (w:World),Down md ops aI->((∀w,S' w)\/∀j,aI.getD j true=false->j≠i->iS soft ops j=false->waits md ops ops.size j i=true)->
   (∀j oj,ops[j]?=some oj->j≠i->aI.getD j true=false->(∀e∈oj.after,Region.binds md e=true->e.on≠i)->oi.apart ops oj=true)->
   i∈Region.ready md ops aI->YieldsIf P ops S' oi v a->S' w->
   JW ro P md ops Q soft fuel (aI.setIfInBounds i true) (a.put oi.dst v) w->JW ro P md ops Q soft (fuel+1) aI a w:=by
 intro fuel;induction fuel with
 |zero=>
  intro aI a w _ _ _ hr hy hS H;refine⟨fun h=>absurd hr (by rw[h];simp),fun j hj=>?_⟩;rcases Nat.decEq j i with zQ|zQ
  .have h2:=ready_mono hj zQ;rw[H.1]at h2;exact absurd h2 (by simp)
  .rw[zQ];exact ZeK hi (XV N6 hi) hy hS ⟨fun _=>Ext.tI _,H⟩
 |succ fuel ih=>
  intro aI a w hD Jt iU hr hy hS H;refine⟨fun h=>absurd hr (by rw[h];simp),fun j hj=>?_⟩;rcases Nat.decEq j i with zQ|zQ
  .have h1:=H.2 j (ready_mono hj zQ);obtain⟨QM,oj,Js,eU⟩:=mem_ready.1 hj;have Bq:=(mem_ready.1 hr).1;have QB:∀e∈oj.after,Region.binds md e=true->e.on≠i:=fun e he hb heq=>by
    have k1:=eU e he hb;rw[heq,ZcS Bq]at k1;cases k1
   have h2:=Zmj Js (XV N6 Js) (iU j oj Js zQ QM QB) (fun cs b=>Ap i oi cs b hi) (fun cs b=>Ap j oj cs b Js) hQ hy h1;have UZ:i∈Region.ready md ops (aI.setIfInBounds j true):=ready_mono hr (Ne.symm zQ);have Ak:∀k,(aI.setIfInBounds j true).getD k true=false->aI.getD k true=false:=fun k hk=>by
    rcases Nat.decEq j k with Uf|Uf
    .rw[getD_set_ne true Uf]at hk;exact hk
    .rw[<-Uf];exact QM
   refine wpOpIn_mono (fun a' w' h3=>?_) h2;have mV:S' w':=by
    rcases Jt with Db|Jt
    .exact Db w'
    .cases CD:iS soft ops j with
     |true=>exact hx w w' hS (h3.2.1 CD)
     |false=>
      have:=Zjf hD hj (Jt j QM zQ CD)
      rw[ZcS Bq]at this;cases this
   refine⟨h3.2.1,ih (aI.setIfInBounds j true) a' w' (hD.set hj) (Jt.imp id (fun h k hk=>h k (Ak k hk))) (fun k ok hk y5 Ub mK=>iU k ok hk y5 (Ak k Ub) mK) UZ h3.1 mV ?_⟩;rw[Array.setIfInBounds_comm _ _ zQ];exact h3.2.2
  .rw[zQ];exact ZeK hi (XV N6 hi) hy hS ⟨fun _=>Ext.tI _,H⟩
def WN (ro:Option Nat)(P:Program)(ops:Array Oper)(Q:Exit->Act->World->Prop)(soft:Nat->Oper->Bool)(still:Oper->Bool):List (Nat×Bool)->Act->World->Prop
 |[],a,w=>Q .normal a w
 |(i,false)::r,a,w=>∃o v,∃S':World->Prop,(∀w w',S' w->Ext w w'->S' w')/\(still o=true->∀w,S' w)/\S' w/\ops[i]?=some o/\YieldsIf P ops S' o v a/\WN ro P ops Q soft still r (a.put o.dst v) w
 |(i,true)::r,a,w=>wpOpIn (FF ro) 1 P ops Q i (fun a' w'=>(iS soft ops i=true->Ext w w')/\WN ro P ops Q soft still r a' w') a w
def J5 (md:Region.Mode)(ops:Array Oper)(soft:Nat->Oper->Bool)(still:Oper->Bool):List (Nat×Bool)->Array Bool->Bool
 |[],aI=>(Region.ready md ops aI).isEmpty
 |(i,false)::r,aI=>(Region.ready md ops aI).contains i&&Region.free md ops aI i&&
   ((match ops[i]? with|some o=>still o|none=>false)||(List.range ops.size).all fun j=>aI.getD j true||j==i||iS soft ops j||waits md ops ops.size j i)&&J5 md ops soft still r (aI.setIfInBounds i true)
 |(i,true)::r,aI=>(Region.ready md ops aI==[i])&&J5 md ops soft still r (aI.setIfInBounds i true)
theorem Zg3 {still:Oper->Bool}(hs:Region.noSelect ops=true)(N6:FW ops=true)(hQ:∀c (a:Act) (d:Tmp) (v:Value) w,Q (.panic c) (a.put (some d) v) w->Q (.panic c) a w):∀(l:List (Nat×Bool)) (aI:Array Bool) (a:Act) (w:World),aI.size=ops.size->Down md ops aI->
  J5 md ops soft still l aI=true->WN ro P ops Q soft still l a w->JW ro P md ops Q soft l.length aI a w:=by
 intro l;induction l with
 |nil=>
  intro aI a w _ _ hB h;exact⟨by simpa[J5]using hB,h⟩
 |cons x r ih=>
  obtain⟨i,b⟩:=x;intro aI a w fI hD hB h;cases b with
  |false=>
   simp only[J5,dK]at hB;obtain⟨o,v,S',hx,bU,Vo,ho,hy,h'⟩:=h;have hr:i∈Region.ready md ops aI:=by simpa using hB.1.1.1
   have DG:=hB.1.2;rw[ho]at DG;simp only[rT]at DG;exact ZeL hx ho (Region.noSelect_spec hs) N6 (fun c a w k=>by
    cases hd:o.dst with
    |none=>rw[hd]at k;exact k
    |some d=>rw[hd]at k;exact hQ c a d v w k) r.length aI a w hD (by
    rcases DG with h1|h1
    .exact .inl (bU h1)
    .refine .inr (fun j hj zQ CD=>?_);have aJ:j<ops.size:=by
      rcases Nat.lt_or_ge j aI.size with h2|h2
      .omega
      .simp[Array.getElem?_eq_none h2]at hj
     have:=rA.1 h1 j (List.mem_range.2 aJ)
     simp only[rT,beq_iff_eq]at this;rcases this with((h3|h3)|h3)|h3
     .rw[hj]at h3;cases h3
     .exact absurd h3 zQ
     .rw[CD]at h3;cases h3
     .exact h3) (Region.free_spec ho hB.1.1.2) hr hy Vo (ih _ _ _ (by simpa using fI) (hD.set hr) hB.2 h')
  |true=>
   simp only[J5,dK,beq_iff_eq]at hB;refine⟨fun h0=>by rw[hB.1]at h0;simp at h0,fun j hj=>?_⟩;have Z4:=hj;rw[hB.1,rW]at Z4;subst Z4;exact wpOpIn_mono (fun a' w' k=>⟨k.1,ih _ _ _ (by simpa using fI) (hD.set hj) hB.2 k.2⟩) h
theorem Zdk {id:Nat}{a:Act}{w:World}{o:Array Oper}(soft:Nat->Oper->Bool)(still:Oper->Bool)(l:List (Nat×Bool))(hm:P.follows .mixedOrders=true)(hQ:∀c (a:Act) (d:Tmp) (v:Value) w,Q (.panic c) (a.put (some d) v) w->Q (.panic c) a w)
  (h1:Region.noSelect o=true) (H7:FW o=true) (h2:l.length=o.size) (h3:J5 .any o soft still l (Array.replicate o.size false)=true)
  (h:WN ro P o Q soft still l a w.drew):(Code.region id o true).wpIn (FF ro) 1 P Q a w:=by
 refine wpIn_region_any hm (Zej (soft:=soft) _ _ _ _ ?_)
 have:=Zg3 (P:=P) (soft:=soft) (still:=still) h1 H7 hQ l _ _ _ (by simp) (Down.start _) h3 h
 rw[h2]at this;exact this
end
def iQ (d:Nat):Site->Site
 |.ret j=>.loc d j
 |s=>s
def Site.uI:Site->Bool
 |.ret _=>true
 |_=>false
def AS.lU (B:List (Site×aK))(σ:AS):AS:=⟨σ.tm,B++σ.bx⟩
def nO (d:Nat)(B:List (Site×aK)):List (Site×aK):=B.map fun p=>(iQ d p.1,p.2.iT (iQ d))
def oF (r:AV)(B:List (Site×aK)):Prop:=r.dC Site.uI=true/\∀p∈B,p.1.uI=true/\p.2.dC Site.uI=true
def aM:List Site->AS->AS
 |[],σ=>σ
 |s::r,σ=>aM r (σ.cH s)
def zA (P:Program)(f:bB)(args:List bB)(d:Nat)(K:AV->AS->Prop)(σ:AS):Prop:=
 (∃k g fs xs cs,(σ.o f).snap σ k=some (.fn g fs cs)/\jF (AV.snap σ k) (args.map σ.o)=some xs/\cN P g ((fs++xs++cs).map .pv) [] (fun r _=>∃y,r=.pv y/\y.flat=true/\K (.pv y) σ))\/
 (∃(fz:List Site) (g:FuncId) (fs xs cs:List PV),(aM fz σ).o f=.pv (.fn g fs cs)/\(aM fz σ).tN args=some xs/\cN P g ((fs++xs++cs).map .pv) [] (fun r B=>oF r B/\K (r.map (iQ d)) (((aM fz σ).bG d).lU (nO d B))))
section
variable {P:Program}{N:Nat}{w0:World}{m0:Env w0}{pl:List Nat}{σ:AS}{ρ:Site->Loc}{m:Mem}{act:Act}{w:World}{o:Oper}{d:Nat}{K:AV->AS->Prop}{ro:Option Nat}
theorem Sat.aM:∀(fz:List Site) {σ:AS} {m:Mem},Sat N w0 m0 pl σ ρ m act w->∃m',Le m m'/\Sat N w0 m0 pl (aM fz σ) ρ m' act w
 |[],σ,m,h=>⟨m,Le.refl m,h⟩
 |s::r,σ,m,h=>by
  obtain⟨m1,l1,h1⟩:=h.cH s;obtain⟨m2,l2,h2⟩:=Sat.aM r h1;exact⟨m2,l1.trans l2,h2⟩
theorem ZfI (d:Nat):∀(B:List (Site×aK)),(∀p∈B,p.1.uI=true)->∀s b,(nO d B).lookup s=some b->∃j b',s=.loc d j/\B.lookup (.ret j)=some b'/\b=b'.iT (iQ d)
 |[],_,s,b,h=>by simp[nO]at h
 |(s',b')::r,hB,s,b,h=>by
  have h1:=hB (s',b') (by simp);cases s' with
  |ret j=>
   simp only[nO,iN,iQ]at h;rcases Classical.em (s=.loc d j)with e|e
   .subst e;rw[mT]at h;cases h;exact⟨j,b',rfl,mT,rfl⟩
   .rw[jD e]at h;obtain⟨j2,b2,e1,e2,e3⟩:=ZfI d r (fun p hp=>hB p (by simp[hp])) s b h;refine⟨j2,b2,e1,?_,e3⟩;rw[jD (fun e4=>e (by rw[e1];cases e4;rfl))];exact e2
  |par i=>cases h1
  |loc e i=>cases h1
theorem ZeD {α β:Type}[BEq α][LawfulBEq α](k:α):∀(l r:List (α×β)),(l++r).lookup k=(l.lookup k).or (r.lookup k)
 |[],r=>by simp[List.lookup]
 |(a,b)::l,r=>by
  by_cases h:k=a
  .subst h;rw[List.cons_append,mT,mT];rfl
  .rw[List.cons_append,jD h,jD h];exact ZeD k l r
theorem Sat.ret (h:Sat N w0 m0 pl σ ρ m act w)(hN:qW d σ){w':World}(hx:Ext w w'){m':Mem}{bW:Site->Loc}{B:List (Site×aK)}(hB:vC bW m' w' B)(hk:∀p∈B,p.1.uI=true/\p.2.dC Site.uI=true)(hm:Le m m')(hw:Le m' w'.mem)
  (hb:∀s b k,B.lookup s=some b->fL bW w' s b k->w.heap.size<=k) (hf:∀b o v,m' b o=some v->m b o=some v\/w.heap.size<=b):
  ∃oD,Sat N w0 m0 pl (σ.lU (nO d B)) oD m' act w'/\∀{v:Value} {r:AV},r.dC Site.uI=true->bQ bW m' v r->bQ oD m' v (r.map (iQ d)):=by
 let oD:Site->Loc:=fun s=>match s with
  |.loc e j=>if e=d then bW (.ret j)else ρ s
  |s=>ρ s
 have e1:∀s,s.fQ d=false->oD s=ρ s:=fun s hs=>by
  cases s with
  |loc e j=>
   have:¬e=d:=fun h=>by subst h;simp[Site.fQ]at hs
   simp[oD,this]
  |_=>rfl
 have e2:∀s,s.uI=true->oD (iQ d s)=bW s:=fun s hs=>by
  cases s with
  |ret j=>simp[oD,iQ]
  |_=>cases hs
 have hX:=h.ext hx;have z6:Sat N w0 m0 pl σ ρ m' act w':=hX.Zx2 hm hw (fun s b i k r o=>by
  cases hv:m' i o with
  |none=>rfl
  |some v=>
   have r':=((h.bx s b k).dS (fun r=>hx.block _ (h.lt k r))).1 r;have aJ:=h.G4 k r';rcases hf _ _ _ hv with k1|k1
   .rw[h.eM s b i k r' o]at k1;cases k1
   .omega) (fun b o v hv=>by
  rcases hf b o v hv with k|k
  .exact .inl k
  .exact .inr (.inl (lJ h.keep.size k)))
 have look:∀s b,(σ.lU (nO d B)).b s=some b->(∃j b',s=.loc d j/\B.lookup (.ret j)=some b'/\b=b'.iT (iQ d))\/(σ.b s=some b/\s.fQ d=false):=fun s b k=>by
  have k':(nO d B++σ.bx).lookup s=some b:=k;rw[ZeD]at k';cases hl:(nO d B).lookup s with
  |some c=>
   rw[hl]at k';simp at k';subst k';exact .inl (ZfI d B (fun p hp=>(hk p hp).1) s c hl)
  |none=>
   rw[hl]at k';simp at k';exact .inr ⟨k',(hN.b s b k').1⟩
 have mem:∀{l:List (Site×aK)} {s b},l.lookup s=some b->(s,b)∈l:=by
  intro l;induction l with
  |nil=>intro s b h;simp[List.lookup]at h
  |cons p r ih=>
   obtain⟨a,c⟩:=p;intro s b h;by_cases e:s=a
   .subst e;rw[mT]at h;cases h;simp
   .rw[jD e]at h;simp[ih h]
 refine⟨oD,⟨z6.sC,z6.sz,fun t a k=>?_,fun s b k=>?_,fun s s' b b' i k k' r r'=>?_,z6.mem,fun s b i k r=>?_,fun s b i k r=>?_,z6.keep,z6.base,z6.qD,fun i=>z6.par i⟩,fun hr hv=>hv.map e2 hr⟩
 .obtain⟨v,k1,k2⟩:=z6.tm t a k;exact⟨v,k1,k2.mono (Le.refl _) e1 (hN.t t a k)⟩
 .rcases look s b k with⟨j,b',rfl,k1,rfl⟩|⟨k1,k2⟩
  .exact(hB.bx _ _ k1).iT e2 (s:=.ret j) rfl (hk _ (mem k1)).2
  .exact(z6.bx s b k1).stay (Le.refl _) e1 k2 (hN.b s b k1).2 (fun _ _=>rfl)
 .rcases look s b k with⟨j,b2,rfl,k1,rfl⟩|⟨k1,k2⟩<;>rcases look s' b' k' with⟨j',b2',rfl,C6,rfl⟩|⟨C6,Aa⟩
  .have:=hB.dZ _ _ _ _ i k1 C6 ((uL (e2 (.ret j) rfl)).1 r) ((uL (e2 (.ret j') rfl)).1 r')
   cases this;rfl
  .have a1:=hb _ _ i k1 ((uL (e2 (.ret j) rfl)).1 r);have a2:=h.G4 C6 (((h.bx s' b' C6).dS (fun r=>hx.block _ (h.lt C6 r))).1 ((R3 (e1 s' Aa)).1 r'));omega
  .have a1:=hb _ _ i C6 ((uL (e2 (.ret j') rfl)).1 r');have a2:=h.G4 k1 (((h.bx s b k1).dS (fun r=>hx.block _ (h.lt k1 r))).1 ((R3 (e1 s k2)).1 r));omega
  .exact z6.dZ s s' b b' i k1 C6 ((R3 (e1 s k2)).1 r) ((R3 (e1 s' Aa)).1 r')
 .rcases look s b k with⟨j,b2,rfl,k1,rfl⟩|⟨k1,k2⟩
  .exact hB.eM _ _ i k1 ((uL (e2 (.ret j) rfl)).1 r)
  .exact z6.eM s b i k1 ((R3 (e1 s k2)).1 r)
 .rcases look s b k with⟨j,b2,rfl,k1,rfl⟩|⟨k1,k2⟩
  .exact .inl (lJ h.keep.size (hb _ _ i k1 ((uL (e2 (.ret j) rfl)).1 r)))
  .exact z6.fM s b i k1 ((R3 (e1 s k2)).1 r)
theorem Fm {m:Mem}{v:Value}{g:FuncId}{fs cs:List PV}(h:dH m v (.fn g fs cs)):∃vf vc:Array Value,v=.func (.func g) vf vc/\vf.size=fs.length/\vc.size=cs.length/\(∀(j:Nat) (d:Value) (c:PV),vf[j]?=some d->fs[j]?=some c->dH m d c)/\(∀(j:Nat) (d:Value) (c:PV),vc[j]?=some d->cs[j]?=some c->dH m d c):=by
 cases h with
 |fn _ vf vc _ _ h0 h1 h2 h3=>exact⟨vf,vc,rfl,h0,h1,h2,h3⟩
theorem F2 {c:Call}{fo:Operand}(ho:o.op=.call c)(hc:c.callee=.value fo){g:FuncId}{vf vc:Array Value}(hv:act.eval fo=.func (.func g) vf vc)(hg:jM P g):
  (execOp act.eval o).run P w=.ok (.enter g (vf++c.args.map act.eval++vc)) w:=by
 obtain⟨fn,code,h1,h2,h3⟩:=hg;have uA : ¬ fn.name = "runtime.NumGoroutine" := by simpa using h2
 unfold execOp;simp only[ho];simp[resolve,hc,hv,Deferred.ofValue,invoke,callFunc,h1,uA,h3]
theorem ZoX {m:Mem}{ρ:Site->Loc}{vf va vc:Array Value}{fs xs cs:List PV}(h1:vf.size=fs.length)(h2:va.size=xs.length)(h3:vc.size=cs.length)(k1:∀(j:Nat) (d:Value) (c:PV),vf[j]?=some d->fs[j]?=some c->dH m d c)
  (k2:∀(j:Nat) (d:Value) (c:PV),va[j]?=some d->xs[j]?=some c->dH m d c) (k3:∀(j:Nat) (d:Value) (c:PV),vc[j]?=some d->cs[j]?=some c->dH m d c):
  (vf++va++vc).size=((fs++xs++cs).map AV.pv).length/\∀(j:Nat) (d:Value) (c:AV),(vf++va++vc)[j]?=some d->((fs++xs++cs).map AV.pv)[j]?=some c->bQ ρ m d c:=by
 refine⟨by simp[h1,h2,h3],fun j d c e1 e2=>?_⟩;rw[bX]at e2;obtain⟨x,e3,rfl⟩:=eA.1 e2;refine .pv _ _ ?_;rw[Array.getElem?_append,Array.getElem?_append]at e1;rw[yX,yX]at e3;simp only[Array.size_append,gD,h1,h2]at e1 e3;split at e1
 .rename_i c1;rw[if_pos c1]at e3;split at e1
  .rename_i c2;rw[if_pos c2]at e3;exact k1 j d x e1 e3
  .rename_i c2;rw[if_neg c2]at e3;exact k2 _ d x e1 e3
 .rename_i c1;rw[if_neg c1]at e3;exact k3 _ d x e1 e3
theorem ZtT {f:bB}{args:List bB}(hl:bA P o.op=.call f args)(h:zA P f args d K σ)(hS:Sat N w0 m0 pl σ ρ m act w){Q:Exit->Act->World->Prop} :
  o.wpIn (FF ro) 1 P act w (fun bE w'=>∃v a τ bW m',bE=act.put o.dst v/\K a τ/\Sat N w0 m0 pl τ bW m' act w'/\bQ bW m' v a/\Ext w w') Q:=by
 obtain⟨c,fo,ho,hc,hf,ha⟩:∃c fo,o.op=.call c/\c.callee=.value fo/\aV fo=some f/\pI c.args.toList=some args:=by
  replace hl:=ZfK hl;cases hop:o.op<;>rw[hop]at hl
  case call c=>
   simp only[mY]at hl;split at hl
   all_goals first
    |(rename_i fo hc
      split at hl
      .rename_i e1 e2;cases hl;exact⟨c,fo,rfl,hc,e1,e2⟩
      .cases hl)
    |(exfalso;repeat' (first|(cases hl;done)|split at hl))
  case unOp op t x=>exfalso;cases op<;>simp only[mY]at hl<;>(try split at hl)<;>cases hl
  case makeFunc fn fs cs=>exfalso;cases fn<;>simp only[mY]at hl<;>(try split at hl)<;>cases hl
  case slice t x lo hi mx=>exfalso;cases mx<;>simp only[mY]at hl<;>(try split at hl)<;>cases hl
  all_goals (exfalso;simp only[mY,vR]at hl;repeat' (first|(cases hl;done)|split at hl))
 obtain⟨q1,q2⟩:=KK ha;have fY:∀(τ:AS) (bW:Site->Loc) (m':Mem),Sat N w0 m0 pl τ bW m' act w->(c.args.map act.eval).size=args.length/\∀(j:Nat) (u:Value) (y:bB),(c.args.map act.eval)[j]?=some u->args[j]?=some y->bQ bW m' u (τ.o y):=fun τ bW m' HH=>by
  refine⟨by simp;simpa using q1,fun j u y hu hy=>?_⟩;rw[Array.getElem?_map]at hu;obtain⟨x,k1,rfl⟩:=eA.1 hu;obtain⟨y',k2,k3⟩:=q2 j x (by simpa using k1);rw[hy]at k2;cases k2;exact HH.aV k3
 unfold Oper.wpIn;refine⟨fun _ _=>trivial,?_⟩;rw[Oper.semAt_eq _ _ _ (fun c' e=>by rw[ho]at e;cases e)];rcases h with⟨k,g,fs,xs,cs,h1,h2,hC⟩|⟨fz,g,fs,xs,cs,h1,h2,hC⟩
 .obtain⟨vf,vc,hv,f1,f2,f3,f4⟩:=Fm (ZmR hS h1 (hS.aV hf));rw[F2 ho hc hv hC.1,Oper.uponIn_enter];refine⟨FF.one,Fv ?_⟩;obtain⟨s1,s2⟩:=XQ h2;rw[fZ]at s1;obtain⟨a1,a2⟩:=fY σ ρ m hS;obtain⟨b1,b2⟩:=ZoX (ρ:=ρ) (m:=w.mem) (va:=c.args.map act.eval) (xs:=xs) f1 (by omega) f2 f3 (fun j u x e1 e2=>by
   have hj:j<args.length:=by rw[s1];exact(cA.1 e2).1
   obtain⟨x',k1,k2⟩:=s2 j (σ.o args[j]) (by rw[bX,bC hj];rfl);rw[e2]at k1;cases k1;exact ZmR hS k2 (a2 j u _ e1 (bC hj))) f4
  refine(hC.2 w w.mem ρ _ (vC.nil _ _ _) ⟨Le.refl _,hS.uB.mono hS.mem,List.nodup_nil⟩ b1 b2).mono ?_;rintro e w' ⟨v,r,B,bW,m',rfl,⟨y,rfl,hy,hK⟩,_,_,_,_,_,_,rO,Z3⟩;have hx:Ext w w':=cV.ext Z3;exact⟨v,.pv y,σ,ρ,m,rfl,hK,hS.ext hx,.pv _ _ (rO.nH.flat hy),hx⟩
 .obtain⟨m1,H0,hF⟩:=Sat.aM fz hS;have p9:=hF.aV hf;rw[h1]at p9;obtain⟨vf,vc,hv,f1,f2,f3,f4⟩:=Fm p9.nH;rw[F2 ho hc hv hC.1,Oper.uponIn_enter];refine⟨FF.one,Fv ?_⟩;obtain⟨s1,s2⟩:=SY h2;obtain⟨a1,a2⟩:=fY _ ρ m1 hF;obtain⟨b1,b2⟩:=ZoX (ρ:=ρ) (m:=m1) (va:=c.args.map act.eval) (xs:=xs) f1 (by omega) f2 f3 (fun j u x e1 e2=>by
   have hj:j<args.length:=by rw[s1];exact(cA.1 e2).1
   obtain⟨x',k1,k2⟩:=s2 j _ (bC hj);rw[e2]at k1;cases k1
   have:=a2 j u _ e1 (bC hj)
   rw[k2]at this;exact this.nH) f4
  refine(hC.2 w m1 ρ _ (vC.nil _ _ _) ⟨hF.mem,hF.uB,List.nodup_nil⟩ b1 b2).mono ?_;rintro e w' ⟨v,r,B,bW,m',rfl,⟨⟨r1,r2⟩,hK⟩,hB,Q1,HK,_,wL,D8,rO,Z3⟩;have hx:Ext w w':=cV.ext Z3;obtain⟨oD,k1,k2⟩:=(hF.bG d).ret (qW.bG d _) hx hB r2 Q1 HK (fun s b i hs hr=>by
   rcases wL s b i hs hr with k|k
   .exact k
   .simp[cI]at k) (fun b o v hv=>by
   rcases D8 b o v hv with k|k|k
   .exact .inl k
   .exact .inr k
   .simp[cI]at k)
  exact⟨v,_,_,oD,m',rfl,hK,k1,k2 r1 rO,hx⟩
end
def jZ (aF:List Site)(s:Site):Site:=match aF.findIdx? (fun x=>decide (x=s))with
 |some j=>.par j
 |none=>s
def gH (aF:List Site)(d:Nat):Site->Site
 |.par i=>aF.getD i default
 |.ret j=>.loc d j
 |s=>s
def bY (aF:List Site):Site->Bool
 |.par i=>decide (i<aF.length)
 |.ret _=>true
 |_=>false
def oW (σ:AS)(aF:List Site):Nat->List Site->Option (List (Site×aK))
 |_,[]=>some []
 |i,s::r=>match σ.b s,oW σ aF (i+1) r with
  |some b,some l=>if b.dC (fun x=>aF.contains x)=true then some ((.par i,b.iT (jZ aF))::l)else none
  |_,_=>none
def cK:List Site->AS->AS
 |[],σ=>σ
 |s::r,σ=>cK r (σ.drop s)
def fA (aF:List Site)(d:Nat)(B:List (Site×aK)):List (Site×aK):=B.map fun p=>(gH aF d p.1,p.2.iT (gH aF d))
def GA (P:Program)(f:bB)(args:List bB)(K:AV->AS->Prop)(σ:AS):Prop:=
 ∃(d:Nat) (fz aF:List Site) (g:FuncId) (fs cs:List AV) (B:List (Site×aK)),
  ((aM fz σ).o f=.fn g fs cs\/∃tE iI,(aM fz σ).o f=.pv (.fn g tE iI)/\fs=tE.map .pv/\cs=iI.map .pv)/\aF.Nodup/\aF.all (fun s=>!s.fQ d)=true/\oW (aM fz σ) aF 0 aF=some B/\
  AV.gW (fun x=>aF.contains x) (fs++args.map (aM fz σ).o++cs)=true/\
  cN P g (AV.iO (jZ aF) (fs++args.map (aM fz σ).o++cs)) B (fun r B'=>r.dC (bY aF)=true/\(∀p∈B',bY aF p.1=true/\p.2.dC (bY aF)=true)/\
   K (r.map (gH aF d)) (((cK aF (aM fz σ)).bG d).lU (fA aF d B')))
section
variable {P:Program}{N:Nat}{w0:World}{m0:Env w0}{pl:List Nat}{σ:AS}{ρ:Site->Loc}{m:Mem}{act:Act}{w:World}{o:Oper}{d:Nat}{K:AV->AS->Prop}
theorem Zor:∀(l:List Site) (σ:AS) (s:Site) (b:aK),(cK l σ).b s=some b->σ.b s=some b/\s∉l
 |[],σ,s,b,h=>⟨h,by simp⟩
 |x::r,σ,s,b,h=>by
  obtain⟨h1,h2⟩:=Zor r _ s b h;rw[AS.JM]at h1;split at h1
  .cases h1
  .rename_i cZ;exact⟨h1,by simp[cZ,h2]⟩
theorem Zoq:∀(l:List Site) (σ:AS),(cK l σ).tm=σ.tm
 |[],σ=>rfl
 |x::r,σ=>by rw[cK,Zoq r];rfl
theorem Zl1 {l:List Site}{s:Site}{j:Nat}(h:l.findIdx? (fun x=>decide (x=s))=some j):l[j]?=some s:=by
 obtain⟨hj,h1,_⟩:=JJ.1 h;rw[bC hj];simpa using h1
theorem Gc {aF:List Site}{s:Site}(h:s∈aF):∃j,aF.findIdx? (fun x=>decide (x=s))=some j/\aF[j]?=some s:=by
 cases hf:aF.findIdx? (fun x=>decide (x=s))with
 |some j=>exact⟨j,rfl,Zl1 hf⟩
 |none=>
  rw[List.findIdx?_eq_none_iff]at hf
  have:=hf s h
  simp at this
theorem Zdx (σ:AS)(aF:List Site):∀(l:List Site) (i:Nat) (B:List (Site×aK)),oW σ aF i l=some B->
  (∀s b,B.lookup s=some b->∃j s0 b0,s=.par (i+j)/\l[j]?=some s0/\σ.b s0=some b0/\b=b0.iT (jZ aF)/\b0.dC (fun x=>aF.contains x)=true)/\(∀s∈l,∃b,σ.b s=some b)/\(∀s0∈l,∃s b,(s,b)∈B/\∃j,s=.par (i+j)/\l[j]?=some s0)/\(∀p∈B,∃j s0 b0,p.1=.par (i+j)/\l[j]?=some s0/\σ.b s0=some b0/\p.2=b0.iT (jZ aF))
 |[],i,B,h=>by
  simp[oW]at h;subst h;exact⟨fun s b h=>by simp[List.lookup]at h,fun s h=>(by cases h),fun s h=>(by cases h),fun p h=>(by cases h)⟩
 |x::r,i,B,h=>by
  unfold oW at h;split at h
  .rename_i b l h1 h2;split at h
   .rename_i eU;cases h;obtain⟨k1,k2,k3,k4⟩:=Zdx σ aF r (i+1) l h2;refine⟨fun s c hs=>?_,fun s hs=>?_,fun s hs=>?_,fun p hp=>?_⟩
    .by_cases e:s=.par i
     .subst e;rw[mT]at hs;cases hs;exact⟨0,x,b,rfl,rfl,h1,rfl,eU⟩
     .rw[jD e]at hs;obtain⟨j,s0,b0,e1,e2,e3⟩:=k1 s c hs;exact⟨j+1,s0,b0,by rw[e1];congr 1;omega,by simpa using e2,e3⟩
    .rcases jO.1 hs with rfl|hs
     .exact⟨b,h1⟩
     .exact k2 s hs
    .rcases jO.1 hs with rfl|hs
     .exact⟨.par i,b.iT (jZ aF),by simp,0,rfl,rfl⟩
     .obtain⟨s',b',q1,j,q2,q3⟩:=k3 s hs;exact⟨s',b',by simp[q1],j+1,by rw[q2];congr 1;omega,by simpa using q3⟩
    .rcases jO.1 hp with rfl|hp
     .exact⟨0,x,b,rfl,rfl,h1,rfl⟩
     .obtain⟨j,s0,b0,q1,q2,q3⟩:=k4 p hp;exact⟨j+1,s0,b0,by rw[q1];congr 1;omega,by simpa using q2,q3⟩
   .cases h
  .cases h
theorem ZfH (aF:List Site)(d:Nat):∀(B:List (Site×aK)) s b,(fA aF d B).lookup s=some b->∃s0 b0,B.lookup s0=some b0/\(s0,b0)∈B/\s=gH aF d s0/\b=b0.iT (gH aF d)
 |[],s,b,h=>by simp[fA]at h
 |(s',b')::r,s,b,h=>by
  simp only[fA,iN]at h;by_cases e:s=gH aF d s'
  .subst e;rw[mT]at h;cases h;exact⟨s',b',mT,by simp,rfl,rfl⟩
  .rw[jD e]at h;obtain⟨s0,b0,h0,h1,h2,h3⟩:=ZfH aF d r s b h;exact⟨s0,b0,by rw[jD (fun e2=>e (by rw[h2,e2]))];exact h0,by simp[h1],h2,h3⟩
theorem Mj {v:Value}{g:FuncId}{fs cs:List AV}(h:bQ ρ m v (.fn g fs cs)):∃vf vc:Array Value,v=.func (.func g) vf vc/\vf.size=fs.length/\vc.size=cs.length/\(∀(j:Nat) (d:Value) (c:AV),vf[j]?=some d->fs[j]?=some c->bQ ρ m d c)/\(∀(j:Nat) (d:Value) (c:AV),vc[j]?=some d->cs[j]?=some c->bQ ρ m d c):=by
 cases h with
 |fn _ vf vc _ _ h0 h1 h2 h3=>exact⟨vf,vc,rfl,h0,h1,h2,h3⟩
theorem ZhV {vf va vc:Array Value}{fs xs cs:List AV}(h1:vf.size=fs.length)(h2:va.size=xs.length)(h3:vc.size=cs.length)(k1:∀(j:Nat) (d:Value) (c:AV),vf[j]?=some d->fs[j]?=some c->bQ ρ m d c)
  (k2:∀(j:Nat) (d:Value) (c:AV),va[j]?=some d->xs[j]?=some c->bQ ρ m d c) (k3:∀(j:Nat) (d:Value) (c:AV),vc[j]?=some d->cs[j]?=some c->bQ ρ m d c):
  (vf++va++vc).size=(fs++xs++cs).length/\∀(j:Nat) (d:Value) (c:AV),(vf++va++vc)[j]?=some d->(fs++xs++cs)[j]?=some c->bQ ρ m d c:=by
 refine⟨by simp[h1,h2,h3],fun j d c e1 e3=>?_⟩;rw[Array.getElem?_append,Array.getElem?_append]at e1;rw[yX,yX]at e3;simp only[Array.size_append,gD,h1,h2]at e1 e3;split at e1
 .rename_i c1;rw[if_pos c1]at e3;split at e1
  .rename_i c2;rw[if_pos c2]at e3;exact k1 j d c e1 e3
  .rename_i c2;rw[if_neg c2]at e3;exact k2 _ d c e1 e3
 .rename_i c1;rw[if_neg c1]at e3;exact k3 _ d c e1 e3
theorem Nt {f:bB}{args:List bB}(hl:bA P o.op=.call f args):∃c fo,o.op=.call c/\c.callee=.value fo/\aV fo=some f/\pI c.args.toList=some args:=by
 replace hl:=ZfK hl;cases hop:o.op<;>rw[hop]at hl
 case call c=>
  simp only[mY]at hl;split at hl
  all_goals first
   |(rename_i fo hc
     split at hl
     .rename_i e1 e2;cases hl;exact⟨c,fo,rfl,hc,e1,e2⟩
     .cases hl)
   |(exfalso;repeat' (first|(cases hl;done)|split at hl))
 case unOp op t x=>exfalso;cases op<;>simp only[mY]at hl<;>(try split at hl)<;>cases hl
 case makeFunc fn fs cs=>exfalso;cases fn<;>simp only[mY]at hl<;>(try split at hl)<;>cases hl
 case slice t x lo hi mx=>exfalso;cases mx<;>simp only[mY]at hl<;>(try split at hl)<;>cases hl
 all_goals (exfalso;simp only[mY,vR]at hl;repeat' (first|(cases hl;done)|split at hl))
theorem Ny {l:List Site}(h:l.Nodup){i j:Nat}{s:Site}(hi:l[i]?=some s)(hj:l[j]?=some s):i=j:=by
 obtain⟨h1,e1⟩:=cA.1 hi;obtain⟨h2,e2⟩:=cA.1 hj;have hp:=Q8.1 h;rcases Nat.lt_trichotomy i j with aJ|he|aJ
 .exact absurd (e1.trans e2.symm) (hp i j h1 h2 aJ)
 .exact he
 .exact absurd (e2.trans e1.symm) (hp j i h2 h1 aJ)
theorem ZfN {σ:AS}{aF:List Site}:∀(r:List Site) (i:Nat) (B:List (Site×aK)),oW σ aF i r=some B->B.map (·.1)=(List.range' i r.length).map .par
 |[],i,B,h=>by simp[oW]at h;subst h;rfl
 |s::r,i,B,h=>by
  unfold oW at h;split at h
  .rename_i b l h1 h2;split at h
   .cases h;rw[iN,ZfN r (i+1) l h2];rfl
   .cases h
  .cases h
theorem Ow {σ:AS}{aF:List Site}{B:List (Site×aK)}(h:oW σ aF 0 aF=some B):(B.map (·.1)).Nodup:=by
 rw[ZfN _ _ _ h,DT,List.pairwise_map];exact List.Pairwise.imp (fun h e=>h (by cases e;rfl)) (DT.1 List.nodup_range')
theorem BO {lK:AS}{m1:Mem}{aF:List Site}{B:List (Site×aK)}(hF:Sat N w0 m0 pl lK ρ m1 act w)(pZ:aF.Nodup)(sR:aF.all (fun s=>!s.fQ d)=true)(hB:oW lK aF 0 aF=some B):
  ∃oC:Site->Loc,(∀s,aF.contains s=true->oC (jZ aF s)=ρ s)/\vC oC m1 w B/\∀(R:AV->List (Site×aK)->Prop) (e:Ending) (w':World),lC w m1 oC B (fun r B'=>r.dC (bY aF)=true/\(∀p∈B',bY aF p.1=true/\p.2.dC (bY aF)=true)/\R r B') e w'->
   ∃v r B' bW m',e=.returned v/\R r B'/\Sat N w0 m0 pl (((cK aF lK).bG d).lU (fA aF d B')) bW m' act w'/\bQ bW m' v (r.map (gH aF d))/\∀s,s.fQ d=false->bW s=ρ s:=by
 obtain⟨l1,l2,l3,l4⟩:=Zdx lK aF aF 0 B hB
 let oC:Site->Loc:=fun s=>match s with
  |.par i=>ρ (aF.getD i default)
  |s=>ρ s
 have fW:∀s,aF.contains s=true->oC (jZ aF s)=ρ s:=fun s hs=>by
  obtain⟨j,k1,k2⟩:=Gc (show s∈aF by simpa using hs);unfold jZ;rw[k1];simp[oC,List.getD,k2]
 have oL:∀s b,B.lookup s=some b->∃j s0 b0,s=.par j/\aF[j]?=some s0/\lK.b s0=some b0/\b=b0.iT (jZ aF)/\b0.dC (fun x=>aF.contains x)=true:=fun s b hs=>by
  obtain⟨j,s0,b0,e1,e2⟩:=l1 s b hs;exact⟨j,s0,b0,by simpa using e1,e2⟩
 have lO:∀j s0,aF[j]?=some s0->oC (.par j)=ρ s0:=fun j s0 hj=>by simp[oC,List.getD,hj]
 have QP:∀j s0,aF[j]?=some s0->jZ aF s0=.par j:=fun j s0 hj=>by
  obtain⟨j',k1,k2⟩:=Gc (dL hj);have e:j'=j:=Ny pZ k2 hj;unfold jZ;rw[k1,e]
 have tZ:vC oC m1 w B:=by
  refine⟨fun s b hs=>?_,fun s s' b b' i hs X9 r r'=>?_,fun s b i hs r=>?_⟩
  .obtain⟨j,s0,b0,rfl,e2,e3,rfl,e5⟩:=oL s b hs
   have:=(hF.bx s0 b0 e3).iT fW (by simpa using dL e2) e5
   rwa [QP j s0 e2]at this
  .obtain⟨j,s0,b0,rfl,e2,e3,rfl,_⟩:=oL s b hs;obtain⟨j',OR,VX,rfl,FG,e3',rfl,_⟩:=oL s' b' X9
   have:=hF.dZ s0 OR b0 VX i e3 e3' ((uL (lO j s0 e2)).1 r) ((uL (lO j' OR FG)).1 r')
   subst this
   have:j=j':=Ny pZ e2 FG
   rw[this]
  .obtain⟨j,s0,b0,rfl,e2,e3,rfl,_⟩:=oL s b hs;exact hF.eM s0 b0 i e3 ((uL (lO j s0 e2)).1 r)
 have mM:∀k,k∈cI oC w B->∃s0 b0,s0∈aF/\lK.b s0=some b0/\fL ρ w s0 b0 k:=fun k hk=>by
  obtain⟨p,hp,e⟩:=TD.1 hk;obtain⟨j,s0,b0,e1,e2,e3,e4⟩:=l4 p hp;rw[rV]at e1;rw[e1,e4]at e;exact⟨s0,b0,dL e2,e3,(uL (lO j s0 e2)).1 e⟩
 refine⟨oC,fW,tZ,fun R e w' h=>?_⟩;revert h;rintro⟨v,r,B',bW,m',rfl,⟨r1,r2,hK⟩,We,Q1,HK,ME,wL,D8,rO,Z3⟩;have hN:=qW.bG d (cK aF lK)
 let oD:Site->Loc:=fun s=>match s with
  |.loc e j=>if e=d then bW (.ret j)else ρ s
  |s=>ρ s
 have e1:∀s,s.fQ d=false->oD s=ρ s:=fun s hs=>by
  cases s with
  |loc e j=>
   have:¬e=d:=fun h=>by subst h;simp[Site.fQ]at hs
   simp[oD,this]
  |_=>rfl
 have QH:∀s∈aF,s.fQ d=false:=fun s hs=>by
  have:=rA.1 sR s hs
  simpa using this
 have e2:∀s,bY aF s=true->oD (gH aF d s)=bW s:=fun s hs=>by
  cases s with
  |par i=>
   simp only[bY,decide_eq_true_eq]at hs;have hg:=bC hs
   have:gH aF d (.par i)=aF[i]:=by simp[gH,List.getD,hg]
   rw[this,e1 _ (QH _ (zZ hs)),ME i,lO i _ hg]
  |ret j=>simp[oD,gH]
  |loc e j=>cases hs
 have bU:∀s b,((cK aF lK).bG d).b s=some b->s.fQ d=false/\s∉aF/\∃b0,lK.b s=some b0/\b=b0.bG d:=fun s b k=>by
  rw[AS.NS]at k;split at k
  .cases k
  .rename_i pZ;obtain⟨b0,k1,rfl⟩:=eA.1 k;obtain⟨k2,k3⟩:=Zor aF lK s b0 k1;exact⟨by simpa using pZ,k3,b0,k2,rfl⟩
 have look:∀s b,(((cK aF lK).bG d).lU (fA aF d B')).b s=some b->(∃s0 b0,B'.lookup s0=some b0/\bY aF s0=true/\b0.dC (bY aF)=true/\s=gH aF d s0/\b=b0.iT (gH aF d))\/(((cK aF lK).bG d).b s=some b):=fun s b k=>by
  have k':(fA aF d B'++((cK aF lK).bG d).bx).lookup s=some b:=k;rw[ZeD]at k';cases hl:(fA aF d B').lookup s with
  |some c=>
   rw[hl]at k';simp at k';subst k';obtain⟨s0,b0,k1,k2,k3,k4⟩:=ZfH aF d B' s c hl;exact .inl ⟨s0,b0,k1,(r2 _ k2).1,(r2 _ k2).2,k3,k4⟩
  |none=>
   rw[hl]at k';simp at k';exact .inr k'
 have uQ:∀s b0 k,s∉aF->lK.b s=some b0->fL ρ w s b0 k->k∉cI oC w B:=fun s b0 k hs hb hr hk=>by
  obtain⟨s0,VX,k1,k2,k3⟩:=mM _ hk
  have:=hF.dZ s0 s VX b0 k k2 hb k3 hr
  subst this;exact hs k1
 have stay:∀s b0,s∉aF->lK.b s=some b0->∀k,fL ρ w s b0 k->w'.heap[k]?=w.heap[k]?:=fun s b0 hs hb k hr=>Z3.block k (hF.G4 hb hr) (uQ s b0 k hs hb hr)
 have back:∀s b0,s.fQ d=false->s∉aF->lK.b s=some b0->∀k,fL oD w' s (b0.bG d) k->fL ρ w s b0 k:=fun s b0 h1 hs hb k hr=>
  ((hF.bx s b0 hb).dS (fun r=>stay s b0 hs hb _ (xR r))).1 (JZ.1 ((R3 (e1 s h1)).1 hr))
 have Th:∃ds:List Nat,Ii m0.rest ds act.defers/\Nod m0.strict ds/\∀D∈ds,(w0.heap.size<=D\/D∈pl)/\w'.heap[D]?=some (.deferred (some [])):=by
  obtain⟨ds,g1,g0,g2⟩:=hF.sC;refine⟨ds,g1,g0,fun D hD=>⟨(g2 D hD).1,?_⟩⟩;obtain⟨g3,g4⟩:=g2 D hD;rw[Z3.block D (qF.1 g4).1 (fun q=>by
   obtain⟨s1,b1,q1,q2,q3⟩:=mM _ q;exact(hF.bx s1 b1 q2).Xq q3 g4)]
  exact g4
 have OX:∀s0 b0 k,B'.lookup s0=some b0->fL bW w' s0 b0 k->w.heap.size<=k\/k∈cI oC w B:=wL;refine⟨v,r,B',oD,m',rfl,hK,⟨Th,hF.sz,fun t a k=>?_,fun s b k=>?_,fun s s' b b' i k k' rr LF=>?_,HK,fun s b i k rr=>?_,fun s b i k rr=>?_,?_,hF.base.trans Q1,fun b o' v' Sh=>?_,fun i=>hF.par i⟩,rO.map e2 r1,e1⟩
 .have k':((cK aF lK).bG d).t t=some a:=k;have mK:=hN.t t a k';rw[AS.Lb]at k';obtain⟨a0,k1,rfl⟩:=eA.1 k';have k2:lK.t t=some a0:=by
   unfold AS.t at k1 ⊢;rw[Zoq]at k1;exact k1
  obtain⟨u,k3,k4⟩:=hF.tm t a0 k2;refine⟨u,k3,?_⟩;have k5:bQ ρ m1 u (a0.bG d):=by
   unfold AV.bG;split
   .exact .any u
   .exact k4
  exact k5.mono Q1 e1 mK
 .rcases look s b k with⟨s0,b0,k1,k2,k3,rfl,rfl⟩|k1
  .exact(We.bx s0 b0 k1).iT e2 k2 k3
  .obtain⟨k2,k3,b0,k4,rfl⟩:=bU s b k1;exact((hF.bx s b0 k4).bG d).stay Q1 e1 k2 (aK.Fg d b0) (fun i hr=>stay s b0 k3 k4 i (JZ.1 hr))
 .rcases look s b k with⟨s0,b0,k1,k2,k3,rfl,rfl⟩|k1<;>rcases look s' b' k' with⟨OR,VX,C6,Aa,k3',rfl,rfl⟩|C6
  .rw[We.dZ s0 OR b0 VX i k1 C6 ((uL (e2 s0 k2)).1 rr) ((uL (e2 OR Aa)).1 LF)]
  .obtain⟨h2,h3,c0,h4,rfl⟩:=bU s' b' C6;have r2':=back s' c0 h2 h3 h4 i LF;rcases OX s0 b0 i k1 ((uL (e2 s0 k2)).1 rr)with q|q
   .have:=hF.G4 h4 r2';omega
   .exact absurd q (uQ s' c0 i h3 h4 r2')
  .obtain⟨h2,h3,c0,h4,rfl⟩:=bU s b k1;have r2:=back s c0 h2 h3 h4 i rr;rcases OX OR VX i C6 ((uL (e2 OR Aa)).1 LF)with q|q
   .have:=hF.G4 h4 r2;omega
   .exact absurd q (uQ s c0 i h3 h4 r2)
  .obtain⟨h2,h3,c0,h4,rfl⟩:=bU s b k1;obtain⟨uA,h3',c0',RX,rfl⟩:=bU s' b' C6;exact hF.dZ s s' c0 c0' i h4 RX (back s c0 h2 h3 h4 i rr) (back s' c0' uA h3' RX i LF)
 .rcases look s b k with⟨s0,b0,k1,k2,k3,rfl,rfl⟩|k1
  .exact We.eM s0 b0 i k1 ((uL (e2 s0 k2)).1 rr)
  .obtain⟨h2,h3,c0,h4,rfl⟩:=bU s b k1;have r2:=back s c0 h2 h3 h4 i rr;intro o';cases hx:m' i o' with
   |none=>rfl
   |some u=>
    rcases D8 _ _ _ hx with q|q|q
    .rw[hF.eM s c0 i h4 r2 o']at q;cases q
    .have:=hF.G4 h4 r2;omega
    .exact absurd q (uQ s c0 i h3 h4 r2)
 .rcases look s b k with⟨s0,b0,k1,k2,k3,rfl,rfl⟩|k1
  .rcases OX s0 b0 i k1 ((uL (e2 s0 k2)).1 rr)with q|q
   .exact .inl (lJ hF.keep.size q)
   .obtain⟨s1,b1,q1,q2,q3⟩:=mM _ q;exact hF.fM s1 b1 i q2 q3
  .obtain⟨h2,h3,c0,h4,rfl⟩:=bU s b k1;exact hF.fM s c0 i h4 (back s c0 h2 h3 h4 i rr)
 .refine⟨Z3.os.trans hF.keep.os,Z3.tape.trans hF.keep.tape,Z3.output.trans hF.keep.output,lJ hF.keep.size Z3.size,fun k hk hn=>?_⟩;refine(Z3.block k (Nat.lt_of_lt_of_le hk hF.keep.size) (fun q=>?_)).trans (hF.keep.block k hk hn);obtain⟨s1,b1,q1,q2,q3⟩:=mM _ q;rcases hF.fM s1 b1 k q2 q3 with h'|h'
  .omega
  .exact hn h'
 .rcases D8 _ _ _ Sh with q|q|q
  .exact hF.qD _ _ _ q
  .exact .inr (.inl (lJ hF.keep.size q))
  .obtain⟨s1,b1,q1,q2,q3⟩:=mM _ q;rcases hF.fM s1 b1 _ q2 q3 with h'|h'
   .exact .inr (.inl h')
   .exact .inr (.inr h')
theorem ZqR {ro:Option Nat}{f:bB}{args:List bB}(hl:bA P o.op=.call f args)(h:GA P f args K σ)(hS:Sat N w0 m0 pl σ ρ m act w){Q:Exit->Act->World->Prop} :
  o.wpIn (FF ro) 1 P act w (fun bE w'=>∃v a τ bW m',bE=act.put o.dst v/\K a τ/\Sat N w0 m0 pl τ bW m' act w'/\bQ bW m' v a) Q:=by
 obtain⟨c,fo,ho,hc,hf,ha⟩:=Nt hl;obtain⟨d,fz,aF,g,fs,cs,B,qC,pZ,sR,hB,eU,hC⟩:=h;obtain⟨m1,_,hF⟩:=hS.aM fz;generalize aM fz σ=lK at qC hB eU hC hF;obtain⟨q1,q2⟩:=KK ha;obtain⟨oC,fW,tZ,yJ⟩:=BO hF pZ sR hB;have p9:∃vf vc:Array Value,act.eval fo=.func (.func g) vf vc/\vf.size=fs.length/\vc.size=cs.length/\(∀(j:Nat) (d:Value) (c:AV),vf[j]?=some d->fs[j]?=some c->bQ ρ m1 d c)/\(∀(j:Nat) (d:Value) (c:AV),vc[j]?=some d->cs[j]?=some c->bQ ρ m1 d c):=by
  have h1:=hF.aV hf;rcases qC with qC|⟨tE,iI,qC,rfl,rfl⟩
  .rw[qC]at h1;exact Mj h1
  .rw[qC]at h1;obtain⟨vf,vc,e1,e2,e3,e4,e5⟩:=Fm h1.nH;refine⟨vf,vc,e1,by simpa using e2,by simpa using e3,fun j d c k1 k2=>?_,fun j d c k1 k2=>?_⟩
   .rw[bX]at k2;obtain⟨x,k3,rfl⟩:=eA.1 k2;exact .pv _ _ (e4 j d x k1 k3)
   .rw[bX]at k2;obtain⟨x,k3,rfl⟩:=eA.1 k2;exact .pv _ _ (e5 j d x k1 k3)
 obtain⟨vf,vc,hv,f1,f2,f3,f4⟩:=p9;have fI:(c.args.map act.eval).size=(args.map lK.o).length:=by simp;simpa using q1
 obtain⟨b1,b2⟩:=ZhV (ρ:=ρ) (m:=m1) (va:=c.args.map act.eval) (xs:=args.map lK.o) f1 fI f2 f3 (fun j u y hu hy=>by
  rw[Array.getElem?_map]at hu;obtain⟨x,k1,rfl⟩:=eA.1 hu;obtain⟨y',k2,k3⟩:=q2 j x (by simpa using k1);rw[bX,k2]at hy;cases hy;exact hF.aV k3) f4
 unfold Oper.wpIn;refine⟨fun _ _=>trivial,?_⟩;rw[Oper.semAt_eq _ _ _ (fun c' e=>by rw[ho]at e;cases e),F2 ho hc hv hC.1,Oper.uponIn_enter];refine⟨FF.one,Fv ?_⟩;refine(hC.2 w m1 oC _ tZ ⟨hF.mem,hF.uB,Ow hB⟩ (by rw[KG];exact b1) (fun j u y hu hy=>by
  rw[KF]at hy;obtain⟨a,k1,rfl⟩:=eA.1 hy;exact(b2 j u a hu k1).map fW (V8 eU k1))).mono ?_
 intro e w' h;obtain⟨v,r,B',bW,m',rfl,hK,k1,k2,_⟩:=yJ (fun r B'=>K (r.map (gH aF d)) (((cK aF lK).bG d).lU (fA aF d B'))) e w' h;exact⟨v,_,_,bW,m',rfl,hK,k1,k2⟩
end
def FV (P:Program)(i:Nat)(bT:List AV)(B:List (Site×aK))(nW:AV->List (Site×aK)->Prop):Prop:=
 ∀(w:World) (m:Mem) (ρ:Site->Loc) (vs:Array Value),vC ρ m w B->(Le m w.mem/\nJ m w/\(B.map (·.1)).Nodup)->vs.size=bT.length->(∀(j:Nat) (d:Value) (c:AV),vs[j]?=some d->bT[j]?=some c->bQ ρ m d c)->
  ∃r,w.heap[(ρ (.par i)).b]?=some (.loop r)/\vs.size=r.params.size/\RoundIn (FF none) 0 P (ρ (.par i)).b r.fn ((r.params.zip vs).foldl (fun tmps (t,a)=>tmps.setIfInBounds t a) r.tmps) r.assign r.body w (lC w m ρ B nW)
def FZ (P:Program)(f:bB)(args:List bB)(K:AV->AS->Prop)(σ:AS):Prop:=
 ∃(d:Nat) (fz aF:List Site) (s:Site) (i:Nat) (B:List (Site×aK)),(aM fz σ).o f=.nK s/\aF[i]?=some s/\aF.Nodup/\aF.all (fun s=>!s.fQ d)=true/\oW (aM fz σ) aF 0 aF=some B/\
  AV.gW (fun x=>aF.contains x) (args.map (aM fz σ).o)=true/\
  FV P i (AV.iO (jZ aF) (args.map (aM fz σ).o)) B (fun r B'=>r.dC (bY aF)=true/\(∀p∈B',bY aF p.1=true/\p.2.dC (bY aF)=true)/\
   K (r.map (gH aF d)) (((cK aF (aM fz σ)).bG d).lU (fA aF d B')))
theorem ZsJ {ro:Option Nat}{n:Nat}{P:Program}{l:Nat}{f:FuncId}{tmps:Array Value}{a b:Code}{w:World}{R:Ending->World->Prop}(h:RoundIn (FF none) n P l f tmps a b w R):RoundIn (FF ro) n P l f tmps a b w R:=h
section
variable {P:Program}{N:Nat}{w0:World}{m0:Env w0}{pl:List Nat}{σ:AS}{ρ:Site->Loc}{m:Mem}{act:Act}{w:World}{o:Oper}{d:Nat}{K:AV->AS->Prop}
theorem ZrY {v:Value}{s:Site}(h:bQ ρ m v (.nK s)):v=.func (.yield (ρ s).b) #[] #[]:=by cases h;rfl
theorem GI {c:Call}{fo:Operand}(ho:o.op=.call c)(hc:c.callee=.value fo){l:Nat}(hv:act.eval fo=.func (.yield l) #[] #[]){r:Loop}(hr:w.heap[l]?=some (.loop r))(hs:(c.args.map act.eval).size=r.params.size):
  (execOp act.eval o).run P w=.ok (.round l r.fn ((r.params.zip (c.args.map act.eval)).foldl (fun tmps (t,a)=>tmps.setIfInBounds t a) r.tmps) r.assign r.body) w:=by
 have:=run_yield (P:=P) hr hs
 unfold execOp;simp only[ho];simp[resolve,hc,hv,Deferred.ofValue,invoke,this]
theorem ZqQ {ro:Option Nat}{f:bB}{args:List bB}(hl:bA P o.op=.call f args)(h:FZ P f args K σ)(hS:Sat N w0 m0 pl σ ρ m act w){Q:Exit->Act->World->Prop} :
  o.wpIn (FF ro) 1 P act w (fun bE w'=>∃v a τ bW m',bE=act.put o.dst v/\K a τ/\Sat N w0 m0 pl τ bW m' act w'/\bQ bW m' v a) Q:=by
 obtain⟨c,fo,ho,hc,hf,ha⟩:=Nt hl;obtain⟨d,fz,aF,s,i,B,qC,hi,pZ,sR,hB,eU,hC⟩:=h;obtain⟨m1,_,hF⟩:=hS.aM fz;generalize aM fz σ=lK at qC hB eU hC hF;obtain⟨q1,q2⟩:=KK ha;obtain⟨oC,fW,tZ,yJ⟩:=BO hF pZ sR hB;have hv:act.eval fo=.func (.yield (ρ s).b) #[] #[]:=by
  have:=hF.aV hf
  rw[qC]at this;exact ZrY this
 have lO:oC (.par i)=ρ s:=by
  have h1:=fW s (by simpa using dL hi);have h2:jZ aF s=.par i:=by
   obtain⟨j',k1,k2⟩:=Gc (dL hi);have e:j'=i:=Ny pZ k2 hi;unfold jZ;rw[k1,e]
  rw[h2]at h1;exact h1
 have fI:(c.args.map act.eval).size=(args.map lK.o).length:=by simp;simpa using q1
 have lF:∀(j:Nat) (u:Value) (y:AV),(c.args.map act.eval)[j]?=some u->(args.map lK.o)[j]?=some y->bQ ρ m1 u y:=fun j u y hu hy=>by
  rw[Array.getElem?_map]at hu;obtain⟨x,k1,rfl⟩:=eA.1 hu;obtain⟨y',k2,k3⟩:=q2 j x (by simpa using k1);rw[bX,k2]at hy;cases hy;exact hF.aV k3
 obtain⟨r,hr,yI,hR⟩:=hC w m1 oC (c.args.map act.eval) tZ ⟨hF.mem,hF.uB,Ow hB⟩ (by rw[KG];exact fI) (fun j u y hu hy=>by
  rw[KF]at hy;obtain⟨a,k1,rfl⟩:=eA.1 hy;exact(lF j u a hu k1).map fW (V8 eU k1))
 rw[lO]at hr hR;unfold Oper.wpIn;refine⟨fun _ _=>trivial,?_⟩;rw[Oper.semAt_eq _ _ _ (fun c' e=>by rw[ho]at e;cases e),GI ho hc hv hr yI,Oper.uponIn_round];refine⟨FF.one,ZsJ (hR.mono ?_)⟩;intro e w' h;obtain⟨v,r,B',bW,m',rfl,hK,k1,k2,_⟩:=yJ (fun r B'=>K (r.map (gH aF d)) (((cK aF lK).bG d).lU (fA aF d B'))) e w' h;exact⟨v,_,_,bW,m',rfl,hK,k1,k2⟩
end
structure LO where
 dst:Option Nat
 g:Option (Nat×Bool)
 op:lV
 lt:Bool
 deriving Inhabited
def AS.oV (d:Option Nat)(a:AV)(σ:AS):AS:=match d with
 |some d=>σ.put d a
 |none=>σ
def lW (P:Program)(o:LO)(K:AV->AS->Prop)(σ:AS):Prop:=match o.op with
 |.call f args=>zA P f args (o.dst.getD 0) K σ\/(o.lt=true/\(GA P f args K σ\/FZ P f args K σ))
 |l=>bZ l (o.dst.getD 0) K σ
def A6:AV:=.pv (.bM [])
def pL (P:Program)(o:LO)(K:AS->Prop)(σ:AS):Prop:=match o.g with
 |none=>lW P o (fun a τ=>K (τ.oV o.dst a)) σ
 |some (t,want)=>match σ.t t with
  |some (.pv (.bool b))=>if b=want then lW P o (fun a τ=>K (τ.oV o.dst a)) σ else K (σ.oV o.dst A6)
  |some (.pv (.bM []))=>K (σ.oV o.dst A6)
  |_=>False
def oI (P:Program):List LO->(AS->Prop)->AS->Prop
 |[],K,σ=>K σ
 |o::r,K,σ=>pL P o (oI P r K) σ
def SA (ops:Array Oper)(t:Nat):Bool:=ops.any fun o=>(o.dst==some t)&&(match o.op with
 |.buildSlice _ 0 _=>true
 |_=>false)
def sV (ops:Array Oper)(l:lV):lV:=match l with
 |.app e n b (.t k) y=>if SA ops k=true then .iM e n b (.t k) y else .app e n b (.t k) y
 |.app e n b (.c x) y=>match x with
  |.emp nl=>.iM e n b (.c (.emp nl)) y
  |x=>.app e n b (.c x) y
 |l=>l
def lV.JQ:lV->Bool
 |.iM _ _ _ _ _=>true
 |_=>false
theorem Oh {ops:Array Oper}{l:lV}:(sV ops l=l/\(∀e n b x y,l=.app e n b x y->True))\/∃e n b x y,l=.app e n b x y/\sV ops l=.iM e n b x y:=by
 cases l with
 |app e n b x y=>
  cases x with
  |t k=>
   unfold sV;dsimp only;split
   .exact .inr ⟨e,n,b,.t k,y,rfl,rfl⟩
   .exact .inl ⟨rfl,fun _ _ _ _ _ _=>trivial⟩
  |c x=>
   cases x with
   |emp nl=>exact .inr ⟨e,n,b,_,y,rfl,rfl⟩
   |_=>exact .inl ⟨rfl,fun _ _ _ _ _ _=>trivial⟩
 |_=>exact .inl ⟨rfl,fun _ _ _ _ _ _=>trivial⟩
def ND (N:Nat):Option Nat->Bool
 |some d=>decide (d<N)
 |none=>true
def qM (P:Program)(N:Nat)(ops:Array Oper)(lt:Bool)(o:Oper):Option LO:=
 if ND N o.dst=true then
  match o.guard with
  |none=>some ⟨o.dst,none,sV ops (bA P o.op),lt⟩
  |some (j,want)=>match(ops[j]?).bind (·.dst)with
   |some t=>some ⟨o.dst,some (t,want),sV ops (bA P o.op),lt⟩
   |none=>none
 else none
def kV (P:Program)(N:Nat)(ops:Array Oper):List (Bool×Oper)->Option (List LO)
 |[]=>some []
 |(lt,o)::r=>match qM P N ops lt o,kV P N ops r with
  |some a,some l=>some (a::l)
  |_,_=>none
def lV.NO:lV->Bool
 |.call _ _=>true
 |_=>false
def xS (P:Program)(o:Oper):Bool:=(bA P o.op).still
def Da (P:Program)(f:FuncId):Bool:=match P.funcs[f]? with
 |some fn=>fn.params.toList.any fun t=>match P.underlying t with
  |some (.pointer _)=>true
  |_=>false
 |none=>false
def Cz (P:Program)(ops:Array Oper):lV->Bool
 |.call (.c (.fn f _ _)) _=>Da P f
 |.call (.t _) [.t k]=>ops.any fun o=>o.dst==some k&&(match bA P o.op with
  |.build _ _=>true
  |_=>false)
 |_=>false
def C4 (P:Program)(ops:Array Oper)(j:Nat):Bool:=(match ops[j]? with
 |some o=>Cz P ops (bA P o.op)
 |none=>false)||(List.range ops.size).all fun i=>match ops[i]? with
 |some o=>!(bA P o.op).FO||waits .any ops ops.size j i
 |none=>true
def R5 (P:Program)(ops:Array Oper)(j:Nat)(o:Oper):Bool:=o.op.vS||((bA P o.op).NO&&!C4 P ops j)||(sV ops (bA P o.op)).JQ||(bA P o.op).still
def Mi (P:Program)(ops:Array Oper):Nat->Array Bool->List (Nat×Bool)
 |0,_=>[]
 |f+1,aI=>
  match(Region.ready .any ops aI).find? fun i=>match ops[i]? with
    |some o=>xS P o
    |none=>false with
  |some i=>(i,false)::Mi P ops f (aI.setIfInBounds i true)
  |none=>match(Region.ready .any ops aI).find? fun i=>match ops[i]? with
    |some o=>(bA P o.op).FO&&(List.range ops.size).all fun j=>aI.getD j true||j==i||iS (R5 P ops) ops j||waits .any ops ops.size j i
    |none=>false with
   |some i=>(i,false)::Mi P ops f (aI.setIfInBounds i true)
   |none=>match Region.ready .any ops aI with
    |i::_=>(i,true)::Mi P ops f (aI.setIfInBounds i true)
    |[]=>[]
def rK (P:Program)(ops:Array Oper):List (Nat×Bool)->Bool
 |[]=>true
 |(i,false)::r=>(match ops[i]? with
   |some o=>xS P o||(bA P o.op).FO
   |none=>false)&&rK P ops r
 |(i,true)::r=>(match ops[i]? with
   |some _=>true
   |none=>false)&&rK P ops r
def BN (P:Program)(N:Nat)(ops:Array Oper)(draw:Bool):Option (List LO):=
 if draw=true then
  let l:=Mi P ops ops.size (Array.replicate ops.size false)
  if Region.noSelect ops&&FW ops&&decide (l.length=ops.size)&&J5 .any ops (R5 P ops) (xS P) l (Array.replicate ops.size false)&&rK P ops l=true then
   kV P N ops (l.map fun p=>(C4 P ops p.1,ops.getD p.1 default))
  else none
 else kV P N ops (ops.toList.map fun o=>(true,o))
section
variable {P:Program}{N:Nat}{w0:World}{m0:Env w0}{pl:List Nat}{σ:AS}{ρ:Site->Loc}{m:Mem}{act:Act}{w:World}{o:Oper}{lo:LO}{K:AS->Prop}{ops:Array Oper}{Q:Exit->Act->World->Prop}{ro:Option Nat}
theorem EH {lt:Bool}(h:qM P N ops lt o=some lo):lo.lt=lt/\lo.dst=o.dst/\lo.op=sV ops (bA P o.op)/\(∀d,o.dst=some d->d<N)/\((o.guard=none/\lo.g=none)\/∃j want t,o.guard=some (j,want)/\lo.g=some (t,want)/\(ops[j]?).bind (·.dst)=some t):=by
 unfold qM at h;split at h
 .rename_i hd;have IF:∀d,o.dst=some d->d<N:=fun d e=>by rw[e]at hd;simpa[ND]using hd
  split at h
  .rename_i hg;cases h;exact⟨rfl,rfl,rfl,IF,.inl ⟨hg,rfl⟩⟩
  .rename_i j want hg;split at h
   .rename_i t ht;cases h;exact⟨rfl,rfl,rfl,IF,.inr ⟨j,want,t,hg,rfl,ht⟩⟩
   .cases h
 .cases h
theorem Sat.oV (h:Sat N w0 m0 pl σ ρ m act w){d:Option Nat}(hd:∀k,d=some k->k<N){v:Value}{a:AV}(hv:bQ ρ m v a):Sat N w0 m0 pl (σ.oV d a) ρ m (act.put d v) w:=by
 cases d with
 |none=>exact h
 |some d=>exact h.put (hd d rfl) hv
theorem WM {ρ:Site->Loc}{m:Mem}:bQ ρ m undef A6:=.pv _ _ (.bM _ _ rfl (fun j d c e1 e2=>by simp at e2))
theorem Gt {lt:Bool}(hl:qM P N ops lt o=some lo)(h:pL P lo K σ)(hS:Sat N w0 m0 pl σ ρ m act w):
  (Region.wanted o (yielded ops act.tmps)=true/\lW P lo (fun a τ=>K (τ.oV o.dst a)) σ)\/(Region.wanted o (yielded ops act.tmps)=false/\K (σ.oV o.dst A6)):=by
 obtain⟨e0,e1,e2,e3,e4⟩:=EH hl;unfold pL at h;rcases e4 with⟨hg,VG⟩|⟨j,want,t,hg,VG,ht⟩
 .rw[VG]at h;refine .inl ⟨by simp[Region.wanted,hg],?_⟩;rw[<-e1];exact h
 .rw[VG]at h;simp only at h;split at h
  .rename_i b hb;obtain⟨v,k1,k2⟩:=hS.tm t _ hb;have hv:=k2.NT;subst hv;have hy:yielded ops act.tmps j=some b:=by unfold yielded;rw[ht];simp[k1]
   have hw:Region.wanted o (yielded ops act.tmps)=decide (b=want):=by
    simp only[Region.wanted,hg,hy];cases b<;>cases want<;>rfl
   split at h
   .rename_i Co;exact .inl ⟨by rw[hw];simpa using Co,by rw[<-e1];exact h⟩
   .rename_i Co;exact .inr ⟨by rw[hw];simpa using Co,by rw[<-e1];exact h⟩
  .rename_i hb;obtain⟨v,k1,k2⟩:=hS.tm t _ hb;obtain⟨us,hv,hl,_⟩:=k2.ZwY;subst hv;have hy:yielded ops act.tmps j=none:=by unfold yielded;rw[ht];simp[k1]
   exact .inr ⟨by simp only[Region.wanted,hg,hy];rfl,by rw[<-e1];exact h⟩
  .exact h.elim
def G1 (N:Nat)(w0:World)(m0:Env w0)(pl:List Nat)(K:AS->Prop)(act:Act)(w:World):Prop:=∃τ ρ m,K τ/\Sat N w0 m0 pl τ ρ m act w
theorem Zuo {lt:Bool}(hl:qM P N ops lt o=some lo){K':AV->AS->Prop}(h:lW P lo K' σ)(hS:Sat N w0 m0 pl σ ρ m act w):
  o.wpIn (FF ro) 1 P act w (fun bE w'=>∃v a τ bW m',bE=act.put o.dst v/\K' a τ/\Sat N w0 m0 pl τ bW m' act w'/\bQ bW m' v a/\(o.op.vS=true\/((bA P o.op).NO=true/\lt=false)\/(sV ops (bA P o.op)).JQ=true->Ext w w')) Q:=by
 obtain⟨e0,e1,e2,e3,e4⟩:=EH hl;unfold lW at h;rw[e2,e1]at h;have N6:∀c,o.op≠.defer c:=fun c e=>by
  rw[e]at h;exact h.elim
 rcases Oh (ops:=ops) (l:=bA P o.op)with⟨mG,_⟩|⟨e,n,b,x,y,H4,mG⟩
 .rw[mG]at h ⊢;split at h
  .rename_i f args hc;have Bg:o.op.vS=false:=by
    obtain⟨c,fo,ho,_⟩:=Nt hc;rw[ho];rfl
   have xJ:(bA P o.op).JQ=false:=by rw[hc];rfl
   rcases h with h|⟨aJ,h⟩
   .exact Oper.wpIn_mono (fun bE w' ⟨v,a,τ,bW,m',k1,k2,k3,k4,k5⟩=>⟨v,a,τ,bW,m',k1,k2,k3,k4,fun _=>k5⟩) (ZtT hc h hS)
   .refine Oper.wpIn_mono (fun bE w' ⟨v,a,τ,bW,m',k1,k2,k3,k4⟩=>⟨v,a,τ,bW,m',k1,k2,k3,k4,fun h=>?_⟩) (h.elim (fun h=>ZqR hc h hS) (fun h=>ZqQ hc h hS));rcases h with h|⟨_,h⟩|h
    .rw[Bg]at h;cases h
    .rw[e0]at aJ;rw[aJ]at h;cases h
    .rw[hc]at xJ h;rw[xJ]at h;cases h
  .rename_i hc;have M6:(bA P o.op).NO=false:=by
    cases hx:bA P o.op<;>first|rfl|(exact absurd hx (hc _ _))
   have xJ:(bA P o.op).JQ=false:=by
    cases hx:bA P o.op<;>first|rfl|(exfalso;replace hx:=ZlW hx (fun _ e=>by cases e);clear h hS hl e2 hc M6 mG;cases hop:o.op<;>rw[hop]at hx<;>(try rename_i op t x;try cases op)<;>(try rename_i fn fs cs;try cases fn)<;>simp only[mY,vR]at hx<;>repeat' (first|(cases hx;done)|split at hx))
   obtain⟨v,w',a,τ,bW,m',k1,k2,k3,k4,k5⟩:=ZpQ (fun f l e=>hc f l e) h hS;have Cg:o.op.vS=true\/((bA P o.op).NO=true/\lt=false)\/(bA P o.op).JQ=true->Ext w w':=fun h=>by
    rcases h with h|⟨h,_⟩|h
    .exact k5 h
    .rw[M6]at h;cases h
    .rw[xJ]at h;cases h
   unfold Oper.wpIn;refine⟨fun _ _=>trivial,?_⟩;rw[Oper.semAt_eq _ _ _ N6];rcases k1 with k1|⟨k1,rfl⟩
   .rw[k1,Oper.uponIn_value];exact⟨v,a,τ,bW,m',rfl,k2,k3,k4,Cg⟩
   .rw[k1,Oper.uponIn_skip];exact⟨undef,a,τ,bW,m',rfl,k2,k3,k4,Cg⟩
 .rw[mG]at h ⊢;have hE:(∃nl,σ.o x=.pv (.emp nl))/\bZ (bA P o.op) (o.dst.getD 0) K' σ:=by
   rw[H4];simp only[bZ]at h ⊢;split at h
   .split at h
    .rename_i nl ex;exact⟨⟨nl,ex⟩,by rw[ex];exact h⟩
    .exact h.elim
   .exact h.elim
  obtain⟨v,w',a,τ,bW,m',k1,k2,k3,k4,k5⟩:=Zs1 H4 hE.2 hS;unfold Oper.wpIn;refine⟨fun _ _=>trivial,?_⟩;rw[Oper.semAt_eq _ _ _ N6];rcases k1 with k1|⟨k1,rfl⟩
  .rw[k1,Oper.uponIn_value];exact⟨v,a,τ,bW,m',rfl,k2,k3,k4,fun _=>k5 hE.1⟩
  .rw[k1,Oper.uponIn_skip];exact⟨undef,a,τ,bW,m',rfl,k2,k3,k4,fun _=>k5 hE.1⟩
theorem Mc {lt:Bool}(hl:qM P N ops lt o=some lo)(h:lW P lo (fun a τ=>K (τ.oV o.dst a)) σ)(hS:Sat N w0 m0 pl σ ρ m act w):
  o.wpIn (FF ro) 1 P act w (fun bE w'=>G1 N w0 m0 pl K bE w'/\(o.op.vS=true\/((bA P o.op).NO=true/\lt=false)\/(sV ops (bA P o.op)).JQ=true->Ext w w')) Q:=by
 refine Oper.wpIn_mono (fun bE w' ⟨v,a,τ,bW,m',k1,k2,k3,k4,k5⟩=>?_) (Zuo hl h hS);subst k1;exact⟨⟨_,bW,m',k2,k3.oV (EH hl).2.2.2.1 k4⟩,k5⟩
theorem ZfJ {rest:List Oper}{lt:Bool}(hl:qM P N ops lt o=some lo)(h:pL P lo K σ)(hS:Sat N w0 m0 pl σ ρ m act w)(hr:∀bE w',G1 N w0 m0 pl K bE w'->wpListIn (FF ro) 1 P ops Q rest bE w'):wpListIn (FF ro) 1 P ops Q (o::rest) act w:=by
 unfold wpListIn;rcases Gt hl h hS with⟨h1,h2⟩|⟨h1,h2⟩
 .rw[if_pos h1];exact Oper.wpIn_mono (fun bE w' k=>hr bE w' k.1) (Mc hl h2 hS)
 .rw[if_neg (by rw[h1];simp)];exact⟨fun _ _=>trivial,hr _ _ ⟨_,ρ,m,h2,hS.oV (EH hl).2.2.2.1 WM⟩⟩
theorem Zgv:∀(l:List Oper) (qL:List LO) {σ:AS} {ρ:Site->Loc} {m:Mem} {act:Act} {w:World},kV P N ops (l.map fun o=>(true,o))=some qL->oI P qL K σ->Sat N w0 m0 pl σ ρ m act w->(∀bE w',G1 N w0 m0 pl K bE w'->Q .normal bE w')->wpListIn (FF ro) 1 P ops Q l act w
 |[],qL,σ,ρ,m,act,w,hl,h,hS,hQ=>by
  simp[kV]at hl;subst hl;exact hQ _ _ ⟨σ,ρ,m,h,hS⟩
 |o::r,qL,σ,ρ,m,act,w,hl,h,hS,hQ=>by
  rw[iN]at hl;unfold kV at hl;split at hl
  .rename_i a l h1 h2;cases hl;exact ZfJ h1 h hS (fun bE w' ⟨τ,bW,m',k1,k2⟩=>Zgv r l h2 k1 k2 hQ)
  .cases hl
theorem KD {G:World->Prop}{lt:Bool}(hl:qM P N ops lt o=some lo)(h:pL P lo K σ)(hS:Sat N w0 m0 pl σ ρ m act w)(hk:(bA P o.op).still=true\/(bA P o.op).FO=true/\∀w',G w'->fX σ ρ m w w'):
  ∃v,YieldsIf P ops G o v act/\G1 N w0 m0 pl K (act.put o.dst v) w/\∃τ,K τ/\τ.bx=σ.bx/\Sat N w0 m0 pl τ ρ m (act.put o.dst v) w:=by
 obtain⟨e0,e1,e2,e3,e4⟩:=EH hl;have LH:∀a,(σ.oV o.dst a).bx=σ.bx:=fun a=>by cases o.dst<;>rfl
 rcases Gt hl h hS with⟨h1,h2⟩|⟨h1,h2⟩
 .unfold lW at h2;have mG:sV ops (bA P o.op)=bA P o.op:=by
   rcases Oh (ops:=ops) (l:=bA P o.op)with⟨mG,_⟩|⟨e,n,b,x,y,H4,_⟩
   .exact mG
   .rw[H4]at hk;rcases hk with hk|⟨hk,_⟩<;>cases hk
  rw[e2,e1,mG]at h2;have hop:bZ (bA P o.op) (o.dst.getD 0) (fun a τ=>τ=σ/\K (τ.oV o.dst a)) σ\/True:=.inr trivial;split at h2
  .rename_i f args hc;rw[hc]at hk;rcases hk with hk|⟨hk,_⟩<;>cases hk
  .have hP:∃G':World->Prop,(∀w',G w'->G' w')/\dB G' P σ ρ m o act w (fun a τ=>K (τ.oV o.dst a)):=by
    rcases hk with hk|⟨hk,hG⟩
    .exact⟨G,fun _ h=>h,ZpP hk h2 hS⟩
    .refine⟨fX σ ρ m w,hG,Zs0 hk h2 hS⟩
   obtain⟨G',g1,v,a,g2,g3,g4⟩:=hP;exact⟨v,.inl ⟨h1,fun w' HK=>g2 w' (g1 w' HK)⟩,⟨_,ρ,m,g4,hS.oV e3 g3⟩,_,g4,LH a,hS.oV e3 g3⟩
 .exact⟨undef,.inr ⟨h1,rfl⟩,⟨_,ρ,m,h2,hS.oV e3 WM⟩,_,h2,LH _,hS.oV e3 WM⟩
theorem fX.Xt {w w' YL:World}(hS:Sat N w0 m0 pl σ ρ m act w)(h:fX σ ρ m w w')(k:Ext w' YL):fX σ ρ m w YL:=
 ⟨h.1.trans k.le,fun s b hs hr=>by
  have h1:=h.2 s b hs hr;have aJ:=hS.lt hs hr;refine(k.block _ ?_).trans h1;rcases Nat.lt_or_ge (ρ s).b w'.heap.size with h2|h2
  .exact h2
  .rw[Array.getElem?_eq_none h2,uV aJ]at h1;cases h1⟩
theorem XP (kX:FW ops=true):∀(l:List (Nat×Bool)) (qL:List LO) {σ:AS} {ρ:Site->Loc} {m:Mem} {act:Act} {w:World},rK P ops l=true->kV P N ops (l.map fun p=>(C4 P ops p.1,ops.getD p.1 default))=some qL->
  oI P qL K σ->Sat N w0 m0 pl σ ρ m act w->(∀bE w',G1 N w0 m0 pl K bE w'->Q .normal bE w')->WN ro P ops Q (R5 P ops) (xS P) l act w
 |[],qL,σ,ρ,m,act,w,hk,hl,h,hS,hQ=>by
  simp[kV]at hl;subst hl;exact hQ _ _ ⟨σ,ρ,m,h,hS⟩
 |(i,b)::r,qL,σ,ρ,m,act,w,hk,hl,h,hS,hQ=>by
  simp only[iN]at hl;unfold kV at hl;split at hl
  .rename_i a l h1 h2;cases hl;cases b with
   |false=>
    simp only[rK,dK]at hk;cases ho:ops[i]? with
    |none=>rw[ho]at hk;simp at hk
    |some o=>
     rw[ho]at hk;have hg:ops.getD i default=o:=by simp[Array.getD_eq_getD_getElem?,ho]
     rw[hg]at h1;have hZ:=hk.1;simp only[rT]at hZ;cases bU:xS P o with
     |true=>
      obtain⟨v,k1,⟨τ,bW,m',k2,k3⟩,_⟩:=KD (G:=fun _=>True) h1 h hS (.inl bU);exact⟨o,v,fun _=>True,fun _ _ _ _=>trivial,fun _ _=>trivial,trivial,ho,k1,XP kX r l hk.2 h2 k2 k3 hQ⟩
     |false=>
      have HV:(bA P o.op).FO=true:=by
       rcases hZ with hZ|hZ
       .rw[bU]at hZ;cases hZ
       .exact hZ
      obtain⟨v,k1,⟨τ,bW,m',k2,k3⟩,_⟩:=KD (G:=fX σ ρ m w) h1 h hS (.inr ⟨HV,fun _ h=>h⟩);exact⟨o,v,fX σ ρ m w,fun _ _ hs hx=>fX.Xt hS hs hx,(fun e=>by rw[bU]at e;cases e),.refl hS,ho,k1,XP kX r l hk.2 h2 k2 k3 hQ⟩
   |true=>
    simp only[rK,dK]at hk;cases ho:ops[i]? with
    |none=>rw[ho]at hk;simp at hk
    |some o=>
     have hg:ops.getD i default=o:=by simp[Array.getD_eq_getD_getElem?,ho]
     rw[hg]at h1;show wpOpIn (FF ro) 1 P ops Q i _ act w;unfold wpOpIn;simp only[ho];rcases Gt h1 h hS with⟨q1,q2⟩|⟨q1,q2⟩
     .rw[if_pos q1];cases bU:xS P o with
      |true=>
       obtain⟨v,k1,⟨τ,bW,m',k2,k3⟩,_⟩:=KD (G:=fun _=>True) h1 h hS (.inl bU);rcases k1 with⟨_,k1⟩|⟨k1,_⟩
       .unfold Oper.wpIn;refine⟨fun _ _=>trivial,?_⟩;rw[Oper.semAt_eq _ _ _ (XV kX ho),k1 w trivial,Oper.uponIn_value];exact⟨fun _=>Ext.tI _,XP kX r l hk.2 h2 k2 k3 hQ⟩
       .rw[k1]at q1;cases q1
      |false=>
       have K8:iS (R5 P ops) ops i=true->o.op.vS=true\/((bA P o.op).NO=true/\C4 P ops i=false)\/(sV ops (bA P o.op)).JQ=true:=fun sP=>by
        unfold iS at sP;rw[ho]at sP;unfold R5 at sP;unfold xS at bU;simp only[bU,Bool.or_false,rT]at sP;rcases sP with(h'|h')|h'
        .exact .inl h'
        .simp only[dK,Bool.not_eq_true']at h';exact .inr (.inl h')
        .exact .inr (.inr h')
       exact Oper.wpIn_mono (fun bE w' ⟨⟨τ,bW,m',k2,k3⟩,k4⟩=>⟨fun sP=>k4 (K8 sP),XP kX r l hk.2 h2 k2 k3 hQ⟩) (Mc h1 q2 hS)
     .rw[if_neg (by rw[q1];simp)];exact⟨fun _ _=>trivial,fun _=>Ext.tI _,XP kX r l hk.2 h2 q2 (hS.oV (EH h1).2.2.2.1 WM) hQ⟩
  .cases hl
theorem Znb {id:Nat}{draw:Bool}{qL:List LO}(hm:P.follows .mixedOrders=true)(hl:BN P N ops draw=some qL)(h:oI P qL K σ)(hS:Sat N w0 m0 pl σ ρ m act w)(hQ:∀bE w',G1 N w0 m0 pl K bE w'->Q .normal bE w')
  (hp:∀c (a:Act) (d:Tmp) (v:Value) w,Q (.panic c) (a.put (some d) v) w->Q (.panic c) a w):(Code.region id ops draw).wpIn (FF ro) 1 P Q act w:=by
 unfold BN at hl;split at hl
 .rename_i hd;subst hd;dsimp only at hl;split at hl
  .rename_i hc;simp only[dK,decide_eq_true_eq]at hc;obtain⟨⟨⟨⟨c1,Em⟩,c2⟩,c3⟩,c4⟩:=hc;have Vr:Sat N w0 m0 pl σ ρ m act w.drew:=hS.ext (Ext.dr w);exact Zdk _ _ _ hm hp c1 Em c2 c3 (XP Em _ qL c4 hl h Vr hQ)
  .cases hl
 .rename_i hd
  have:draw=false:=by simpa using hd
  subst this;exact wpIn_region_list (Zgv _ qL hl h hS hQ)
end
inductive RT where
 |done
 |rd (i:Nat) (t:RT)
 |ef (i:Nat) (t alt:RT)
 |no
 |seq (t r:RT)
 deriving Inhabited
def RT.flat:RT->RT->RT
 |.done,r=>r
 |.rd i t,r=>.rd i (t.flat r)
 |.ef i t alt,r=>.ef i (t.flat r) (alt.flat r)
 |.no,_=>.no
 |.seq t u,r=>t.flat (u.flat r)
def UA (ro:Option Nat)(P:Program)(ops:Array Oper)(Q:Exit->Act->World->Prop)(soft:Nat->Oper->Bool)(still:Oper->Bool):RT->Act->World->Prop
 |.done,a,w=>Q .normal a w
 |.rd i t,a,w=>∃o v,∃S':World->Prop,(∀w w',S' w->Ext w w'->S' w')/\(still o=true->∀w,S' w)/\S' w/\ops[i]?=some o/\YieldsIf P ops S' o v a/\UA ro P ops Q soft still t (a.put o.dst v) w
 |.ef i t alt,a,w=>wpOpIn (FF ro) 1 P ops Q i (fun a' w'=>(iS soft ops i=true->Ext w w')/\UA ro P ops Q soft still t a' w') a w/\UA ro P ops Q soft still alt a w
 |.no,_,_=>True
 |.seq _ _,_,_=>False
def rG (md:Region.Mode)(ops:Array Oper)(soft:Nat->Oper->Bool)(still:Oper->Bool):RT->Nat->Array Bool->Option (List Nat)->Bool
 |.done,_,aI,none=>(Region.ready md ops aI).isEmpty
 |.rd i t,n+1,aI,none=>(Region.ready md ops aI).contains i&&Region.free md ops aI i&&
   ((match ops[i]? with|some o=>still o|none=>false)||(List.range ops.size).all fun j=>aI.getD j true||j==i||iS soft ops j||waits md ops ops.size j i)&&rG md ops soft still t n (aI.setIfInBounds i true) none
 |.ef i t alt,n+1,aI,rem=>match rem.getD (Region.ready md ops aI)with
  |j::r=>j==i&&rG md ops soft still t n (aI.setIfInBounds i true) none&&rG md ops soft still alt (n+1) aI (some r)
  |[]=>false
 |.no,_,_,some []=>true
 |_,_,_,_=>false
section
variable {P:Program}{ops:Array Oper}{Q:Exit->Act->World->Prop}{md:Region.Mode}{ro:Option Nat}{soft:Nat->Oper->Bool}{still:Oper->Bool}
theorem Zgk (hs:Region.noSelect ops=true)(N6:FW ops=true)(hQ:∀c (a:Act) (d:Tmp) (v:Value) w,Q (.panic c) (a.put (some d) v) w->Q (.panic c) a w):∀(T:RT) (n:Nat) (aI:Array Bool) (rem:Option (List Nat)) (a:Act) (w:World),aI.size=ops.size->Down md ops aI->
  (∀r,rem=some r->∀i∈r,i∈Region.ready md ops aI)->rG md ops soft still T n aI rem=true->UA ro P ops Q soft still T a w->
  match rem with
  |none=>JW ro P md ops Q soft n aI a w
  |some r=>∃n',(r=[]\/n=n'+1)/\∀i∈r,wpOpIn (FF ro) 1 P ops Q i (fun a' w'=>(iS soft ops i=true->Ext w w')/\JW ro P md ops Q soft n' (aI.setIfInBounds i true) a' w') a w:=by
 intro T;induction T with
 |done=>
  intro n aI rem a w fI hD CE hB h;cases rem with
  |some r=>simp[rG]at hB
  |none=>
   have hr:Region.ready md ops aI=[]:=by simpa[rG]using hB
   cases n with
   |zero=>exact⟨hr,h⟩
   |succ n=>exact⟨fun _=>h,fun i hi=>by rw[hr]at hi;cases hi⟩
 |rd i t ih=>
  intro n aI rem a w fI hD CE hB h;cases rem with
  |some r=>cases n<;>simp[rG]at hB
  |none=>
   cases n with
   |zero=>simp[rG]at hB
   |succ n=>
    simp only[rG,dK]at hB;obtain⟨o,v,S',hx,bU,Vo,ho,hy,h'⟩:=h;have hr:i∈Region.ready md ops aI:=by simpa using hB.1.1.1
    have DG:=hB.1.2;rw[ho]at DG;simp only[rT]at DG;exact ZeL hx ho (Region.noSelect_spec hs) N6 (fun c a w k=>by
     cases hd:o.dst with
     |none=>rw[hd]at k;exact k
     |some d=>rw[hd]at k;exact hQ c a d v w k) n aI a w hD (by
     rcases DG with h1|h1
     .exact .inl (bU h1)
     .refine .inr (fun j hj zQ CD=>?_);have aJ:j<ops.size:=by
       rcases Nat.lt_or_ge j aI.size with h2|h2
       .omega
       .simp[Array.getElem?_eq_none h2]at hj
      have:=rA.1 h1 j (List.mem_range.2 aJ)
      simp only[rT,beq_iff_eq]at this;rcases this with((h3|h3)|h3)|h3
      .rw[hj]at h3;cases h3
      .exact absurd h3 zQ
      .rw[CD]at h3;cases h3
      .exact h3) (Region.free_spec ho hB.1.1.2) hr hy Vo (ih n _ none _ _ (by simpa using fI) (hD.set hr) (fun r e=>by cases e) hB.2 h')
 |ef i t alt iht S6=>
  intro n aI rem a w fI hD CE hB h;cases n with
  |zero=>cases rem<;>simp[rG]at hB
  |succ n=>
   simp only[rG]at hB;split at hB
   .rename_i j r hj;simp only[dK,beq_iff_eq]at hB;obtain⟨⟨rfl,r5⟩,DG⟩:=hB;have eU:∀k∈j::r,k∈Region.ready md ops aI:=by
     cases rem with
     |none=>rw[show Option.getD none (Region.ready md ops aI)=Region.ready md ops aI from rfl]at hj;rw[hj];exact fun k hk=>hk
     |some r'=>rw[show Option.getD (some r') (Region.ready md ops aI)=r' from rfl]at hj;rw[<-hj];exact CE r' rfl
    have hr:j∈Region.ready md ops aI:=eU j (by simp);obtain⟨n',h1,h2⟩:=S6 (n+1) aI (some r) a w fI hD (fun r' e k hk=>by cases e;exact eU k (by simp[hk])) DG h.2;have p4:wpOpIn (FF ro) 1 P ops Q j (fun a' w'=>(iS soft ops j=true->Ext w w')/\JW ro P md ops Q soft n (aI.setIfInBounds j true) a' w') a w:=
     wpOpIn_mono (fun a' w' k=>⟨k.1,iht n _ none _ _ (by simpa using fI) (hD.set hr) (fun r e=>by cases e) r5 k.2⟩) h.1
    have MG:∀k∈j::r,wpOpIn (FF ro) 1 P ops Q k (fun a' w'=>(iS soft ops k=true->Ext w w')/\JW ro P md ops Q soft n (aI.setIfInBounds k true) a' w') a w:=fun k hk=>by
     rcases jO.1 hk with rfl|hk
     .exact p4
     .rcases h1 with h1|h1
      .rw[h1]at hk;cases hk
      .have:n'=n:=by omega
       rw[<-this];exact h2 k hk
    cases rem with
    |none=>
     rw[show Option.getD none (Region.ready md ops aI)=Region.ready md ops aI from rfl]at hj;exact⟨fun e=>(by rw[hj]at e;cases e),fun k hk=>MG k (by rw[<-hj];exact hk)⟩
    |some r'=>
     rw[show Option.getD (some r') (Region.ready md ops aI)=r' from rfl]at hj;subst hj;exact⟨n,.inr rfl,MG⟩
   .cases hB
 |no=>
  intro n aI rem a w fI hD CE hB h;cases rem with
  |none=>cases n<;>simp[rG]at hB
  |some r=>
   cases r with
   |nil=>exact⟨0,.inl rfl,fun i hi=>by cases hi⟩
   |cons x r=>cases n<;>simp[rG]at hB
 |seq t r _ _=>intro n aI rem a w fI hD CE hB h;exact h.elim
inductive LT where
 |done
 |op (o:LO) (t:LT)
 |alt (o:LO) (t r:LT)
 |no
 |seq (t r:LT)
 deriving Inhabited
def EJ (τ σ:AS):Prop:=(∀t a,τ.t t=some a->σ.t t=some a)/\∀s b,τ.b s=some b->σ.b s=some b
def Sub (τ σ:AS):Prop:=∀(N:Nat) (w0:World) (m0:Env w0) (pl:List Nat) (ρ:Site->Loc) (m:Mem) (act:Act) (w:World),Sat N w0 m0 pl σ ρ m act w->∃bW m',Sat N w0 m0 pl τ bW m' act w
theorem EJ.sub {τ σ:AS}(h:EJ τ σ):Sub τ σ:=fun _ _ _ _ ρ m _ _ hS=>⟨ρ,m,hS.ZxZ (fun t a k=>.inl (h.1 t a k)) h.2⟩
theorem Sub.ZxS (σ:AS):Sub σ σ:=fun _ _ _ _ ρ m _ _ hS=>⟨ρ,m,hS⟩
theorem Sub.trans' {a b c:AS}(h:Sub a b)(k:Sub b c):Sub a c:=fun N w0 m0 pl ρ m act w hS=>let ⟨bW,m',h1⟩:=k N w0 m0 pl ρ m act w hS;h N w0 m0 pl bW m' act w h1
def vM (P:Program):LT->(AS->Prop)->AS->Prop
 |.done,K,σ=>K σ
 |.op o t,K,σ=>pL P o (vM P t K) σ
 |.alt o t r,K,σ=>pL P o (vM P t K) σ/\vM P r K σ
 |.no,_,_=>True
 |.seq t r,K,σ=>∃J:AS->Prop,vM P t (fun zF=>∃τ,Sub τ zF/\J τ) σ/\∀τ,J τ->vM P r K τ
def vX (P:Program)(N:Nat)(ops:Array Oper):RT->Option LT
 |.done=>some .done
 |.rd i t=>match ops[i]?,vX P N ops t with
  |some o,some t'=>if(xS P o||(bA P o.op).FO)=true then(qM P N ops (C4 P ops i) o).map (.op · t')else none
  |_,_=>none
 |.ef i t alt=>match ops[i]?,vX P N ops t,vX P N ops alt with
  |some o,some t',some r'=>(qM P N ops (C4 P ops i) o).map (.alt · t' r')
  |_,_,_=>none
 |.no=>some .no
 |.seq t r=>match vX P N ops t,vX P N ops r with
  |some t',some r'=>some (.seq t' r')
  |_,_=>none
def hoist (P:Program)(ops:Array Oper)(aI:Array Bool):Option Nat:=
 match(Region.ready .any ops aI).find? fun i=>match ops[i]? with
   |some o=>xS P o
   |none=>false with
 |some i=>some i
 |none=>(Region.ready .any ops aI).find? fun i=>match ops[i]? with
   |some o=>(bA P o.op).FO&&(List.range ops.size).all fun j=>aI.getD j true||j==i||iS (R5 P ops) ops j||waits .any ops ops.size j i
   |none=>false
def Yt (P:Program)(ops:Array Oper):Nat->Array Bool->List Nat->RT
 |0,_,_=>.done
 |f+1,aI,S=>if S.all (fun i=>aI.getD i true)then .done else match hoist P ops aI with
  |some i=>.rd i (Yt P ops f (aI.setIfInBounds i true) S)
  |none=>(Region.ready .any ops aI).foldr (fun i alt=>.ef i (Yt P ops f (aI.setIfInBounds i true) S) alt) .no
def JE (ops:Array Oper)(aI:Array Bool):List Nat:=
 let un:=(List.range ops.size).filter fun i=>!aI.getD i true
 match un.find? fun b=>un.any (fun i=>waits .any ops ops.size b i)&&un.all fun i=>i==b||waits .any ops ops.size b i||waits .any ops ops.size i b with
 |some b=>un.filter fun i=>waits .any ops ops.size b i
 |none=>un
def Z8 (P:Program)(ops:Array Oper):Nat->Array Bool->RT
 |0,_=>.done
 |f+1,aI=>match hoist P ops aI with
  |some i=>.rd i (Z8 P ops f (aI.setIfInBounds i true))
  |none=>match Region.ready .any ops aI with
   |[]=>.done
   |[i]=>.ef i (Z8 P ops f (aI.setIfInBounds i true)) .no
   |_=>
    let S:=JE ops aI
    .seq (Yt P ops ops.size aI S) (Z8 P ops f (S.foldl (fun l i=>l.setIfInBounds i true) aI))
def BM (P:Program)(N:Nat)(ops:Array Oper):Option LT:=
 let T:=Z8 P ops (ops.size+1) (Array.replicate ops.size false)
 if(Region.noSelect ops&&FW ops&&rG .any ops (R5 P ops) (xS P) (T.flat .done) ops.size (Array.replicate ops.size false) none)=true then vX P N ops T else none
end
section
variable {P:Program}{N:Nat}{w0:World}{m0:Env w0}{pl:List Nat}{σ:AS}{ρ:Site->Loc}{m:Mem}{act:Act}{w:World}{ops:Array Oper}{Q:Exit->Act->World->Prop}{ro:Option Nat}
theorem KO (kX:FW ops=true):∀(T:RT) (T':LT) (rest:RT) {J:AS->Prop} {σ:AS} {ρ:Site->Loc} {m:Mem} {act:Act} {w:World},vX P N ops T=some T'->vM P T' J σ->Sat N w0 m0 pl σ ρ m act w->
  (∀bE w',G1 N w0 m0 pl J bE w'->UA ro P ops Q (R5 P ops) (xS P) rest bE w')->UA ro P ops Q (R5 P ops) (xS P) (T.flat rest) act w
 |.done,T',rest,J,σ,ρ,m,act,w,hl,h,hS,hQ=>by
  simp[vX]at hl;subst hl;exact hQ _ _ ⟨σ,ρ,m,h,hS⟩
 |.no,T',rest,J,σ,ρ,m,act,w,hl,h,hS,hQ=>trivial
 |.seq t u,T',rest,J,σ,ρ,m,act,w,hl,h,hS,hQ=>by
  simp only[vX]at hl;split at hl
  .rename_i t' r' h1 h2;cases hl;obtain⟨J',h3,h4⟩:=h;exact KO kX t t' (u.flat rest) h1 h3 hS (fun bE w' ⟨τ,bW,m',⟨R7,k0,k1⟩,k2⟩=>let ⟨ON,m2,k3⟩:=k0 _ _ _ _ _ _ _ _ k2;KO kX u r' rest h2 (h4 R7 k1) k3 hQ)
  .cases hl
 |.rd i t,T',rest,J,σ,ρ,m,act,w,hl,h,hS,hQ=>by
  simp only[vX]at hl;split at hl
  .rename_i o t' ho h2;split at hl
   .rename_i hZ;obtain⟨lo,h1,rfl⟩:=eA.1 hl;simp only[rT]at hZ;cases bU:xS P o with
    |true=>
     obtain⟨v,k1,⟨τ,bW,m',k2,k3⟩,_⟩:=KD (G:=fun _=>True) h1 h hS (.inl bU);exact⟨o,v,fun _=>True,fun _ _ _ _=>trivial,fun _ _=>trivial,trivial,ho,k1,KO kX t t' rest h2 k2 k3 hQ⟩
    |false=>
     have HV:(bA P o.op).FO=true:=by
      rcases hZ with hZ|hZ
      .rw[bU]at hZ;cases hZ
      .exact hZ
     obtain⟨v,k1,⟨τ,bW,m',k2,k3⟩,_⟩:=KD (G:=fX σ ρ m w) h1 h hS (.inr ⟨HV,fun _ h=>h⟩);exact⟨o,v,fX σ ρ m w,fun _ _ hs hx=>fX.Xt hS hs hx,(fun e=>by rw[bU]at e;cases e),.refl hS,ho,k1,KO kX t t' rest h2 k2 k3 hQ⟩
   .cases hl
  .cases hl
 |.ef i t alt,T',rest,J,σ,ρ,m,act,w,hl,h,hS,hQ=>by
  simp only[vX]at hl;split at hl
  .rename_i o t' r' ho h2 h3;obtain⟨lo,h1,rfl⟩:=eA.1 hl;obtain⟨ha,hb⟩:=h;refine⟨?_,KO kX alt r' rest h3 hb hS hQ⟩;show wpOpIn (FF ro) 1 P ops Q i _ act w;unfold wpOpIn;simp only[ho];rcases Gt h1 ha hS with⟨q1,q2⟩|⟨q1,q2⟩
   .rw[if_pos q1];cases bU:xS P o with
    |true=>
     obtain⟨v,k1,⟨τ,bW,m',k2,k3⟩,_⟩:=KD (G:=fun _=>True) h1 ha hS (.inl bU);rcases k1 with⟨_,k1⟩|⟨k1,_⟩
     .unfold Oper.wpIn;refine⟨fun _ _=>trivial,?_⟩;rw[Oper.semAt_eq _ _ _ (XV kX ho),k1 w trivial,Oper.uponIn_value];exact⟨fun _=>Ext.tI _,KO kX t t' rest h2 k2 k3 hQ⟩
     .rw[k1]at q1;cases q1
    |false=>
     have K8:iS (R5 P ops) ops i=true->o.op.vS=true\/((bA P o.op).NO=true/\C4 P ops i=false)\/(sV ops (bA P o.op)).JQ=true:=fun sP=>by
      unfold iS at sP;rw[ho]at sP;unfold R5 at sP;unfold xS at bU;simp only[bU,Bool.or_false,rT]at sP;rcases sP with(h'|h')|h'
      .exact .inl h'
      .simp only[dK,Bool.not_eq_true']at h';exact .inr (.inl h')
      .exact .inr (.inr h')
     exact Oper.wpIn_mono (fun bE w' ⟨⟨τ,bW,m',k2,k3⟩,k4⟩=>⟨fun sP=>k4 (K8 sP),KO kX t t' rest h2 k2 k3 hQ⟩) (Mc h1 q2 hS)
   .rw[if_neg (by rw[q1];simp)];exact⟨fun _ _=>trivial,fun _=>Ext.tI _,KO kX t t' rest h2 q2 (hS.oV (EH h1).2.2.2.1 WM) hQ⟩
  .cases hl
theorem Znc {id:Nat}{K:AS->Prop}{T':LT}(hm:P.follows .mixedOrders=true)(hl:BM P N ops=some T')(h:vM P T' K σ)(hS:Sat N w0 m0 pl σ ρ m act w)(hQ:∀bE w',G1 N w0 m0 pl K bE w'->Q .normal bE w')
  (hp:∀c (a:Act) (d:Tmp) (v:Value) w,Q (.panic c) (a.put (some d) v) w->Q (.panic c) a w):(Code.region id ops true).wpIn (FF ro) 1 P Q act w:=by
 unfold BM at hl;dsimp only at hl;split at hl
 .rename_i hc;simp only[dK]at hc;obtain⟨⟨c1,c2⟩,c3⟩:=hc;refine wpIn_region_any hm (Zej (soft:=R5 P ops) _ _ _ _ ?_);exact Zgk (soft:=R5 P ops) (still:=xS P) c1 c2 hp _ _ _ none _ _ (by simp) (Down.start _) (fun r e=>by cases e) c3 (KO c2 _ T' .done hl h (hS.ext (Ext.dr w)) hQ)
 .cases hl
end
inductive bD where
 |skip
 |region (ops:List LO)
 |seq (a b:bD)
 |cond (c:bB) (a b:bD)
 |block (id:Nat) (c:bD)
 |loop (c:bD)
 |exit (id:Nat)
 |ret
 |jH (t:LT)
 |vH (nt:Nat) (g:bB) (C:Code×Code) (la lb:bD) (ps:List Nat)
 deriving Inhabited
def dQ (P:Program)(N:Nat):Code->Option bD
 |.skip=>some .skip
 |.region _ ops draw=>match BN P N ops draw with
  |some l=>some (.region l)
  |none=>if draw=true then(BM P N ops).map .jH else none
 |.seq a b=>match dQ P N a,dQ P N b with
  |some x,some y=>some (.seq x y)
  |_,_=>none
 |.cond c a b=>match aV c,dQ P N a,dQ P N b with
  |some c,some x,some y=>some (.cond c x y)
  |_,_,_=>none
 |.block id c=>(dQ P N c).map (.block id)
 |.loop c=>(dQ P N c).map .loop
 |.exit id=>some (.exit id)
 |.ret=>some .ret
 |.scope c=>dQ P N c
 |.label _=>some .skip
 |.rangeFunc g ps a b=>match aV g,dQ P N a,dQ P N b with
  |some g,some la,some lb=>some (.vH N g (a,b) la lb ps.toList)
  |_,_,_=>none
 |_=>none
inductive sA where
 |normal
 |exit (id:Nat)
 |ret
 deriving DecidableEq
def iR (K:AS->Prop)(Q:sA->AS->Prop):sA->AS->Prop
 |.normal,σ=>K σ
 |e,σ=>Q e σ
def j4 (id:Nat)(Q:sA->AS->Prop):sA->AS->Prop
 |.exit LY,σ=>if LY=id then Q .normal σ else Q (.exit LY) σ
 |e,σ=>Q e σ
def kW (Q:sA->AS->Prop):Option Code->AS->Prop
 |none,σ=>Q .normal σ
 |some .ret,σ=>Q .ret σ
 |some (.exit id),σ=>Q (.exit id) σ
 |_,_=>False
def Zuq (P:Program)(nt:Nat)(g:bB)(C:Code×Code)(ps:List Nat)(Q:sA->AS->Prop)(σ:AS):Prop:=
 ∃(fz aF:List Site) (tm:List (Nat×AV)) (lK:AS) (gf:FuncId) (fs cs:List AV) (B:List (Site×aK)),
  (∀t a,tm.lookup t=some a->((aM fz σ).bG nt).t t=some a)/\lK=((aM fz σ).bG nt).add (.loc nt 0) (.loop C ps nt tm none)/\
  (lK.o g=.fn gf fs cs\/∃tE iI,lK.o g=.pv (.fn gf tE iI)/\fs=tE.map .pv/\cs=iI.map .pv)/\aF.Nodup/\aF.all (fun s=>!s.fQ (nt+1))=true/\oW lK aF 0 aF=some B/\
  AV.gW (fun x=>aF.contains x) (fs++[.nK (.loc nt 0)]++cs)=true/\
  cN P gf (AV.iO (jZ aF) (fs++[.nK (.loc nt 0)]++cs)) B (fun r B'=>r.dC (bY aF)=true/\(∀p∈B',bY aF p.1=true/\p.2.dC (bY aF)=true)/\
   match(((cK aF lK).bG (nt+1)).lU (fA aF (nt+1) B')).b (.loc nt 0)with
   |some (.loop _ _ _ _ st)=>kW Q st ((((cK aF lK).bG (nt+1)).lU (fA aF (nt+1) B')).drop (.loc nt 0))
   |_=>False)
def J6 (P:Program)(nt:Nat)(g:bB)(C:Code×Code)(ps:List Nat)(Q:sA->AS->Prop)(σ:AS):Prop:=∃τ,Sub τ σ/\Zuq P nt g C ps Q τ
def uE (P:Program):bD->(sA->AS->Prop)->AS->Prop
 |.skip,Q,σ=>Q .normal σ
 |.region ops,Q,σ=>oI P ops (Q .normal) σ
 |.jH t,Q,σ=>vM P t (Q .normal) σ
 |.seq a b,Q,σ=>uE P a (iR (uE P b Q) Q) σ
 |.cond c a b,Q,σ=>match σ.o c with
  |.pv (.bool t)=>if t=true then uE P a Q σ else uE P b Q σ
  |_=>False
 |.block id c,Q,σ=>uE P c (j4 id Q) σ
 |.loop c,Q,σ=>∃(I:Nat->AS->Prop) (n:Nat) (τ:AS),Sub τ σ/\I n τ/\∀n τ,I n τ->uE P c (iR (fun zF=>∃k R7,k<n/\Sub R7 zF/\I k R7) Q) τ
 |.exit id,Q,σ=>Q (.exit id) σ
 |.ret,Q,σ=>Q .ret σ
 |.vH nt g C _ _ ps,Q,σ=>J6 P nt g C ps Q σ
section
variable {P:Program}{N:Nat}{w0:World}{m0:Env w0}{pl:List Nat}{σ:AS}{ρ:Site->Loc}{m:Mem}{act:Act}{w:World}
def nW (N:Nat)(w0:World)(m0:Env w0)(pl:List Nat)(Q:sA->AS->Prop):Exit->Act->World->Prop
 |.normal,a,w=>G1 N w0 m0 pl (Q .normal) a w
 |.exit id,a,w=>G1 N w0 m0 pl (Q (.exit id)) a w
 |.ret,a,w=>G1 N w0 m0 pl (Q .ret) a w
 |_,_,_=>False
theorem XU {b:Frame}{a:Act}{k:List Item}{cs:List Frame}{c:Code}:step P (lone (b.atR a (.code (.scope c)::k)) cs w)=.next (lone (b.atR a (.code c::.inScope c::k)) cs w):=
 step_lone_go (by simp[stepG,stepG.exec,Frame.atR])
theorem Zg6 {b:Frame}{a:Act}{k:List Item}{cs:List Frame}{c:Code}:step P (lone (b.atR a (.inScope c::k)) cs w)=.next (lone (b.atR a k) cs w):=
 step_lone_go (by simp[stepG,stepG.exec,Frame.atR])
theorem ZbW {F:Fence}{n:Nat}{a:Act}{Q:Exit->Act->World->Prop}{c:Code}(h:c.wpIn F n P (Exit.noGoto Q) a w):(Code.scope c).wpIn F n P Q a w:=by
 intro b k cs PU hb hr;have h0:(lone (b.atR a (.code (.scope c)::k)) cs w).fenced P F:=fenced_calm hb hr rfl;obtain⟨e,DQ,AQ,hq,r4⟩:=h b (.inScope c::k) cs PU hb hr;cases e with
 |normal=>exact⟨.normal,DQ,AQ,hq,.head h0 XU (StepsIn.trans r4 (.one (fenced_calm hb hr rfl) Zg6))⟩
 |exit id=>
  have hx:exitTo id (.inScope c::k)=exitTo id k:=by simp[exitTo]
  exact⟨_,DQ,AQ,hq,fun k' hk=>.head h0 XU (r4.1 k' (by rw[hx];exact hk)),
   fun wG hk=>let ⟨k₁,h1,h2⟩:=r4.2 wG (by rw[hx];exact hk);⟨k₁,h1,.head h0 XU h2⟩⟩
 |goto l=>exact hq.elim
 |ret=>exact⟨_,DQ,AQ,hq,.of_steps (.one h0 XU) r4⟩
 |panic ch=>exact⟨_,DQ,AQ,hq,.of_steps (.one h0 XU) r4⟩
 |outgrown=>exact⟨_,DQ,AQ,hq,.of_steps (.one h0 XU) r4⟩
def kF:Code->Bool
 |.seq a b=>kF a&&kF b
 |.cond _ a b=>kF a&&kF b
 |.block _ c=>kF c
 |.loop c=>kF c
 |.scope c=>kF c
 |.rangeFunc _ _ _ _=>false
 |_=>true
theorem Mu {a b:Code}(h:kF (.seq a b)=true):kF a=true/\kF b=true:=by simpa[kF]using h
theorem Nx {c:Operand}{a b:Code}(h:kF (.cond c a b)=true):kF a=true/\kF b=true:=by simpa[kF]using h
theorem ZnM {g:Operand}{ps:Array Tmp}{a b:Code}{t:Bool}(h:t=true->kF (.rangeFunc g ps a b)=true):t=false:=by
 cases t with
 |false=>rfl
 |true=>have:=h rfl;simp[kF]at this
def Fu (ro:Option Nat)(w0:World)(pl:List Nat):Prop:=∀l,ro=some l->(∃r,w0.heap[l]?=some (.loop r))/\l∉pl
theorem Ic (w:World)(l:Nat)(o:Obj):cV [l] w (w.putObj l o):=⟨rfl,rfl,rfl,by simp,fun k hk hn=>World.putObj_heap_other (by simpa using hn)⟩
theorem Zic {ro:Option Nat}(PU:Fu ro w0 pl){g:Operand}{ps:Array Tmp}{a b:Code}{g':bB}(hg:aV g=some g'){Q:sA->AS->Prop}(h:J6 P N g' (a,b) ps.toList Q σ)(hS:Sat N w0 m0 pl σ ρ m act w)(sP:m0.strict=false):
  (Code.rangeFunc g ps a b).wpIn (FF ro) 1 P (nW N w0 m0 pl Q) act w:=by
 obtain⟨σ,kG,fz,aF,tm,lK,gf,fs,cs,B,y0,Ru,qC,pZ,sR,hB,eU,hC⟩:=h;obtain⟨ρ,m,hS⟩:=kG _ _ _ _ _ _ _ _ hS;obtain⟨m1,_,hF0⟩:=hS.aM fz;have MY:=hF0.bG N;have hND:=qW.bG N (aM fz σ);refine wpIn_rangeFunc (fun fn _=>?_);obtain⟨l,mark,w1,ds,T8,hmk,q8,QX,X4,oY,IK,M7⟩:∃(l:Nat) (mark:List Deferred) (w1:World) (ds:List Nat),(Instr.enterLoop fn act.tmps ps a b (FF ro).round).run P w=.ok (l,mark) w1/\mark=ds.map WT/\ds.Nodup/\
   (∀D∈ds,w.heap.size<=D/\w1.heap[D]?=some (.deferred (some [])))/\Ext w w1/\w.heap.size<=l/\(∃r:Loop,w1.heap[l]?=some (.loop r)/\r.state=.ready/\r.pending=none/\r.params=ps/\r.assign=a/\r.body=b/\r.tmps=act.tmps)/\True:=by
  cases ro with
  |none=>
   refine⟨_,_,_,[w.heap.size],run_enterLoop_outer _ _ _ _ _,rfl,by simp,fun D hD=>?_,(Ext.al w _).trans' (Ext.al _ _),by omega,⟨{ state:=.ready,pending:=none,fn,tmps:=act.tmps,params:=ps,assign:=a,body:=b,defers:=w.heap.size },?_,rfl,rfl,rfl,rfl,rfl,rfl⟩,trivial⟩
   .simp at hD;subst hD;refine⟨fH _,?_⟩;exact(Below.heap_alloc _ _ _ (by simp)).trans (World.alloc_heap_new w _)
   .have:=World.alloc_heap_new (w.alloc (.deferred (some []))) (.loop { state:=.ready,pending:=none,fn,tmps:=act.tmps,params:=ps,assign:=a,body:=b,defers:=w.heap.size })
    rwa [World.size_alloc]at this
  |some l0=>
   obtain⟨⟨r0,EV⟩,y4⟩:=PU l0 rfl;have D3:w.heap[l0]?=some (.loop r0):=(hS.keep.block l0 (qF.1 EV).1 y4).trans EV;refine⟨_,_,_,[],run_enterLoop_inner D3 _ _ _ _ _,rfl,by simp,(fun D hD=>by cases hD),Ext.al w _,fH _,⟨{ state:=.ready,pending:=none,fn,tmps:=act.tmps,params:=ps,assign:=a,body:=b,defers:=r0.defers },World.alloc_heap_new w _,rfl,rfl,rfl,rfl,rfl,rfl⟩,trivial⟩
 obtain⟨r,D3,D0,Z1,hr4,hr5,VA,hr7⟩:=IK
 let yV:Act:={ act with defers:=mark++act.defers }
 have hF2:Sat N w0 m0 pl ((aM fz σ).bG N) ρ m1 yV w1:=by
  have k:=MY.ext X4;obtain⟨Wq,⟨d1,d2,g3,g1⟩,g0,FD⟩:=MY.sC;have g2:∀D∈Wq,(w0.heap.size<=D\/D∈pl)/\w1.heap[D]?=some (.deferred (some [])):=fun D hD=>⟨(FD D hD).1,by rw[X4.block _ (qF.1 (FD D hD).2).1];exact(FD D hD).2⟩
  exact⟨⟨ds++Wq,⟨ds++d1,d2,by rw[g3,I2],by show mark++act.defers=_;rw[hmk,g1,mH];simp only[I2]⟩,⟨List.nodup_append.2 ⟨q8,g0.1,fun a ha b hb e=>by
   have h1:=(QX a ha).1;have h2:=(qF.1 (FD b hb).2).1
   omega⟩,fun e=>by rw[sP]at e;cases e⟩,fun D hD=>by
   rcases sG.1 hD with hD|hD
   .exact⟨.inl (lJ hS.keep.size (QX D hD).1),(QX D hD).2⟩
   .exact g2 D hD⟩,k.sz,k.tm,k.bx,k.dZ,k.mem,k.eM,k.fM,k.keep,k.base,k.qD,k.par⟩
 have K2:=Mn ρ N 0 ⟨l,0,0,true⟩;have Dj:Sat N w0 m0 pl lK (iL ρ (.loc N 0) ⟨l,0,0,true⟩) m1 yV w1:=by
  rw[Ru];refine hF2.add hND (l:=⟨l,0,0,true⟩) ⟨by rw[R6],r,by rw[R6];exact D3,D0,Z1,by rw[hr4],hr5,VA,by rw[hr7];exact MY.sz,fun t c k=>?_⟩ (fun _ s b k rr=>?_) (fun _ o=>?_) (fun _=>.inl (lJ hS.keep.size oY))
  .obtain⟨v,k1,k2⟩:=MY.tm t c (y0 t c k);exact⟨v,by rw[hr7];exact k1,k2.mono (Le.refl _) K2 (hND.t t c (y0 t c k))⟩
  .have:=MY.G4 k (((MY.bx s b k).dS (fun r=>X4.block _ (MY.lt k r))).1 rr)
   have e':l<w.heap.size:=this;omega
  .exact MY.Fa oY o
 generalize Rv:iL ρ (.loc N 0) ⟨l,0,0,true⟩=oX at Dj;have CL:oX (.loc N 0)=⟨l,0,0,true⟩:=by rw[<-Rv,R6]
 obtain⟨oC,fW,tZ,yJ⟩:=BO Dj pZ sR hB;have p9:∃vf vc:Array Value,act.eval g=.func (.func gf) vf vc/\vf.size=fs.length/\vc.size=cs.length/\(∀(j:Nat) (d:Value) (c:AV),vf[j]?=some d->fs[j]?=some c->bQ oX m1 d c)/\(∀(j:Nat) (d:Value) (c:AV),vc[j]?=some d->cs[j]?=some c->bQ oX m1 d c):=by
  have h1:=Dj.aV hg;have e0:yV.eval g=act.eval g:=by cases g<;>rfl
  rw[e0]at h1;rcases qC with qC|⟨tE,iI,qC,rfl,rfl⟩
  .rw[qC]at h1;exact Mj h1
  .rw[qC]at h1;obtain⟨vf,vc,e1,e2,e3,e4,e5⟩:=Fm h1.nH;refine⟨vf,vc,e1,by simpa using e2,by simpa using e3,fun j d c k1 k2=>?_,fun j d c k1 k2=>?_⟩
   .rw[bX]at k2;obtain⟨x,k3,rfl⟩:=eA.1 k2;exact .pv _ _ (e4 j d x k1 k3)
   .rw[bX]at k2;obtain⟨x,k3,rfl⟩:=eA.1 k2;exact .pv _ _ (e5 j d x k1 k3)
 obtain⟨vf,vc,hv,f1,f2,f3,f4⟩:=p9;obtain⟨b1,b2⟩:=ZhV (ρ:=oX) (m:=m1) (va:=#[Value.func (.yield l) #[] #[]]) (xs:=[AV.nK (.loc N 0)]) f1 rfl f2 f3 (fun j u y hu hy=>by
  cases j with
  |zero=>
   simp at hu hy;subst hu hy
   have:=bQ.nK (ρ:=oX) (m:=m1) (.loc N 0)
   rwa [CL]at this
  |succ j=>simp at hu) f4
 obtain⟨gfn,gcode,g1,g2,g3⟩:=hC.1;have FD : ¬ gfn.name = "runtime.NumGoroutine" := by simpa using g2
 refine⟨l,mark,w1,{ target:=.fn (.func gf) vc,args:=vf++#[Value.func (.yield l) #[] #[]]},w1,gf,vf++#[Value.func (.yield l) #[] #[]]++vc,w1,T8,?_,fun _ _=>trivial,?_,FF.one,Fv ?_⟩
 .simp[resolve,hv,Deferred.ofValue];rfl
 .simp[invoke,callFunc,g1,FD,g3]
 refine(hC.2 w1 m1 oC _ tZ ⟨Dj.mem,Dj.uB,Ow hB⟩ (by rw[KG];exact b1) (fun j u y hu hy=>by
  rw[KF]at hy;obtain⟨a,k1,rfl⟩:=eA.1 hy;exact(b2 j u a hu k1).map fW (V8 eU k1))).mono ?_
 intro e w3 h;obtain⟨v,rr,B',bW,m',rfl,hK,k1,k2,k3⟩:=yJ (fun r B'=>match(((cK aF lK).bG (N+1)).lU (fA aF (N+1) B')).b (.loc N 0)with
   |some (.loop _ _ _ _ st)=>kW Q st ((((cK aF lK).bG (N+1)).lU (fA aF (N+1) B')).drop (.loc N 0))
   |_=>False) e w3 h
 clear h yJ;replace k3:=k3 (.loc N 0) (by simp[Site.fQ]);generalize((cK aF lK).bG (N+1)).lU (fA aF (N+1) B')=τ at hK k1;split at hK
 .rename_i C' Jd Jf Iw st tX;obtain⟨Z1,r3,u1,u2,u3,_⟩:=k1.bx _ _ tX;have lO:bW (.loc N 0)=oX (.loc N 0):=k3;rw[lO,CL]at u1;have QD:r3.state≠.busy:=by rw[u2];cases st<;>simp
  have dG:=run_endLoop (P:=P) u1 QD;have Df:Sat N w0 m0 pl (τ.drop (.loc N 0)) bW m' yV (w3.putObj l (.loop { r3 with state:=.exhausted })):=(k1.drop _).write (k:=l) (fun s b k r=>by
   rw[AS.JM]at k;split at k
   .cases k
   .rename_i cZ;refine cZ (k1.dZ _ _ _ _ l k tX r (.inl ⟨Z1,?_⟩));rw[lO,CL]) (fun o=>by
   have:=k1.off _ _ tX Z1 o
   rwa [lO,CL]at this) (by
   have:=k1.own _ _ tX Z1
   rwa [lO,CL]at this) (.inl (by rw[u1];simp)) (Ic _ _ _)
  refine⟨st,_,by rw[<-u3];exact dG,?_⟩;cases st with
  |none=>exact⟨_,_,_,hK,Df⟩
  |some c=>
   cases c with
   |ret=>exact wpIn_ret ⟨_,_,_,hK,Df⟩
   |exit id=>exact wpIn_exit ⟨_,_,_,hK,Df⟩
   |_=>exact hK.elim
 .exact hK.elim
theorem XR {ro:Option Nat}(PU:Fu ro w0 pl)(hm:P.follows .mixedOrders=true):∀(c:Code) (l:bD) (Q:sA->AS->Prop) {σ:AS} {ρ:Site->Loc} {m:Mem} {act:Act} {w:World},(m0.strict=true->kF c=true)->dQ P N c=some l->uE P l Q σ->Sat N w0 m0 pl σ ρ m act w->c.wpIn (FF ro) 1 P (nW N w0 m0 pl Q) act w:=by
 intro c;induction c with
 |skip=>
  intro l Q σ ρ m act w bU hl h hS;simp[dQ]at hl;subst hl;exact wpIn_skip ⟨σ,ρ,m,h,hS⟩
 |region id ops draw=>
  intro l Q σ ρ m act w bU hl h hS;simp only[dQ]at hl;split at hl
  .rename_i qL k1;cases hl;exact Znb hm k1 h hS (fun _ _ k=>k) (fun _ _ _ _ _ h=>h)
  .split at hl
   .rename_i hd;subst hd;simp only[eA]at hl;obtain⟨T',k1,rfl⟩:=hl;exact Znc hm k1 h hS (fun _ _ k=>k) (fun _ _ _ _ _ h=>h)
   .cases hl
 |seq a b S6 o8=>
  intro l Q σ ρ m act w bU hl h hS;simp only[dQ]at hl;split at hl
  .rename_i x y h1 h2;cases hl;refine wpIn_seq (wpIn_mono (S6 x _ (fun e=>(Mu (bU e)).1) h1 h hS) (fun e bE w' hq=>?_));cases e with
   |normal=>
    obtain⟨τ,bW,m',k1,k2⟩:=hq;exact o8 y Q (fun e=>(Mu (bU e)).2) h2 k1 k2
   |exit id=>exact hq
   |ret=>exact hq
   |goto l=>exact hq.elim
   |panic ch=>exact hq.elim
   |outgrown=>exact hq.elim
  .cases hl
 |cond c a b S6 o8=>
  intro l Q σ ρ m act w bU hl h hS;simp only[dQ]at hl;split at hl
  .rename_i c' x y h0 h1 h2;cases hl;unfold uE at h;split at h
   .rename_i t ht;have hc:=hS.aV h0;rw[ht]at hc;refine wpIn_cond hc.NT ?_;cases t
    .exact o8 y Q (fun e=>(Nx (bU e)).2) h2 (by simpa using h) hS
    .exact S6 x Q (fun e=>(Nx (bU e)).1) h1 (by simpa using h) hS
   .exact h.elim
  .cases hl
 |block id c ih=>
  intro l Q σ ρ m act w bU hl h hS;simp only[dQ,eA]at hl;obtain⟨x,k1,rfl⟩:=hl;refine wpIn_block (wpIn_mono (ih x _ bU k1 h hS) (fun e bE w' hq=>?_));cases e with
  |exit LY=>
   obtain⟨τ,bW,m',q1,q2⟩:=hq;by_cases he:LY=id
   .subst he;simp only[j4,if_true]at q1;simp only[Exit.inBlock,if_true];exact⟨τ,bW,m',q1,q2⟩
   .simp only[j4,he,if_false]at q1;simp only[Exit.inBlock,he,if_false];exact⟨τ,bW,m',q1,q2⟩
  |normal=>exact hq
  |ret=>exact hq
  |goto l=>exact hq.elim
  |panic ch=>exact hq.elim
  |outgrown=>exact hq.elim
 |loop c ih=>
  intro l Q σ ρ m act w bU hl h hS;simp only[dQ,eA]at hl;obtain⟨x,k1,rfl⟩:=hl;obtain⟨I,n,τ,kG,hI,aB⟩:=h;obtain⟨oX,m1,wO⟩:=kG _ _ _ _ _ _ _ _ hS;refine wpIn_loop_ghost (fun n act w=>∃τ ρ m,I n τ/\Sat N w0 m0 pl τ ρ m act w) n ⟨τ,oX,m1,hI,wO⟩ ?_;intro n act w ⟨τ,ρ,m,hI,hS⟩;refine wpIn_mono (ih x _ bU k1 (aB n τ hI) hS) (fun e bE w' hq=>?_);cases e with
  |normal=>
   obtain⟨zF,bW,m',⟨k,R7,q1,q2,q3⟩,q4⟩:=hq;obtain⟨ON,m2,q5⟩:=q2 _ _ _ _ _ _ _ _ q4;exact⟨k,q1,R7,ON,m2,q3,q5⟩
  |exit id=>exact hq
  |ret=>exact hq
  |goto l=>exact hq.elim
  |panic ch=>exact hq.elim
  |outgrown=>exact hq.elim
 |scope c ih=>
  intro l Q σ ρ m act w bU hl h hS;refine ZbW (wpIn_mono (ih l Q bU hl h hS) (fun e bE w' hq=>?_));cases e<;>first|exact hq|exact hq.elim
 |label l0=>
  intro l Q σ ρ m act w bU hl h hS;simp[dQ]at hl;subst hl;exact wpIn_label ⟨σ,ρ,m,h,hS⟩
 |exit id=>
  intro l Q σ ρ m act w bU hl h hS;simp[dQ]at hl;subst hl;exact wpIn_exit ⟨σ,ρ,m,h,hS⟩
 |ret=>
  intro l Q σ ρ m act w bU hl h hS;simp[dQ]at hl;subst hl;exact wpIn_ret ⟨σ,ρ,m,h,hS⟩
 |rangeFunc g ps a b=>
  intro l Q σ ρ m act w bU hl h hS;simp only[dQ]at hl;split at hl
  .rename_i g' la lb k1 k2 k3;cases hl;exact Zic PU k1 h hS (ZnM bU)
  .cases hl
 |_=>intro l Q σ ρ m act w bU hl h hS;simp[dQ]at hl
end
inductive nX where
 |tm (t:Nat)
 |cell (t:Nat) (row:Bool) (n:Nat)
 deriving Inhabited
def kU (P:Program):List ResultVar->Option (List nX)
 |[]=>some []
 |.tmp t::r=>(kU P r).map (nX.tm t::·)
 |.cell a t::r=>match eI P t,P.underlying t,kU P r with
  |some n,some _,some l=>some (.cell a (sK P t) n::l)
  |_,_,_=>none
structure aZ where
 nt:Nat
 code:bD
 res:List nX
 deriving Inhabited
def fV (P:Program)(f:FuncId):Option aZ:=match P.funcs[f]? with
 | some fn => if fn.name == "runtime.NumGoroutine" then none else match fn.body with
  |some c=>match dQ P fn.ntmps c,kU P fn.results.toList with
   |some l,some r=>some ⟨fn.ntmps,l,r⟩
   |_,_=>none
  |none=>none
 |none=>none
def AS.Kw (σ:AS):nX->Option AV
 |.tm t=>σ.t t
 |.cell t row n=>match σ.t t with
  |some (.ptr s off)=>match σ.b s with
   |some (.cells bT)=>if row=true then(if off+n<=bT.length then some (v7 ((bT.drop off).take n))else none)else bT[off]?
   |_=>none
  |_=>none
def AS.FK (σ:AS):List nX->Option (List AV)
 |[]=>some []
 |x::r=>match σ.Kw x,σ.FK r with
  |some a,some l=>some (a::l)
  |_,_=>none
def rL:List AV->AV
 |[a]=>a
 |l=>match eB l with
  |some xs=>.pv (.bM xs)
  |none=>.bM l
def jU (outs:List Site)(s:Site):Site:=match s with
 |.par i=>.par i
 |s=>match outs.findIdx? (fun x=>decide (x=s))with
  |some j=>.ret j
  |none=>s
def dO (s:Site):Bool:=!s.uI
def AS.exp (σ:AS)(outs:List Site):List Site->List (Site×aK)
 |[]=>[]
 |s::r=>match σ.b s with
  |some b=>(jU outs s,b.iT (jU outs))::σ.exp outs r
  |none=>σ.exp outs r
def aY:List Site->AS->AS
 |[],σ=>σ
 |s::r,σ=>aY r (σ.cH s)
def rJ (rs:List nX)(R:AV->List (Site×aK)->Prop)(σ:AS):Prop:=
 ∃(fz outs:List Site) (l:List AV),(aY fz σ).FK rs=some l/\(rL l).dC dO=true/\outs.all dO=true/\(∀s∈outs,∀b,(aY fz σ).b s=some b->b.dC dO=true)/\R ((rL l).map (jU outs)) ((aY fz σ).exp outs outs)
def kZ (F:AS->Prop):sA->AS->Prop
 |.exit _,_=>False
 |_,σ=>F σ
def B4 (rs:List nX)(R:AV->List (Site×aK)->Prop)(σ:AS):Prop:=match σ.FK rs with
 |some l=>match rL l with
  |.pv x=>R (.pv x) []
  |_=>False
 |none=>False
theorem ZsO {rs:List nX}{R:AV->List (Site×aK)->Prop}{σ:AS}(h:B4 rs R σ):rJ rs R σ:=by
 unfold B4 at h;split at h
 .rename_i l hl;split at h
  .rename_i x hx;exact⟨[],[],l,hl,by rw[hx];rfl,rfl,(fun s hs=>by cases hs),by rw[hx];exact h⟩
  .exact h.elim
 .exact h.elim
def eY:Nat->List AV->List (Nat×AV)
 |_,[]=>[]
 |k,a::r=>(k,a)::eY (k+1) r
def vI (tmps:Array Value):ResultVar->Sem Value:=fun
 |.tmp t=>pure (tmps.getD t undef)
 |.cell a t=>do loadVar t (<-asAddr (tmps.getD a undef))
section
variable {P:Program}{N:Nat}{w0:World}{m0:Env w0}{pl:List Nat}{σ:AS}{ρ:Site->Loc}{m:Mem}{act:Act}{w:World}
theorem Sat.aY:∀(fz:List Site) {σ:AS} {m:Mem},Sat N w0 m0 pl σ ρ m act w->∃m',Sat N w0 m0 pl (aY fz σ) ρ m' act w
 |[],σ,m,h=>⟨m,h⟩
 |s::r,σ,m,h=>by
  obtain⟨m1,_,h1⟩:=h.cH s;exact Sat.aY r h1
theorem Hr:∀(l:List AV) (k j:Nat) (a:AV),(eY k l).lookup j=some a->k<=j/\l[j-k]?=some a
 |[],k,j,a,h=>by simp[eY]at h
 |b::r,k,j,a,h=>by
  unfold eY at h;rcases Nat.decEq j k with cZ|rfl
  .rw[jD cZ]at h;obtain⟨h1,h2⟩:=Hr r (k+1) j a h;refine⟨by omega,?_⟩;rw[show j-k=(j-(k+1))+1 by omega,List.getElem?_cons_succ];exact h2
  .rw[mT]at h;cases h;exact⟨fH _,by simp⟩
theorem ZlS {l:List (Site×aK)}{s:Site}{b:aK}(h:l.lookup s=some b):(s,b)∈l:=by
 induction l with
 |nil=>simp[List.lookup]at h
 |cons p r ih=>
  obtain⟨a,c⟩:=p;by_cases e:s=a
  .subst e;rw[mT]at h;cases h;simp
  .rw[jD e]at h;simp[ih h]
theorem XL {ρ:Site->Loc}{w:World}{B:List (Site×aK)}{s:Site}{b:aK}{k:Nat}(h:B.lookup s=some b)(hr:fL ρ w s b k):k∈cI ρ w B:=by
 exact TD.2 ⟨(s,b),ZlS h,hr⟩
theorem Zpx {rv:ResultVar}{x:nX}(hx:kU P [rv]=some [x]){a:AV}(ha:σ.Kw x=some a)(hS:Sat N w0 m0 pl σ ρ m act w):
  ∃v,(vI act.tmps rv).run P w=.ok v w/\bQ ρ m v a:=by
 cases rv with
 |tmp t=>
  simp[kU]at hx;subst hx;obtain⟨v,k1,k2⟩:=hS.tm t a ha;refine⟨act.tmps.getD t undef,rfl,?_⟩;rw[Array.getD_eq_getD_getElem?,k1];exact k2
 |cell t0 ty=>
  simp only[kU]at hx;split at hx
  .rename_i n dd l h1 h2 h3;cases h3;cases hx;simp only[AS.Kw]at ha;split at ha
   .rename_i s off ht;obtain⟨v,k1,k2⟩:=hS.tm t0 _ ht;have hv:=k2.DY;subst hv;have kJ:act.tmps.getD t0 undef=.pointer (some ⟨(ρ s).b,off,none⟩):=by rw[Array.getD_eq_getD_getElem?,k1];rfl
    split at ha
    .rename_i bT hb;have hB:=hS.bx s _ hb;split at ha
     .rename_i hr;split at ha
      .rename_i hl;cases ha;obtain⟨ds,q1,q2,q3,q4⟩:=Hm hB hl;refine⟨.agg ds.toArray,?_,Hh (by simp[q1,gN,uG];omega) (fun u hu=>q3 u (by simpa using hu)) (fun j u c e1 e2=>q4 j u c (by simpa using e1) e2)⟩
       have:=Zng (P:=P) h2 hr q2 (by rw[h1,q1])
       simp only[Instr.loadAt,Instr.sureAddr,Sem.run_bind,Sem.run_pure,Result.andThen_ok]at this;simp only[vI,kJ,asAddr,Sem.run_bind,Sem.run_pure,Result.andThen_ok];exact this
      .cases ha
     .rename_i hr;have aJ:=(cA.1 ha).1;obtain⟨ds,q1,q2,q3,q4⟩:=Hm hB (off:=off) (n:=1) (by omega)
      match ds,q1 with
      |[v],_=>
       refine⟨v,?_,q4 0 v a rfl (by rw[mE,if_pos (by omega),mS];exact ha)⟩
       have:=Znh (P:=P) h2 (by simpa using hr) q2.1
       simp only[Instr.loadAt,Instr.sureAddr,Sem.run_bind,Sem.run_pure,Result.andThen_ok]at this;simp only[vI,kJ,asAddr,Sem.run_bind,Sem.run_pure,Result.andThen_ok];exact this
    .cases ha
   .cases ha
  .cases hx
theorem My:∀(YS:List ResultVar) (rs:List nX) (l:List AV),kU P YS=some rs->σ.FK rs=some l->Sat N w0 m0 pl σ ρ m act w->
  ∃vs:List Value,(YS.mapM (vI act.tmps)).run P w=.ok vs w/\vs.length=l.length/\∀(j:Nat) (v:Value) (a:AV),vs[j]?=some v->l[j]?=some a->bQ ρ m v a
 |[],rs,l,h,hl,hS=>by
  simp[kU]at h;subst h;simp[AS.FK]at hl;subst hl;exact⟨[],rfl,rfl,fun j v a e=>by simp at e⟩
 |rv::YS,rs,l,h,hl,hS=>by
  obtain⟨x,xY,hx,h',rfl⟩:∃x xY,kU P [rv]=some [x]/\kU P YS=some xY/\rs=x::xY:=by
   cases rv with
   |tmp t=>
    simp only[kU,eA]at h;obtain⟨xY,k1,rfl⟩:=h;exact⟨.tm t,xY,by simp[kU],k1,rfl⟩
   |cell a t=>
    simp only[kU]at h;split at h
    .rename_i n dd l' h1 h2 h3;cases h;exact⟨.cell a (sK P t) n,l',by simp[kU,h1,h2],h3,rfl⟩
    .cases h
  unfold AS.FK at hl;split at hl
  .rename_i a l' h1 h2;cases hl;obtain⟨v,k1,k2⟩:=Zpx hx h1 hS;obtain⟨vs,k3,k4,k5⟩:=My YS xY l' h' h2 hS;refine⟨v::vs,?_,by simp[k4],fun j u c e1 e2=>?_⟩
   .simp only[List.mapM_cons,Sem.run_bind,k1,Result.andThen_ok,k3];rfl
   .cases j with
    |zero=>simp at e1 e2;subst e1 e2;exact k2
    |succ j=>exact k5 j u c (by simpa using e1) (by simpa using e2)
  .cases hl
theorem ZkI {vs:List Value}{l:List AV}(h1:vs.length=l.length)(h2:∀(j:Nat) (v:Value) (a:AV),vs[j]?=some v->l[j]?=some a->bQ ρ m v a):
  bQ ρ m (if h:vs.toArray.size=1 then vs.toArray[0]else .tuple vs.toArray) (rL l):=by
 match l,vs,h1 with
 |[a],[v],_=>exact h2 0 v a rfl rfl
 |[],vs,h1=>
  have:vs=[]:=List.eq_nil_of_length_eq_zero h1
  subst this;exact .pv _ _ (.bM _ _ rfl (fun j v c e1 e2=>by simp at e2))
 |a::b::r,vs,h1=>
  have hs:¬vs.toArray.size=1:=by
   intro e;simp at e;rw[e]at h1;simp at h1
  rw[dif_neg hs];show bQ ρ m _ (match eB (a::b::r)with
   |some xs=>.pv (.bM xs)
   |none=>.bM (a::b::r))
  cases hx:eB (a::b::r)with
  |some xs=>
   have e:=TG hx;rw[e]at h1 h2;refine .pv _ _ (.bM _ _ (by simpa using h1) (fun j v c e1 e2=>?_));exact(h2 j v (.pv c) (by simpa using e1) (by rw[bX,e2];rfl)).nH
  |none=>exact .bM _ _ (by simpa using h1) (fun j v c e1 e2=>h2 j v c (by simpa using e1) e2)
theorem ZjF {outs:List Site}{s:Site}{j:Nat}(h:outs.findIdx? (fun x=>decide (x=s))=some j):outs[j]?=some s:=by
 obtain⟨hj,h1,_⟩:=JJ.1 h;rw[bC hj];simpa using h1
theorem Mh (hS:Sat N w0 m0 pl σ ρ m act w){outs:List Site}(ho:outs.all dO=true)(hb:∀s∈outs,∀b,σ.b s=some b->b.dC dO=true):
  ∃bW:Site->Loc,(∀s,dO s=true->bW (jU outs s)=ρ s)/\vC bW m w (σ.exp outs outs)/\(∀i,bW (.par i)=ρ (.par i))/\
   (∀s b k,(σ.exp outs outs).lookup s=some b->fL bW w s b k->∃s0 b0,σ.b s0=some b0/\fL ρ w s0 b0 k):=by
 let bW:Site->Loc:=fun s=>match s with
  |.ret j=>ρ (outs.getD j default)
  |s=>ρ s
 have hg:∀s,dO s=true->bW (jU outs s)=ρ s:=fun s hs=>by
  cases s with
  |par i=>rfl
  |ret j=>simp[dO,Site.uI]at hs
  |loc d j=>
   unfold jU;simp only;split
   .rename_i k hk
    have:=ZjF hk
    simp[bW,List.getD,this]
   .rfl
 have look:∀(l:List Site),(∀s∈l,s∈outs)->∀s b,(σ.exp outs l).lookup s=some b->∃s0 b0,s0∈outs/\σ.b s0=some b0/\s=jU outs s0/\b=b0.iT (jU outs):=by
  intro l;induction l with
  |nil=>intro _ s b h;simp[AS.exp]at h
  |cons x r ih=>
   intro hl s b h;unfold AS.exp at h;split at h
   .rename_i b0 VO;by_cases e:s=jU outs x
    .subst e;rw[mT]at h;cases h;exact⟨x,b0,hl x (by simp),VO,rfl,rfl⟩
    .rw[jD e]at h;exact ih (fun s hs=>hl s (by simp[hs])) s b h
   .exact ih (fun s hs=>hl s (by simp[hs])) s b h
 have mK:∀s∈outs,dO s=true:=fun s hs=>rA.1 ho s hs
 refine⟨bW,hg,⟨fun s b h=>?_,fun s s' b b' k h h' r r'=>?_,fun s b k h r=>?_⟩,fun i=>rfl,fun s b k h r=>?_⟩
 .obtain⟨s0,b0,k1,k2,rfl,rfl⟩:=look outs (fun _ h=>h) s b h;exact(hS.bx s0 b0 k2).iT hg (mK s0 k1) (hb s0 k1 b0 k2)
 .obtain⟨s0,b0,k1,k2,rfl,rfl⟩:=look outs (fun _ h=>h) s b h;obtain⟨s1,b1,q1,q2,rfl,rfl⟩:=look outs (fun _ h=>h) s' b' h';rw[hS.dZ s0 s1 b0 b1 k k2 q2 ((uL (hg s0 (mK s0 k1))).1 r) ((uL (hg s1 (mK s1 q1))).1 r')]
 .obtain⟨s0,b0,k1,k2,rfl,rfl⟩:=look outs (fun _ h=>h) s b h;exact hS.eM s0 b0 k k2 ((uL (hg s0 (mK s0 k1))).1 r)
 .obtain⟨s0,b0,k1,k2,rfl,rfl⟩:=look outs (fun _ h=>h) s b h;exact⟨s0,b0,k2,(uL (hg s0 (mK s0 k1))).1 r⟩
theorem Zey {fn:Func}{R:Ending->World->Prop}:∀(ds:List Nat) {w:World},ds.Nodup->(∀D∈ds,(w0.heap.size<=D\/D∈pl)/\w.heap[D]?=some (.deferred (some [])))->act.defers=[]->Sat N w0 m0 pl σ ρ m act w->
  ∃w2,Sat N w0 m0 pl σ ρ m act w2/\(LeavesIn (FF none) 1 P fn act.tmps R [] .returning w2->LeavesInM (FF none) 1 P fn act.tmps R (ds.map WT) .returning w)
 |[],w,_,_,_,hS=>⟨w,hS,fun h=>h⟩
 |D::r,w,hn,hd,ha,hS=>by
  obtain⟨d1,d2⟩:=hd D (by simp);have yK:=List.nodup_cons.1 hn;have wO:Sat N w0 m0 pl σ ρ m act (w.putObj D (.deferred none)):=hS.write (k:=D) (fun s b hs hr=>(hS.bx s b hs).Xq hr d2) (fun o=>by
   cases hv:m D o with
   |none=>rfl
   |some v=>
    have:=hS.mem D o v hv
    simp[World.mem,World.cell?,d2]at this) d1 (.inr ha) (Ic _ _ _)
  obtain⟨w2,k1,k2⟩:=Zey r yK.2 (fun D' DF=>by
   refine⟨(hd D' (by simp[DF])).1,?_⟩;have cZ:D'≠D:=fun e=>yK.1 (by rw[<-e];exact DF)
   rw[World.putObj_heap_other cZ];exact(hd D' (by simp[DF])).2) ha wO
  exact⟨w2,k1,fun h=>⟨by simp,.inl ⟨D,_,rfl,run_takeDeferred d2,k2 h⟩⟩⟩
theorem Ie {f:FuncId}{F:aZ}{bT:List AV}{B:List (Site×aK)}{R:AV->List (Site×aK)->Prop}(hm:P.follows .mixedOrders=true)(hf:fV P f=some F)(hn:bT.length<=F.nt)
  {Fin:AS->Prop} (CT:∀σ,Fin σ->rJ F.res R σ) (h:uE P F.code (kZ Fin) ⟨eY 0 bT,B⟩):cN P f bT B R:=by
 unfold fV at hf;split at hf
 .rename_i fn qC;split at hf
  .cases hf
  .rename_i M8;split at hf
   .rename_i c hc;split at hf
    .rename_i l rs hl tT;cases hf;refine⟨⟨fn,c,qC,by simpa using M8,hc⟩,fun w m ρ vs hB mL P7 lF=>?_⟩;refine(callsIn_wide (n:=1)).1 (callsIn_of_wp_marks (F:=FF none) qC hc trivial ?_ rfl);have hS:Sat fn.ntmps w ⟨m,ρ,[],mL.2.1,false⟩ (cI ρ w B) ⟨eY 0 bT,B⟩ ρ m { tmps:=vs++Array.replicate (fn.ntmps-vs.size) undef,defers:=[]} w:=by
      have yK:bT.length<=fn.ntmps:=hn;refine⟨⟨[],C0,yE,fun D hD=>by cases hD⟩,by simp;omega,fun t a k=>?_,hB.bx,hB.dZ,mL.1,hB.eM,fun s b i k r=>.inr (XL k r),cV.tI _ _,⟨Le.refl _,hB.free mL.2.2⟩,fun b o v k=>.inl k,fun i=>rfl⟩;obtain⟨_,k1⟩:=Hr bT 0 t a k;rw[Nat.sub_zero]at k1;have aJ:t<vs.size:=by rw[P7];exact(cA.1 k1).1
      exact⟨vs[t],by rw[Array.getElem?_append,if_pos aJ,uV aJ],lF t _ a (uV aJ) k1⟩
     refine wpIn_mono (XR (ro:=none) (fun l e=>by cases e) hm c l _ (fun e=>by cases e) hl h hS) (fun e bE w' hq=>?_);have fin:G1 fn.ntmps w ⟨m,ρ,[],mL.2.1,false⟩ (cI ρ w B) Fin bE w'->LeavesInM (FF none) 1 P fn bE.tmps (lC w m ρ B R) bE.defers .returning w':=by
      rintro⟨τ,oX,m1,RN,hT⟩;obtain⟨ds,tV,wK,T9⟩:=hT.sC;have tV:=tV.nil;have Dd:Sat fn.ntmps w ⟨m,ρ,[],mL.2.1,false⟩ (cI ρ w B) τ oX m1 { bE with defers:=[]} w':=⟨⟨[],C0,yE,fun D hD=>by cases hD⟩,hT.sz,hT.tm,hT.bx,hT.dZ,hT.mem,hT.eM,hT.fM,hT.keep,hT.base,hT.qD,hT.par⟩;obtain⟨w2,U3,hL⟩:=Zey (P:=P) (fn:=fn) (R:=lC w m ρ B R) ds wK.1 T9 rfl Dd;rw[tV];refine hL ?_;obtain⟨fz,outs,la,q1,q2,q3,q4,q5⟩:=CT τ RN;obtain⟨m2,hF⟩:=U3.aY fz;obtain⟨YM,r1,r2,r3⟩:=My fn.results.toList rs la tT q1 hF;obtain⟨bW,g1,g2,g3,g4⟩:=Mh hF q3 q4;have CG:=ZkI r2 r3;refine⟨_,?_,_,_,_,bW,m2,rfl,q5,g2,hF.base.1,hF.mem,fun i=>(g3 i).trans (hF.par i),fun s b i k r=>?_,hF.qD,CG.map g1 q2,hF.keep⟩
      .show(do let vs <-fn.results.mapM (vI bE.tmps);pure (if h:vs.size=1 then vs[0]else .tuple vs):Sem Value).run P w2=_;rw[Sem.run_bind,Array.mapM_eq_mapM_toList,Sem.run_map,r1];rfl
      .obtain⟨s0,b0,e1,e2⟩:=g4 s b i k r;exact hF.fM s0 b0 i e1 e2
     cases e with
     |normal=>exact fin hq
     |ret=>exact fin hq
     |exit id=>obtain⟨τ,oX,m1,q,_⟩:=hq;exact q.elim
     |goto l=>exact hq.elim
     |panic ch=>exact hq.elim
     |outgrown=>exact hq.elim
    .cases hf
   .cases hf
 .cases hf
theorem ZiQ {f:FuncId}{F:aZ}{bT:List AV}{B:List (Site×aK)}{R:AV->List (Site×aK)->Prop}(hm:P.follows .mixedOrders=true)(hf:fV P f=some F)(hn:bT.length<=F.nt)
  (h:uE P F.code (kZ (B4 F.res R)) ⟨eY 0 bT,B⟩):cN P f bT B R:=Ie hm hf hn (fun _ h=>ZsO h) h
section
variable {Q:sA->AS->Prop}{K:AV->AS->Prop}
def again (J:Nat->AS->Prop)(n:Nat)(zF:AS):Prop:=∃k R7,k<n/\Sub R7 zF/\J k R7
def j8:List (Nat×AV)->AS->Prop
 |[],_=>True
 |(t,a)::r,σ=>σ.t t=some a/\j8 r σ
def R9:List (Site×aK)->AS->Prop
 |[],_=>True
 |(s,b)::r,σ=>σ.b s=some b/\R9 r σ
theorem Zfg:∀{l:List (Nat×AV)},j8 l σ->∀t a,l.lookup t=some a->σ.t t=some a
 |[],_,t,a,h=>by simp[List.lookup]at h
 |(t',a')::r,hs,t,a,h=>by
  by_cases e:t=t'
  .subst e;rw[mT]at h;cases h;exact hs.1
  .rw[jD e]at h;exact Zfg hs.2 t a h
theorem Zh3:∀{l:List (Site×aK)},R9 l σ->∀s b,l.lookup s=some b->σ.b s=some b
 |[],_,s,b,h=>by simp[List.lookup]at h
 |(s',b')::r,hs,s,b,h=>by
  by_cases e:s=s'
  .subst e;rw[mT]at h;cases h;exact hs.1
  .rw[jD e]at h;exact Zh3 hs.2 s b h
theorem EJ.mk {tm:List (Nat×AV)}{bx:List (Site×aK)}(h1:j8 tm σ)(h2:R9 bx σ):EJ ⟨tm,bx⟩ σ:=⟨fun t a h=>Zfg h1 t a h,fun s b h=>Zh3 h2 s b h⟩
theorem Sub.mk {tm:List (Nat×AV)}{bx:List (Site×aK)}(h1:j8 tm σ)(h2:R9 bx σ):Sub ⟨tm,bx⟩ σ:=(EJ.mk h1 h2).sub
theorem ZiS {f:bB}{args:List bB}{d k:Nat}{g:FuncId}{fs xs cs:List PV}{y:PV}(h1:(σ.o f).snap σ k=some (.fn g fs cs))(h2:jF (AV.snap σ k) (args.map σ.o)=some xs)
  (hc:cN P g ((fs++xs++cs).map .pv) [] (fun r _=>r=.pv y)) (hy:y.flat=true) (hK:K (.pv y) σ):zA P f args d K σ:=
 .inl ⟨k,g,fs,xs,cs,h1,h2,hc.mono (fun _ _ h=>⟨y,h,hy,hK⟩)⟩
theorem Zaj (fz:List Site){f:bB}{args:List bB}{d:Nat}{g:FuncId}{fs xs cs:List PV}{y:PV}(h1:(aM fz σ).o f=.pv (.fn g fs cs))(h2:(aM fz σ).tN args=some xs)
  (hc:cN P g ((fs++xs++cs).map .pv) [] (fun r B=>r=.pv y/\B=[])) (hK:K (.pv y) ((aM fz σ).bG d)):zA P f args d K σ:=
 .inr ⟨fz,g,fs,xs,cs,h1,h2,hc.mono (fun _ _ ⟨h,h'⟩=>by subst h h';exact⟨⟨rfl,fun p hp=>by cases hp⟩,hK⟩)⟩
theorem ZqO (fz:List Site){f:bB}{args:List bB}{d:Nat}{g:FuncId}{fs xs cs:List PV}{e n len:Nat}{ys:List PV}(h1:(aM fz σ).o f=.pv (.fn g fs cs))(h2:(aM fz σ).tN args=some xs)
  (hc:cN P g ((fs++xs++cs).map .pv) [] (fun r B=>r=.vec (.ret 0) n 0 len/\B=[(.ret 0,.arr e n ys)])) (hK:K (.vec (.loc d 0) n 0 len) (((aM fz σ).bG d).add (.loc d 0) (.arr e n ys))):zA P f args d K σ:=
 .inr ⟨fz,g,fs,xs,cs,h1,h2,hc.mono (fun _ _ ⟨h,h'⟩=>by subst h h';exact⟨⟨rfl,fun p hp=>by simp at hp;subst hp;exact⟨rfl,rfl⟩⟩,hK⟩)⟩
end
end
def Site.s5:Site->Bool
 |.par _=>true
 |_=>false
def qK:List Nat->List AV->List (Nat×AV)->List (Nat×AV)
 |p::ps,a::bT,tm=>qK ps bT ((p,a)::tm)
 |_,_,tm=>tm
def GP (C:Code×Code)(ps:List Nat)(nt:Nat)(tm:List (Nat×AV))(i:Nat)(R:AV->List (Site×aK)->Prop)(st:Option Code)(σ:AS):Prop:=
 ∃(fz outs:List Site),outs.all dO=true/\outs.all (fun s=>!decide (s=.par i))=true/\(∀s∈outs,∀b,(aY fz σ).b s=some b->b.dC dO=true)/\
  R (.pv (.bool st.isNone)) ((.par i,.loop C ps nt tm st)::(aY fz σ).exp outs outs)
def Za (C:Code×Code)(ps:List Nat)(nt:Nat)(tm:List (Nat×AV))(i:Nat)(R:AV->List (Site×aK)->Prop):sA->AS->Prop
 |.normal,σ=>GP C ps nt tm i R none σ
 |.ret,σ=>GP C ps nt tm i R (some .ret) σ
 |.exit id,σ=>GP C ps nt tm i R (some (.exit id)) σ
mutual
theorem Gi:∀a:AV,a.map id=a
 |.any=>rfl
 |.pv _=>rfl
 |.ptr _ _=>rfl
 |.lA _ _ _ _=>rfl
 |.vec _ _ _ _=>rfl
 |.mp _=>rfl
 |.nK _=>rfl
 |.fn f fs cs=>by simp only[AV.map,SX fs,SX cs]
 |.agg cs=>by simp only[AV.map,SX cs]
 |.bM vs=>by simp only[AV.map,SX vs]
theorem SX:∀l:List AV,AV.iO id l=l
 |[]=>rfl
 |a::r=>by simp only[AV.iO,Gi a,SX r]
end
section
variable {P:Program}{N:Nat}{w0:World}{m0:Env w0}{pl:List Nat}{σ:AS}{ρ:Site->Loc}{m:Mem}{act:Act}{w:World}
theorem Sat.ZxK (h:Sat N w0 m0 pl σ ρ m act w){Qj:List Nat}(hp:∀k∈pl,k∈Qj)(hz:∀k∈Qj,∀o,m0.m k o=none):Sat N w0 m0 Qj σ ρ m act w:=
 ⟨let ⟨ds,h1,h2,h3⟩:=h.sC;⟨ds,h1,h2,fun D hD=>⟨(h3 D hD).1.imp id (hp D),(h3 D hD).2⟩⟩,h.sz,h.tm,h.bx,h.dZ,h.mem,h.eM,fun s b i k r=>(h.fM s b i k r).imp id (hp _),
  ⟨h.keep.os,h.keep.tape,h.keep.output,h.keep.size,fun k h1 h2=>h.keep.block k h1 (fun q=>h2 (hp k q))⟩,⟨h.base.1,hz⟩,fun b o v k=>(h.qD b o v k).imp id (fun q=>q.imp id (hp b)),h.par⟩
theorem OO {ro:Option Nat}{n n':Nat}{c:Code}{Q:Exit->Act->World->Prop}{a:Act}(h:c.wpIn (FF ro) n P Q a w):c.wpIn (FF ro) n' P Q a w:=fun b k cs h1 h2 _=>h b k cs h1 h2 (room_wide _)
theorem Zno {ρ:Site->Loc}{m:Mem}{nt:Nat}:∀(ps:List Nat) (bT:List AV) (vs:List Value) (tm:List (Nat×AV)) (t0:Array Value),ps.length=bT.length->vs.length=bT.length->(∀p∈ps,p<nt)->t0.size=nt->
  (∀(j:Nat) (d:Value) (c:AV),vs[j]?=some d->bT[j]?=some c->bQ ρ m d c)->(∀t a,tm.lookup t=some a->∃v,t0[t]?=some v/\bQ ρ m v a)->
  ((ps.zip vs).foldl (fun(tmps:Array Value) (x:Nat×Value)=>tmps.setIfInBounds x.1 x.2) t0).size=nt/\
   ∀t a,(qK ps bT tm).lookup t=some a->∃v,((ps.zip vs).foldl (fun(tmps:Array Value) (x:Nat×Value)=>tmps.setIfInBounds x.1 x.2) t0)[t]?=some v/\bQ ρ m v a
 |[],bT,vs,tm,t0,h1,h2,h3,h4,h5,h6=>by
  cases bT with
  |nil=>exact⟨by simpa using h4,fun t a k=>by simpa using h6 t a k⟩
  |cons a bT=>simp at h1
 |p::ps,[],vs,tm,t0,h1,h2,h3,h4,h5,h6=>by simp at h1
 |p::ps,a::bT,[],tm,t0,h1,h2,h3,h4,h5,h6=>by simp at h2
 |p::ps,a::bT,v::vs,tm,t0,h1,h2,h3,h4,h5,h6=>by
  simp only[List.zip_cons_cons,List.foldl_cons,qK];refine Zno ps bT vs ((p,a)::tm) (t0.setIfInBounds p v) (by simpa using h1) (by simpa using h2) (fun q hq=>h3 q (by simp[hq])) (by simpa using h4) (fun j d c k1 k2=>h5 (j+1) d c (by simpa using k1) (by simpa using k2)) (fun t b k=>?_);rcases Nat.decEq t p with cZ|rfl
  .rw[jD cZ]at k;obtain⟨u,k1,k2⟩:=h6 t b k;exact⟨u,by rw[Array.getElem?_setIfInBounds_ne (fun e=>cZ e.symm)];exact k1,k2⟩
  .rw[mT]at k;cases k;exact⟨v,by rw[Array.getElem?_setIfInBounds_self_of_lt (by rw[h4];exact h3 _ (by simp))],h5 0 v a rfl rfl⟩
theorem Zg2 (hm:P.follows .mixedOrders=true){C:Code×Code}{ps:List Nat}{nt i:Nat}{tm:List (Nat×AV)}{la lb:bD}(Tz:dQ P nt C.1=some la)(Ty:dQ P nt C.2=some lb){bT:List AV}{B:List (Site×aK)}
  {R:AV->List (Site×aK)->Prop} (hB:B.lookup (.par i)=some (.loop C ps nt tm none)) (yI:ps.length=bT.length) (P8:∀p∈ps,p<nt) (y0:AV.gW Site.s5 (tm.map (·.2))=true)
  (h:uE P la (iR (uE P lb (Za C ps nt tm i R)) (fun _ _=>False)) ⟨qK ps bT tm,B.filter fun p=>!decide (p.1=.par i)⟩):FV P i bT B R:=by
 intro w m ρ vs tZ ⟨mL,Tu,HT⟩ P7 lF;obtain⟨CF,r,u1,u2,u3,u4,u5,u6,u7,u8⟩:=tZ.bx _ _ hB;refine⟨r,u1,by rw[u4,P7];simpa using yI.symm,?_⟩;obtain⟨l,hl⟩:∃l,l=(ρ (.par i)).b:=⟨_,rfl⟩;rw[<-hl]at u1 ⊢;have Ju:l<w.heap.size:=(qF.1 u1).1;obtain⟨B1,r5⟩:∃B1,B1=B.filter fun p=>!decide (p.1=.par i):=⟨_,rfl⟩
 rw[<-r5]at h;have oL:∀s b,B1.lookup s=some b->B.lookup s=some b/\s≠.par i:=fun s b k=>by
  rw[r5,show List.lookup s (B.filter fun p=>!decide (p.1=.par i))=_ from TP (fun x=>!decide (x=.par i)) s B]at k;split at k
  .rename_i cZ;exact⟨k,by simpa using cZ⟩
  .cases k
 have lZ:∀k,k∈cI ρ w B1->k∈cI ρ w B:=fun k hk=>by
  obtain⟨p,hp,e⟩:=TD.1 hk;exact TD.2 ⟨p,by rw[r5]at hp;exact(iV.1 hp).1,e⟩
 obtain⟨BG,PY⟩:∃BG,BG=(cI ρ w B1).filter (fun k=>!decide (k=l)):=⟨_,rfl⟩;have oY:l∉BG:=by rw[PY];simp
 have Jv:l∈cI ρ w B:=by rw[hl];exact XL hB (xR CF)
 have zO:∀k∈BG,k∈cI ρ w B:=fun k hk=>lZ k (by rw[PY]at hk;exact(iV.1 hk).1)
 have fI:=Zno (ρ:=ρ) (m:=m) (nt:=nt) ps bT vs.toList tm r.tmps yI (by simpa using P7) P8 u7 (fun j d c k1 k2=>lF j d c (by simpa using k1) k2) u8;have tD:(r.params.zip vs).foldl (fun tmps (x:Nat×Value)=>tmps.setIfInBounds x.1 x.2) r.tmps=(ps.zip vs.toList).foldl (fun(tmps:Array Value) (x:Nat×Value)=>tmps.setIfInBounds x.1 x.2) r.tmps:=by
  rw[u4,<-Array.foldl_toList];simp
 have hS:Sat nt w ⟨m,ρ,[],Tu,false⟩ BG ⟨qK ps bT tm,B1⟩ ρ m { tmps:=(r.params.zip vs).foldl (fun tmps (x:Nat×Value)=>tmps.setIfInBounds x.1 x.2) r.tmps,defers:=[]} w:=by
  rw[tD];refine⟨⟨[],C0,yE,fun D hD=>by cases hD⟩,fI.1,fI.2,fun s b k=>tZ.bx s b (oL s b k).1,fun s s' b b' i k k'=>tZ.dZ s s' b b' i (oL s b k).1 (oL s' b' k').1,mL,fun s b i k=>tZ.eM s b i (oL s b k).1,fun s b j k r'=>.inr ?_,cV.tI _ _,⟨Le.refl _,fun k hk=>tZ.free HT k (zO k hk)⟩,fun b o v k=>.inl k,fun i=>rfl⟩;rw[PY];refine iV.2 ⟨XL k r',?_⟩
  have:j≠l:=fun e=>(oL s b k).2 (tZ.dZ s _ b _ j (oL s b k).1 hB r' (by rw[e,hl];exact xR CF))
  simpa using this
 refine roundIn_of_wpIn trivial ?_;have QR:Fu (some l) w BG:=fun l' e=>by cases e;exact⟨⟨r,u1⟩,oY⟩
 have hwa:=XR QR hm C.1 la _ (fun e=>by cases e) Tz h hS;rw[<-u5]at hwa;refine wpIn_mono (OO hwa) ?_;intro e yV w1 hq;cases e with
 |normal=>
  obtain⟨YE,oX,m1,hb,wO⟩:=hq;have v1:w1.heap[l]?=some (.loop r):=(wO.keep.block l Ju oY).trans u1;refine⟨_,run_beginRound v1 u2,?_⟩;obtain⟨w2,sN⟩:∃w2,w2=w1.putObj l (.loop { r with state:=.busy }):=⟨_,rfl⟩;rw[<-sN];have v2:w2.heap[l]?=some (.loop { r with state:=.busy }):=by rw[sN];exact World.putObj_heap_same (qF.1 v1).1
  have ZY:cV [l] w1 w2:=by rw[sN];exact Ic _ _ _
  have Qs:∀s b,YE.b s=some b->¬fL oX w1 s b l:=fun s b k rr=>by
   rcases wO.fM s b l k rr with q|q
   .omega
   .exact oY q
  have Qq:∀s b j,YE.b s=some b->fL oX w2 s b j->j≠l:=fun s b j k rr e=>by
   subst e;refine Qs s b k (((wO.bx s b k).dS (fun r=>ZY.block _ (wO.lt k r) ?_)).1 rr);rw[rW];intro e2;exact Qs s b k (.inl ⟨r,e2⟩)
  have T4:∀o,m1 l o=none:=fun o=>by
   cases hv:m1 l o with
   |none=>rfl
   |some v=>
    have:=wO.mem l o v hv
    simp[World.mem,World.cell?,v1]at this
  have mV:Sat nt w ⟨m,ρ,[],Tu,false⟩ (l::BG) YE oX m1 yV w2:=(wO.ZxK (fun k hk=>by simp[hk]) (fun k hk=>by
   rcases jO.1 hk with rfl|hk
   .exact tZ.free HT _ Jv
   .exact tZ.free HT k (zO k hk))).write (k:=l) Qs T4 (.inr (by simp)) (.inl (by rw[v1];simp)) ZY
  obtain⟨GY,PX⟩:∃GY,GY=(BG++List.range' w.heap.size (w2.heap.size-w.heap.size)).filter (fun k=>@decide (∀o,m1 k o=none) (Classical.propDecidable _)):=⟨_,rfl⟩;have in2:∀b,(w.heap.size<=b\/b∈l::BG)->b<w2.heap.size->b≠l->(∀o,m1 b o=none)->b∈GY:=fun b hb aJ cZ hz=>by
   rw[PX];refine iV.2 ⟨?_,by simpa using hz⟩;rw[sG];rcases hb with hb|hb
   .exact .inr (List.mem_range'_1.2 ⟨hb,by omega⟩)
   .rcases jO.1 hb with hb|hb
    .exact absurd hb cZ
    .exact .inl hb
  have GZ:∀b∈GY,w.heap.size<=b\/b∈BG:=fun b hb=>by
   rw[PX]at hb;have hb:=(iV.1 hb).1;rw[sG]at hb;rcases hb with hb|hb
   .exact .inr hb
   .exact .inl (List.mem_range'_1.1 hb).1
  have qY:l∉GY:=fun hb=>by
   rcases GZ l hb with q|q
   .omega
   .exact oY q
  have P6:∀k∈GY,∀o,m1 k o=none:=fun k hk=>by
   rw[PX]at hk;simpa using(iV.1 hk).2
  have Vq:Sat nt w2 ⟨m1,oX,[],mV.uB,false⟩ GY YE oX m1 yV w2:=
   ⟨let ⟨ds,h1,h2,h3⟩:=mV.sC;⟨ds,h1,h2,fun D hD=>⟨.inr (in2 D (h3 D hD).1 (qF.1 (h3 D hD).2).1 (fun e=>by have:=(h3 D hD).2;rw[e,v2]at this;cases this) (fun o=>by
    cases hv:m1 D o with
    |none=>rfl
    |some v=>
     have:=mV.mem D o v hv
     simp[World.mem,World.cell?,(h3 D hD).2]at this)),(h3 D hD).2⟩⟩,mV.sz,mV.tm,mV.bx,mV.dZ,mV.mem,mV.eM,
    fun s b j k rr=>.inr (in2 _ (mV.fM s b j k rr) (mV.G4 k rr) (Qq s b j k rr) (mV.eM s b j k rr)),cV.tI _ _,⟨Le.refl _,fun k hk=>P6 k hk⟩,fun b o v k=>.inl k,fun i=>rfl⟩
  have QQ:Fu (some l) w2 GY:=fun l' e=>by cases e;exact⟨⟨_,v2⟩,qY⟩
  have PK:=XR QQ hm C.2 lb _ (fun e=>by cases e) Ty hb Vq;rw[<-u6]at PK;refine wpIn_mono (OO PK) ?_;have fin:∀(st:Option Code) (qS:Act) (w3:World),G1 nt w2 ⟨m1,oX,[],mV.uB,false⟩ GY (GP C ps nt tm i R st) qS w3->∃v w',(Instr.endRound l st).run P w3=.ok v w'/\lC w m ρ B R (.returned v) w':=by
   rintro st qS w3 ⟨τ,TX,m3,⟨fz,outs,q1,n7,q2,q3⟩,Q3⟩;obtain⟨m4,hF⟩:=Q3.aY fz;obtain⟨bW,g1,g2,g3,g4⟩:=Mh hF q1 q2;have v3:w3.heap[l]?=some (.loop { r with state:=.busy }):=(hF.keep.block l (qF.1 v2).1 qY).trans v2;have dG:=run_endRound (P:=P) st v3;obtain⟨w4,Ah⟩:∃w4,w4=w3.putObj l (.loop { { r with state:=.busy }with state:=if st.isNone then .ready else .done,pending:=st }):=⟨_,rfl⟩;rw[<-Ah]at dG;have v4:w4.heap[l]?=some (.loop { { r with state:=.busy }with state:=if st.isNone then .ready else .done,pending:=st }):=by rw[Ah];exact World.putObj_heap_same (qF.1 v3).1
   have S3:cV [l] w3 w4:=by rw[Ah];exact Ic _ _ _
   have J7:∀j,bW (.par j)=ρ (.par j):=fun j=>(g3 j).trans ((hF.par j).trans (wO.par j))
   have yM:Le m m4:=wO.base.1.trans hF.base.1;have Rn:w.heap.size<=w2.heap.size:=mV.keep.size;have Qr:∀s b,(aY fz τ).b s=some b->¬fL TX w3 s b l:=fun s b k rr=>by
    rcases hF.fM s b l k rr with q|q
    .omega
    .exact qY q
   have OV:∀s b,((aY fz τ).exp outs outs).lookup s=some b->¬fL bW w3 s b l:=fun s b k rr=>by
    obtain⟨s0,b0,e1,e2⟩:=g4 s b l k rr;exact Qr s0 b0 e1 e2
   have LB:∀s b,((aY fz τ).exp outs outs).lookup s=some b->∀j,fL bW w3 s b j->w4.heap[j]?=w3.heap[j]?:=fun s b k j rr=>S3.block _ (by
    obtain⟨s0,b0,e1,e2⟩:=g4 s b j k rr;exact hF.G4 e1 e2) (by
    rw[rW];intro e;subst e;exact OV s b k rr)
   have zX:∀s b,((aY fz τ).exp outs outs).lookup s=some b->∀j,fL bW w4 s b j->fL bW w3 s b j:=fun s b k j rr=>((g2.bx s b k).dS (fun r=>LB s b k _ (xR r))).1 rr
   have Be:∀o,m4 l o=none:=fun o=>by
    cases hv:m4 l o with
    |none=>rfl
    |some v=>
     have:=hF.mem l o v hv
     simp[World.mem,World.cell?,v3]at this
   refine⟨_,w4,dG,.bool st.isNone,.pv (.bool st.isNone),_,bW,m4,rfl,q3,?_,?_,?_,?_,?_,?_,.pv _ _ (.bool _),?_⟩
   .refine⟨fun s b k=>?_,fun s s' b b' j k k' rr LF=>?_,fun s b j k rr o=>?_⟩
    .by_cases hs:s=.par i
     .subst hs;rw[mT]at k;cases k;refine⟨by rw[J7];exact CF,{ { r with state:=.busy }with state:=if st.isNone then .ready else .done,pending:=st },by rw[J7,<-hl];exact v4,by cases st<;>rfl,rfl,u4,u5,u6,u7,fun t a k=>?_⟩;obtain⟨v,k1,k2⟩:=u8 t a k;obtain⟨j,hj⟩:=ZdS k;have k3:=k2.more yM;have k4:=k3.map (g:=id) (bW:=bW) (q:=Site.s5) (fun s hs=>by
       cases s with
       |par i=>exact J7 i
       |_=>cases hs) (V8 y0 hj)
      rw[Gi]at k4;exact⟨v,k1,k4⟩
     .rw[jD hs]at k;exact(g2.bx s b k).more (Le.refl _) (LB s b k)
    .by_cases hs:s=.par i<;>by_cases X9:s'=.par i
     .rw[hs,X9]
     .subst hs;rw[mT]at k;cases k;rw[jD X9]at k';have e:=(EF rfl rr).2;rw[J7,<-hl]at e;subst e;exact absurd (zX s' b' k' _ LF) (OV s' b' k')
     .subst X9;rw[mT]at k';cases k';rw[jD hs]at k;have e:=(EF rfl LF).2;rw[J7,<-hl]at e;subst e;exact absurd (zX s b k _ rr) (OV s b k)
     .rw[jD hs]at k;rw[jD X9]at k';exact g2.dZ s s' b b' j k k' (zX s b k _ rr) (zX s' b' k' _ LF)
    .by_cases hs:s=.par i
     .subst hs;rw[mT]at k;cases k;have e:=(EF rfl rr).2;rw[J7,<-hl]at e;subst e;exact Be o
     .rw[jD hs]at k;exact g2.eM s b j k (zX s b k _ rr) o
   .exact yM
   .intro b o v hv;have h1:=hF.mem b o v hv;refine(World.cell?_of_block (a:=⟨b,o,none⟩) (S3.block b (AO h1) ?_)).trans h1;rw[rW];intro e;have e':b=l:=e;subst e';rw[Be o]at hv;cases hv
   .exact J7
   .intro s b j k rr;by_cases hs:s=.par i
    .subst hs;rw[mT]at k;cases k;have e:=(EF rfl rr).2;rw[J7,<-hl]at e;subst e;exact .inr Jv
    .rw[jD hs]at k;obtain⟨s0,b0,e1,e2⟩:=g4 s b j k (zX s b k _ rr);rcases hF.fM s0 b0 j e1 e2 with q|q
     .exact .inl (lJ Rn q)
     .exact(GZ _ q).imp id (zO _)
   .intro b o v hv;rcases hF.qD b o v hv with q|q|q
    .rcases mV.qD b o v q with q|q|q
     .exact .inl q
     .exact .inr (.inl q)
     .rcases jO.1 q with q|q
      .subst q;exact .inr (.inr Jv)
      .exact .inr (.inr (zO _ q))
    .exact .inr (.inl (lJ Rn q))
    .exact .inr ((GZ _ q).imp id (zO _))
   .have k1:=mV.keep;have k3:=hF.keep;refine⟨S3.os.trans (k3.os.trans k1.os),S3.tape.trans (k3.tape.trans k1.tape),S3.output.trans (k3.output.trans k1.output),lJ Rn (lJ k3.size S3.size),fun k hk hn=>?_⟩;have xK:k≠l:=fun e=>hn (e▸Jv)
    have hZ:k∉BG:=fun q=>hn (zO _ q)
    have a1:=k1.block k hk (by simp[xK,hZ]);have a2:=k3.block k (by omega) (fun q=>by
     rcases GZ k q with q|q
     .omega
     .exact hZ q)
    have a3:=S3.block k (by have:=k3.size;omega) (by simpa using xK);exact a3.trans (a2.trans a1)
  intro e qS w3 VC;cases e with
  |normal=>exact fin none qS w3 VC
  |ret=>exact fin (some .ret) qS w3 VC
  |exit id=>exact fin (some (.exit id)) qS w3 VC
  |goto t=>exact VC.elim
  |panic ch=>exact VC.elim
  |outgrown=>exact VC.elim
 |ret=>obtain⟨_,_,_,q,_⟩:=hq;exact q.elim
 |exit id=>obtain⟨_,_,_,q,_⟩:=hq;exact q.elim
 |goto t=>exact hq.elim
 |panic ch=>exact hq.elim
 |outgrown=>exact hq.elim
end
section
universe u
section
variable {α:Type u}
end
theorem ZrE (a b:Nat):Nat.beq a b=decide (a=b):=by
 cases h:Nat.beq a b with
 |true=>rw[Nat.eq_of_beq_eq_true h];simp
 |false=>
  have:a≠b:=fun e=>by subst e;rw[Nat.beq_refl]at h;cases h
  simp[this]
def Site.NP (d:Nat):Site->Bool
 |.loc e _=>Nat.beq d e
 |_=>false
theorem Site.ZwN (d:Nat)(s:Site):s.NP d=s.fQ d:=by
 cases s with
 |loc e j=>
  show Nat.beq d e=(d==e);rw[ZrE];rfl
 |_=>rfl
def Site.Ex:Site->Site->Bool
 |.par i,.par j=>Nat.beq i j
 |.loc a b,.loc c d=>Nat.beq a c&&Nat.beq b d
 |.ret i,.ret j=>Nat.beq i j
 |_,_=>false
theorem Site.ZxG (s t:Site):s.Ex t=decide (s=t):=by
 cases s<;>cases t<;>simp only[Site.Ex,ZrE]<;>simp
theorem Site.Zw3 (s t:Site):s.Ex t=(s==t):=by rw[Site.ZxG];rfl
def AV.Xp (d:Nat)(a:AV):Bool:=match a with
 |.pv _=>false
 |.any=>false
 |.ptr s _=>s.NP d
 |.lA s _ _ _=>s.NP d
 |.vec s _ _ _=>s.NP d
 |.mp s=>s.NP d
 |.nK s=>s.NP d
 |a=>a.has d
theorem AV.ZxD (d:Nat)(a:AV):a.Xp d=a.has d:=by cases a<;>simp[AV.Xp,AV.has,Site.ZwN]
def AV.tJ (d:Nat)(a:AV):AV:=match a.Xp d with
 |true=>.any
 |false=>a
theorem AV.s7 (d:Nat)(a:AV):a.tJ d=a.bG d:=by
 unfold AV.tJ AV.bG;rw[AV.ZxD];cases a.has d<;>rfl
def aK.tJ (d:Nat):aK->aK
 |.cells bT=>.cells (bT.map (AV.tJ d))
 |.loop C ps nt tm st=>.loop C ps nt (tm.map fun p=>(p.1,p.2.tJ d)) st
 |b=>b
theorem aK.s7 (d:Nat)(b:aK):b.tJ d=b.bG d:=by
 have h:AV.tJ d=AV.bG d:=funext (AV.s7 d);cases b<;>simp[aK.tJ,aK.bG,h]
def AS.tJ (d:Nat)(σ:AS):AS:=⟨σ.tm.map fun p=>(p.1,p.2.tJ d),(σ.bx.filter fun p=>!p.1.NP d).map fun p=>(p.1,p.2.tJ d)⟩
theorem AS.s7 (d:Nat)(σ:AS):σ.tJ d=σ.bG d:=by
 have h:AV.tJ d=AV.bG d:=funext (AV.s7 d);have h2:aK.tJ d=aK.bG d:=funext (aK.s7 d);have h3:Site.NP d=Site.fQ d:=funext (Site.ZwN d);simp only[AS.tJ,AS.bG,h,h2,h3]
def W9 {β:Type}(s:Site):List (Site×β)->Option β
 |[]=>none
 |(a,b)::r=>match s.Ex a with
  |true=>some b
  |false=>W9 s r
theorem ZkX {β:Type}(s:Site):∀l:List (Site×β),W9 s l=l.lookup s
 |[]=>rfl
 |(a,b)::r=>by
  unfold W9;rw[List.lookup,Site.Zw3,ZkX s r];cases(s==a)<;>rfl
def AS.bF (σ:AS)(s:Site):Option aK:=W9 s σ.bx
theorem AS.NQ (σ:AS)(s:Site):σ.bF s=σ.b s:=ZkX s σ.bx
def HF (s:Site):List Site->Bool
 |[]=>false
 |a::r=>match s.Ex a with
  |true=>true
  |false=>HF s r
theorem ZnQ (s:Site):∀l:List Site,HF s l=l.contains s
 |[]=>rfl
 |a::r=>by
  unfold HF;rw[List.contains_cons,Site.Zw3,ZnQ s r];cases(s==a)<;>rfl
end
def jR (z:Int):Option Nat:=match decide (0<=z)with
 |true=>some z.toNat
 |false=>none
theorem KJ {z:Int}{n:Nat}:jR z=some n↔z=n:=by
 unfold jR;by_cases h:0<=z
 .simp[h];omega
 .simp[h];omega
def FX (n:Nat)(x:PV):Bool:=(x.cells.length==n)&&((AV.pv x).wide||(AV.pv x).one)
def HA (l:W0)(d:Nat)(σ:AS):Option (AV×AS):=
 match l with
 |.eqv neg kt x y=>match σ.o x,σ.o y with
  |.pv a,.pv b=>match kt.ok a&&kt.ok b with
   |true=>some (.pv (.bool (gS a b != neg)),σ)
   |false=>none
  |_,_=>none
 |.G2=>some (.mp (.loc d 0),(σ.tJ d).add (.loc d 0) (.map []))
 |.look kt z ok x i=>match σ.o i with
  |.pv k=>match kt.ok k with
   |true=>match σ.o x with
    |.mp s=>match σ.bF s with
     |some (.map es)=>match A1 kt es with
      |true=>some (gJ ok (eZ k es) z,σ)
      |false=>none
     |_=>none
    |.pv .cT=>some (gJ ok none z,σ)
    |_=>none
   |false=>none
  |_=>none
 |.iL kt x i v=>match σ.o i with
  |.pv k=>match kt.ok k with
   |true=>match σ.o x with
    |.mp s=>match(σ.xB (σ.o v)).bF s,(σ.xB (σ.o v)).o v with
     |some (.map es),.pv val=>match A1 kt es with
      |true=>some (.any,(σ.xB (σ.o v)).set s (.map (mI k val es)))
      |false=>none
     |_,_=>none
    |_=>none
   |false=>none
  |_=>none
 |.BJ x=>match σ.o x with
  |.mp s=>match σ.bF s with
   |some (.map es)=>some (.pv (.int .i64 es.length),σ)
   |_=>none
  |.pv .cT=>some (.pv (.int .i64 0),σ)
  |_=>none
 |.copy n x y=>match σ.cont (σ.o y) n with
  |some ys=>match σ.o x with
   |.pv (.emp _)=>some (.pv (.int .i64 0),σ)
   |.vec s n' lo len=>match σ.bF s with
    |some (.arr e eV xs)=>match(n'==n)&&(eV==n)&&Nat.ble (lo+len) xs.length with
     |true=>some (.pv (.int .i64 (ys.take len).length),σ.set s (.arr e n (aS xs lo (ys.take len))))
     |false=>none
    |_=>none
   |_=>none
  |none=>none
 |.clear n z x=>match σ.o x with
  |.pv (.emp _)=>some (.pv (.bM []),σ)
  |.vec s n' lo len=>match σ.bF s with
   |some (.arr e eV xs)=>match(n'==n)&&(eV==n)&&Nat.ble (lo+len) xs.length with
    |true=>some (.pv (.bM []),σ.set s (.arr e n (aS xs lo (List.replicate len z))))
    |false=>none
   |_=>none
  |_=>none
 |.EN n x hi=>match σ.o hi with
  |.pv (.int _ h)=>match jR h with
   |some k=>match σ.o x with
    |.ptr s off=>match σ.bF s with
     |some (.cells gF)=>match eB gF with
      |some xs=>match Nat.ble k n&&Nat.ble (off+n) xs.length with
       |true=>some (.pv (.aE false 1 ((xs.drop off).take k)),σ.cH s)
       |false=>none
      |none=>none
     |_=>none
    |.pv (.ref xs)=>match Nat.ble k n&&Nat.ble n xs.length with
     |true=>some (.pv (.aE false 1 (xs.take k)),σ)
     |false=>none
    |_=>none
   |none=>none
  |_=>none
 |.YQ _ _ _ _=>none
 |.rF x=>match σ.o x with
  |.pv (.str s)=>some (.pv (.int .i64 s.size),σ)
  |_=>none
 |.A8 x i=>match σ.o x,σ.o i with
  |.pv (.str s),.pv (.int _ z)=>match BA s z with
   |some b=>some (.pv (.int .u8 b.toNat),σ)
   |none=>none
  |_,_=>none
 |.UD x lo hi=>match σ.o x with
  |.pv (.str s)=>match σ.ob lo 0,σ.ob hi s.size with
   |some l,some h=>match jR l,jR h with
    |some i,some j=>match Nat.ble i j&&Nat.ble j s.size with
     |true=>some (.pv (.str (s.extract i j)),σ)
     |false=>none
    |_,_=>none
   |_,_=>none
  |_=>none
 |.rH x y=>match σ.o x,σ.o y with
  |.pv (.str a),.pv (.str b)=>match Nat.ble (a.size+b.size) 9223372036854775807 with
   |true=>some (.pv (.str (a++b)),σ)
   |false=>none
  |_,_=>none
 |.AZ _ x=>match σ.o x with
  |.pv (.str s)=>match Nat.ble s.size 1000000 with
   |true=>some (.pv (.aE false 1 (qH s)),σ)
   |false=>none
  |_=>none
 |.UE x=>match σ.cont (σ.o x) 1 with
  |some xs=>match EC xs with
   |some ns=>some (.pv (.str (NW ns)),σ)
   |none=>none
  |none=>none
 |.sD t x=>match σ.o x with
  |.pv a=>some (.pv (.iface t a),σ)
  |_=>none
 |.LM neg x=>match σ.o x with
  |.pv .eX=>some (.pv (.bool (!neg)),σ)
  |.pv (.iface _ _)=>some (.pv (.bool neg),σ)
  |_=>none
 |.KZ t z x=>match σ.o x with
  |.pv .eX=>some (.pv (.bM [z,.bool false]),σ)
  |.pv (.iface u a)=>some (.pv (.bM (if u=t then[a,.bool true]else[z,.bool false])),σ)
  |_=>none
 |.B6 _=>none
 |.Er _ _=>none
 |.VY e n bytes x y=>match σ.o y with
  |.pv (.str s0)=>match σ.o x with
   |.pv (.emp _)=>match Nat.ble (qH s0).length 1000000&&Nat.ble bytes 1000 with
    |true=>some (.vec (.loc d 0) n 0 (qH s0).length,(σ.tJ d).add (.loc d 0) (.arr e n (qH s0)))
    |false=>none
   |.vec s n' lo len=>match σ.bF s with
    |some (.arr e' eV xs)=>match(e'==e)&&(n'==n)&&(eV==n)&&(lo+len==xs.length)&&Nat.ble (len+(qH s0).length) 1000000&&Nat.ble bytes 1000 with
     |true=>some (.vec (.loc d 0) n 0 (len+(qH s0).length),((σ.drop s).tJ d).add (.loc d 0) (.arr e n (xs.drop lo++qH s0)))
     |false=>none
    |_=>none
   |_=>none
  |_=>none
theorem IX {a b:Nat}(h1:a<=1000000)(h2:b<=1000):a*b<=140737488355328/\a<=9223372036854775807:=
 ⟨lJ (Nat.mul_le_mul h1 h2) (by decide),by omega⟩
theorem ZlR {l:W0}{d:Nat}{σ τ:AS}{a:AV}{K:AV->AS->Prop}(h:HA l d σ=some (a,τ))(hK:K a τ):cD l d K σ:=by
 cases l
 all_goals
  simp only[HA,AS.s7,AS.NQ]at h;simp only[cD]
  repeat' split at h
  all_goals first
   |(cases h;done)
   |(cases h;simp_all;done)
   |(cases h;simp_all;exact IX (by omega) (by omega))
   |(cases h;simp_all;omega)
   |(cases h;simp_all [KJ];done)
   |(cases h;simp_all [KJ];omega)
def EO (l:lV)(d:Nat)(σ:AS):Option (AV×AS):=
 match l with
 |.dW x=>some (σ.o x,σ)
 |.pick c a b=>match σ.o c with
  |.pv (.bool true)=>some (σ.o a,σ)
  |.pv (.bool false)=>some (σ.o b,σ)
  |_=>none
 |.bin bt op x y=>match σ.o x,σ.o y with
  |.pv (.int k a),.pv (.int k' b)=>match DO op k k' a b with
   |some r=>some (.pv r,σ)
   |none=>none
  |.pv (.bool a),.pv (.bool b)=>match bt with
   |true=>match DP op a b with
    |some r=>some (.pv r,σ)
    |none=>none
   |false=>none
  |_,_=>none
 |.not x=>match σ.o x with
  |.pv (.bool a)=>some (.pv (.bool (!a)),σ)
  |_=>none
 |.neg x=>match σ.o x with
  |.pv (.int k a)=>some (.pv (.int k (k.wrap (0-a))),σ)
  |_=>none
 |.yF k neg x=>match dI k (σ.o x)with
  |some b=>some (.pv (.bool (b != neg)),σ)
  |none=>none
 |.x y=>HA y d σ
 |.box n x=>let a:=(σ.tJ d).o x
  match(a.cells.length==n)&&(a.wide||a.one)with
  |true=>some (.ptr (.loc d 0) 0,(σ.tJ d).add (.loc d 0) (.cells a.cells))
  |false=>none
 |.alloc z=>some (.ptr (.loc d 0) 0,(σ.tJ d).add (.loc d 0) (.cells (z.cells.map .pv)))
 |.build z ps=>match wP σ (z.cells.map .pv) ps with
  |some l=>some (v7 l,σ)
  |none=>none
 |.aR e n ps=>match(σ.DW ps).tN ps with
  |some []=>some (.pv (.emp (some false)),σ)
  |some (x::xs)=>match(x::xs).all (FX n)with
   |true=>some (.vec (.loc d 0) n 0 (x::xs).length,((σ.DW ps).tJ d).add (.loc d 0) (.arr e n (x::xs)))
   |false=>none
  |none=>none
 |.load row n x=>match σ.o x with
  |.pv (.ref cs)=>match row with
   |true=>match Nat.ble n cs.length with
    |true=>some (.pv (.agg (cs.take n)),σ)
    |false=>none
   |false=>match cs with
    |c::_=>some (.pv c,σ)
    |[]=>none
  |.ptr s off=>match σ.bF s with
   |some (.cells bT)=>match row with
    |true=>match Nat.ble (off+n) bT.length with
     |true=>some (v7 ((bT.drop off).take n),σ)
     |false=>none
    |false=>match bT[off]? with
     |some a=>some (a,σ)
     |none=>none
   |_=>none
  |.lA s n' i off=>match σ.bF s with
   |some (.arr _ eV xs)=>match xs[i]? with
    |some x=>match n'==eV with
     |true=>match row with
      |true=>match Nat.ble (off+n) x.cells.length with
       |true=>some (.pv (.agg ((x.cells.drop off).take n)),σ)
       |false=>none
      |false=>match x.cells[off]? with
       |some c=>some (.pv c,σ)
       |none=>none
     |false=>none
    |none=>none
   |_=>none
  |_=>none
 |.store n x y=>match σ.o x with
  |.ptr s off=>match σ.bF s with
   |some (.cells bT)=>let a:=σ.o y
    match(a.cells.length==n)&&(a.wide||a.one)&&Nat.ble (off+n) bT.length with
    |true=>some (.any,σ.set s (.cells (aS bT off a.cells)))
    |false=>none
   |_=>none
  |.lA s n' i off=>match(σ.xB (σ.o y)).bF s,(σ.xB (σ.o y)).o y with
    |some (.arr e eV xs),.pv p=>match xs[i]? with
     |some x=>match(n'==eV)&&Nat.blt 0 n&&FX n p&&Nat.ble (off+n) x.cells.length with
      |true=>some (.any,(σ.xB (σ.o y)).set s (.arr e eV (xs.set i (setAt x off p))))
      |false=>none
     |none=>none
    |_,_=>none
  |_=>none
 |.fa off x=>match σ.o x with
  |.pv (.ref cs)=>match Nat.ble off cs.length with
   |true=>some (.pv (.ref (cs.drop off)),σ)
   |false=>none
  |.ptr s o=>some (.ptr s (o+off),σ)
  |.lA s n i o=>some (.lA s n i (o+off),σ)
  |_=>none
 |.NA row off n x=>let a:=σ.o x
  match a.wide with
  |true=>match row with
   |true=>match Nat.ble (off+n) a.cells.length with
    |true=>some (v7 ((a.cells.drop off).take n),σ)
    |false=>none
   |false=>match a.cells[off]? with
    |some c=>some (c,σ)
    |none=>none
  |false=>none
 |.ia n arr x i=>match σ.o i with
  |.pv (.int _ zi)=>match jR zi with
   |none=>none
   |some z=>match arr with
    |none=>match σ.o x with
     |.pv (.aE _ n' xs)=>match xs[z]? with
      |some y=>match n'==n with
       |true=>some (.pv (.ref y.cells),σ)
       |false=>none
      |none=>none
     |.vec s n' lo len=>match(n'==n)&&Nat.blt z len with
      |true=>some (.lA s n (lo+z) 0,σ)
      |false=>none
     |_=>none
    |some l=>match Nat.blt z l with
     |true=>match σ.o x with
      |.pv (.ref cs)=>match Nat.ble (z*n) cs.length with
       |true=>some (.pv (.ref (cs.drop (z*n))),σ)
       |false=>none
      |.ptr s o=>some (.ptr s (o+z*n),σ)
      |.lA s n' j o=>some (.lA s n' j (o+z*n),σ)
      |_=>none
     |false=>none
  |_=>none
 |.len arr x=>match arr with
  |some l=>some (.pv (.int .i64 l),σ)
  |none=>match σ.o x with
   |.pv (.aE _ _ xs)=>some (.pv (.int .i64 xs.length),σ)
   |.pv (.emp _)=>some (.pv (.int .i64 0),σ)
   |.vec _ _ _ len=>some (.pv (.int .i64 len),σ)
   |_=>none
 |.ext x i=>match σ.o x with
  |.pv (.bM vs)=>match vs[i]? with
   |some v=>some (.pv v,σ)
   |none=>none
  |.bM vs=>match vs[i]? with
   |some v=>some (v,σ)
   |none=>none
  |_=>none
 |.yG f fs cs=>match σ.tN fs,σ.tN cs with
  |some a,some b=>some (.pv (.fn f a b),σ)
  |_,_=>some (.fn f (fs.map σ.o) (cs.map σ.o),σ)
 |.vQ x=>match σ.o x with
  |.pv (.ref cs)=>some (.pv (.ref cs),σ)
  |.ptr s o=>some (.ptr s o,σ)
  |.lA s n i o=>some (.lA s n i o,σ)
  |_=>none
 |.iY mx x y=>match σ.o x,σ.o y with
  |.pv (.int k a),.pv (.int _ b)=>some (.pv (.int k (if mx=true then(if b>a then b else a)else(if b<a then b else a))),σ)
  |_,_=>none
 |.conv k x=>match σ.o x with
  |.pv (.int _ a)=>some (.pv (.int k (k.wrap a)),σ)
  |_=>none
 |.app e n bytes x y=>match σ.cont (σ.o y) n with
  |some ys=>match σ.o x with
   |.pv (.emp _)=>match Nat.ble ys.length 1000000&&Nat.ble bytes 1000 with
    |true=>some (.vec (.loc d 0) n 0 ys.length,(σ.tJ d).add (.loc d 0) (.arr e n ys))
    |false=>none
   |.vec s n' lo len=>match σ.bF s with
    |some (.arr e' eV xs)=>match(e'==e)&&(n'==n)&&(eV==n)&&(lo+len==xs.length)&&Nat.ble (len+ys.length) 1000000&&Nat.ble bytes 1000 with
     |true=>some (.vec (.loc d 0) n 0 (len+ys.length),((σ.drop s).tJ d).add (.loc d 0) (.arr e n (xs.drop lo++ys)))
     |false=>none
    |_=>none
   |_=>none
  |none=>none
 |.iM e n bytes x y=>match σ.cont (σ.o y) n with
  |some ys=>match σ.o x with
   |.pv (.emp _)=>match Nat.ble ys.length 1000000&&Nat.ble bytes 1000 with
    |true=>some (.vec (.loc d 0) n 0 ys.length,(σ.tJ d).add (.loc d 0) (.arr e n ys))
    |false=>none
   |_=>none
  |none=>none
 |.UK e n bytes z l c=>match σ.o l,σ.o c with
  |.pv (.int _ ai),.pv (.int _ bi)=>match jR ai,jR bi with
   |some a,some b=>match Nat.ble a b&&Nat.ble b 1000000&&Nat.ble bytes 1000 with
    |true=>some (.vec (.loc d 0) n 0 a,(σ.tJ d).add (.loc d 0) (.arr e n (List.replicate a z)))
    |false=>none
   |_,_=>none
  |_,_=>none
 |.J4 n none x lo hi none=>match σ.ob lo 0 with
  |some li=>match jR li with
   |none=>none
   |some l=>match σ.o x with
    |.pv (.aE nn n' xs)=>match σ.ob hi xs.length with
     |some hh=>match jR hh with
      |some h=>match Nat.ble l h&&Nat.ble h xs.length&&(n'==n)with
       |true=>some (.pv (.aE nn n ((xs.take h).drop l)),σ)
       |false=>none
      |none=>none
     |none=>none
    |.pv (.emp nl)=>match σ.ob hi 0 with
     |some hh=>match jR hh with
      |some h=>match(l==0)&&(h==0)with
       |true=>some (.pv (.emp nl),σ)
       |false=>none
      |none=>none
     |none=>none
    |.vec s n' PA len=>match σ.ob hi len with
     |some hh=>match jR hh with
      |some h=>match Nat.ble l h&&Nat.ble h len&&(n'==n)with
       |true=>some (.vec s n (PA+l) (h-l),σ)
       |false=>none
      |none=>none
     |none=>none
    |_=>none
  |none=>none
 |_=>none
theorem ZnF {l:lV}{d:Nat}{σ τ:AS}{a:AV}{K:AV->AS->Prop}(h:EO l d σ=some (a,τ))(hK:K a τ):bZ l d K σ:=by
 cases l
 case x y=>exact ZlR h hK
 case aR e n ps=>
  simp only[EO,AS.s7,AS.NQ]at h;simp only[bZ];cases hx:(σ.DW ps).tN ps with
  |none=>rw[hx]at h;cases h
  |some xs=>
   rw[hx]at h;cases xs with
   |nil=>cases h;exact hK
   |cons x r=>
    dsimp only at h ⊢;split at h
    .rename_i eU;cases h;refine⟨fun y hy=>?_,hK⟩
     have:=rA.1 eU y hy
     simpa[FX]using this
    .cases h
 case iY mx x y=>
  simp only[EO,AS.s7,AS.NQ]at h;simp only[bZ];split at h
  .rename_i e1 e2;cases h;rw[e1,e2];exact hK
  .cases h
 case store n x y=>
  simp only[EO,AS.s7,AS.NQ]at h;simp only[bZ];split at h
  .rename_i s off e1;rw[e1];dsimp only;split at h
   .rename_i bT hb;rw[hb];dsimp only;split at h
    .rename_i hc;cases h;simp only[dK,beq_iff_eq,rT,Nat.ble_eq]at hc;exact⟨hc.1.1,hc.1.2,hc.2,hK⟩
    .cases h
   .cases h
  .rename_i s n' i off e1;rw[e1];dsimp only;split at h
   .rename_i e eV xs p pO hp;rw[pO,hp];dsimp only;split at h
    .rename_i x hx;rw[hx];dsimp only;split at h
     .rename_i hc;cases h;simp only[dK,beq_iff_eq,Nat.ble_eq,FX,rT]at hc;exact⟨hc.1.1.1,tH hc.1.1.2,hc.1.2.1,hc.1.2.2,hc.2,hK⟩
     .cases h
    .cases h
   .cases h
  .cases h
 case app e n bytes x y=>
  simp only[EO,AS.s7,AS.NQ]at h;simp only[bZ]
  repeat' split at h
  all_goals first
   |contradiction
   |(cases h;done)
   |(cases h;simp_all [FX,KJ];exact IX (by omega) (by omega))
   |(cases h;simp_all [FX,KJ];exact .inl (IX (by omega) (by omega)))
 case yG f fs cs=>
  simp only[EO,AS.s7,AS.NQ]at h;simp only[bZ];cases h1:σ.tN fs<;>cases h2:σ.tN cs<;>(rw[h1,h2]at h;cases h;exact hK)
 all_goals
  simp only[EO,AS.s7,AS.NQ]at h;simp only[bZ]
  repeat' split at h
  all_goals first
   |contradiction
   |(cases h;done)
   |(cases h;simp_all [FX,KJ];done)
   |(cases h;simp_all [FX,KJ];omega)
   |(cases h;simp_all [FX,KJ];exact IX (by omega) (by omega))
def EA:List Site->Bool
 |[]=>true
 |s::r=>!HF s r&&EA r
theorem TH:∀{l:List Site},EA l=true->l.Nodup
 |[],_=>List.nodup_nil
 |s::r,h=>by
  simp only[EA,dK,Bool.not_eq_true']at h;exact List.nodup_cons.2 ⟨by have:=h.1;rw[ZnQ]at this;simpa using this,TH h.2⟩
def mO:AV->Option (FuncId×List AV×List AV)
 |.fn g fs cs=>some (g,fs,cs)
 |.pv (.fn g fs cs)=>some (g,fs.map .pv,cs.map .pv)
 |_=>none
abbrev TS:=Nat->List Nat->Option (bD×bD×(Code×Code))
def fuel:Nat:=4000
mutual
def PV.beq:PV->PV->Bool
 |.int k a,.int k' b=>decide (k=k')&&decide (a=b)
 |.bool a,.bool b=>decide (a=b)
 |.str a,.str b=>decide (a.data.toList=b.data.toList)
 |.eW,.eW=>true
 |.dP,.dP=>true
 |.cT,.cT=>true
 |.eX,.eX=>true
 |.P4,.P4=>true
 |.emp a,.emp b=>decide (a=b)
 |.aE a n xs,.aE b m ys=>decide (a=b)&&decide (n=m)&&PV.DU xs ys
 |.ref xs,.ref ys=>PV.DU xs ys
 |.fn f a b,.fn g c d=>decide (f=g)&&PV.DU a c&&PV.DU b d
 |.agg xs,.agg ys=>PV.DU xs ys
 |.bM xs,.bM ys=>PV.DU xs ys
 |.iface t x,.iface u y=>decide (t=u)&&PV.beq x y
 |_,_=>false
def PV.DU:List PV->List PV->Bool
 |[],[]=>true
 |x::xs,y::ys=>PV.beq x y&&PV.DU xs ys
 |_,_=>false
end
def zE (P:Program)(TY:TS):bD->Prop
 |.seq a b=>zE P TY a/\zE P TY b
 |.cond _ a b=>zE P TY a/\zE P TY b
 |.block _ c=>zE P TY c
 |.loop c=>zE P TY c
 |.vH nt _ C la lb ps=>dQ P nt C.1=some la/\dQ P nt C.2=some lb/\TY nt ps=some (la,lb,C)/\zE P TY la/\zE P TY lb
 |_=>True
def kP (TY:TS):bD->Prop
 |.seq a b=>kP TY a/\kP TY b
 |.cond _ a b=>kP TY a/\kP TY b
 |.block _ c=>kP TY c
 |.loop c=>kP TY c
 |.vH nt _ C la lb ps=>TY nt ps=some (la,lb,C)/\kP TY la/\kP TY lb
 |_=>True
theorem Zti {P:Program}{TY:TS}{N:Nat}:∀(c:Code) (l:bD),dQ P N c=some l->kP TY l->zE P TY l:=by
 intro c;induction c with
 |seq a b S6 o8=>
  intro l h ht;simp only[dQ]at h;split at h
  .rename_i x y h1 h2;cases h;exact⟨S6 _ h1 ht.1,o8 _ h2 ht.2⟩
  .cases h
 |cond c a b S6 o8=>
  intro l h ht;simp only[dQ]at h;split at h
  .rename_i c' x y h0 h1 h2;cases h;exact⟨S6 _ h1 ht.1,o8 _ h2 ht.2⟩
  .cases h
 |block id c ih=>
  intro l h ht;simp only[dQ,eA]at h;obtain⟨x,k1,rfl⟩:=h;exact ih x k1 ht
 |loop c ih=>
  intro l h ht;simp only[dQ,eA]at h;obtain⟨x,k1,rfl⟩:=h;exact ih x k1 ht
 |scope c ih=>intro l h ht;exact ih l h ht
 |rangeFunc g ps a b S6 o8=>
  intro l h ht;simp only[dQ]at h;split at h
  .rename_i g' x y h0 h1 h2;cases h;exact⟨h1,h2,ht.1,S6 _ h1 ht.2.1,o8 _ h2 ht.2.2⟩
  .cases h
 |region id ops draw=>
  intro l h ht;simp only[dQ]at h;split at h
  .cases h;trivial
  .split at h
   .simp only[eA]at h;obtain⟨x,_,rfl⟩:=h;trivial
   .cases h
 |_=>intro l h ht;simp[dQ]at h<;>subst h<;>trivial
section
variable {P:Program}{TY:TS}
theorem ZnE {l:lV}{d:Nat}{σ:AS}{K K':AV->AS->Prop}(hk:∀a τ,K a τ->K' a τ)(h:bZ l d K σ):bZ l d K' σ:=by
 cases l
 case x y=>
  simp only[bZ]at h ⊢;cases y
  all_goals
   simp only[cD]at h ⊢
   repeat' split at h
   all_goals first
    |exact h.elim
    |exact hk _ _ h
    |exact⟨h.1,hk _ _ h.2⟩
    |exact⟨h.1,h.2.1,hk _ _ h.2.2⟩
    |(simp_all;done)
    |(simp_all<;>first|exact hk _ _ h.2|exact hk _ _ h|exact hk _ _ h.2.2)
 case iY mx x y=>
  simp only[bZ]at h ⊢;split at h
  .exact hk _ _ h
  .exact h.elim
 case app e n bytes x y=>
  simp only[bZ]at h ⊢;split at h
  .split at h
   .exact⟨h.1,h.2.1,hk _ _ h.2.2⟩
   .split at h
    .exact h.imp (fun h=>⟨h.1,h.2.1,h.2.2.1,hk _ _ h.2.2.2⟩) (fun h=>⟨h.1,h.2.1,h.2.2.1,hk _ _ h.2.2.2.1,hk _ _ h.2.2.2.2⟩)
    .exact h.elim
   .exact h.elim
  .exact h.elim
 all_goals
  simp only[bZ]at h ⊢
  repeat' split at h
  all_goals first
   |exact h.elim
   |(simp_all;done)
   |(simp_all<;>first|exact hk _ _ h.2|exact hk _ _ h|exact hk _ _ h.2.2)
theorem ZjW {f:bB}{args:List bB}{d:Nat}{σ:AS}{K K':AV->AS->Prop}(hk:∀a τ,K a τ->K' a τ)(h:zA P f args d K σ):zA P f args d K' σ:=by
 rcases h with⟨k,g,fs,xs,cs,h1,h2,h3⟩|⟨fz,g,fs,xs,cs,h1,h2,h3⟩
 .exact .inl ⟨k,g,fs,xs,cs,h1,h2,h3.mono (fun _ _ ⟨y,e1,e2,e3⟩=>⟨y,e1,e2,hk _ _ e3⟩)⟩
 .exact .inr ⟨fz,g,fs,xs,cs,h1,h2,h3.mono (fun _ _ ⟨e1,e2⟩=>⟨e1,hk _ _ e2⟩)⟩
theorem ZiU {f:bB}{args:List bB}{σ:AS}{K K':AV->AS->Prop}(hk:∀a τ,K a τ->K' a τ)(h:GA P f args K σ):GA P f args K' σ:=by
 obtain⟨d,fz,aF,g,fs,cs,B,h1,h2,h3,h4,h5,h6⟩:=h;exact⟨d,fz,aF,g,fs,cs,B,h1,h2,h3,h4,h5,h6.mono (fun _ _ ⟨e1,e2,e3⟩=>⟨e1,e2,hk _ _ e3⟩)⟩
theorem ZiT {f:bB}{args:List bB}{σ:AS}{K K':AV->AS->Prop}(hk:∀a τ,K a τ->K' a τ)(h:FZ P f args K σ):FZ P f args K' σ:=by
 obtain⟨d,fz,aF,s,i,B,h1,h2,h3,h4,h5,h6,h7⟩:=h;refine⟨d,fz,aF,s,i,B,h1,h2,h3,h4,h5,h6,fun w m ρ vs a1 a2 a3 a4=>?_⟩;obtain⟨r,k1,k2,k3⟩:=h7 w m ρ vs a1 a2 a3 a4;exact⟨r,k1,k2,k3.mono (fun e w' ⟨v,r,B',bW,m',q1,⟨e1,e2,e3⟩,q2⟩=>⟨v,r,B',bW,m',q1,⟨e1,e2,hk _ _ e3⟩,q2⟩)⟩
theorem Zgp {o:LO}{σ:AS}{K K':AV->AS->Prop}(hk:∀a τ,K a τ->K' a τ)(h:lW P o K σ):lW P o K' σ:=by
 unfold lW at h ⊢;split at h
 .rcases h with h|⟨aJ,h|h⟩
  .exact Or.inl (ZjW hk h)
  .exact Or.inr ⟨aJ,Or.inl (ZiU hk h)⟩
  .exact Or.inr ⟨aJ,Or.inr (ZiT hk h)⟩
 .exact ZnE hk h
theorem OI {o:LO}{σ:AS}{K K':AS->Prop}(hk:∀τ,K τ->K' τ)(h:pL P o K σ):pL P o K' σ:=by
 unfold pL at h ⊢;split at h
 .exact Zgp (fun a τ q=>hk _ q) h
 .split at h
  .split at h
   .rename_i e;rw[if_pos e];exact Zgp (fun a τ q=>hk _ q) h
   .rename_i e;rw[if_neg e];exact hk _ h
  .exact hk _ h
  .exact h.elim
theorem Zgw:∀{l:List LO} {σ:AS} {K K':AS->Prop},(∀τ,K τ->K' τ)->oI P l K σ->oI P l K' σ
 |[],σ,K,K',hk,h=>hk _ h
 |o::r,σ,K,K',hk,h=>OI (fun τ q=>Zgw hk q) h
theorem Hs:∀{l:LT} {σ:AS} {K K':AS->Prop},(∀τ,K τ->K' τ)->vM P l K σ->vM P l K' σ
 |.done,σ,K,K',hk,h=>hk _ h
 |.op o t,σ,K,K',hk,h=>OI (fun τ q=>Hs hk q) h
 |.alt o t r,σ,K,K',hk,h=>⟨OI (fun τ q=>Hs hk q) h.1,Hs hk h.2⟩
 |.no,σ,K,K',hk,h=>trivial
 |.seq t r,σ,K,K',hk,⟨J,h1,h2⟩=>⟨J,h1,fun τ q=>Hs hk (h2 τ q)⟩
theorem ZlX {Q Q':sA->AS->Prop}(hk:∀e τ,Q e τ->Q' e τ):∀{st:Option Code} {σ:AS},kW Q st σ->kW Q' st σ:=by
 intro st σ h;cases st with
 |none=>exact hk _ _ h
 |some c=>cases c<;>first|exact hk _ _ h|exact h.elim
theorem KE:∀{c:bD} {σ:AS} {Q Q':sA->AS->Prop},uE P c Q σ->(∀e τ,Q e τ->Q' e τ)->uE P c Q' σ
 |.skip,σ,Q,Q',h,hk=>hk _ _ h
 |.region ops,σ,Q,Q',h,hk=>Zgw (fun τ q=>hk _ _ q) h
 |.jH t,σ,Q,Q',h,hk=>Hs (fun τ q=>hk _ _ q) h
 |.seq a b,σ,Q,Q',h,hk=>KE (c:=a) h (fun e τ q=>by
   cases e with
   |normal=>exact KE (c:=b) q hk
   |exit id=>exact hk _ _ q
   |ret=>exact hk _ _ q)
 |.cond c a b,σ,Q,Q',h,hk=>by
   unfold uE at h ⊢;split at h
   .split at h
    .rename_i e;rw[if_pos e];exact KE h hk
    .rename_i e;rw[if_neg e];exact KE h hk
   .exact h.elim
 |.block id c,σ,Q,Q',h,hk=>KE (c:=c) h (fun e τ q=>by
   cases e with
   |normal=>exact hk _ _ q
   |exit LY=>
    by_cases e:LY=id
    .simp only[j4,e,if_true]at q ⊢;exact hk _ _ q
    .simp only[j4,e,if_false]at q ⊢;exact hk _ _ q
   |ret=>exact hk _ _ q)
 |.loop c,σ,Q,Q',⟨I,n,τ,h1,h2,h3⟩,hk=>⟨I,n,τ,h1,h2,fun n τ hI=>KE (c:=c) (h3 n τ hI) (fun e τ q=>by
   cases e with
   |normal=>exact q
   |exit id=>exact hk _ _ q
   |ret=>exact hk _ _ q)⟩
 |.exit id,σ,Q,Q',h,hk=>hk _ _ h
 |.ret,σ,Q,Q',h,hk=>hk _ _ h
 |.vH nt g C la lb ps,σ,Q,Q',⟨Pu,Aq,fz,aF,tm,lK,gf,fs,cs,B,h1,h2,h3,h4,h5,h6,h7,h8⟩,hk=>⟨Pu,Aq,fz,aF,tm,lK,gf,fs,cs,B,h1,h2,h3,h4,h5,h6,h7,h8.mono (fun r B' ⟨e1,e2,e3⟩=>⟨e1,e2,by
   revert e3;cases(((cK aF lK).bG (nt+1)).lU (fA aF (nt+1) B')).b (.loc nt 0)with
   |none=>exact fun h=>h.elim
   |some b=>cases b<;>first|exact fun h=>h.elim|exact fun h=>ZlX hk h⟩)⟩
end
section
variable {P:Program}{TY:TS}
theorem FV.mono {i:Nat}{bT:List AV}{B:List (Site×aK)}{nW P0:AV->List (Site×aK)->Prop}(h:FV P i bT B nW)(hp:∀r B',nW r B'->P0 r B'):FV P i bT B P0:=
 fun w m ρ vs a1 a2 a3 a4=>let ⟨r,k1,k2,k3⟩:=h w m ρ vs a1 a2 a3 a4;⟨r,k1,k2,k3.mono (fun e w' ⟨v,r,B',bW,m',q1,q2,q3⟩=>⟨v,r,B',bW,m',q1,hp _ _ q2,q3⟩)⟩
mutual
theorem PV.beq_eq:∀(x y:PV),x.beq y=true->x=y
 |.int k a,y,h=>by cases y<;>simp[PV.beq]at h;rw[h.1,h.2]
 |.bool a,y,h=>by cases y<;>simp[PV.beq]at h;rw[h]
 |.str a,y,h=>by
  cases y<;>simp[PV.beq]at h;rename_i b;obtain⟨a⟩:=a;obtain⟨b⟩:=b
  have:a=b:=h
  rw[this]
 |.eW,y,h=>by cases y<;>simp[PV.beq]at h<;>rfl
 |.dP,y,h=>by cases y<;>simp[PV.beq]at h<;>rfl
 |.cT,y,h=>by cases y<;>simp[PV.beq]at h<;>rfl
 |.eX,y,h=>by cases y<;>simp[PV.beq]at h<;>rfl
 |.P4,y,h=>by cases y<;>simp[PV.beq]at h<;>rfl
 |.emp a,y,h=>by cases y<;>simp[PV.beq]at h;rw[h]
 |.aE a n xs,y,h=>by
  cases y<;>simp[PV.beq]at h;rw[h.1.1,h.1.2,PV.SS _ _ h.2]
 |.ref xs,y,h=>by cases y<;>simp[PV.beq]at h;rw[PV.SS _ _ h]
 |.fn f a b,y,h=>by
  cases y<;>simp[PV.beq]at h;rw[h.1.1,PV.SS _ _ h.1.2,PV.SS _ _ h.2]
 |.agg xs,y,h=>by cases y<;>simp[PV.beq]at h;rw[PV.SS _ _ h]
 |.bM xs,y,h=>by cases y<;>simp[PV.beq]at h;rw[PV.SS _ _ h]
 |.iface t x,y,h=>by
  cases y<;>simp[PV.beq]at h;rw[h.1,PV.beq_eq _ _ h.2]
theorem PV.SS:∀(x y:List PV),PV.DU x y=true->x=y
 |[],[],_=>rfl
 |[],_::_,h=>by simp[PV.DU]at h
 |_::_,[],h=>by simp[PV.DU]at h
 |x::xs,y::ys,h=>by
  simp only[PV.DU,dK]at h;rw[PV.beq_eq _ _ h.1,PV.SS _ _ h.2]
end
end
def GH:Code->List (Code×Code)
 |.seq a b=>GH a++GH b
 |.cond _ a b=>GH a++GH b
 |.block _ c=>GH c
 |.loop c=>GH c
 |.scope c=>GH c
 |.rangeFunc _ _ a b=>(a,b)::(GH a++GH b)
 |_=>[]
def fR (P:Program)(f:FuncId)(k:Nat):Code×Code:=match P.funcs[f]? with
 |some fn=>match fn.body with
  |some c=>(GH c).getD k (.skip,.skip)
  |none=>(.skip,.skip)
 |none=>(.skip,.skip)
def pE (l:List ((Nat×List Nat)×(bD×bD×(Code×Code)))):TS:=fun nt ps=>l.lookup (nt,ps)
theorem Gg {P:Program}{TY:TS}{f:FuncId}{F:aZ}(h:fV P f=some F)(ht:kP TY F.code):zE P TY F.code:=by
 unfold fV at h;split at h
 .split at h
  .cases h
  .split at h
   .split at h
    .rename_i l r h1 h2;cases h;exact Zti _ _ h1 ht
    .cases h
   .cases h
 .cases h
section
open Go.RowKit Go.ChangeShapes Go.WideShapes
theorem cV.but {w w':World}(h:cV [] w w')(may:MemPlace->Prop):w.keptBut w' may:=
 ⟨h.os,h.output,fun i hi=>by
  rw[h.block i hi (by simp)];cases w.heap[i]? with
  |none=>rfl
  |some o=>cases o<;>first|exact⟨rfl,rfl,rfl,fun _ _=>rfl⟩|exact .inr ⟨rfl,rfl⟩|rfl⟩
theorem Zns {H:Type}{enc:TypeId×Value->H}{P:Program}{f:Func}{s:ChangeSpec}{apart fresh handsOn again:Bool}{W W':World}{args:Array Value}{v:Value}{ds gs:List (DataW H)}{before pa pv:List MemPlace}
  (hW:DataW.Whole enc P f.params.toList s.vars apart W args.toList ds gs before)
  (eO:∀(b:Nat) (sp:Nat->Bool) (hd:Bool),DataW.TrodAll enc P W' b sp hd f.resultTypes.toList (v.resultList f.resultTypes.size) (s.fn H (ds++gs)).results [])
  (fY:∀sp:Nat->Bool,(∀p∈before,sp p.block=true)->DataW.TrodAll enc P W' 0 sp true f.params.toList args.toList (s.fn H (ds++gs)).args pa)
  (K6:∀sp:Nat->Bool,(∀p∈before,sp p.block=true)->DataW.TrodVars enc P W' sp s.vars (s.fn H (ds++gs)).vars pv)
  (yI:before=pa++pv) (hk:cV [] W W')
  (dD:∀(j:Nat) (t:TypeId) (r:Value),f.resultTypes[j]?=some t->(v.resultList f.resultTypes.size)[j]?=some r->Value.okWide P W' .any 0 t r):
  s.post enc P f apart fresh handsOn again W args v W':=by
 have aJ:=fun p hp=>hW.lt p hp
 have hold:∀p∈before,(fun b=>decide (b<W.heap.size)) p.block=true:=fun p hp=>by simpa using hW.lt p hp
 refine⟨ds,gs,before,[],pa,pv,hW,eO _ _ _,fY _ hold,K6 _ hold,World.keptBut_mono (fun p hp=>⟨hp,?_⟩) (hk.but (·∈before)),fun _=>?_⟩
 .rw[yI,sG]at hp;exact Or.inr hp
 .obtain⟨_,_,_,_,_,hz,hn⟩:=hW;refine⟨dD,_,_,([]++pa)++pv,⟨[]++pa,pv,trodAll_append (fY _ (fun _ _=>rfl)) (eO _ _ _),K6 _ (fun _ _=>rfl),rfl,?_,?_⟩,?_⟩
  .intro b off hp;have ME:MemPlace.cell b off∈before:=by rw[yI];simpa using hp
   have hb:b<W.heap.size:=aJ _ ME
   have:=hz b off ME
   unfold World.frozen? at this ⊢;rw[hk.block b hb (by simp)];exact this
  .intro ha
   have:=hn ha
   rw[yI]at this;simpa using this
  .intro p hp _;rw[yI];simpa using hp
theorem Zl6 {P:Program}{f:FuncId}{xs:List PV}{b:Bool}(h:cN P f (xs.map .pv) [] (fun r _=>r=.pv (.bool b))){w:World}{vs:Array Value}(hl:vs.size=xs.length)(hv:∀(j:Nat) (v:Value) (x:PV),vs[j]?=some v->xs[j]?=some x->dH w.mem v x)(hg:nJ w.mem w:=by exact trivial):
  Calls P f vs w fun e w'=>e=.returned (.bool b)/\cV [] w w':=by
 refine(h.2 w w.mem (fun _=>default) vs (vC.nil _ _ _) ⟨Le.refl _,hg,List.nodup_nil⟩ (by simpa using hl) (fun j d c h1 h2=>?_)).mono fun e w' ⟨v,r,B',bW,m',he,hr,_,_,_,_,_,_,lF,hk⟩=>?_
 .rw[bX]at h2;obtain⟨x,k1,rfl⟩:=eA.1 h2;exact .pv _ _ (hv j d x h1 k1)
 .subst hr;rw[lF.NT]at he;exact⟨he,hk⟩
end
section
open Go.RowKit Go.ChangeShapes Go.WideShapes Go.Deep
section
variable {H:Type}{enc:TypeId×Value->H}{P:Program}{w W W':World}{sp:Nat->Bool}{held:Bool}
theorem Zrc {b o n:Nat}{cs:List Value}(h:w.cells? 0 ⟨b,o,none⟩ n=some cs):At w.mem b o cs:=by
 obtain⟨_,h1,h2⟩:=World.cells?_some h;refine At.i6 fun j u hj=>?_
 have aJ:=(cA.1 hj).1;have h3:=h2 j (by omega);rw[hj]at h3;have e:(⟨b,o,none⟩:Addr).add j=⟨b,o+j,none⟩:=by
  unfold Addr.add;split
  .rename_i h0;subst h0;rfl
  .rfl
 rw[e]at h3;exact h3
structure G0 (m:Mem)(n:Nat)(cs:List Value)(x:PV):Prop where
 l1:cs.length=n
 l2:x.cells.length=n
 one:∀d∈cs,d.oneCell'=true
 rd:∀(j:Nat) (d:Value) (c:PV),cs[j]?=some d->x.cells[j]?=some c->dH m d c
theorem ZjO {α β:Type}{p:Nat->α->β->Prop}:∀(l:List α),(∀(i:Nat) (a:α),l[i]?=some a->∃b,p i a b)->∃r:List β,r.length=l.length/\∀(i:Nat) (a:α) (b:β),l[i]?=some a->r[i]?=some b->p i a b:=by
 intro l;induction l generalizing p with
 |nil=>exact fun _=>⟨[],rfl,fun i a b h=>by simp at h⟩
 |cons x l ih=>
  intro h;obtain⟨b,hb⟩:=h 0 x rfl;obtain⟨r,h1,h2⟩:=ih (p:=fun i=>p (i+1)) (fun i a ha=>h (i+1) a (by simpa using ha));refine⟨b::r,by simp[h1],fun i a b' ha nM=>?_⟩;cases i with
  |zero=>simp at ha nM;subst ha nM;exact hb
  |succ i=>exact h2 i a b' (by simpa using ha) (by simpa using nM)
theorem ZpC {α:Type}{t e:TypeId}{n:Nat}(f:α->PV)(Q:α->Prop)(ht:P.underlying t=some (.slice e))(hn:P.cellsOf e=n){fuel:Nat}{v:Value}{x:DataW H×List MemPlace}(h:DataW.trod enc P w 0 sp held fuel t [v]=some x)
  (hs:∀a len cap,v=.slice (some a) len cap->a.spot=none) (he:∀(k:Nat) (cs:List Value) (y:DataW H×List MemPlace),DataW.trod enc P w 0 sp held k e cs=some y->cs.length=n->∃a:α,Q a/\G0 w.mem n cs (f a)):
  ∃l:List α,(∀a∈l,Q a)/\l.length<=9223372036854775807/\dH w.mem v (.aE false n (l.map f)):=by
 rcases open_slice ht h with⟨h0,_⟩|⟨a,len,cap,m,k,D,Pl,h0,_,hl,hc,hm,_,hx⟩
 .have:v=.slice none 0 0:=by simpa using h0
  subst this;refine⟨[],fun a ha=>by simp at ha,by simp,?_⟩;exact .aE none 0 false n [] (fun _=>[]) (by simp) (by simp) (fun _=>rfl) (fun A hA=>by cases hA) (fun hh=>by cases hh) (fun i x hx=>by simp at hx) (fun i x hx=>by simp at hx) (fun i x j d c hx=>by simp at hx)
 .have hv:v=.slice (some a) len cap:=by simpa using h0
  subst hv;have jJ:=hs _ _ _ rfl;obtain⟨b,o,s⟩:=a;simp only at jJ;subst jJ;have T4:len<=m:=by rw[hm];split<;>omega
  have QW:∀(i:Nat) (u:Nat),(List.range len)[i]?=some u->∃z:List Value×α,Q z.2/\At w.mem b (o+i*n) z.1/\G0 w.mem n z.1 (f z.2):=by
   intro i u hu;have hi:i<len:=by have:=(cA.1 hu).1;simpa using this
   obtain⟨iI,h1,h2⟩:=hx i (by omega);rw[hn]at h1;obtain⟨_,hlen,_⟩:=World.cells?_some h1;obtain⟨z,X3,P6⟩:=he _ _ _ h2 hlen;refine⟨(iI,z),X3,?_,P6⟩;have e:(⟨b,o,none⟩:Addr).add (i*n)=⟨b,o+i*n,none⟩:=by
    unfold Addr.add;split
    .rename_i h0;rw[h0];rfl
    .rfl
   rw[e]at h1;exact Zrc h1
  obtain⟨r,D3,D0⟩:=ZjO (List.range len) QW;simp only[List.length_range]at D3;have Z1:∀(i:Nat) (z:List Value×α),r[i]?=some z->Q z.2/\At w.mem b (o+i*n) z.1/\G0 w.mem n z.1 (f z.2):=fun i z hz=>by
   have hi:i<len:=by have:=(cA.1 hz).1;omega
   exact D0 i i z (by simp[hi]) hz
  refine⟨r.map (·.2),fun a ha=>?_,?_,?_⟩
  .obtain⟨z,hz,rfl⟩:=iJ.1 ha;obtain⟨i,hi⟩:=iK.1 hz;exact(Z1 i z hi).1
  .rw[fZ,D3];have:maxLen=9223372036854775807:=rfl;omega
  .have hlen:((r.map (·.2)).map f).length=len:=by simp[D3]
   have key:∀(i:Nat) (x:PV),((r.map (·.2)).map f)[i]?=some x->∃z,r[i]?=some z/\x=f z.2:=fun i x hx=>by
    rw[List.map_map,bX]at hx;obtain⟨z,h1,h2⟩:=eA.1 hx;exact⟨z,h1,h2.symm⟩
   have QX:∀(i:Nat) (z:List Value×α),r[i]?=some z->(r.getD i ([],z.2)).1=z.1:=fun i z hz=>by simp[List.getD_eq_getElem?_getD,hz]
   have wK:∀(i:Nat) (z:List Value×α),r[i]?=some z->(match r[i]? with|some z=>z.1|none=>[])=z.1:=fun i z hz=>by rw[hz]
   rw[<-hlen];refine .aE (some ⟨b,o,none⟩) cap false n _ (fun i=>match r[i]? with|some z=>z.1|none=>[]) (by omega) (by have:maxLen=9223372036854775807:=rfl;omega) (fun hh=>by cases hh) (fun A hA=>by cases hA;rfl) (fun hh=>by cases hh) (fun i x hx=>?_) (fun i x hx=>?_) (fun i x j d c hx=>?_)
   .obtain⟨z,hz,rfl⟩:=key i x hx;refine⟨b,o,rfl,?_⟩;rw[wK i z hz];exact(Z1 i z hz).2.1
   .obtain⟨z,hz,rfl⟩:=key i x hx;rw[wK i z hz];exact⟨(Z1 i z hz).2.2.l1,(Z1 i z hz).2.2.l2,(Z1 i z hz).2.2.one⟩
   .obtain⟨z,hz,rfl⟩:=key i x hx;rw[wK i z hz];exact(Z1 i z hz).2.2.rd j d c
theorem Zmg (hl:laidOutB P=true)(hm:mapsRowed P=true)(CS:((List.range P.types.size).all fun t=>match P.underlying t with|some (.slice e)=>decide (0<P.cellsOf e)|_=>true)=true){ts:List TypeId}(Jp:∀t∈ts,t<P.types.size)
  {vs:List Value} {ds:List (DataW H)} {p:List MemPlace} (h:DataW.TrodAll enc P W 0 (fun _=>true) true ts vs ds p) (hp:∀x∈p,sp x.block=true) (hk:cV [] W W'):DataW.TrodAll enc P W' 0 sp true ts vs ds p:=by
 have h1:=DataW.TrodAll.respare (kids_rows hl hm) (slices_full_of P CS) Jp h hp;clear h hp;induction ts generalizing vs ds p with
 |nil=>
  obtain⟨rfl,rfl,rfl⟩:=trodAll_nil h1;exact trodAll_mk0
 |cons t ts ih=>
  obtain⟨v,YM,d,ds',a,b,rfl,rfl,rfl,⟨n,hn⟩,h2⟩:=trodAll_cons h1;refine⟨a,b,⟨n,DataW.trod_carry n _ _ _ hn fun x hx=>?_⟩,ih (fun t ht=>Jp t (by simp[ht])) h2,rfl⟩;have aJ:=DataW.trod_lt n _ _ _ hn x hx;cases x with
  |cell b o=>
   show W'.cell? _=W.cell? _;unfold World.cell?;rw[hk.block b aJ (by simp)]
  |map b=>
   show W'.heap[b]?=W.heap[b]?;rw[hk.block b aJ (by simp)]
theorem ZpI {f:Func}{s:ChangeSpec}{args:Array Value}{ds gs:List (DataW H)}{before:List MemPlace}{tb:TypeId}(hl:laidOutB P=true)(hm:mapsRowed P=true)(CS:((List.range P.types.size).all fun t=>match P.underlying t with|some (.slice e)=>decide (0<P.cellsOf e)|_=>true)=true)
  (Jp:∀t∈f.params.toList,t<P.types.size) (K6:s.vars=[]) (hs:s.fn H (ds++gs)={ results:=[.lit (.bool true)],args:=ds }) (eO:f.resultTypes=#[tb]) (htb:P.underlying tb=some .bool)
  (hW:DataW.Whole enc P f.params.toList s.vars false W args.toList ds gs before) (hk:cV [] W W'):s.post enc P f false true false false W args (.bool true) W':=by
 have Vm:=hW;obtain⟨p,q,hA,hV,rfl,hfz,pZ⟩:=hW;rw[K6]at hV;obtain⟨rfl,rfl⟩:=trodVars_none hV;refine Zns (pa:=p) (pv:=[]) Vm (fun b sp hd=>?_) (fun sp jJ=>?_) (fun sp jJ=>?_) rfl hk ?_
 .rw[hs,eO];exact trodAll_cons_mk (shut_bool htb _) trodAll_mk0
 .rw[hs];exact Zmg hl hm CS Jp hA (fun x hx=>jJ x (by simp[hx])) hk
 .rw[hs,K6];rfl
 .intro j t r h1 h2;rw[eO]at h1 h2;exact ok_one (f:=f) eO rfl (okWide_bool_mk htb _) j t r (by rw[eO];exact h1) (by rw[eO];exact h2)
end
end
section
open Go.RowKit Go.ChangeShapes Go.WideShapes Go.Deep
section
variable {H:Type}{enc:TypeId×Value->H}{P:Program}{w W W':World}{sp:Nat->Bool}{held:Bool}
theorem Znd {α:Type}{t e:TypeId}{n:Nat}(f:α->PV)(Q:α->Prop)(ht:P.underlying t=some (.slice e))(hn:P.cellsOf e=n)(xJ:0<n){fuel:Nat}{v:Value}{x:DataW H×List MemPlace}(h:DataW.trod enc P w 0 sp held fuel t [v]=some x)
  (he:∀(k:Nat) (cs:List Value) (y:DataW H×List MemPlace),DataW.trod enc P w 0 sp held k e cs=some y->cs.length=n->∃a:α,Q a/\G0 w.mem n cs (f a)):
  ∃l:List α,(∀a∈l,Q a)/\l.length<=9223372036854775807/\dH w.mem v (.aE false n (l.map f)):=by
 by_cases hv:∃a cap,v=.slice (some a) 0 cap/\cap<=maxLen
 .obtain⟨a,cap,rfl,hc⟩:=hv;refine⟨[],fun a ha=>by simp at ha,by simp,?_⟩;have sS:cap<=9223372036854775807:=by have:maxLen=9223372036854775807:=rfl;omega
  exact .aE (some a) cap false n [] (fun _=>[]) (by simp) sS (fun e=>by cases e) (fun _ _=>rfl) (fun hh=>by cases hh) (fun i x hx=>by simp at hx) (fun i x hx=>by simp at hx) (fun i x j d c hx=>by simp at hx)
 .refine ZpC f Q ht hn h (fun a len cap e=>?_) he;subst e;rcases open_slice ht h with⟨h0,_⟩|⟨a',Rm,JB,m,k,D,Pl,h0,_,hl,hc,hm,_,hx⟩
  .simp at h0
  .simp at h0;obtain⟨rfl,rfl,rfl⟩:=h0;have hlen:0<len:=by
    rcases Nat.eq_zero_or_pos len with e|e
    .subst e;exact absurd ⟨a,cap,rfl,hc⟩ hv
    .exact e
   have T4:len<=m:=by rw[hm];split<;>omega
   obtain⟨cs,h1,_⟩:=hx 0 (by omega);obtain⟨_,h2,h3⟩:=World.cells?_some h1;have h4:=h3 0 (by omega);rw[bC (by omega)]at h4
   have:=World.cell?_spot h4
   simpa[Addr.add]using this
end
end
def aD (P:Program)(f:FuncId)(xs:List PV)(y:PV):Prop:=cN P f (xs.map .pv) [] (fun r B=>r=.pv y/\B=[])
def hold (K:AS->Prop):AS->Prop:=K
def B7 (r:Option (AV×AS))(l:lV)(d:Nat)(K:AV->AS->Prop)(σ:AS):Prop:=match r with
 |some (a,τ)=>K a τ
 |none=>bZ l d K σ
def A9 (P:Program)(o:LO)(K:AV->AS->Prop)(σ:AS):Prop:=match o.op with
 |.call _ _=>lW P o K σ
 |l=>B7 (EO l (o.dst.getD 0) σ) l (o.dst.getD 0) K σ
def F0 (P:Program)(a:Option AV)(want:Bool)(o:LO)(K:AS->Prop)(σ:AS):Prop:=match a with
 |some (.pv (.bool b))=>if b=want then A9 P o (fun a τ=>K (τ.oV o.dst a)) σ else K (σ.oV o.dst A6)
 |some (.pv (.bM []))=>K (σ.oV o.dst A6)
 |_=>False
def ES (P:Program)(o:LO)(K:AS->Prop)(σ:AS):Prop:=match o.g with
 |none=>A9 P o (fun a τ=>K (τ.oV o.dst a)) σ
 |some (t,want)=>F0 P (σ.t t) want o K σ
def B8 (P:Program):List LO->(AS->Prop)->AS->Prop
 |[],K,σ=>K σ
 |o::r,K,σ=>ES P o (hold (B8 P r K)) σ
def gK (P:Program):LT->(AS->Prop)->AS->Prop
 |.done,K,σ=>K σ
 |.op o t,K,σ=>ES P o (hold (gK P t K)) σ
 |.alt o t r,K,σ=>ES P o (hold (gK P t K)) σ/\gK P r K σ
 |.no,_,_=>True
 |.seq t r,K,σ=>∃J:AS->Prop,gK P t (fun zF=>∃τ,Sub τ zF/\J τ) σ/\∀τ,J τ->gK P r K τ
def r9 (a:AV)(A B:AS->Prop)(σ:AS):Prop:=match a with
 |.pv (.bool true)=>A σ
 |.pv (.bool false)=>B σ
 |_=>False
def eL (P:Program):bD->(sA->AS->Prop)->AS->Prop
 |.skip,Q,σ=>Q .normal σ
 |.region ops,Q,σ=>B8 P ops (Q .normal) σ
 |.jH t,Q,σ=>gK P t (Q .normal) σ
 |.seq a b,Q,σ=>eL P a (iR (hold (eL P b Q)) Q) σ
 |.cond c a b,Q,σ=>r9 (σ.o c) (hold (eL P a Q)) (hold (eL P b Q)) σ
 |.block id c,Q,σ=>eL P c (j4 id Q) σ
 |.loop c,Q,σ=>∃(I:Nat->AS->Prop) (n:Nat) (τ:AS),Sub τ σ/\I n τ/\∀n τ,I n τ->eL P c (iR (again I n) Q) τ
 |.exit id,Q,σ=>Q (.exit id) σ
 |.ret,Q,σ=>Q .ret σ
 |.vH nt g C _ _ ps,Q,σ=>J6 P nt g C ps Q σ
section
variable {P:Program}
theorem ZsY {l:lV}{d:Nat}{K:AV->AS->Prop}{σ:AS}(h:B7 (EO l d σ) l d K σ):bZ l d K σ:=by
 unfold B7 at h;split at h
 .rename_i e;exact ZnF e h
 .exact h
theorem ZmZ {o:LO}{K:AV->AS->Prop}{σ:AS}(h:A9 P o K σ):lW P o K σ:=by
 unfold A9 at h;split at h
 .exact h
 .rename_i cZ;unfold lW;split
  .rename_i f args e;exact absurd e (cZ f args)
  .exact ZsY h
theorem Lm {o:LO}{K:AS->Prop}{σ:AS}(h:ES P o K σ):pL P o K σ:=by
 unfold ES at h;unfold pL;split at h
 .rename_i e;(try rw[e]);exact ZmZ h
 .rename_i t want e
  (try rw[e])
  (try dsimp only)
  unfold F0 at h;split at h
  .rename_i b hb
   (try rw[hb])
   (try dsimp only)
   split at h
   .rename_i e2;rw[if_pos e2];exact ZmZ h
   .rename_i e2;rw[if_neg e2];exact h
  .rename_i hb;(try rw[hb]);exact h
  .exact h.elim
theorem Lx:∀{l:List LO} {K:AS->Prop} {σ:AS},B8 P l K σ->oI P l K σ
 |[],K,σ,h=>h
 |o::r,K,σ,h=>OI (fun τ q=>Lx q) (Lm h)
theorem XG:∀{l:LT} {K:AS->Prop} {σ:AS},gK P l K σ->vM P l K σ
 |.done,K,σ,h=>h
 |.op o t,K,σ,h=>OI (fun τ q=>XG q) (Lm h)
 |.alt o t r,K,σ,h=>⟨OI (fun τ q=>XG q) (Lm h.1),XG h.2⟩
 |.no,K,σ,h=>trivial
 |.seq t r,K,σ,⟨J,h1,h2⟩=>⟨J,XG h1,fun τ hJ=>XG (h2 τ hJ)⟩
theorem J0:∀{c:bD} {Q:sA->AS->Prop} {σ:AS},eL P c Q σ->uE P c Q σ
 |.skip,Q,σ,h=>h
 |.region ops,Q,σ,h=>Lx h
 |.jH t,Q,σ,h=>XG h
 |.seq a b,Q,σ,h=>by
  have h':eL P a (iR (hold (eL P b Q)) Q) σ:=h;show uE P a (iR (uE P b Q) Q) σ;refine KE (J0 h') (fun e τ q=>?_);cases e with
  |normal=>
   have q':eL P b Q τ:=q;exact J0 q'
  |exit id=>exact q
  |ret=>exact q
 |.cond c a b,Q,σ,h=>by
  have h':r9 (σ.o c) (hold (eL P a Q)) (hold (eL P b Q)) σ:=h;unfold r9 at h';unfold uE;split at h'
  .rename_i e;rw[e];exact J0 (c:=a) h'
  .rename_i e;rw[e];exact J0 (c:=b) h'
  .exact h'.elim
 |.block id c,Q,σ,h=>J0 (c:=c) h
 |.loop c,Q,σ,⟨I,n,τ,h1,h2,h3⟩=>⟨I,n,τ,h1,h2,fun n τ hI=>J0 (c:=c) (h3 n τ hI)⟩
 |.exit id,Q,σ,h=>h
 |.ret,Q,σ,h=>h
 |.vH _ _ _ _ _ _,Q,σ,h=>h
theorem Pd {f:FuncId}{F:aZ}{args:List AV}{B:List (Site×aK)}{R:AV->List (Site×aK)->Prop}(hm:P.follows .mixedOrders=true)(hf:fV P f=some F)(hn:args.length<=F.nt)
  (h:eL P F.code (kZ (B4 F.res R)) ⟨eY 0 args,B⟩):cN P f args B R:=ZiQ hm hf hn (J0 h)
theorem eP {c:bD}{Q:sA->AS->Prop}{σ:AS}(I:Nat->AS->Prop)(h0:∃n τ,Sub τ σ/\I n τ)(round:∀J:Nat->AS->Prop,(∀k τ,I k τ->J k τ)->∀n τ,I n τ->eL P c (iR (again J n) Q) τ):eL P (.loop c) Q σ:=
 let ⟨n,τ,h1,h2⟩:=h0;⟨I,n,τ,h1,h2,fun n τ h=>round I (fun _ _ h=>h) n τ h⟩
end
section
variable {P:Program}{σ:AS}{K:AS->Prop}{Q:sA->AS->Prop}{tm:List (Nat×AV)}{bx:List (Site×aK)}
theorem Ztz:hold K ⟨tm,bx⟩=K ⟨tm,bx⟩:=propext ⟨fun h=>h,fun h=>h⟩
theorem Zut {d:Nat}{a:AV}:AS.put d a ⟨tm,bx⟩=⟨(d,a)::tm,bx⟩:=rfl
theorem ZsU {d:Nat}{a:AV}:AS.oV (some d) a ⟨tm,bx⟩=⟨(d,a)::tm,bx⟩:=rfl
theorem Znn {a:AV}:AS.oV none a ⟨tm,bx⟩=⟨tm,bx⟩:=rfl
theorem Zvd {s:Site}{b:aK}:AS.add s b ⟨tm,bx⟩=⟨tm,(s,b)::bx⟩:=rfl
theorem Zum {s:Site}{b:aK}:AS.set s b ⟨tm,bx⟩=⟨tm,(s,b)::bx⟩:=rfl
theorem ZtK {s:Site}:AS.drop s ⟨tm,bx⟩=⟨tm,bx.filter fun p=>!decide (p.1=s)⟩:=rfl
theorem ZpF {d:Nat}:AS.bG d ⟨tm,bx⟩=⟨tm.map fun p=>(p.1,p.2.bG d),(bx.filter fun p=>!p.1.fQ d).map fun p=>(p.1,p.2.bG d)⟩:=rfl
theorem ZpO:B8 P [] K σ=K σ:=propext ⟨fun h=>h,fun h=>h⟩
theorem ZnB {o:LO}{r:List LO}:B8 P (o::r) K σ=ES P o (hold (B8 P r K)) σ:=rfl
theorem Zp5:gK P .done K σ=K σ:=rfl
theorem ZuK {o:LO}{t:LT}:gK P (.op o t) K σ=ES P o (hold (gK P t K)) σ:=rfl
theorem ZV {d:Option Nat}{op:lV}{lt:Bool}:ES P ⟨d,none,op,lt⟩ K σ=A9 P ⟨d,none,op,lt⟩ (fun a τ=>K (τ.oV d a)) σ:=rfl
theorem ZW {d:Option Nat}{t:Nat}{want:Bool}{op:lV}{lt:Bool}:ES P ⟨d,some (t,want),op,lt⟩ K σ=F0 P (σ.t t) want ⟨d,some (t,want),op,lt⟩ K σ:=rfl
theorem ZuU {b want:Bool}{o:LO}:F0 P (some (.pv (.bool b))) want o K σ=if b=want then A9 P o (fun a τ=>K (τ.oV o.dst a)) σ else K (σ.oV o.dst A6):=rfl
theorem ZtD {o:LO}:F0 P (some (.pv (.bool true))) true o K σ=A9 P o (fun a τ=>K (τ.oV o.dst a)) σ:=rfl
theorem ZtG {o:LO}:F0 P (some (.pv (.bool false))) false o K σ=A9 P o (fun a τ=>K (τ.oV o.dst a)) σ:=rfl
theorem ZtE {o:LO}:F0 P (some (.pv (.bool true))) false o K σ=K (σ.oV o.dst A6):=rfl
theorem ZtF {o:LO}:F0 P (some (.pv (.bool false))) true o K σ=K (σ.oV o.dst A6):=rfl
theorem ZuT {want:Bool}{o:LO}:F0 P (some (.pv (.bM []))) want o K σ=K (σ.oV o.dst A6):=rfl
theorem Znz {a:AV}{τ:AS}{l:lV}{d:Nat}{K:AV->AS->Prop}:B7 (some (a,τ)) l d K σ=K a τ:=rfl
theorem Zu1 {A B:AS->Prop}:r9 (.pv (.bool true)) A B σ=A σ:=propext ⟨fun h=>h,fun h=>h⟩
theorem Zu2 {A B:AS->Prop}:r9 (.pv (.bool false)) A B σ=B σ:=propext ⟨fun h=>h,fun h=>h⟩
theorem ZoR:eL P .skip Q σ=Q .normal σ:=propext ⟨fun h=>h,fun h=>h⟩
theorem Zj0 {ops:List LO}:eL P (.region ops) Q σ=B8 P ops (Q .normal) σ:=rfl
theorem ZoS {t:LT}:eL P (.jH t) Q σ=gK P t (Q .normal) σ:=rfl
theorem Zq8 {a b:bD}:eL P (.seq a b) Q σ=eL P a (iR (hold (eL P b Q)) Q) σ:=rfl
theorem ZoU {c:bB}{a b:bD}:eL P (.cond c a b) Q σ=r9 (σ.o c) (hold (eL P a Q)) (hold (eL P b Q)) σ:=rfl
theorem Zmf {id:Nat}{c:bD}:eL P (.block id c) Q σ=eL P c (j4 id Q) σ:=rfl
theorem ZoT {id:Nat}:eL P (.exit id) Q σ=Q (.exit id) σ:=propext ⟨fun h=>h,fun h=>h⟩
theorem Zq9:eL P .ret Q σ=Q .ret σ:=propext ⟨fun h=>h,fun h=>h⟩
theorem Zr9:iR K Q .normal σ=K σ:=propext ⟨fun h=>h,fun h=>h⟩
theorem Zsa {i:Nat}:iR K Q (.exit i) σ=Q (.exit i) σ:=propext ⟨fun h=>h,fun h=>h⟩
theorem Zr8:iR K Q .ret σ=Q .ret σ:=propext ⟨fun h=>h,fun h=>h⟩
theorem ZqT {i:Nat}:j4 i Q .normal σ=Q .normal σ:=propext ⟨fun h=>h,fun h=>h⟩
theorem ZqS {i:Nat}:j4 i Q .ret σ=Q .ret σ:=propext ⟨fun h=>h,fun h=>h⟩
theorem ZqU {i j:Nat}:j4 i Q (.exit j) σ=if j=i then Q .normal σ else Q (.exit j) σ:=propext ⟨fun h=>h,fun h=>h⟩
theorem ZuX {F:AS->Prop}:kZ F .normal σ=F σ:=propext ⟨fun h=>h,fun h=>h⟩
theorem ZuW {F:AS->Prop}:kZ F .ret σ=F σ:=propext ⟨fun h=>h,fun h=>h⟩
theorem gG {f:bB}{args:List bB}{d:Nat}{K:AV->AS->Prop}{k:Nat}{g:FuncId}{fs xs cs:List PV}{y:PV}(h1:(σ.o f).snap σ k=some (.fn g fs cs))(h2:jF (AV.snap σ k) (args.map σ.o)=some xs)
  (hc:aD P g (fs++xs++cs) y) (hy:y.flat=true) (hK:K (.pv y) σ) {X:Prop}:zA P f args d K σ\/X:=
 .inl (ZiS h1 h2 (hc.mono (fun _ _ h=>h.1)) hy hK)
end
theorem gl0 {α:Type}{a:α}{l:List α}:(a::l)[0]?=some a:=rfl
theorem gl1 {α:Type}{a b:α}{l:List α}:(a::b::l)[1]?=some b:=rfl
theorem gl2 {α:Type}{a b c:α}{l:List α}:(a::b::c::l)[2]?=some c:=rfl
theorem gl3 {α:Type}{a b c d:α}{l:List α}:(a::b::c::d::l)[3]?=some d:=rfl
attribute [simp] gl0 gl1 gl2 gl3 List.getElem?_cons_succ
theorem Zhp {n:Nat}:jR (n:Int)=some n:=KJ.2 rfl
theorem ZnP {n:Nat}:jR ((n:Int)+1)=some (n+1):=KJ.2 (by omega)
theorem ZuJ:jR 0=some 0:=rfl
theorem ZuI:jR 1=some 1:=rfl
theorem ZuH:jR 2=some 2:=rfl
attribute [simp] Zhp ZnP ZuJ ZuI ZuH
theorem wrap64 {x:Int}(h:-9223372036854775808<=x/\x<=9223372036854775807):IntKind.i64.wrap x=x:=by rw[IntKind.wrap_i64];omega
theorem ZsD {a b c d:Nat}:(Site.loc a b==Site.loc c d)=(a==c&&b==d):=by rw[qT];simp
theorem Zsz {a c:Nat}:(Site.par a==Site.par c)=(a==c):=by rw[qT];simp
theorem Zsv {a c:Nat}:(Site.ret a==Site.ret c)=(a==c):=by rw[qT];simp
theorem ZsC {a b c:Nat}:(Site.loc a b==Site.par c)=false:=rfl
theorem ZsA {a b c:Nat}:(Site.par c==Site.loc a b)=false:=rfl
theorem ZsB {a b c:Nat}:(Site.loc a b==Site.ret c)=false:=rfl
theorem Zsx {a b c:Nat}:(Site.ret c==Site.loc a b)=false:=rfl
theorem Zsy {a c:Nat}:(Site.par a==Site.ret c)=false:=rfl
theorem Zsw {a c:Nat}:(Site.ret a==Site.par c)=false:=rfl
attribute [simp] ZsD Zsz Zsv ZsC ZsA ZsB Zsx Zsy Zsw
attribute [simp] Ztz Zut ZsU Znn Zvd Zum ZtK ZpF ZpO ZnB Zp5 ZuK ZV ZW ZtD ZtG ZtE ZtF ZuT ZuU Znz Zu1 Zu2 ZoR Zj0 ZoS Zq8 ZoU Zmf ZoT Zq9 Zr9 Zsa Zr8 ZqT ZqS ZqU ZuX ZuW
attribute [simp] A9 lW EO HA AS.s7 AS.NQ AS.o AS.t AS.b AV.bG AV.has AV.qU AV.cells PV.cells AV.wide AV.one eY List.lookup DO DP B4 AS.FK AS.Kw rL v7 eB aS j8 R9 AS.cont AS.ob AS.tN AS.DW AS.xB AS.JK A6 FX wP KT.ok bV CK.ok gS lQ wQ
section
attribute [local simp] aK.bG Site.fQ
section
variable {P:Program}{σ:AS}{K:AV->AS->Prop}
def rC (σ:AS):List Site->Prop
 |[]=>True
 |s::r=>(∃b,σ.b s=some b/\b.dC dO=true)/\rC σ r
theorem Zeu:∀{l:List Site},rC σ l->∀s∈l,∀b,σ.b s=some b->b.dC dO=true
 |[],_,s,hs,_,_=>by cases hs
 |t::r,h,s,hs,b,hb=>by
  rcases jO.1 hs with rfl|hs
  .obtain⟨b',h1,h2⟩:=h.1;rw[hb]at h1;cases h1;exact h2
  .exact Zeu h.2 s hs b hb
def aU (outs:List Site)(rs:List nX)(R:AV->List (Site×aK)->Prop)(σ:AS):Prop:=
 ∃l,σ.FK rs=some l/\(rL l).dC dO=true/\outs.all dO=true/\rC σ outs/\R ((rL l).map (jU outs)) (σ.exp outs outs)
theorem Zm {outs:List Site}{rs:List nX}{R:AV->List (Site×aK)->Prop}{σ:AS}(h:aU outs rs R σ):rJ rs R σ:=by
 obtain⟨l,h1,h2,h3,h4,h5⟩:=h;exact⟨[],outs,l,h1,h2,h3,fun s hs b hb=>Zeu h4 s hs b hb,h5⟩
theorem Pc (outs:List Site){f:FuncId}{F:aZ}{args:List AV}{B:List (Site×aK)}{R:AV->List (Site×aK)->Prop}(hm:P.follows .mixedOrders=true)(hf:fV P f=some F)(hn:args.length<=F.nt)
  (h:eL P F.code (kZ (aU outs F.res R)) ⟨eY 0 args,B⟩):cN P f args B R:=Ie hm hf hn (fun _ h=>Zm h) (J0 h)
theorem xQ (d:Nat)(aF:List Site){f:bB}{args:List bB}{d0:Nat}{g:FuncId}{fs cs:List AV}{B:List (Site×aK)}{gF:List AV}{R:AV->List (Site×aK)->Prop}(h1:mO (σ.o f)=some (g,fs,cs))(h2:EA aF=true)(h3:aF.all (fun s=>!s.fQ d)=true)
  (hB:oW σ aF 0 aF=some B) (h4:AV.gW (fun x=>aF.contains x) (fs++args.map σ.o++cs)=true) (ha:AV.iO (jZ aF) (fs++args.map σ.o++cs)=gF) (hC:cN P g gF B R)
  (hK:∀r B',R r B'->r.dC (bY aF)=true/\(∀p∈B',bY aF p.1=true/\p.2.dC (bY aF)=true)/\K (r.map (gH aF d)) (((cK aF σ).bG d).lU (fA aF d B'))):
  zA P f args d0 K σ\/(GA P f args K σ\/FZ P f args K σ):=by
 refine .inr (.inl ⟨d,[],aF,g,fs,cs,B,?_,TH h2,h3,hB,h4,?_⟩)
 .unfold mO at h1;split at h1
  .rename_i e;cases h1;exact .inl e
  .rename_i tE iI e;cases h1;exact .inr ⟨tE,iI,e,rfl,rfl⟩
  .cases h1
 .have:(fs++args.map (aM [] σ).o++cs)=fs++args.map σ.o++cs:=rfl
  rw[this,ha];exact hC.mono hK
theorem AN {f:bB}{args:List bB}{d:Nat}{K:AV->AS->Prop}{k:Nat}{g:FuncId}{fs xs cs:List PV}{y:PV}(h1:(σ.o f).snap σ k=some (.fn g fs cs))(h2:jF (AV.snap σ k) (args.map σ.o)=some xs)
  (hc:aD P g (fs++xs++cs) y) (hy:y.flat=true) (hK:K (.pv y) σ):zA P f args d K σ:=ZiS h1 h2 (hc.mono (fun _ _ h=>h.1)) hy hK
end
end
section
attribute [local simp] aK.bG Site.fQ
def dM (n:Nat):List Site:=(List.range n).map .par
def laid:Nat->List aK->List (Site×aK)
 |_,[]=>[]
 |i,b::r=>(.par i,b)::laid (i+1) r
def Site.lt (n:Nat):Site->Bool
 |.par i=>decide (i<n)
 |_=>false
def EE (n:Nat)(L:List aK):Prop:=∀b∈L,b.dC (Site.lt n)=true
theorem XM {n:Nat}{s:Site}:s∈dM n↔s.lt n=true:=by
 unfold dM;rw[iJ];constructor
 .rintro⟨i,hi,rfl⟩;simpa[Site.lt]using hi
 .intro h;cases s with
  |par i=>exact⟨i,by simpa[Site.lt]using h,rfl⟩
  |loc d j=>cases h
  |ret j=>cases h
theorem Zcc {n:Nat}{s:Site}:(dM n).contains s=s.lt n:=by
 rw[qT,jC];exact XM
theorem Ht {n i:Nat}(h:i<n):(dM n)[i]?=some (.par i):=by simp[dM,h]
theorem Zji {n:Nat}:(dM n).Nodup:=by
 unfold dM;rw[DT,List.pairwise_map];exact List.Pairwise.imp (fun h e=>h (by cases e;rfl)) (DT.1 List.nodup_range)
theorem Znx {n i:Nat}(h:i<n):(dM n).findIdx? (fun x=>decide (x=.par i))=some i:=by
 obtain⟨j,h1,h2⟩:=Gc (aF:=dM n) (s:=.par i) (XM.2 (by simpa[Site.lt]using h));rw[h1];have hj:j<n:=by
  have:=(cA.1 h2).1
  simpa[dM]using this
 rw[Ht hj]at h2;cases h2;rfl
theorem Zes {n:Nat}{s:Site}(h:s.lt n=false):(dM n).findIdx? (fun x=>decide (x=s))=none:=by
 rw[List.findIdx?_eq_none_iff];intro x hx;rw[XM]at hx
 have:x≠s:=fun e=>by rw[e,h]at hx;cases hx
 simpa using this
theorem Ziz (n:Nat):jZ (dM n)=id:=by
 funext s;unfold jZ;cases hs:s.lt n with
 |true=>
  cases s with
  |par i=>rw[Znx (by simpa[Site.lt]using hs)];rfl
  |loc d j=>cases hs
  |ret j=>cases hs
 |false=>rw[Zes hs];rfl
theorem Zev {n d:Nat}{s:Site}(h:s.lt n=true):gH (dM n) d s=s:=by
 cases s with
 |par i=>show(dM n).getD i default=_;rw[List.getD_eq_getElem?_getD,Ht (by simpa[Site.lt]using h)];rfl
 |loc d j=>cases h
 |ret j=>cases h
theorem ZgP (n:Nat):jU (dM n)=id:=by
 funext s;unfold jU;cases s with
 |par i=>rfl
 |loc d j=>dsimp only;rw[Zes rfl];rfl
 |ret j=>dsimp only;rw[Zes rfl];rfl
mutual
theorem AV.Xv {g:Site->Site}{q:Site->Bool}(hg:∀s,q s=true->g s=s):∀a:AV,a.dC q=true->a.map g=a
 |.any,_=>rfl
 |.pv _,_=>rfl
 |.ptr _ _,h=>by simp only[AV.map];rw[hg _ h]
 |.lA _ _ _ _,h=>by simp only[AV.map];rw[hg _ h]
 |.vec _ _ _ _,h=>by simp only[AV.map];rw[hg _ h]
 |.mp _,h=>by simp only[AV.map];rw[hg _ h]
 |.nK _,h=>by simp only[AV.map];rw[hg _ h]
 |.fn f fs cs,h=>by
  simp only[AV.dC,dK]at h;simp only[AV.map,AV.WK hg fs h.1,AV.WK hg cs h.2]
 |.agg cs,h=>by simp only[AV.map,AV.WK hg cs h]
 |.bM vs,h=>by simp only[AV.map,AV.WK hg vs h]
theorem AV.WK {g:Site->Site}{q:Site->Bool}(hg:∀s,q s=true->g s=s):∀l:List AV,AV.gW q l=true->AV.iO g l=l
 |[],_=>rfl
 |a::r,h=>by
  simp only[AV.gW,dK]at h;simp only[AV.iO,AV.Xv hg a h.1,AV.WK hg r h.2]
end
mutual
theorem AV.WJ {q q':Site->Bool}(hq:∀s,q s=true->q' s=true):∀a:AV,a.dC q=true->a.dC q'=true
 |.any,_=>rfl
 |.pv _,_=>rfl
 |.ptr _ _,h=>hq _ h
 |.lA _ _ _ _,h=>hq _ h
 |.vec _ _ _ _,h=>hq _ h
 |.mp _,h=>hq _ h
 |.nK _,h=>hq _ h
 |.fn f fs cs,h=>by
  simp only[AV.dC,dK]at h ⊢;exact⟨AV.NV hq fs h.1,AV.NV hq cs h.2⟩
 |.agg cs,h=>AV.NV hq cs h
 |.bM vs,h=>AV.NV hq vs h
theorem AV.NV {q q':Site->Bool}(hq:∀s,q s=true->q' s=true):∀l:List AV,AV.gW q l=true->AV.gW q' l=true
 |[],_=>rfl
 |a::r,h=>by
  simp only[AV.gW,dK]at h ⊢;exact⟨AV.WJ hq a h.1,AV.NV hq r h.2⟩
end
theorem aK.WJ {q q':Site->Bool}(hq:∀s,q s=true->q' s=true){b:aK}(h:b.dC q=true):b.dC q'=true:=by
 cases b with
 |cells bT=>exact AV.NV hq bT h
 |loop C ps nt tm st=>exact AV.NV hq _ h
 |arr e n xs=>rfl
 |map es=>rfl
 |ext E=>rfl
theorem aK.Zxy {g:Site->Site}{q:Site->Bool}(hg:∀s,q s=true->g s=s){b:aK}(h:b.dC q=true):b.iT g=b:=by
 cases b with
 |cells bT=>simp only[aK.iT];rw[AV.WK hg bT h]
 |loop C ps nt tm st=>
  simp only[aK.iT];congr 1;have h':∀p∈tm,p.2.dC q=true:=fun p hp=>by
   obtain⟨i,hi⟩:=iK.1 hp;exact V8 (i:=i) h (by rw[bX,hi];rfl)
  clear h;induction tm with
  |nil=>rfl
  |cons p r ih=>
   simp only[iN];rw[AV.Xv hg p.2 (h' p (by simp)),ih (fun x hx=>h' x (by simp[hx]))]
 |arr e n xs=>rfl
 |map es=>rfl
 |ext E=>rfl
theorem aK.Xy (b:aK):b.iT id=b:=by
 cases b with
 |cells bT=>simp only[aK.iT,SX]
 |loop C ps nt tm st=>
  simp only[aK.iT,Gi];congr 1;exact List.map_id tm
 |arr e n xs=>rfl
 |map es=>rfl
 |ext E=>rfl
theorem Zhy {n:Nat}{s:Site}(h:s.lt n=true):bY (dM n) s=true:=by
 cases s with
 |par i=>simpa[bY,dM,Site.lt]using h
 |loc d j=>cases h
 |ret j=>rfl
theorem ZkU {n:Nat}{s:Site}(h:s.lt n=true):dO s=true:=by
 cases s with
 |par i=>rfl
 |loc d j=>rfl
 |ret j=>cases h
theorem ZhB:∀(L:List aK) (i j:Nat),(laid i L).lookup (.par (i+j))=L[j]?
 |[],i,j=>by simp[laid]
 |b::r,i,0=>by simp[laid]
 |b::r,i,j+1=>by
  rw[laid,jD (by simp),show i+(j+1)=(i+1)+j by omega,ZhB r (i+1) j];rfl
theorem Zk2:∀(L:List aK) (i:Nat) (p:Site×aK),p∈laid i L->∃j,L[j]?=some p.2/\p.1=.par (i+j)
 |[],i,p,h=>by simp[laid]at h
 |b::r,i,p,h=>by
  rcases jO.1 h with rfl|h
  .exact⟨0,rfl,rfl⟩
  .obtain⟨j,h1,h2⟩:=Zk2 r (i+1) p h;exact⟨j+1,h1,by rw[h2];congr 1;omega⟩
theorem ZrK {n d:Nat}:∀{s:Site},s.lt n=true->s.fQ d=false:=fun{s} h=>by
 cases s with
 |par i=>rfl
 |loc d j=>cases h
 |ret j=>cases h
mutual
theorem AV.Zxf {d:Nat}{q:Site->Bool}(hg:∀s,q s=true->s.fQ d=false):∀a:AV,a.dC q=true->a.has d=false
 |.any,_=>rfl
 |.pv _,_=>rfl
 |.ptr _ _,h=>by simp only[AV.has];exact hg _ h
 |.lA _ _ _ _,h=>by simp only[AV.has];exact hg _ h
 |.vec _ _ _ _,h=>by simp only[AV.has];exact hg _ h
 |.mp _,h=>by simp only[AV.has];exact hg _ h
 |.nK _,h=>by simp only[AV.has];exact hg _ h
 |.fn f fs cs,h=>by
  simp only[AV.dC,dK]at h;simp only[AV.has,AV.Fc hg fs h.1,AV.Fc hg cs h.2];rfl
 |.agg cs,h=>by simp only[AV.has];exact AV.Fc hg cs h
 |.bM vs,h=>by simp only[AV.has];exact AV.Fc hg vs h
theorem AV.Fc {d:Nat}{q:Site->Bool}(hg:∀s,q s=true->s.fQ d=false):∀l:List AV,AV.gW q l=true->AV.qU d l=false
 |[],_=>rfl
 |a::r,h=>by
  simp only[AV.gW,dK]at h;simp only[AV.qU,AV.Zxf hg a h.1,AV.Fc hg r h.2];rfl
end
theorem AV.Ld {n d:Nat}{a:AV}(h:a.dC (Site.lt n)=true):a.bG d=a:=by
 unfold AV.bG;rw[AV.Zxf (fun s hs=>ZrK hs) a h];rfl
theorem aK.Ld {n d:Nat}{b:aK}(h:b.dC (Site.lt n)=true):b.bG d=b:=by
 cases b with
 |cells bT=>
  simp only[aK.bG];congr 1;have h':∀a∈bT,a.dC (Site.lt n)=true:=fun a ha=>by
   obtain⟨i,hi⟩:=iK.1 ha;exact V8 h hi
  clear h;induction bT with
  |nil=>rfl
  |cons a r ih=>rw[iN,AV.Ld (h' a (by simp)),ih (fun x hx=>h' x (by simp[hx]))]
 |loop C ps nt tm st=>
  simp only[aK.bG];congr 1;have h':∀p∈tm,p.2.dC (Site.lt n)=true:=fun p hp=>by
   obtain⟨i,hi⟩:=iK.1 hp;exact V8 (i:=i) h (by rw[bX,hi];rfl)
  clear h;induction tm with
  |nil=>rfl
  |cons p r ih=>rw[iN,AV.Ld (h' p (by simp)),ih (fun x hx=>h' x (by simp[hx]))]
 |arr e n xs=>rfl
 |map es=>rfl
 |ext E=>rfl
theorem ZeE {n d:Nat}:∀{X:List aK} {i:Nat},EE n X->((laid i X).filter fun p=>!p.1.fQ d).map (fun p=>(p.1,p.2.bG d))=laid i X
 |[],i,h=>rfl
 |b::r,i,h=>by
  have hb:=h b (by simp);have hr:EE n r:=fun x hx=>h x (by simp[hx])
  rw[laid,List.filter_cons_of_pos (by rfl),iN,ZeE hr,aK.Ld hb]
theorem ZjK {m:Nat}{tm:List (Nat×AV)}{bx:List (Site×aK)}:cK (dM m) ⟨tm,bx⟩=⟨tm,bx.filter fun p=>!p.1.lt m⟩:=by
 have:∀(l:List Site) (bx:List (Site×aK)),cK l ⟨tm,bx⟩=⟨tm,bx.filter fun p=>!l.contains p.1⟩:=by
  intro l;induction l with
  |nil=>intro bx;show(⟨tm,bx⟩:AS)=⟨tm,_⟩;rw[List.filter_eq_self.2];intro _ _;rfl
  |cons s r ih=>
   intro bx;rw[cK,AS.drop,ih,List.filter_filter];congr 1;apply List.filter_congr;intro p hp;rw[List.contains_cons];by_cases e:p.1=s
   .simp[e]
   .simp[e]
 rw[this];congr 1;apply List.filter_congr;intro p hp;rw[Zcc]
theorem ZfM {σ:AS}{n:Nat}:∀(r:List Site) (i:Nat) (L:List aK),(∀j s,r[j]?=some s->s=Site.par (i+j))->r.length=L.length->(∀j b,L[j]?=some b->σ.b (.par (i+j))=some b)->EE n L->
  oW σ (dM n) i r=some (laid i L)
 |[],i,[],_,_,_,_=>rfl
 |[],i,b::L,_,h,_,_=>by simp at h
 |s::r,i,[],_,h,_,_=>by simp at h
 |s::r,i,b::L,hs,hl,hb,hc=>by
  have h0:s=.par i:=hs 0 s rfl;have h1:=ZfM r (i+1) L (fun j s' e=>by rw[hs (j+1) s' (by simpa using e)];congr 1;omega) (by simpa using hl) (fun j b' e=>by rw[show i+1+j=i+(j+1) by omega];exact hb (j+1) b' (by simpa using e)) (fun x hx=>hc x (by simp[hx]));subst h0;have h2:σ.b (.par i)=some b:=hb 0 b rfl;have h3:b.dC (fun x=>(dM n).contains x)=true:=aK.WJ (fun s hs=>by rw[Zcc];exact hs) (hc b (by simp));simp only[oW,h2,h1,h3,if_pos,Ziz,aK.Xy,laid]
def xX (σ:AS)(L:List aK):Prop:=∀j b,L[j]?=some b->σ.b (.par j)=some b
theorem Zjq {σ:AS}{n:Nat}{L:List aK}(hl:L.length=n)(hs:xX σ L)(hc:EE n L):oW σ (dM n) 0 (dM n)=some (laid 0 L):=
 ZfM _ _ _ (fun j s e=>by
  have:j<n:=by have:=(cA.1 e).1;simpa[dM]using this
  rw[Ht this]at e;cases e;simp) (by simp[dM,hl]) (fun j b e=>by simpa using hs j b e) hc
theorem Zig {n d:Nat}:∀{L:List aK} {i:Nat},i+L.length<=n->EE n L->fA (dM n) d (laid i L)=laid i L
 |[],i,_,_=>rfl
 |b::r,i,h,hc=>by
  rw[pA]at h;have h1:=Zig (L:=r) (i:=i+1) (d:=d) (by omega) (fun x hx=>hc x (by simp[hx]));unfold fA at h1 ⊢;rw[laid,iN,h1];rw[Zev (by simp[Site.lt];omega),aK.Zxy (fun s hs=>Zev hs) (hc b (by simp))]
theorem XA {n:Nat}{L:List aK}(h:L.length<=n)(hc:EE n L):∀p∈laid 0 L,bY (dM n) p.1=true/\p.2.dC (bY (dM n))=true:=fun p hp=>by
 obtain⟨j,h1,h2⟩:=Zk2 L 0 p hp;have hj:=(cA.1 h1).1;refine⟨Zhy (by rw[h2];simp[Site.lt];omega),aK.WJ (fun s hs=>Zhy hs) (hc _ (dL h1))⟩
theorem Zlg {σ:AS}{n:Nat}:∀(r:List Site) (i:Nat) (L:List aK),(∀j s,r[j]?=some s->s=Site.par (i+j))->r.length=L.length->(∀j b,L[j]?=some b->σ.b (.par (i+j))=some b)->σ.exp (dM n) r=laid i L
 |[],i,[],_,_,_=>rfl
 |[],i,b::L,_,h,_=>by simp at h
 |s::r,i,[],_,h,_=>by simp at h
 |s::r,i,b::L,hs,hl,hb=>by
  have h0:s=.par i:=hs 0 s rfl;have h1:=Zlg (n:=n) r (i+1) L (fun j s' e=>by rw[hs (j+1) s' (by simpa using e)];congr 1;omega) (by simpa using hl) (fun j b' e=>by rw[show i+1+j=i+(j+1) by omega];exact hb (j+1) b' (by simpa using e));subst h0;have h2:σ.b (.par i)=some b:=hb 0 b rfl;simp only[AS.exp,h2,h1,ZgP,aK.Xy,laid,id]
theorem Zqs {σ:AS}{n:Nat}{L:List aK}(hl:L.length=n)(hs:xX σ L):σ.exp (dM n) (dM n)=laid 0 L:=
 Zlg _ _ _ (fun j s e=>by
  have:j<n:=by have:=(cA.1 e).1;simpa[dM]using this
  rw[Ht this]at e;cases e;simp) (by simp[dM,hl]) (fun j b e=>by simpa using hs j b e)
theorem Zin {σ:AS}:∀{l:List Site},(∀s∈l,∃b,σ.b s=some b/\b.dC dO=true)->rC σ l
 |[],_=>trivial
 |s::r,h=>⟨h s (by simp),Zin (fun x hx=>h x (by simp[hx]))⟩
theorem Zjj {σ:AS}{n:Nat}{L:List aK}(hl:L.length=n)(hs:xX σ L)(hc:EE n L):rC σ (dM n):=Zin (fun s h=>by
 rw[XM]at h;cases s with
 |par i=>
  have hi:i<L.length:=by rw[hl];simpa[Site.lt]using h
  exact⟨L[i],hs i _ (bC hi),aK.WJ (fun s hs=>ZkU hs) (hc _ (zZ hi))⟩
 |loc d j=>cases h
 |ret j=>cases h)
theorem ZfT {d e j:Nat}:Site.fQ d (.loc e j)=(d==e):=rfl
theorem ZfS {d j:Nat}:Site.fQ d (.par j)=false:=rfl
theorem ZfR {d j:Nat}:Site.fQ d (.ret j)=false:=rfl
theorem Zds {d:Nat}{l:List AV}:aK.bG d (.cells l)=.cells (l.map (AV.bG d)):=rfl
theorem Zfp {d:Nat}{l:List (PV×PV)}:aK.bG d (.map l)=.map l:=rfl
theorem Zfq {d n:Nat}{e:TypeId}{l:List PV}:aK.bG d (.arr e n l)=.arr e n l:=rfl
theorem Zer {d nt:Nat}{C:Code×Code}{ps:List Nat}{tm:List (Nat×AV)}{st:Option Code}:aK.bG d (.loop C ps nt tm st)=.loop C ps nt (tm.map fun p=>(p.1,p.2.bG d)) st:=rfl
theorem TI {tm:List (Nat×AV)}{X:List aK}{r:List (Site×aK)}:xX ⟨tm,laid 0 X++r⟩ X:=fun j b h=>by
 have h1:(laid 0 X).lookup (.par j)=some b:=by have:=ZhB X 0 j;rw[rV]at this;rw[this];exact h
 show(laid 0 X++r).lookup (.par j)=some b;clear h;generalize laid 0 X=l at h1;induction l with
 |nil=>cases h1
 |cons p l ih=>
  obtain⟨a,c⟩:=p;by_cases e:Site.par j=a
  .subst e;rw[mT]at h1;rw[List.cons_append,mT];exact h1
  .rw[jD e]at h1;rw[List.cons_append,jD e];exact ih h1
theorem XO {tm:List (Nat×AV)}{X:List aK}{p:Site×aK}{r:List (Site×aK)}(hp:p.1.lt X.length=false)(h:xX ⟨tm,r⟩ X):xX ⟨tm,p::r⟩ X:=fun j b hj=>by
 have hl:=(cA.1 hj).1;obtain⟨a,c⟩:=p;have cZ:Site.par j≠a:=fun e=>by subst e;simp[Site.lt]at hp;omega
 show((a,c)::r).lookup (.par j)=some b;rw[jD cZ];exact h j b hj
theorem gP {P:Program}{o:LO}{t r:LT}{K:AS->Prop}{σ:AS}:gK P (.alt o t r) K σ=(ES P o (hold (gK P t K)) σ/\hold (gK P r K) σ):=rfl
theorem gZ {P:Program}{K:AS->Prop}{σ:AS}:gK P .no K σ=True:=rfl
theorem JX {P:Program}{t r:LT}{K:AS->Prop}{σ:AS}(τ:AS)(h1:gK P t (fun zF=>Sub τ zF) σ)(h2:gK P r K τ):gK P (.seq t r) K σ:=
 ⟨fun x=>x=τ,by
  have:(fun zF=>∃x,Sub x zF/\x=τ)=fun zF=>Sub τ zF:=by
   funext zF;exact propext ⟨fun⟨x,h,e⟩=>e▸h,fun h=>⟨τ,h,rfl⟩⟩
  rw[this];exact h1,fun x e=>by subst e;exact h2⟩
theorem Zh4 {σ:AS}:∀{X:List aK} {i:Nat},(∀j b,X[j]?=some b->σ.b (.par (i+j))=some b)->R9 (laid i X) σ
 |[],i,h=>trivial
 |b::r,i,h=>⟨h 0 b rfl,Zh4 (fun j b' e=>by rw[show i+1+j=i+(j+1) by omega];exact h (j+1) b' (by simpa using e))⟩
theorem Hw {σ:AS}{X:List aK}(h:xX σ X):R9 (laid 0 X) σ:=Zh4 (fun j b e=>by rw[rV];exact h j b e)
section
variable {P:Program}{σ:AS}{K:AV->AS->Prop}
theorem Zid {n:Nat}{rs:List nX}{R:AV->List (Site×aK)->Prop}{L:List aK}{l:List AV}(h:σ.FK rs=some l)(ho:(rL l).dC dO=true)(hl:L.length=n)(hs:xX σ L)(hc:EE n L)(hR:R (rL l) (laid 0 L)):aU (dM n) rs R σ:=by
 refine⟨l,h,ho,?_,Zjj hl hs hc,?_⟩
 .rw[rA];intro s hs;exact ZkU (XM.1 hs)
 .rw[Zqs hl hs,ZgP,Gi];exact hR
theorem ZlE (d m:Nat)(X:List aK){f:bB}{args:List bB}{d0:Nat}{R:AV->List (Site×aK)->Prop}(h1:σ.o f=.nK (.par 0))(hm:0<m)(hl:X.length=m)(hs:xX σ X)(hc:EE m X)
  (h4:AV.gW (Site.lt m) (args.map σ.o)=true) (hC:FV P 0 (args.map σ.o) (laid 0 X) R)
  (hK:∀r B',R r B'->∃L',B'=laid 0 L'/\L'.length=m/\EE m L'/\r.dC (Site.lt m)=true/\K r ((((⟨σ.tm,σ.bx.filter fun p=>!p.1.lt m⟩:AS).bG d)).lU (laid 0 L'))):
  zA P f args d0 K σ\/(GA P f args K σ\/FZ P f args K σ):=by
 refine .inr (.inr ⟨d,[],dM m,.par 0,0,laid 0 X,h1,Ht hm,Zji,?_,Zjq hl hs hc,?_,?_⟩)
 .rw[rA];intro s hs;rw[ZrK (XM.1 hs)];rfl
 .exact AV.NV (fun s hs=>by rw[Zcc];exact hs) _ h4
 .rw[Ziz,SX];refine hC.mono (fun r B' h=>?_);obtain⟨L',rfl,k1,k2,k3,k4⟩:=hK r B' h;refine⟨AV.WJ (fun s hs=>Zhy hs) _ k3,XA (by omega) k2,?_⟩;rw[AV.Xv (fun s hs=>Zev hs) _ k3,Zig (by omega) k2];cases σ;simp only[aM];rw[ZjK];exact k4
end
end
section
attribute [local simp] aK.bG Site.fQ
section
variable {P:Program}{σ:AS}{K:AV->AS->Prop}
end
end
section
attribute [local simp] aK.bG Site.fQ
theorem YA {P:Program}(hm:P.follows .mixedOrders=true){C:Code×Code}{ps:List Nat}{nt i:Nat}{tm:List (Nat×AV)}{la lb:bD}(Tz:dQ P nt C.1=some la)(Ty:dQ P nt C.2=some lb){gF:List AV}{B:List (Site×aK)}
  {R:AV->List (Site×aK)->Prop} (hB:B.lookup (.par i)=some (.loop C ps nt tm none)) (yI:ps.length=gF.length) (P8:∀p∈ps,p<nt) (y0:AV.gW Site.s5 (tm.map (·.2))=true)
  (h:eL P la (iR (hold (eL P lb (Za C ps nt tm i R))) (fun _ _=>False)) ⟨qK ps gF tm,B.filter fun p=>!decide (p.1=.par i)⟩):FV P i gF B R:=by
 refine Zg2 hm Tz Ty hB yI P8 y0 ?_;refine KE (J0 h) (fun e τ q=>?_);cases e with
 |normal=>
  have q':eL P lb (Za C ps nt tm i R) τ:=q;exact J0 q'
 |exit id=>exact q
 |ret=>exact q
section
variable {P:Program}{σ:AS}
theorem XH (aF:List Site)(tm:List (Nat×AV)){nt:Nat}{g:bB}{C:Code×Code}{ps:List Nat}{la lb:bD}{Q:sA->AS->Prop}{gf:FuncId}{fs cs gF:List AV}{B:List (Site×aK)}{R:AV->List (Site×aK)->Prop}
  (h1:mO (((σ.bG nt).add (.loc nt 0) (.loop C ps nt tm none)).o g)=some (gf,fs,cs)) (y0:j8 tm (σ.bG nt)) (h2:EA aF=true) (h3:aF.all (fun s=>!s.fQ (nt+1))=true)
  (hB:oW ((σ.bG nt).add (.loc nt 0) (.loop C ps nt tm none)) aF 0 aF=some B) (h4:AV.gW (fun x=>aF.contains x) (fs++[.nK (.loc nt 0)]++cs)=true) (ha:AV.iO (jZ aF) (fs++[.nK (.loc nt 0)]++cs)=gF) (hC:cN P gf gF B R)
  (hK:∀r B',R r B'->r.dC (bY aF)=true/\(∀p∈B',bY aF p.1=true/\p.2.dC (bY aF)=true)/\
   ∃C' Jd Jf Iw st,(((cK aF ((σ.bG nt).add (.loc nt 0) (.loop C ps nt tm none))).bG (nt+1)).lU (fA aF (nt+1) B')).b (.loc nt 0)=some (.loop C' Jd Jf Iw st)/\
    kW Q st ((((cK aF ((σ.bG nt).add (.loc nt 0) (.loop C ps nt tm none))).bG (nt+1)).lU (fA aF (nt+1) B')).drop (.loc nt 0))):
  eL P (.vH nt g C la lb ps) Q σ:=by
 show J6 P nt g C ps Q σ;refine⟨σ,Sub.ZxS σ,[],aF,tm,_,gf,fs,cs,B,fun t a k=>Zfg y0 t a k,rfl,?_,TH h2,h3,hB,h4,?_⟩
 .unfold mO at h1;split at h1
  .rename_i e;cases h1;exact .inl e
  .rename_i tE iI e;cases h1;exact .inr ⟨tE,iI,e,rfl,rfl⟩
  .cases h1
 .rw[ha];refine hC.mono (fun r B' h=>?_);obtain⟨k1,k2,C',Jd,Jf,Iw,st,k3,k4⟩:=hK r B' h;refine⟨k1,k2,?_⟩;have k3':(((cK aF ((((aM [] σ).bG nt).add (.loc nt 0) (.loop C ps nt tm none)))).bG (nt+1)).lU (fA aF (nt+1) B')).b (.loc nt 0)=some (.loop C' Jd Jf Iw st):=k3;rw[k3'];exact k4
theorem ZsK {nt:Nat}{g:bB}{C:Code×Code}{ps:List Nat}{la lb:bD}{Q:sA->AS->Prop}{τ:AS}(hs:Sub τ σ)(h:eL P (.vH nt g C la lb ps) Q τ):eL P (.vH nt g C la lb ps) Q σ:=by
 obtain⟨Pu,h1,h2⟩:J6 P nt g C ps Q τ:=h;exact⟨Pu,h1.trans' hs,h2⟩
end
end
section
attribute [local simp] aK.bG Site.fQ
def oG (fz:List Site)(rs:List nX)(R:AV->List (Site×aK)->Prop)(σ:AS):Prop:=B4 rs R (aY fz σ)
theorem Zpv {fz:List Site}{rs:List nX}{R:AV->List (Site×aK)->Prop}{σ:AS}(h:oG fz rs R σ):rJ rs R σ:=by
 unfold oG B4 at h;split at h
 .rename_i l hl;split at h
  .rename_i x hx;exact⟨fz,[],l,hl,by rw[hx];rfl,rfl,(fun s hs=>by cases hs),by rw[hx];exact h⟩
  .exact h.elim
 .exact h.elim
theorem Oy {P:Program}(fz:List Site){f:FuncId}{F:aZ}{args:List AV}{B:List (Site×aK)}{R:AV->List (Site×aK)->Prop}(hm:P.follows .mixedOrders=true)(hf:fV P f=some F)(hn:args.length<=F.nt)
  (h:eL P F.code (kZ (oG fz F.res R)) ⟨eY 0 args,B⟩):cN P f args B R:=Ie hm hf hn (fun _ h=>Zpv h) (J0 h)
theorem aP {a b:Nat}:Nat.ble a b=decide (a<=b):=by rw[qT,Nat.ble_eq];simp
theorem cU {a b:Nat}:Nat.blt a b=decide (a<b):=by rw[qT,Nat.blt_eq];simp
end
@[simp] def O (d:Nat)(x:lV):LO:=⟨some d,none,x,true⟩
@[simp] def Of (d:Nat)(x:lV):LO:=⟨some d,none,x,false⟩
@[simp] def N (x:lV):LO:=⟨none,none,x,true⟩
@[simp] def Nf (x:lV):LO:=⟨none,none,x,false⟩
@[simp] def G (d g:Nat)(b:Bool)(x:lV):LO:=⟨some d,some (g,b),x,true⟩
@[simp] def Gf (d g:Nat)(b:Bool)(x:lV):LO:=⟨some d,some (g,b),x,false⟩
@[simp] def Ng (g:Nat)(b:Bool)(x:lV):LO:=⟨none,some (g,b),x,true⟩
@[simp] def Nh (g:Nat)(b:Bool)(x:lV):LO:=⟨none,some (g,b),x,false⟩
@[simp] def I (n:Int):bB:=.c (.int .i64 n)
@[simp] def C (n:Nat):bB:=.c (.fn n [] [])
@[simp] def M (n:Nat):lV:=.dW (.t n)
@[simp] def Om (d s:Nat):LO:=⟨some d,none,.dW (.t s),true⟩
@[simp] def OM (d:Nat)(n:Int):LO:=⟨some d,none,.dW (.c (.int .i64 n)),true⟩
@[simp] def Ol (d n s:Nat):LO:=⟨some d,none,.load false n (.t s),true⟩
@[simp] def Ot (d n s:Nat):LO:=⟨some d,none,.load true n (.t s),true⟩
@[simp] def Oa (d n s:Nat):LO:=⟨some d,none,.fa n (.t s),true⟩
@[simp] def Oi (d n s i:Nat):LO:=⟨some d,none,.ia n none (.t s) (.t i),true⟩
@[simp] def Oe (d s i:Nat):LO:=⟨some d,none,.ext (.t s) i,true⟩
@[simp] def On (d s:Nat):LO:=⟨some d,none,.len none (.t s),true⟩
@[simp] def Oz (d s:Nat):LO:=⟨some d,none,.vQ (.t s),true⟩
@[simp] def Oo (d s:Nat):LO:=⟨some d,none,.not (.t s),true⟩
@[simp] def Ox (d n s:Nat):LO:=⟨some d,none,.box n (.t s),true⟩
@[simp] def Ob (d:Nat)(o:BinOp)(a b:Nat):LO:=⟨some d,none,.bin false o (.t a) (.t b),true⟩
@[simp] def Oc (d:Nat)(o:BinOp)(a:Nat)(n:Int):LO:=⟨some d,none,.bin false o (.t a) (.c (.int .i64 n)),true⟩
@[simp] def Ns (n a b:Nat):LO:=⟨none,none,.store n (.t a) (.t b),true⟩
@[simp] def Ce (a n:Nat):bD:=.cond (.t a) .skip (.exit n)
@[simp] def Cd (a:Nat)(x y:bD):bD:=.cond (.t a) x y
@[simp] def Z0:PV:=.int .i64 0
@[simp] def E0:PV:=.emp (some true)
@[simp] def Bf:bB:=.c (.bool false)
@[simp] def Bt:bB:=.c (.bool true)
@[simp] def S (l:List LO)(c:bD):bD:=.seq (.region l) c
@[simp] def Ok (d n:Nat)(l:List bB):LO:=⟨some d,none,.call (.c (.fn n [] [])) l,true⟩
@[simp] def Pl (d n:Nat):LO:=⟨some d,none,.load false 1 (.t n),false⟩
@[simp] def Pa (d k n:Nat):LO:=⟨some d,none,.fa k (.t n),false⟩
@[simp] def Pg (d g n:Nat):LO:=⟨some d,some (g,true),.load false 1 (.t n),true⟩
@[simp] def Pi (d g n:Nat):LO:=⟨some d,some (g,true),.load false 1 (.t n),false⟩
@[simp] def Pm (d n:Nat):LO:=⟨some d,none,.dW (.t n),false⟩
@[simp] def Pp (d a b:Nat):LO:=⟨some d,none,.pick (.t a) (.t b) (.c (.bool false)),true⟩
@[simp] def Pq (d a b:Nat):LO:=⟨some d,none,.pick (.t a) (.c (.bool true)) (.t b),true⟩
@[simp] def Pf (d:Nat):LO:=⟨some d,none,.dW (.c (.bool false)),true⟩
@[simp] def Pe (d:Nat):LO:=⟨some d,none,.dW (.c (.emp (some true))),true⟩
@[simp] def Pt (d n m:Nat):LO:=⟨some d,none,.load true n (.t m),false⟩
@[simp] def Py (d a b c x y:Nat):LO:=⟨some d,none,.app a b c (.t x) (.t y),true⟩
@[simp] def Ph (d g k n:Nat):LO:=⟨some d,some (g,true),.fa k (.t n),true⟩
@[simp] def Pn (d g n:Nat):LO:=⟨some d,some (g,true),.dW (.t n),true⟩
@[simp] def Pj (d w n:Nat)(i:Int):LO:=⟨some d,none,.ia w none (.t n) (.c (.int .i64 i)),false⟩
@[simp] def Pz (d n:Nat):LO:=⟨some d,none,.vQ (.t n),false⟩
@[simp] def Pb (d a b n:Nat):LO:=⟨some d,none,.aR a b [.t n],true⟩
instance:Coe LO (List LO):=⟨fun x=>[x]⟩
@[simp] def aC (l:List (List LO))(c:bD):bD:=.seq (.region l.flatten) c
@[simp] def cO (l:List (List LO)):bD:=.region l.flatten
@[simp] def bH (d a b c:Nat):List LO:=[Oa d a b,Ol (d+1) c d]
@[simp] def rB (d a b c e f:Nat):List LO:=[G d a false (.fa b (.t c)),G (d+1) e false (.load false f (.t d))]
@[simp] def bL (d a b:Nat):List LO:=[Om d a,Om (d+1) b]
@[simp] def iW (d a b c:Nat):List LO:=[Om d a,Oc (d+1) .add d b,Om c (d+1)]
@[simp] def Ku (d a b:Nat)(c:Int)(e f g:Nat)(h:Int)(i:Int):List LO:=[G d a true (.bin false .eql (.t b) (I c)),Pp (d+1) e d,Om (d+2) (d+1),Pn (d+3) (d+2) f,G (d+4) (d+2) true (.ia g none (.t (d+3)) (I h)),Pg (d+5) (d+2) (d+4),G (d+6) (d+2) true (.bin false .eql (.t (d+5)) (I i)),Pp (d+7) (d+2) (d+6)]
@[simp] def WE (d a b c:Nat)(e:Int)(f g:Nat)(h:Int)(i:Int):List LO:=[Om d a,G (d+1) d false (M b),G (d+2) d false (.ia c none (.t (d+1)) (I e)),G (d+3) d false (.load false f (.t (d+2))),G (d+4) d false (.call (C g) [.t (d+3),I h,I i]),G (d+5) d false (.not (.t (d+4))),Pq (d+6) d (d+5)]
@[simp] def c8 (d a b:Nat):List LO:=[O d (.alloc (.agg [Z0,Z0,Z0,Z0,Z0,Z0,Z0])),Ns a d b]
@[simp] def VZ (d a b c:Nat)(e:Int)(f:Nat)(g:Int)(h:Int):List LO:=[Om d a,Pn (d+1) d b,G (d+2) d true (.ia c none (.t (d+1)) (I e)),Pg (d+3) d (d+2),G (d+4) d true (.call (C f) [.t (d+3),I g,I h]),Pp (d+5) d (d+4)]
@[simp] def SL (d a b c e:Nat):List LO:=[Om d a,Pn (d+1) d b,Pn (d+2) d c,G (d+3) d true (.bin false .leq (.t (d+1)) (.t (d+2))),Pp (d+4) d (d+3),Om e (d+4)]
@[simp] def oA (d a b:Nat):List LO:=[On d a,Ob (d+1) .lss b d]
@[simp] def mQ (d a b c e f:Nat):List LO:=[Om d a,Oe b d c,Oe e d f]
@[simp] def pT (d a b:Nat):List LO:=[Om d a,Ok (d+1) b [.t d]]
@[simp] def V1 (d a b:Nat)(c:Int)(e:Nat):List LO:=[O d (.ia a none (.t b) (I c)),Ol (d+1) e d]
@[simp] def V0 (d a b c:Nat):List LO:=[G d a false (.not (.t b)),Pq (d+1) c d]
@[simp] def F3 (d a b c:Nat):List LO:=[Om d a,Ph (d+1) d b c,Pg (d+2) d (d+1)]
@[simp] def xO (d a b c:Nat):List LO:=[Om d a,Ok (d+1) b [.t c,.t d]]
@[simp] def yW (d a b:Nat):List LO:=[Pm d a,Pz (d+1) d,Pa (d+2) b (d+1)]
@[simp] def pS (d a b c:Nat):List LO:=[Oc d .add a b,Om c d]
@[simp] def JH (d a b:Nat):List LO:=[O d (.alloc (.agg [E0,E0,E0,E0,E0])),Ns a d b]
@[simp] def FI (d a b c e f:Nat):List LO:=[G d a true (.call (C b) [.t c,.t e]),Pp (d+1) f d]
@[simp] def nZ (d a b c:Nat):List LO:=[Om d a,Oi (d+1) b c d]
@[simp] def NK (d a b:Nat)(c:Int)(e:Nat):List LO:=[G d a true (.bin false .eql (.t b) (I c)),Pp (d+1) e d]
@[simp] def AB (d a b c:Nat):List LO:=[Ot d a b,O (d+1) (.call (.t c) [.t d])]
@[simp] def NJ (d a b c e:Nat):List LO:=[Of d (.ia a none (.t b) (.t c)),Pa (d+1) e d,Pl (d+2) (d+1)]
@[simp] def Zzr (d a b c e f g h:Nat)(i:Int)(j k:Nat)(l:Int)(m n o:Nat):List LO:=[O d (.build (.agg [Z0,.bool false,Z0,Z0]) [(a,(b,Bt)),(c,(e,(.t f)))]),O (d+1) (.build (.agg [Z0,.bool false,Z0,Z0]) [(g,(h,(I i)))]),O (d+2) (.build (.agg [Z0,.bool false,Z0,Z0]) [(j,(k,(I l)))]),O (d+3) (.build (.agg [Z0,.bool false,Z0,Z0]) []),O (d+4) (.build (.agg [Z0,.bool false,Z0,Z0]) []),O (d+5) (.aR m (d+1) [.t n,.t d,.t (d+1),.t (d+2),.t (d+3),.t (d+4)]),Om o (d+5)]
@[simp] def kC (d a b:Nat):List LO:=[Om d a,Om b d]
@[simp] def qE (d a b:Nat):List LO:=[Om d a,Pn (d+1) d b]
@[simp] def Q5 (d a b:Nat):List LO:=[Om d a,Oz (d+1) d,Oa (d+2) b (d+1)]
@[simp] def JG (d a b:Nat):List LO:=[O d (.alloc (.agg [Z0,Z0,Z0])),Ns a d b]
@[simp] def oZ (d a:Nat):List LO:=[Om d a,On (d+1) d]
@[simp] def qZ (d a b c:Nat):List LO:=[Pm d a,Pj (d+1) b d c]
@[simp] def Zzy (d a b c e f g h i j:Nat)(k:Int)(l:Nat):List LO:=[G d a true (.load false b (.t c)),G (d+1) e true (.yF .sl false (.t d)),G (d+2) f true (M (d+1)),G (d+3) (d+2) false (M g),G (d+4) (d+2) false (.load false h (.t i)),G (d+5) (d+2) false (.call (C j) [.t (d+3),.t (d+4)]),G (d+6) (d+2) false (.bin false .lss (.t (d+5)) (I k)),G (d+7) l true (.pick (.t (d+2)) Bt (.t (d+6)))]
@[simp] def SK (d a b c:Nat):List LO:=[Pm d a,Pm (d+1) b,Of (d+2) (.ia c none (.t d) (.t (d+1)))]
@[simp] def SO (d a:Nat):List LO:=[O d (.alloc (.agg [E0,E0,E0,E0,E0])),OM (d+1) a]
@[simp] def Eu (d a b c e f g:Nat):List LO:=[G d a true (.call (C b) [.t c,.t e]),G (d+1) f true (.not (.t d)),Pp (d+2) g (d+1)]
@[simp] def NN (d a b c:Nat):List LO:=[Om d a,G (d+1) d true (.load true b (.t c))]
@[simp] def O3 (d a b c e f g h i:Nat):List LO:=[Pb d a b c,Py (d+1) e f g h d,Om i (d+1)]
@[simp] def O2 (d a b:Nat):List LO:=[Om d a,Oc (d+1) .neq d b]
@[simp] def Et (d a:Nat)(b:Int):List LO:=[Om d a,O (d+1) (.bin false .shr (.t d) (.c (.int .u64 (b))))]
@[simp] def uF (d a b c e f g:Nat):List LO:=[Ot d a b,Ns c e d,OM f g]
@[simp] def Q6 (d a b c:Nat):List LO:=[Ot d a b,Ok (d+1) c [.t d]]
@[simp] def Xn (d a b:Nat):List LO:=[Om d a,O (d+1) (.x (.look ⟨false,[.int .i64]⟩ (.agg [Z0,Z0,Z0,Z0,Z0,Z0,Z0]) false (.t b) (.t d)))]
@[simp] def Kp (d a b c e f:Nat):List LO:=[Gf d a true (M b),Gf (d+1) c true (.vQ (.t d)),Gf (d+2) e true (.fa f (.t (d+1)))]
@[simp] def NM (d a b c e:Nat):List LO:=[Pl d a,Of b (.ia c none (.t d) (.t e))]
@[simp] def Ko (d a b c:Nat):List LO:=[Of d (.load false a (.t b)),Of (d+1) (.vQ (.t d)),Of (d+2) (.fa c (.t (d+1)))]
@[simp] def xA (d a b c e:Nat):List LO:=[Oi d a b c,Ol (d+1) e d]
@[simp] def WC (d a b c e:Nat):List LO:=[G d a false (.pick (.t b) (.t c) Bf),Pq (d+1) e d]
@[simp] def SN (d a b:Nat):List LO:=[O d (.alloc (.agg [Z0,Z0])),Ns a d b]
@[simp] def SM (d a b c e:Nat):List LO:=[G d a true (.call (C b) [.t c]),Pp (d+1) e d]
@[simp] def Es (d a b c e f:Nat):List LO:=[Oi d a b c,Ot (d+1) e d,O f (.alloc (.agg [Z0,Z0,Z0,Z0]))]
@[simp] def Xm (d a b c:Nat):List LO:=[Om d a,G (d+1) d false (M b),G (d+2) d false (M c),G (d+3) d false (.x (.A8 (.t (d+1)) (.t (d+2))))]
@[simp] def ZzS (d a b c e f g:Nat):List LO:=[G d a true (.load true b (.t c)),G (d+1) e true (.x (.eqv true ⟨true,[.int .i64,.int .i64,.int .i64,.int .i64,.int .i64,.int .i64,.int .i64]⟩ (.t f) (.t d))),Pp (d+2) g (d+1)]
@[simp] def F4 (d a b c e:Nat):List LO:=[Ph d a b c,Pg (d+1) e d]
@[simp] def WB (d a b c e:Nat):List LO:=[O d (.yG a [] [.t b]),Ok (d+1) c [.t e,.t d]]
@[simp] def ZzV (d a b c:Nat):List LO:=[Pl d a,Of (d+1) (.x (.look ⟨false,[.int .i64]⟩ (.agg [Z0,Z0,Z0,Z0,Z0,Z0,Z0]) false (.t b) (.t d))),Of c (.alloc (.agg [Z0,Z0,Z0,Z0,Z0,Z0,Z0]))]
@[simp] def Xl (d a b c:Nat)(e:Int)(f:Nat):List LO:=[G d a false (.len none (.t b)),G (d+1) c false (.bin false .gtr (.t d) (I e)),Pq (d+2) f (d+1)]
@[simp] def WA (d a:Nat):List LO:=[Pl d a,Of (d+1) (.len none (.t d))]
@[simp] def Xk (d a b c e f g h i j:Nat):List LO:=[Pa d a b,Pl (d+1) d,Of c (.call (C e) []),O (d+2) (.build (.agg [E0,E0]) [(f,(g,(.t h))),(i,(j,(.t (d+1))))])]
@[simp] def NL (d a b c e:Nat):List LO:=[Om d a,Ok (d+1) b [.t c,.t e,.t d]]
@[simp] def JI (d a b:Nat):List LO:=[Pl d a,Pz (d+1) d,Pa (d+2) b (d+1)]
@[simp] def Kt (d:Nat):List LO:=[O d (.dW (.c .eW)),O (d+1) (.dW (.c .cT))]
@[simp] def Zz2 (d a b c e f g h i j k l m n o p q r s:Nat):List LO:=[Pm d a,Gf b d false (.fa c (.t e)),Gf f d false (M g),Gf (d+1) d false (.load true h (.t i)),Gf j d false (.load false k (.t l)),Gf m d false (.ia n none (.t o) (.t p)),Gf q d false (.load true r (.t s))]
@[simp] def FJ (d a b:Nat):List LO:=[Om d a,Oc (d+1) .eql d b]
@[simp] def Ks (d a b c e:Nat):List LO:=[G d a true (.bin false .lss (.t b) (.t c)),Pp (d+1) e d]
@[simp] def Zz5 (d a b c e f g:Nat):List LO:=[Gf d a true (.x (.look ⟨false,[.int .i64]⟩ (.agg [Z0,Z0,Z0,Z0,Z0,Z0,Z0]) false (.t b) (.t c))),Gf (d+1) e true (.NA false f g (.t d))]
@[simp] def Ev (d a b c e f g:Nat):List LO:=[Pi d a b,Gf c e true (.ia f none (.t d) (.t g))]
@[simp] def Kr (d a b c e:Nat):List LO:=[G d a true (.bin false .leq (.t b) (.t c)),Pp (d+1) e d]
@[simp] def Kq (d a b c e f:Nat):List LO:=[Of d (.load false a (.t b)),Of c (.load false e (.t f))]
@[simp] def WD (d a b c e:Nat):List LO:=[Gf d a true (M b),Gf (d+1) c true (M e)]
@[simp] def OK (d a b c e:Nat):List LO:=[Ot d a b,Ok (d+1) c [.t e,.t d]]
@[simp] def YD (d a:Nat):List LO:=[O d (.dW (.c .eW)),OM (d+1) a]
@[simp] def ZAc (d a b:Nat)(c:Int)(e f:Nat)(g:Int)(h i:Nat)(j:Int)(k l:Nat)(m:Int)(n o:Nat)(p:Int)(q r:Nat)(s:Int)(t u v w x y z:Nat):List LO:=[O d (.build (.agg [Z0,Z0,Z0]) [(a,(b,(I c))),(e,(f,(I g))),(h,(i,(I j)))]),O (d+1) (.build (.agg [Z0,Z0,Z0]) [(k,(l,(I m))),(n,(o,(I p))),(q,(r,(I s)))]),O (d+2) (.aR t u [.t d,.t (d+1)]),O (d+3) (.build (.agg [Z0,E0]) [(v,(w,(.t x))),(y,(z,(.t (d+2))))])]
@[simp] def ZAd (d a:Nat)(b:Int)(c:Nat):List LO:=[Om d a,O (d+1) (.bin false .and (.t d) (.c (.int .u64 (b)))),Om c (d+1)]
@[simp] def xU (d a b:Nat):List LO:=[On d a,OM (d+1) b]
@[simp] def ZAf (d a b:Nat)(c:Int)(e:Nat):List LO:=[Ob d .add a b,O (d+1) (.conv .u64 (.t d)),O (d+2) (.bin false .shr (.t (d+1)) (.c (.int .u64 (c)))),O (d+3) (.conv .i64 (.t (d+2))),Om e (d+3)]
@[simp] def YC (d a b c e f g h:Nat):List LO:=[Of d (.aR a b [.t c]),Py (d+1) e f g h d]
@[simp] def Ih (d a:Nat):List LO:=[Om d a,O (d+1) (.x (.rF (.t d)))]
@[simp] def TR (d a b:Nat)(c:Int)(e:Int):List LO:=[Ok d a [.t b,I c,I e],Oo (d+1) d]
@[simp] def EI (d a b c:Nat):List LO:=[Ob d .add a b,Om c d]
@[simp] def ZAk (d a b c e:Nat):List LO:=[G d a false (.x (.look ⟨false,[.int .i64]⟩ (.bool false) false (.t b) (.t c))),O (d+1) (.pick (.t e) Bt (.t d))]
@[simp] def mZ (d a b c:Nat):List LO:=[Pl d a,Pl b c]
@[simp] def ZAm (d a:Nat)(b:Int):List LO:=[Om d a,O (d+1) (.bin false .neq (.t d) (.c (.int .u8 (b))))]
@[simp] def uM (d a b:Nat):List LO:=[Ox d a b,Pf (d+1)]
@[simp] def x4 (d a b:Nat):List LO:=[Oz d a,Oa (d+1) b d]
@[simp] def x3 (d a:Nat):List LO:=[Om d a,Oz (d+1) d]
@[simp] def Ig (d a b c:Nat):List LO:=[G d a true (.not (.t b)),Pp (d+1) c d]
@[simp] def Pr (d a b c e f:Nat):List LO:=[Pn d a b,G (d+1) c true (.ia e none (.t f) (.t d))]
@[simp] def ZAs (d a b c e f:Nat):List LO:=[Om d a,G (d+1) d false (.fa b (.t c)),G (d+2) d false (.load true e (.t (d+1))),G (d+3) d false (.call (C f) [.t (d+2)])]
@[simp] def YB (d a b:Nat):List LO:=[Om d a,G (d+1) d false (M b)]
@[simp] def Po (d a b c:Nat):List LO:=[Ot d a b,O c (.alloc (.agg [Z0,Z0,E0]))]
noncomputable section
def L11:aZ :=⟨6,S [Pe 2] (S [O 3 (.aR 9 1 []),Om 4 0,O 5 (.iM 9 1 16 (.t 3) (.t 4)),Om 2 5] .ret),[.tm 2]⟩
def L12:aZ :=⟨6,S [OM 2 0] (.seq (aC [pT 3 0 33,Oo 5 4] (Cd 5 (S [OM 2 3] .ret) .skip)) (S [OM 2 0] .ret)),[.tm 2]⟩
def L30:aZ :=⟨13,S [OM 2 0] (S [O 3 (.dW (C 65))] (.seq (aC [oZ 4 0,Oc 6 .gtr 5 50,YB 7 6 0,G 9 7 false (M 3),G 10 7 false (.call (C 66) [.t 8,.t 9]),V0 11 7 10 7] (Cd 12 (S [OM 2 3] .ret) .skip)) (S [OM 2 0] .ret))),[.tm 2]⟩
def L33:aZ :=⟨19,S [Pf 2] (.seq (S [OM 3 0] (.block 0 (.loop (.seq (aC [bL 4 3 0,oA 6 5 4] (Ce 7 0)) (.seq (.block 1 (aC [bL 10 0 3,xA 12 1 10 11 1,O 14 (.x (.rF (.t 13))),Oc 15 .gtr 14 200] (Cd 15 (S [Pf 2] .ret) .skip))) (cO [iW 8 3 1 3])))))) (aC [oZ 16 0,Oc 18 .leq 17 50,Om 2 18] .ret)),[.tm 2]⟩
def L37:aZ :=⟨45,S [Ox 3 2 0,Pf 6] (.seq (aC [bH 10 0 3 1,nZ 12 1 4 11,bH 14 1 13 1] (Cd 15 (S [O 6 (.dW Bt)] .ret) .skip)) (S [Ot 16 2 3,Ok 17 50 [.t 16,.c E0],Om 7 17] (.seq (S [OM 8 0] (.block 0 (.loop (.seq (aC [Om 18 8,bH 19 1 3 1,oA 21 20 18] (Ce 22 0)) (.seq (.block 1 (aC [bH 25 1 3 1,nZ 27 8 7 26,Ot 29 7 28,c8 9 7 29] (aC [bH 30 1 9 1,Om 32 1,Ob 33 .eql 31 32,NN 34 33 7 9,Pn 36 34 2,FI 37 34 75 35 36 34,qE 39 38 7,F4 41 39 0 9 39,FI 43 39 76 40 42 39] (Cd 44 (S [O 6 (.dW Bt)] .ret) .skip)))) (cO [iW 23 8 1 8])))))) (S [Pf 6] .ret)))),[.tm 6]⟩
@[simp] def L41a:LT:=.alt (Of 42 (.call (C 79) [.t 41])) (.op (Of 43 (.x (.sD 9 (.t 42)))) .done) .no
def L41:aZ :=⟨62,S [Ox 3 4 1,O 4 (.dW (.c (.str ⟨#[]⟩)))] (S [OM 5 0] (.seq (aC [Q5 9 0 0,bH 12 3 11 1,xU 14 13 0] (.block 0 (.loop (S [Ob 16 .lss 15 14] (.seq (Ce 16 0) (.seq (.block 1 (aC [Es 17 4 13 15 4 7,Ns 4 7 18] (aC [bH 19 0 7 1,bH 21 0 3 1,Ob 23 .eql 20 22,qE 24 23 0,G 26 24 true (.load true 4 (.t 7)),FI 27 24 36 25 26 24] (Cd 28 (cO [iW 29 5 1 5]) .skip)))) (cO [pS 31 15 1 15]))))))) (.seq (.jH (.op (Of 32 (.x (.sD 9 (.c (.str ⟨#[108,111,116]⟩))))) (.op (Pa 33 0 3) (.op (Of 36 (.x (.sD 9 (.c (.str ⟨#[116,101,115,116,115]⟩))))) (.op (Pm 37 5) (.op (Of 38 (.x (.sD 3 (.t 37)))) (.op (Pm 39 0) (.op (Pt 40 4 3) (.seq (.alt (Pl 34 33) (.op (Of 35 (.x (.sD 3 (.t 34)))) (.alt (Ok 41 80 [.t 39,.t 40]) L41a .no)) (.alt (Ok 41 80 [.t 39,.t 40]) (.op (Pl 34 33) (.op (Of 35 (.x (.sD 3 (.t 34)))) L41a)) .no)) (.alt (O 44 (.aR 20 1 [.t 32,.t 35,.t 36,.t 38,.t 43])) (.alt (Ok 45 44 [.t 44]) (.op (Om 8 45) .done) .no) .no)))))))))) (.seq (aC [bH 46 3 3 1] (Cd 47 (.region [Om 48 8,O 49 (.x (.sD 9 (.t 48))),O 50 (.x (.sD 9 (.c (.str ⟨#[112,97,115,115,101,100]⟩)))),O 51 (.aR 20 1 [.t 49,.t 50]),Ok 52 44 [.t 51],Om 8 52]) .skip)) (.seq (aC [Om 53 0,OK 54 4 3 53 53] (Cd 55 (.region [Om 56 8,O 57 (.x (.sD 9 (.t 56))),O 58 (.x (.sD 9 (.c (.str ⟨#[114,101,99,97,108,108,101,100]⟩)))),O 59 (.aR 20 1 [.t 57,.t 58]),Ok 60 44 [.t 59],Om 8 60]) .skip)) (aC [kC 61 8 4] .ret)))))),[.tm 4]⟩
def L44:aZ :=⟨33,S [O 2 (.dW (.c (.str ⟨#[]⟩)))] (S [Pe 3] (.seq (aC [oZ 8 0,OM 10 0] (.block 0 (.loop (S [Ob 11 .lss 10 9] (.seq (Ce 11 0) (.seq (.block 1 (aC [xA 12 1 8 10 1,Om 5 13] (S [Om 14 5] (.block 2 (S [O 15 (.x (.KZ 3 Z0 (.t 14))),Oe 16 15 1,Oe 17 15 0] (Cd 16 (S [Om 6 17] (cO [bL 18 3 6,Ok 20 89 [.t 19],O3 21 9 1 20 9 1 16 18 3])) (S [O 23 (.x (.KZ 9 (.str ⟨#[]⟩) (.t 14))),Oe 24 23 1,Oe 25 23 0] (Cd 24 (S [Om 7 25] (cO [bL 26 3 7,O3 28 9 1 27 9 1 16 26 3])) .skip)))))))) (cO [pS 30 10 1 10]))))))) (S [Om 31 3,O 32 (.call (C 90) [.t 31,.c (.str ⟨#[32]⟩)]),Om 2 32] .ret))),[.tm 2]⟩
def L48:aZ :=⟨66,S [Ox 2 5 0,Ox 3 4 1,OM 4 0,OM 5 0] (S [Pe 6] (.seq (S [OM 7 0] (.block 0 (.loop (.seq (aC [Om 11 7,bH 12 3 2 1,oA 14 13 11] (Ce 15 0)) (.seq (.block 1 (.seq (aC [Pa 18 3 2,Pm 20 7,Pa 24 0 3,Pl 19 18,NJ 21 4 19 20 0,Pl 25 24,Of 26 (.bin false .neq (.t 23) (.t 25)),Zz2 27 26 29 3 2 31 7 5 2 30 1 29 32 4 30 31 33 4 32,G 34 27 false (.call (C 18) [.t 28,.t 33]),V0 35 27 34 27] (Cd 36 (.exit 1) .skip)) (aC [Pm 37 6,Pa 39 3 2,Pm 41 7,Pa 44 2 3,Pt 38 5 2,NM 40 39 42 4 41,Pt 43 4 42,Pl 45 44,Ok 46 94 [.t 38,.t 43,.t 45],Oo 47 46,O3 48 4 1 47 4 1 1 37 6] (aC [bH 51 1 3 1,Ok 53 96 [.t 52],xO 54 6 95 53,mQ 50 55 56 0 57 1,Oe 58 50 2,bL 8 56 57,Om 10 58] (aC [O2 59 8 3] (Cd 60 (aC [bL 61 8 6,On 63 62,bL 4 61 63] .ret) .skip)))))) (cO [iW 16 7 1 7])))))) (aC [oZ 64 6,OM 4 3,Om 5 65] .ret))),[.tm 4,.tm 5]⟩
def L52:aZ :=⟨8,S [O 2 (.alloc (.agg [E0,E0]))] (S [O 3 (.build (.agg [Z0,Z0]) [(0,(1,(I 10))),(1,(1,(I 13)))]),Pb 4 192 2 3,O 5 (.aR 193 1 [.t 4,.c E0]),Om 6 0,O 7 (.build (.agg [E0,E0]) [(0,(1,(.t 5))),(1,(1,(.t 6)))]),Ns 2 2 7] .ret),[.cell 2 true 2]⟩
def L59:aZ :=⟨59,aC [Ox 2 5 0,SO 4 0] (.seq (aC [qZ 9 1 1 0,Pt 8 5 2,Pl 11 10,Ok 12 17 [.t 8,.t 11]] (Cd 12 (aC [uF 13 5 2 5 4 5 6] .ret) .skip)) (aC [Ot 14 5 2,JH 6 5 14] (.seq (.jH (.op (Pa 16 0 2) (.op (Pm 19 1) (.op (Pj 20 1 19 0) (.op (Pm 22 1) (.op (Pj 23 1 22 1) (.op (Pm 25 1) (.op (Pj 26 1 25 2) (.op (Pm 28 1) (.op (Pj 29 1 28 3) (.op (Pm 31 1) (.op (Pj 32 1 31 4) (.op (Pm 34 1) (.op (Pj 35 1 34 5) (.op (Pm 37 1) (.op (Pj 38 1 37 6) (.op (Pl 17 16) (.op (Pl 21 20) (.op (Pl 24 23) (.op (Pl 27 26) (.op (Pl 30 29) (.op (Pl 33 32) (.op (Pl 36 35) (.op (Pl 39 38) (.op (Of 40 (.build (.agg [Z0,Z0]) [(0,(1,(.t 36))),(1,(1,(.t 39)))])) (.op (Of 41 (.build (.agg [Z0,Z0,Z0,Z0,Z0,Z0,Z0]) [(0,(1,(.t 21))),(1,(1,(.t 24))),(2,(1,(.t 27))),(3,(1,(.t 30))),(4,(1,(.t 33))),(5,(2,(.t 40)))])) (.seq (.alt (Of 15 (.aR 82 7 [])) (.alt (Of 18 (.iM 82 7 56 (.t 15) (.t 17))) (.alt (Of 42 (.aR 82 7 [.t 41])) .done .no) (.alt (Of 42 (.aR 82 7 [.t 41])) (.alt (Of 18 (.iM 82 7 56 (.t 15) (.t 17))) .done .no) .no)) (.alt (Of 42 (.aR 82 7 [.t 41])) (.alt (Of 15 (.aR 82 7 [])) (.alt (Of 18 (.iM 82 7 56 (.t 15) (.t 17))) .done .no) .no) .no)) (.alt (Py 43 82 7 56 18 42) (.op (Oa 44 0 6) (.alt (Ns 1 44 43) .done .no)) .no)))))))))))))))))))))))))))) (.seq (aC [Xk 46 0 6 45 77 0 1 45 1 1,Ok 49 105 [.t 48],Om 7 49] (aC [O2 50 7 0] (Cd 51 (S [Ot 52 5 2,Om 53 7,Ns 5 4 52,Om 5 53] .ret) .skip))) (.seq (aC [Q6 54 5 6 38,Ok 56 106 [.t 55]] (Cd 56 (aC [uF 57 5 2 5 4 5 9] .ret) .skip)) (aC [uF 58 5 6 5 4 5 0] .ret)))))),[.cell 4 true 5,.tm 5]⟩
@[simp] def L64a:LT:=.alt (Of 36 (.iM 85 3 40 (.t 33) (.t 35))) (.alt (Of 53 (.aR 85 3 [.t 52])) .done .no) (.alt (Of 53 (.aR 85 3 [.t 52])) (.alt (Of 36 (.iM 85 3 40 (.t 33) (.t 35))) .done .no) .no)
def L64:aZ :=⟨63,aC [Ox 2 5 0,SO 4 0] (.seq (aC [Om 7 1,V1 8 1 7 0 1,TR 10 107 9 1 40,WE 12 11 1 1 1 1 107 0 40,WE 19 18 1 1 2 1 107 1 3] (Cd 25 (aC [uF 26 5 2 5 4 5 2] .ret) .skip)) (.seq (aC [bH 27 4 2 1,On 29 28,Oc 30 .geq 29 6] (Cd 30 (aC [uF 31 5 2 5 4 5 3] .ret) .skip)) (aC [Ot 32 5 2,JH 6 5 32] (.seq (.jH (.op (Pa 34 4 2) (.op (Pm 37 1) (.op (Pj 38 1 37 0) (.op (Pm 40 1) (.op (Pj 41 1 40 1) (.op (Pm 43 1) (.op (Pj 44 1 43 2) (.op (Pm 47 1) (.op (Pj 48 1 47 2) (.op (Pl 35 34) (.op (Pl 39 38) (.op (Pl 42 41) (.op (Pl 45 44) (.op (Of 46 (.bin false .neq (.t 45) (I 2))) (.op (Pl 49 48) (.op (Of 50 (.bin false .neq (.t 49) (I 1))) (.seq (.alt (Of 33 (.aR 85 3 [])) (.alt (Of 36 (.iM 85 3 40 (.t 33) (.t 35))) (.alt (Of 51 (.aR 4 1 [.t 46,.t 50])) (.op (Of 52 (.build (.agg [Z0,Z0,E0]) [(0,(1,(.t 39))),(1,(1,(.t 42))),(2,(1,(.t 51)))])) (.alt (Of 53 (.aR 85 3 [.t 52])) .done .no)) .no) (.alt (Of 51 (.aR 4 1 [.t 46,.t 50])) (.op (Of 52 (.build (.agg [Z0,Z0,E0]) [(0,(1,(.t 39))),(1,(1,(.t 42))),(2,(1,(.t 51)))])) L64a) .no)) (.alt (Of 51 (.aR 4 1 [.t 46,.t 50])) (.op (Of 52 (.build (.agg [Z0,Z0,E0]) [(0,(1,(.t 39))),(1,(1,(.t 42))),(2,(1,(.t 51)))])) (.alt (Of 33 (.aR 85 3 [])) L64a (.alt (Of 53 (.aR 85 3 [.t 52])) (.alt (Of 33 (.aR 85 3 [])) (.alt (Of 36 (.iM 85 3 40 (.t 33) (.t 35))) .done .no) .no) .no))) .no)) (.alt (Py 54 85 3 40 36 53) (.op (Oa 55 4 6) (.alt (Ns 1 55 54) .done .no)) .no))))))))))))))))))) (.seq (aC [bH 56 4 6 1,Ok 58 52 [.t 57],Ok 59 98 [.t 58,I 40],Oo 60 59] (Cd 60 (aC [uF 61 5 2 5 4 5 9] .ret) .skip)) (aC [uF 62 5 6 5 4 5 0] .ret)))))),[.cell 4 true 5,.tm 5]⟩
def L76:aZ :=⟨18,S [Pf 4] (.seq (S [OM 5 0] (.block 0 (.loop (.seq (aC [bL 6 5 0,oA 8 7 6] (Ce 9 0)) (.seq (.block 1 (aC [bL 12 0 5,xA 14 1 12 13 1,Om 16 1,Ob 17 .eql 15 16] (Cd 17 (S [O 4 (.dW Bt)] .ret) .skip))) (cO [iW 10 5 1 5])))))) (S [Pf 4] .ret)),[.tm 4]⟩
def L88:aZ :=⟨9,S [Pe 0] (aC [O 1 (.build (.agg [Z0,.bool false,Z0,Z0]) [(1,(1,Bt))]),O 2 (.build (.agg [Z0,Z0]) [(0,(1,(I (-2)))),(1,(1,(I 2)))]),Zzr 3 1 1 2 2 2 0 1 1 0 1 1 210 1 0] .ret),[.tm 0]⟩
def L91:aZ :=⟨38,S [Ox 1 2 0,OM 2 0] (S [O 3 (.dW (C 127))] (S [O 4 (.dW (C 128))] (S [O 6 (.yG 131 [] [.t 1]),Om 5 6] (.seq (.block 0 (aC [bH 8 0 1 1,On 10 9,Oc 11 .gtr 10 4,Om 12 11,rB 13 12 1 1 12 1,Xl 15 12 14 12 6 12,Om 18 17,rB 19 18 0 1 18 1,G 21 18 false (M 3),G 22 18 false (.call (C 133) [.t 20,.t 21]),V0 23 18 22 18,Om 7 24] (Cd 7 (S [OM 2 3] .ret) (aC [bH 26 0 1 1,xO 28 4 133 27,Oo 30 29,Om 31 30,rB 32 31 1 1 31 1,G 34 31 false (M 5),G 35 31 false (.call (C 134) [.t 33,.t 34]),V0 36 31 35 31,Om 25 37] (Cd 25 (S [OM 2 1] .ret) .skip))))) (S [OM 2 0] .ret))))),[.tm 2]⟩
def L96:aZ :=⟨8,S [O 2 (.alloc (.agg [Z0,E0]))] (aC [Om 3 0,ZAc 4 0 1 2 1 1 0 2 1 2 0 1 2 1 1 1 2 1 2 246 3 0 1 3 1 1,Ns 2 2 7] .ret),[.cell 2 true 2]⟩
def L101:aZ :=⟨48,S [Om 10 1,O 11 (.call (C 146) [.t 10,.c (.str ⟨#[32]⟩)]),Om 4 11] (.seq (.jH (.op (Pm 14 4) (.op (Pj 15 1 14 0) (.op (Pl 16 15) (.seq (.alt (Of 13 (.call (C 147) [])) (.op (Of 17 (.x (.look ⟨false,[.str]⟩ (.agg [Z0,.dP]) true (.t 13) (.t 16)))) (.op (Om 12 17) (.op (Oe 18 12 0) (.op (Oe 19 12 1) (.alt (Of 5 (.alloc (.agg [Z0,.dP]))) (.alt (Ns 2 5 18) .done .no) .no))))) (.alt (Of 5 (.alloc (.agg [Z0,.dP]))) (.alt (Of 13 (.call (C 147) [])) (.op (Of 17 (.x (.look ⟨false,[.str]⟩ (.agg [Z0,.dP]) true (.t 13) (.t 16)))) (.op (Om 12 17) (.op (Oe 18 12 0) (.op (Oe 19 12 1) (.alt (Ns 2 5 18) .done .no))))) .no) .no)) (.op (Om 6 19) .done)))))) (aC [Om 20 6,qE 21 20 4,G 23 21 true (.len none (.t 22)),F4 24 21 0 5 21,G 26 21 true (.bin false .add (.t 25) (I 1)),G 27 21 true (.bin false .eql (.t 23) (.t 26)),Pp 28 21 27,Ok 29 148 [.t 28,I 4]] (S [Pe 7] (.seq (aC [Om 30 4,O 31 (.J4 1 none (.t 30) (some (I 1)) none none),xU 32 31 0] (.block 0 (.loop (S [Ob 34 .lss 33 32] (.seq (Ce 34 0) (.seq (.block 1 (aC [xA 35 1 31 33 1,Om 9 36] (cO [bL 37 7 9,Ok 39 149 [.t 38],O3 40 3 1 39 3 1 8 37 7]))) (cO [pS 42 33 1 33]))))))) (cO [bH 43 1 5 1,bL 45 0 7,O 47 (.call (.t 44) [.t 45,.t 46])]))))),[]⟩
@[simp] def L105c:LT:=.alt (Nf (.store 7 (.t 9) (.t 146))) .done .no
@[simp] def L105a:LT:=.alt (Pt 151 7 150) L105c (.alt (Nf (.store 7 (.t 9) (.t 146))) (.op (Pt 151 7 150) .done) .no)
@[simp] def L105b:LT:=.alt (Pl 148 147) (.op (Of 150 (.ia 7 none (.t 148) (.t 149))) L105a) (.alt (Nf (.store 7 (.t 9) (.t 146))) (.op (Pl 148 147) (.op (Of 150 (.ia 7 none (.t 148) (.t 149))) (.op (Pt 151 7 150) .done))) .no)
@[simp] def L105d:LT:=.alt (Pt 151 7 150) (.alt (Of 10 (.alloc (.agg [Z0,Z0,Z0,Z0,Z0,Z0,Z0]))) L105c .no) (.alt (Of 10 (.alloc (.agg [Z0,Z0,Z0,Z0,Z0,Z0,Z0]))) L105a .no)
@[simp] def L105e:LT:=.alt (Pt 151 7 150) (.alt (Of 9 (.alloc (.agg [Z0,Z0,Z0,Z0,Z0,Z0,Z0]))) L105c .no) (.alt (Of 9 (.alloc (.agg [Z0,Z0,Z0,Z0,Z0,Z0,Z0]))) L105a .no)
def L105:aZ :=⟨176,S [Ox 1 2 0,OM 2 0] (.seq (aC [bH 11 0 1 1,On 13 12,Oc 14 .gtr 13 8,Om 15 14,rB 16 15 1 1 15 1,Xl 18 15 17 15 24 15] (Cd 20 (S [OM 2 3] .ret) .skip)) (.seq (S [OM 3 0] (.block 0 (.loop (.seq (aC [Om 21 3,bH 22 0 1 1,oA 24 23 21] (Ce 25 0)) (.seq (.block 1 (aC [bH 28 0 1 1,nZ 30 3 4 29,Ot 32 4 31,O 4 (.alloc (.agg [Z0,.bool false,Z0,Z0])),Ns 4 4 32] (aC [bH 33 0 4 1,TR 35 116 34 0 100,ZAs 37 36 2 4 2 151,V0 41 37 40 37,Om 43 42,rB 44 43 1 4 43 1,G 46 43 false (.not (.t 45)),G 47 43 false (M 46),Ph 48 47 2 4,F4 49 47 0 48 47,G 51 47 true (.bin false .neq (.t 50) (I 0)),Pn 52 47 51,G 53 52 false (.fa 2 (.t 4)),rB 54 52 1 53 52 1,G 56 52 false (.bin false .neq (.t 55) (I 0)),G 57 47 true (.pick (.t 52) Bt (.t 56)),WC 58 43 47 57 43] (Cd 59 (S [OM 2 1] .ret) .skip)))) (cO [iW 26 3 1 3])))))) (.seq (S [OM 5 0] (.block 2 (.loop (.seq (aC [Om 60 5,bH 61 1 1 1,oA 63 62 60] (Ce 64 2)) (.seq (.block 3 (aC [bH 67 1 1 1,nZ 69 5 7 68,Ot 71 7 70,c8 6 7 71] (.seq (aC [bH 72 0 6 1,TR 74 116 73 1 999,Om 76 75,rB 77 76 1 6 76 1,rB 79 76 0 1 76 1,G 81 76 false (.len none (.t 80)),G 82 76 false (.bin false .sub (.t 81) (I 1)),G 83 76 false (.call (C 116) [.t 78,I 0,.t 82]),V0 84 76 83 76,Om 86 85,rB 87 86 2 6 86 1,rB 89 86 0 1 86 1,G 91 86 false (.len none (.t 90)),G 92 86 false (.bin false .sub (.t 91) (I 1)),G 93 86 false (.call (C 116) [.t 88,I 0,.t 92]),V0 94 86 93 86,Om 96 95,rB 97 96 2 6 96 1,rB 99 96 1 6 96 1,G 101 96 false (.bin false .eql (.t 98) (.t 100)),Pq 102 96 101,Om 103 102,rB 104 103 0 1 103 1,rB 106 103 1 6 103 1,G 108 103 false (.ia 4 none (.t 105) (.t 107)),rB 109 103 1 108 103 1,Pq 111 103 110] (Cd 111 (S [OM 2 1] .ret) .skip)) (aC [bH 112 3 6 1,TR 114 116 113 0 1000,Om 116 115,rB 117 116 4 6 116 1,G 119 116 false (.call (C 116) [.t 118,I 0,I 1000]),V0 120 116 119 116,ZAs 122 121 5 6 2 151,V0 126 122 125 122] (Cd 127 (S [OM 2 1] .ret) .skip))))) (cO [iW 65 5 1 5])))))) (.seq (S [OM 7 0] (.block 4 (.loop (.seq (aC [Om 128 7,bH 129 1 1 1,oA 131 130 128] (Ce 132 4)) (.seq (.block 5 (S [OM 8 0] (.block 6 (.loop (.seq (aC [Om 135 8,bH 136 1 1 1,oA 138 137 135] (Ce 139 6)) (.seq (.block 7 (.seq (.jH (.op (Pa 142 1 1) (.op (Pm 144 7) (.op (Pa 147 1 1) (.op (Pm 149 8) (.op (Pl 143 142) (.op (Of 145 (.ia 7 none (.t 143) (.t 144))) (.op (Pt 146 7 145) (.seq (.alt (Pl 148 147) (.op (Of 150 (.ia 7 none (.t 148) (.t 149))) (.alt (Pt 151 7 150) (.alt (Of 9 (.alloc (.agg [Z0,Z0,Z0,Z0,Z0,Z0,Z0]))) (.alt (Of 10 (.alloc (.agg [Z0,Z0,Z0,Z0,Z0,Z0,Z0]))) L105c .no) (.alt (Of 10 (.alloc (.agg [Z0,Z0,Z0,Z0,Z0,Z0,Z0]))) (.alt (Of 9 (.alloc (.agg [Z0,Z0,Z0,Z0,Z0,Z0,Z0]))) L105c .no) .no)) (.alt (Of 9 (.alloc (.agg [Z0,Z0,Z0,Z0,Z0,Z0,Z0]))) L105d (.alt (Of 10 (.alloc (.agg [Z0,Z0,Z0,Z0,Z0,Z0,Z0]))) L105e .no)))) (.alt (Of 9 (.alloc (.agg [Z0,Z0,Z0,Z0,Z0,Z0,Z0]))) (.alt (Pl 148 147) (.op (Of 150 (.ia 7 none (.t 148) (.t 149))) L105d) (.alt (Of 10 (.alloc (.agg [Z0,Z0,Z0,Z0,Z0,Z0,Z0]))) L105b .no)) (.alt (Of 10 (.alloc (.agg [Z0,Z0,Z0,Z0,Z0,Z0,Z0]))) (.alt (Pl 148 147) (.op (Of 150 (.ia 7 none (.t 148) (.t 149))) L105e) (.alt (Of 9 (.alloc (.agg [Z0,Z0,Z0,Z0,Z0,Z0,Z0]))) L105b .no)) .no))) (.alt (Ns 7 10 151) .done .no)))))))))) (aC [bH 152 0 9 1,bH 154 0 10 1,Ob 156 .eql 153 155,NN 157 156 7 9,ZzS 159 157 7 10 157 158 157,Om 162 161,rB 163 162 0 9 162 1,rB 165 162 0 10 162 1,G 167 162 false (.bin false .gtr (.t 164) (.t 166)),G 168 162 false (M 167),F4 169 168 3 9 168,F4 171 168 3 10 168,G 173 168 true (.bin false .lss (.t 170) (.t 172)),WC 174 162 168 173 162] (Cd 175 (S [OM 2 6] .ret) .skip)))) (cO [iW 140 8 1 8]))))))) (cO [iW 133 7 1 7])))))) (S [OM 2 0] .ret))))),[.tm 2]⟩
def L119:aZ :=⟨71,S [Ox 2 2 0,O 4 (.dW (.c (.int .u8 (0)))),OM 5 0,OM 6 0] (.seq (aC [Q6 14 2 2 160,Om 7 15] (aC [O2 16 7 0] (Cd 17 (S [Om 18 7,O 4 (.dW (.c (.int .u8 (0)))),OM 5 0,Om 6 18] .ret) .skip))) (S [OM 8 0,OM 9 0] (.seq .skip (.seq (aC [bH 19 1 2 1,xU 21 20 0] (.block 0 (.loop (S [Ob 23 .lss 22 21] (.seq (Ce 23 0) (.seq (.block 1 (aC [Oi 24 3 20 22,Ot 25 3 24,JG 11 3 25] (.seq (aC [oZ 26 1,Om 28 8,bH 29 0 11 1,Ob 31 .add 28 30,Ob 32 .lss 27 31] (Cd 32 (S [Pm 33 8,Pa 34 0 11,Pm 37 1,Of 38 (.len none (.t 37)),Of 4 (.dW (.c (.int .u8 (3)))),Pl 35 34,Ob 36 .add 33 35,Ob 39 .sub 36 38,Om 5 39,OM 6 0] .ret) .skip)) (.seq (aC [bL 40 1 8,Om 42 8,bH 43 0 11 1,Ob 45 .add 42 44,O 46 (.J4 1 none (.t 40) (some (.t 41)) (some (.t 45)) none),xU 47 46 0] (.block 2 (.loop (S [Ob 49 .lss 48 47] (.seq (Ce 49 2) (.seq (.block 3 (aC [xA 50 1 46 48 1,Om 13 51] (S [Om 52 13] (Cd 52 (cO [iW 53 9 1 9]) .skip)))) (cO [pS 55 48 1 48]))))))) (aC [Om 56 8,bH 57 0 11 1,EI 59 56 58 8] (aC [Ot 60 3 11,xO 61 9 161 60,Om 4 62] (aC [ZAm 63 4 3] (Cd 64 (.exit 0) .skip)))))))) (cO [pS 65 22 1 22]))))))) (.seq (aC [oZ 66 1,Om 68 8,Ob 69 .gtr 67 68] (Cd 69 (S [O 4 (.dW (.c (.int .u8 (0)))),OM 5 0,OM 6 2] .ret) .skip)) (aC [kC 70 4 4,OM 5 0,OM 6 0] .ret)))))),[.tm 4,.tm 5,.tm 6]⟩
def L121:aZ :=⟨126,aC [Ox 1 2 0,YD 2 0] (.seq (.block 0 (aC [bH 12 0 1 1,On 14 13,Oc 15 .gtr 14 8,Om 16 15,rB 17 16 1 1 16 1,Xl 19 16 18 16 24 16,Om 11 21] (Cd 11 (S [O 2 (.dW (.c .eW)),OM 3 3] .ret) (aC [bH 23 0 1 1,Ok 25 162 [.t 24,C 163],Oo 26 25,Om 27 26,rB 28 27 1 1 27 1,G 30 27 false (.load true 2 (.t 1)),G 31 27 false (.yG 165 [.t 30] []),G 32 27 false (.call (C 164) [.t 29,.t 31]),V0 33 27 32 27,Om 22 34] (Cd 22 (aC [YD 2 1] .ret) .skip))))) (S [Ot 35 2 1,O 36 (.x .G2),O 37 (.build (.agg ([E0,E0,.cT,E0] ++ List.replicate 1000 (.bool false))) [(0,(2,(.t 35))),(2,(1,(.t 36)))]),Ox 38 1004 37,Om 4 38] (.seq (aC [bH 39 1 1 1,xU 41 40 0] (.block 1 (.loop (S [Ob 43 .lss 42 41] (.seq (Ce 43 1) (.seq (.block 2 (aC [Oi 44 7 40 42,Ot 45 7 44,c8 6 7 45] (aC [yW 47 4 2,Pa 51 0 6,mZ 50 49 52 51,Of 53 (.x (.look ⟨false,[.int .i64]⟩ (.agg [Z0,Z0,Z0,Z0,Z0,Z0,Z0]) true (.t 50) (.t 52))),mQ 46 53 54 0 55 1,Of 7 (.alloc (.agg [Z0,Z0,Z0,Z0,Z0,Z0,Z0])),Ns 7 7 54,Om 8 55] (.seq (aC [Om 56 8,NN 57 56 7 7,ZzS 59 57 7 6 57 58 57] (Cd 61 (aC [YD 2 6] .ret) .skip)) (S [Om 62 8,Oo 63 62] (Cd 63 (aC [yW 64 4 2,Pa 68 0 6,mZ 67 66 69 68,Pt 70 7 6,N (.x (.iL ⟨false,[.int .i64]⟩ (.t 67) (.t 69) (.t 70)))] (cO [Pm 71 4,yW 72 4 3,Pa 76 0 6,mZ 75 74 77 76,YC 78 3 1 77 3 1 8 75,x4 80 71 3,Ns 1 81 79])) .skip)))))) (cO [pS 82 42 1 42]))))))) (aC [x3 83 4,bH 85 3 84 1,Ok 87 166 [.t 86]] (.seq (aC [x3 88 4,bH 90 3 89 1,xU 92 91 0] (.block 3 (.loop (S [Ob 94 .lss 93 92] (.seq (Ce 94 3) (.seq (.block 4 (aC [Om 95 93,xA 96 1 91 93 1,bL 9 95 97] (aC [Pm 98 9,Of 99 (.bin false .gtr (.t 98) (I 0)),Pm 100 99,Kp 101 100 4 100 100 2,Gf 105 100 true (M 10),Kp 108 100 4 100 100 2,Kp 112 100 4 100 100 3,Gf 116 100 true (M 9),Gf 117 100 true (.bin false .sub (.t 116) (I 1)),Pi 104 100 103,Zz5 106 100 104 105 100 3 1,Pi 111 100 110,Ev 115 100 114 118 100 1 117,Pi 119 100 118,Zz5 120 100 111 119 100 3 1,Ks 122 100 107 121 100] (Cd 123 (aC [YD 2 6] .ret) .skip)))) (cO [pS 124 93 1 93]))))))) (aC [kC 125 4 2,OM 3 0] .ret)))))),[.tm 2,.tm 3]⟩
def L122:aZ :=⟨5,S [Pf 2] (S [Om 3 0,Ok 4 167 [.t 3,I 1,I 999],Om 2 4] .ret),[.tm 2]⟩
def L123:aZ :=⟨19,S [OM 4 0] (.seq (aC [oZ 6 0,OM 8 0] (.block 0 (.loop (S [Ob 9 .lss 8 7] (.seq (Ce 9 0) (.seq (.block 1 (aC [kC 10 8 5] (aC [bL 11 1 0,nZ 13 5 1 12,Ol 15 1 14,O 16 (.call (.t 11) [.t 15])] (Cd 16 (aC [kC 17 5 4] .ret) .skip)))) (cO [pS 18 8 1 8]))))))) (S [OM 4 (-1)] .ret)),[.tm 4]⟩
def L136:aZ :=⟨9,S [O 0 (.alloc (.agg [Z0,Z0,Z0,Z0]))] (.seq (S [OM 2 0] (.block 0 (.loop (S [Oc 3 .lss 2 4] (.seq (Ce 3 0) (.seq (.block 1 (aC [kC 4 2 1] (.region [Om 5 1,O 6 (.ia 1 (some 4) (.t 0) (.t 5)),N (.store 1 (.t 6) (I (-1)))]))) (cO [pS 7 2 1 2]))))))) (S [Ot 8 4 0,Ns 4 0 8] .ret)),[.cell 0 true 4]⟩
def L140:aZ :=⟨23,aC [Ox 2 7 0,uM 3 7 1] (aC [bH 5 1 3 1,bH 7 2 2 1,Ob 9 .eql 6 8,F3 10 9 0 3,F4 13 10 0 2 10,Ks 15 10 12 14 10,NN 17 16 7 3,F4 19 17 3 2 17,FI 21 17 75 18 20 17,Om 4 22] .ret),[.tm 4]⟩
def L153:aZ :=⟨11,S [Ox 2 2 0,Pf 4] (aC [Om 5 1,bH 6 0 2 1,On 8 7,Oc 9 .sub 8 1,Ok 10 167 [.t 5,I 0,.t 9],Om 4 10] .ret),[.tm 4]⟩
def L155:aZ :=⟨45,aC [Ol 9 1 1,Oz 10 9,bH 11 3 10 1,xU 13 12 0] (.block 0 (.loop (S [Ob 15 .lss 14 13] (.seq (Ce 15 0) (.seq (.block 1 (aC [xA 16 1 12 14 1,Om 7 17] (aC [Ol 18 1 1,Oz 19 18,bH 20 2 19 1,Xn 22 7 21,c8 8 7 23] (aC [Om 24 7,Ol 25 1 2,Ob 26 .lss 24 25,F3 27 26 1 8,Pg 30 27 3,G 31 27 true (.bin false .eql (.t 29) (.t 30)),Pp 32 27 31,NN 33 32 7 8,Pg 35 33 4,FI 36 33 156 34 35 33,qE 38 37 0,G 40 38 true (.load true 7 (.t 8)),G 41 38 true (.call (.t 39) [.t 40]),Ig 42 38 41 38] (Cd 43 .ret .skip))))) (cO [pS 44 14 1 14])))))),[]⟩
theorem L155_ok:fV Tryz.prog 155=some L155:=by kernel_rfl
def L167:aZ :=⟨15,S [Pf 6] (aC [bL 7 1 0,Ob 9 .leq 7 8,SL 10 9 0 2 6] .ret),[.tm 6]⟩
def L171:aZ :=⟨8,S [Ox 2 2 0,Pf 3] (aC [Ol 4 1 1,AB 5 2 2 4,Oo 7 6,Om 3 7] .ret),[.tm 3]⟩
def L189:aZ :=⟨57,aC [Om 6 1,V1 7 1 6 0 1,Ok 9 235 [.t 8,I 1,I 99],VZ 10 9 1 1 1 235 4 30,VZ 16 15 1 1 2 235 0 1000,Ok 22 148 [.t 21,I 2]] (aC [bL 24 0 1,V1 26 1 25 0 1,Ok 28 236 [.t 24,.t 27],mQ 23 28 29 0 30 1,bL 4 29 30] (S [Om 31 5,Oo 32 31,Ok 33 148 [.t 32,I 6]] (.jH (.op (Pm 34 0) (.op (Pm 35 0) (.op (Pz 36 35) (.op (Pa 37 0 36) (.op (Pa 38 2 37) (.op (Pm 41 4) (.op (Pm 42 1) (.op (Pj 43 1 42 0) (.op (Pm 45 1) (.op (Pj 46 1 45 1) (.op (Pm 48 1) (.op (Pj 49 1 48 2) (.op (Pl 39 38) (.op (Pl 44 43) (.op (Pl 47 46) (.op (Pl 50 49) (.op (Of 51 (.build (.agg [Z0,Z0,Z0,.bool false]) [(0,(1,(.t 44))),(1,(1,(.t 47))),(2,(1,(.t 50)))])) (.seq (.alt (Of 40 (.call (C 70) [.t 39])) (.alt (Of 52 (.aR 89 4 [.t 51])) .done .no) (.alt (Of 52 (.aR 89 4 [.t 51])) (.alt (Of 40 (.call (C 70) [.t 39])) .done .no) .no)) (.alt (Ok 53 237 [.t 40,.t 41,.t 52]) (.op (Oz 54 34) (.op (Oa 55 0 54) (.op (Oa 56 2 55) (.alt (Ns 1 56 53) .done .no)))) .no)))))))))))))))))))))),[]⟩
def L190:aZ :=⟨107,aC [Om 11 1,V1 12 1 11 1 1,Ok 14 235 [.t 13,I 2,I 5],VZ 15 14 1 1 2 235 0 1000,VZ 21 20 1 1 3 235 0 2000,Ok 27 148 [.t 26,I 2]] (aC [bL 29 0 1,V1 31 1 30 0 1,Ok 33 236 [.t 29,.t 32],mQ 28 33 34 0 35 1,bL 4 34 35] (S [Om 36 5,Ok 37 148 [.t 36,I 7]] (aC [Q5 38 0 0,bH 41 2 40 1,nZ 43 4 4 42,Ot 45 4 44,O 6 (.alloc (.agg [Z0,Z0,Z0,.bool false])),Ns 4 6 45] (aC [bH 46 3 6 1,Oo 48 47,qE 49 48 0,G 51 49 true (.load true 4 (.t 6)),G 52 49 true (.call (C 80) [.t 50,.t 51]),G 53 49 true (.bin false .eql (.t 52) (.c (.int .u8 (3)))),Pp 54 49 53,Ok 55 148 [.t 54,I 8]] (S [OM 7 0] (.seq (aC [Q5 56 0 0,bH 59 3 58 1,xU 61 60 0] (.block 0 (.loop (S [Ob 63 .lss 62 61] (.seq (Ce 63 0) (.seq (.block 1 (aC [Es 64 4 60 62 4 9,Ns 4 9 65] (aC [bH 66 0 9 1,bH 68 0 6 1,Ob 70 .eql 67 69] (Cd 70 (cO [iW 71 7 1 7]) .skip)))) (cO [pS 73 62 1 62]))))))) (aC [Om 74 7,bH 75 1 6 1,Ob 77 .lss 74 76,Ok 78 148 [.t 77,I 3]] (aC [qZ 79 1 1 0,qZ 82 1 1 1,qZ 85 1 1 2,qZ 88 1 1 3,mZ 81 80 84 83,mZ 87 86 90 89,O 91 (.build (.agg [Z0,Z0,Z0,Z0]) [(0,(1,(.t 81))),(1,(1,(.t 84))),(2,(1,(.t 87))),(3,(1,(.t 90)))]),Of 10 (.alloc (.agg [Z0,Z0,Z0,Z0])),Ns 4 10 91] (aC [Om 92 0,OK 93 4 10 36 92,Ok 95 148 [.t 94,I 10]] (cO [Pm 96 0,yW 97 0 0,Pa 100 3 99,Pl 101 100,Pt 102 4 10,Ok 103 238 [.t 101,.t 102],x4 104 96 0,Oa 106 3 105,Ns 1 106 103])))))))))),[]⟩
def L194:aZ :=⟨20,S [OM 4 0] (aC [pT 7 0 241,Om 5 8] (aC [pT 9 1 241,Om 6 10] (.seq (S [Om 11 5] (Cd 11 (.seq (S [Om 12 6] (Cd 12 (S [OM 4 0] .ret) .skip)) (S [OM 4 (-1)] .ret)) .skip)) (.seq (S [Om 13 6] (Cd 13 (S [OM 4 1] .ret) .skip)) (.seq (aC [bL 14 0 1,Ob 16 .lss 14 15] (Cd 16 (S [OM 4 (-1)] .ret) .skip)) (.seq (aC [bL 17 0 1,Ob 19 .gtr 17 18] (Cd 19 (S [OM 4 1] .ret) .skip)) (S [OM 4 0] .ret))))))),[.tm 4]⟩
def L196:aZ :=⟨45,S [Pf 2] (.seq (aC [x3 7 0,bH 9 0 8 1,Oz 11 10,bH 12 3 11 1,xU 14 13 0] (.block 0 (.loop (S [Ob 16 .lss 15 14] (.seq (Ce 16 0) (.seq (.block 1 (aC [xA 17 1 13 15 1,Om 4 18] (aC [x3 19 0,bH 21 0 20 1,Oz 23 22,bH 24 2 23 1,Xn 26 4 25,c8 5 7 27] (aC [Om 28 0,bH 29 1 5 1,bH 31 3 5 1,Ok 33 197 [.t 28,.t 30,.t 32,I 1000],SN 6 2 33] (aC [Om 34 0,OK 35 7 5 243 34,F3 37 36 0 6,F4 40 37 1 6 37,G 42 37 true (.bin false .gtr (.t 39) (.t 41)),Pp 43 37 42] (Cd 43 (S [O 2 (.dW Bt)] .ret) .skip)))))) (cO [pS 44 15 1 15]))))))) (S [Pf 2] .ret)),[.tm 2]⟩
def L199:aZ :=⟨9,aC [uM 3 1 1] (aC [Om 5 0,WB 6 249 3 248 5,Oo 8 7,Om 4 8] .ret),[.tm 4]⟩
def L200:aZ :=⟨6,aC [uM 1 3 0] (aC [bH 3 0 1 1,Oc 5 .geq 4 1,Om 2 5] .ret),[.tm 2]⟩
def L203:aZ :=⟨18,aC [uM 1 2 0] (aC [bH 3 0 1 1,Ok 5 251 [.t 4],F3 6 5 1 1,SM 9 6 251 8 6,F3 11 10 0 1,F4 14 11 1 1 11,Kr 16 11 13 15 11,Om 2 17] .ret),[.tm 2]⟩
def L205:aZ :=⟨134,S [O 8 (.dW Bt)] (S [O 9 (.dW Bt)] (.block 0 (.loop (.block 1 (aC [bL 19 2 1,Ob 21 .sub 19 20,Om 10 21] (.seq (S [Om 22 10,Oc 23 .leq 22 12] (Cd 23 (aC [bL 24 0 1,NL 26 2 252 24 25] .ret) .skip)) (.seq (aC [FJ 28 3 0] (Cd 29 (aC [bL 30 0 1,NL 32 2 253 30 31] .ret) .skip)) (.seq (S [Om 34 8,Oo 35 34] (Cd 35 (aC [bL 36 0 1,NL 38 2 254 36 37] (.region [Om 40 3,Oc 41 .sub 40 1,Om 3 41])) .skip)) (aC [bL 43 0 1,NL 45 2 255 43 44,mQ 42 46 47 0 48 1,bL 11 47 48] (.seq (aC [FJ 49 12 2] (Cd 50 (aC [bL 51 0 1,NL 53 2 256 51 52] (aC [Om 55 2,Oc 56 .sub 55 1,bL 57 11 1,Ob 59 .sub 57 58,Ob 60 .sub 56 59,Om 11 60] (.region [OM 12 1]))) .skip)) (.seq (aC [Om 61 8,qE 62 61 9,Pp 64 62 63,qE 65 64 12,NK 67 65 66 1 65] (Cd 68 (aC [bL 69 0 1,NL 71 2 257 69 70] (Cd 72 .ret .skip)) .skip)) (.seq (aC [Pm 73 1,Of 74 (.bin false .gtr (.t 73) (I 0)),Pm 75 74,WD 76 75 0 75 1,Gf 78 75 true (.bin false .sub (.t 77) (I 1)),Gf 79 75 true (.ia 1 none (.t 76) (.t 78)),WD 81 75 0 75 11,Gf 83 75 true (.ia 1 none (.t 81) (.t 82)),Pi 80 75 79,Pi 84 75 83,Eu 85 75 258 80 84 75 75] (Cd 87 (aC [bL 88 0 1,bL 90 2 11,Ok 92 259 [.t 88,.t 89,.t 90,.t 91],Om 13 92] (aC [kC 93 13 1] (.exit 1))) .skip)) (aC [bL 95 0 1,bL 97 2 11,Ok 99 260 [.t 95,.t 96,.t 97,.t 98],mQ 94 99 100 0 101 1,bL 14 100 101] (aC [kC 102 15 9] (aC [bL 103 14 1,Ob 105 .sub 103 104,bL 106 2 14,Ob 108 .sub 106 107,bL 16 105 108] (S [Om 109 10,Oc 110 .quo 109 8,Om 18 110] (aC [bL 111 16 17,Ob 113 .lss 111 112] (Cd 113 (aC [bL 114 16 18,Ob 116 .geq 114 115,Om 8 116] (aC [bL 117 0 1,bL 119 14 3,Ok 121 205 [.t 117,.t 118,.t 119,.t 120]] (cO [iW 122 14 1 1]))) (aC [bL 124 17 18,Ob 126 .geq 124 125,Om 8 126] (aC [bL 127 0 14,Oc 129 .add 128 1,bL 130 2 3,Ok 132 205 [.t 127,.t 129,.t 130,.t 131]] (cO [kC 133 14 2]))))))))))))))))))))),[]⟩
def L217:aZ :=⟨29,S [Ox 3 3 1,Pe 4] (.seq (aC [x3 6 0,bH 8 2 7 1,xU 10 9 0] (.block 0 (.loop (S [Ob 12 .lss 11 10] (.seq (Ce 12 0) (.seq (.block 1 (aC [kC 13 11 5] (aC [Om 14 0,bH 15 0 3 1,NL 17 5 267 14 16,Oc 19 .eql 18 (-1)] (Cd 19 (cO [Om 20 4,bH 21 0 3 1,Om 23 5,O 24 (.build (.agg [Z0,Z0,Z0]) [(0,(1,(.t 22))),(1,(1,(I (-1)))),(2,(1,(.t 23)))]),O3 25 281 3 24 281 3 24 20 4]) .skip)))) (cO [pS 27 11 1 11]))))))) (aC [kC 28 4 4] .ret)),[.tm 4]⟩
def L233:aZ :=⟨54,S [OM 4 0,Pf 5] (aC [oZ 10 0,Om 6 11] (S [Om 12 6,OM 7 0,Om 8 12] (.seq (.block 0 (.loop (.seq (aC [bL 13 7 8,Ob 15 .lss 13 14] (Ce 15 0)) (.block 1 (aC [bL 16 7 8,ZAf 18 16 17 1 9] (aC [bL 22 0 9,xA 24 1 22 23 1,xO 26 1 258 25] (Cd 27 (cO [iW 28 9 1 7]) (cO [kC 30 9 8])))))))) (aC [bL 31 7 7,Om 33 6,Ob 34 .lss 32 33,qE 35 34 0,Pr 37 35 7 35 1 36,Pg 39 35 38,Pn 40 35 1,G 41 35 true (.bin false .eql (.t 39) (.t 40)),Pn 42 35 41,G 43 42 false (M 0),G 44 42 false (M 7),G 45 42 false (.ia 1 none (.t 43) (.t 44)),G 46 42 false (.load false 1 (.t 45)),G 47 42 false (.call (C 278) [.t 46]),G 48 42 false (M 47),Pn 49 48 1,G 50 48 true (.call (C 278) [.t 49]),G 51 42 false (.pick (.t 48) (.t 50) Bf),G 52 35 true (.pick (.t 42) Bt (.t 51)),Pp 53 35 52,bL 4 31 53] .ret)))),[.tm 4,.tm 5]⟩
def L236:aZ :=⟨15,S [OM 4 0,Pf 5] (aC [Q5 6 0 0,bH 9 2 8 1,Om 11 1,Ok 12 281 [.t 10,.t 11,C 282],Oe 13 12 0,Oe 14 12 1,bL 4 13 14] .ret),[.tm 4,.tm 5]⟩
def L245:aZ :=⟨2,S [O 0 (.alloc (.agg [Z0,Z0]))] (S [O 1 (.build (.agg [Z0,Z0]) [(0,(1,(I (-1099511627776)))),(1,(1,(I 1099511627776)))]),Ns 2 0 1] .ret),[.cell 0 true 2]⟩
def L246:aZ :=⟨18,S [Ox 2 2 0,Ox 3 2 1,O 4 (.alloc (.agg [Z0,Z0]))] (.seq (.jH (.op (Pa 5 0 2) (.op (Pa 7 0 3) (.op (Pa 11 1 2) (.op (Pa 13 1 3) (.op (Pl 6 5) (.op (Pl 8 7) (.op (Pl 12 11) (.op (Pl 14 13) (.seq (.alt (Of 9 (.aR 3 1 [.t 6,.t 8])) (.alt (Of 10 (.call (C 289) [.t 9])) (.alt (Of 15 (.aR 3 1 [.t 12,.t 14])) .done .no) (.alt (Of 15 (.aR 3 1 [.t 12,.t 14])) (.alt (Of 10 (.call (C 289) [.t 9])) .done .no) .no)) (.alt (Of 15 (.aR 3 1 [.t 12,.t 14])) (.alt (Of 9 (.aR 3 1 [.t 6,.t 8])) (.alt (Of 10 (.call (C 289) [.t 9])) .done .no) .no) .no)) (.alt (Ok 16 290 [.t 15]) (.op (O 17 (.build (.agg [Z0,Z0]) [(0,(1,(.t 10))),(1,(1,(.t 16)))])) (.alt (Ns 2 4 17) .done .no)) .no))))))))))) .ret),[.cell 4 true 2]⟩
def L247:aZ :=⟨11,S [Ox 2 2 0,O 4 (.alloc (.agg [Z0,Z0]))] (S [Ot 5 2 2,Om 6 1,O 7 (.neg (.t 6)),Om 8 1,O 9 (.build (.agg [Z0,Z0]) [(0,(1,(.t 7))),(1,(1,(.t 8)))]),Ok 10 244 [.t 5,.t 9],Ns 2 4 10] .ret),[.cell 4 true 2]⟩
def L249:aZ :=⟨8,aC [uM 2 3 0] (aC [Ol 4 1 1,AB 5 3 2 4,Oo 7 6,Om 3 7] .ret),[.tm 3]⟩
def L252:aZ :=⟨49,aC [iW 8 1 1 6] (.block 0 (.loop (.seq (aC [bL 10 6 2,Ob 12 .lss 10 11] (Ce 12 0)) (.seq (.block 1 (aC [kC 15 6 7] (.block 2 (.loop (.seq (aC [Pm 16 7,Pm 17 1,Of 18 (.bin false .gtr (.t 16) (.t 17)),Pm 19 18,WD 20 19 0 19 7,Gf 22 19 true (.ia 1 none (.t 20) (.t 21)),WD 24 19 0 19 7,Gf 26 19 true (.bin false .sub (.t 25) (I 1)),Gf 27 19 true (.ia 1 none (.t 24) (.t 26)),Pi 23 19 22,Pi 28 19 27,FI 29 19 258 23 28 19] (Ce 30 2)) (.seq (.block 3 (cO [Pm 33 0,Pm 34 7,Pm 35 0,Pm 36 7,Of 37 (.bin false .sub (.t 36) (I 1)),Pm 38 0,Pm 39 7,Of 40 (.bin false .sub (.t 39) (I 1)),Of 41 (.ia 1 none (.t 38) (.t 40)),SK 43 0 7 1,mZ 42 41 46 45,Oi 47 1 33 34,Ns 1 47 42,Oi 48 1 35 37,Ns 1 48 46])) (.region [Om 31 7,Oc 32 .sub 31 1,Om 7 32]))))))) (cO [iW 13 6 1 6]))))),[]⟩
def L269:aZ :=⟨15,S [Pf 6] (aC [bL 7 0 1,Ob 9 .geq 7 8,SL 10 9 0 2 6] .ret),[.tm 6]⟩
def L282:aZ :=⟨9,S [Ox 2 4 0,OM 4 0] (aC [bH 5 0 2 1,Om 7 1,Ob 8 .sub 6 7,Om 4 8] .ret),[.tm 4]⟩
def L287:aZ :=⟨5,S [Ox 1 2 0,OM 2 0] (aC [bH 3 0 1 1,Om 2 4] .ret),[.tm 2]⟩
def L289:aZ :=⟨5,S [OM 2 0] (aC [pT 3 0 310,Om 2 4] .ret),[.tm 2]⟩
def L299:aZ :=⟨27,S [Ot 7 2 1,O 8 (.yG 300 [.t 7] []),Om 5 8] (aC [bH 9 0 1 1,xU 11 10 0] (.block 0 (.loop (S [Ob 13 .lss 12 11] (.seq (Ce 13 0) (.seq (.block 1 (aC [kC 14 12 6] (aC [Om 15 5,Ol 16 1 2,Om 17 6,Ol 18 1 3,O 19 (.call (.t 15) [.t 16,.t 17,.t 18]),qE 20 19 0,Pn 22 20 6,G 23 20 true (.call (.t 21) [.t 22]),Ig 24 20 23 20] (Cd 25 .ret .skip)))) (cO [pS 26 12 1 12]))))))),[]⟩
def L310:aZ :=⟨25,S [OM 2 0] (.seq (aC [oZ 5 0,Oc 7 .lss 6 1] (Cd 7 (.region [O 8 (.x (.sD 9 (.c (.str ⟨#[115,108,105,99,101,115,46,77,97,120,58,32,101,109,112,116,121,32,108,105,115,116]⟩)))),N (.x (.B6 (.t 8)))]) .skip)) (aC [Om 9 0,V1 10 1 9 0 1,Om 3 11] (.seq (S [OM 4 1] (.block 0 (.loop (.seq (aC [bL 12 4 0,oA 14 13 12] (Ce 15 0)) (.seq (.block 1 (cO [bL 18 3 0,nZ 20 4 1 19,Ol 22 1 21,O 23 (.iY true (.t 18) (.t 22)),Om 3 23])) (cO [iW 16 4 1 4])))))) (aC [kC 24 3 2] .ret)))),[.tm 2]⟩
def L313:aZ :=⟨10,S [Ox 2 2 0,Pf 3] (aC [Ol 4 1 1,bH 5 0 2 1,bH 7 1 2 1,Ok 9 173 [.t 4,.t 6,.t 8],Om 3 9] .ret),[.tm 3]⟩
end
noncomputable section
def L20:aZ :=⟨88,S [O 2 (.dW (.c (.str ⟨#[]⟩))),OM 3 0] (.seq (aC [pT 16 0 30,Om 4 17] (aC [O2 18 4 0] (Cd 19 (S [Om 20 4,O 2 (.dW (.c (.str ⟨#[]⟩))),Om 3 20] .ret) .skip))) (aC [pT 22 0 31,mQ 21 23 24 0 25 1,bL 5 24 25] (S [O 7 (.x (.Er 102 5))] (S [O 26 (.yG 39 [] [.t 7]),Om 8 26] (.seq (aC [Q5 27 5 0,bH 30 2 29 1,xU 32 31 0] (.block 0 (.loop (S [Ob 34 .lss 33 32] (.seq (Ce 34 0) (.seq (.block 1 (S [Oi 35 4 31 33,Ot 36 4 35,O 10 (.alloc (.agg [Z0,Z0,Z0,.bool false])),Ns 4 10 36] (cO [bL 37 8 5,OK 39 4 10 41 38,O 41 (.call (.t 37) [.t 40])]))) (cO [pS 42 33 1 33]))))))) (aC [pT 44 5 43,Ok 46 42 [.t 45,.c E0],mQ 43 46 47 0 48 1,bL 11 47 48] (aC [Pm 49 8,Of 50 (.x (.sD 9 (.c (.str ⟨#[99,101,114,116,115]⟩)))),yW 51 5 0,Pa 54 0 53,Of 58 (.x (.sD 9 (.c (.str ⟨#[104,101,108,100]⟩)))),Pm 59 11,Of 60 (.len none (.t 59)),Of 61 (.x (.sD 3 (.t 60))),Of 62 (.x (.sD 9 (.c (.str ⟨#[98,97,100]⟩)))),yW 63 5 0,Pa 66 1 65,WA 55 54,Of 57 (.x (.sD 3 (.t 56))),WA 67 66,Of 69 (.x (.sD 3 (.t 68))),O 70 (.aR 20 1 [.t 50,.t 57,.t 58,.t 61,.t 62,.t 69]),Ok 71 44 [.t 70],O 72 (.call (.t 49) [.t 71])] (aC [pT 74 5 46,Ok 76 45 [.t 75],mQ 73 76 77 0 78 1,Oe 79 73 2,bL 13 77 78,Om 15 79] (S [Om 80 8,O 81 (.x (.sD 9 (.c (.str ⟨#[101,110,100]⟩)))),Om 82 14,O 83 (.x (.sD 3 (.t 82))),O 84 (.aR 20 1 [.t 81,.t 83]),Ok 85 44 [.t 84],O 86 (.call (.t 80) [.t 85])] (S [Ok 87 47 [.t 7],Om 2 87,OM 3 0] .ret)))))))))),[.tm 2,.tm 3]⟩
def L26:aZ :=⟨63,aC [Ox 2 5 0,SO 4 0] (aC [pT 10 1 58,mQ 9 11 12 0 13 1,Oe 14 9 2,bL 6 12 13,Om 8 14] (.seq (S [Om 15 8,Oo 16 15] (Cd 16 (aC [uF 17 5 2 5 4 5 4] .ret) .skip)) (.seq (S [Om 18 6] (.block 0 (S [O 20 (.x (.eqv false ⟨false,[.str]⟩ (.t 18) (.c (.str ⟨#[99,101,114,116]⟩)))),Om 19 20] (Cd 19 (aC [Ot 21 5 2,xO 22 7 59 21,Oe 24 23 0,Oe 25 23 1,Ns 5 4 24,Om 5 25] .ret) (S [O 27 (.x (.eqv false ⟨false,[.str]⟩ (.t 18) (.c (.str ⟨#[98,97,100]⟩)))),Om 26 27] (Cd 26 (aC [qZ 29 7 1 0,Pt 28 5 2,Pl 31 30,Ok 32 60 [.t 28,.t 31],Oe 33 32 0,Oe 34 32 1,Ns 5 4 33,Om 5 34] .ret) (S [O 36 (.x (.eqv false ⟨false,[.str]⟩ (.t 18) (.c (.str ⟨#[108,111,116]⟩)))),Om 35 36] (Cd 35 (aC [Ot 37 5 2,xO 38 7 61 37,Oe 40 39 0,Oe 41 39 1,Ns 5 4 40,Om 5 41] .ret) (S [O 43 (.x (.eqv false ⟨false,[.str]⟩ (.t 18) (.c (.str ⟨#[116,101,115,116]⟩)))),Om 42 43] (Cd 42 (aC [Ot 44 5 2,xO 45 7 62 44,Oe 47 46 0,Oe 48 46 1,Ns 5 4 47,Om 5 48] .ret) (S [O 50 (.x (.eqv false ⟨false,[.str]⟩ (.t 18) (.c (.str ⟨#[112,97,115,115]⟩)))),Om 49 50] (Cd 49 (aC [qZ 52 7 1 0,Pt 51 5 2,Pl 54 53,Ok 55 63 [.t 51,.t 54],Oe 56 55 0,Oe 57 55 1,Ns 5 4 56,Om 5 57] .ret) .skip)))))))))))) (aC [Ot 58 5 2,xO 59 7 64 58,Oe 61 60 0,Oe 62 60 1,Ns 5 4 61,Om 5 62] .ret)))),[.cell 4 true 5,.tm 5]⟩
def L28:aZ :=⟨2,S [Pe 0] (S [O 1 (.aR 9 1 [.c (.str ⟨#[99,101,114,116,32,49,32,50,32,48,32,49,48,32,49,48,48,32,45,49,32,49]⟩),.c (.str ⟨#[108,111,116,32,55,32,56,32,53,48,48]⟩),.c (.str ⟨#[116,101,115,116,32,55,32,50,32,50,48,32,53,49,49]⟩),.c (.str ⟨#[116,101,115,116,32,55,32,50,32,50,48,32,53,49,48]⟩)]),Om 0 1] .ret),[.tm 0]⟩
def L39:aZ :=⟨6,.region [Om 3 0,O 4 (.x (.rH (.t 3) (.c (.str ⟨#[10]⟩)))),Ok 5 40 [.t 1,.t 4]],[]⟩
def L42:aZ :=⟨27,S [Ox 2 2 0,Pe 4,OM 5 0] (aC [Ot 10 2 2,xO 11 1 81 10,mQ 9 12 13 0 14 1,bL 6 13 14] (.seq (aC [O2 15 7 0] (Cd 16 (S [Om 17 7,Pe 4,Om 5 17] .ret) .skip)) (aC [pT 18 6 82,O 8 (.alloc .cT),Ns 1 8 19] (aC [x3 20 6,bH 22 3 21 1,Ok 24 69 [.t 23],WB 25 84 8 83 24,Om 4 26,OM 5 0] .ret)))),[.tm 4,.tm 5]⟩
def L43:aZ :=⟨15,S [Ox 1 1 0,O 2 (.alloc (.agg [E0,E0]))] (aC [Ol 4 1 1,x4 5 4 0,bH 7 0 6 1,Ok 9 68 [.t 8],WB 10 86 1 85 9,Om 3 11] (S [Ok 12 88 [],Om 13 3,O 14 (.build (.agg [E0,E0]) [(0,(1,(.t 12))),(1,(1,(.t 13)))]),Ns 2 2 14] .ret)),[.cell 2 true 2]⟩
def L46:aZ :=⟨10,S [O 2 (.alloc (.agg [E0,E0]))] (aC [yW 4 0 0,Xk 7 4 6 3 93 0 1 3 1 1,Ns 2 2 9] .ret),[.cell 2 true 2]⟩
def L50:aZ :=⟨48,S [Ox 2 2 0,Pe 4] (S [Pe 5] (.seq (S [OM 6 1] (.block 0 (.loop (.seq (S [Om 9 6,Oc 10 .leq 9 999] (Ce 10 0)) (.seq (.block 1 (S [Pf 7] (.seq (S [OM 8 0] (.block 2 (.loop (.seq (aC [Om 13 8,bH 14 1 2 1,oA 16 15 13] (Ce 17 2)) (.seq (.block 3 (cO [Pm 20 7,Pm 21 20,Gf 22 21 false (.fa 1 (.t 2)),Gf 24 21 false (M 8),Gf 28 21 false (M 6),Gf 23 21 false (.load false 1 (.t 22)),Gf 25 21 false (.ia 7 none (.t 23) (.t 24)),Gf 26 21 false (.fa 0 (.t 25)),Gf 27 21 false (.load false 1 (.t 26)),Gf 29 21 false (.bin false .eql (.t 27) (.t 28)),Gf 30 21 false (M 29),Gf 32 30 true (.fa 1 (.t 2)),Gf 34 30 true (M 8),WD 37 30 1 30 5,Gf 31 30 true (.load true 2 (.t 2)),Ev 33 30 32 35 30 7 34,Gf 36 30 true (.load true 7 (.t 35)),G 39 30 true (.call (C 97) [.t 31,.t 36,.t 37,.t 38]),WC 40 21 30 39 21,Om 7 41])) (cO [iW 18 8 1 8])))))) (S [Om 42 7] (Cd 42 (cO [bL 43 5 6,O3 45 3 1 44 3 1 8 43 5]) .skip))))) (cO [iW 11 6 1 6])))))) (aC [kC 47 5 4] .ret))),[.tm 4]⟩
def L53:aZ :=⟨13,aC [uM 3 4 1] (aC [bH 5 3 3 1,qE 7 6 0,G 9 7 true (.load true 4 (.t 3)),G 10 7 true (.call (C 80) [.t 8,.t 9]),G 11 7 true (.bin false .neq (.t 10) (.c (.int .u8 (1)))),Pp 12 7 11,Om 4 12] .ret),[.tm 4]⟩
def Y54_0a:bD :=(S [Om 4 8] (.region [Om 5 9]))
def Y54_0b:bD :=(.block 1 (.seq (S [Ol 10 1 2,On 11 10,Oc 12 .eql 11 50] (Cd 12 (.exit 0) .skip)) (.region [Ol 13 1 2,Om 14 4,O 15 (.aR 9 1 [.t 14]),O 16 (.app 9 1 16 (.t 13) (.t 15)),Om 17 5,Ns 1 2 16,Ns 1 3 17])))
def L56:aZ :=⟨20,S [Pe 2] (S [Pe 3] (.seq (aC [oZ 6 0,OM 8 0] (.block 0 (.loop (S [Ob 9 .lss 8 7] (.seq (Ce 9 0) (.seq (.block 1 (aC [Om 10 8,xA 11 1 6 8 1,bL 4 10 12] (cO [bL 13 3 5,xO 15 4 102 14,O 17 (.x (.VY 5 1 1 (.t 13) (.t 16))),Om 3 17]))) (cO [pS 18 8 1 8]))))))) (aC [kC 19 3 2] .ret))),[.tm 2]⟩
def L58:aZ :=⟨80,S [O 2 (.dW (.c (.str ⟨#[]⟩))),Pe 3,Pf 4] (S [Pe 5] (S [OM 6 0] (.seq (S [OM 7 0] (.block 0 (.loop (.seq (aC [bL 13 7 0,O 15 (.x (.rF (.t 14))),Ob 16 .leq 13 15] (Ce 16 0)) (.seq (.block 1 (aC [bL 19 7 0,O 21 (.x (.rF (.t 20))),Ob 22 .eql 19 21,Xm 23 22 0 7,G 27 23 false (.bin false .eql (.t 26) (.c (.int .u8 (32)))),Pq 28 23 27] (Cd 28 (aC [bL 29 5 0,bL 31 6 7,O 33 (.x (.UD (.t 30) (some (.t 31)) (some (.t 32)))),O3 34 9 1 33 9 1 16 29 5] (cO [iW 36 7 1 6])) .skip))) (cO [iW 17 7 1 7])))))) (S [OM 8 (-1)] (.seq (aC [Om 38 5,V1 39 1 38 0 1] (.block 2 (S [O 42 (.x (.eqv false ⟨false,[.str]⟩ (.t 40) (.c (.str ⟨#[99,101,114,116]⟩)))),Om 41 42] (Cd 41 (.region [OM 8 7]) (.seq (S [O 44 (.x (.eqv false ⟨false,[.str]⟩ (.t 40) (.c (.str ⟨#[98,97,100]⟩)))),Om 43 44] (Cd 43 .skip (.region [O 45 (.x (.eqv false ⟨false,[.str]⟩ (.t 40) (.c (.str ⟨#[112,97,115,115]⟩)))),Om 43 45]))) (Cd 43 (.region [OM 8 1]) (.seq (S [O 47 (.x (.eqv false ⟨false,[.str]⟩ (.t 40) (.c (.str ⟨#[108,111,116]⟩)))),Om 46 47] (Cd 46 .skip (.region [O 48 (.x (.eqv false ⟨false,[.str]⟩ (.t 40) (.c (.str ⟨#[114,117,110]⟩)))),Om 46 48]))) (Cd 46 (.region [OM 8 3]) (S [O 50 (.x (.eqv false ⟨false,[.str]⟩ (.t 40) (.c (.str ⟨#[116,101,115,116]⟩)))),Om 49 50] (Cd 49 (.region [OM 8 4]) .skip)))))))))) (.seq (aC [oZ 51 5,Om 53 8,Oc 54 .add 53 1,Ob 55 .neq 52 54] (Cd 55 (S [O 2 (.dW (.c (.str ⟨#[]⟩))),Pe 3,Pf 4] .ret) .skip)) (S [Pe 9] (.seq (S [OM 10 1] (.block 3 (.loop (.seq (aC [bL 56 10 5,oA 58 57 56] (Ce 59 3)) (.seq (.block 4 (aC [bL 63 5 10,xA 65 1 63 64 1,Ok 67 104 [.t 66],mQ 62 67 68 0 69 1,bL 11 68 69] (.seq (S [Om 70 12,Oo 71 70] (Cd 71 (S [O 2 (.dW (.c (.str ⟨#[]⟩))),Pe 3,Pf 4] .ret) .skip)) (cO [bL 72 9 11,O3 74 3 1 73 3 1 8 72 9])))) (cO [iW 60 10 1 10])))))) (aC [Om 76 5,V1 77 1 76 0 1,Om 79 9,bL 2 78 79,O 4 (.dW Bt)] .ret))))))))),[.tm 2,.tm 3,.tm 4]⟩
def L68:aZ :=⟨8,S [Pe 2] (.seq (S [Om 3 0,O 4 (.yF .sl false (.t 3))] (Cd 4 (S [Pe 2] .ret) .skip)) (S [O 5 (.aR 88 7 []),Om 6 0,O 7 (.iM 88 7 56 (.t 5) (.t 6)),Om 2 7] .ret)),[.tm 2]⟩
def L69:aZ :=⟨8,S [Pe 2] (.seq (S [Om 3 0,O 4 (.yF .sl false (.t 3))] (Cd 4 (S [Pe 2] .ret) .skip)) (S [O 5 (.aR 3 1 []),Om 6 0,O 7 (.iM 3 1 8 (.t 5) (.t 6)),Om 2 7] .ret)),[.tm 2]⟩
def L73:aZ :=⟨8,aC [uM 2 7 0] (aC [bH 4 0 2 1,Ol 6 1 1,Ob 7 .eql 5 6,Om 3 7] .ret),[.tm 3]⟩
def L75:aZ :=⟨14,S [Ox 2 7 0,Pf 4] (aC [Om 5 1,bH 6 3 2 1,bH 8 3 2 1,bH 10 4 2 1,Ob 12 .add 9 11,Ok 13 116 [.t 5,.t 7,.t 12],Om 4 13] .ret),[.tm 4]⟩
def L83:aZ :=⟨42,S [Pe 4] (aC [bL 8 0 1,Ok 10 123 [.t 8,.t 9],Om 5 10] (.seq (S [Om 11 5,Oc 12 .eql 11 (-1)] (Cd 12 (aC [kC 13 0 4] .ret) .skip)) (.seq (aC [iW 14 5 1 6] (.block 0 (.loop (.seq (aC [bL 16 6 0,oA 18 17 16] (Ce 19 0)) (.seq (.block 1 (aC [bL 22 0 6,xA 24 1 22 23 1,Om 7 25] (aC [bL 26 1 7,O 28 (.call (.t 26) [.t 27]),Oo 29 28] (Cd 29 (aC [bL 30 0 5,Om 32 7,Oi 33 1 30 31,Ns 1 33 32] (cO [iW 34 5 1 5])) .skip)))) (cO [iW 20 6 1 6])))))) (aC [bL 36 0 5,O 38 (.J4 1 none (.t 36) (some (.t 37)) none none),N (.x (.clear 1 Z0 (.t 38)))] (aC [bL 39 0 5,O 41 (.J4 1 none (.t 39) none (some (.t 40)) none),Om 4 41] .ret))))),[.tm 4]⟩
def L84:aZ :=⟨8,S [Pf 3] (S [Ol 4 1 1,Om 5 0,O 6 (.x (.look ⟨false,[.int .i64]⟩ (.bool false) false (.t 4) (.t 5))),Oo 7 6,Om 3 7] .ret),[.tm 3]⟩
def L86:aZ :=⟨12,aC [uM 2 7 0] (aC [Pa 9 0 2,JI 4 1 0,Pa 7 1 6,mZ 8 7 10 9,Ok 11 87 [.t 8,.t 10],Om 3 11] .ret),[.tm 3]⟩
def L92:aZ :=⟨51,S [Ox 1 2 0,O 2 (.dW (.c .eW)),Pf 3] (S [Ot 8 2 1,O 9 (.build (.agg [E0,E0,E0]) [(0,(2,(.t 8)))]),Ox 10 3 9,Om 4 10] (S [Pe 5] (.seq (aC [bH 11 1 1 1,xU 13 12 0] (.block 0 (.loop (S [Ob 15 .lss 14 13] (.seq (Ce 15 0) (.seq (.block 1 (aC [Om 16 14,Oi 17 3 12 14,Po 18 3 17 7,Om 6 16,Ns 3 7 18] (cO [bL 19 5 6,Pb 21 3 1 20,bH 22 0 7 1,Ok 24 135 [.t 21,.t 23],Py 25 3 1 8 19 24,Om 5 25]))) (cO [pS 26 14 1 14]))))))) (.seq (.block 2 (.loop (.seq (aC [oZ 27 5,Oc 29 .gtr 28 0] (Ce 29 2)) (.block 3 (.seq (aC [x3 30 4,bH 32 2 31 1,On 34 33,Oc 35 .eql 34 40] (Cd 35 (S [O 2 (.dW (.c .eW)),Pf 3] .ret) .skip)) (aC [Pm 36 4,yW 37 4 2,Pl 40 39,Of 41 (.call (C 136) []),YC 42 180 4 41 180 4 32 40,x4 44 36 2,Ns 1 45 43] (cO [bL 46 5 4,O 48 (.yG 137 [.t 47] []),Ok 49 83 [.t 46,.t 48],Om 5 49]))))))) (aC [kC 50 4 2,O 3 (.dW Bt)] .ret))))),[.tm 2,.tm 3]⟩
def L98:aZ :=⟨29,S [Ox 2 2 0,Pf 4] (aC [Q6 7 2 2 141,Om 5 8] (.seq (S [OM 6 0] (.block 0 (.loop (.seq (aC [bL 9 6 5,oA 11 10 9] (Ce 12 0)) (.seq (.block 1 (aC [SK 16 5 6 1,SK 22 5 6 1,Pm 26 1,Pt 15 2 2,Pl 19 18,Pt 21 2 2,Pl 25 24,Of 20 (.call (C 142) [.t 15,.t 19]),Ok 27 143 [.t 21,.t 25,.t 26],Ob 28 .gtr 20 27] (Cd 28 (S [Pf 4] .ret) .skip))) (cO [iW 13 6 1 6])))))) (S [O 4 (.dW Bt)] .ret))),[.tm 4]⟩
def L102:aZ :=⟨47,S [O 4 (.dW (.c (.str ⟨#[]⟩)))] (S [Om 8 1,Oc 9 .add 8 1,O 10 (.bin false .mul (I 11) (.t 9)),Om 5 10] (.seq (aC [Om 11 0,O 12 (.x (.AZ 5 (.t 11))),xU 13 12 0] (.block 0 (.loop (S [Ob 15 .lss 14 13] (.seq (Ce 15 0) (.seq (.block 1 (aC [Om 16 14,xA 17 1 12 14 1,bL 6 16 18] (cO [bL 19 5 6,Oc 21 .add 20 1,Om 22 7,O 23 (.conv .i64 (.t 22)),Oc 24 .add 23 1,Ob 25 .mul 21 24,EI 26 19 25 5]))) (cO [pS 27 14 1 14]))))))) (aC [Ih 28 0,Ok 30 150 [.t 29,I 3],O 31 (.x (.rH (.c (.str ⟨#[123]⟩)) (.t 30))),O 32 (.x (.rH (.t 31) (.c (.str ⟨#[58]⟩)))),Ih 33 0,O 35 (.bin false .sub (I 999) (.t 34)),Ok 36 150 [.t 35,I 3],O 37 (.x (.rH (.t 32) (.t 36))),O 38 (.x (.rH (.t 37) (.c (.str ⟨#[58]⟩)))),Om 39 5,Oc 40 .rem 39 99991,Ok 41 150 [.t 40,I 5],O 42 (.x (.rH (.t 38) (.t 41))),O 43 (.x (.rH (.t 42) (.c (.str ⟨#[125]⟩)))),Om 44 0,O 45 (.x (.rH (.t 43) (.t 44))),O 46 (.x (.rH (.t 45) (.c (.str ⟨#[10]⟩)))),Om 4 46] .ret))),[.tm 4]⟩
def L106:aZ :=⟨42,aC [uM 1 2 0] (aC [Q6 7 2 1 139,Om 3 8] (.seq (S [OM 4 0] (.block 0 (.loop (.seq (aC [Om 9 4,bH 10 1 1 1,oA 12 11 9] (Ce 13 0)) (.seq (.block 1 (aC [bH 16 1 1 1,nZ 18 4 7 17,Ot 20 7 19,c8 5 7 20] (aC [Ot 21 2 1,Om 22 3,bH 23 1 5 1,bH 25 3 5 1,Ok 27 138 [.t 21,.t 22,.t 24,.t 26,I 1000],SN 6 2 27] (aC [yW 28 3 2000,Pa 32 0 5,mZ 31 30 33 32,Of 34 (.call (C 76) [.t 31,.t 33]),Pm 35 34,Gf 36 35 true (.fa 0 (.t 6)),Gf 38 35 true (.fa 1 (.t 6)),Pi 37 35 36,Pi 39 35 38,G 40 35 true (.bin false .gtr (.t 37) (.t 39)),Pp 41 35 40] (Cd 41 (S [O 2 (.dW Bt)] .ret) .skip))))) (cO [iW 14 4 1 4])))))) (S [Pf 2] .ret))),[.tm 2]⟩
def L108:aZ :=⟨22,S [Ox 2 5 0,OM 4 0] (.seq (S [OM 5 0] (.block 0 (.loop (.seq (aC [Om 6 5,bH 7 2 2 1,oA 9 8 6] (Ce 10 0)) (.seq (.block 1 (aC [bH 13 2 2 1,nZ 15 5 4 14,bH 17 0 16 1,Om 19 1,Ob 20 .eql 18 19] (Cd 20 (aC [kC 21 5 4] .ret) .skip))) (cO [iW 11 5 1 5])))))) (S [OM 4 (-1)] .ret)),[.tm 4]⟩
def L111:aZ :=⟨19,S [OM 4 0] (.seq (aC [oZ 6 0,OM 8 0] (.block 0 (.loop (S [Ob 9 .lss 8 7] (.seq (Ce 9 0) (.seq (.block 1 (aC [kC 10 8 5] (aC [bL 11 1 0,nZ 13 5 7 12,AB 15 7 14 11] (Cd 16 (aC [kC 17 5 4] .ret) .skip)))) (cO [pS 18 8 1 8]))))))) (S [OM 4 (-1)] .ret)),[.tm 4]⟩
theorem L111_ok:fV Tryz.prog 111=some L111:=by kernel_rfl
def Y112_0a:bD :=(cO [c8 13 7 49])
def Y112_0b:bD :=(.block 1 (cO [Ol 50 1 12,Om 51 50,G 52 51 false (.load false 1 (.t 11)),rB 53 51 0 13 51 1,ZAk 55 51 52 54 51,Ns 1 12 56]))
def L112:aZ :=⟨61,aC [Ox 3 2 0,Kt 6,OM 8 0] (aC [Q6 15 2 3 121,mQ 14 16 17 0 18 1,bL 9 17 18] (.seq (aC [O2 19 10 0] (Cd 20 (aC [Om 21 10,Kt 6,Om 8 21] .ret) .skip)) (.seq (aC [Q5 22 9 0,Ot 25 2 24,xO 26 1 153 25,Oo 28 27,YB 29 28 2,G 31 29 false (.call (C 154) [.t 30]),V0 32 29 31 29] (Cd 33 (aC [Kt 6,OM 8 2] .ret) .skip)) (aC [pT 34 9 82,O 11 (.alloc .cT),Ns 1 11 35] (aC [Q5 36 9 0,bH 39 0 38 1,nZ 41 1 4 40,bH 43 1 42 1,O 12 (.alloc (.bool false)),Ns 1 12 44] (.seq (aC [bL 45 9 1,Om 47 2,Ok 48 114 [.t 45,.t 46,.t 47,I 1000]] (.block 0 (.vH 61 (.t 48) (fR Tryz.prog 112 0) Y112_0a Y112_0b [49]))) (.seq (S [Ol 57 1 12,Oo 58 57] (Cd 58 (aC [Kt 6,OM 8 10] .ret) .skip)) (S [Pm 59 9,Pm 6 59,Pl 60 11,Om 7 60,OM 8 0] .ret)))))))),[.tm 6,.tm 7,.tm 8]⟩
theorem L112_ok:fV Tryz.prog 112=some L112:=by kernel_rfl
def L113:aZ :=⟨8,aC [uM 2 7 0] (aC [Ol 4 1 1,bH 5 0 2 1,O 7 (.x (.look ⟨false,[.int .i64]⟩ (.bool false) false (.t 4) (.t 6))),Om 3 7] .ret),[.tm 3]⟩
def L120:aZ :=⟨9,S [Ox 1 4 0,O 2 (.alloc (.agg [Z0,E0]))] (aC [bH 3 1 1 1,ZAc 5 0 1 2 1 1 0 2 1 2 0 1 2 1 1 1 2 1 2 270 3 0 1 4 1 1,Ns 2 2 8] .ret),[.cell 2 true 2]⟩
def L127:aZ :=⟨6,S [Pf 2] (aC [oZ 3 0,Oc 5 .leq 4 6,Om 2 5] .ret),[.tm 2]⟩
def L132:aZ :=⟨5,S [Pf 2] (S [Om 3 0,Ok 4 173 [.t 3,I 0,I 40],Om 2 4] .ret),[.tm 2]⟩
def L137:aZ :=⟨80,S [Pf 4] (aC [Om 13 1,O 14 (.build (.agg [Z0,Z0,Z0]) [(0,(1,(.t 13))),(1,(1,(I (-1)))),(2,(1,(I (-1))))]),JG 5 3 14] (aC [O 15 (.x .G2),Ot 16 3 5,Ot 17 3 5,N (.x (.iL ⟨true,[.int .i64,.int .i64,.int .i64]⟩ (.t 15) (.t 16) (.t 17))),kC 18 15 6] (S [Ot 19 3 5,Pb 20 281 3 19,Om 7 20] (.seq (.block 0 (.loop (.seq (aC [oZ 21 7,Oc 23 .gtr 22 0] (Ce 23 0)) (.block 1 (aC [Om 24 7,O 25 (.ia 3 none (.t 24) (I 0)),Ot 26 3 25,JG 8 3 26] (S [Om 27 7,O 28 (.J4 3 none (.t 27) (some (I 1)) none none),Om 7 28] (.seq (aC [Pt 29 3 8,Of 30 (.call (C 179) [.t 29]),Of 31 (.bin false .eql (.t 30) (I 2)),Pm 32 31,Kp 33 32 0 32 32 2,Gf 37 32 true (.fa 2 (.t 8)),Gf 39 32 true (.fa 1 (.t 8)),Pi 36 32 35,Pi 38 32 37,Gf 41 32 true (.ia 4 none (.t 36) (.t 38)),Pi 40 32 39,Gf 42 32 true (.ia 1 (some 4) (.t 41) (.t 40)),Pi 43 32 42,G 44 32 true (.bin false .eql (.t 43) (I (-1))),Pp 45 32 44] (Cd 45 (aC [Om 46 0,Ot 47 3 8,NL 48 6 180 46 47] (S [O 4 (.dW Bt)] .ret)) .skip)) (aC [Pm 56 0,Of 60 (.dW (I 0)),Pt 51 3 8,Pt 57 3 8,Of 50 (.call (C 181) []),Of 52 (.call (C 179) [.t 51]),NJ 53 1 50 52 0,O 58 (.call (.t 55) [.t 56,.t 57]),On 59 58] (.block 2 (.loop (S [Ob 61 .lss 60 59] (.seq (Ce 61 2) (.seq (.block 3 (aC [Oi 62 3 58 60,Ot 63 3 62,JG 10 3 63] (aC [Om 65 6,Ot 66 3 10,O 67 (.x (.look ⟨true,[.int .i64,.int .i64,.int .i64]⟩ (.agg [Z0,Z0,Z0]) true (.t 65) (.t 66))),mQ 64 67 68 0 69 1,JG 11 3 68,Om 12 69] (S [Om 70 12,Oo 71 70] (Cd 71 (S [Om 72 6,Ot 73 3 10,Ot 74 3 8,N (.x (.iL ⟨true,[.int .i64,.int .i64,.int .i64]⟩ (.t 72) (.t 73) (.t 74)))] (cO [Om 75 7,Ot 76 3 10,O3 77 281 3 76 281 3 24 75 7])) .skip))))) (cO [pS 79 60 1 60])))))))))))))) (S [Pf 4] .ret))))),[.tm 4]⟩
def L142:aZ :=⟨25,S [Ox 2 2 0,OM 4 0] (S [OM 5 0] (.seq (S [OM 6 0] (.block 0 (.loop (.seq (aC [bL 7 6 1,oA 9 8 7] (Ce 10 0)) (.seq (.block 1 (cO [Pm 13 5,Pa 14 1 2,SK 16 1 6 1,mZ 15 14 19 18,NJ 20 3 15 19 0,EI 23 13 22 5])) (cO [iW 11 6 1 6])))))) (aC [kC 24 5 4] .ret))),[.tm 4]⟩
def L150:aZ :=⟨24,S [O 4 (.dW (.c (.str ⟨#[]⟩)))] (S [O 5 (.alloc (.agg [.int .u8 (0),.int .u8 (0),.int .u8 (0),.int .u8 (0),.int .u8 (0)]))] (.seq (S [Om 7 1,Oc 8 .sub 7 1,Om 6 8] (.block 0 (.loop (.seq (S [Om 9 6,Oc 10 .geq 9 0] (Ce 10 0)) (.seq (.block 1 (aC [bL 13 6 0,Oc 15 .rem 14 10,O 16 (.bin false .add (I 48) (.t 15)),O 17 (.conv .u8 (.t 16)),O 18 (.ia 1 (some 5) (.t 5) (.t 13)),Ns 1 18 17] (.region [Om 19 0,Oc 20 .quo 19 10,Om 0 20]))) (.region [Om 11 6,Oc 12 .sub 11 1,Om 6 12])))))) (S [Om 21 1,O 22 (.x (.EN 5 (.t 5) (.t 21))),O 23 (.x (.UE (.t 22))),Om 4 23] .ret))),[.tm 4]⟩
def L157:aZ :=⟨18,S [OM 2 0] (S [OM 3 0] (.seq (aC [oZ 6 0,OM 8 0] (.block 0 (.loop (S [Ob 9 .lss 8 7] (.seq (Ce 9 0) (.seq (.block 1 (aC [xA 10 1 6 8 1,Om 5 11] (aC [bL 12 5 3,Ob 14 .neq 12 13] (Cd 14 (aC [kC 15 5 2] .ret) .skip)))) (cO [pS 16 8 1 8]))))))) (aC [kC 17 3 2] .ret))),[.tm 2]⟩
def L158:aZ :=⟨36,S [OM 4 0] (.seq (aC [oZ 9 0,OM 11 0] (.block 0 (.loop (S [Ob 12 .lss 11 10] (.seq (Ce 12 0) (.seq (.block 1 (aC [Om 13 11,xA 14 1 9 11 1,bL 5 13 15] (.seq (aC [bL 16 5 1,On 18 17,Ob 19 .geq 16 18] (Cd 19 (S [OM 4 1] .ret) .skip)) (aC [bL 20 1 5,xA 22 1 20 21 1,Om 7 23] (aC [bL 24 6 7,Ok 26 194 [.t 24,.t 25],Om 8 26] (aC [O2 27 8 0] (Cd 28 (aC [kC 29 8 4] .ret) .skip))))))) (cO [pS 30 11 1 11]))))))) (.seq (aC [oZ 31 0,Om 33 1,oA 34 33 32] (Cd 35 (S [OM 4 (-1)] .ret) .skip)) (S [OM 4 0] .ret))),[.tm 4]⟩
def L165:aZ :=⟨52,aC [Ox 2 2 0,uM 3 7 1] (aC [bH 5 0 3 1,Ok 7 122 [.t 6],NN 8 7 2 2,F4 10 8 1 3 8,FI 12 8 153 9 11 8,F3 14 13 0 2,F4 17 14 1 3 14,G 19 14 true (.ia 4 none (.t 16) (.t 18)),F4 20 14 1 19 14,Ig 22 14 21 14,NN 24 23 2 2,F4 26 24 2 3 24,FI 28 24 153 25 27 24,F3 30 29 2 3,F4 33 30 1 3 30,G 35 30 true (.bin false .neq (.t 32) (.t 34)),Pp 36 30 35,F3 37 36 3 3,SM 40 37 154 39 37,F3 42 41 4 3,SM 45 42 154 44 42,Om 47 46,Ph 48 47 5 3,G 49 47 true (.load true 2 (.t 48)),SM 50 47 203 49 47,Om 4 51] .ret),[.tm 4]⟩
def L173:aZ :=⟨15,S [Pf 6] (aC [bL 7 1 0,Ob 9 .leq 7 8,SL 10 9 0 2 6] .ret),[.tm 6]⟩
def L177:aZ :=⟨8,aC [uM 2 3 0] (aC [Ol 4 1 1,AB 5 3 2 4,Oo 7 6,Om 3 7] .ret),[.tm 3]⟩
def Y197_0a:bD :=(cO [c8 11 7 47])
def Y197_0b:bD :=(.block 1 (aC [Ol 48 1 9,AB 49 7 11 48] (Cd 50 (cO [Of 56 (.fa 0 (.t 11)),Of 72 (.fa 3 (.t 11)),Of 51 (.load true 2 (.t 10)),Ko 52 1 4 2,Kq 55 1 54 57 1 56,Of 58 (.x (.look ⟨false,[.int .i64]⟩ (.agg [Z0,Z0]) false (.t 55) (.t 57))),Ko 59 1 4 0,Ko 62 1 61 0,Of 65 (.fa 0 (.t 64)),Of 66 (.load false 1 (.t 65)),Of 67 (.load false 1 (.t 5)),Of 68 (.ia 4 none (.t 66) (.t 67)),Of 69 (.fa 0 (.t 68)),Of 70 (.load false 1 (.t 69)),Kq 71 1 6 73 1 72,Of 74 (.bin false .sub (.t 71) (.t 73)),Of 75 (.bin false .mul (.t 70) (.t 74)),Of 76 (.call (C 247) [.t 58,.t 75]),Ok 77 246 [.t 51,.t 76],Ns 2 10 77]) .skip)))
def L197:aZ :=⟨79,S [Ox 4 1 0,Ox 5 1 1,Ox 6 1 2,O 8 (.alloc (.agg [Z0,Z0]))] (.seq (aC [JI 12 4 0,JI 15 14 0,Pa 18 0 17,Pl 19 18,Pl 20 5,NJ 21 4 19 20 1] (Cd 23 (aC [JI 24 4 0,JI 27 26 0,Pa 30 0 29,Pl 31 30,Pl 32 5,Of 33 (.ia 4 none (.t 31) (.t 32)),Pa 34 2 33,Pt 35 2 34,Ns 2 8 35] .ret) .skip)) (S [Ol 36 1 4,O 37 (.yG 243 [.t 36] []),O 9 (.alloc .dP),Ns 1 9 37] (aC [Ok 38 245 [],SN 10 2 38] (.seq (aC [Pm 45 3,JI 39 4 0,Pl 42 41,Pl 43 5,Pl 44 6,Ok 46 114 [.t 42,.t 43,.t 44,.t 45]] (.block 0 (.vH 79 (.t 46) (fR Tryz.prog 197 0) Y197_0a Y197_0b [47]))) (S [Ot 78 2 10,Ns 2 8 78] .ret))))),[.cell 8 true 2]⟩
theorem L197_ok:fV Tryz.prog 197=some L197:=by kernel_rfl
def Y218_0a:bD :=(.region [Om 5 15])
def Y218_0b:bD :=(.block 1 (aC [Of 20 (.fa 2 (.t 3)),Of 22 (M 5),Of 26 (.fa 0 (.t 3)),Ko 16 1 2 2,Kq 19 1 18 21 1 20,Of 23 (.ia 4 none (.t 19) (.t 21)),Of 24 (.ia 1 (some 4) (.t 23) (.t 22)),Kq 25 1 24 27 1 26,Ob 28 .neq 25 27] (Cd 28 (cO [Ol 29 1 4,Om 30 5,bH 31 2 3 1,O 33 (.build (.agg [Z0,Z0,Z0]) [(0,(1,(I (-1)))),(1,(1,(.t 30))),(2,(1,(.t 32)))]),O 34 (.aR 281 3 [.t 33]),O 35 (.app 281 3 24 (.t 29) (.t 34)),Ns 1 4 35]) .skip)))
def L218:aZ :=⟨50,S [Ox 2 1 0,Ox 3 3 1,O 4 (.alloc E0)] (.seq (aC [Pa 10 0 3,Pa 12 2 3,JI 6 2 0,Pt 9 2 8,mZ 11 10 13 12,Ok 14 268 [.t 9,.t 11,.t 13]] (.block 0 (.vH 50 (.t 14) (fR Tryz.prog 218 0) Y218_0a Y218_0b [15]))) (.seq (aC [Ol 36 1 2,bH 37 0 3 1,bH 39 2 3 1,Ok 41 267 [.t 36,.t 38,.t 40],Oc 42 .neq 41 (-1)] (Cd 42 (cO [Ol 43 1 4,bH 44 0 3 1,O 46 (.build (.agg [Z0,Z0,Z0]) [(0,(1,(.t 45))),(1,(1,(I (-1)))),(2,(1,(I (-1))))]),Pb 47 281 3 46,Py 48 281 3 24 43 47,Ns 1 4 48]) .skip)) (S [Ol 49 1 4,Ns 1 4 49] .ret))),[.cell 4 false 1]⟩
theorem L218_ok:fV Tryz.prog 218=some L218:=by kernel_rfl
def L258:aZ :=⟨17,S [Pf 4] (aC [pT 5 0 241,qE 7 6 1,G 9 7 true (.call (C 241) [.t 8]),Ig 10 7 9 7,YB 12 11 0,G 14 12 false (M 1),G 15 12 false (.bin false .lss (.t 13) (.t 14)),Pq 16 12 15,Om 4 16] .ret),[.tm 4]⟩
def L268:aZ :=⟨8,S [Ox 3 2 0,Ox 4 1 1,Ox 5 1 2,O 6 (.dW (.c .dP))] (S [O 7 (.yG 299 [] [.t 3,.t 4,.t 5]),Om 6 7] .ret),[.tm 6]⟩
def L288:aZ :=⟨5,S [Ox 1 2 0,OM 2 0] (aC [bH 3 1 1 1,Om 2 4] .ret),[.tm 2]⟩
def L300:aZ :=⟨38,aC [Ox 4 2 0,uM 7 1 3] (aC [bH 11 1 4 1,nZ 13 1 3 12,Po 15 3 14 9,Ns 3 9 15] (S [O 16 (.yG 313 [] [.t 7]),Om 10 16] (aC [bH 17 2 9 1,nZ 19 2 1 18,Ol 21 1 20,F3 22 21 1 9,Pg 25 22 7,Kr 26 22 24 25 22,F3 28 27 0 4,Pr 31 28 2 28 1 30,Pg 33 28 32,Pn 34 28 10,Eu 35 28 170 33 34 28 28,Om 8 37] .ret))),[.tm 8]⟩
end
end Go.Proofs.YtlllhbmbnjnoiaaGreatDoor
