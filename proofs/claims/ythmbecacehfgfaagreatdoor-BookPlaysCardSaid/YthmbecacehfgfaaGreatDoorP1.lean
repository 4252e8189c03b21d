import Derived.Test.YthmbecacehfgfaaGreatDoorP0
import Derived.OrdersHeld
import Derived.OrdersIn
import Derived.TacticsIn
import Derived.RangeFuncLeaves
import Derived.RangeFuncRecord
import Derived.Scope
import Derived.RangeFuncNested
import Derived.Sort.LoopGhostIn
import Derived.ChangeSame
import Derived.ProofKit
import Derived.Deep.Slices
import Derived.ReadAgain
import Derived.OpenShut
import Derived.Eval
import Derived.Test.YthmbecacehfgfaaGreatDoorProg
set_option linter.unusedSimpArgs false
set_option linter.unusedVariables false
set_option maxHeartbeats 32000000
set_option maxRecDepth 100000
namespace Go.Proofs.YthmbecacehfgfaaGreatDoor
open Go.RowKit
mutual
def AV.map (g:Site->Site):AV->AV
 |.any=>.any
 |.pv x=>.pv x
 |.ptr s off=>.ptr (g s) off
 |.lB s n i off=>.lB (g s) n i off
 |.vec s n lo len=>.vec (g s) n lo len
 |.mp s=>.mp (g s)
 |.nM s=>.nM (g s)
 |.fn f fs cs=>.fn f (AV.iR g fs) (AV.iR g cs)
 |.agg cs=>.agg (AV.iR g cs)
 |.bM vs=>.bM (AV.iR g vs)
def AV.iR (g:Site->Site):List AV->List AV
 |[]=>[]
 |a::r=>AV.map g a::AV.iR g r
end
theorem KG {g:Site->Site}:∀{l:List AV} {i:Nat},(AV.iR g l)[i]?=(l[i]?).map (AV.map g)
 |[],i=>by simp[AV.iR]
 |a::r,0=>by simp[AV.iR]
 |a::r,i+1=>by
  simp only[AV.iR,List.getElem?_cons_succ];exact KG
theorem KH {g:Site->Site}:∀{l:List AV},(AV.iR g l).length=l.length
 |[]=>rfl
 |a::r=>by simp only[AV.iR,pA,KH]
theorem W5 {q:Site->Bool}:∀{l:List AV} {i:Nat} {a:AV},AV.hZ q l=true->l[i]?=some a->a.dC q=true
 |[],i,a,_,h=>by simp at h
 |b::r,0,a,hl,h=>by
  simp[AV.hZ]at hl h;subst h;exact hl.1
 |b::r,i+1,a,hl,h=>by
  simp only[AV.hZ,dK]at hl;exact W5 hl.2 (by simpa using h)
theorem bN.map {ρ bW:Site->Loc}{m:Mem}{q:Site->Bool}{g:Site->Site}(hg:∀s,q s=true->bW (g s)=ρ s){v:Value}{a:AV}(h:bN ρ m v a)(ha:a.dC q=true):bN bW m v (a.map g):=by
 induction h with
 |any v=>exact .any v
 |pv v x h=>exact .pv v x h
 |ptr s off=>rw[AV.dC]at ha;rw[<-hg s ha];exact .ptr _ off
 |lB s n i off=>rw[AV.dC]at ha;rw[<-hg s ha];exact .lB _ n i off
 |vec s n lo len cap h0 h1 h2=>rw[AV.dC]at ha;rw[<-hg s ha]at h1 h2 ⊢;exact .vec _ n lo len cap h0 h1 h2
 |nE s n lo a h=>exact .nE _ n lo a h
 |mp s=>rw[AV.dC]at ha;rw[<-hg s ha];exact .mp _
 |nM s=>rw[AV.dC]at ha;rw[<-hg s ha];exact .nM _
 |fn f vf vc fs cs h0 h1 h2 h3 BS PB=>
  simp only[AV.dC,dK]at ha;refine .fn f vf vc _ _ (by rw[KH];exact h0) (by rw[KH];exact h1) (fun j d c k1 k2=>?_) (fun j d c k1 k2=>?_)
  .rw[KG]at k2;obtain⟨a,k3,rfl⟩:=eA.1 k2;exact BS j d a k1 k3 (W5 ha.1 k3)
  .rw[KG]at k2;obtain⟨a,k3,rfl⟩:=eA.1 k2;exact PB j d a k1 k3 (W5 ha.2 k3)
 |agg vs cs h0 h1 h2 ih=>
  rw[AV.dC]at ha;refine .agg vs _ (by rw[KH];exact h0) h1 (fun j d c k1 k2=>?_);rw[KG]at k2;obtain⟨a,k3,rfl⟩:=eA.1 k2;exact ih j d a k1 k3 (W5 ha k3)
 |bM vs cs h0 h2 ih=>
  rw[AV.dC]at ha;refine .bM vs _ (by rw[KH];exact h0) (fun j d c k1 k2=>?_);rw[KG]at k2;obtain⟨a,k3,rfl⟩:=eA.1 k2;exact ih j d a k1 k3 (W5 ha k3)
def aL.iW (g:Site->Site):aL->aL
 |.cells bU=>.cells (AV.iR g bU)
 |.loop C ps nt tm st=>.loop C ps nt (tm.map fun p=>(p.1,p.2.map g)) st
 |b=>b
def aL.dC (q:Site->Bool):aL->Bool
 |.cells bU=>AV.hZ q bU
 |.loop _ _ _ tm _=>AV.hZ q (tm.map (·.2))
 |_=>true
theorem ZkO {g:Site->Site}:∀l:List AV,AV.iR g l=l.map (AV.map g)
 |[]=>rfl
 |a::r=>by simp only[AV.iR,iQ,ZkO r]
theorem aL.Zxs {q:Site->Bool}{b:aL}(hd:b.dC q=true){a:AV}(h:(∃bU,b=.cells bU/\a∈bU)\/(∃C ps nt tm st t,b=.loop C ps nt tm st/\(t,a)∈tm)):a.dC q=true:=by
 rcases h with⟨bU,rfl,h⟩|⟨C,ps,nt,tm,st,t,rfl,h⟩
 .obtain⟨i,hi⟩:=iM.1 h;exact W5 hd hi
 .obtain⟨i,hi⟩:=iM.1 h;have IG:AV.hZ q (tm.map (·.2))=true:=hd;exact W5 (i:=i) IG (by rw[bR,hi];rfl)
theorem kO.iW {ρ bW:Site->Loc}{m:Mem}{w:World}{q:Site->Bool}{g:Site->Site}(hg:∀s,q s=true->bW (g s)=ρ s){s:Site}{b:aL}(h:kO ρ m w s b)(hs:q s=true)(hb:b.dC q=true):kO bW m w (g s) (b.iW g):=by
 exact h.gen (AV.map g) (by cases b<;>first|rfl|(show aL.cells _=_;rw[ZkO])) (Le.refl m) (hg s hs) (fun v a hv hw=>hv.map hg (aL.Zxs hb hw)) (fun _ _=>rfl)
theorem Ztt {w:World}{l:Loc}{b:aL}{g:Site->Site}:ins w l (b.iW g)=ins w l b:=by
 cases b with
 |_=>rfl
theorem uL {ρ bW:Site->Loc}{w:World}{s s':Site}{b:aL}{g:Site->Site}{k:Nat}(h:bW s'=ρ s):fL bW w s' (b.iW g) k↔fL ρ w s b k:=by unfold fL;rw[Ztt,h]
mutual
def PV.flat:PV->Bool
 |.int _ _=>true
 |.bool _=>true
 |.str _=>true
 |.eU=>true
 |.dP=>true
 |.cR=>true
 |.eV=>true
 |.P6=>true
 |.iface _ x=>PV.flat x
 |.emp _=>true
 |.agg cs=>PV.VZ cs
 |.bM vs=>PV.VZ vs
 |_=>false
def PV.VZ:List PV->Bool
 |[]=>true
 |x::r=>PV.flat x&&PV.VZ r
end
theorem ZfX:∀{l:List PV} {i:Nat} {x:PV},PV.VZ l=true->l[i]?=some x->x.flat=true
 |[],i,x,_,h=>by simp at h
 |b::r,0,x,hl,h=>by
  simp[PV.VZ]at hl h;subst h;exact hl.1
 |b::r,i+1,x,hl,h=>by
  simp only[PV.VZ,dK]at hl;exact ZfX hl.2 (by simpa using h)
theorem dG.flat {m m':Mem}{v:Value}{x:PV}(h:dG m v x)(hx:x.flat=true):dG m' v x:=by
 induction h with
 |int k n=>exact .int k n
 |bool b=>exact .bool b
 |str s=>exact .str s
 |eU=>exact .eU
 |dP=>exact .dP
 |cR=>exact .cR
 |eV=>exact .eV
 |P6 v h=>exact .P6 v h
 |emp a nl h0 h1 h2=>exact .emp a nl h0 h1 h2
 |agg vs cs h0 h1 h2 ih=>exact .agg vs cs h0 h1 (fun j d c k1 k2=>ih j d c k1 k2 (ZfX (by rw[PV.flat]at hx;exact hx) k2))
 |bM vs cs h0 h2 ih=>exact .bM vs cs h0 (fun j d c k1 k2=>ih j d c k1 k2 (ZfX (by rw[PV.flat]at hx;exact hx) k2))
 |aE=>simp[PV.flat]at hx
 |ref=>simp[PV.flat]at hx
 |fn=>simp[PV.flat]at hx
 |iface t v x h ih=>exact .iface t v x (ih (by rw[PV.flat]at hx;exact hx))
def jI (f:AV->Option PV):List AV->Option (List PV)
 |[]=>some []
 |a::r=>match f a,jI f r with
  |some x,some l=>some (x::l)
  |_,_=>none
def AV.FL (σ:AS):AV->Option PV
 |.pv x=>some x
 |.vec s n lo len=>match σ.b s with
  |some (.arr _ n' xs)=>if n'=n/\lo+len<=xs.length then some (.aE false n ((xs.drop lo).take len))else none
  |_=>none
 |_=>none
def AV.snap (σ:AS):Nat->AV->Option PV
 |0,a=>a.FL σ
 |k+1,a=>match a with
  |.ptr s off=>match σ.b s with
   |some (.cells bU)=>(jI (AV.snap σ k) (bU.drop off)).map .ref
   |_=>none
  |.fn f fs cs=>match jI (AV.snap σ k) fs,jI (AV.snap σ k) cs with
   |some a,some b=>some (.fn f a b)
   |_,_=>none
  |.agg cs=>(jI (AV.snap σ k) cs).map .agg
  |a=>a.FL σ
section
variable {N:Nat}{w0:World}{m0:Env w0}{pl:List Nat}{σ:AS}{ρ:Site->Loc}{m:Mem}{act:Act}{w:World}
theorem XI {f:AV->Option PV}:∀{l:List AV} {xs:List PV},jI f l=some xs->l.length=xs.length/\∀(j:Nat) (a:AV),l[j]?=some a->∃x,xs[j]?=some x/\f a=some x
 |[],xs,h=>by rw[jI]at h;cases h;exact⟨rfl,fun j a e=>by simp at e⟩
 |a::r,xs,h=>by
  rw[jI]at h;split at h
  .rename_i x l h1 h2;cases h;obtain⟨k1,k2⟩:=XI h2;refine⟨by simp[k1],fun j b e=>?_⟩;cases j with
   |zero=>simp at e;subst e;exact⟨x,rfl,h1⟩
   |succ j=>simpa using k2 j b (by simpa using e)
  .cases h
theorem Zkl (hS:Sat N w0 m0 pl σ ρ m act w){v:Value}{a:AV}{x:PV}(h:a.FL σ=some x)(hv:bN ρ m v a):dG w.mem v x:=by
 cases a with
 |pv y=>rw[AV.FL]at h;cases h;exact hv.nJ.mono hS.mem
 |vec s n lo len=>
  rw[AV.FL]at h;split at h
  .rename_i e n' xs hb;split at h
   .rename_i hc;obtain⟨rfl,hl⟩:=hc;cases h;exact ZoU (hS.bx s _ hb) hS.mem (fun _ o v hv=>hv) hl hv
   .cases h
  .cases h
 |_=>simp[AV.FL]at h
theorem ZmP (hS:Sat N w0 m0 pl σ ρ m act w):∀{k:Nat} {v:Value} {a:AV} {x:PV},a.snap σ k=some x->bN ρ m v a->dG w.mem v x:=by
 intro k;induction k with
 |zero=>intro v a x h hv;exact Zkl hS h hv
 |succ k ih=>
  intro v a x h hv;cases a with
  |ptr s off=>
   rw[AV.snap]at h;split at h
   .rename_i bU hb;obtain⟨xs,k1,rfl⟩:=eA.1 h;obtain⟨k2,k3⟩:=XI k1;rw[hv.DX];have hlen:off<=bU.length\/bU.drop off=[]:=by
     rcases Nat.le_total off bU.length with h|h
     .exact .inl h
     .exact .inr (List.drop_of_length_le h)
    rcases hlen with hlen|hlen
    .obtain⟨ds,q1,q2,q3,q4⟩:=Hf (hS.bx s _ hb) (off:=off) (n:=bU.length-off) (by omega);refine .ref _ _ xs ds q2 (by rw[<-k2,uG];exact q1) q3 (fun j u c e1 e2=>?_);have hj:j<(bU.drop off).length:=by rw[k2];exact(bZ.1 e2).1
     obtain⟨x,k4,k5⟩:=k3 j _ (aX hj);rw[e2]at k4;cases k4;refine ih k5 (q4 j u _ e1 ?_);rw[mG,if_pos (by rw[uG]at hj;exact hj)];exact aX hj
    .rw[hlen]at k2
     have:xs=[]:=List.eq_nil_of_length_eq_zero k2.symm
     subst this;exact .ref _ _ [] [] trivial rfl (fun d hd=>by cases hd) (fun j d c e=>by simp at e)
   .cases h
  |fn f fs cs=>
   rw[AV.snap]at h;split at h
   .rename_i a b e1 e2;cases h;obtain⟨a1,a2⟩:=XI e1;obtain⟨b1,b2⟩:=XI e2;cases hv with
    |fn _ vf vc _ _ h0 h1 h2 h3=>
     refine .fn f vf vc a b (by omega) (by omega) (fun j d c q1 q2=>?_) (fun j d c q1 q2=>?_)
     .have hj:j<fs.length:=by rw[a1];exact(bZ.1 q2).1
      obtain⟨x,k4,k5⟩:=a2 j _ (aX hj);rw[q2]at k4;cases k4;exact ih k5 (h2 j d _ q1 (aX hj))
     .have hj:j<cs.length:=by rw[b1];exact(bZ.1 q2).1
      obtain⟨x,k4,k5⟩:=b2 j _ (aX hj);rw[q2]at k4;cases k4;exact ih k5 (h3 j d _ q1 (aX hj))
   .cases h
  |agg cs=>
   rw[AV.snap]at h;obtain⟨xs,k1,rfl⟩:=eA.1 h;obtain⟨b1,b2⟩:=XI k1;cases hv with
   |agg vs _ h0 h1 h2=>
    refine .agg vs xs (by omega) h1 (fun j d c q1 q2=>?_);have hj:j<cs.length:=by rw[b1];exact(bZ.1 q2).1
    obtain⟨x,k4,k5⟩:=b2 j _ (aX hj);rw[q2]at k4;cases k4;exact ih k5 (h2 j d _ q1 (aX hj))
  |_=>exact Zkl hS (by simpa only[AV.snap]using h) hv
end
structure vA (ρ:Site->Loc)(m:Mem)(w:World)(B:List (Site×aL)):Prop where
 bx:∀s b,B.lookup s=some b->kO ρ m w s b
 dZ:∀s s' b b' k,B.lookup s=some b->B.lookup s'=some b'->fL ρ w s b k->fL ρ w s' b' k->s=s'
 eM:∀s b k,B.lookup s=some b->fL ρ w s b k->∀o,m k o=none
theorem vA.nil (ρ:Site->Loc)(m:Mem)(w:World):vA ρ m w []:=⟨fun s b h=>by simp[List.lookup]at h,fun s s' b b' k h=>by simp[List.lookup]at h,fun s b k h=>by simp[List.lookup]at h⟩
theorem vA.inj {ρ:Site->Loc}{m:Mem}{w:World}{B:List (Site×aL)}(h:vA ρ m w B)(s s':Site)(b b':aL)(k:B.lookup s=some b)(k':B.lookup s'=some b')(r:(ρ s).real=true)(r':(ρ s').real=true)(e:(ρ s).b=(ρ s').b):s=s':=
 h.dZ s s' b b' _ k k' (xN r) (by rw[e];exact xN r')
theorem vA.off {ρ:Site->Loc}{m:Mem}{w:World}{B:List (Site×aL)}(h:vA ρ m w B)(s:Site)(b:aL)(k:B.lookup s=some b)(r:(ρ s).real=true):∀o,m (ρ s).b o=none:=h.eM s b _ k (xN r)
def cI (ρ:Site->Loc)(w:World)(B:List (Site×aL)):List Nat:=B.flatMap fun p=>(if(ρ p.1).real=true then[(ρ p.1).b]else[])++ins w (ρ p.1) p.2
theorem SW {ρ:Site->Loc}{w:World}{B:List (Site×aL)}{k:Nat}:k∈cI ρ w B↔∃p∈B,fL ρ w p.1 p.2 k:=by
 unfold cI;rw[List.mem_flatMap];constructor
 .rintro⟨p,hp,h⟩;refine⟨p,hp,?_⟩;rcases sE.1 h with h|h
  .split at h
   .rename_i hr;exact .inl ⟨hr,(rU.1 h).symm⟩
   .cases h
  .exact .inr h
 .rintro⟨p,hp,h⟩;refine⟨p,hp,sE.2 ?_⟩;rcases h with⟨h,rfl⟩|h
  .exact .inl (by rw[if_pos h];simp)
  .exact .inr h
def jP (P : Program) (f : FuncId) : Prop := ∃ fn c, P.funcs[f]? = some fn /\ (fn.name == "runtime.NumGoroutine") = false /\ fn.body = some c
def lD (w:World)(m:Mem)(ρ:Site->Loc)(B:List (Site×aL))(nZ:AV->List (Site×aL)->Prop)(e:Ending)(w':World):Prop:=
 ∃v r B' bW m',e=.returned v/\nZ r B'/\vA bW m' w' B'/\Le m m'/\Le m' w'.mem/\(∀i,bW (.par i)=ρ (.par i))/\
   (∀s b k,B'.lookup s=some b->fL bW w' s b k->w.heap.size<=k\/k∈cI ρ w B)/\(∀b o v,m' b o=some v->m b o=some v\/w.heap.size<=b\/b∈cI ρ w B)/\bN bW m' v r/\cV (cI ρ w B) w w'
theorem ZkT {l:List (Site×aL)}(hn:(l.map (·.1)).Nodup){p:Site×aL}(h:p∈l):l.lookup p.1=some p.2:=by
 induction l with
 |nil=>cases h
 |cons q r ih=>
  obtain⟨a,b⟩:=q;rw[iQ,List.nodup_cons]at hn;rcases jQ.1 h with rfl|h
  .exact mX
  .rw[jG (fun e=>hn.1 (by rw[<-e];exact iL.2 ⟨p,h,rfl⟩))];exact ih hn.2 h
theorem vA.free {ρ:Site->Loc}{m:Mem}{w:World}{B:List (Site×aL)}(h:vA ρ m w B)(hn:(B.map (·.1)).Nodup):∀k∈cI ρ w B,∀o,m k o=none:=fun k hk o=>by
 obtain⟨p,hp,e⟩:=SW.1 hk;exact h.eM p.1 p.2 k (ZkT hn hp) e o
def cN (P:Program)(f:FuncId)(bU:List AV)(B:List (Site×aL))(nZ:AV->List (Site×aL)->Prop):Prop:=
 jP P f/\∀(w:World) (m:Mem) (ρ:Site->Loc) (vs:Array Value),vA ρ m w B->(Le m w.mem/\nL m w/\(B.map (·.1)).Nodup)->vs.size=bU.length->(∀(j:Nat) (d:Value) (c:AV),vs[j]?=some d->bU[j]?=some c->bN ρ m d c)->
  Calls P f vs w (lD w m ρ B nZ)
theorem cN.mono {P:Program}{f:FuncId}{bU:List AV}{B:List (Site×aL)}{nZ P2:AV->List (Site×aL)->Prop}(h:cN P f bU B nZ)(hp:∀r B',nZ r B'->P2 r B'):cN P f bU B P2:=
 ⟨h.1,fun w m ρ vs h1 h2 h3 h4=>(h.2 w m ρ vs h1 h2 h3 h4).mono fun e w' ⟨v,r,B',bW,m',k1,k2,k3⟩=>⟨v,r,B',bW,m',k1,hp _ _ k2,k3⟩⟩
def FF (ro:Option Nat):Fence:={ Fence.wide with round:=ro }
theorem FF.one {ro:Option Nat}{n:Nat}:(FF ro).depth.isSome=true->1<=n:=fun h=>by cases h
theorem Fo {P:Program}{ro:Option Nat}{n:Nat}{f:FuncId}{args:Array Value}{w:World}{R:Ending->World->Prop}(h:Calls P f args w R):CallsIn (FF ro) n P f args w R:=
 ⟨trivial,fun cs _=>(callsIn_wide (n:=n).2 h).2 cs (room_wide _)⟩
def Op.ZxD:Op->Bool
 |.defer _=>true
 |_=>false
def FW (ops:Array Oper):Bool:=ops.all fun o=>!Op.ZxD o.op
theorem XN {ops:Array Oper}(h:FW ops=true){i:Nat}{o:Oper}(hi:ops[i]?=some o):∀c,o.op≠.defer c:=fun c e=>by
 have:=Array.all_eq_true'.1 h o (Array.mem_of_getElem? hi)
 rw[e]at this;cases this
section
variable {P:Program}{ops:Array Oper}{Q:Exit->Act->World->Prop}{md:Region.Mode}{ro:Option Nat}{S:World->Prop}
theorem ZeG {i:Nat}{o:Oper}{v:Value}{a:Act}(hi:ops[i]?=some o)(hd:∀c,o.op≠.defer c)(hy:YieldsIf P ops S o v a)
  {K:Act->World->Prop} {w:World} (hS:S w) (h:K (a.put o.dst v) w):wpOpIn (FF ro) 1 P ops Q i K a w:=by
 unfold wpOpIn;simp only[hi];rcases hy with⟨hw,hv⟩|⟨hw,rfl⟩
 .simp only[hw,if_true,Oper.wpIn,Oper.semAt_eq _ _ _ hd,hv w hS,Oper.uponIn];exact⟨fun _ _=>trivial,h⟩
 .simp only[hw,Bool.false_eq_true,if_false];exact⟨fun _ _=>trivial,h⟩
theorem Zmg {j:Nat}{oi oj:Oper}{v:Value}(hj:ops[j]?=some oj)(hd:∀c,oj.op≠.defer c)(H0:oi.apart ops oj=true)
  (M1:∀cs b,oi.op≠.select cs b) (CC:∀cs b,oj.op≠.select cs b)
  (hQ:∀c a w,Q (.panic c) (a.put oi.dst v) w->Q (.panic c) a w) {K:Act->World->Prop} {a:Act} {w:World}
  (hy:YieldsIf P ops S oi v a) (h:wpOpIn (FF ro) 1 P ops Q j K (a.put oi.dst v) w):
  wpOpIn (FF ro) 1 P ops Q j (fun a' w'=>YieldsIf P ops S oi v a'/\K (a'.put oi.dst v) w') a w:=by
 obtain⟨h1,h2,h3⟩:=Oper.apart_spec H0;have keep:∀(a:Act),YieldsIf P ops S oi v a->∀u,YieldsIf P ops S oi v (a.put oj.dst u):=fun a hy u=>
  hy.of_same (execOp_put oi M1 a oj.dst u h3) (wanted_put oi a oj.dst u h3)
 have X8:∀d,YieldsIf P ops S oi v { a with defers:=d::a.defers }:=fun d=>hy.of_same rfl rfl
 unfold wpOpIn at *;simp only[hj]at *;rw[wanted_put oj a oi.dst v h1]at h;split
 .rename_i hw;simp only[hw,if_true]at h;unfold Oper.wpIn at *;refine⟨fun _ _=>trivial,?_⟩;have h:=h.2;rw[Oper.semAt_eq _ _ _ hd,execOp_put oj CC a oi.dst v h1]at h;rw[Oper.semAt_eq _ _ _ hd];generalize(execOp a.eval oj).run P w=r at *;cases r with
  |ok x w'=>
   cases x<;>simp only[Oper.uponIn]at h ⊢
   case value u=>exact⟨keep a hy u,by rw[<-Act.put_comm a v u h2];exact h⟩
   case skip=>exact⟨keep a hy _,by rw[<-Act.put_comm a v undef h2];exact h⟩
   case defer d=>
    refine⟨keep _ (X8 d) _,?_⟩;rw[<-Act.put_comm _ v undef h2,<-Act.put_defers];exact h
   case enter f args=>
    refine⟨h.1,CallsIn.mono h.2 fun e YB he=>?_⟩;cases e with
    |returned u=>exact⟨keep a hy u,by rw[<-Act.put_comm a v u h2];exact he⟩
    |panicked c=>exact hQ _ _ _ he
    |outgrown=>exact he
   case row row args=>exact⟨h.1,RowsIn.mono h.2 fun u YB he=>⟨keep a hy u,by rw[<-Act.put_comm a v u h2];exact he⟩⟩
   case round l f tmps assign body=>
    refine⟨h.1,RoundIn.mono h.2 fun e YB he=>?_⟩;cases e with
    |returned u=>exact⟨keep a hy u,by rw[<-Act.put_comm a v u h2];exact he⟩
    |panicked c=>exact hQ _ _ _ he
    |outgrown=>exact he
  |halt x w'=>
   cases x<;>simp only[Oper.uponIn]at h ⊢
   case panic u=>exact hQ _ _ _ h
 .rename_i hw;simp only[hw]at h;exact⟨fun _ _=>trivial,keep a hy _,by rw[<-Act.put_comm a v undef h2];exact h.2⟩
end
section
variable {P:Program}{ops:Array Oper}{Q:Exit->Act->World->Prop}{md:Region.Mode}{ro:Option Nat}
def s5 (md:Region.Mode)(acc:List Nat):List Edge->Nat->Nat
 |[],m=>m
 |e::r,m=>match Region.binds md e with
  |true=>s5 md acc r (m||| (1 <<< e.on)||| acc.getD e.on 0)
  |false=>s5 md acc r m
def DR (md:Region.Mode):List Oper->List Nat->List Nat
 |[],acc=>acc
 |o::r,acc=>match s5 md acc o.after.toList 0 with
  |0=>DR md r (acc++[0])
  |n+1=>DR md r (acc++[n+1])
def waits (md:Region.Mode)(ops:Array Oper)(_:Nat)(j k:Nat):Bool:=Nat.testBit ((DR md ops.toList []).getD j 0) k
inductive xA (md:Region.Mode)(ops:Array Oper):Nat->Nat->Prop where
 |one {j:Nat} {o:Oper} {e:Edge} (ho:ops[j]?=some o) (he:e∈o.after) (hb:Region.binds md e=true):xA md ops j e.on
 |more {j k:Nat} {o:Oper} {e:Edge} (ho:ops[j]?=some o) (he:e∈o.after) (hb:Region.binds md e=true) (h:xA md ops e.on k):xA md ops j k
theorem Zd {acc:List Nat}{j:Nat}{o:Oper}(ho:ops[j]?=some o)(tY:∀i k,Nat.testBit (acc.getD i 0) k=true->xA md ops i k):∀(l:List Edge) (m:Nat),(∀e∈l,e∈o.after)->(∀k,Nat.testBit m k=true->xA md ops j k)->∀k,Nat.testBit (s5 md acc l m) k=true->xA md ops j k
 |[],m,_,hm,k,h=>hm k h
 |e::r,m,hl,hm,k,h=>by
  unfold s5 at h;cases hb:Region.binds md e with
  |false=>
   rw[hb]at h;exact Zd ho tY r m (fun x hx=>hl x (by simp[hx])) hm k h
  |true=>
   rw[hb]at h;refine Zd ho tY r _ (fun x hx=>hl x (by simp[hx])) (fun k' h'=>?_) k h;rw[Nat.testBit_or,Nat.testBit_or,rR,rR]at h';rcases h' with(h'|h')|h'
   .exact hm k' h'
   .rw[Nat.one_shiftLeft,Nat.testBit_two_pow]at h'
    have:e.on=k':=by simpa using h'
    rw[<-this];exact .one ho (hl e (by simp)) hb
   .exact .more ho (hl e (by simp)) hb (tY _ _ h')
theorem Zp:∀(l pre:List Oper) (acc:List Nat),ops.toList=pre++l->acc.length=pre.length->(∀i k,Nat.testBit (acc.getD i 0) k=true->xA md ops i k)->∀i k,Nat.testBit ((DR md l acc).getD i 0) k=true->xA md ops i k
 |[],pre,acc,_,_,tY=>tY
 |o::r,pre,acc,hp,hl,tY=>by
  have ho:ops[acc.length]?=some o:=by
   rw[<-O7,hp,hl];simp
  have step:∀m,s5 md acc o.after.toList 0=m->∀i k,Nat.testBit ((acc++[m]).getD i 0) k=true->xA md ops i k:=by
   intro m hm i k h;rw[List.getD_eq_getElem?_getD,yS]at h;split at h
   .exact tY i k (by rw[List.getD_eq_getElem?_getD];exact h)
   .rename_i hi;cases hx:[m][i-acc.length]? with
    |none=>rw[hx]at h;simp at h
    |some x=>
     have h0:i-acc.length=0:=by have:=(bZ.1 hx).1;simp at this;omega
     rw[h0]at hx;simp at hx;subst hx;have xI:i=acc.length:=by omega
     subst xI;rw[h0]at h;simp only[List.getElem?_cons_zero,rS]at h;rw[<-hm]at h;exact Zd ho tY _ 0 (fun e he=>by simpa using he) (fun k h=>by simp at h) k h
  unfold DR;split
  .rename_i h0;exact Zp r (pre++[o]) _ (by rw[hp];simp) (by simp[hl]) (step 0 h0)
  .rename_i n h0;exact Zp r (pre++[o]) _ (by rw[hp];simp) (by simp[hl]) (step (n+1) h0)
theorem ZlD {f j k:Nat}(h:waits md ops f j k=true):xA md ops j k:=Zp ops.toList [] [] (by simp) rfl (fun i k h=>by simp at h) j k h
def Down (md:Region.Mode)(ops:Array Oper)(listed:Array Bool):Prop:=∀j o,listed.getD j false=true->ops[j]?=some o->∀e∈o.after,Region.binds md e=true->listed.getD e.on false=true
theorem ZcS {l:Array Bool}{k:Nat}(h:l.getD k true=false):l.getD k false=false:=by
 rcases Nat.lt_or_ge k l.size with h'|h'
 .simp[h']at h ⊢;exact h
 .simp[Array.getElem?_eq_none h']at h
theorem Down.wait {listed:Array Bool}(h:Down md ops listed){j k:Nat}(hj:listed.getD j false=true)(hw:xA md ops j k):listed.getD k false=true:=by
 induction hw with
 |one ho he hb=>exact h _ _ hj ho _ he hb
 |more ho he hb _ ih=>exact ih (h _ _ hj ho _ he hb)
theorem Zjb {listed:Array Bool}(h:Down md ops listed){f j k:Nat}(hj:j∈Region.ready md ops listed)(hw:waits md ops f j k=true):listed.getD k false=true:=by
 obtain⟨_,o,ho,eS⟩:=mem_ready.1 hj;cases ZlD hw with
 |one y2 he hb=>rw[ho]at y2;cases y2;exact eS _ he hb
 |more y2 he hb h2=>rw[ho]at y2;cases y2;exact h.wait (eS _ he hb) h2
theorem Down.set {listed:Array Bool}(h:Down md ops listed){i:Nat}(hi:i∈Region.ready md ops listed):Down md ops (listed.setIfInBounds i true):=by
 intro j o hj ho e he hb;have up:∀k,listed.getD k false=true->(listed.setIfInBounds i true).getD k false=true:=fun k hk=>by
  rcases Nat.decEq k i with cZ|rfl
  .rw[getD_set_ne false (fun e=>cZ e.symm)];exact hk
  .rcases Nat.lt_or_ge k listed.size with h'|h'
   .simp[h']
   .simp[Array.getElem?_eq_none h']at hk
 rcases Nat.decEq j i with cZ|rfl
 .rw[getD_set_ne false (fun e=>cZ e.symm)]at hj;exact up _ (h j o hj ho e he hb)
 .obtain⟨_,o',y2,eS⟩:=mem_ready.1 hi;rw[ho]at y2;cases y2;exact up _ (eS e he hb)
theorem Down.start (n:Nat):Down md ops (Array.replicate n false):=by
 intro j o hj;rcases Nat.lt_or_ge j n with h|h
 .simp[h]at hj
 .simp[h]at hj
def iV (soft:Nat->Oper->Bool)(ops:Array Oper)(j:Nat):Bool:=match ops[j]? with
 |some o=>soft j o
 |none=>true
def JX (ro:Option Nat)(P:Program)(md:Region.Mode)(ops:Array Oper)(Q:Exit->Act->World->Prop)(soft:Nat->Oper->Bool):Nat->Array Bool->Act->World->Prop
 |0,listed,a,w=>Region.ready md ops listed=[]/\Q .normal a w
 |fuel+1,listed,a,w=>
  (Region.ready md ops listed=[]->Q .normal a w)/\
  ∀i∈Region.ready md ops listed,wpOpIn (FF ro) 1 P ops Q i (fun a' w'=>(iV soft ops i=true->Ext w w')/\JX ro P md ops Q soft fuel (listed.setIfInBounds i true) a' w') a w
variable {soft:Nat->Oper->Bool}
theorem Zeh:∀(fuel:Nat) (listed:Array Bool) (a:Act) (w:World),JX ro P md ops Q soft fuel listed a w->wpAnyIn (FF ro) 1 P md ops Q fuel listed a w
 |0,_,_,_,h=>h
 |fuel+1,_,_,_,h=>⟨h.1,fun i hi=>wpOpIn_mono (fun a' w' k=>Zeh fuel _ a' w' k.2) (h.2 i hi)⟩
theorem ZeH {S':World->Prop}{i:Nat}{oi:Oper}{v:Value}(hx:∀w w',S' w->Ext w w'->S' w')(hi:ops[i]?=some oi)(Ag:∀(j:Nat) (o:Oper) cs b,ops[j]?=some o->o.op≠.select cs b)(N8:FW ops=true)
  (hQ:∀c a w,Q (.panic c) (a.put oi.dst v) w->Q (.panic c) a w):
  ∀(fuel:Nat) (listed:Array Bool) (a:Act) (w:World),Down md ops listed->((∀w,S' w)\/∀j,listed.getD j true=false->j≠i->iV soft ops j=false->waits md ops ops.size j i=true)->
   (∀j oj,ops[j]?=some oj->j≠i->listed.getD j true=false->(∀e∈oj.after,Region.binds md e=true->e.on≠i)->oi.apart ops oj=true)->
   i∈Region.ready md ops listed->YieldsIf P ops S' oi v a->S' w->
   JX ro P md ops Q soft fuel (listed.setIfInBounds i true) (a.put oi.dst v) w->JX ro P md ops Q soft (fuel+1) listed a w:=by
 intro fuel;induction fuel with
 |zero=>
  intro listed a w _ _ _ hr hy hS H;refine⟨fun h=>absurd hr (by rw[h];simp),fun j hj=>?_⟩;rcases Nat.decEq j i with zN|zN
  .have h2:=ready_mono hj zN;rw[H.1]at h2;exact absurd h2 (by simp)
  .rw[zN];exact ZeG hi (XN N8 hi) hy hS ⟨fun _=>Ext.tH _,H⟩
 |succ fuel ih=>
  intro listed a w hD Jo iX hr hy hS H;refine⟨fun h=>absurd hr (by rw[h];simp),fun j hj=>?_⟩;rcases Nat.decEq j i with zN|zN
  .have h1:=H.2 j (ready_mono hj zN);obtain⟨QI,oj,Jn,eS⟩:=mem_ready.1 hj;have Bg:=(mem_ready.1 hr).1;have PY:∀e∈oj.after,Region.binds md e=true->e.on≠i:=fun e he hb heq=>by
    have k1:=eS e he hb;rw[heq,ZcS Bg]at k1;cases k1
   have h2:=Zmg Jn (XN N8 Jn) (iX j oj Jn zN QI PY) (fun cs b=>Ag i oi cs b hi) (fun cs b=>Ag j oj cs b Jn) hQ hy h1;have UR:i∈Region.ready md ops (listed.setIfInBounds j true):=ready_mono hr (Ne.symm zN);have Aa:∀k,(listed.setIfInBounds j true).getD k true=false->listed.getD k true=false:=fun k hk=>by
    rcases Nat.decEq j k with Ty|Ty
    .rw[getD_set_ne true Ty]at hk;exact hk
    .rw[<-Ty];exact QI
   refine wpOpIn_mono (fun a' w' h3=>?_) h2;have mZ:S' w':=by
    rcases Jo with Cu|Jo
    .exact Cu w'
    .cases CC:iV soft ops j with
     |true=>exact hx w w' hS (h3.2.1 CC)
     |false=>
      have:=Zjb hD hj (Jo j QI zN CC)
      rw[ZcS Bg]at this;cases this
   refine⟨h3.2.1,ih (listed.setIfInBounds j true) a' w' (hD.set hj) (Jo.imp id (fun h k hk=>h k (Aa k hk))) (fun k ok hk y7 Tu mP=>iX k ok hk y7 (Aa k Tu) mP) UR h3.1 mZ ?_⟩;rw[Array.setIfInBounds_comm _ _ zN];exact h3.2.2
  .rw[zN];exact ZeG hi (XN N8 hi) hy hS ⟨fun _=>Ext.tH _,H⟩
def WG (ro:Option Nat)(P:Program)(ops:Array Oper)(Q:Exit->Act->World->Prop)(soft:Nat->Oper->Bool)(still:Oper->Bool):List (Nat×Bool)->Act->World->Prop
 |[],a,w=>Q .normal a w
 |(i,false)::r,a,w=>∃o v,∃S':World->Prop,(∀w w',S' w->Ext w w'->S' w')/\(still o=true->∀w,S' w)/\S' w/\ops[i]?=some o/\YieldsIf P ops S' o v a/\WG ro P ops Q soft still r (a.put o.dst v) w
 |(i,true)::r,a,w=>wpOpIn (FF ro) 1 P ops Q i (fun a' w'=>(iV soft ops i=true->Ext w w')/\WG ro P ops Q soft still r a' w') a w
def J6 (md:Region.Mode)(ops:Array Oper)(soft:Nat->Oper->Bool)(still:Oper->Bool):List (Nat×Bool)->Array Bool->Bool
 |[],listed=>(Region.ready md ops listed).isEmpty
 |(i,false)::r,listed=>(Region.ready md ops listed).contains i&&Region.free md ops listed i&&
   ((match ops[i]? with|some o=>still o|none=>false)||(List.range ops.size).all fun j=>listed.getD j true||j==i||iV soft ops j||waits md ops ops.size j i)&&J6 md ops soft still r (listed.setIfInBounds i true)
 |(i,true)::r,listed=>(Region.ready md ops listed==[i])&&J6 md ops soft still r (listed.setIfInBounds i true)
theorem ZgZ {still:Oper->Bool}(hs:Region.noSelect ops=true)(N8:FW ops=true)(hQ:∀c (a:Act) (d:Tmp) (v:Value) w,Q (.panic c) (a.put (some d) v) w->Q (.panic c) a w):∀(l:List (Nat×Bool)) (listed:Array Bool) (a:Act) (w:World),listed.size=ops.size->Down md ops listed->
  J6 md ops soft still l listed=true->WG ro P ops Q soft still l a w->JX ro P md ops Q soft l.length listed a w:=by
 intro l;induction l with
 |nil=>
  intro listed a w _ _ hB h;exact⟨by simpa[J6]using hB,h⟩
 |cons x r ih=>
  obtain⟨i,b⟩:=x;intro listed a w fG hD hB h;cases b with
  |false=>
   simp only[J6,dK]at hB;obtain⟨o,v,S',hx,bQ,Vg,ho,hy,h'⟩:=h;have hr:i∈Region.ready md ops listed:=by simpa using hB.1.1.1
   have DF:=hB.1.2;rw[ho]at DF;simp only[rR]at DF;exact ZeH hx ho (Region.noSelect_spec hs) N8 (fun c a w k=>by
    cases hd:o.dst with
    |none=>rw[hd]at k;exact k
    |some d=>rw[hd]at k;exact hQ c a d v w k) r.length listed a w hD (by
    rcases DF with h1|h1
    .exact .inl (bQ h1)
    .refine .inr (fun j hj zN CC=>?_);have aI:j<ops.size:=by
      rcases Nat.lt_or_ge j listed.size with h2|h2
      .omega
      .simp[Array.getElem?_eq_none h2]at hj
     have:=qZ.1 h1 j (List.mem_range.2 aI)
     simp only[rR,beq_iff_eq]at this;rcases this with((h3|h3)|h3)|h3
     .rw[hj]at h3;cases h3
     .exact absurd h3 zN
     .rw[CC]at h3;cases h3
     .exact h3) (Region.free_spec ho hB.1.1.2) hr hy Vg (ih _ _ _ (by simpa using fG) (hD.set hr) hB.2 h')
  |true=>
   simp only[J6,dK,beq_iff_eq]at hB;refine⟨fun h0=>by rw[hB.1]at h0;simp at h0,fun j hj=>?_⟩;have Z8:=hj;rw[hB.1,rU]at Z8;subst Z8;exact wpOpIn_mono (fun a' w' k=>⟨k.1,ih _ _ _ (by simpa using fG) (hD.set hj) hB.2 k.2⟩) h
theorem Zdl {id:Nat}{a:Act}{w:World}{o:Array Oper}(soft:Nat->Oper->Bool)(still:Oper->Bool)(l:List (Nat×Bool))(hm:P.follows .mixedOrders=true)(hQ:∀c (a:Act) (d:Tmp) (v:Value) w,Q (.panic c) (a.put (some d) v) w->Q (.panic c) a w)
  (h1:Region.noSelect o=true) (H4:FW o=true) (h2:l.length=o.size) (h3:J6 .any o soft still l (Array.replicate o.size false)=true)
  (h:WG ro P o Q soft still l a w.drew):(Code.region id o true).wpIn (FF ro) 1 P Q a w:=by
 refine wpIn_region_any hm (Zeh (soft:=soft) _ _ _ _ ?_)
 have:=ZgZ (P:=P) (soft:=soft) (still:=still) h1 H4 hQ l _ _ _ (by simp) (Down.start _) h3 h
 rw[h2]at this;exact this
end
def iT (d:Nat):Site->Site
 |.ret j=>.loc d j
 |s=>s
def Site.uI:Site->Bool
 |.ret _=>true
 |_=>false
def AS.lY (B:List (Site×aL))(σ:AS):AS:=⟨σ.tm,B++σ.bx⟩
def nR (d:Nat)(B:List (Site×aL)):List (Site×aL):=B.map fun p=>(iT d p.1,p.2.iW (iT d))
def oG (r:AV)(B:List (Site×aL)):Prop:=r.dC Site.uI=true/\∀p∈B,p.1.uI=true/\p.2.dC Site.uI=true
def aM:List Site->AS->AS
 |[],σ=>σ
 |s::r,σ=>aM r (σ.cH s)
def yV (P:Program)(f:bD)(args:List bD)(d:Nat)(K:AV->AS->Prop)(σ:AS):Prop:=
 (∃k g fs xs cs,(σ.o f).snap σ k=some (.fn g fs cs)/\jI (AV.snap σ k) (args.map σ.o)=some xs/\cN P g ((fs++xs++cs).map .pv) [] (fun r _=>∃y,r=.pv y/\y.flat=true/\K (.pv y) σ))\/
 (∃(fz:List Site) (g:FuncId) (fs xs cs:List PV),(aM fz σ).o f=.pv (.fn g fs cs)/\(aM fz σ).tN args=some xs/\cN P g ((fs++xs++cs).map .pv) [] (fun r B=>oG r B/\K (r.map (iT d)) (((aM fz σ).bI d).lY (nR d B))))
section
variable {P:Program}{N:Nat}{w0:World}{m0:Env w0}{pl:List Nat}{σ:AS}{ρ:Site->Loc}{m:Mem}{act:Act}{w:World}{o:Oper}{d:Nat}{K:AV->AS->Prop}{ro:Option Nat}
theorem Sat.aM:∀(fz:List Site) {σ:AS} {m:Mem},Sat N w0 m0 pl σ ρ m act w->∃m',Le m m'/\Sat N w0 m0 pl (aM fz σ) ρ m' act w
 |[],σ,m,h=>⟨m,Le.refl m,h⟩
 |s::r,σ,m,h=>by
  obtain⟨m1,l1,h1⟩:=h.cH s;obtain⟨m2,l2,h2⟩:=Sat.aM r h1;exact⟨m2,l1.trans l2,h2⟩
theorem ZfE (d:Nat):∀(B:List (Site×aL)),(∀p∈B,p.1.uI=true)->∀s b,(nR d B).lookup s=some b->∃j b',s=.loc d j/\B.lookup (.ret j)=some b'/\b=b'.iW (iT d)
 |[],_,s,b,h=>by simp[nR]at h
 |(s',b')::r,hB,s,b,h=>by
  have h1:=hB (s',b') (by simp);cases s' with
  |ret j=>
   simp only[nR,iQ,iT]at h;rcases Classical.em (s=.loc d j)with e|e
   .subst e;rw[mX]at h;cases h;exact⟨j,b',rfl,mX,rfl⟩
   .rw[jG e]at h;obtain⟨j2,b2,e1,e2,e3⟩:=ZfE d r (fun p hp=>hB p (by simp[hp])) s b h;refine⟨j2,b2,e1,?_,e3⟩;rw[jG (fun e4=>e (by rw[e1];cases e4;rfl))];exact e2
  |par i=>cases h1
  |loc e i=>cases h1
theorem Zez {α β:Type}[BEq α][LawfulBEq α](k:α):∀(l r:List (α×β)),(l++r).lookup k=(l.lookup k).or (r.lookup k)
 |[],r=>by simp[List.lookup]
 |(a,b)::l,r=>by
  by_cases h:k=a
  .subst h;rw[List.cons_append,mX,mX];rfl
  .rw[List.cons_append,jG h,jG h];exact Zez k l r
theorem Sat.ret (h:Sat N w0 m0 pl σ ρ m act w)(hN:qT d σ){w':World}(hx:Ext w w'){m':Mem}{bW:Site->Loc}{B:List (Site×aL)}(hB:vA bW m' w' B)(hk:∀p∈B,p.1.uI=true/\p.2.dC Site.uI=true)(hm:Le m m')(hw:Le m' w'.mem)
  (hb:∀s b k,B.lookup s=some b->fL bW w' s b k->w.heap.size<=k) (hf:∀b o v,m' b o=some v->m b o=some v\/w.heap.size<=b):
  ∃oE,Sat N w0 m0 pl (σ.lY (nR d B)) oE m' act w'/\∀{v:Value} {r:AV},r.dC Site.uI=true->bN bW m' v r->bN oE m' v (r.map (iT d)):=by
 let oE:Site->Loc:=fun s=>match s with
  |.loc e j=>if e=d then bW (.ret j)else ρ s
  |s=>ρ s
 have e1:∀s,s.fP d=false->oE s=ρ s:=fun s hs=>by
  cases s with
  |loc e j=>
   have:¬e=d:=fun h=>by subst h;simp[Site.fP]at hs
   simp[oE,this]
  |_=>rfl
 have e2:∀s,s.uI=true->oE (iT d s)=bW s:=fun s hs=>by
  cases s with
  |ret j=>simp[oE,iT]
  |_=>cases hs
 have hX:=h.ext hx;have z8:Sat N w0 m0 pl σ ρ m' act w':=hX.Zx3 hm hw (fun s b i k r o=>by
  cases hv:m' i o with
  |none=>rfl
  |some v=>
   have r':=((h.bx s b k).dS (fun r=>hx.block _ (h.lt k r))).1 r;have aI:=h.G2 k r';rcases hf _ _ _ hv with k1|k1
   .rw[h.eM s b i k r' o]at k1;cases k1
   .omega) (fun b o v hv=>by
  rcases hf b o v hv with k|k
  .exact .inl k
  .exact .inr (.inl (lJ h.keep.size k)))
 have look:∀s b,(σ.lY (nR d B)).b s=some b->(∃j b',s=.loc d j/\B.lookup (.ret j)=some b'/\b=b'.iW (iT d))\/(σ.b s=some b/\s.fP d=false):=fun s b k=>by
  have k':(nR d B++σ.bx).lookup s=some b:=k;rw[Zez]at k';cases hl:(nR d B).lookup s with
  |some c=>
   rw[hl]at k';simp at k';subst k';exact .inl (ZfE d B (fun p hp=>(hk p hp).1) s c hl)
  |none=>
   rw[hl]at k';simp at k';exact .inr ⟨k',(hN.b s b k').1⟩
 have mem:∀{l:List (Site×aL)} {s b},l.lookup s=some b->(s,b)∈l:=by
  intro l;induction l with
  |nil=>intro s b h;simp[List.lookup]at h
  |cons p r ih=>
   obtain⟨a,c⟩:=p;intro s b h;by_cases e:s=a
   .subst e;rw[mX]at h;cases h;simp
   .rw[jG e]at h;simp[ih h]
 refine⟨oE,⟨z8.sA,z8.sz,fun t a k=>?_,fun s b k=>?_,fun s s' b b' i k k' r r'=>?_,z8.mem,fun s b i k r=>?_,fun s b i k r=>?_,z8.keep,z8.base,z8.qB,fun i=>z8.par i⟩,fun hr hv=>hv.map e2 hr⟩
 .obtain⟨v,k1,k2⟩:=z8.tm t a k;exact⟨v,k1,k2.mono (Le.refl _) e1 (hN.t t a k)⟩
 .rcases look s b k with⟨j,b',rfl,k1,rfl⟩|⟨k1,k2⟩
  .exact(hB.bx _ _ k1).iW e2 (s:=.ret j) rfl (hk _ (mem k1)).2
  .exact(z8.bx s b k1).stay (Le.refl _) e1 k2 (hN.b s b k1).2 (fun _ _=>rfl)
 .rcases look s b k with⟨j,b2,rfl,k1,rfl⟩|⟨k1,k2⟩<;>rcases look s' b' k' with⟨j',b2',rfl,C0,rfl⟩|⟨C0,ZQ⟩
  .have:=hB.dZ _ _ _ _ i k1 C0 ((uL (e2 (.ret j) rfl)).1 r) ((uL (e2 (.ret j') rfl)).1 r')
   cases this;rfl
  .have a1:=hb _ _ i k1 ((uL (e2 (.ret j) rfl)).1 r);have a2:=h.G2 C0 (((h.bx s' b' C0).dS (fun r=>hx.block _ (h.lt C0 r))).1 ((R6 (e1 s' ZQ)).1 r'));omega
  .have a1:=hb _ _ i C0 ((uL (e2 (.ret j') rfl)).1 r');have a2:=h.G2 k1 (((h.bx s b k1).dS (fun r=>hx.block _ (h.lt k1 r))).1 ((R6 (e1 s k2)).1 r));omega
  .exact z8.dZ s s' b b' i k1 C0 ((R6 (e1 s k2)).1 r) ((R6 (e1 s' ZQ)).1 r')
 .rcases look s b k with⟨j,b2,rfl,k1,rfl⟩|⟨k1,k2⟩
  .exact hB.eM _ _ i k1 ((uL (e2 (.ret j) rfl)).1 r)
  .exact z8.eM s b i k1 ((R6 (e1 s k2)).1 r)
 .rcases look s b k with⟨j,b2,rfl,k1,rfl⟩|⟨k1,k2⟩
  .exact .inl (lJ h.keep.size (hb _ _ i k1 ((uL (e2 (.ret j) rfl)).1 r)))
  .exact z8.fM s b i k1 ((R6 (e1 s k2)).1 r)
theorem Fj {m:Mem}{v:Value}{g:FuncId}{fs cs:List PV}(h:dG m v (.fn g fs cs)):∃vf vc:Array Value,v=.func (.func g) vf vc/\vf.size=fs.length/\vc.size=cs.length/\(∀(j:Nat) (d:Value) (c:PV),vf[j]?=some d->fs[j]?=some c->dG m d c)/\(∀(j:Nat) (d:Value) (c:PV),vc[j]?=some d->cs[j]?=some c->dG m d c):=by
 cases h with
 |fn _ vf vc _ _ h0 h1 h2 h3=>exact⟨vf,vc,rfl,h0,h1,h2,h3⟩
theorem F0 {c:Call}{fo:Operand}(ho:o.op=.call c)(hc:c.callee=.value fo){g:FuncId}{vf vc:Array Value}(hv:act.eval fo=.func (.func g) vf vc)(hg:jP P g):
  (execOp act.eval o).run P w=.ok (.enter g (vf++c.args.map act.eval++vc)) w:=by
 obtain⟨fn,code,h1,h2,h3⟩:=hg;have uA : ¬ fn.name = "runtime.NumGoroutine" := by simpa using h2
 unfold execOp;simp only[ho];simp[resolve,hc,hv,Deferred.ofValue,invoke,callFunc,h1,uA,h3]
theorem ZoV {m:Mem}{ρ:Site->Loc}{vf va vc:Array Value}{fs xs cs:List PV}(h1:vf.size=fs.length)(h2:va.size=xs.length)(h3:vc.size=cs.length)(k1:∀(j:Nat) (d:Value) (c:PV),vf[j]?=some d->fs[j]?=some c->dG m d c)
  (k2:∀(j:Nat) (d:Value) (c:PV),va[j]?=some d->xs[j]?=some c->dG m d c) (k3:∀(j:Nat) (d:Value) (c:PV),vc[j]?=some d->cs[j]?=some c->dG m d c):
  (vf++va++vc).size=((fs++xs++cs).map AV.pv).length/\∀(j:Nat) (d:Value) (c:AV),(vf++va++vc)[j]?=some d->((fs++xs++cs).map AV.pv)[j]?=some c->bN ρ m d c:=by
 refine⟨by simp[h1,h2,h3],fun j d c e1 e2=>?_⟩;rw[bR]at e2;obtain⟨x,e3,rfl⟩:=eA.1 e2;refine .pv _ _ ?_;rw[Array.getElem?_append,Array.getElem?_append]at e1;rw[yS,yS]at e3;simp only[Array.size_append,gE,h1,h2]at e1 e3;split at e1
 .rename_i c1;rw[if_pos c1]at e3;split at e1
  .rename_i c2;rw[if_pos c2]at e3;exact k1 j d x e1 e3
  .rename_i c2;rw[if_neg c2]at e3;exact k2 _ d x e1 e3
 .rename_i c1;rw[if_neg c1]at e3;exact k3 _ d x e1 e3
theorem ZtW {f:bD}{args:List bD}(hl:bC P o.op=.call f args)(h:yV P f args d K σ)(hS:Sat N w0 m0 pl σ ρ m act w){Q:Exit->Act->World->Prop} :
  o.wpIn (FF ro) 1 P act w (fun bH w'=>∃v a τ bW m',bH=act.put o.dst v/\K a τ/\Sat N w0 m0 pl τ bW m' act w'/\bN bW m' v a/\Ext w w') Q:=by
 obtain⟨c,fo,ho,hc,hf,ha⟩:∃c fo,o.op=.call c/\c.callee=.value fo/\aW fo=some f/\pI c.args.toList=some args:=by
  replace hl:=ZfG hl;cases hop:o.op<;>rw[hop]at hl
  case call c=>
   simp only[nD]at hl;split at hl
   all_goals first
    |(rename_i fo hc
      split at hl
      .rename_i e1 e2;cases hl;exact⟨c,fo,rfl,hc,e1,e2⟩
      .cases hl)
    |(exfalso;repeat' (first|(cases hl;done)|split at hl))
  case unOp op t x=>exfalso;cases op<;>simp only[nD]at hl<;>(try split at hl)<;>cases hl
  case makeFunc fn fs cs=>exfalso;cases fn<;>simp only[nD]at hl<;>(try split at hl)<;>cases hl
  case slice t x lo hi mx=>exfalso;cases mx<;>simp only[nD]at hl<;>(try split at hl)<;>cases hl
  all_goals (exfalso;simp only[nD,vP]at hl;repeat' (first|(cases hl;done)|split at hl))
 obtain⟨q1,q2⟩:=KL ha;have fY:∀(τ:AS) (bW:Site->Loc) (m':Mem),Sat N w0 m0 pl τ bW m' act w->(c.args.map act.eval).size=args.length/\∀(j:Nat) (u:Value) (y:bD),(c.args.map act.eval)[j]?=some u->args[j]?=some y->bN bW m' u (τ.o y):=fun τ bW m' HI=>by
  refine⟨by simp;simpa using q1,fun j u y hu hy=>?_⟩;rw[Array.getElem?_map]at hu;obtain⟨x,k1,rfl⟩:=eA.1 hu;obtain⟨y',k2,k3⟩:=q2 j x (by simpa using k1);rw[hy]at k2;cases k2;exact HI.aW k3
 unfold Oper.wpIn;refine⟨fun _ _=>trivial,?_⟩;rw[Oper.semAt_eq _ _ _ (fun c' e=>by rw[ho]at e;cases e)];rcases h with⟨k,g,fs,xs,cs,h1,h2,hC⟩|⟨fz,g,fs,xs,cs,h1,h2,hC⟩
 .obtain⟨vf,vc,hv,f1,f2,f3,f4⟩:=Fj (ZmP hS h1 (hS.aW hf));rw[F0 ho hc hv hC.1,Oper.uponIn_enter];refine⟨FF.one,Fo ?_⟩;obtain⟨s1,s2⟩:=XI h2;rw[fQ]at s1;obtain⟨a1,a2⟩:=fY σ ρ m hS;obtain⟨b1,b2⟩:=ZoV (ρ:=ρ) (m:=w.mem) (va:=c.args.map act.eval) (xs:=xs) f1 (by omega) f2 f3 (fun j u x e1 e2=>by
   have hj:j<args.length:=by rw[s1];exact(bZ.1 e2).1
   obtain⟨x',k1,k2⟩:=s2 j (σ.o args[j]) (by rw[bR,aX hj];rfl);rw[e2]at k1;cases k1;exact ZmP hS k2 (a2 j u _ e1 (aX hj))) f4
  refine(hC.2 w w.mem ρ _ (vA.nil _ _ _) ⟨Le.refl _,hS.uB.mono hS.mem,List.nodup_nil⟩ b1 b2).mono ?_;rintro e w' ⟨v,r,B,bW,m',rfl,⟨y,rfl,hy,hK⟩,_,_,_,_,_,_,rM,Z7⟩;have hx:Ext w w':=cV.ext Z7;exact⟨v,.pv y,σ,ρ,m,rfl,hK,hS.ext hx,.pv _ _ (rM.nJ.flat hy),hx⟩
 .obtain⟨m1,G7,hF⟩:=Sat.aM fz hS;have r4:=hF.aW hf;rw[h1]at r4;obtain⟨vf,vc,hv,f1,f2,f3,f4⟩:=Fj r4.nJ;rw[F0 ho hc hv hC.1,Oper.uponIn_enter];refine⟨FF.one,Fo ?_⟩;obtain⟨s1,s2⟩:=SQ h2;obtain⟨a1,a2⟩:=fY _ ρ m1 hF;obtain⟨b1,b2⟩:=ZoV (ρ:=ρ) (m:=m1) (va:=c.args.map act.eval) (xs:=xs) f1 (by omega) f2 f3 (fun j u x e1 e2=>by
   have hj:j<args.length:=by rw[s1];exact(bZ.1 e2).1
   obtain⟨x',k1,k2⟩:=s2 j _ (aX hj);rw[e2]at k1;cases k1
   have:=a2 j u _ e1 (aX hj)
   rw[k2]at this;exact this.nJ) f4
  refine(hC.2 w m1 ρ _ (vA.nil _ _ _) ⟨hF.mem,hF.uB,List.nodup_nil⟩ b1 b2).mono ?_;rintro e w' ⟨v,r,B,bW,m',rfl,⟨⟨r1,r2⟩,hK⟩,hB,Q3,HL,_,xJ,D4,rM,Z7⟩;have hx:Ext w w':=cV.ext Z7;obtain⟨oE,k1,k2⟩:=(hF.bI d).ret (qT.bI d _) hx hB r2 Q3 HL (fun s b i hs hr=>by
   rcases xJ s b i hs hr with k|k
   .exact k
   .simp[cI]at k) (fun b o v hv=>by
   rcases D4 b o v hv with k|k|k
   .exact .inl k
   .exact .inr k
   .simp[cI]at k)
  exact⟨v,_,_,oE,m',rfl,hK,k1,k2 r1 rM,hx⟩
end
def kB (aF:List Site)(s:Site):Site:=match aF.findIdx? (fun x=>decide (x=s))with
 |some j=>.par j
 |none=>s
def gH (aF:List Site)(d:Nat):Site->Site
 |.par i=>aF.getD i default
 |.ret j=>.loc d j
 |s=>s
def bX (aF:List Site):Site->Bool
 |.par i=>decide (i<aF.length)
 |.ret _=>true
 |_=>false
def oV (σ:AS)(aF:List Site):Nat->List Site->Option (List (Site×aL))
 |_,[]=>some []
 |i,s::r=>match σ.b s,oV σ aF (i+1) r with
  |some b,some l=>if b.dC (fun x=>aF.contains x)=true then some ((.par i,b.iW (kB aF))::l)else none
  |_,_=>none
def cK:List Site->AS->AS
 |[],σ=>σ
 |s::r,σ=>cK r (σ.drop s)
def eY (aF:List Site)(d:Nat)(B:List (Site×aL)):List (Site×aL):=B.map fun p=>(gH aF d p.1,p.2.iW (gH aF d))
def FZ (P:Program)(f:bD)(args:List bD)(K:AV->AS->Prop)(σ:AS):Prop:=
 ∃(d:Nat) (fz aF:List Site) (g:FuncId) (fs cs:List AV) (B:List (Site×aL)),
  ((aM fz σ).o f=.fn g fs cs\/∃tE iK,(aM fz σ).o f=.pv (.fn g tE iK)/\fs=tE.map .pv/\cs=iK.map .pv)/\aF.Nodup/\aF.all (fun s=>!s.fP d)=true/\oV (aM fz σ) aF 0 aF=some B/\
  AV.hZ (fun x=>aF.contains x) (fs++args.map (aM fz σ).o++cs)=true/\
  cN P g (AV.iR (kB aF) (fs++args.map (aM fz σ).o++cs)) B (fun r B'=>r.dC (bX aF)=true/\(∀p∈B',bX aF p.1=true/\p.2.dC (bX aF)=true)/\
   K (r.map (gH aF d)) (((cK aF (aM fz σ)).bI d).lY (eY aF d B')))
section
variable {P:Program}{N:Nat}{w0:World}{m0:Env w0}{pl:List Nat}{σ:AS}{ρ:Site->Loc}{m:Mem}{act:Act}{w:World}{o:Oper}{d:Nat}{K:AV->AS->Prop}
theorem Zop:∀(l:List Site) (σ:AS) (s:Site) (b:aL),(cK l σ).b s=some b->σ.b s=some b/\s∉l
 |[],σ,s,b,h=>⟨h,by simp⟩
 |x::r,σ,s,b,h=>by
  obtain⟨h1,h2⟩:=Zop r _ s b h;rw[AS.JN]at h1;split at h1
  .cases h1
  .rename_i cZ;exact⟨h1,by simp[cZ,h2]⟩
theorem Zoo:∀(l:List Site) (σ:AS),(cK l σ).tm=σ.tm
 |[],σ=>rfl
 |x::r,σ=>by rw[cK,Zoo r];rfl
theorem ZlY {l:List Site}{s:Site}{j:Nat}(h:l.findIdx? (fun x=>decide (x=s))=some j):l[j]?=some s:=by
 obtain⟨hj,h1,_⟩:=JL.1 h;rw[aX hj];simpa using h1
theorem Ft {aF:List Site}{s:Site}(h:s∈aF):∃j,aF.findIdx? (fun x=>decide (x=s))=some j/\aF[j]?=some s:=by
 cases hf:aF.findIdx? (fun x=>decide (x=s))with
 |some j=>exact⟨j,rfl,ZlY hf⟩
 |none=>
  rw[List.findIdx?_eq_none_iff]at hf
  have:=hf s h
  simp at this
theorem Zdx (σ:AS)(aF:List Site):∀(l:List Site) (i:Nat) (B:List (Site×aL)),oV σ aF i l=some B->
  (∀s b,B.lookup s=some b->∃j s0 b0,s=.par (i+j)/\l[j]?=some s0/\σ.b s0=some b0/\b=b0.iW (kB aF)/\b0.dC (fun x=>aF.contains x)=true)/\(∀s∈l,∃b,σ.b s=some b)/\(∀s0∈l,∃s b,(s,b)∈B/\∃j,s=.par (i+j)/\l[j]?=some s0)/\(∀p∈B,∃j s0 b0,p.1=.par (i+j)/\l[j]?=some s0/\σ.b s0=some b0/\p.2=b0.iW (kB aF))
 |[],i,B,h=>by
  simp[oV]at h;subst h;exact⟨fun s b h=>by simp[List.lookup]at h,fun s h=>(by cases h),fun s h=>(by cases h),fun p h=>(by cases h)⟩
 |x::r,i,B,h=>by
  unfold oV at h;split at h
  .rename_i b l h1 h2;split at h
   .rename_i eS;cases h;obtain⟨k1,k2,k3,k4⟩:=Zdx σ aF r (i+1) l h2;refine⟨fun s c hs=>?_,fun s hs=>?_,fun s hs=>?_,fun p hp=>?_⟩
    .by_cases e:s=.par i
     .subst e;rw[mX]at hs;cases hs;exact⟨0,x,b,rfl,rfl,h1,rfl,eS⟩
     .rw[jG e]at hs;obtain⟨j,s0,b0,e1,e2,e3⟩:=k1 s c hs;exact⟨j+1,s0,b0,by rw[e1];congr 1;omega,by simpa using e2,e3⟩
    .rcases jQ.1 hs with rfl|hs
     .exact⟨b,h1⟩
     .exact k2 s hs
    .rcases jQ.1 hs with rfl|hs
     .exact⟨.par i,b.iW (kB aF),by simp,0,rfl,rfl⟩
     .obtain⟨s',b',q1,j,q2,q3⟩:=k3 s hs;exact⟨s',b',by simp[q1],j+1,by rw[q2];congr 1;omega,by simpa using q3⟩
    .rcases jQ.1 hp with rfl|hp
     .exact⟨0,x,b,rfl,rfl,h1,rfl⟩
     .obtain⟨j,s0,b0,q1,q2,q3⟩:=k4 p hp;exact⟨j+1,s0,b0,by rw[q1];congr 1;omega,by simpa using q2,q3⟩
   .cases h
  .cases h
theorem ZfD (aF:List Site)(d:Nat):∀(B:List (Site×aL)) s b,(eY aF d B).lookup s=some b->∃s0 b0,B.lookup s0=some b0/\(s0,b0)∈B/\s=gH aF d s0/\b=b0.iW (gH aF d)
 |[],s,b,h=>by simp[eY]at h
 |(s',b')::r,s,b,h=>by
  simp only[eY,iQ]at h;by_cases e:s=gH aF d s'
  .subst e;rw[mX]at h;cases h;exact⟨s',b',mX,by simp,rfl,rfl⟩
  .rw[jG e]at h;obtain⟨s0,b0,h0,h1,h2,h3⟩:=ZfD aF d r s b h;exact⟨s0,b0,by rw[jG (fun e2=>e (by rw[h2,e2]))];exact h0,by simp[h1],h2,h3⟩
theorem Me {v:Value}{g:FuncId}{fs cs:List AV}(h:bN ρ m v (.fn g fs cs)):∃vf vc:Array Value,v=.func (.func g) vf vc/\vf.size=fs.length/\vc.size=cs.length/\(∀(j:Nat) (d:Value) (c:AV),vf[j]?=some d->fs[j]?=some c->bN ρ m d c)/\(∀(j:Nat) (d:Value) (c:AV),vc[j]?=some d->cs[j]?=some c->bN ρ m d c):=by
 cases h with
 |fn _ vf vc _ _ h0 h1 h2 h3=>exact⟨vf,vc,rfl,h0,h1,h2,h3⟩
theorem ZhR {vf va vc:Array Value}{fs xs cs:List AV}(h1:vf.size=fs.length)(h2:va.size=xs.length)(h3:vc.size=cs.length)(k1:∀(j:Nat) (d:Value) (c:AV),vf[j]?=some d->fs[j]?=some c->bN ρ m d c)
  (k2:∀(j:Nat) (d:Value) (c:AV),va[j]?=some d->xs[j]?=some c->bN ρ m d c) (k3:∀(j:Nat) (d:Value) (c:AV),vc[j]?=some d->cs[j]?=some c->bN ρ m d c):
  (vf++va++vc).size=(fs++xs++cs).length/\∀(j:Nat) (d:Value) (c:AV),(vf++va++vc)[j]?=some d->(fs++xs++cs)[j]?=some c->bN ρ m d c:=by
 refine⟨by simp[h1,h2,h3],fun j d c e1 e3=>?_⟩;rw[Array.getElem?_append,Array.getElem?_append]at e1;rw[yS,yS]at e3;simp only[Array.size_append,gE,h1,h2]at e1 e3;split at e1
 .rename_i c1;rw[if_pos c1]at e3;split at e1
  .rename_i c2;rw[if_pos c2]at e3;exact k1 j d c e1 e3
  .rename_i c2;rw[if_neg c2]at e3;exact k2 _ d c e1 e3
 .rename_i c1;rw[if_neg c1]at e3;exact k3 _ d c e1 e3
theorem Np {f:bD}{args:List bD}(hl:bC P o.op=.call f args):∃c fo,o.op=.call c/\c.callee=.value fo/\aW fo=some f/\pI c.args.toList=some args:=by
 replace hl:=ZfG hl;cases hop:o.op<;>rw[hop]at hl
 case call c=>
  simp only[nD]at hl;split at hl
  all_goals first
   |(rename_i fo hc
     split at hl
     .rename_i e1 e2;cases hl;exact⟨c,fo,rfl,hc,e1,e2⟩
     .cases hl)
   |(exfalso;repeat' (first|(cases hl;done)|split at hl))
 case unOp op t x=>exfalso;cases op<;>simp only[nD]at hl<;>(try split at hl)<;>cases hl
 case makeFunc fn fs cs=>exfalso;cases fn<;>simp only[nD]at hl<;>(try split at hl)<;>cases hl
 case slice t x lo hi mx=>exfalso;cases mx<;>simp only[nD]at hl<;>(try split at hl)<;>cases hl
 all_goals (exfalso;simp only[nD,vP]at hl;repeat' (first|(cases hl;done)|split at hl))
theorem Nw {l:List Site}(h:l.Nodup){i j:Nat}{s:Site}(hi:l[i]?=some s)(hj:l[j]?=some s):i=j:=by
 obtain⟨h1,e1⟩:=bZ.1 hi;obtain⟨h2,e2⟩:=bZ.1 hj;have hp:=R0.1 h;rcases Nat.lt_trichotomy i j with aI|he|aI
 .exact absurd (e1.trans e2.symm) (hp i j h1 h2 aI)
 .exact he
 .exact absurd (e2.trans e1.symm) (hp j i h2 h1 aI)
theorem ZfK {σ:AS}{aF:List Site}:∀(r:List Site) (i:Nat) (B:List (Site×aL)),oV σ aF i r=some B->B.map (·.1)=(List.range' i r.length).map .par
 |[],i,B,h=>by simp[oV]at h;subst h;rfl
 |s::r,i,B,h=>by
  unfold oV at h;split at h
  .rename_i b l h1 h2;split at h
   .cases h;rw[iQ,ZfK r (i+1) l h2];rfl
   .cases h
  .cases h
theorem Oh {σ:AS}{aF:List Site}{B:List (Site×aL)}(h:oV σ aF 0 aF=some B):(B.map (·.1)).Nodup:=by
 rw[ZfK _ _ _ h,DS,List.pairwise_map];exact List.Pairwise.imp (fun h e=>h (by cases e;rfl)) (DS.1 List.nodup_range')
theorem BO {lK:AS}{m1:Mem}{aF:List Site}{B:List (Site×aL)}(hF:Sat N w0 m0 pl lK ρ m1 act w)(pW:aF.Nodup)(sP:aF.all (fun s=>!s.fP d)=true)(hB:oV lK aF 0 aF=some B):
  ∃oD:Site->Loc,(∀s,aF.contains s=true->oD (kB aF s)=ρ s)/\vA oD m1 w B/\∀(R:AV->List (Site×aL)->Prop) (e:Ending) (w':World),lD w m1 oD B (fun r B'=>r.dC (bX aF)=true/\(∀p∈B',bX aF p.1=true/\p.2.dC (bX aF)=true)/\R r B') e w'->
   ∃v r B' bW m',e=.returned v/\R r B'/\Sat N w0 m0 pl (((cK aF lK).bI d).lY (eY aF d B')) bW m' act w'/\bN bW m' v (r.map (gH aF d))/\∀s,s.fP d=false->bW s=ρ s:=by
 obtain⟨l1,l2,l3,l4⟩:=Zdx lK aF aF 0 B hB
 let oD:Site->Loc:=fun s=>match s with
  |.par i=>ρ (aF.getD i default)
  |s=>ρ s
 have gA:∀s,aF.contains s=true->oD (kB aF s)=ρ s:=fun s hs=>by
  obtain⟨j,k1,k2⟩:=Ft (show s∈aF by simpa using hs);unfold kB;rw[k1];simp[oD,List.getD,k2]
 have oL:∀s b,B.lookup s=some b->∃j s0 b0,s=.par j/\aF[j]?=some s0/\lK.b s0=some b0/\b=b0.iW (kB aF)/\b0.dC (fun x=>aF.contains x)=true:=fun s b hs=>by
  obtain⟨j,s0,b0,e1,e2⟩:=l1 s b hs;exact⟨j,s0,b0,by simpa using e1,e2⟩
 have lP:∀j s0,aF[j]?=some s0->oD (.par j)=ρ s0:=fun j s0 hj=>by simp[oD,List.getD,hj]
 have QL:∀j s0,aF[j]?=some s0->kB aF s0=.par j:=fun j s0 hj=>by
  obtain⟨j',k1,k2⟩:=Ft (dL hj);have e:j'=j:=Nw pW k2 hj;unfold kB;rw[k1,e]
 have tZ:vA oD m1 w B:=by
  refine⟨fun s b hs=>?_,fun s s' b b' i hs Z5 r r'=>?_,fun s b i hs r=>?_⟩
  .obtain⟨j,s0,b0,rfl,e2,e3,rfl,e5⟩:=oL s b hs
   have:=(hF.bx s0 b0 e3).iW gA (by simpa using dL e2) e5
   rwa [QL j s0 e2]at this
  .obtain⟨j,s0,b0,rfl,e2,e3,rfl,_⟩:=oL s b hs;obtain⟨j',OQ,VP,rfl,FE,e3',rfl,_⟩:=oL s' b' Z5
   have:=hF.dZ s0 OQ b0 VP i e3 e3' ((uL (lP j s0 e2)).1 r) ((uL (lP j' OQ FE)).1 r')
   subst this
   have:j=j':=Nw pW e2 FE
   rw[this]
  .obtain⟨j,s0,b0,rfl,e2,e3,rfl,_⟩:=oL s b hs;exact hF.eM s0 b0 i e3 ((uL (lP j s0 e2)).1 r)
 have mR:∀k,k∈cI oD w B->∃s0 b0,s0∈aF/\lK.b s0=some b0/\fL ρ w s0 b0 k:=fun k hk=>by
  obtain⟨p,hp,e⟩:=SW.1 hk;obtain⟨j,s0,b0,e1,e2,e3,e4⟩:=l4 p hp;rw[rT]at e1;rw[e1,e4]at e;exact⟨s0,b0,dL e2,e3,(uL (lP j s0 e2)).1 e⟩
 refine⟨oD,gA,tZ,fun R e w' h=>?_⟩;revert h;rintro⟨v,r,B',bW,m',rfl,⟨r1,r2,hK⟩,Vv,Q3,HL,MG,xJ,D4,rM,Z7⟩;have hN:=qT.bI d (cK aF lK)
 let oE:Site->Loc:=fun s=>match s with
  |.loc e j=>if e=d then bW (.ret j)else ρ s
  |s=>ρ s
 have e1:∀s,s.fP d=false->oE s=ρ s:=fun s hs=>by
  cases s with
  |loc e j=>
   have:¬e=d:=fun h=>by subst h;simp[Site.fP]at hs
   simp[oE,this]
  |_=>rfl
 have QE:∀s∈aF,s.fP d=false:=fun s hs=>by
  have:=qZ.1 sP s hs
  simpa using this
 have e2:∀s,bX aF s=true->oE (gH aF d s)=bW s:=fun s hs=>by
  cases s with
  |par i=>
   simp only[bX,decide_eq_true_eq]at hs;have hg:=aX hs
   have:gH aF d (.par i)=aF[i]:=by simp[gH,List.getD,hg]
   rw[this,e1 _ (QE _ (zX hs)),MG i,lP i _ hg]
  |ret j=>simp[oE,gH]
  |loc e j=>cases hs
 have bQ:∀s b,((cK aF lK).bI d).b s=some b->s.fP d=false/\s∉aF/\∃b0,lK.b s=some b0/\b=b0.bI d:=fun s b k=>by
  rw[AS.NQ]at k;split at k
  .cases k
  .rename_i pW;obtain⟨b0,k1,rfl⟩:=eA.1 k;obtain⟨k2,k3⟩:=Zop aF lK s b0 k1;exact⟨by simpa using pW,k3,b0,k2,rfl⟩
 have look:∀s b,(((cK aF lK).bI d).lY (eY aF d B')).b s=some b->(∃s0 b0,B'.lookup s0=some b0/\bX aF s0=true/\b0.dC (bX aF)=true/\s=gH aF d s0/\b=b0.iW (gH aF d))\/(((cK aF lK).bI d).b s=some b):=fun s b k=>by
  have k':(eY aF d B'++((cK aF lK).bI d).bx).lookup s=some b:=k;rw[Zez]at k';cases hl:(eY aF d B').lookup s with
  |some c=>
   rw[hl]at k';simp at k';subst k';obtain⟨s0,b0,k1,k2,k3,k4⟩:=ZfD aF d B' s c hl;exact .inl ⟨s0,b0,k1,(r2 _ k2).1,(r2 _ k2).2,k3,k4⟩
  |none=>
   rw[hl]at k';simp at k';exact .inr k'
 have uP:∀s b0 k,s∉aF->lK.b s=some b0->fL ρ w s b0 k->k∉cI oD w B:=fun s b0 k hs hb hr hk=>by
  obtain⟨s0,VP,k1,k2,k3⟩:=mR _ hk
  have:=hF.dZ s0 s VP b0 k k2 hb k3 hr
  subst this;exact hs k1
 have stay:∀s b0,s∉aF->lK.b s=some b0->∀k,fL ρ w s b0 k->w'.heap[k]?=w.heap[k]?:=fun s b0 hs hb k hr=>Z7.block k (hF.G2 hb hr) (uP s b0 k hs hb hr)
 have back:∀s b0,s.fP d=false->s∉aF->lK.b s=some b0->∀k,fL oE w' s (b0.bI d) k->fL ρ w s b0 k:=fun s b0 h1 hs hb k hr=>
  ((hF.bx s b0 hb).dS (fun r=>stay s b0 hs hb _ (xN r))).1 (KA.1 ((R6 (e1 s h1)).1 hr))
 have Ta:∃ds:List Nat,Ib m0.rest ds act.defers/\Nod m0.strict ds/\∀D∈ds,(w0.heap.size<=D\/D∈pl)/\w'.heap[D]?=some (.deferred (some [])):=by
  obtain⟨ds,g1,g0,g2⟩:=hF.sA;refine⟨ds,g1,g0,fun D hD=>⟨(g2 D hD).1,?_⟩⟩;obtain⟨g3,g4⟩:=g2 D hD;rw[Z7.block D (qD.1 g4).1 (fun q=>by
   obtain⟨s1,b1,q1,q2,q3⟩:=mR _ q;exact(hF.bx s1 b1 q2).Xg q3 g4)]
  exact g4
 have OV:∀s0 b0 k,B'.lookup s0=some b0->fL bW w' s0 b0 k->w.heap.size<=k\/k∈cI oD w B:=xJ;refine⟨v,r,B',oE,m',rfl,hK,⟨Ta,hF.sz,fun t a k=>?_,fun s b k=>?_,fun s s' b b' i k k' rr LG=>?_,HL,fun s b i k rr=>?_,fun s b i k rr=>?_,?_,hF.base.trans Q3,fun b o' v' Sa=>?_,fun i=>hF.par i⟩,rM.map e2 r1,e1⟩
 .have k':((cK aF lK).bI d).t t=some a:=k;have mP:=hN.t t a k';rw[AS.Kz]at k';obtain⟨a0,k1,rfl⟩:=eA.1 k';have k2:lK.t t=some a0:=by
   unfold AS.t at k1 ⊢;rw[Zoo]at k1;exact k1
  obtain⟨u,k3,k4⟩:=hF.tm t a0 k2;refine⟨u,k3,?_⟩;have k5:bN ρ m1 u (a0.bI d):=by
   unfold AV.bI;split
   .exact .any u
   .exact k4
  exact k5.mono Q3 e1 mP
 .rcases look s b k with⟨s0,b0,k1,k2,k3,rfl,rfl⟩|k1
  .exact(Vv.bx s0 b0 k1).iW e2 k2 k3
  .obtain⟨k2,k3,b0,k4,rfl⟩:=bQ s b k1;exact((hF.bx s b0 k4).bI d).stay Q3 e1 k2 (aL.Ez d b0) (fun i hr=>stay s b0 k3 k4 i (KA.1 hr))
 .rcases look s b k with⟨s0,b0,k1,k2,k3,rfl,rfl⟩|k1<;>rcases look s' b' k' with⟨OQ,VP,C0,ZQ,k3',rfl,rfl⟩|C0
  .rw[Vv.dZ s0 OQ b0 VP i k1 C0 ((uL (e2 s0 k2)).1 rr) ((uL (e2 OQ ZQ)).1 LG)]
  .obtain⟨h2,h3,c0,h4,rfl⟩:=bQ s' b' C0;have r2':=back s' c0 h2 h3 h4 i LG;rcases OV s0 b0 i k1 ((uL (e2 s0 k2)).1 rr)with q|q
   .have:=hF.G2 h4 r2';omega
   .exact absurd q (uP s' c0 i h3 h4 r2')
  .obtain⟨h2,h3,c0,h4,rfl⟩:=bQ s b k1;have r2:=back s c0 h2 h3 h4 i rr;rcases OV OQ VP i C0 ((uL (e2 OQ ZQ)).1 LG)with q|q
   .have:=hF.G2 h4 r2;omega
   .exact absurd q (uP s c0 i h3 h4 r2)
  .obtain⟨h2,h3,c0,h4,rfl⟩:=bQ s b k1;obtain⟨uA,h3',c0',RO,rfl⟩:=bQ s' b' C0;exact hF.dZ s s' c0 c0' i h4 RO (back s c0 h2 h3 h4 i rr) (back s' c0' uA h3' RO i LG)
 .rcases look s b k with⟨s0,b0,k1,k2,k3,rfl,rfl⟩|k1
  .exact Vv.eM s0 b0 i k1 ((uL (e2 s0 k2)).1 rr)
  .obtain⟨h2,h3,c0,h4,rfl⟩:=bQ s b k1;have r2:=back s c0 h2 h3 h4 i rr;intro o';cases hx:m' i o' with
   |none=>rfl
   |some u=>
    rcases D4 _ _ _ hx with q|q|q
    .rw[hF.eM s c0 i h4 r2 o']at q;cases q
    .have:=hF.G2 h4 r2;omega
    .exact absurd q (uP s c0 i h3 h4 r2)
 .rcases look s b k with⟨s0,b0,k1,k2,k3,rfl,rfl⟩|k1
  .rcases OV s0 b0 i k1 ((uL (e2 s0 k2)).1 rr)with q|q
   .exact .inl (lJ hF.keep.size q)
   .obtain⟨s1,b1,q1,q2,q3⟩:=mR _ q;exact hF.fM s1 b1 i q2 q3
  .obtain⟨h2,h3,c0,h4,rfl⟩:=bQ s b k1;exact hF.fM s c0 i h4 (back s c0 h2 h3 h4 i rr)
 .refine⟨Z7.os.trans hF.keep.os,Z7.tape.trans hF.keep.tape,Z7.output.trans hF.keep.output,lJ hF.keep.size Z7.size,fun k hk hn=>?_⟩;refine(Z7.block k (Nat.lt_of_lt_of_le hk hF.keep.size) (fun q=>?_)).trans (hF.keep.block k hk hn);obtain⟨s1,b1,q1,q2,q3⟩:=mR _ q;rcases hF.fM s1 b1 k q2 q3 with h'|h'
  .omega
  .exact hn h'
 .rcases D4 _ _ _ Sa with q|q|q
  .exact hF.qB _ _ _ q
  .exact .inr (.inl (lJ hF.keep.size q))
  .obtain⟨s1,b1,q1,q2,q3⟩:=mR _ q;rcases hF.fM s1 b1 _ q2 q3 with h'|h'
   .exact .inr (.inl h')
   .exact .inr (.inr h')
theorem ZqR {ro:Option Nat}{f:bD}{args:List bD}(hl:bC P o.op=.call f args)(h:FZ P f args K σ)(hS:Sat N w0 m0 pl σ ρ m act w){Q:Exit->Act->World->Prop} :
  o.wpIn (FF ro) 1 P act w (fun bH w'=>∃v a τ bW m',bH=act.put o.dst v/\K a τ/\Sat N w0 m0 pl τ bW m' act w'/\bN bW m' v a) Q:=by
 obtain⟨c,fo,ho,hc,hf,ha⟩:=Np hl;obtain⟨d,fz,aF,g,fs,cs,B,pZ,pW,sP,hB,eS,hC⟩:=h;obtain⟨m1,_,hF⟩:=hS.aM fz;generalize aM fz σ=lK at pZ hB eS hC hF;obtain⟨q1,q2⟩:=KL ha;obtain⟨oD,gA,tZ,yF⟩:=BO hF pW sP hB;have r4:∃vf vc:Array Value,act.eval fo=.func (.func g) vf vc/\vf.size=fs.length/\vc.size=cs.length/\(∀(j:Nat) (d:Value) (c:AV),vf[j]?=some d->fs[j]?=some c->bN ρ m1 d c)/\(∀(j:Nat) (d:Value) (c:AV),vc[j]?=some d->cs[j]?=some c->bN ρ m1 d c):=by
  have h1:=hF.aW hf;rcases pZ with pZ|⟨tE,iK,pZ,rfl,rfl⟩
  .rw[pZ]at h1;exact Me h1
  .rw[pZ]at h1;obtain⟨vf,vc,e1,e2,e3,e4,e5⟩:=Fj h1.nJ;refine⟨vf,vc,e1,by simpa using e2,by simpa using e3,fun j d c k1 k2=>?_,fun j d c k1 k2=>?_⟩
   .rw[bR]at k2;obtain⟨x,k3,rfl⟩:=eA.1 k2;exact .pv _ _ (e4 j d x k1 k3)
   .rw[bR]at k2;obtain⟨x,k3,rfl⟩:=eA.1 k2;exact .pv _ _ (e5 j d x k1 k3)
 obtain⟨vf,vc,hv,f1,f2,f3,f4⟩:=r4;have fG:(c.args.map act.eval).size=(args.map lK.o).length:=by simp;simpa using q1
 obtain⟨b1,b2⟩:=ZhR (ρ:=ρ) (m:=m1) (va:=c.args.map act.eval) (xs:=args.map lK.o) f1 fG f2 f3 (fun j u y hu hy=>by
  rw[Array.getElem?_map]at hu;obtain⟨x,k1,rfl⟩:=eA.1 hu;obtain⟨y',k2,k3⟩:=q2 j x (by simpa using k1);rw[bR,k2]at hy;cases hy;exact hF.aW k3) f4
 unfold Oper.wpIn;refine⟨fun _ _=>trivial,?_⟩;rw[Oper.semAt_eq _ _ _ (fun c' e=>by rw[ho]at e;cases e),F0 ho hc hv hC.1,Oper.uponIn_enter];refine⟨FF.one,Fo ?_⟩;refine(hC.2 w m1 oD _ tZ ⟨hF.mem,hF.uB,Oh hB⟩ (by rw[KH];exact b1) (fun j u y hu hy=>by
  rw[KG]at hy;obtain⟨a,k1,rfl⟩:=eA.1 hy;exact(b2 j u a hu k1).map gA (W5 eS k1))).mono ?_
 intro e w' h;obtain⟨v,r,B',bW,m',rfl,hK,k1,k2,_⟩:=yF (fun r B'=>K (r.map (gH aF d)) (((cK aF lK).bI d).lY (eY aF d B'))) e w' h;exact⟨v,_,_,bW,m',rfl,hK,k1,k2⟩
end
def FU (P:Program)(i:Nat)(bU:List AV)(B:List (Site×aL))(nZ:AV->List (Site×aL)->Prop):Prop:=
 ∀(w:World) (m:Mem) (ρ:Site->Loc) (vs:Array Value),vA ρ m w B->(Le m w.mem/\nL m w/\(B.map (·.1)).Nodup)->vs.size=bU.length->(∀(j:Nat) (d:Value) (c:AV),vs[j]?=some d->bU[j]?=some c->bN ρ m d c)->
  ∃r,w.heap[(ρ (.par i)).b]?=some (.loop r)/\vs.size=r.params.size/\RoundIn (FF none) 0 P (ρ (.par i)).b r.fn ((r.params.zip vs).foldl (fun tmps (t,a)=>tmps.setIfInBounds t a) r.tmps) r.assign r.body w (lD w m ρ B nZ)
def GA (P:Program)(f:bD)(args:List bD)(K:AV->AS->Prop)(σ:AS):Prop:=
 ∃(d:Nat) (fz aF:List Site) (s:Site) (i:Nat) (B:List (Site×aL)),(aM fz σ).o f=.nM s/\aF[i]?=some s/\aF.Nodup/\aF.all (fun s=>!s.fP d)=true/\oV (aM fz σ) aF 0 aF=some B/\
  AV.hZ (fun x=>aF.contains x) (args.map (aM fz σ).o)=true/\
  FU P i (AV.iR (kB aF) (args.map (aM fz σ).o)) B (fun r B'=>r.dC (bX aF)=true/\(∀p∈B',bX aF p.1=true/\p.2.dC (bX aF)=true)/\
   K (r.map (gH aF d)) (((cK aF (aM fz σ)).bI d).lY (eY aF d B')))
theorem ZsL {ro:Option Nat}{n:Nat}{P:Program}{l:Nat}{f:FuncId}{tmps:Array Value}{a b:Code}{w:World}{R:Ending->World->Prop}(h:RoundIn (FF none) n P l f tmps a b w R):RoundIn (FF ro) n P l f tmps a b w R:=h
section
variable {P:Program}{N:Nat}{w0:World}{m0:Env w0}{pl:List Nat}{σ:AS}{ρ:Site->Loc}{m:Mem}{act:Act}{w:World}{o:Oper}{d:Nat}{K:AV->AS->Prop}
theorem Zr0 {v:Value}{s:Site}(h:bN ρ m v (.nM s)):v=.func (.yield (ρ s).b) #[] #[]:=by cases h;rfl
theorem GJ {c:Call}{fo:Operand}(ho:o.op=.call c)(hc:c.callee=.value fo){l:Nat}(hv:act.eval fo=.func (.yield l) #[] #[]){r:Loop}(hr:w.heap[l]?=some (.loop r))(hs:(c.args.map act.eval).size=r.params.size):
  (execOp act.eval o).run P w=.ok (.round l r.fn ((r.params.zip (c.args.map act.eval)).foldl (fun tmps (t,a)=>tmps.setIfInBounds t a) r.tmps) r.assign r.body) w:=by
 have:=run_yield (P:=P) hr hs
 unfold execOp;simp only[ho];simp[resolve,hc,hv,Deferred.ofValue,invoke,this]
theorem ZqQ {ro:Option Nat}{f:bD}{args:List bD}(hl:bC P o.op=.call f args)(h:GA P f args K σ)(hS:Sat N w0 m0 pl σ ρ m act w){Q:Exit->Act->World->Prop} :
  o.wpIn (FF ro) 1 P act w (fun bH w'=>∃v a τ bW m',bH=act.put o.dst v/\K a τ/\Sat N w0 m0 pl τ bW m' act w'/\bN bW m' v a) Q:=by
 obtain⟨c,fo,ho,hc,hf,ha⟩:=Np hl;obtain⟨d,fz,aF,s,i,B,pZ,hi,pW,sP,hB,eS,hC⟩:=h;obtain⟨m1,_,hF⟩:=hS.aM fz;generalize aM fz σ=lK at pZ hB eS hC hF;obtain⟨q1,q2⟩:=KL ha;obtain⟨oD,gA,tZ,yF⟩:=BO hF pW sP hB;have hv:act.eval fo=.func (.yield (ρ s).b) #[] #[]:=by
  have:=hF.aW hf
  rw[pZ]at this;exact Zr0 this
 have lP:oD (.par i)=ρ s:=by
  have h1:=gA s (by simpa using dL hi);have h2:kB aF s=.par i:=by
   obtain⟨j',k1,k2⟩:=Ft (dL hi);have e:j'=i:=Nw pW k2 hi;unfold kB;rw[k1,e]
  rw[h2]at h1;exact h1
 have fG:(c.args.map act.eval).size=(args.map lK.o).length:=by simp;simpa using q1
 have lF:∀(j:Nat) (u:Value) (y:AV),(c.args.map act.eval)[j]?=some u->(args.map lK.o)[j]?=some y->bN ρ m1 u y:=fun j u y hu hy=>by
  rw[Array.getElem?_map]at hu;obtain⟨x,k1,rfl⟩:=eA.1 hu;obtain⟨y',k2,k3⟩:=q2 j x (by simpa using k1);rw[bR,k2]at hy;cases hy;exact hF.aW k3
 obtain⟨r,hr,yE,hR⟩:=hC w m1 oD (c.args.map act.eval) tZ ⟨hF.mem,hF.uB,Oh hB⟩ (by rw[KH];exact fG) (fun j u y hu hy=>by
  rw[KG]at hy;obtain⟨a,k1,rfl⟩:=eA.1 hy;exact(lF j u a hu k1).map gA (W5 eS k1))
 rw[lP]at hr hR;unfold Oper.wpIn;refine⟨fun _ _=>trivial,?_⟩;rw[Oper.semAt_eq _ _ _ (fun c' e=>by rw[ho]at e;cases e),GJ ho hc hv hr yE,Oper.uponIn_round];refine⟨FF.one,ZsL (hR.mono ?_)⟩;intro e w' h;obtain⟨v,r,B',bW,m',rfl,hK,k1,k2,_⟩:=yF (fun r B'=>K (r.map (gH aF d)) (((cK aF lK).bI d).lY (eY aF d B'))) e w' h;exact⟨v,_,_,bW,m',rfl,hK,k1,k2⟩
end
structure LO where
 dst:Option Nat
 g:Option (Nat×Bool)
 op:lZ
 lt:Bool
 deriving Inhabited
def AS.oU (d:Option Nat)(a:AV)(σ:AS):AS:=match d with
 |some d=>σ.put d a
 |none=>σ
def mA (P:Program)(o:LO)(K:AV->AS->Prop)(σ:AS):Prop:=match o.op with
 |.call f args=>yV P f args (o.dst.getD 0) K σ\/(o.lt=true/\(FZ P f args K σ\/GA P f args K σ))
 |l=>bY l (o.dst.getD 0) K σ
def A3:AV:=.pv (.bM [])
def pL (P:Program)(o:LO)(K:AS->Prop)(σ:AS):Prop:=match o.g with
 |none=>mA P o (fun a τ=>K (τ.oU o.dst a)) σ
 |some (t,want)=>match σ.t t with
  |some (.pv (.bool b))=>if b=want then mA P o (fun a τ=>K (τ.oU o.dst a)) σ else K (σ.oU o.dst A3)
  |some (.pv (.bM []))=>K (σ.oU o.dst A3)
  |_=>False
def oJ (P:Program):List LO->(AS->Prop)->AS->Prop
 |[],K,σ=>K σ
 |o::r,K,σ=>pL P o (oJ P r K) σ
def RR (ops:Array Oper)(t:Nat):Bool:=ops.any fun o=>(o.dst==some t)&&(match o.op with
 |.buildSlice _ 0 _=>true
 |_=>false)
def sU (ops:Array Oper)(l:lZ):lZ:=match l with
 |.app e n b (.t k) y=>if RR ops k=true then .iJ e n b (.t k) y else .app e n b (.t k) y
 |.app e n b (.c x) y=>match x with
  |.emp nl=>.iJ e n b (.c (.emp nl)) y
  |x=>.app e n b (.c x) y
 |l=>l
def lZ.JO:lZ->Bool
 |.iJ _ _ _ _ _=>true
 |_=>false
theorem Nz {ops:Array Oper}{l:lZ}:(sU ops l=l/\(∀e n b x y,l=.app e n b x y->True))\/∃e n b x y,l=.app e n b x y/\sU ops l=.iJ e n b x y:=by
 cases l with
 |app e n b x y=>
  cases x with
  |t k=>
   unfold sU;dsimp only;split
   .exact .inr ⟨e,n,b,.t k,y,rfl,rfl⟩
   .exact .inl ⟨rfl,fun _ _ _ _ _ _=>trivial⟩
  |c x=>
   cases x with
   |emp nl=>exact .inr ⟨e,n,b,_,y,rfl,rfl⟩
   |_=>exact .inl ⟨rfl,fun _ _ _ _ _ _=>trivial⟩
 |_=>exact .inl ⟨rfl,fun _ _ _ _ _ _=>trivial⟩
def NG (N:Nat):Option Nat->Bool
 |some d=>decide (d<N)
 |none=>true
def qJ (P:Program)(N:Nat)(ops:Array Oper)(lt:Bool)(o:Oper):Option LO:=
 if NG N o.dst=true then
  match o.guard with
  |none=>some ⟨o.dst,none,sU ops (bC P o.op),lt⟩
  |some (j,want)=>match(ops[j]?).bind (·.dst)with
   |some t=>some ⟨o.dst,some (t,want),sU ops (bC P o.op),lt⟩
   |none=>none
 else none
def kW (P:Program)(N:Nat)(ops:Array Oper):List (Bool×Oper)->Option (List LO)
 |[]=>some []
 |(lt,o)::r=>match qJ P N ops lt o,kW P N ops r with
  |some a,some l=>some (a::l)
  |_,_=>none
def lZ.NM:lZ->Bool
 |.call _ _=>true
 |_=>false
def xO (P:Program)(o:Oper):Bool:=(bC P o.op).still
def Cs (P:Program)(f:FuncId):Bool:=match P.funcs[f]? with
 |some fn=>fn.params.toList.any fun t=>match P.underlying t with
  |some (.pointer _)=>true
  |_=>false
 |none=>false
def Cq (P:Program)(ops:Array Oper):lZ->Bool
 |.call (.c (.fn f _ _)) _=>Cs P f
 |.call (.t _) [.t k]=>ops.any fun o=>o.dst==some k&&(match bC P o.op with
  |.build _ _=>true
  |_=>false)
 |_=>false
def B8 (P:Program)(ops:Array Oper)(j:Nat):Bool:=(match ops[j]? with
 |some o=>Cq P ops (bC P o.op)
 |none=>false)||(List.range ops.size).all fun i=>match ops[i]? with
 |some o=>!(bC P o.op).FN||waits .any ops ops.size j i
 |none=>true
def R8 (P:Program)(ops:Array Oper)(j:Nat)(o:Oper):Bool:=o.op.vQ||((bC P o.op).NM&&!B8 P ops j)||(sU ops (bC P o.op)).JO||(bC P o.op).still
def Md (P:Program)(ops:Array Oper):Nat->Array Bool->List (Nat×Bool)
 |0,_=>[]
 |f+1,listed=>
  match(Region.ready .any ops listed).find? fun i=>match ops[i]? with
    |some o=>xO P o
    |none=>false with
  |some i=>(i,false)::Md P ops f (listed.setIfInBounds i true)
  |none=>match(Region.ready .any ops listed).find? fun i=>match ops[i]? with
    |some o=>(bC P o.op).FN&&(List.range ops.size).all fun j=>listed.getD j true||j==i||iV (R8 P ops) ops j||waits .any ops ops.size j i
    |none=>false with
   |some i=>(i,false)::Md P ops f (listed.setIfInBounds i true)
   |none=>match Region.ready .any ops listed with
    |i::_=>(i,true)::Md P ops f (listed.setIfInBounds i true)
    |[]=>[]
def rJ (P:Program)(ops:Array Oper):List (Nat×Bool)->Bool
 |[]=>true
 |(i,false)::r=>(match ops[i]? with
   |some o=>xO P o||(bC P o.op).FN
   |none=>false)&&rJ P ops r
 |(i,true)::r=>(match ops[i]? with
   |some _=>true
   |none=>false)&&rJ P ops r
def BN (P:Program)(N:Nat)(ops:Array Oper)(draw:Bool):Option (List LO):=
 if draw=true then
  let l:=Md P ops ops.size (Array.replicate ops.size false)
  if Region.noSelect ops&&FW ops&&decide (l.length=ops.size)&&J6 .any ops (R8 P ops) (xO P) l (Array.replicate ops.size false)&&rJ P ops l=true then
   kW P N ops (l.map fun p=>(B8 P ops p.1,ops.getD p.1 default))
  else none
 else kW P N ops (ops.toList.map fun o=>(true,o))
section
variable {P:Program}{N:Nat}{w0:World}{m0:Env w0}{pl:List Nat}{σ:AS}{ρ:Site->Loc}{m:Mem}{act:Act}{w:World}{o:Oper}{lo:LO}{K:AS->Prop}{ops:Array Oper}{Q:Exit->Act->World->Prop}{ro:Option Nat}
theorem EF {lt:Bool}(h:qJ P N ops lt o=some lo):lo.lt=lt/\lo.dst=o.dst/\lo.op=sU ops (bC P o.op)/\(∀d,o.dst=some d->d<N)/\((o.guard=none/\lo.g=none)\/∃j want t,o.guard=some (j,want)/\lo.g=some (t,want)/\(ops[j]?).bind (·.dst)=some t):=by
 unfold qJ at h;split at h
 .rename_i hd;have IG:∀d,o.dst=some d->d<N:=fun d e=>by rw[e]at hd;simpa[NG]using hd
  split at h
  .rename_i hg;cases h;exact⟨rfl,rfl,rfl,IG,.inl ⟨hg,rfl⟩⟩
  .rename_i j want hg;split at h
   .rename_i t ht;cases h;exact⟨rfl,rfl,rfl,IG,.inr ⟨j,want,t,hg,rfl,ht⟩⟩
   .cases h
 .cases h
theorem Sat.oU (h:Sat N w0 m0 pl σ ρ m act w){d:Option Nat}(hd:∀k,d=some k->k<N){v:Value}{a:AV}(hv:bN ρ m v a):Sat N w0 m0 pl (σ.oU d a) ρ m (act.put d v) w:=by
 cases d with
 |none=>exact h
 |some d=>exact h.put (hd d rfl) hv
theorem WE {ρ:Site->Loc}{m:Mem}:bN ρ m undef A3:=.pv _ _ (.bM _ _ rfl (fun j d c e1 e2=>by simp at e2))
theorem Gm {lt:Bool}(hl:qJ P N ops lt o=some lo)(h:pL P lo K σ)(hS:Sat N w0 m0 pl σ ρ m act w):
  (Region.wanted o (yielded ops act.tmps)=true/\mA P lo (fun a τ=>K (τ.oU o.dst a)) σ)\/(Region.wanted o (yielded ops act.tmps)=false/\K (σ.oU o.dst A3)):=by
 obtain⟨e0,e1,e2,e3,e4⟩:=EF hl;unfold pL at h;rcases e4 with⟨hg,UZ⟩|⟨j,want,t,hg,UZ,ht⟩
 .rw[UZ]at h;refine .inl ⟨by simp[Region.wanted,hg],?_⟩;rw[<-e1];exact h
 .rw[UZ]at h;simp only at h;split at h
  .rename_i b hb;obtain⟨v,k1,k2⟩:=hS.tm t _ hb;have hv:=k2.NR;subst hv;have hy:yielded ops act.tmps j=some b:=by unfold yielded;rw[ht];simp[k1]
   have hw:Region.wanted o (yielded ops act.tmps)=decide (b=want):=by
    simp only[Region.wanted,hg,hy];cases b<;>cases want<;>rfl
   split at h
   .rename_i Cg;exact .inl ⟨by rw[hw];simpa using Cg,by rw[<-e1];exact h⟩
   .rename_i Cg;exact .inr ⟨by rw[hw];simpa using Cg,by rw[<-e1];exact h⟩
  .rename_i hb;obtain⟨v,k1,k2⟩:=hS.tm t _ hb;obtain⟨us,hv,hl,_⟩:=k2.Zw0;subst hv;have hy:yielded ops act.tmps j=none:=by unfold yielded;rw[ht];simp[k1]
   exact .inr ⟨by simp only[Region.wanted,hg,hy];rfl,by rw[<-e1];exact h⟩
  .exact h.elim
def F9 (N:Nat)(w0:World)(m0:Env w0)(pl:List Nat)(K:AS->Prop)(act:Act)(w:World):Prop:=∃τ ρ m,K τ/\Sat N w0 m0 pl τ ρ m act w
theorem Zur {lt:Bool}(hl:qJ P N ops lt o=some lo){K':AV->AS->Prop}(h:mA P lo K' σ)(hS:Sat N w0 m0 pl σ ρ m act w):
  o.wpIn (FF ro) 1 P act w (fun bH w'=>∃v a τ bW m',bH=act.put o.dst v/\K' a τ/\Sat N w0 m0 pl τ bW m' act w'/\bN bW m' v a/\(o.op.vQ=true\/((bC P o.op).NM=true/\lt=false)\/(sU ops (bC P o.op)).JO=true->Ext w w')) Q:=by
 obtain⟨e0,e1,e2,e3,e4⟩:=EF hl;unfold mA at h;rw[e2,e1]at h;have N8:∀c,o.op≠.defer c:=fun c e=>by
  rw[e]at h;exact h.elim
 rcases Nz (ops:=ops) (l:=bC P o.op)with⟨mL,_⟩|⟨e,n,b,x,y,H0,mL⟩
 .rw[mL]at h ⊢;split at h
  .rename_i f args hc;have Aw:o.op.vQ=false:=by
    obtain⟨c,fo,ho,_⟩:=Np hc;rw[ho];rfl
   have xF:(bC P o.op).JO=false:=by rw[hc];rfl
   rcases h with h|⟨aI,h⟩
   .exact Oper.wpIn_mono (fun bH w' ⟨v,a,τ,bW,m',k1,k2,k3,k4,k5⟩=>⟨v,a,τ,bW,m',k1,k2,k3,k4,fun _=>k5⟩) (ZtW hc h hS)
   .refine Oper.wpIn_mono (fun bH w' ⟨v,a,τ,bW,m',k1,k2,k3,k4⟩=>⟨v,a,τ,bW,m',k1,k2,k3,k4,fun h=>?_⟩) (h.elim (fun h=>ZqR hc h hS) (fun h=>ZqQ hc h hS));rcases h with h|⟨_,h⟩|h
    .rw[Aw]at h;cases h
    .rw[e0]at aI;rw[aI]at h;cases h
    .rw[hc]at xF h;rw[xF]at h;cases h
  .rename_i hc;have M7:(bC P o.op).NM=false:=by
    cases hx:bC P o.op<;>first|rfl|(exact absurd hx (hc _ _))
   have xF:(bC P o.op).JO=false:=by
    cases hx:bC P o.op<;>first|rfl|(exfalso;replace hx:=ZlT hx (fun _ e=>by cases e);clear h hS hl e2 hc M7 mL;cases hop:o.op<;>rw[hop]at hx<;>(try rename_i op t x;try cases op)<;>(try rename_i fn fs cs;try cases fn)<;>simp only[nD,vP]at hx<;>repeat' (first|(cases hx;done)|split at hx))
   obtain⟨v,w',a,τ,bW,m',k1,k2,k3,k4,k5⟩:=ZpQ (fun f l e=>hc f l e) h hS;have Bu:o.op.vQ=true\/((bC P o.op).NM=true/\lt=false)\/(bC P o.op).JO=true->Ext w w':=fun h=>by
    rcases h with h|⟨h,_⟩|h
    .exact k5 h
    .rw[M7]at h;cases h
    .rw[xF]at h;cases h
   unfold Oper.wpIn;refine⟨fun _ _=>trivial,?_⟩;rw[Oper.semAt_eq _ _ _ N8];rcases k1 with k1|⟨k1,rfl⟩
   .rw[k1,Oper.uponIn_value];exact⟨v,a,τ,bW,m',rfl,k2,k3,k4,Bu⟩
   .rw[k1,Oper.uponIn_skip];exact⟨undef,a,τ,bW,m',rfl,k2,k3,k4,Bu⟩
 .rw[mL]at h ⊢;have hE:(∃nl,σ.o x=.pv (.emp nl))/\bY (bC P o.op) (o.dst.getD 0) K' σ:=by
   rw[H0];simp only[bY]at h ⊢;split at h
   .split at h
    .rename_i nl ex;exact⟨⟨nl,ex⟩,by rw[ex];exact h⟩
    .exact h.elim
   .exact h.elim
  obtain⟨v,w',a,τ,bW,m',k1,k2,k3,k4,k5⟩:=Zs4 H0 hE.2 hS;unfold Oper.wpIn;refine⟨fun _ _=>trivial,?_⟩;rw[Oper.semAt_eq _ _ _ N8];rcases k1 with k1|⟨k1,rfl⟩
  .rw[k1,Oper.uponIn_value];exact⟨v,a,τ,bW,m',rfl,k2,k3,k4,fun _=>k5 hE.1⟩
  .rw[k1,Oper.uponIn_skip];exact⟨undef,a,τ,bW,m',rfl,k2,k3,k4,fun _=>k5 hE.1⟩
theorem Mi {lt:Bool}(hl:qJ P N ops lt o=some lo)(h:mA P lo (fun a τ=>K (τ.oU o.dst a)) σ)(hS:Sat N w0 m0 pl σ ρ m act w):
  o.wpIn (FF ro) 1 P act w (fun bH w'=>F9 N w0 m0 pl K bH w'/\(o.op.vQ=true\/((bC P o.op).NM=true/\lt=false)\/(sU ops (bC P o.op)).JO=true->Ext w w')) Q:=by
 refine Oper.wpIn_mono (fun bH w' ⟨v,a,τ,bW,m',k1,k2,k3,k4,k5⟩=>?_) (Zur hl h hS);subst k1;exact⟨⟨_,bW,m',k2,k3.oU (EF hl).2.2.2.1 k4⟩,k5⟩
theorem ZfF {rest:List Oper}{lt:Bool}(hl:qJ P N ops lt o=some lo)(h:pL P lo K σ)(hS:Sat N w0 m0 pl σ ρ m act w)(hr:∀bH w',F9 N w0 m0 pl K bH w'->wpListIn (FF ro) 1 P ops Q rest bH w'):wpListIn (FF ro) 1 P ops Q (o::rest) act w:=by
 unfold wpListIn;rcases Gm hl h hS with⟨h1,h2⟩|⟨h1,h2⟩
 .rw[if_pos h1];exact Oper.wpIn_mono (fun bH w' k=>hr bH w' k.1) (Mi hl h2 hS)
 .rw[if_neg (by rw[h1];simp)];exact⟨fun _ _=>trivial,hr _ _ ⟨_,ρ,m,h2,hS.oU (EF hl).2.2.2.1 WE⟩⟩
theorem Zgr:∀(l:List Oper) (qI:List LO) {σ:AS} {ρ:Site->Loc} {m:Mem} {act:Act} {w:World},kW P N ops (l.map fun o=>(true,o))=some qI->oJ P qI K σ->Sat N w0 m0 pl σ ρ m act w->(∀bH w',F9 N w0 m0 pl K bH w'->Q .normal bH w')->wpListIn (FF ro) 1 P ops Q l act w
 |[],qI,σ,ρ,m,act,w,hl,h,hS,hQ=>by
  simp[kW]at hl;subst hl;exact hQ _ _ ⟨σ,ρ,m,h,hS⟩
 |o::r,qI,σ,ρ,m,act,w,hl,h,hS,hQ=>by
  rw[iQ]at hl;unfold kW at hl;split at hl
  .rename_i a l h1 h2;cases hl;exact ZfF h1 h hS (fun bH w' ⟨τ,bW,m',k1,k2⟩=>Zgr r l h2 k1 k2 hQ)
  .cases hl
theorem KE {G:World->Prop}{lt:Bool}(hl:qJ P N ops lt o=some lo)(h:pL P lo K σ)(hS:Sat N w0 m0 pl σ ρ m act w)(hk:(bC P o.op).still=true\/(bC P o.op).FN=true/\∀w',G w'->fW σ ρ m w w'):
  ∃v,YieldsIf P ops G o v act/\F9 N w0 m0 pl K (act.put o.dst v) w/\∃τ,K τ/\τ.bx=σ.bx/\Sat N w0 m0 pl τ ρ m (act.put o.dst v) w:=by
 obtain⟨e0,e1,e2,e3,e4⟩:=EF hl;have LI:∀a,(σ.oU o.dst a).bx=σ.bx:=fun a=>by cases o.dst<;>rfl
 rcases Gm hl h hS with⟨h1,h2⟩|⟨h1,h2⟩
 .unfold mA at h2;have mL:sU ops (bC P o.op)=bC P o.op:=by
   rcases Nz (ops:=ops) (l:=bC P o.op)with⟨mL,_⟩|⟨e,n,b,x,y,H0,_⟩
   .exact mL
   .rw[H0]at hk;rcases hk with hk|⟨hk,_⟩<;>cases hk
  rw[e2,e1,mL]at h2;have hop:bY (bC P o.op) (o.dst.getD 0) (fun a τ=>τ=σ/\K (τ.oU o.dst a)) σ\/True:=.inr trivial;split at h2
  .rename_i f args hc;rw[hc]at hk;rcases hk with hk|⟨hk,_⟩<;>cases hk
  .have hP:∃G':World->Prop,(∀w',G w'->G' w')/\dB G' P σ ρ m o act w (fun a τ=>K (τ.oU o.dst a)):=by
    rcases hk with hk|⟨hk,hG⟩
    .exact⟨G,fun _ h=>h,ZpP hk h2 hS⟩
    .refine⟨fW σ ρ m w,hG,Zs3 hk h2 hS⟩
   obtain⟨G',g1,v,a,g2,g3,g4⟩:=hP;exact⟨v,.inl ⟨h1,fun w' HL=>g2 w' (g1 w' HL)⟩,⟨_,ρ,m,g4,hS.oU e3 g3⟩,_,g4,LI a,hS.oU e3 g3⟩
 .exact⟨undef,.inr ⟨h1,rfl⟩,⟨_,ρ,m,h2,hS.oU e3 WE⟩,_,h2,LI _,hS.oU e3 WE⟩
theorem fW.Xi {w w' YB:World}(hS:Sat N w0 m0 pl σ ρ m act w)(h:fW σ ρ m w w')(k:Ext w' YB):fW σ ρ m w YB:=
 ⟨h.1.trans k.le,fun s b hs hr=>by
  have h1:=h.2 s b hs hr;have aI:=hS.lt hs hr;refine(k.block _ ?_).trans h1;rcases Nat.lt_or_ge (ρ s).b w'.heap.size with h2|h2
  .exact h2
  .rw[Array.getElem?_eq_none h2,uT aI]at h1;cases h1⟩
theorem XH (kY:FW ops=true):∀(l:List (Nat×Bool)) (qI:List LO) {σ:AS} {ρ:Site->Loc} {m:Mem} {act:Act} {w:World},rJ P ops l=true->kW P N ops (l.map fun p=>(B8 P ops p.1,ops.getD p.1 default))=some qI->
  oJ P qI K σ->Sat N w0 m0 pl σ ρ m act w->(∀bH w',F9 N w0 m0 pl K bH w'->Q .normal bH w')->WG ro P ops Q (R8 P ops) (xO P) l act w
 |[],qI,σ,ρ,m,act,w,hk,hl,h,hS,hQ=>by
  simp[kW]at hl;subst hl;exact hQ _ _ ⟨σ,ρ,m,h,hS⟩
 |(i,b)::r,qI,σ,ρ,m,act,w,hk,hl,h,hS,hQ=>by
  simp only[iQ]at hl;unfold kW at hl;split at hl
  .rename_i a l h1 h2;cases hl;cases b with
   |false=>
    simp only[rJ,dK]at hk;cases ho:ops[i]? with
    |none=>rw[ho]at hk;simp at hk
    |some o=>
     rw[ho]at hk;have hg:ops.getD i default=o:=by simp[Array.getD_eq_getD_getElem?,ho]
     rw[hg]at h1;have iB:=hk.1;simp only[rR]at iB;cases bQ:xO P o with
     |true=>
      obtain⟨v,k1,⟨τ,bW,m',k2,k3⟩,_⟩:=KE (G:=fun _=>True) h1 h hS (.inl bQ);exact⟨o,v,fun _=>True,fun _ _ _ _=>trivial,fun _ _=>trivial,trivial,ho,k1,XH kY r l hk.2 h2 k2 k3 hQ⟩
     |false=>
      have HW:(bC P o.op).FN=true:=by
       rcases iB with iB|iB
       .rw[bQ]at iB;cases iB
       .exact iB
      obtain⟨v,k1,⟨τ,bW,m',k2,k3⟩,_⟩:=KE (G:=fW σ ρ m w) h1 h hS (.inr ⟨HW,fun _ h=>h⟩);exact⟨o,v,fW σ ρ m w,fun _ _ hs hx=>fW.Xi hS hs hx,(fun e=>by rw[bQ]at e;cases e),.refl hS,ho,k1,XH kY r l hk.2 h2 k2 k3 hQ⟩
   |true=>
    simp only[rJ,dK]at hk;cases ho:ops[i]? with
    |none=>rw[ho]at hk;simp at hk
    |some o=>
     have hg:ops.getD i default=o:=by simp[Array.getD_eq_getD_getElem?,ho]
     rw[hg]at h1;show wpOpIn (FF ro) 1 P ops Q i _ act w;unfold wpOpIn;simp only[ho];rcases Gm h1 h hS with⟨q1,q2⟩|⟨q1,q2⟩
     .rw[if_pos q1];cases bQ:xO P o with
      |true=>
       obtain⟨v,k1,⟨τ,bW,m',k2,k3⟩,_⟩:=KE (G:=fun _=>True) h1 h hS (.inl bQ);rcases k1 with⟨_,k1⟩|⟨k1,_⟩
       .unfold Oper.wpIn;refine⟨fun _ _=>trivial,?_⟩;rw[Oper.semAt_eq _ _ _ (XN kY ho),k1 w trivial,Oper.uponIn_value];exact⟨fun _=>Ext.tH _,XH kY r l hk.2 h2 k2 k3 hQ⟩
       .rw[k1]at q1;cases q1
      |false=>
       have K9:iV (R8 P ops) ops i=true->o.op.vQ=true\/((bC P o.op).NM=true/\B8 P ops i=false)\/(sU ops (bC P o.op)).JO=true:=fun sN=>by
        unfold iV at sN;rw[ho]at sN;unfold R8 at sN;unfold xO at bQ;simp only[bQ,Bool.or_false,rR]at sN;rcases sN with(h'|h')|h'
        .exact .inl h'
        .simp only[dK,Bool.not_eq_true']at h';exact .inr (.inl h')
        .exact .inr (.inr h')
       exact Oper.wpIn_mono (fun bH w' ⟨⟨τ,bW,m',k2,k3⟩,k4⟩=>⟨fun sN=>k4 (K9 sN),XH kY r l hk.2 h2 k2 k3 hQ⟩) (Mi h1 q2 hS)
     .rw[if_neg (by rw[q1];simp)];exact⟨fun _ _=>trivial,fun _=>Ext.tH _,XH kY r l hk.2 h2 q2 (hS.oU (EF h1).2.2.2.1 WE) hQ⟩
  .cases hl
theorem Zm9 {id:Nat}{draw:Bool}{qI:List LO}(hm:P.follows .mixedOrders=true)(hl:BN P N ops draw=some qI)(h:oJ P qI K σ)(hS:Sat N w0 m0 pl σ ρ m act w)(hQ:∀bH w',F9 N w0 m0 pl K bH w'->Q .normal bH w')
  (hp:∀c (a:Act) (d:Tmp) (v:Value) w,Q (.panic c) (a.put (some d) v) w->Q (.panic c) a w):(Code.region id ops draw).wpIn (FF ro) 1 P Q act w:=by
 unfold BN at hl;split at hl
 .rename_i hd;subst hd;dsimp only at hl;split at hl
  .rename_i hc;simp only[dK,decide_eq_true_eq]at hc;obtain⟨⟨⟨⟨c1,Eg⟩,c2⟩,c3⟩,c4⟩:=hc;have Vj:Sat N w0 m0 pl σ ρ m act w.drew:=hS.ext (Ext.dr w);exact Zdl _ _ _ hm hp c1 Eg c2 c3 (XH Eg _ qI c4 hl h Vj hQ)
  .cases hl
 .rename_i hd
  have:draw=false:=by simpa using hd
  subst this;exact wpIn_region_list (Zgr _ qI hl h hS hQ)
end
inductive RT where
 |done
 |rd (i:Nat) (t:RT)
 |ef (i:Nat) (t alt:RT)
 |no
 |seq (t r:RT)
 deriving Inhabited
def RT.flat:RT->RT->RT
 |.done,r=>r
 |.rd i t,r=>.rd i (t.flat r)
 |.ef i t alt,r=>.ef i (t.flat r) (alt.flat r)
 |.no,_=>.no
 |.seq t u,r=>t.flat (u.flat r)
def TR (ro:Option Nat)(P:Program)(ops:Array Oper)(Q:Exit->Act->World->Prop)(soft:Nat->Oper->Bool)(still:Oper->Bool):RT->Act->World->Prop
 |.done,a,w=>Q .normal a w
 |.rd i t,a,w=>∃o v,∃S':World->Prop,(∀w w',S' w->Ext w w'->S' w')/\(still o=true->∀w,S' w)/\S' w/\ops[i]?=some o/\YieldsIf P ops S' o v a/\TR ro P ops Q soft still t (a.put o.dst v) w
 |.ef i t alt,a,w=>wpOpIn (FF ro) 1 P ops Q i (fun a' w'=>(iV soft ops i=true->Ext w w')/\TR ro P ops Q soft still t a' w') a w/\TR ro P ops Q soft still alt a w
 |.no,_,_=>True
 |.seq _ _,_,_=>False
def rF (md:Region.Mode)(ops:Array Oper)(soft:Nat->Oper->Bool)(still:Oper->Bool):RT->Nat->Array Bool->Option (List Nat)->Bool
 |.done,_,listed,none=>(Region.ready md ops listed).isEmpty
 |.rd i t,n+1,listed,none=>(Region.ready md ops listed).contains i&&Region.free md ops listed i&&
   ((match ops[i]? with|some o=>still o|none=>false)||(List.range ops.size).all fun j=>listed.getD j true||j==i||iV soft ops j||waits md ops ops.size j i)&&rF md ops soft still t n (listed.setIfInBounds i true) none
 |.ef i t alt,n+1,listed,rem=>match rem.getD (Region.ready md ops listed)with
  |j::r=>j==i&&rF md ops soft still t n (listed.setIfInBounds i true) none&&rF md ops soft still alt (n+1) listed (some r)
  |[]=>false
 |.no,_,_,some []=>true
 |_,_,_,_=>false
section
variable {P:Program}{ops:Array Oper}{Q:Exit->Act->World->Prop}{md:Region.Mode}{ro:Option Nat}{soft:Nat->Oper->Bool}{still:Oper->Bool}
theorem Zgg (hs:Region.noSelect ops=true)(N8:FW ops=true)(hQ:∀c (a:Act) (d:Tmp) (v:Value) w,Q (.panic c) (a.put (some d) v) w->Q (.panic c) a w):∀(T:RT) (n:Nat) (listed:Array Bool) (rem:Option (List Nat)) (a:Act) (w:World),listed.size=ops.size->Down md ops listed->
  (∀r,rem=some r->∀i∈r,i∈Region.ready md ops listed)->rF md ops soft still T n listed rem=true->TR ro P ops Q soft still T a w->
  match rem with
  |none=>JX ro P md ops Q soft n listed a w
  |some r=>∃n',(r=[]\/n=n'+1)/\∀i∈r,wpOpIn (FF ro) 1 P ops Q i (fun a' w'=>(iV soft ops i=true->Ext w w')/\JX ro P md ops Q soft n' (listed.setIfInBounds i true) a' w') a w:=by
 intro T;induction T with
 |done=>
  intro n listed rem a w fG hD CD hB h;cases rem with
  |some r=>simp[rF]at hB
  |none=>
   have hr:Region.ready md ops listed=[]:=by simpa[rF]using hB
   cases n with
   |zero=>exact⟨hr,h⟩
   |succ n=>exact⟨fun _=>h,fun i hi=>by rw[hr]at hi;cases hi⟩
 |rd i t ih=>
  intro n listed rem a w fG hD CD hB h;cases rem with
  |some r=>cases n<;>simp[rF]at hB
  |none=>
   cases n with
   |zero=>simp[rF]at hB
   |succ n=>
    simp only[rF,dK]at hB;obtain⟨o,v,S',hx,bQ,Vg,ho,hy,h'⟩:=h;have hr:i∈Region.ready md ops listed:=by simpa using hB.1.1.1
    have DF:=hB.1.2;rw[ho]at DF;simp only[rR]at DF;exact ZeH hx ho (Region.noSelect_spec hs) N8 (fun c a w k=>by
     cases hd:o.dst with
     |none=>rw[hd]at k;exact k
     |some d=>rw[hd]at k;exact hQ c a d v w k) n listed a w hD (by
     rcases DF with h1|h1
     .exact .inl (bQ h1)
     .refine .inr (fun j hj zN CC=>?_);have aI:j<ops.size:=by
       rcases Nat.lt_or_ge j listed.size with h2|h2
       .omega
       .simp[Array.getElem?_eq_none h2]at hj
      have:=qZ.1 h1 j (List.mem_range.2 aI)
      simp only[rR,beq_iff_eq]at this;rcases this with((h3|h3)|h3)|h3
      .rw[hj]at h3;cases h3
      .exact absurd h3 zN
      .rw[CC]at h3;cases h3
      .exact h3) (Region.free_spec ho hB.1.1.2) hr hy Vg (ih n _ none _ _ (by simpa using fG) (hD.set hr) (fun r e=>by cases e) hB.2 h')
 |ef i t alt iht S9=>
  intro n listed rem a w fG hD CD hB h;cases n with
  |zero=>cases rem<;>simp[rF]at hB
  |succ n=>
   simp only[rF]at hB;split at hB
   .rename_i j r hj;simp only[dK,beq_iff_eq]at hB;obtain⟨⟨rfl,De⟩,DF⟩:=hB;have eS:∀k∈j::r,k∈Region.ready md ops listed:=by
     cases rem with
     |none=>rw[show Option.getD none (Region.ready md ops listed)=Region.ready md ops listed from rfl]at hj;rw[hj];exact fun k hk=>hk
     |some r'=>rw[show Option.getD (some r') (Region.ready md ops listed)=r' from rfl]at hj;rw[<-hj];exact CD r' rfl
    have hr:j∈Region.ready md ops listed:=eS j (by simp);obtain⟨n',h1,h2⟩:=S9 (n+1) listed (some r) a w fG hD (fun r' e k hk=>by cases e;exact eS k (by simp[hk])) DF h.2;have p8:wpOpIn (FF ro) 1 P ops Q j (fun a' w'=>(iV soft ops j=true->Ext w w')/\JX ro P md ops Q soft n (listed.setIfInBounds j true) a' w') a w:=
     wpOpIn_mono (fun a' w' k=>⟨k.1,iht n _ none _ _ (by simpa using fG) (hD.set hr) (fun r e=>by cases e) De k.2⟩) h.1
    have MI:∀k∈j::r,wpOpIn (FF ro) 1 P ops Q k (fun a' w'=>(iV soft ops k=true->Ext w w')/\JX ro P md ops Q soft n (listed.setIfInBounds k true) a' w') a w:=fun k hk=>by
     rcases jQ.1 hk with rfl|hk
     .exact p8
     .rcases h1 with h1|h1
      .rw[h1]at hk;cases hk
      .have:n'=n:=by omega
       rw[<-this];exact h2 k hk
    cases rem with
    |none=>
     rw[show Option.getD none (Region.ready md ops listed)=Region.ready md ops listed from rfl]at hj;exact⟨fun e=>(by rw[hj]at e;cases e),fun k hk=>MI k (by rw[<-hj];exact hk)⟩
    |some r'=>
     rw[show Option.getD (some r') (Region.ready md ops listed)=r' from rfl]at hj;subst hj;exact⟨n,.inr rfl,MI⟩
   .cases hB
 |no=>
  intro n listed rem a w fG hD CD hB h;cases rem with
  |none=>cases n<;>simp[rF]at hB
  |some r=>
   cases r with
   |nil=>exact⟨0,.inl rfl,fun i hi=>by cases hi⟩
   |cons x r=>cases n<;>simp[rF]at hB
 |seq t r _ _=>intro n listed rem a w fG hD CD hB h;exact h.elim
inductive LT where
 |done
 |op (o:LO) (t:LT)
 |alt (o:LO) (t r:LT)
 |no
 |seq (t r:LT)
 deriving Inhabited
def EI (τ σ:AS):Prop:=(∀t a,τ.t t=some a->σ.t t=some a)/\∀s b,τ.b s=some b->σ.b s=some b
def Sub (τ σ:AS):Prop:=∀(N:Nat) (w0:World) (m0:Env w0) (pl:List Nat) (ρ:Site->Loc) (m:Mem) (act:Act) (w:World),Sat N w0 m0 pl σ ρ m act w->∃bW m',Sat N w0 m0 pl τ bW m' act w
theorem EI.sub {τ σ:AS}(h:EI τ σ):Sub τ σ:=fun _ _ _ _ ρ m _ _ hS=>⟨ρ,m,hS.Zx1 (fun t a k=>.inl (h.1 t a k)) h.2⟩
theorem Sub.ZxU (σ:AS):Sub σ σ:=fun _ _ _ _ ρ m _ _ hS=>⟨ρ,m,hS⟩
theorem Sub.trans' {a b c:AS}(h:Sub a b)(k:Sub b c):Sub a c:=fun N w0 m0 pl ρ m act w hS=>let ⟨bW,m',h1⟩:=k N w0 m0 pl ρ m act w hS;h N w0 m0 pl bW m' act w h1
def vK (P:Program):LT->(AS->Prop)->AS->Prop
 |.done,K,σ=>K σ
 |.op o t,K,σ=>pL P o (vK P t K) σ
 |.alt o t r,K,σ=>pL P o (vK P t K) σ/\vK P r K σ
 |.no,_,_=>True
 |.seq t r,K,σ=>∃J:AS->Prop,vK P t (fun zA=>∃τ,Sub τ zA/\J τ) σ/\∀τ,J τ->vK P r K τ
def vV (P:Program)(N:Nat)(ops:Array Oper):RT->Option LT
 |.done=>some .done
 |.rd i t=>match ops[i]?,vV P N ops t with
  |some o,some t'=>if(xO P o||(bC P o.op).FN)=true then(qJ P N ops (B8 P ops i) o).map (.op · t')else none
  |_,_=>none
 |.ef i t alt=>match ops[i]?,vV P N ops t,vV P N ops alt with
  |some o,some t',some r'=>(qJ P N ops (B8 P ops i) o).map (.alt · t' r')
  |_,_,_=>none
 |.no=>some .no
 |.seq t r=>match vV P N ops t,vV P N ops r with
  |some t',some r'=>some (.seq t' r')
  |_,_=>none
def hoist (P:Program)(ops:Array Oper)(listed:Array Bool):Option Nat:=
 match(Region.ready .any ops listed).find? fun i=>match ops[i]? with
   |some o=>xO P o
   |none=>false with
 |some i=>some i
 |none=>(Region.ready .any ops listed).find? fun i=>match ops[i]? with
   |some o=>(bC P o.op).FN&&(List.range ops.size).all fun j=>listed.getD j true||j==i||iV (R8 P ops) ops j||waits .any ops ops.size j i
   |none=>false
def Yh (P:Program)(ops:Array Oper):Nat->Array Bool->List Nat->RT
 |0,_,_=>.done
 |f+1,listed,S=>if S.all (fun i=>listed.getD i true)then .done else match hoist P ops listed with
  |some i=>.rd i (Yh P ops f (listed.setIfInBounds i true) S)
  |none=>(Region.ready .any ops listed).foldr (fun i alt=>.ef i (Yh P ops f (listed.setIfInBounds i true) S) alt) .no
def JF (ops:Array Oper)(listed:Array Bool):List Nat:=
 let un:=(List.range ops.size).filter fun i=>!listed.getD i true
 match un.find? fun b=>un.any (fun i=>waits .any ops ops.size b i)&&un.all fun i=>i==b||waits .any ops ops.size b i||waits .any ops ops.size i b with
 |some b=>un.filter fun i=>waits .any ops ops.size b i
 |none=>un
def c6 (P:Program)(ops:Array Oper):Nat->Array Bool->RT
 |0,_=>.done
 |f+1,listed=>match hoist P ops listed with
  |some i=>.rd i (c6 P ops f (listed.setIfInBounds i true))
  |none=>match Region.ready .any ops listed with
   |[]=>.done
   |[i]=>.ef i (c6 P ops f (listed.setIfInBounds i true)) .no
   |_=>
    let S:=JF ops listed
    .seq (Yh P ops ops.size listed S) (c6 P ops f (S.foldl (fun l i=>l.setIfInBounds i true) listed))
def BM (P:Program)(N:Nat)(ops:Array Oper):Option LT:=
 let T:=c6 P ops (ops.size+1) (Array.replicate ops.size false)
 if(Region.noSelect ops&&FW ops&&rF .any ops (R8 P ops) (xO P) (T.flat .done) ops.size (Array.replicate ops.size false) none)=true then vV P N ops T else none
end
section
variable {P:Program}{N:Nat}{w0:World}{m0:Env w0}{pl:List Nat}{σ:AS}{ρ:Site->Loc}{m:Mem}{act:Act}{w:World}{ops:Array Oper}{Q:Exit->Act->World->Prop}{ro:Option Nat}
theorem KO (kY:FW ops=true):∀(T:RT) (T':LT) (rest:RT) {J:AS->Prop} {σ:AS} {ρ:Site->Loc} {m:Mem} {act:Act} {w:World},vV P N ops T=some T'->vK P T' J σ->Sat N w0 m0 pl σ ρ m act w->
  (∀bH w',F9 N w0 m0 pl J bH w'->TR ro P ops Q (R8 P ops) (xO P) rest bH w')->TR ro P ops Q (R8 P ops) (xO P) (T.flat rest) act w
 |.done,T',rest,J,σ,ρ,m,act,w,hl,h,hS,hQ=>by
  simp[vV]at hl;subst hl;exact hQ _ _ ⟨σ,ρ,m,h,hS⟩
 |.no,T',rest,J,σ,ρ,m,act,w,hl,h,hS,hQ=>trivial
 |.seq t u,T',rest,J,σ,ρ,m,act,w,hl,h,hS,hQ=>by
  simp only[vV]at hl;split at hl
  .rename_i t' r' h1 h2;cases hl;obtain⟨J',h3,h4⟩:=h;exact KO kY t t' (u.flat rest) h1 h3 hS (fun bH w' ⟨τ,bW,m',⟨S0,k0,k1⟩,k2⟩=>let ⟨OL,m2,k3⟩:=k0 _ _ _ _ _ _ _ _ k2;KO kY u r' rest h2 (h4 S0 k1) k3 hQ)
  .cases hl
 |.rd i t,T',rest,J,σ,ρ,m,act,w,hl,h,hS,hQ=>by
  simp only[vV]at hl;split at hl
  .rename_i o t' ho h2;split at hl
   .rename_i iB;obtain⟨lo,h1,rfl⟩:=eA.1 hl;simp only[rR]at iB;cases bQ:xO P o with
    |true=>
     obtain⟨v,k1,⟨τ,bW,m',k2,k3⟩,_⟩:=KE (G:=fun _=>True) h1 h hS (.inl bQ);exact⟨o,v,fun _=>True,fun _ _ _ _=>trivial,fun _ _=>trivial,trivial,ho,k1,KO kY t t' rest h2 k2 k3 hQ⟩
    |false=>
     have HW:(bC P o.op).FN=true:=by
      rcases iB with iB|iB
      .rw[bQ]at iB;cases iB
      .exact iB
     obtain⟨v,k1,⟨τ,bW,m',k2,k3⟩,_⟩:=KE (G:=fW σ ρ m w) h1 h hS (.inr ⟨HW,fun _ h=>h⟩);exact⟨o,v,fW σ ρ m w,fun _ _ hs hx=>fW.Xi hS hs hx,(fun e=>by rw[bQ]at e;cases e),.refl hS,ho,k1,KO kY t t' rest h2 k2 k3 hQ⟩
   .cases hl
  .cases hl
 |.ef i t alt,T',rest,J,σ,ρ,m,act,w,hl,h,hS,hQ=>by
  simp only[vV]at hl;split at hl
  .rename_i o t' r' ho h2 h3;obtain⟨lo,h1,rfl⟩:=eA.1 hl;obtain⟨ha,hb⟩:=h;refine⟨?_,KO kY alt r' rest h3 hb hS hQ⟩;show wpOpIn (FF ro) 1 P ops Q i _ act w;unfold wpOpIn;simp only[ho];rcases Gm h1 ha hS with⟨q1,q2⟩|⟨q1,q2⟩
   .rw[if_pos q1];cases bQ:xO P o with
    |true=>
     obtain⟨v,k1,⟨τ,bW,m',k2,k3⟩,_⟩:=KE (G:=fun _=>True) h1 ha hS (.inl bQ);rcases k1 with⟨_,k1⟩|⟨k1,_⟩
     .unfold Oper.wpIn;refine⟨fun _ _=>trivial,?_⟩;rw[Oper.semAt_eq _ _ _ (XN kY ho),k1 w trivial,Oper.uponIn_value];exact⟨fun _=>Ext.tH _,KO kY t t' rest h2 k2 k3 hQ⟩
     .rw[k1]at q1;cases q1
    |false=>
     have K9:iV (R8 P ops) ops i=true->o.op.vQ=true\/((bC P o.op).NM=true/\B8 P ops i=false)\/(sU ops (bC P o.op)).JO=true:=fun sN=>by
      unfold iV at sN;rw[ho]at sN;unfold R8 at sN;unfold xO at bQ;simp only[bQ,Bool.or_false,rR]at sN;rcases sN with(h'|h')|h'
      .exact .inl h'
      .simp only[dK,Bool.not_eq_true']at h';exact .inr (.inl h')
      .exact .inr (.inr h')
     exact Oper.wpIn_mono (fun bH w' ⟨⟨τ,bW,m',k2,k3⟩,k4⟩=>⟨fun sN=>k4 (K9 sN),KO kY t t' rest h2 k2 k3 hQ⟩) (Mi h1 q2 hS)
   .rw[if_neg (by rw[q1];simp)];exact⟨fun _ _=>trivial,fun _=>Ext.tH _,KO kY t t' rest h2 q2 (hS.oU (EF h1).2.2.2.1 WE) hQ⟩
  .cases hl
theorem Zna {id:Nat}{K:AS->Prop}{T':LT}(hm:P.follows .mixedOrders=true)(hl:BM P N ops=some T')(h:vK P T' K σ)(hS:Sat N w0 m0 pl σ ρ m act w)(hQ:∀bH w',F9 N w0 m0 pl K bH w'->Q .normal bH w')
  (hp:∀c (a:Act) (d:Tmp) (v:Value) w,Q (.panic c) (a.put (some d) v) w->Q (.panic c) a w):(Code.region id ops true).wpIn (FF ro) 1 P Q act w:=by
 unfold BM at hl;dsimp only at hl;split at hl
 .rename_i hc;simp only[dK]at hc;obtain⟨⟨c1,c2⟩,c3⟩:=hc;refine wpIn_region_any hm (Zeh (soft:=R8 P ops) _ _ _ _ ?_);exact Zgg (soft:=R8 P ops) (still:=xO P) c1 c2 hp _ _ _ none _ _ (by simp) (Down.start _) (fun r e=>by cases e) c3 (KO c2 _ T' .done hl h (hS.ext (Ext.dr w)) hQ)
 .cases hl
end
inductive bJ where
 |skip
 |region (ops:List LO)
 |seq (a b:bJ)
 |cond (c:bD) (a b:bJ)
 |block (id:Nat) (c:bJ)
 |loop (c:bJ)
 |exit (id:Nat)
 |ret
 |iZ (t:LT)
 |vF (nt:Nat) (g:bD) (C:Code×Code) (la lb:bJ) (ps:List Nat)
 deriving Inhabited
def dQ (P:Program)(N:Nat):Code->Option bJ
 |.skip=>some .skip
 |.region _ ops draw=>match BN P N ops draw with
  |some l=>some (.region l)
  |none=>if draw=true then(BM P N ops).map .iZ else none
 |.seq a b=>match dQ P N a,dQ P N b with
  |some x,some y=>some (.seq x y)
  |_,_=>none
 |.cond c a b=>match aW c,dQ P N a,dQ P N b with
  |some c,some x,some y=>some (.cond c x y)
  |_,_,_=>none
 |.block id c=>(dQ P N c).map (.block id)
 |.loop c=>(dQ P N c).map .loop
 |.exit id=>some (.exit id)
 |.ret=>some .ret
 |.scope c=>dQ P N c
 |.label _=>some .skip
 |.rangeFunc g ps a b=>match aW g,dQ P N a,dQ P N b with
  |some g,some la,some lb=>some (.vF N g (a,b) la lb ps.toList)
  |_,_,_=>none
 |_=>none
inductive rY where
 |normal
 |exit (id:Nat)
 |ret
 deriving DecidableEq
def iU (K:AS->Prop)(Q:rY->AS->Prop):rY->AS->Prop
 |.normal,σ=>K σ
 |e,σ=>Q e σ
def j6 (id:Nat)(Q:rY->AS->Prop):rY->AS->Prop
 |.exit LZ,σ=>if LZ=id then Q .normal σ else Q (.exit LZ) σ
 |e,σ=>Q e σ
def kX (Q:rY->AS->Prop):Option Code->AS->Prop
 |none,σ=>Q .normal σ
 |some .ret,σ=>Q .ret σ
 |some (.exit id),σ=>Q (.exit id) σ
 |_,_=>False
def Zut (P:Program)(nt:Nat)(g:bD)(C:Code×Code)(ps:List Nat)(Q:rY->AS->Prop)(σ:AS):Prop:=
 ∃(fz aF:List Site) (tm:List (Nat×AV)) (lK:AS) (gf:FuncId) (fs cs:List AV) (B:List (Site×aL)),
  (∀t a,tm.lookup t=some a->((aM fz σ).bI nt).t t=some a)/\lK=((aM fz σ).bI nt).add (.loc nt 0) (.loop C ps nt tm none)/\
  (lK.o g=.fn gf fs cs\/∃tE iK,lK.o g=.pv (.fn gf tE iK)/\fs=tE.map .pv/\cs=iK.map .pv)/\aF.Nodup/\aF.all (fun s=>!s.fP (nt+1))=true/\oV lK aF 0 aF=some B/\
  AV.hZ (fun x=>aF.contains x) (fs++[.nM (.loc nt 0)]++cs)=true/\
  cN P gf (AV.iR (kB aF) (fs++[.nM (.loc nt 0)]++cs)) B (fun r B'=>r.dC (bX aF)=true/\(∀p∈B',bX aF p.1=true/\p.2.dC (bX aF)=true)/\
   match(((cK aF lK).bI (nt+1)).lY (eY aF (nt+1) B')).b (.loc nt 0)with
   |some (.loop _ _ _ _ st)=>kX Q st ((((cK aF lK).bI (nt+1)).lY (eY aF (nt+1) B')).drop (.loc nt 0))
   |_=>False)
def J7 (P:Program)(nt:Nat)(g:bD)(C:Code×Code)(ps:List Nat)(Q:rY->AS->Prop)(σ:AS):Prop:=∃τ,Sub τ σ/\Zut P nt g C ps Q τ
def uE (P:Program):bJ->(rY->AS->Prop)->AS->Prop
 |.skip,Q,σ=>Q .normal σ
 |.region ops,Q,σ=>oJ P ops (Q .normal) σ
 |.iZ t,Q,σ=>vK P t (Q .normal) σ
 |.seq a b,Q,σ=>uE P a (iU (uE P b Q) Q) σ
 |.cond c a b,Q,σ=>match σ.o c with
  |.pv (.bool t)=>if t=true then uE P a Q σ else uE P b Q σ
  |_=>False
 |.block id c,Q,σ=>uE P c (j6 id Q) σ
 |.loop c,Q,σ=>∃(I:Nat->AS->Prop) (n:Nat) (τ:AS),Sub τ σ/\I n τ/\∀n τ,I n τ->uE P c (iU (fun zA=>∃k S0,k<n/\Sub S0 zA/\I k S0) Q) τ
 |.exit id,Q,σ=>Q (.exit id) σ
 |.ret,Q,σ=>Q .ret σ
 |.vF nt g C _ _ ps,Q,σ=>J7 P nt g C ps Q σ
section
variable {P:Program}{N:Nat}{w0:World}{m0:Env w0}{pl:List Nat}{σ:AS}{ρ:Site->Loc}{m:Mem}{act:Act}{w:World}
def nZ (N:Nat)(w0:World)(m0:Env w0)(pl:List Nat)(Q:rY->AS->Prop):Exit->Act->World->Prop
 |.normal,a,w=>F9 N w0 m0 pl (Q .normal) a w
 |.exit id,a,w=>F9 N w0 m0 pl (Q (.exit id)) a w
 |.ret,a,w=>F9 N w0 m0 pl (Q .ret) a w
 |_,_,_=>False
theorem XM {b:Frame}{a:Act}{k:List Item}{cs:List Frame}{c:Code}:step P (lone (b.atR a (.code (.scope c)::k)) cs w)=.next (lone (b.atR a (.code c::.inScope c::k)) cs w):=
 step_lone_go (by simp[stepG,stepG.exec,Frame.atR])
theorem Zg2 {b:Frame}{a:Act}{k:List Item}{cs:List Frame}{c:Code}:step P (lone (b.atR a (.inScope c::k)) cs w)=.next (lone (b.atR a k) cs w):=
 step_lone_go (by simp[stepG,stepG.exec,Frame.atR])
theorem ZbW {F:Fence}{n:Nat}{a:Act}{Q:Exit->Act->World->Prop}{c:Code}(h:c.wpIn F n P (Exit.noGoto Q) a w):(Code.scope c).wpIn F n P Q a w:=by
 intro b k cs MD hb hr;have h0:(lone (b.atR a (.code (.scope c)::k)) cs w).fenced P F:=fenced_calm hb hr rfl;obtain⟨e,DP,AU,hq,r8⟩:=h b (.inScope c::k) cs MD hb hr;cases e with
 |normal=>exact⟨.normal,DP,AU,hq,.head h0 XM (StepsIn.trans r8 (.one (fenced_calm hb hr rfl) Zg2))⟩
 |exit id=>
  have hx:exitTo id (.inScope c::k)=exitTo id k:=by simp[exitTo]
  exact⟨_,DP,AU,hq,fun k' hk=>.head h0 XM (r8.1 k' (by rw[hx];exact hk)),
   fun wC hk=>let ⟨k₁,h1,h2⟩:=r8.2 wC (by rw[hx];exact hk);⟨k₁,h1,.head h0 XM h2⟩⟩
 |goto l=>exact hq.elim
 |ret=>exact⟨_,DP,AU,hq,.of_steps (.one h0 XM) r8⟩
 |panic ch=>exact⟨_,DP,AU,hq,.of_steps (.one h0 XM) r8⟩
 |outgrown=>exact⟨_,DP,AU,hq,.of_steps (.one h0 XM) r8⟩
def kH:Code->Bool
 |.seq a b=>kH a&&kH b
 |.cond _ a b=>kH a&&kH b
 |.block _ c=>kH c
 |.loop c=>kH c
 |.scope c=>kH c
 |.rangeFunc _ _ _ _=>false
 |_=>true
theorem Mv {a b:Code}(h:kH (.seq a b)=true):kH a=true/\kH b=true:=by simpa[kH]using h
theorem Nv {c:Operand}{a b:Code}(h:kH (.cond c a b)=true):kH a=true/\kH b=true:=by simpa[kH]using h
theorem ZnK {g:Operand}{ps:Array Tmp}{a b:Code}{t:Bool}(h:t=true->kH (.rangeFunc g ps a b)=true):t=false:=by
 cases t with
 |false=>rfl
 |true=>have:=h rfl;simp[kH]at this
def Fm (ro:Option Nat)(w0:World)(pl:List Nat):Prop:=∀l,ro=some l->(∃r,w0.heap[l]?=some (.loop r))/\l∉pl
theorem Hw (w:World)(l:Nat)(o:Obj):cV [l] w (w.putObj l o):=⟨rfl,rfl,rfl,by simp,fun k hk hn=>World.putObj_heap_other (by simpa using hn)⟩
theorem Zh9 {ro:Option Nat}(MD:Fm ro w0 pl){g:Operand}{ps:Array Tmp}{a b:Code}{g':bD}(hg:aW g=some g'){Q:rY->AS->Prop}(h:J7 P N g' (a,b) ps.toList Q σ)(hS:Sat N w0 m0 pl σ ρ m act w)(sN:m0.strict=false):
  (Code.rangeFunc g ps a b).wpIn (FF ro) 1 P (nZ N w0 m0 pl Q) act w:=by
 obtain⟨σ,kJ,fz,aF,tm,lK,gf,fs,cs,B,y1,Rm,pZ,pW,sP,hB,eS,hC⟩:=h;obtain⟨ρ,m,hS⟩:=kJ _ _ _ _ _ _ _ _ hS;obtain⟨m1,_,hF0⟩:=hS.aM fz;have NA:=hF0.bI N;have hND:=qT.bI N (aM fz σ);refine wpIn_rangeFunc (fun fn _=>?_);obtain⟨l,mark,w1,ds,U4,hmk,r5,QT,Z1,oX,IL,M8⟩:∃(l:Nat) (mark:List Deferred) (w1:World) (ds:List Nat),(Instr.enterLoop fn act.tmps ps a b (FF ro).round).run P w=.ok (l,mark) w1/\mark=ds.map WL/\ds.Nodup/\
   (∀D∈ds,w.heap.size<=D/\w1.heap[D]?=some (.deferred (some [])))/\Ext w w1/\w.heap.size<=l/\(∃r:Loop,w1.heap[l]?=some (.loop r)/\r.state=.ready/\r.pending=none/\r.params=ps/\r.assign=a/\r.body=b/\r.tmps=act.tmps)/\True:=by
  cases ro with
  |none=>
   refine⟨_,_,_,[w.heap.size],run_enterLoop_outer _ _ _ _ _,rfl,by simp,fun D hD=>?_,(Ext.al w _).trans' (Ext.al _ _),by omega,⟨{ state:=.ready,pending:=none,fn,tmps:=act.tmps,params:=ps,assign:=a,body:=b,defers:=w.heap.size },?_,rfl,rfl,rfl,rfl,rfl,rfl⟩,trivial⟩
   .simp at hD;subst hD;refine⟨fE _,?_⟩;exact(Below.heap_alloc _ _ _ (by simp)).trans (World.alloc_heap_new w _)
   .have:=World.alloc_heap_new (w.alloc (.deferred (some []))) (.loop { state:=.ready,pending:=none,fn,tmps:=act.tmps,params:=ps,assign:=a,body:=b,defers:=w.heap.size })
    rwa [World.size_alloc]at this
  |some l0=>
   obtain⟨⟨r0,EU⟩,y5⟩:=MD l0 rfl;have C9:w.heap[l0]?=some (.loop r0):=(hS.keep.block l0 (qD.1 EU).1 y5).trans EU;refine⟨_,_,_,[],run_enterLoop_inner C9 _ _ _ _ _,rfl,by simp,(fun D hD=>by cases hD),Ext.al w _,fE _,⟨{ state:=.ready,pending:=none,fn,tmps:=act.tmps,params:=ps,assign:=a,body:=b,defers:=r0.defers },World.alloc_heap_new w _,rfl,rfl,rfl,rfl,rfl,rfl⟩,trivial⟩
 obtain⟨r,C9,C8,Z6,hr4,hr5,US,hr7⟩:=IL
 let yP:Act:={ act with defers:=mark++act.defers }
 have hF2:Sat N w0 m0 pl ((aM fz σ).bI N) ρ m1 yP w1:=by
  have k:=NA.ext Z1;obtain⟨Wg,⟨d1,d2,g3,g1⟩,g0,FC⟩:=NA.sA;have g2:∀D∈Wg,(w0.heap.size<=D\/D∈pl)/\w1.heap[D]?=some (.deferred (some [])):=fun D hD=>⟨(FC D hD).1,by rw[Z1.block _ (qD.1 (FC D hD).2).1];exact(FC D hD).2⟩
  exact⟨⟨ds++Wg,⟨ds++d1,d2,by rw[g3,I0],by show mark++act.defers=_;rw[hmk,g1,lI];simp only[I0]⟩,⟨List.nodup_append.2 ⟨r5,g0.1,fun a ha b hb e=>by
   have h1:=(QT a ha).1;have h2:=(qD.1 (FC b hb).2).1
   omega⟩,fun e=>by rw[sN]at e;cases e⟩,fun D hD=>by
   rcases sE.1 hD with hD|hD
   .exact⟨.inl (lJ hS.keep.size (QT D hD).1),(QT D hD).2⟩
   .exact g2 D hD⟩,k.sz,k.tm,k.bx,k.dZ,k.mem,k.eM,k.fM,k.keep,k.base,k.qB,k.par⟩
 have K3:=Mm ρ N 0 ⟨l,0,0,true⟩;have Dc:Sat N w0 m0 pl lK (iN ρ (.loc N 0) ⟨l,0,0,true⟩) m1 yP w1:=by
  rw[Rm];refine hF2.add hND (l:=⟨l,0,0,true⟩) ⟨by rw[R9],r,by rw[R9];exact C9,C8,Z6,by rw[hr4],hr5,US,by rw[hr7];exact NA.sz,fun t c k=>?_⟩ (fun _ s b k rr=>?_) (fun _ o=>?_) (fun _=>.inl (lJ hS.keep.size oX))
  .obtain⟨v,k1,k2⟩:=NA.tm t c (y1 t c k);exact⟨v,by rw[hr7];exact k1,k2.mono (Le.refl _) K3 (hND.t t c (y1 t c k))⟩
  .have:=NA.G2 k (((NA.bx s b k).dS (fun r=>Z1.block _ (NA.lt k r))).1 rr)
   have e':l<w.heap.size:=this;omega
  .exact NA.Eu oX o
 generalize Rn:iN ρ (.loc N 0) ⟨l,0,0,true⟩=oW at Dc;have CJ:oW (.loc N 0)=⟨l,0,0,true⟩:=by rw[<-Rn,R9]
 obtain⟨oD,gA,tZ,yF⟩:=BO Dc pW sP hB;have r4:∃vf vc:Array Value,act.eval g=.func (.func gf) vf vc/\vf.size=fs.length/\vc.size=cs.length/\(∀(j:Nat) (d:Value) (c:AV),vf[j]?=some d->fs[j]?=some c->bN oW m1 d c)/\(∀(j:Nat) (d:Value) (c:AV),vc[j]?=some d->cs[j]?=some c->bN oW m1 d c):=by
  have h1:=Dc.aW hg;have e0:yP.eval g=act.eval g:=by cases g<;>rfl
  rw[e0]at h1;rcases pZ with pZ|⟨tE,iK,pZ,rfl,rfl⟩
  .rw[pZ]at h1;exact Me h1
  .rw[pZ]at h1;obtain⟨vf,vc,e1,e2,e3,e4,e5⟩:=Fj h1.nJ;refine⟨vf,vc,e1,by simpa using e2,by simpa using e3,fun j d c k1 k2=>?_,fun j d c k1 k2=>?_⟩
   .rw[bR]at k2;obtain⟨x,k3,rfl⟩:=eA.1 k2;exact .pv _ _ (e4 j d x k1 k3)
   .rw[bR]at k2;obtain⟨x,k3,rfl⟩:=eA.1 k2;exact .pv _ _ (e5 j d x k1 k3)
 obtain⟨vf,vc,hv,f1,f2,f3,f4⟩:=r4;obtain⟨b1,b2⟩:=ZhR (ρ:=oW) (m:=m1) (va:=#[Value.func (.yield l) #[] #[]]) (xs:=[AV.nM (.loc N 0)]) f1 rfl f2 f3 (fun j u y hu hy=>by
  cases j with
  |zero=>
   simp at hu hy;subst hu hy
   have:=bN.nM (ρ:=oW) (m:=m1) (.loc N 0)
   rwa [CJ]at this
  |succ j=>simp at hu) f4
 obtain⟨gfn,gcode,g1,g2,g3⟩:=hC.1;have FC : ¬ gfn.name = "runtime.NumGoroutine" := by simpa using g2
 refine⟨l,mark,w1,{ target:=.fn (.func gf) vc,args:=vf++#[Value.func (.yield l) #[] #[]]},w1,gf,vf++#[Value.func (.yield l) #[] #[]]++vc,w1,U4,?_,fun _ _=>trivial,?_,FF.one,Fo ?_⟩
 .simp[resolve,hv,Deferred.ofValue];rfl
 .simp[invoke,callFunc,g1,FC,g3]
 refine(hC.2 w1 m1 oD _ tZ ⟨Dc.mem,Dc.uB,Oh hB⟩ (by rw[KH];exact b1) (fun j u y hu hy=>by
  rw[KG]at hy;obtain⟨a,k1,rfl⟩:=eA.1 hy;exact(b2 j u a hu k1).map gA (W5 eS k1))).mono ?_
 intro e w3 h;obtain⟨v,rr,B',bW,m',rfl,hK,k1,k2,k3⟩:=yF (fun r B'=>match(((cK aF lK).bI (N+1)).lY (eY aF (N+1) B')).b (.loc N 0)with
   |some (.loop _ _ _ _ st)=>kX Q st ((((cK aF lK).bI (N+1)).lY (eY aF (N+1) B')).drop (.loc N 0))
   |_=>False) e w3 h
 clear h yF;replace k3:=k3 (.loc N 0) (by simp[Site.fP]);generalize((cK aF lK).bI (N+1)).lY (eY aF (N+1) B')=τ at hK k1;split at hK
 .rename_i C' Iz Jb Ip st tX;obtain⟨Z6,r3,u1,u2,u3,_⟩:=k1.bx _ _ tX;have lP:bW (.loc N 0)=oW (.loc N 0):=k3;rw[lP,CJ]at u1;have QA:r3.state≠.busy:=by rw[u2];cases st<;>simp
  have dF:=run_endLoop (P:=P) u1 QA;have Cy:Sat N w0 m0 pl (τ.drop (.loc N 0)) bW m' yP (w3.putObj l (.loop { r3 with state:=.exhausted })):=(k1.drop _).write (k:=l) (fun s b k r=>by
   rw[AS.JN]at k;split at k
   .cases k
   .rename_i cZ;refine cZ (k1.dZ _ _ _ _ l k tX r (.inl ⟨Z6,?_⟩));rw[lP,CJ]) (fun o=>by
   have:=k1.off _ _ tX Z6 o
   rwa [lP,CJ]at this) (by
   have:=k1.own _ _ tX Z6
   rwa [lP,CJ]at this) (.inl (by rw[u1];simp)) (Hw _ _ _)
  refine⟨st,_,by rw[<-u3];exact dF,?_⟩;cases st with
  |none=>exact⟨_,_,_,hK,Cy⟩
  |some c=>
   cases c with
   |ret=>exact wpIn_ret ⟨_,_,_,hK,Cy⟩
   |exit id=>exact wpIn_exit ⟨_,_,_,hK,Cy⟩
   |_=>exact hK.elim
 .exact hK.elim
theorem XJ {ro:Option Nat}(MD:Fm ro w0 pl)(hm:P.follows .mixedOrders=true):∀(c:Code) (l:bJ) (Q:rY->AS->Prop) {σ:AS} {ρ:Site->Loc} {m:Mem} {act:Act} {w:World},(m0.strict=true->kH c=true)->dQ P N c=some l->uE P l Q σ->Sat N w0 m0 pl σ ρ m act w->c.wpIn (FF ro) 1 P (nZ N w0 m0 pl Q) act w:=by
 intro c;induction c with
 |skip=>
  intro l Q σ ρ m act w bQ hl h hS;simp[dQ]at hl;subst hl;exact wpIn_skip ⟨σ,ρ,m,h,hS⟩
 |region id ops draw=>
  intro l Q σ ρ m act w bQ hl h hS;simp only[dQ]at hl;split at hl
  .rename_i qI k1;cases hl;exact Zm9 hm k1 h hS (fun _ _ k=>k) (fun _ _ _ _ _ h=>h)
  .split at hl
   .rename_i hd;subst hd;simp only[eA]at hl;obtain⟨T',k1,rfl⟩:=hl;exact Zna hm k1 h hS (fun _ _ k=>k) (fun _ _ _ _ _ h=>h)
   .cases hl
 |seq a b S9 p4=>
  intro l Q σ ρ m act w bQ hl h hS;simp only[dQ]at hl;split at hl
  .rename_i x y h1 h2;cases hl;refine wpIn_seq (wpIn_mono (S9 x _ (fun e=>(Mv (bQ e)).1) h1 h hS) (fun e bH w' hq=>?_));cases e with
   |normal=>
    obtain⟨τ,bW,m',k1,k2⟩:=hq;exact p4 y Q (fun e=>(Mv (bQ e)).2) h2 k1 k2
   |exit id=>exact hq
   |ret=>exact hq
   |goto l=>exact hq.elim
   |panic ch=>exact hq.elim
   |outgrown=>exact hq.elim
  .cases hl
 |cond c a b S9 p4=>
  intro l Q σ ρ m act w bQ hl h hS;simp only[dQ]at hl;split at hl
  .rename_i c' x y h0 h1 h2;cases hl;unfold uE at h;split at h
   .rename_i t ht;have hc:=hS.aW h0;rw[ht]at hc;refine wpIn_cond hc.NR ?_;cases t
    .exact p4 y Q (fun e=>(Nv (bQ e)).2) h2 (by simpa using h) hS
    .exact S9 x Q (fun e=>(Nv (bQ e)).1) h1 (by simpa using h) hS
   .exact h.elim
  .cases hl
 |block id c ih=>
  intro l Q σ ρ m act w bQ hl h hS;simp only[dQ,eA]at hl;obtain⟨x,k1,rfl⟩:=hl;refine wpIn_block (wpIn_mono (ih x _ bQ k1 h hS) (fun e bH w' hq=>?_));cases e with
  |exit LZ=>
   obtain⟨τ,bW,m',q1,q2⟩:=hq;by_cases he:LZ=id
   .subst he;simp only[j6,if_true]at q1;simp only[Exit.inBlock,if_true];exact⟨τ,bW,m',q1,q2⟩
   .simp only[j6,he,if_false]at q1;simp only[Exit.inBlock,he,if_false];exact⟨τ,bW,m',q1,q2⟩
  |normal=>exact hq
  |ret=>exact hq
  |goto l=>exact hq.elim
  |panic ch=>exact hq.elim
  |outgrown=>exact hq.elim
 |loop c ih=>
  intro l Q σ ρ m act w bQ hl h hS;simp only[dQ,eA]at hl;obtain⟨x,k1,rfl⟩:=hl;obtain⟨I,n,τ,kJ,hI,aB⟩:=h;obtain⟨oW,m1,wJ⟩:=kJ _ _ _ _ _ _ _ _ hS;refine wpIn_loop_ghost (fun n act w=>∃τ ρ m,I n τ/\Sat N w0 m0 pl τ ρ m act w) n ⟨τ,oW,m1,hI,wJ⟩ ?_;intro n act w ⟨τ,ρ,m,hI,hS⟩;refine wpIn_mono (ih x _ bQ k1 (aB n τ hI) hS) (fun e bH w' hq=>?_);cases e with
  |normal=>
   obtain⟨zA,bW,m',⟨k,S0,q1,q2,q3⟩,q4⟩:=hq;obtain⟨OL,m2,q5⟩:=q2 _ _ _ _ _ _ _ _ q4;exact⟨k,q1,S0,OL,m2,q3,q5⟩
  |exit id=>exact hq
  |ret=>exact hq
  |goto l=>exact hq.elim
  |panic ch=>exact hq.elim
  |outgrown=>exact hq.elim
 |scope c ih=>
  intro l Q σ ρ m act w bQ hl h hS;refine ZbW (wpIn_mono (ih l Q bQ hl h hS) (fun e bH w' hq=>?_));cases e<;>first|exact hq|exact hq.elim
 |label l0=>
  intro l Q σ ρ m act w bQ hl h hS;simp[dQ]at hl;subst hl;exact wpIn_label ⟨σ,ρ,m,h,hS⟩
 |exit id=>
  intro l Q σ ρ m act w bQ hl h hS;simp[dQ]at hl;subst hl;exact wpIn_exit ⟨σ,ρ,m,h,hS⟩
 |ret=>
  intro l Q σ ρ m act w bQ hl h hS;simp[dQ]at hl;subst hl;exact wpIn_ret ⟨σ,ρ,m,h,hS⟩
 |rangeFunc g ps a b=>
  intro l Q σ ρ m act w bQ hl h hS;simp only[dQ]at hl;split at hl
  .rename_i g' la lb k1 k2 k3;cases hl;exact Zh9 MD k1 h hS (ZnK bQ)
  .cases hl
 |_=>intro l Q σ ρ m act w bQ hl h hS;simp[dQ]at hl
end
inductive oA where
 |tm (t:Nat)
 |cell (t:Nat) (row:Bool) (n:Nat)
 deriving Inhabited
def kV (P:Program):List ResultVar->Option (List oA)
 |[]=>some []
 |.tmp t::r=>(kV P r).map (oA.tm t::·)
 |.cell a t::r=>match eI P t,P.underlying t,kV P r with
  |some n,some _,some l=>some (.cell a (sI P t) n::l)
  |_,_,_=>none
structure aZ where
 nt:Nat
 code:bJ
 res:List oA
 deriving Inhabited
def fV (P:Program)(f:FuncId):Option aZ:=match P.funcs[f]? with
 | some fn => if fn.name == "runtime.NumGoroutine" then none else match fn.body with
  |some c=>match dQ P fn.ntmps c,kV P fn.results.toList with
   |some l,some r=>some ⟨fn.ntmps,l,r⟩
   |_,_=>none
  |none=>none
 |none=>none
def AS.Kt (σ:AS):oA->Option AV
 |.tm t=>σ.t t
 |.cell t row n=>match σ.t t with
  |some (.ptr s off)=>match σ.b s with
   |some (.cells bU)=>if row=true then(if off+n<=bU.length then some (w8 ((bU.drop off).take n))else none)else bU[off]?
   |_=>none
  |_=>none
def AS.FJ (σ:AS):List oA->Option (List AV)
 |[]=>some []
 |x::r=>match σ.Kt x,σ.FJ r with
  |some a,some l=>some (a::l)
  |_,_=>none
def rK:List AV->AV
 |[a]=>a
 |l=>match eB l with
  |some xs=>.pv (.bM xs)
  |none=>.bM l
def jV (outs:List Site)(s:Site):Site:=match s with
 |.par i=>.par i
 |s=>match outs.findIdx? (fun x=>decide (x=s))with
  |some j=>.ret j
  |none=>s
def dO (s:Site):Bool:=!s.uI
def AS.exp (σ:AS)(outs:List Site):List Site->List (Site×aL)
 |[]=>[]
 |s::r=>match σ.b s with
  |some b=>(jV outs s,b.iW (jV outs))::σ.exp outs r
  |none=>σ.exp outs r
def bB:List Site->AS->AS
 |[],σ=>σ
 |s::r,σ=>bB r (σ.cH s)
def rI (rs:List oA)(R:AV->List (Site×aL)->Prop)(σ:AS):Prop:=
 ∃(fz outs:List Site) (l:List AV),(bB fz σ).FJ rs=some l/\(rK l).dC dO=true/\outs.all dO=true/\(∀s∈outs,∀b,(bB fz σ).b s=some b->b.dC dO=true)/\R ((rK l).map (jV outs)) ((bB fz σ).exp outs outs)
def lA (F:AS->Prop):rY->AS->Prop
 |.exit _,_=>False
 |_,σ=>F σ
def A8 (rs:List oA)(R:AV->List (Site×aL)->Prop)(σ:AS):Prop:=match σ.FJ rs with
 |some l=>match rK l with
  |.pv x=>R (.pv x) []
  |_=>False
 |none=>False
theorem ZsQ {rs:List oA}{R:AV->List (Site×aL)->Prop}{σ:AS}(h:A8 rs R σ):rI rs R σ:=by
 unfold A8 at h;split at h
 .rename_i l hl;split at h
  .rename_i x hx;exact⟨[],[],l,hl,by rw[hx];rfl,rfl,(fun s hs=>by cases hs),by rw[hx];exact h⟩
  .exact h.elim
 .exact h.elim
def eW:Nat->List AV->List (Nat×AV)
 |_,[]=>[]
 |k,a::r=>(k,a)::eW (k+1) r
def vG (tmps:Array Value):ResultVar->Sem Value:=fun
 |.tmp t=>pure (tmps.getD t undef)
 |.cell a t=>do loadVar t (<-asAddr (tmps.getD a undef))
section
variable {P:Program}{N:Nat}{w0:World}{m0:Env w0}{pl:List Nat}{σ:AS}{ρ:Site->Loc}{m:Mem}{act:Act}{w:World}
theorem Sat.bB:∀(fz:List Site) {σ:AS} {m:Mem},Sat N w0 m0 pl σ ρ m act w->∃m',Sat N w0 m0 pl (bB fz σ) ρ m' act w
 |[],σ,m,h=>⟨m,h⟩
 |s::r,σ,m,h=>by
  obtain⟨m1,_,h1⟩:=h.cH s;exact Sat.bB r h1
theorem Hl:∀(l:List AV) (k j:Nat) (a:AV),(eW k l).lookup j=some a->k<=j/\l[j-k]?=some a
 |[],k,j,a,h=>by simp[eW]at h
 |b::r,k,j,a,h=>by
  unfold eW at h;rcases Nat.decEq j k with cZ|rfl
  .rw[jG cZ]at h;obtain⟨h1,h2⟩:=Hl r (k+1) j a h;refine⟨by omega,?_⟩;rw[show j-k=(j-(k+1))+1 by omega,List.getElem?_cons_succ];exact h2
  .rw[mX]at h;cases h;exact⟨fE _,by simp⟩
theorem ZlP {l:List (Site×aL)}{s:Site}{b:aL}(h:l.lookup s=some b):(s,b)∈l:=by
 induction l with
 |nil=>simp[List.lookup]at h
 |cons p r ih=>
  obtain⟨a,c⟩:=p;by_cases e:s=a
  .subst e;rw[mX]at h;cases h;simp
  .rw[jG e]at h;simp[ih h]
theorem XD {ρ:Site->Loc}{w:World}{B:List (Site×aL)}{s:Site}{b:aL}{k:Nat}(h:B.lookup s=some b)(hr:fL ρ w s b k):k∈cI ρ w B:=by
 exact SW.2 ⟨(s,b),ZlP h,hr⟩
theorem Zpx {rv:ResultVar}{x:oA}(hx:kV P [rv]=some [x]){a:AV}(ha:σ.Kt x=some a)(hS:Sat N w0 m0 pl σ ρ m act w):
  ∃v,(vG act.tmps rv).run P w=.ok v w/\bN ρ m v a:=by
 cases rv with
 |tmp t=>
  simp[kV]at hx;subst hx;obtain⟨v,k1,k2⟩:=hS.tm t a ha;refine⟨act.tmps.getD t undef,rfl,?_⟩;rw[Array.getD_eq_getD_getElem?,k1];exact k2
 |cell t0 ty=>
  simp only[kV]at hx;split at hx
  .rename_i n dd l h1 h2 h3;cases h3;cases hx;simp only[AS.Kt]at ha;split at ha
   .rename_i s off ht;obtain⟨v,k1,k2⟩:=hS.tm t0 _ ht;have hv:=k2.DX;subst hv;have kK:act.tmps.getD t0 undef=.pointer (some ⟨(ρ s).b,off,none⟩):=by rw[Array.getD_eq_getD_getElem?,k1];rfl
    split at ha
    .rename_i bU hb;have hB:=hS.bx s _ hb;split at ha
     .rename_i hr;split at ha
      .rename_i hl;cases ha;obtain⟨ds,q1,q2,q3,q4⟩:=Hf hB hl;refine⟨.agg ds.toArray,?_,Ha (by simp[q1,gI,uG];omega) (fun u hu=>q3 u (by simpa using hu)) (fun j u c e1 e2=>q4 j u c (by simpa using e1) e2)⟩
       have:=Zne (P:=P) h2 hr q2 (by rw[h1,q1])
       simp only[Instr.loadAt,Instr.sureAddr,Sem.run_bind,Sem.run_pure,Result.andThen_ok]at this;simp only[vG,kK,asAddr,Sem.run_bind,Sem.run_pure,Result.andThen_ok];exact this
      .cases ha
     .rename_i hr;have aI:=(bZ.1 ha).1;obtain⟨ds,q1,q2,q3,q4⟩:=Hf hB (off:=off) (n:=1) (by omega)
      match ds,q1 with
      |[v],_=>
       refine⟨v,?_,q4 0 v a rfl (by rw[mG,if_pos (by omega),mW];exact ha)⟩
       have:=Znf (P:=P) h2 (by simpa using hr) q2.1
       simp only[Instr.loadAt,Instr.sureAddr,Sem.run_bind,Sem.run_pure,Result.andThen_ok]at this;simp only[vG,kK,asAddr,Sem.run_bind,Sem.run_pure,Result.andThen_ok];exact this
    .cases ha
   .cases ha
  .cases hx
theorem Mz:∀(YI:List ResultVar) (rs:List oA) (l:List AV),kV P YI=some rs->σ.FJ rs=some l->Sat N w0 m0 pl σ ρ m act w->
  ∃vs:List Value,(YI.mapM (vG act.tmps)).run P w=.ok vs w/\vs.length=l.length/\∀(j:Nat) (v:Value) (a:AV),vs[j]?=some v->l[j]?=some a->bN ρ m v a
 |[],rs,l,h,hl,hS=>by
  simp[kV]at h;subst h;simp[AS.FJ]at hl;subst hl;exact⟨[],rfl,rfl,fun j v a e=>by simp at e⟩
 |rv::YI,rs,l,h,hl,hS=>by
  obtain⟨x,xU,hx,h',rfl⟩:∃x xU,kV P [rv]=some [x]/\kV P YI=some xU/\rs=x::xU:=by
   cases rv with
   |tmp t=>
    simp only[kV,eA]at h;obtain⟨xU,k1,rfl⟩:=h;exact⟨.tm t,xU,by simp[kV],k1,rfl⟩
   |cell a t=>
    simp only[kV]at h;split at h
    .rename_i n dd l' h1 h2 h3;cases h;exact⟨.cell a (sI P t) n,l',by simp[kV,h1,h2],h3,rfl⟩
    .cases h
  unfold AS.FJ at hl;split at hl
  .rename_i a l' h1 h2;cases hl;obtain⟨v,k1,k2⟩:=Zpx hx h1 hS;obtain⟨vs,k3,k4,k5⟩:=Mz YI xU l' h' h2 hS;refine⟨v::vs,?_,by simp[k4],fun j u c e1 e2=>?_⟩
   .simp only[List.mapM_cons,Sem.run_bind,k1,Result.andThen_ok,k3];rfl
   .cases j with
    |zero=>simp at e1 e2;subst e1 e2;exact k2
    |succ j=>exact k5 j u c (by simpa using e1) (by simpa using e2)
  .cases hl
theorem ZkF {vs:List Value}{l:List AV}(h1:vs.length=l.length)(h2:∀(j:Nat) (v:Value) (a:AV),vs[j]?=some v->l[j]?=some a->bN ρ m v a):
  bN ρ m (if h:vs.toArray.size=1 then vs.toArray[0]else .tuple vs.toArray) (rK l):=by
 match l,vs,h1 with
 |[a],[v],_=>exact h2 0 v a rfl rfl
 |[],vs,h1=>
  have:vs=[]:=List.eq_nil_of_length_eq_zero h1
  subst this;exact .pv _ _ (.bM _ _ rfl (fun j v c e1 e2=>by simp at e2))
 |a::b::r,vs,h1=>
  have hs:¬vs.toArray.size=1:=by
   intro e;simp at e;rw[e]at h1;simp at h1
  rw[dif_neg hs];show bN ρ m _ (match eB (a::b::r)with
   |some xs=>.pv (.bM xs)
   |none=>.bM (a::b::r))
  cases hx:eB (a::b::r)with
  |some xs=>
   have e:=SY hx;rw[e]at h1 h2;refine .pv _ _ (.bM _ _ (by simpa using h1) (fun j v c e1 e2=>?_));exact(h2 j v (.pv c) (by simpa using e1) (by rw[bR,e2];rfl)).nJ
  |none=>exact .bM _ _ (by simpa using h1) (fun j v c e1 e2=>h2 j v c (by simpa using e1) e2)
theorem ZjB {outs:List Site}{s:Site}{j:Nat}(h:outs.findIdx? (fun x=>decide (x=s))=some j):outs[j]?=some s:=by
 obtain⟨hj,h1,_⟩:=JL.1 h;rw[aX hj];simpa using h1
theorem Mc (hS:Sat N w0 m0 pl σ ρ m act w){outs:List Site}(ho:outs.all dO=true)(hb:∀s∈outs,∀b,σ.b s=some b->b.dC dO=true):
  ∃bW:Site->Loc,(∀s,dO s=true->bW (jV outs s)=ρ s)/\vA bW m w (σ.exp outs outs)/\(∀i,bW (.par i)=ρ (.par i))/\
   (∀s b k,(σ.exp outs outs).lookup s=some b->fL bW w s b k->∃s0 b0,σ.b s0=some b0/\fL ρ w s0 b0 k):=by
 let bW:Site->Loc:=fun s=>match s with
  |.ret j=>ρ (outs.getD j default)
  |s=>ρ s
 have hg:∀s,dO s=true->bW (jV outs s)=ρ s:=fun s hs=>by
  cases s with
  |par i=>rfl
  |ret j=>simp[dO,Site.uI]at hs
  |loc d j=>
   unfold jV;simp only;split
   .rename_i k hk
    have:=ZjB hk
    simp[bW,List.getD,this]
   .rfl
 have look:∀(l:List Site),(∀s∈l,s∈outs)->∀s b,(σ.exp outs l).lookup s=some b->∃s0 b0,s0∈outs/\σ.b s0=some b0/\s=jV outs s0/\b=b0.iW (jV outs):=by
  intro l;induction l with
  |nil=>intro _ s b h;simp[AS.exp]at h
  |cons x r ih=>
   intro hl s b h;unfold AS.exp at h;split at h
   .rename_i b0 Uz;by_cases e:s=jV outs x
    .subst e;rw[mX]at h;cases h;exact⟨x,b0,hl x (by simp),Uz,rfl,rfl⟩
    .rw[jG e]at h;exact ih (fun s hs=>hl s (by simp[hs])) s b h
   .exact ih (fun s hs=>hl s (by simp[hs])) s b h
 have mP:∀s∈outs,dO s=true:=fun s hs=>qZ.1 ho s hs
 refine⟨bW,hg,⟨fun s b h=>?_,fun s s' b b' k h h' r r'=>?_,fun s b k h r=>?_⟩,fun i=>rfl,fun s b k h r=>?_⟩
 .obtain⟨s0,b0,k1,k2,rfl,rfl⟩:=look outs (fun _ h=>h) s b h;exact(hS.bx s0 b0 k2).iW hg (mP s0 k1) (hb s0 k1 b0 k2)
 .obtain⟨s0,b0,k1,k2,rfl,rfl⟩:=look outs (fun _ h=>h) s b h;obtain⟨s1,b1,q1,q2,rfl,rfl⟩:=look outs (fun _ h=>h) s' b' h';rw[hS.dZ s0 s1 b0 b1 k k2 q2 ((uL (hg s0 (mP s0 k1))).1 r) ((uL (hg s1 (mP s1 q1))).1 r')]
 .obtain⟨s0,b0,k1,k2,rfl,rfl⟩:=look outs (fun _ h=>h) s b h;exact hS.eM s0 b0 k k2 ((uL (hg s0 (mP s0 k1))).1 r)
 .obtain⟨s0,b0,k1,k2,rfl,rfl⟩:=look outs (fun _ h=>h) s b h;exact⟨s0,b0,k2,(uL (hg s0 (mP s0 k1))).1 r⟩
theorem Zeu {fn:Func}{R:Ending->World->Prop}:∀(ds:List Nat) {w:World},ds.Nodup->(∀D∈ds,(w0.heap.size<=D\/D∈pl)/\w.heap[D]?=some (.deferred (some [])))->act.defers=[]->Sat N w0 m0 pl σ ρ m act w->
  ∃w2,Sat N w0 m0 pl σ ρ m act w2/\(LeavesIn (FF none) 1 P fn act.tmps R [] .returning w2->LeavesInM (FF none) 1 P fn act.tmps R (ds.map WL) .returning w)
 |[],w,_,_,_,hS=>⟨w,hS,fun h=>h⟩
 |D::r,w,hn,hd,ha,hS=>by
  obtain⟨d1,d2⟩:=hd D (by simp);have yG:=List.nodup_cons.1 hn;have wJ:Sat N w0 m0 pl σ ρ m act (w.putObj D (.deferred none)):=hS.write (k:=D) (fun s b hs hr=>(hS.bx s b hs).Xg hr d2) (fun o=>by
   cases hv:m D o with
   |none=>rfl
   |some v=>
    have:=hS.mem D o v hv
    simp[World.mem,World.cell?,d2]at this) d1 (.inr ha) (Hw _ _ _)
  obtain⟨w2,k1,k2⟩:=Zeu r yG.2 (fun D' DE=>by
   refine⟨(hd D' (by simp[DE])).1,?_⟩;have cZ:D'≠D:=fun e=>yG.1 (by rw[<-e];exact DE)
   rw[World.putObj_heap_other cZ];exact(hd D' (by simp[DE])).2) ha wJ
  exact⟨w2,k1,fun h=>⟨by simp,.inl ⟨D,_,rfl,run_takeDeferred d2,k2 h⟩⟩⟩
theorem Hy {f:FuncId}{F:aZ}{bU:List AV}{B:List (Site×aL)}{R:AV->List (Site×aL)->Prop}(hm:P.follows .mixedOrders=true)(hf:fV P f=some F)(hn:bU.length<=F.nt)
  {Fin:AS->Prop} (CS:∀σ,Fin σ->rI F.res R σ) (h:uE P F.code (lA Fin) ⟨eW 0 bU,B⟩):cN P f bU B R:=by
 unfold fV at hf;split at hf
 .rename_i fn pZ;split at hf
  .cases hf
  .rename_i M9;split at hf
   .rename_i c hc;split at hf
    .rename_i l rs hl tT;cases hf;refine⟨⟨fn,c,pZ,by simpa using M9,hc⟩,fun w m ρ vs hB mQ P9 lF=>?_⟩;refine(callsIn_wide (n:=1)).1 (callsIn_of_wp_marks (F:=FF none) pZ hc trivial ?_ rfl);have hS:Sat fn.ntmps w ⟨m,ρ,[],mQ.2.1,false⟩ (cI ρ w B) ⟨eW 0 bU,B⟩ ρ m { tmps:=vs++Array.replicate (fn.ntmps-vs.size) undef,defers:=[]} w:=by
      have yG:bU.length<=fn.ntmps:=hn;refine⟨⟨[],B7,yA,fun D hD=>by cases hD⟩,by simp;omega,fun t a k=>?_,hB.bx,hB.dZ,mQ.1,hB.eM,fun s b i k r=>.inr (XD k r),cV.tH _ _,⟨Le.refl _,hB.free mQ.2.2⟩,fun b o v k=>.inl k,fun i=>rfl⟩;obtain⟨_,k1⟩:=Hl bU 0 t a k;rw[Nat.sub_zero]at k1;have aI:t<vs.size:=by rw[P9];exact(bZ.1 k1).1
      exact⟨vs[t],by rw[Array.getElem?_append,if_pos aI,uT aI],lF t _ a (uT aI) k1⟩
     refine wpIn_mono (XJ (ro:=none) (fun l e=>by cases e) hm c l _ (fun e=>by cases e) hl h hS) (fun e bH w' hq=>?_);have fin:F9 fn.ntmps w ⟨m,ρ,[],mQ.2.1,false⟩ (cI ρ w B) Fin bH w'->LeavesInM (FF none) 1 P fn bH.tmps (lD w m ρ B R) bH.defers .returning w':=by
      rintro⟨τ,oW,m1,RG,hT⟩;obtain⟨ds,tV,wG,U5⟩:=hT.sA;have tV:=tV.nil;have Cw:Sat fn.ntmps w ⟨m,ρ,[],mQ.2.1,false⟩ (cI ρ w B) τ oW m1 { bH with defers:=[]} w':=⟨⟨[],B7,yA,fun D hD=>by cases hD⟩,hT.sz,hT.tm,hT.bx,hT.dZ,hT.mem,hT.eM,hT.fM,hT.keep,hT.base,hT.qB,hT.par⟩;obtain⟨w2,U7,hL⟩:=Zeu (P:=P) (fn:=fn) (R:=lD w m ρ B R) ds wG.1 U5 rfl Cw;rw[tV];refine hL ?_;obtain⟨fz,outs,la,q1,q2,q3,q4,q5⟩:=CS τ RG;obtain⟨m2,hF⟩:=U7.bB fz;obtain⟨YC,r1,r2,r3⟩:=Mz fn.results.toList rs la tT q1 hF;obtain⟨bW,g1,g2,g3,g4⟩:=Mc hF q3 q4;have CF:=ZkF r2 r3;refine⟨_,?_,_,_,_,bW,m2,rfl,q5,g2,hF.base.1,hF.mem,fun i=>(g3 i).trans (hF.par i),fun s b i k r=>?_,hF.qB,CF.map g1 q2,hF.keep⟩
      .show(do let vs <-fn.results.mapM (vG bH.tmps);pure (if h:vs.size=1 then vs[0]else .tuple vs):Sem Value).run P w2=_;rw[Sem.run_bind,Array.mapM_eq_mapM_toList,Sem.run_map,r1];rfl
      .obtain⟨s0,b0,e1,e2⟩:=g4 s b i k r;exact hF.fM s0 b0 i e1 e2
     cases e with
     |normal=>exact fin hq
     |ret=>exact fin hq
     |exit id=>obtain⟨τ,oW,m1,q,_⟩:=hq;exact q.elim
     |goto l=>exact hq.elim
     |panic ch=>exact hq.elim
     |outgrown=>exact hq.elim
    .cases hf
   .cases hf
 .cases hf
theorem ZiN {f:FuncId}{F:aZ}{bU:List AV}{B:List (Site×aL)}{R:AV->List (Site×aL)->Prop}(hm:P.follows .mixedOrders=true)(hf:fV P f=some F)(hn:bU.length<=F.nt)
  (h:uE P F.code (lA (A8 F.res R)) ⟨eW 0 bU,B⟩):cN P f bU B R:=Hy hm hf hn (fun _ h=>ZsQ h) h
section
variable {Q:rY->AS->Prop}{K:AV->AS->Prop}
def again (J:Nat->AS->Prop)(n:Nat)(zA:AS):Prop:=∃k S0,k<n/\Sub S0 zA/\J k S0
def j9:List (Nat×AV)->AS->Prop
 |[],_=>True
 |(t,a)::r,σ=>σ.t t=some a/\j9 r σ
def S4:List (Site×aL)->AS->Prop
 |[],_=>True
 |(s,b)::r,σ=>σ.b s=some b/\S4 r σ
theorem Zfc:∀{l:List (Nat×AV)},j9 l σ->∀t a,l.lookup t=some a->σ.t t=some a
 |[],_,t,a,h=>by simp[List.lookup]at h
 |(t',a')::r,hs,t,a,h=>by
  by_cases e:t=t'
  .subst e;rw[mX]at h;cases h;exact hs.1
  .rw[jG e]at h;exact Zfc hs.2 t a h
theorem ZhZ:∀{l:List (Site×aL)},S4 l σ->∀s b,l.lookup s=some b->σ.b s=some b
 |[],_,s,b,h=>by simp[List.lookup]at h
 |(s',b')::r,hs,s,b,h=>by
  by_cases e:s=s'
  .subst e;rw[mX]at h;cases h;exact hs.1
  .rw[jG e]at h;exact ZhZ hs.2 s b h
theorem EI.mk {tm:List (Nat×AV)}{bx:List (Site×aL)}(h1:j9 tm σ)(h2:S4 bx σ):EI ⟨tm,bx⟩ σ:=⟨fun t a h=>Zfc h1 t a h,fun s b h=>ZhZ h2 s b h⟩
theorem Sub.mk {tm:List (Nat×AV)}{bx:List (Site×aL)}(h1:j9 tm σ)(h2:S4 bx σ):Sub ⟨tm,bx⟩ σ:=(EI.mk h1 h2).sub
theorem ZiP {f:bD}{args:List bD}{d k:Nat}{g:FuncId}{fs xs cs:List PV}{y:PV}(h1:(σ.o f).snap σ k=some (.fn g fs cs))(h2:jI (AV.snap σ k) (args.map σ.o)=some xs)
  (hc:cN P g ((fs++xs++cs).map .pv) [] (fun r _=>r=.pv y)) (hy:y.flat=true) (hK:K (.pv y) σ):yV P f args d K σ:=
 .inl ⟨k,g,fs,xs,cs,h1,h2,hc.mono (fun _ _ h=>⟨y,h,hy,hK⟩)⟩
theorem Zaj (fz:List Site){f:bD}{args:List bD}{d:Nat}{g:FuncId}{fs xs cs:List PV}{y:PV}(h1:(aM fz σ).o f=.pv (.fn g fs cs))(h2:(aM fz σ).tN args=some xs)
  (hc:cN P g ((fs++xs++cs).map .pv) [] (fun r B=>r=.pv y/\B=[])) (hK:K (.pv y) ((aM fz σ).bI d)):yV P f args d K σ:=
 .inr ⟨fz,g,fs,xs,cs,h1,h2,hc.mono (fun _ _ ⟨h,h'⟩=>by subst h h';exact⟨⟨rfl,fun p hp=>by cases hp⟩,hK⟩)⟩
theorem ZqO (fz:List Site){f:bD}{args:List bD}{d:Nat}{g:FuncId}{fs xs cs:List PV}{e n len:Nat}{ys:List PV}(h1:(aM fz σ).o f=.pv (.fn g fs cs))(h2:(aM fz σ).tN args=some xs)
  (hc:cN P g ((fs++xs++cs).map .pv) [] (fun r B=>r=.vec (.ret 0) n 0 len/\B=[(.ret 0,.arr e n ys)])) (hK:K (.vec (.loc d 0) n 0 len) (((aM fz σ).bI d).add (.loc d 0) (.arr e n ys))):yV P f args d K σ:=
 .inr ⟨fz,g,fs,xs,cs,h1,h2,hc.mono (fun _ _ ⟨h,h'⟩=>by subst h h';exact⟨⟨rfl,fun p hp=>by simp at hp;subst hp;exact⟨rfl,rfl⟩⟩,hK⟩)⟩
end
end
def Site.s7:Site->Bool
 |.par _=>true
 |_=>false
def qH:List Nat->List AV->List (Nat×AV)->List (Nat×AV)
 |p::ps,a::bU,tm=>qH ps bU ((p,a)::tm)
 |_,_,tm=>tm
def GS (C:Code×Code)(ps:List Nat)(nt:Nat)(tm:List (Nat×AV))(i:Nat)(R:AV->List (Site×aL)->Prop)(st:Option Code)(σ:AS):Prop:=
 ∃(fz outs:List Site),outs.all dO=true/\outs.all (fun s=>!decide (s=.par i))=true/\(∀s∈outs,∀b,(bB fz σ).b s=some b->b.dC dO=true)/\
  R (.pv (.bool st.isNone)) ((.par i,.loop C ps nt tm st)::(bB fz σ).exp outs outs)
def Yo (C:Code×Code)(ps:List Nat)(nt:Nat)(tm:List (Nat×AV))(i:Nat)(R:AV->List (Site×aL)->Prop):rY->AS->Prop
 |.normal,σ=>GS C ps nt tm i R none σ
 |.ret,σ=>GS C ps nt tm i R (some .ret) σ
 |.exit id,σ=>GS C ps nt tm i R (some (.exit id)) σ
mutual
theorem Fp:∀a:AV,a.map id=a
 |.any=>rfl
 |.pv _=>rfl
 |.ptr _ _=>rfl
 |.lB _ _ _ _=>rfl
 |.vec _ _ _ _=>rfl
 |.mp _=>rfl
 |.nM _=>rfl
 |.fn f fs cs=>by simp only[AV.map,SP fs,SP cs]
 |.agg cs=>by simp only[AV.map,SP cs]
 |.bM vs=>by simp only[AV.map,SP vs]
theorem SP:∀l:List AV,AV.iR id l=l
 |[]=>rfl
 |a::r=>by simp only[AV.iR,Fp a,SP r]
end
section
variable {P:Program}{N:Nat}{w0:World}{m0:Env w0}{pl:List Nat}{σ:AS}{ρ:Site->Loc}{m:Mem}{act:Act}{w:World}
theorem Sat.ZxM (h:Sat N w0 m0 pl σ ρ m act w){Qd:List Nat}(hp:∀k∈pl,k∈Qd)(hz:∀k∈Qd,∀o,m0.m k o=none):Sat N w0 m0 Qd σ ρ m act w:=
 ⟨let ⟨ds,h1,h2,h3⟩:=h.sA;⟨ds,h1,h2,fun D hD=>⟨(h3 D hD).1.imp id (hp D),(h3 D hD).2⟩⟩,h.sz,h.tm,h.bx,h.dZ,h.mem,h.eM,fun s b i k r=>(h.fM s b i k r).imp id (hp _),
  ⟨h.keep.os,h.keep.tape,h.keep.output,h.keep.size,fun k h1 h2=>h.keep.block k h1 (fun q=>h2 (hp k q))⟩,⟨h.base.1,hz⟩,fun b o v k=>(h.qB b o v k).imp id (fun q=>q.imp id (hp b)),h.par⟩
theorem ON {ro:Option Nat}{n n':Nat}{c:Code}{Q:Exit->Act->World->Prop}{a:Act}(h:c.wpIn (FF ro) n P Q a w):c.wpIn (FF ro) n' P Q a w:=fun b k cs h1 h2 _=>h b k cs h1 h2 (room_wide _)
theorem Znm {ρ:Site->Loc}{m:Mem}{nt:Nat}:∀(ps:List Nat) (bU:List AV) (vs:List Value) (tm:List (Nat×AV)) (t0:Array Value),ps.length=bU.length->vs.length=bU.length->(∀p∈ps,p<nt)->t0.size=nt->
  (∀(j:Nat) (d:Value) (c:AV),vs[j]?=some d->bU[j]?=some c->bN ρ m d c)->(∀t a,tm.lookup t=some a->∃v,t0[t]?=some v/\bN ρ m v a)->
  ((ps.zip vs).foldl (fun(tmps:Array Value) (x:Nat×Value)=>tmps.setIfInBounds x.1 x.2) t0).size=nt/\
   ∀t a,(qH ps bU tm).lookup t=some a->∃v,((ps.zip vs).foldl (fun(tmps:Array Value) (x:Nat×Value)=>tmps.setIfInBounds x.1 x.2) t0)[t]?=some v/\bN ρ m v a
 |[],bU,vs,tm,t0,h1,h2,h3,h4,h5,h6=>by
  cases bU with
  |nil=>exact⟨by simpa using h4,fun t a k=>by simpa using h6 t a k⟩
  |cons a bU=>simp at h1
 |p::ps,[],vs,tm,t0,h1,h2,h3,h4,h5,h6=>by simp at h1
 |p::ps,a::bU,[],tm,t0,h1,h2,h3,h4,h5,h6=>by simp at h2
 |p::ps,a::bU,v::vs,tm,t0,h1,h2,h3,h4,h5,h6=>by
  simp only[List.zip_cons_cons,List.foldl_cons,qH];refine Znm ps bU vs ((p,a)::tm) (t0.setIfInBounds p v) (by simpa using h1) (by simpa using h2) (fun q hq=>h3 q (by simp[hq])) (by simpa using h4) (fun j d c k1 k2=>h5 (j+1) d c (by simpa using k1) (by simpa using k2)) (fun t b k=>?_);rcases Nat.decEq t p with cZ|rfl
  .rw[jG cZ]at k;obtain⟨u,k1,k2⟩:=h6 t b k;exact⟨u,by rw[Array.getElem?_setIfInBounds_ne (fun e=>cZ e.symm)];exact k1,k2⟩
  .rw[mX]at k;cases k;exact⟨v,by rw[Array.getElem?_setIfInBounds_self_of_lt (by rw[h4];exact h3 _ (by simp))],h5 0 v a rfl rfl⟩
theorem ZgY (hm:P.follows .mixedOrders=true){C:Code×Code}{ps:List Nat}{nt i:Nat}{tm:List (Nat×AV)}{la lb:bJ}(Tr:dQ P nt C.1=some la)(Tq:dQ P nt C.2=some lb){bU:List AV}{B:List (Site×aL)}
  {R:AV->List (Site×aL)->Prop} (hB:B.lookup (.par i)=some (.loop C ps nt tm none)) (yE:ps.length=bU.length) (Q0:∀p∈ps,p<nt) (y1:AV.hZ Site.s7 (tm.map (·.2))=true)
  (h:uE P la (iU (uE P lb (Yo C ps nt tm i R)) (fun _ _=>False)) ⟨qH ps bU tm,B.filter fun p=>!decide (p.1=.par i)⟩):FU P i bU B R:=by
 intro w m ρ vs tZ ⟨mQ,Tm,HU⟩ P9 lF;obtain⟨CE,r,u1,u2,u3,u4,u5,u6,u7,u8⟩:=tZ.bx _ _ hB;refine⟨r,u1,by rw[u4,P9];simpa using yE.symm,?_⟩;obtain⟨l,hl⟩:∃l,l=(ρ (.par i)).b:=⟨_,rfl⟩;rw[<-hl]at u1 ⊢;have Jq:l<w.heap.size:=(qD.1 u1).1;obtain⟨B1,De⟩:∃B1,B1=B.filter fun p=>!decide (p.1=.par i):=⟨_,rfl⟩
 rw[<-De]at h;have oL:∀s b,B1.lookup s=some b->B.lookup s=some b/\s≠.par i:=fun s b k=>by
  rw[De,show List.lookup s (B.filter fun p=>!decide (p.1=.par i))=_ from TH (fun x=>!decide (x=.par i)) s B]at k;split at k
  .rename_i cZ;exact⟨k,by simpa using cZ⟩
  .cases k
 have mJ:∀k,k∈cI ρ w B1->k∈cI ρ w B:=fun k hk=>by
  obtain⟨p,hp,e⟩:=SW.1 hk;exact SW.2 ⟨p,by rw[De]at hp;exact(iY.1 hp).1,e⟩
 obtain⟨BH,PT⟩:∃BH,BH=(cI ρ w B1).filter (fun k=>!decide (k=l)):=⟨_,rfl⟩;have oX:l∉BH:=by rw[PT];simp
 have Jr:l∈cI ρ w B:=by rw[hl];exact XD hB (xN CE)
 have zK:∀k∈BH,k∈cI ρ w B:=fun k hk=>mJ k (by rw[PT]at hk;exact(iY.1 hk).1)
 have fG:=Znm (ρ:=ρ) (m:=m) (nt:=nt) ps bU vs.toList tm r.tmps yE (by simpa using P9) Q0 u7 (fun j d c k1 k2=>lF j d c (by simpa using k1) k2) u8;have tD:(r.params.zip vs).foldl (fun tmps (x:Nat×Value)=>tmps.setIfInBounds x.1 x.2) r.tmps=(ps.zip vs.toList).foldl (fun(tmps:Array Value) (x:Nat×Value)=>tmps.setIfInBounds x.1 x.2) r.tmps:=by
  rw[u4,<-Array.foldl_toList];simp
 have hS:Sat nt w ⟨m,ρ,[],Tm,false⟩ BH ⟨qH ps bU tm,B1⟩ ρ m { tmps:=(r.params.zip vs).foldl (fun tmps (x:Nat×Value)=>tmps.setIfInBounds x.1 x.2) r.tmps,defers:=[]} w:=by
  rw[tD];refine⟨⟨[],B7,yA,fun D hD=>by cases hD⟩,fG.1,fG.2,fun s b k=>tZ.bx s b (oL s b k).1,fun s s' b b' i k k'=>tZ.dZ s s' b b' i (oL s b k).1 (oL s' b' k').1,mQ,fun s b i k=>tZ.eM s b i (oL s b k).1,fun s b j k r'=>.inr ?_,cV.tH _ _,⟨Le.refl _,fun k hk=>tZ.free HU k (zK k hk)⟩,fun b o v k=>.inl k,fun i=>rfl⟩;rw[PT];refine iY.2 ⟨XD k r',?_⟩
  have:j≠l:=fun e=>(oL s b k).2 (tZ.dZ s _ b _ j (oL s b k).1 hB r' (by rw[e,hl];exact xN CE))
  simpa using this
 refine roundIn_of_wpIn trivial ?_;have QN:Fm (some l) w BH:=fun l' e=>by cases e;exact⟨⟨r,u1⟩,oX⟩
 have hwa:=XJ QN hm C.1 la _ (fun e=>by cases e) Tr h hS;rw[<-u5]at hwa;refine wpIn_mono (ON hwa) ?_;intro e yP w1 hq;cases e with
 |normal=>
  obtain⟨XV,oW,m1,hb,wJ⟩:=hq;have v1:w1.heap[l]?=some (.loop r):=(wJ.keep.block l Jq oX).trans u1;refine⟨_,run_beginRound v1 u2,?_⟩;obtain⟨w2,sL⟩:∃w2,w2=w1.putObj l (.loop { r with state:=.busy }):=⟨_,rfl⟩;rw[<-sL];have v2:w2.heap[l]?=some (.loop { r with state:=.busy }):=by rw[sL];exact World.putObj_heap_same (qD.1 v1).1
  have ZO:cV [l] w1 w2:=by rw[sL];exact Hw _ _ _
  have Qk:∀s b,XV.b s=some b->¬fL oW w1 s b l:=fun s b k rr=>by
   rcases wJ.fM s b l k rr with q|q
   .omega
   .exact oX q
  have Qi:∀s b j,XV.b s=some b->fL oW w2 s b j->j≠l:=fun s b j k rr e=>by
   subst e;refine Qk s b k (((wJ.bx s b k).dS (fun r=>ZO.block _ (wJ.lt k r) ?_)).1 rr);rw[rU];intro e2;exact Qk s b k (.inl ⟨r,e2⟩)
  have T8:∀o,m1 l o=none:=fun o=>by
   cases hv:m1 l o with
   |none=>rfl
   |some v=>
    have:=wJ.mem l o v hv
    simp[World.mem,World.cell?,v1]at this
  have mZ:Sat nt w ⟨m,ρ,[],Tm,false⟩ (l::BH) XV oW m1 yP w2:=(wJ.ZxM (fun k hk=>by simp[hk]) (fun k hk=>by
   rcases jQ.1 hk with rfl|hk
   .exact tZ.free HU _ Jr
   .exact tZ.free HU k (zK k hk))).write (k:=l) Qk T8 (.inr (by simp)) (.inl (by rw[v1];simp)) ZO
  obtain⟨HA,PS⟩:∃HA,HA=(BH++List.range' w.heap.size (w2.heap.size-w.heap.size)).filter (fun k=>@decide (∀o,m1 k o=none) (Classical.propDecidable _)):=⟨_,rfl⟩;have in2:∀b,(w.heap.size<=b\/b∈l::BH)->b<w2.heap.size->b≠l->(∀o,m1 b o=none)->b∈HA:=fun b hb aI cZ hz=>by
   rw[PS];refine iY.2 ⟨?_,by simpa using hz⟩;rw[sE];rcases hb with hb|hb
   .exact .inr (List.mem_range'_1.2 ⟨hb,by omega⟩)
   .rcases jQ.1 hb with hb|hb
    .exact absurd hb cZ
    .exact .inl hb
  have HB:∀b∈HA,w.heap.size<=b\/b∈BH:=fun b hb=>by
   rw[PS]at hb;have hb:=(iY.1 hb).1;rw[sE]at hb;rcases hb with hb|hb
   .exact .inr hb
   .exact .inl (List.mem_range'_1.1 hb).1
  have qW:l∉HA:=fun hb=>by
   rcases HB l hb with q|q
   .omega
   .exact oX q
  have P8:∀k∈HA,∀o,m1 k o=none:=fun k hk=>by
   rw[PS]at hk;simpa using(iY.1 hk).2
  have Vi:Sat nt w2 ⟨m1,oW,[],mZ.uB,false⟩ HA XV oW m1 yP w2:=
   ⟨let ⟨ds,h1,h2,h3⟩:=mZ.sA;⟨ds,h1,h2,fun D hD=>⟨.inr (in2 D (h3 D hD).1 (qD.1 (h3 D hD).2).1 (fun e=>by have:=(h3 D hD).2;rw[e,v2]at this;cases this) (fun o=>by
    cases hv:m1 D o with
    |none=>rfl
    |some v=>
     have:=mZ.mem D o v hv
     simp[World.mem,World.cell?,(h3 D hD).2]at this)),(h3 D hD).2⟩⟩,mZ.sz,mZ.tm,mZ.bx,mZ.dZ,mZ.mem,mZ.eM,
    fun s b j k rr=>.inr (in2 _ (mZ.fM s b j k rr) (mZ.G2 k rr) (Qi s b j k rr) (mZ.eM s b j k rr)),cV.tH _ _,⟨Le.refl _,fun k hk=>P8 k hk⟩,fun b o v k=>.inl k,fun i=>rfl⟩
  have QM:Fm (some l) w2 HA:=fun l' e=>by cases e;exact⟨⟨_,v2⟩,qW⟩
  have PI:=XJ QM hm C.2 lb _ (fun e=>by cases e) Tq hb Vi;rw[<-u6]at PI;refine wpIn_mono (ON PI) ?_;have fin:∀(st:Option Code) (qP:Act) (w3:World),F9 nt w2 ⟨m1,oW,[],mZ.uB,false⟩ HA (GS C ps nt tm i R st) qP w3->∃v w',(Instr.endRound l st).run P w3=.ok v w'/\lD w m ρ B R (.returned v) w':=by
   rintro st qP w3 ⟨τ,TP,m3,⟨fz,outs,q1,n8,q2,q3⟩,Q5⟩;obtain⟨m4,hF⟩:=Q5.bB fz;obtain⟨bW,g1,g2,g3,g4⟩:=Mc hF q1 q2;have v3:w3.heap[l]?=some (.loop { r with state:=.busy }):=(hF.keep.block l (qD.1 v2).1 qW).trans v2;have dF:=run_endRound (P:=P) st v3;obtain⟨w4,ZX⟩:∃w4,w4=w3.putObj l (.loop { { r with state:=.busy }with state:=if st.isNone then .ready else .done,pending:=st }):=⟨_,rfl⟩;rw[<-ZX]at dF;have v4:w4.heap[l]?=some (.loop { { r with state:=.busy }with state:=if st.isNone then .ready else .done,pending:=st }):=by rw[ZX];exact World.putObj_heap_same (qD.1 v3).1
   have S6:cV [l] w3 w4:=by rw[ZX];exact Hw _ _ _
   have J8:∀j,bW (.par j)=ρ (.par j):=fun j=>(g3 j).trans ((hF.par j).trans (wJ.par j))
   have uR:Le m m4:=wJ.base.1.trans hF.base.1;have Rh:w.heap.size<=w2.heap.size:=mZ.keep.size;have Qj:∀s b,(bB fz τ).b s=some b->¬fL TP w3 s b l:=fun s b k rr=>by
    rcases hF.fM s b l k rr with q|q
    .omega
    .exact qW q
   have OT:∀s b,((bB fz τ).exp outs outs).lookup s=some b->¬fL bW w3 s b l:=fun s b k rr=>by
    obtain⟨s0,b0,e1,e2⟩:=g4 s b l k rr;exact Qj s0 b0 e1 e2
   have LB:∀s b,((bB fz τ).exp outs outs).lookup s=some b->∀j,fL bW w3 s b j->w4.heap[j]?=w3.heap[j]?:=fun s b k j rr=>S6.block _ (by
    obtain⟨s0,b0,e1,e2⟩:=g4 s b j k rr;exact hF.G2 e1 e2) (by
    rw[rU];intro e;subst e;exact OT s b k rr)
   have zU:∀s b,((bB fz τ).exp outs outs).lookup s=some b->∀j,fL bW w4 s b j->fL bW w3 s b j:=fun s b k j rr=>((g2.bx s b k).dS (fun r=>LB s b k _ (xN r))).1 rr
   have Av:∀o,m4 l o=none:=fun o=>by
    cases hv:m4 l o with
    |none=>rfl
    |some v=>
     have:=hF.mem l o v hv
     simp[World.mem,World.cell?,v3]at this
   refine⟨_,w4,dF,.bool st.isNone,.pv (.bool st.isNone),_,bW,m4,rfl,q3,?_,?_,?_,?_,?_,?_,.pv _ _ (.bool _),?_⟩
   .refine⟨fun s b k=>?_,fun s s' b b' j k k' rr LG=>?_,fun s b j k rr o=>?_⟩
    .by_cases hs:s=.par i
     .subst hs;rw[mX]at k;cases k;refine⟨by rw[J8];exact CE,{ { r with state:=.busy }with state:=if st.isNone then .ready else .done,pending:=st },by rw[J8,<-hl];exact v4,by cases st<;>rfl,rfl,u4,u5,u6,u7,fun t a k=>?_⟩;obtain⟨v,k1,k2⟩:=u8 t a k;obtain⟨j,hj⟩:=ZdR k;have k3:=k2.more uR;have k4:=k3.map (g:=id) (bW:=bW) (q:=Site.s7) (fun s hs=>by
       cases s with
       |par i=>exact J8 i
       |_=>cases hs) (W5 y1 hj)
      rw[Fp]at k4;exact⟨v,k1,k4⟩
     .rw[jG hs]at k;exact(g2.bx s b k).more (Le.refl _) (LB s b k)
    .by_cases hs:s=.par i<;>by_cases Z5:s'=.par i
     .rw[hs,Z5]
     .subst hs;rw[mX]at k;cases k;rw[jG Z5]at k';have e:=(EE rfl rr).2;rw[J8,<-hl]at e;subst e;exact absurd (zU s' b' k' _ LG) (OT s' b' k')
     .subst Z5;rw[mX]at k';cases k';rw[jG hs]at k;have e:=(EE rfl LG).2;rw[J8,<-hl]at e;subst e;exact absurd (zU s b k _ rr) (OT s b k)
     .rw[jG hs]at k;rw[jG Z5]at k';exact g2.dZ s s' b b' j k k' (zU s b k _ rr) (zU s' b' k' _ LG)
    .by_cases hs:s=.par i
     .subst hs;rw[mX]at k;cases k;have e:=(EE rfl rr).2;rw[J8,<-hl]at e;subst e;exact Av o
     .rw[jG hs]at k;exact g2.eM s b j k (zU s b k _ rr) o
   .exact uR
   .intro b o v hv;have h1:=hF.mem b o v hv;refine(World.cell?_of_block (a:=⟨b,o,none⟩) (S6.block b (AQ h1) ?_)).trans h1;rw[rU];intro e;have e':b=l:=e;subst e';rw[Av o]at hv;cases hv
   .exact J8
   .intro s b j k rr;by_cases hs:s=.par i
    .subst hs;rw[mX]at k;cases k;have e:=(EE rfl rr).2;rw[J8,<-hl]at e;subst e;exact .inr Jr
    .rw[jG hs]at k;obtain⟨s0,b0,e1,e2⟩:=g4 s b j k (zU s b k _ rr);rcases hF.fM s0 b0 j e1 e2 with q|q
     .exact .inl (lJ Rh q)
     .exact(HB _ q).imp id (zK _)
   .intro b o v hv;rcases hF.qB b o v hv with q|q|q
    .rcases mZ.qB b o v q with q|q|q
     .exact .inl q
     .exact .inr (.inl q)
     .rcases jQ.1 q with q|q
      .subst q;exact .inr (.inr Jr)
      .exact .inr (.inr (zK _ q))
    .exact .inr (.inl (lJ Rh q))
    .exact .inr ((HB _ q).imp id (zK _))
   .have k1:=mZ.keep;have k3:=hF.keep;refine⟨S6.os.trans (k3.os.trans k1.os),S6.tape.trans (k3.tape.trans k1.tape),S6.output.trans (k3.output.trans k1.output),lJ Rh (lJ k3.size S6.size),fun k hk hn=>?_⟩;have xG:k≠l:=fun e=>hn (e▸Jr)
    have iB:k∉BH:=fun q=>hn (zK _ q)
    have a1:=k1.block k hk (by simp[xG,iB]);have a2:=k3.block k (by omega) (fun q=>by
     rcases HB k q with q|q
     .omega
     .exact iB q)
    have a3:=S6.block k (by have:=k3.size;omega) (by simpa using xG);exact a3.trans (a2.trans a1)
  intro e qP w3 UU;cases e with
  |normal=>exact fin none qP w3 UU
  |ret=>exact fin (some .ret) qP w3 UU
  |exit id=>exact fin (some (.exit id)) qP w3 UU
  |goto t=>exact UU.elim
  |panic ch=>exact UU.elim
  |outgrown=>exact UU.elim
 |ret=>obtain⟨_,_,_,q,_⟩:=hq;exact q.elim
 |exit id=>obtain⟨_,_,_,q,_⟩:=hq;exact q.elim
 |goto t=>exact hq.elim
 |panic ch=>exact hq.elim
 |outgrown=>exact hq.elim
end
section
universe u
section
variable {α:Type u}
end
theorem ZrF (a b:Nat):Nat.beq a b=decide (a=b):=by
 cases h:Nat.beq a b with
 |true=>rw[Nat.eq_of_beq_eq_true h];simp
 |false=>
  have:a≠b:=fun e=>by subst e;rw[Nat.beq_refl]at h;cases h
  simp[this]
def Site.NN (d:Nat):Site->Bool
 |.loc e _=>Nat.beq d e
 |_=>false
theorem Site.ZwP (d:Nat)(s:Site):s.NN d=s.fP d:=by
 cases s with
 |loc e j=>
  show Nat.beq d e=(d==e);rw[ZrF];rfl
 |_=>rfl
def Site.Er:Site->Site->Bool
 |.par i,.par j=>Nat.beq i j
 |.loc a b,.loc c d=>Nat.beq a c&&Nat.beq b d
 |.ret i,.ret j=>Nat.beq i j
 |_,_=>false
theorem Site.ZxI (s t:Site):s.Er t=decide (s=t):=by
 cases s<;>cases t<;>simp only[Site.Er,ZrF]<;>simp
theorem Site.Zw5 (s t:Site):s.Er t=(s==t):=by rw[Site.ZxI];rfl
def AV.Xf (d:Nat)(a:AV):Bool:=match a with
 |.pv _=>false
 |.any=>false
 |.ptr s _=>s.NN d
 |.lB s _ _ _=>s.NN d
 |.vec s _ _ _=>s.NN d
 |.mp s=>s.NN d
 |.nM s=>s.NN d
 |a=>a.has d
theorem AV.ZxF (d:Nat)(a:AV):a.Xf d=a.has d:=by cases a<;>simp[AV.Xf,AV.has,Site.ZwP]
def AV.tI (d:Nat)(a:AV):AV:=match a.Xf d with
 |true=>.any
 |false=>a
theorem AV.s9 (d:Nat)(a:AV):a.tI d=a.bI d:=by
 unfold AV.tI AV.bI;rw[AV.ZxF];cases a.has d<;>rfl
def aL.tI (d:Nat):aL->aL
 |.cells bU=>.cells (bU.map (AV.tI d))
 |.loop C ps nt tm st=>.loop C ps nt (tm.map fun p=>(p.1,p.2.tI d)) st
 |b=>b
theorem aL.s9 (d:Nat)(b:aL):b.tI d=b.bI d:=by
 have h:AV.tI d=AV.bI d:=funext (AV.s9 d);cases b<;>simp[aL.tI,aL.bI,h]
def AS.tI (d:Nat)(σ:AS):AS:=⟨σ.tm.map fun p=>(p.1,p.2.tI d),(σ.bx.filter fun p=>!p.1.NN d).map fun p=>(p.1,p.2.tI d)⟩
theorem AS.s9 (d:Nat)(σ:AS):σ.tI d=σ.bI d:=by
 have h:AV.tI d=AV.bI d:=funext (AV.s9 d);have h2:aL.tI d=aL.bI d:=funext (aL.s9 d);have h3:Site.NN d=Site.fP d:=funext (Site.ZwP d);simp only[AS.tI,AS.bI,h,h2,h3]
def X5 {β:Type}(s:Site):List (Site×β)->Option β
 |[]=>none
 |(a,b)::r=>match s.Er a with
  |true=>some b
  |false=>X5 s r
theorem ZkU {β:Type}(s:Site):∀l:List (Site×β),X5 s l=l.lookup s
 |[]=>rfl
 |(a,b)::r=>by
  unfold X5;rw[List.lookup,Site.Zw5,ZkU s r];cases(s==a)<;>rfl
def AS.bF (σ:AS)(s:Site):Option aL:=X5 s σ.bx
theorem AS.NO (σ:AS)(s:Site):σ.bF s=σ.b s:=ZkU s σ.bx
def HH (s:Site):List Site->Bool
 |[]=>false
 |a::r=>match s.Er a with
  |true=>true
  |false=>HH s r
theorem ZnO (s:Site):∀l:List Site,HH s l=l.contains s
 |[]=>rfl
 |a::r=>by
  unfold HH;rw[List.contains_cons,Site.Zw5,ZnO s r];cases(s==a)<;>rfl
end
def jT (z:Int):Option Nat:=match decide (0<=z)with
 |true=>some z.toNat
 |false=>none
theorem KK {z:Int}{n:Nat}:jT z=some n↔z=n:=by
 unfold jT;by_cases h:0<=z
 .simp[h];omega
 .simp[h];omega
def FX (n:Nat)(x:PV):Bool:=(x.cells.length==n)&&((AV.pv x).wide||(AV.pv x).one)
def HC (l:W7)(d:Nat)(σ:AS):Option (AV×AS):=
 match l with
 |.eqv neg kt x y=>match σ.o x,σ.o y with
  |.pv a,.pv b=>match kt.ok a&&kt.ok b with
   |true=>some (.pv (.bool (gV a b != neg)),σ)
   |false=>none
  |_,_=>none
 |.G0=>some (.mp (.loc d 0),(σ.tI d).add (.loc d 0) (.map []))
 |.look kt z ok x i=>match σ.o i with
  |.pv k=>match kt.ok k with
   |true=>match σ.o x with
    |.mp s=>match σ.bF s with
     |some (.map es)=>match zZ kt es with
      |true=>some (gK ok (eX k es) z,σ)
      |false=>none
     |_=>none
    |.pv .cR=>some (gK ok none z,σ)
    |_=>none
   |false=>none
  |_=>none
 |.iN kt x i v=>match σ.o i with
  |.pv k=>match kt.ok k with
   |true=>match σ.o x with
    |.mp s=>match(σ.wX (σ.o v)).bF s,(σ.wX (σ.o v)).o v with
     |some (.map es),.pv val=>match zZ kt es with
      |true=>some (.any,(σ.wX (σ.o v)).set s (.map (mN k val es)))
      |false=>none
     |_,_=>none
    |_=>none
   |false=>none
  |_=>none
 |.BK x=>match σ.o x with
  |.mp s=>match σ.bF s with
   |some (.map es)=>some (.pv (.int .i64 es.length),σ)
   |_=>none
  |.pv .cR=>some (.pv (.int .i64 0),σ)
  |_=>none
 |.copy n x y=>match σ.cont (σ.o y) n with
  |some ys=>match σ.o x with
   |.pv (.emp _)=>some (.pv (.int .i64 0),σ)
   |.vec s n' lo len=>match σ.bF s with
    |some (.arr e eT xs)=>match(n'==n)&&(eT==n)&&Nat.ble (lo+len) xs.length with
     |true=>some (.pv (.int .i64 (ys.take len).length),σ.set s (.arr e n (aR xs lo (ys.take len))))
     |false=>none
    |_=>none
   |_=>none
  |none=>none
 |.clear n z x=>match σ.o x with
  |.pv (.emp _)=>some (.pv (.bM []),σ)
  |.vec s n' lo len=>match σ.bF s with
   |some (.arr e eT xs)=>match(n'==n)&&(eT==n)&&Nat.ble (lo+len) xs.length with
    |true=>some (.pv (.bM []),σ.set s (.arr e n (aR xs lo (List.replicate len z))))
    |false=>none
   |_=>none
  |_=>none
 |.EM n x hi=>match σ.o hi with
  |.pv (.int _ h)=>match jT h with
   |some k=>match σ.o x with
    |.ptr s off=>match σ.bF s with
     |some (.cells gF)=>match eB gF with
      |some xs=>match Nat.ble k n&&Nat.ble (off+n) xs.length with
       |true=>some (.pv (.aE false 1 ((xs.drop off).take k)),σ.cH s)
       |false=>none
      |none=>none
     |_=>none
    |.pv (.ref xs)=>match Nat.ble k n&&Nat.ble n xs.length with
     |true=>some (.pv (.aE false 1 (xs.take k)),σ)
     |false=>none
    |_=>none
   |none=>none
  |_=>none
 |.YG _ _ _ _=>none
 |.rE x=>match σ.o x with
  |.pv (.str s)=>some (.pv (.int .i64 s.size),σ)
  |_=>none
 |.A5 x i=>match σ.o x,σ.o i with
  |.pv (.str s),.pv (.int _ z)=>match BC s z with
   |some b=>some (.pv (.int .u8 b.toNat),σ)
   |none=>none
  |_,_=>none
 |.TU x lo hi=>match σ.o x with
  |.pv (.str s)=>match σ.ob lo 0,σ.ob hi s.size with
   |some l,some h=>match jT l,jT h with
    |some i,some j=>match Nat.ble i j&&Nat.ble j s.size with
     |true=>some (.pv (.str (s.extract i j)),σ)
     |false=>none
    |_,_=>none
   |_,_=>none
  |_=>none
 |.rG x y=>match σ.o x,σ.o y with
  |.pv (.str a),.pv (.str b)=>match Nat.ble (a.size+b.size) 9223372036854775807 with
   |true=>some (.pv (.str (a++b)),σ)
   |false=>none
  |_,_=>none
 |.BB _ x=>match σ.o x with
  |.pv (.str s)=>match Nat.ble s.size 1000000 with
   |true=>some (.pv (.aE false 1 (qE s)),σ)
   |false=>none
  |_=>none
 |.TW x=>match σ.cont (σ.o x) 1 with
  |some xs=>match EB xs with
   |some ns=>some (.pv (.str (NU ns)),σ)
   |none=>none
  |none=>none
 |.sB t x=>match σ.o x with
  |.pv a=>some (.pv (.iface t a),σ)
  |_=>none
 |.LN neg x=>match σ.o x with
  |.pv .eV=>some (.pv (.bool (!neg)),σ)
  |.pv (.iface _ _)=>some (.pv (.bool neg),σ)
  |_=>none
 |.KZ t z x=>match σ.o x with
  |.pv .eV=>some (.pv (.bM [z,.bool false]),σ)
  |.pv (.iface u a)=>some (.pv (.bM (if u=t then[a,.bool true]else[z,.bool false])),σ)
  |_=>none
 |.B3 _=>none
 |.Ek _ _=>none
 |.VQ e n bytes x y=>match σ.o y with
  |.pv (.str s0)=>match σ.o x with
   |.pv (.emp _)=>match Nat.ble (qE s0).length 1000000&&Nat.ble bytes 1000 with
    |true=>some (.vec (.loc d 0) n 0 (qE s0).length,(σ.tI d).add (.loc d 0) (.arr e n (qE s0)))
    |false=>none
   |.vec s n' lo len=>match σ.bF s with
    |some (.arr e' eT xs)=>match(e'==e)&&(n'==n)&&(eT==n)&&(lo+len==xs.length)&&Nat.ble (len+(qE s0).length) 1000000&&Nat.ble bytes 1000 with
     |true=>some (.vec (.loc d 0) n 0 (len+(qE s0).length),((σ.drop s).tI d).add (.loc d 0) (.arr e n (xs.drop lo++qE s0)))
     |false=>none
    |_=>none
   |_=>none
  |_=>none
theorem IY {a b:Nat}(h1:a<=1000000)(h2:b<=1000):a*b<=140737488355328/\a<=9223372036854775807:=
 ⟨lJ (Nat.mul_le_mul h1 h2) (by decide),by omega⟩
theorem ZlO {l:W7}{d:Nat}{σ τ:AS}{a:AV}{K:AV->AS->Prop}(h:HC l d σ=some (a,τ))(hK:K a τ):cD l d K σ:=by
 cases l
 all_goals
  simp only[HC,AS.s9,AS.NO]at h;simp only[cD]
  repeat' split at h
  all_goals first
   |(cases h;done)
   |(cases h;simp_all;done)
   |(cases h;simp_all;exact IY (by omega) (by omega))
   |(cases h;simp_all;omega)
   |(cases h;simp_all [KK];done)
   |(cases h;simp_all [KK];omega)
def EN (l:lZ)(d:Nat)(σ:AS):Option (AV×AS):=
 match l with
 |.dV x=>some (σ.o x,σ)
 |.pick c a b=>match σ.o c with
  |.pv (.bool true)=>some (σ.o a,σ)
  |.pv (.bool false)=>some (σ.o b,σ)
  |_=>none
 |.bin bt op x y=>match σ.o x,σ.o y with
  |.pv (.int k a),.pv (.int k' b)=>match DN op k k' a b with
   |some r=>some (.pv r,σ)
   |none=>none
  |.pv (.bool a),.pv (.bool b)=>match bt with
   |true=>match DO op a b with
    |some r=>some (.pv r,σ)
    |none=>none
   |false=>none
  |_,_=>none
 |.not x=>match σ.o x with
  |.pv (.bool a)=>some (.pv (.bool (!a)),σ)
  |_=>none
 |.neg x=>match σ.o x with
  |.pv (.int k a)=>some (.pv (.int k (k.wrap (0-a))),σ)
  |_=>none
 |.yB k neg x=>match dH k (σ.o x)with
  |some b=>some (.pv (.bool (b != neg)),σ)
  |none=>none
 |.x y=>HC y d σ
 |.box n x=>let a:=(σ.tI d).o x
  match(a.cells.length==n)&&(a.wide||a.one)with
  |true=>some (.ptr (.loc d 0) 0,(σ.tI d).add (.loc d 0) (.cells a.cells))
  |false=>none
 |.alloc z=>some (.ptr (.loc d 0) 0,(σ.tI d).add (.loc d 0) (.cells (z.cells.map .pv)))
 |.build z ps=>match wK σ (z.cells.map .pv) ps with
  |some l=>some (w8 l,σ)
  |none=>none
 |.aQ e n ps=>match(σ.DV ps).tN ps with
  |some []=>some (.pv (.emp (some false)),σ)
  |some (x::xs)=>match(x::xs).all (FX n)with
   |true=>some (.vec (.loc d 0) n 0 (x::xs).length,((σ.DV ps).tI d).add (.loc d 0) (.arr e n (x::xs)))
   |false=>none
  |none=>none
 |.load row n x=>match σ.o x with
  |.pv (.ref cs)=>match row with
   |true=>match Nat.ble n cs.length with
    |true=>some (.pv (.agg (cs.take n)),σ)
    |false=>none
   |false=>match cs with
    |c::_=>some (.pv c,σ)
    |[]=>none
  |.ptr s off=>match σ.bF s with
   |some (.cells bU)=>match row with
    |true=>match Nat.ble (off+n) bU.length with
     |true=>some (w8 ((bU.drop off).take n),σ)
     |false=>none
    |false=>match bU[off]? with
     |some a=>some (a,σ)
     |none=>none
   |_=>none
  |.lB s n' i off=>match σ.bF s with
   |some (.arr _ eT xs)=>match xs[i]? with
    |some x=>match n'==eT with
     |true=>match row with
      |true=>match Nat.ble (off+n) x.cells.length with
       |true=>some (.pv (.agg ((x.cells.drop off).take n)),σ)
       |false=>none
      |false=>match x.cells[off]? with
       |some c=>some (.pv c,σ)
       |none=>none
     |false=>none
    |none=>none
   |_=>none
  |_=>none
 |.store n x y=>match σ.o x with
  |.ptr s off=>match σ.bF s with
   |some (.cells bU)=>let a:=σ.o y
    match(a.cells.length==n)&&(a.wide||a.one)&&Nat.ble (off+n) bU.length with
    |true=>some (.any,σ.set s (.cells (aR bU off a.cells)))
    |false=>none
   |_=>none
  |.lB s n' i off=>match(σ.wX (σ.o y)).bF s,(σ.wX (σ.o y)).o y with
    |some (.arr e eT xs),.pv p=>match xs[i]? with
     |some x=>match(n'==eT)&&Nat.blt 0 n&&FX n p&&Nat.ble (off+n) x.cells.length with
      |true=>some (.any,(σ.wX (σ.o y)).set s (.arr e eT (xs.set i (setAt x off p))))
      |false=>none
     |none=>none
    |_,_=>none
  |_=>none
 |.fa off x=>match σ.o x with
  |.pv (.ref cs)=>match Nat.ble off cs.length with
   |true=>some (.pv (.ref (cs.drop off)),σ)
   |false=>none
  |.ptr s o=>some (.ptr s (o+off),σ)
  |.lB s n i o=>some (.lB s n i (o+off),σ)
  |_=>none
 |.NC row off n x=>let a:=σ.o x
  match a.wide with
  |true=>match row with
   |true=>match Nat.ble (off+n) a.cells.length with
    |true=>some (w8 ((a.cells.drop off).take n),σ)
    |false=>none
   |false=>match a.cells[off]? with
    |some c=>some (c,σ)
    |none=>none
  |false=>none
 |.ia n arr x i=>match σ.o i with
  |.pv (.int _ zi)=>match jT zi with
   |none=>none
   |some z=>match arr with
    |none=>match σ.o x with
     |.pv (.aE _ n' xs)=>match xs[z]? with
      |some y=>match n'==n with
       |true=>some (.pv (.ref y.cells),σ)
       |false=>none
      |none=>none
     |.vec s n' lo len=>match(n'==n)&&Nat.blt z len with
      |true=>some (.lB s n (lo+z) 0,σ)
      |false=>none
     |_=>none
    |some l=>match Nat.blt z l with
     |true=>match σ.o x with
      |.pv (.ref cs)=>match Nat.ble (z*n) cs.length with
       |true=>some (.pv (.ref (cs.drop (z*n))),σ)
       |false=>none
      |.ptr s o=>some (.ptr s (o+z*n),σ)
      |.lB s n' j o=>some (.lB s n' j (o+z*n),σ)
      |_=>none
     |false=>none
  |_=>none
 |.len arr x=>match arr with
  |some l=>some (.pv (.int .i64 l),σ)
  |none=>match σ.o x with
   |.pv (.aE _ _ xs)=>some (.pv (.int .i64 xs.length),σ)
   |.pv (.emp _)=>some (.pv (.int .i64 0),σ)
   |.vec _ _ _ len=>some (.pv (.int .i64 len),σ)
   |_=>none
 |.ext x i=>match σ.o x with
  |.pv (.bM vs)=>match vs[i]? with
   |some v=>some (.pv v,σ)
   |none=>none
  |.bM vs=>match vs[i]? with
   |some v=>some (v,σ)
   |none=>none
  |_=>none
 |.yC f fs cs=>match σ.tN fs,σ.tN cs with
  |some a,some b=>some (.pv (.fn f a b),σ)
  |_,_=>some (.fn f (fs.map σ.o) (cs.map σ.o),σ)
 |.vO x=>match σ.o x with
  |.pv (.ref cs)=>some (.pv (.ref cs),σ)
  |.ptr s o=>some (.ptr s o,σ)
  |.lB s n i o=>some (.lB s n i o,σ)
  |_=>none
 |.jB mx x y=>match σ.o x,σ.o y with
  |.pv (.int k a),.pv (.int _ b)=>some (.pv (.int k (if mx=true then(if b>a then b else a)else(if b<a then b else a))),σ)
  |_,_=>none
 |.conv k x=>match σ.o x with
  |.pv (.int _ a)=>some (.pv (.int k (k.wrap a)),σ)
  |_=>none
 |.app e n bytes x y=>match σ.cont (σ.o y) n with
  |some ys=>match σ.o x with
   |.pv (.emp _)=>match Nat.ble ys.length 1000000&&Nat.ble bytes 1000 with
    |true=>some (.vec (.loc d 0) n 0 ys.length,(σ.tI d).add (.loc d 0) (.arr e n ys))
    |false=>none
   |.vec s n' lo len=>match σ.bF s with
    |some (.arr e' eT xs)=>match(e'==e)&&(n'==n)&&(eT==n)&&(lo+len==xs.length)&&Nat.ble (len+ys.length) 1000000&&Nat.ble bytes 1000 with
     |true=>some (.vec (.loc d 0) n 0 (len+ys.length),((σ.drop s).tI d).add (.loc d 0) (.arr e n (xs.drop lo++ys)))
     |false=>none
    |_=>none
   |_=>none
  |none=>none
 |.iJ e n bytes x y=>match σ.cont (σ.o y) n with
  |some ys=>match σ.o x with
   |.pv (.emp _)=>match Nat.ble ys.length 1000000&&Nat.ble bytes 1000 with
    |true=>some (.vec (.loc d 0) n 0 ys.length,(σ.tI d).add (.loc d 0) (.arr e n ys))
    |false=>none
   |_=>none
  |none=>none
 |.UD e n bytes z l c=>match σ.o l,σ.o c with
  |.pv (.int _ ai),.pv (.int _ bi)=>match jT ai,jT bi with
   |some a,some b=>match Nat.ble a b&&Nat.ble b 1000000&&Nat.ble bytes 1000 with
    |true=>some (.vec (.loc d 0) n 0 a,(σ.tI d).add (.loc d 0) (.arr e n (List.replicate a z)))
    |false=>none
   |_,_=>none
  |_,_=>none
 |.J5 n none x lo hi none=>match σ.ob lo 0 with
  |some li=>match jT li with
   |none=>none
   |some l=>match σ.o x with
    |.pv (.aE nn n' xs)=>match σ.ob hi xs.length with
     |some hh=>match jT hh with
      |some h=>match Nat.ble l h&&Nat.ble h xs.length&&(n'==n)with
       |true=>some (.pv (.aE nn n ((xs.take h).drop l)),σ)
       |false=>none
      |none=>none
     |none=>none
    |.pv (.emp nl)=>match σ.ob hi 0 with
     |some hh=>match jT hh with
      |some h=>match(l==0)&&(h==0)with
       |true=>some (.pv (.emp nl),σ)
       |false=>none
      |none=>none
     |none=>none
    |.vec s n' OY len=>match σ.ob hi len with
     |some hh=>match jT hh with
      |some h=>match Nat.ble l h&&Nat.ble h len&&(n'==n)with
       |true=>some (.vec s n (OY+l) (h-l),σ)
       |false=>none
      |none=>none
     |none=>none
    |_=>none
  |none=>none
 |_=>none
theorem ZnD {l:lZ}{d:Nat}{σ τ:AS}{a:AV}{K:AV->AS->Prop}(h:EN l d σ=some (a,τ))(hK:K a τ):bY l d K σ:=by
 cases l
 case x y=>exact ZlO h hK
 case aQ e n ps=>
  simp only[EN,AS.s9,AS.NO]at h;simp only[bY];cases hx:(σ.DV ps).tN ps with
  |none=>rw[hx]at h;cases h
  |some xs=>
   rw[hx]at h;cases xs with
   |nil=>cases h;exact hK
   |cons x r=>
    dsimp only at h ⊢;split at h
    .rename_i eS;cases h;refine⟨fun y hy=>?_,hK⟩
     have:=qZ.1 eS y hy
     simpa[FX]using this
    .cases h
 case jB mx x y=>
  simp only[EN,AS.s9,AS.NO]at h;simp only[bY];split at h
  .rename_i e1 e2;cases h;rw[e1,e2];exact hK
  .cases h
 case store n x y=>
  simp only[EN,AS.s9,AS.NO]at h;simp only[bY];split at h
  .rename_i s off e1;rw[e1];dsimp only;split at h
   .rename_i bU hb;rw[hb];dsimp only;split at h
    .rename_i hc;cases h;simp only[dK,beq_iff_eq,rR,Nat.ble_eq]at hc;exact⟨hc.1.1,hc.1.2,hc.2,hK⟩
    .cases h
   .cases h
  .rename_i s n' i off e1;rw[e1];dsimp only;split at h
   .rename_i e eT xs p pN hp;rw[pN,hp];dsimp only;split at h
    .rename_i x hx;rw[hx];dsimp only;split at h
     .rename_i hc;cases h;simp only[dK,beq_iff_eq,Nat.ble_eq,FX,rR]at hc;exact⟨hc.1.1.1,tG hc.1.1.2,hc.1.2.1,hc.1.2.2,hc.2,hK⟩
     .cases h
    .cases h
   .cases h
  .cases h
 case app e n bytes x y=>
  simp only[EN,AS.s9,AS.NO]at h;simp only[bY]
  repeat' split at h
  all_goals first
   |contradiction
   |(cases h;done)
   |(cases h;simp_all [FX,KK];exact IY (by omega) (by omega))
   |(cases h;simp_all [FX,KK];exact .inl (IY (by omega) (by omega)))
 case yC f fs cs=>
  simp only[EN,AS.s9,AS.NO]at h;simp only[bY];cases h1:σ.tN fs<;>cases h2:σ.tN cs<;>(rw[h1,h2]at h;cases h;exact hK)
 all_goals
  simp only[EN,AS.s9,AS.NO]at h;simp only[bY]
  repeat' split at h
  all_goals first
   |contradiction
   |(cases h;done)
   |(cases h;simp_all [FX,KK];done)
   |(cases h;simp_all [FX,KK];omega)
   |(cases h;simp_all [FX,KK];exact IY (by omega) (by omega))
def DZ:List Site->Bool
 |[]=>true
 |s::r=>!HH s r&&DZ r
theorem SZ:∀{l:List Site},DZ l=true->l.Nodup
 |[],_=>List.nodup_nil
 |s::r,h=>by
  simp only[DZ,dK,Bool.not_eq_true']at h;exact List.nodup_cons.2 ⟨by have:=h.1;rw[ZnO]at this;simpa using this,SZ h.2⟩
def mT:AV->Option (FuncId×List AV×List AV)
 |.fn g fs cs=>some (g,fs,cs)
 |.pv (.fn g fs cs)=>some (g,fs.map .pv,cs.map .pv)
 |_=>none
abbrev TK:=Nat->List Nat->Option (bJ×bJ×(Code×Code))
def fuel:Nat:=4000
mutual
def PV.beq:PV->PV->Bool
 |.int k a,.int k' b=>decide (k=k')&&decide (a=b)
 |.bool a,.bool b=>decide (a=b)
 |.str a,.str b=>decide (a.data.toList=b.data.toList)
 |.eU,.eU=>true
 |.dP,.dP=>true
 |.cR,.cR=>true
 |.eV,.eV=>true
 |.P6,.P6=>true
 |.emp a,.emp b=>decide (a=b)
 |.aE a n xs,.aE b m ys=>decide (a=b)&&decide (n=m)&&PV.DT xs ys
 |.ref xs,.ref ys=>PV.DT xs ys
 |.fn f a b,.fn g c d=>decide (f=g)&&PV.DT a c&&PV.DT b d
 |.agg xs,.agg ys=>PV.DT xs ys
 |.bM xs,.bM ys=>PV.DT xs ys
 |.iface t x,.iface u y=>decide (t=u)&&PV.beq x y
 |_,_=>false
def PV.DT:List PV->List PV->Bool
 |[],[]=>true
 |x::xs,y::ys=>PV.beq x y&&PV.DT xs ys
 |_,_=>false
end
def yZ (P:Program)(TY:TK):bJ->Prop
 |.seq a b=>yZ P TY a/\yZ P TY b
 |.cond _ a b=>yZ P TY a/\yZ P TY b
 |.block _ c=>yZ P TY c
 |.loop c=>yZ P TY c
 |.vF nt _ C la lb ps=>dQ P nt C.1=some la/\dQ P nt C.2=some lb/\TY nt ps=some (la,lb,C)/\yZ P TY la/\yZ P TY lb
 |_=>True
def kQ (TY:TK):bJ->Prop
 |.seq a b=>kQ TY a/\kQ TY b
 |.cond _ a b=>kQ TY a/\kQ TY b
 |.block _ c=>kQ TY c
 |.loop c=>kQ TY c
 |.vF nt _ C la lb ps=>TY nt ps=some (la,lb,C)/\kQ TY la/\kQ TY lb
 |_=>True
theorem Ztl {P:Program}{TY:TK}{N:Nat}:∀(c:Code) (l:bJ),dQ P N c=some l->kQ TY l->yZ P TY l:=by
 intro c;induction c with
 |seq a b S9 p4=>
  intro l h ht;simp only[dQ]at h;split at h
  .rename_i x y h1 h2;cases h;exact⟨S9 _ h1 ht.1,p4 _ h2 ht.2⟩
  .cases h
 |cond c a b S9 p4=>
  intro l h ht;simp only[dQ]at h;split at h
  .rename_i c' x y h0 h1 h2;cases h;exact⟨S9 _ h1 ht.1,p4 _ h2 ht.2⟩
  .cases h
 |block id c ih=>
  intro l h ht;simp only[dQ,eA]at h;obtain⟨x,k1,rfl⟩:=h;exact ih x k1 ht
 |loop c ih=>
  intro l h ht;simp only[dQ,eA]at h;obtain⟨x,k1,rfl⟩:=h;exact ih x k1 ht
 |scope c ih=>intro l h ht;exact ih l h ht
 |rangeFunc g ps a b S9 p4=>
  intro l h ht;simp only[dQ]at h;split at h
  .rename_i g' x y h0 h1 h2;cases h;exact⟨h1,h2,ht.1,S9 _ h1 ht.2.1,p4 _ h2 ht.2.2⟩
  .cases h
 |region id ops draw=>
  intro l h ht;simp only[dQ]at h;split at h
  .cases h;trivial
  .split at h
   .simp only[eA]at h;obtain⟨x,_,rfl⟩:=h;trivial
   .cases h
 |_=>intro l h ht;simp[dQ]at h<;>subst h<;>trivial
section
variable {P:Program}{TY:TK}
theorem ZnC {l:lZ}{d:Nat}{σ:AS}{K K':AV->AS->Prop}(hk:∀a τ,K a τ->K' a τ)(h:bY l d K σ):bY l d K' σ:=by
 cases l
 case x y=>
  simp only[bY]at h ⊢;cases y
  all_goals
   simp only[cD]at h ⊢
   repeat' split at h
   all_goals first
    |exact h.elim
    |exact hk _ _ h
    |exact⟨h.1,hk _ _ h.2⟩
    |exact⟨h.1,h.2.1,hk _ _ h.2.2⟩
    |(simp_all;done)
    |(simp_all<;>first|exact hk _ _ h.2|exact hk _ _ h|exact hk _ _ h.2.2)
 case jB mx x y=>
  simp only[bY]at h ⊢;split at h
  .exact hk _ _ h
  .exact h.elim
 case app e n bytes x y=>
  simp only[bY]at h ⊢;split at h
  .split at h
   .exact⟨h.1,h.2.1,hk _ _ h.2.2⟩
   .split at h
    .exact h.imp (fun h=>⟨h.1,h.2.1,h.2.2.1,hk _ _ h.2.2.2⟩) (fun h=>⟨h.1,h.2.1,h.2.2.1,hk _ _ h.2.2.2.1,hk _ _ h.2.2.2.2⟩)
    .exact h.elim
   .exact h.elim
  .exact h.elim
 all_goals
  simp only[bY]at h ⊢
  repeat' split at h
  all_goals first
   |exact h.elim
   |(simp_all;done)
   |(simp_all<;>first|exact hk _ _ h.2|exact hk _ _ h|exact hk _ _ h.2.2)
theorem ZjS {f:bD}{args:List bD}{d:Nat}{σ:AS}{K K':AV->AS->Prop}(hk:∀a τ,K a τ->K' a τ)(h:yV P f args d K σ):yV P f args d K' σ:=by
 rcases h with⟨k,g,fs,xs,cs,h1,h2,h3⟩|⟨fz,g,fs,xs,cs,h1,h2,h3⟩
 .exact .inl ⟨k,g,fs,xs,cs,h1,h2,h3.mono (fun _ _ ⟨y,e1,e2,e3⟩=>⟨y,e1,e2,hk _ _ e3⟩)⟩
 .exact .inr ⟨fz,g,fs,xs,cs,h1,h2,h3.mono (fun _ _ ⟨e1,e2⟩=>⟨e1,hk _ _ e2⟩)⟩
theorem ZiR {f:bD}{args:List bD}{σ:AS}{K K':AV->AS->Prop}(hk:∀a τ,K a τ->K' a τ)(h:FZ P f args K σ):FZ P f args K' σ:=by
 obtain⟨d,fz,aF,g,fs,cs,B,h1,h2,h3,h4,h5,h6⟩:=h;exact⟨d,fz,aF,g,fs,cs,B,h1,h2,h3,h4,h5,h6.mono (fun _ _ ⟨e1,e2,e3⟩=>⟨e1,e2,hk _ _ e3⟩)⟩
theorem ZiQ {f:bD}{args:List bD}{σ:AS}{K K':AV->AS->Prop}(hk:∀a τ,K a τ->K' a τ)(h:GA P f args K σ):GA P f args K' σ:=by
 obtain⟨d,fz,aF,s,i,B,h1,h2,h3,h4,h5,h6,h7⟩:=h;refine⟨d,fz,aF,s,i,B,h1,h2,h3,h4,h5,h6,fun w m ρ vs a1 a2 a3 a4=>?_⟩;obtain⟨r,k1,k2,k3⟩:=h7 w m ρ vs a1 a2 a3 a4;exact⟨r,k1,k2,k3.mono (fun e w' ⟨v,r,B',bW,m',q1,⟨e1,e2,e3⟩,q2⟩=>⟨v,r,B',bW,m',q1,⟨e1,e2,hk _ _ e3⟩,q2⟩)⟩
theorem Zgl {o:LO}{σ:AS}{K K':AV->AS->Prop}(hk:∀a τ,K a τ->K' a τ)(h:mA P o K σ):mA P o K' σ:=by
 unfold mA at h ⊢;split at h
 .rcases h with h|⟨aI,h|h⟩
  .exact Or.inl (ZjS hk h)
  .exact Or.inr ⟨aI,Or.inl (ZiR hk h)⟩
  .exact Or.inr ⟨aI,Or.inr (ZiQ hk h)⟩
 .exact ZnC hk h
theorem OE {o:LO}{σ:AS}{K K':AS->Prop}(hk:∀τ,K τ->K' τ)(h:pL P o K σ):pL P o K' σ:=by
 unfold pL at h ⊢;split at h
 .exact Zgl (fun a τ q=>hk _ q) h
 .split at h
  .split at h
   .rename_i e;rw[if_pos e];exact Zgl (fun a τ q=>hk _ q) h
   .rename_i e;rw[if_neg e];exact hk _ h
  .exact hk _ h
  .exact h.elim
theorem Zgs:∀{l:List LO} {σ:AS} {K K':AS->Prop},(∀τ,K τ->K' τ)->oJ P l K σ->oJ P l K' σ
 |[],σ,K,K',hk,h=>hk _ h
 |o::r,σ,K,K',hk,h=>OE (fun τ q=>Zgs hk q) h
theorem Hm:∀{l:LT} {σ:AS} {K K':AS->Prop},(∀τ,K τ->K' τ)->vK P l K σ->vK P l K' σ
 |.done,σ,K,K',hk,h=>hk _ h
 |.op o t,σ,K,K',hk,h=>OE (fun τ q=>Hm hk q) h
 |.alt o t r,σ,K,K',hk,h=>⟨OE (fun τ q=>Hm hk q) h.1,Hm hk h.2⟩
 |.no,σ,K,K',hk,h=>trivial
 |.seq t r,σ,K,K',hk,⟨J,h1,h2⟩=>⟨J,h1,fun τ q=>Hm hk (h2 τ q)⟩
theorem ZlU {Q Q':rY->AS->Prop}(hk:∀e τ,Q e τ->Q' e τ):∀{st:Option Code} {σ:AS},kX Q st σ->kX Q' st σ:=by
 intro st σ h;cases st with
 |none=>exact hk _ _ h
 |some c=>cases c<;>first|exact hk _ _ h|exact h.elim
theorem KF:∀{c:bJ} {σ:AS} {Q Q':rY->AS->Prop},uE P c Q σ->(∀e τ,Q e τ->Q' e τ)->uE P c Q' σ
 |.skip,σ,Q,Q',h,hk=>hk _ _ h
 |.region ops,σ,Q,Q',h,hk=>Zgs (fun τ q=>hk _ _ q) h
 |.iZ t,σ,Q,Q',h,hk=>Hm (fun τ q=>hk _ _ q) h
 |.seq a b,σ,Q,Q',h,hk=>KF (c:=a) h (fun e τ q=>by
   cases e with
   |normal=>exact KF (c:=b) q hk
   |exit id=>exact hk _ _ q
   |ret=>exact hk _ _ q)
 |.cond c a b,σ,Q,Q',h,hk=>by
   unfold uE at h ⊢;split at h
   .split at h
    .rename_i e;rw[if_pos e];exact KF h hk
    .rename_i e;rw[if_neg e];exact KF h hk
   .exact h.elim
 |.block id c,σ,Q,Q',h,hk=>KF (c:=c) h (fun e τ q=>by
   cases e with
   |normal=>exact hk _ _ q
   |exit LZ=>
    by_cases e:LZ=id
    .simp only[j6,e,if_true]at q ⊢;exact hk _ _ q
    .simp only[j6,e,if_false]at q ⊢;exact hk _ _ q
   |ret=>exact hk _ _ q)
 |.loop c,σ,Q,Q',⟨I,n,τ,h1,h2,h3⟩,hk=>⟨I,n,τ,h1,h2,fun n τ hI=>KF (c:=c) (h3 n τ hI) (fun e τ q=>by
   cases e with
   |normal=>exact q
   |exit id=>exact hk _ _ q
   |ret=>exact hk _ _ q)⟩
 |.exit id,σ,Q,Q',h,hk=>hk _ _ h
 |.ret,σ,Q,Q',h,hk=>hk _ _ h
 |.vF nt g C la lb ps,σ,Q,Q',⟨Oy,Ah,fz,aF,tm,lK,gf,fs,cs,B,h1,h2,h3,h4,h5,h6,h7,h8⟩,hk=>⟨Oy,Ah,fz,aF,tm,lK,gf,fs,cs,B,h1,h2,h3,h4,h5,h6,h7,h8.mono (fun r B' ⟨e1,e2,e3⟩=>⟨e1,e2,by
   revert e3;cases(((cK aF lK).bI (nt+1)).lY (eY aF (nt+1) B')).b (.loc nt 0)with
   |none=>exact fun h=>h.elim
   |some b=>cases b<;>first|exact fun h=>h.elim|exact fun h=>ZlU hk h⟩)⟩
end
section
variable {P:Program}{TY:TK}
theorem FU.mono {i:Nat}{bU:List AV}{B:List (Site×aL)}{nZ P2:AV->List (Site×aL)->Prop}(h:FU P i bU B nZ)(hp:∀r B',nZ r B'->P2 r B'):FU P i bU B P2:=
 fun w m ρ vs a1 a2 a3 a4=>let ⟨r,k1,k2,k3⟩:=h w m ρ vs a1 a2 a3 a4;⟨r,k1,k2,k3.mono (fun e w' ⟨v,r,B',bW,m',q1,q2,q3⟩=>⟨v,r,B',bW,m',q1,hp _ _ q2,q3⟩)⟩
mutual
theorem PV.beq_eq:∀(x y:PV),x.beq y=true->x=y
 |.int k a,y,h=>by cases y<;>simp[PV.beq]at h;rw[h.1,h.2]
 |.bool a,y,h=>by cases y<;>simp[PV.beq]at h;rw[h]
 |.str a,y,h=>by
  cases y<;>simp[PV.beq]at h;rename_i b;obtain⟨a⟩:=a;obtain⟨b⟩:=b
  have:a=b:=h
  rw[this]
 |.eU,y,h=>by cases y<;>simp[PV.beq]at h<;>rfl
 |.dP,y,h=>by cases y<;>simp[PV.beq]at h<;>rfl
 |.cR,y,h=>by cases y<;>simp[PV.beq]at h<;>rfl
 |.eV,y,h=>by cases y<;>simp[PV.beq]at h<;>rfl
 |.P6,y,h=>by cases y<;>simp[PV.beq]at h<;>rfl
 |.emp a,y,h=>by cases y<;>simp[PV.beq]at h;rw[h]
 |.aE a n xs,y,h=>by
  cases y<;>simp[PV.beq]at h;rw[h.1.1,h.1.2,PV.SL _ _ h.2]
 |.ref xs,y,h=>by cases y<;>simp[PV.beq]at h;rw[PV.SL _ _ h]
 |.fn f a b,y,h=>by
  cases y<;>simp[PV.beq]at h;rw[h.1.1,PV.SL _ _ h.1.2,PV.SL _ _ h.2]
 |.agg xs,y,h=>by cases y<;>simp[PV.beq]at h;rw[PV.SL _ _ h]
 |.bM xs,y,h=>by cases y<;>simp[PV.beq]at h;rw[PV.SL _ _ h]
 |.iface t x,y,h=>by
  cases y<;>simp[PV.beq]at h;rw[h.1,PV.beq_eq _ _ h.2]
theorem PV.SL:∀(x y:List PV),PV.DT x y=true->x=y
 |[],[],_=>rfl
 |[],_::_,h=>by simp[PV.DT]at h
 |_::_,[],h=>by simp[PV.DT]at h
 |x::xs,y::ys,h=>by
  simp only[PV.DT,dK]at h;rw[PV.beq_eq _ _ h.1,PV.SL _ _ h.2]
end
end
def GI:Code->List (Code×Code)
 |.seq a b=>GI a++GI b
 |.cond _ a b=>GI a++GI b
 |.block _ c=>GI c
 |.loop c=>GI c
 |.scope c=>GI c
 |.rangeFunc _ _ a b=>(a,b)::(GI a++GI b)
 |_=>[]
def fX (P:Program)(f:FuncId)(k:Nat):Code×Code:=match P.funcs[f]? with
 |some fn=>match fn.body with
  |some c=>(GI c).getD k (.skip,.skip)
  |none=>(.skip,.skip)
 |none=>(.skip,.skip)
def pE (l:List ((Nat×List Nat)×(bJ×bJ×(Code×Code)))):TK:=fun nt ps=>l.lookup (nt,ps)
theorem Fw {P:Program}{TY:TK}{f:FuncId}{F:aZ}(h:fV P f=some F)(ht:kQ TY F.code):yZ P TY F.code:=by
 unfold fV at h;split at h
 .split at h
  .cases h
  .split at h
   .split at h
    .rename_i l r h1 h2;cases h;exact Ztl _ _ h1 ht
    .cases h
   .cases h
 .cases h
section
open Go.RowKit Go.ChangeShapes Go.WideShapes
theorem cV.but {w w':World}(h:cV [] w w')(may:MemPlace->Prop):w.keptBut w' may:=
 ⟨h.os,h.output,fun i hi=>by
  rw[h.block i hi (by simp)];cases w.heap[i]? with
  |none=>rfl
  |some o=>cases o<;>first|exact⟨rfl,rfl,rfl,fun _ _=>rfl⟩|exact .inr ⟨rfl,rfl⟩|rfl⟩
theorem Znq {H:Type}{enc:TypeId×Value->H}{P:Program}{f:Func}{s:ChangeSpec}{apart fresh handsOn again:Bool}{W W':World}{args:Array Value}{v:Value}{ds gs:List (DataW H)}{before pa pv:List MemPlace}
  (hW:DataW.Whole enc P f.params.toList s.vars apart W args.toList ds gs before)
  (eO:∀(b:Nat) (sp:Nat->Bool) (hd:Bool),DataW.TrodAll enc P W' b sp hd f.resultTypes.toList (v.resultList f.resultTypes.size) (s.fn H (ds++gs)).results [])
  (fY:∀sp:Nat->Bool,(∀p∈before,sp p.block=true)->DataW.TrodAll enc P W' 0 sp true f.params.toList args.toList (s.fn H (ds++gs)).args pa)
  (K7:∀sp:Nat->Bool,(∀p∈before,sp p.block=true)->DataW.TrodVars enc P W' sp s.vars (s.fn H (ds++gs)).vars pv)
  (yE:before=pa++pv) (hk:cV [] W W')
  (cU:∀(j:Nat) (t:TypeId) (r:Value),f.resultTypes[j]?=some t->(v.resultList f.resultTypes.size)[j]?=some r->Value.okWide P W' .any 0 t r):
  s.post enc P f apart fresh handsOn again W args v W':=by
 have aI:=fun p hp=>hW.lt p hp
 have hold:∀p∈before,(fun b=>decide (b<W.heap.size)) p.block=true:=fun p hp=>by simpa using hW.lt p hp
 refine⟨ds,gs,before,[],pa,pv,hW,eO _ _ _,fY _ hold,K7 _ hold,World.keptBut_mono (fun p hp=>⟨hp,?_⟩) (hk.but (·∈before)),fun _=>?_⟩
 .rw[yE,sE]at hp;exact Or.inr hp
 .obtain⟨_,_,_,_,_,hz,hn⟩:=hW;refine⟨cU,_,_,([]++pa)++pv,⟨[]++pa,pv,trodAll_append (fY _ (fun _ _=>rfl)) (eO _ _ _),K7 _ (fun _ _=>rfl),rfl,?_,?_⟩,?_⟩
  .intro b off hp;have MG:MemPlace.cell b off∈before:=by rw[yE];simpa using hp
   have hb:b<W.heap.size:=aI _ MG
   have:=hz b off MG
   unfold World.frozen? at this ⊢;rw[hk.block b hb (by simp)];exact this
  .intro ha
   have:=hn ha
   rw[yE]at this;simpa using this
  .intro p hp _;rw[yE];simpa using hp
theorem Zl3 {P:Program}{f:FuncId}{xs:List PV}{b:Bool}(h:cN P f (xs.map .pv) [] (fun r _=>r=.pv (.bool b))){w:World}{vs:Array Value}(hl:vs.size=xs.length)(hv:∀(j:Nat) (v:Value) (x:PV),vs[j]?=some v->xs[j]?=some x->dG w.mem v x)(hg:nL w.mem w:=by exact trivial):
  Calls P f vs w fun e w'=>e=.returned (.bool b)/\cV [] w w':=by
 refine(h.2 w w.mem (fun _=>default) vs (vA.nil _ _ _) ⟨Le.refl _,hg,List.nodup_nil⟩ (by simpa using hl) (fun j d c h1 h2=>?_)).mono fun e w' ⟨v,r,B',bW,m',he,hr,_,_,_,_,_,_,lF,hk⟩=>?_
 .rw[bR]at h2;obtain⟨x,k1,rfl⟩:=eA.1 h2;exact .pv _ _ (hv j d x h1 k1)
 .subst hr;rw[lF.NR]at he;exact⟨he,hk⟩
end
section
open Go.RowKit Go.ChangeShapes Go.WideShapes Go.Deep
section
variable {H:Type}{enc:TypeId×Value->H}{P:Program}{w W W':World}{sp:Nat->Bool}{held:Bool}
theorem Zrc {b o n:Nat}{cs:List Value}(h:w.cells? 0 ⟨b,o,none⟩ n=some cs):At w.mem b o cs:=by
 obtain⟨_,h1,h2⟩:=World.cells?_some h;refine At.j3 fun j u hj=>?_
 have aI:=(bZ.1 hj).1;have h3:=h2 j (by omega);rw[hj]at h3;have e:(⟨b,o,none⟩:Addr).add j=⟨b,o+j,none⟩:=by
  unfold Addr.add;split
  .rename_i h0;subst h0;rfl
  .rfl
 rw[e]at h3;exact h3
structure F8 (m:Mem)(n:Nat)(cs:List Value)(x:PV):Prop where
 l1:cs.length=n
 l2:x.cells.length=n
 one:∀d∈cs,d.oneCell'=true
 rd:∀(j:Nat) (d:Value) (c:PV),cs[j]?=some d->x.cells[j]?=some c->dG m d c
theorem ZjK {α β:Type}{p:Nat->α->β->Prop}:∀(l:List α),(∀(i:Nat) (a:α),l[i]?=some a->∃b,p i a b)->∃r:List β,r.length=l.length/\∀(i:Nat) (a:α) (b:β),l[i]?=some a->r[i]?=some b->p i a b:=by
 intro l;induction l generalizing p with
 |nil=>exact fun _=>⟨[],rfl,fun i a b h=>by simp at h⟩
 |cons x l ih=>
  intro h;obtain⟨b,hb⟩:=h 0 x rfl;obtain⟨r,h1,h2⟩:=ih (p:=fun i=>p (i+1)) (fun i a ha=>h (i+1) a (by simpa using ha));refine⟨b::r,by simp[h1],fun i a b' ha nO=>?_⟩;cases i with
  |zero=>simp at ha nO;subst ha nO;exact hb
  |succ i=>exact h2 i a b' (by simpa using ha) (by simpa using nO)
theorem ZpC {α:Type}{t e:TypeId}{n:Nat}(f:α->PV)(Q:α->Prop)(ht:P.underlying t=some (.slice e))(hn:P.cellsOf e=n){fuel:Nat}{v:Value}{x:DataW H×List MemPlace}(h:DataW.trod enc P w 0 sp held fuel t [v]=some x)
  (hs:∀a len cap,v=.slice (some a) len cap->a.spot=none) (he:∀(k:Nat) (cs:List Value) (y:DataW H×List MemPlace),DataW.trod enc P w 0 sp held k e cs=some y->cs.length=n->∃a:α,Q a/\F8 w.mem n cs (f a)):
  ∃l:List α,(∀a∈l,Q a)/\l.length<=9223372036854775807/\dG w.mem v (.aE false n (l.map f)):=by
 rcases open_slice ht h with⟨h0,_⟩|⟨a,len,cap,m,k,D,Pl,h0,_,hl,hc,hm,_,hx⟩
 .have:v=.slice none 0 0:=by simpa using h0
  subst this;refine⟨[],fun a ha=>by simp at ha,by simp,?_⟩;exact .aE none 0 false n [] (fun _=>[]) (by simp) (by simp) (fun _=>rfl) (fun A hA=>by cases hA) (fun hh=>by cases hh) (fun i x hx=>by simp at hx) (fun i x hx=>by simp at hx) (fun i x j d c hx=>by simp at hx)
 .have hv:v=.slice (some a) len cap:=by simpa using h0
  subst hv;have jM:=hs _ _ _ rfl;obtain⟨b,o,s⟩:=a;simp only at jM;subst jM;have T8:len<=m:=by rw[hm];split<;>omega
  have QS:∀(i:Nat) (u:Nat),(List.range len)[i]?=some u->∃z:List Value×α,Q z.2/\At w.mem b (o+i*n) z.1/\F8 w.mem n z.1 (f z.2):=by
   intro i u hu;have hi:i<len:=by have:=(bZ.1 hu).1;simpa using this
   obtain⟨iK,h1,h2⟩:=hx i (by omega);rw[hn]at h1;obtain⟨_,hlen,_⟩:=World.cells?_some h1;obtain⟨z,X9,P8⟩:=he _ _ _ h2 hlen;refine⟨(iK,z),X9,?_,P8⟩;have e:(⟨b,o,none⟩:Addr).add (i*n)=⟨b,o+i*n,none⟩:=by
    unfold Addr.add;split
    .rename_i h0;rw[h0];rfl
    .rfl
   rw[e]at h1;exact Zrc h1
  obtain⟨r,C9,C8⟩:=ZjK (List.range len) QS;simp only[List.length_range]at C9;have Z6:∀(i:Nat) (z:List Value×α),r[i]?=some z->Q z.2/\At w.mem b (o+i*n) z.1/\F8 w.mem n z.1 (f z.2):=fun i z hz=>by
   have hi:i<len:=by have:=(bZ.1 hz).1;omega
   exact C8 i i z (by simp[hi]) hz
  refine⟨r.map (·.2),fun a ha=>?_,?_,?_⟩
  .obtain⟨z,hz,rfl⟩:=iL.1 ha;obtain⟨i,hi⟩:=iM.1 hz;exact(Z6 i z hi).1
  .rw[fQ,C9];have:maxLen=9223372036854775807:=rfl;omega
  .have hlen:((r.map (·.2)).map f).length=len:=by simp[C9]
   have key:∀(i:Nat) (x:PV),((r.map (·.2)).map f)[i]?=some x->∃z,r[i]?=some z/\x=f z.2:=fun i x hx=>by
    rw[List.map_map,bR]at hx;obtain⟨z,h1,h2⟩:=eA.1 hx;exact⟨z,h1,h2.symm⟩
   have QT:∀(i:Nat) (z:List Value×α),r[i]?=some z->(r.getD i ([],z.2)).1=z.1:=fun i z hz=>by simp[List.getD_eq_getElem?_getD,hz]
   have wG:∀(i:Nat) (z:List Value×α),r[i]?=some z->(match r[i]? with|some z=>z.1|none=>[])=z.1:=fun i z hz=>by rw[hz]
   rw[<-hlen];refine .aE (some ⟨b,o,none⟩) cap false n _ (fun i=>match r[i]? with|some z=>z.1|none=>[]) (by omega) (by have:maxLen=9223372036854775807:=rfl;omega) (fun hh=>by cases hh) (fun A hA=>by cases hA;rfl) (fun hh=>by cases hh) (fun i x hx=>?_) (fun i x hx=>?_) (fun i x j d c hx=>?_)
   .obtain⟨z,hz,rfl⟩:=key i x hx;refine⟨b,o,rfl,?_⟩;rw[wG i z hz];exact(Z6 i z hz).2.1
   .obtain⟨z,hz,rfl⟩:=key i x hx;rw[wG i z hz];exact⟨(Z6 i z hz).2.2.l1,(Z6 i z hz).2.2.l2,(Z6 i z hz).2.2.one⟩
   .obtain⟨z,hz,rfl⟩:=key i x hx;rw[wG i z hz];exact(Z6 i z hz).2.2.rd j d c
theorem Zmd (hl:laidOutB P=true)(hm:mapsRowed P=true)(CR:((List.range P.types.size).all fun t=>match P.underlying t with|some (.slice e)=>decide (0<P.cellsOf e)|_=>true)=true){ts:List TypeId}(Jl:∀t∈ts,t<P.types.size)
  {vs:List Value} {ds:List (DataW H)} {p:List MemPlace} (h:DataW.TrodAll enc P W 0 (fun _=>true) true ts vs ds p) (hp:∀x∈p,sp x.block=true) (hk:cV [] W W'):DataW.TrodAll enc P W' 0 sp true ts vs ds p:=by
 have h1:=DataW.TrodAll.respare (kids_rows hl hm) (slices_full_of P CR) Jl h hp;clear h hp;induction ts generalizing vs ds p with
 |nil=>
  obtain⟨rfl,rfl,rfl⟩:=trodAll_nil h1;exact trodAll_mk0
 |cons t ts ih=>
  obtain⟨v,YC,d,ds',a,b,rfl,rfl,rfl,⟨n,hn⟩,h2⟩:=trodAll_cons h1;refine⟨a,b,⟨n,DataW.trod_carry n _ _ _ hn fun x hx=>?_⟩,ih (fun t ht=>Jl t (by simp[ht])) h2,rfl⟩;have aI:=DataW.trod_lt n _ _ _ hn x hx;cases x with
  |cell b o=>
   show W'.cell? _=W.cell? _;unfold World.cell?;rw[hk.block b aI (by simp)]
  |map b=>
   show W'.heap[b]?=W.heap[b]?;rw[hk.block b aI (by simp)]
theorem ZpI {f:Func}{s:ChangeSpec}{args:Array Value}{ds gs:List (DataW H)}{before:List MemPlace}{tb:TypeId}(hl:laidOutB P=true)(hm:mapsRowed P=true)(CR:((List.range P.types.size).all fun t=>match P.underlying t with|some (.slice e)=>decide (0<P.cellsOf e)|_=>true)=true)
  (Jl:∀t∈f.params.toList,t<P.types.size) (K7:s.vars=[]) (hs:s.fn H (ds++gs)={ results:=[.lit (.bool true)],args:=ds }) (eO:f.resultTypes=#[tb]) (htb:P.underlying tb=some .bool)
  (hW:DataW.Whole enc P f.params.toList s.vars false W args.toList ds gs before) (hk:cV [] W W'):s.post enc P f false true false false W args (.bool true) W':=by
 have Ve:=hW;obtain⟨p,q,hA,hV,rfl,hfz,pW⟩:=hW;rw[K7]at hV;obtain⟨rfl,rfl⟩:=trodVars_none hV;refine Znq (pa:=p) (pv:=[]) Ve (fun b sp hd=>?_) (fun sp jM=>?_) (fun sp jM=>?_) rfl hk ?_
 .rw[hs,eO];exact trodAll_cons_mk (shut_bool htb _) trodAll_mk0
 .rw[hs];exact Zmd hl hm CR Jl hA (fun x hx=>jM x (by simp[hx])) hk
 .rw[hs,K7];rfl
 .intro j t r h1 h2;rw[eO]at h1 h2;exact ok_one (f:=f) eO rfl (okWide_bool_mk htb _) j t r (by rw[eO];exact h1) (by rw[eO];exact h2)
end
end
section
open Go.RowKit Go.ChangeShapes Go.WideShapes Go.Deep
section
variable {H:Type}{enc:TypeId×Value->H}{P:Program}{w W W':World}{sp:Nat->Bool}{held:Bool}
theorem Znb {α:Type}{t e:TypeId}{n:Nat}(f:α->PV)(Q:α->Prop)(ht:P.underlying t=some (.slice e))(hn:P.cellsOf e=n)(xF:0<n){fuel:Nat}{v:Value}{x:DataW H×List MemPlace}(h:DataW.trod enc P w 0 sp held fuel t [v]=some x)
  (he:∀(k:Nat) (cs:List Value) (y:DataW H×List MemPlace),DataW.trod enc P w 0 sp held k e cs=some y->cs.length=n->∃a:α,Q a/\F8 w.mem n cs (f a)):
  ∃l:List α,(∀a∈l,Q a)/\l.length<=9223372036854775807/\dG w.mem v (.aE false n (l.map f)):=by
 by_cases hv:∃a cap,v=.slice (some a) 0 cap/\cap<=maxLen
 .obtain⟨a,cap,rfl,hc⟩:=hv;refine⟨[],fun a ha=>by simp at ha,by simp,?_⟩;have sR:cap<=9223372036854775807:=by have:maxLen=9223372036854775807:=rfl;omega
  exact .aE (some a) cap false n [] (fun _=>[]) (by simp) sR (fun e=>by cases e) (fun _ _=>rfl) (fun hh=>by cases hh) (fun i x hx=>by simp at hx) (fun i x hx=>by simp at hx) (fun i x j d c hx=>by simp at hx)
 .refine ZpC f Q ht hn h (fun a len cap e=>?_) he;subst e;rcases open_slice ht h with⟨h0,_⟩|⟨a',Rf,JC,m,k,D,Pl,h0,_,hl,hc,hm,_,hx⟩
  .simp at h0
  .simp at h0;obtain⟨rfl,rfl,rfl⟩:=h0;have hlen:0<len:=by
    rcases Nat.eq_zero_or_pos len with e|e
    .subst e;exact absurd ⟨a,cap,rfl,hc⟩ hv
    .exact e
   have T8:len<=m:=by rw[hm];split<;>omega
   obtain⟨cs,h1,_⟩:=hx 0 (by omega);obtain⟨_,h2,h3⟩:=World.cells?_some h1;have h4:=h3 0 (by omega);rw[aX (by omega)]at h4
   have:=World.cell?_spot h4
   simpa[Addr.add]using this
end
end
def aD (P:Program)(f:FuncId)(xs:List PV)(y:PV):Prop:=cN P f (xs.map .pv) [] (fun r B=>r=.pv y/\B=[])
def hold (K:AS->Prop):AS->Prop:=K
def B4 (r:Option (AV×AS))(l:lZ)(d:Nat)(K:AV->AS->Prop)(σ:AS):Prop:=match r with
 |some (a,τ)=>K a τ
 |none=>bY l d K σ
def A6 (P:Program)(o:LO)(K:AV->AS->Prop)(σ:AS):Prop:=match o.op with
 |.call _ _=>mA P o K σ
 |l=>B4 (EN l (o.dst.getD 0) σ) l (o.dst.getD 0) K σ
def E7 (P:Program)(a:Option AV)(want:Bool)(o:LO)(K:AS->Prop)(σ:AS):Prop:=match a with
 |some (.pv (.bool b))=>if b=want then A6 P o (fun a τ=>K (τ.oU o.dst a)) σ else K (σ.oU o.dst A3)
 |some (.pv (.bM []))=>K (σ.oU o.dst A3)
 |_=>False
def EO (P:Program)(o:LO)(K:AS->Prop)(σ:AS):Prop:=match o.g with
 |none=>A6 P o (fun a τ=>K (τ.oU o.dst a)) σ
 |some (t,want)=>E7 P (σ.t t) want o K σ
def B5 (P:Program):List LO->(AS->Prop)->AS->Prop
 |[],K,σ=>K σ
 |o::r,K,σ=>EO P o (hold (B5 P r K)) σ
def gO (P:Program):LT->(AS->Prop)->AS->Prop
 |.done,K,σ=>K σ
 |.op o t,K,σ=>EO P o (hold (gO P t K)) σ
 |.alt o t r,K,σ=>EO P o (hold (gO P t K)) σ/\gO P r K σ
 |.no,_,_=>True
 |.seq t r,K,σ=>∃J:AS->Prop,gO P t (fun zA=>∃τ,Sub τ zA/\J τ) σ/\∀τ,J τ->gO P r K τ
def s4 (a:AV)(A B:AS->Prop)(σ:AS):Prop:=match a with
 |.pv (.bool true)=>A σ
 |.pv (.bool false)=>B σ
 |_=>False
def eL (P:Program):bJ->(rY->AS->Prop)->AS->Prop
 |.skip,Q,σ=>Q .normal σ
 |.region ops,Q,σ=>B5 P ops (Q .normal) σ
 |.iZ t,Q,σ=>gO P t (Q .normal) σ
 |.seq a b,Q,σ=>eL P a (iU (hold (eL P b Q)) Q) σ
 |.cond c a b,Q,σ=>s4 (σ.o c) (hold (eL P a Q)) (hold (eL P b Q)) σ
 |.block id c,Q,σ=>eL P c (j6 id Q) σ
 |.loop c,Q,σ=>∃(I:Nat->AS->Prop) (n:Nat) (τ:AS),Sub τ σ/\I n τ/\∀n τ,I n τ->eL P c (iU (again I n) Q) τ
 |.exit id,Q,σ=>Q (.exit id) σ
 |.ret,Q,σ=>Q .ret σ
 |.vF nt g C _ _ ps,Q,σ=>J7 P nt g C ps Q σ
section
variable {P:Program}
theorem Zs1 {l:lZ}{d:Nat}{K:AV->AS->Prop}{σ:AS}(h:B4 (EN l d σ) l d K σ):bY l d K σ:=by
 unfold B4 at h;split at h
 .rename_i e;exact ZnD e h
 .exact h
theorem ZmX {o:LO}{K:AV->AS->Prop}{σ:AS}(h:A6 P o K σ):mA P o K σ:=by
 unfold A6 at h;split at h
 .exact h
 .rename_i cZ;unfold mA;split
  .rename_i f args e;exact absurd e (cZ f args)
  .exact Zs1 h
theorem Lk {o:LO}{K:AS->Prop}{σ:AS}(h:EO P o K σ):pL P o K σ:=by
 unfold EO at h;unfold pL;split at h
 .rename_i e;(try rw[e]);exact ZmX h
 .rename_i t want e
  (try rw[e])
  (try dsimp only)
  unfold E7 at h;split at h
  .rename_i b hb
   (try rw[hb])
   (try dsimp only)
   split at h
   .rename_i e2;rw[if_pos e2];exact ZmX h
   .rename_i e2;rw[if_neg e2];exact h
  .rename_i hb;(try rw[hb]);exact h
  .exact h.elim
theorem Lv:∀{l:List LO} {K:AS->Prop} {σ:AS},B5 P l K σ->oJ P l K σ
 |[],K,σ,h=>h
 |o::r,K,σ,h=>OE (fun τ q=>Lv q) (Lk h)
theorem WY:∀{l:LT} {K:AS->Prop} {σ:AS},gO P l K σ->vK P l K σ
 |.done,K,σ,h=>h
 |.op o t,K,σ,h=>OE (fun τ q=>WY q) (Lk h)
 |.alt o t r,K,σ,h=>⟨OE (fun τ q=>WY q) (Lk h.1),WY h.2⟩
 |.no,K,σ,h=>trivial
 |.seq t r,K,σ,⟨J,h1,h2⟩=>⟨J,WY h1,fun τ hJ=>WY (h2 τ hJ)⟩
theorem I8:∀{c:bJ} {Q:rY->AS->Prop} {σ:AS},eL P c Q σ->uE P c Q σ
 |.skip,Q,σ,h=>h
 |.region ops,Q,σ,h=>Lv h
 |.iZ t,Q,σ,h=>WY h
 |.seq a b,Q,σ,h=>by
  have h':eL P a (iU (hold (eL P b Q)) Q) σ:=h;show uE P a (iU (uE P b Q) Q) σ;refine KF (I8 h') (fun e τ q=>?_);cases e with
  |normal=>
   have q':eL P b Q τ:=q;exact I8 q'
  |exit id=>exact q
  |ret=>exact q
 |.cond c a b,Q,σ,h=>by
  have h':s4 (σ.o c) (hold (eL P a Q)) (hold (eL P b Q)) σ:=h;unfold s4 at h';unfold uE;split at h'
  .rename_i e;rw[e];exact I8 (c:=a) h'
  .rename_i e;rw[e];exact I8 (c:=b) h'
  .exact h'.elim
 |.block id c,Q,σ,h=>I8 (c:=c) h
 |.loop c,Q,σ,⟨I,n,τ,h1,h2,h3⟩=>⟨I,n,τ,h1,h2,fun n τ hI=>I8 (c:=c) (h3 n τ hI)⟩
 |.exit id,Q,σ,h=>h
 |.ret,Q,σ,h=>h
 |.vF _ _ _ _ _ _,Q,σ,h=>h
theorem Ou {f:FuncId}{F:aZ}{args:List AV}{B:List (Site×aL)}{R:AV->List (Site×aL)->Prop}(hm:P.follows .mixedOrders=true)(hf:fV P f=some F)(hn:args.length<=F.nt)
  (h:eL P F.code (lA (A8 F.res R)) ⟨eW 0 args,B⟩):cN P f args B R:=ZiN hm hf hn (I8 h)
theorem dY {c:bJ}{Q:rY->AS->Prop}{σ:AS}(I:Nat->AS->Prop)(h0:∃n τ,Sub τ σ/\I n τ)(round:∀J:Nat->AS->Prop,(∀k τ,I k τ->J k τ)->∀n τ,I n τ->eL P c (iU (again J n) Q) τ):eL P (.loop c) Q σ:=
 let ⟨n,τ,h1,h2⟩:=h0;⟨I,n,τ,h1,h2,fun n τ h=>round I (fun _ _ h=>h) n τ h⟩
end
section
variable {P:Program}{σ:AS}{K:AS->Prop}{Q:rY->AS->Prop}{tm:List (Nat×AV)}{bx:List (Site×aL)}
theorem ZtC:hold K ⟨tm,bx⟩=K ⟨tm,bx⟩:=propext ⟨fun h=>h,fun h=>h⟩
theorem Zuw {d:Nat}{a:AV}:AS.put d a ⟨tm,bx⟩=⟨(d,a)::tm,bx⟩:=rfl
theorem ZsW {d:Nat}{a:AV}:AS.oU (some d) a ⟨tm,bx⟩=⟨(d,a)::tm,bx⟩:=rfl
theorem Znl {a:AV}:AS.oU none a ⟨tm,bx⟩=⟨tm,bx⟩:=rfl
theorem Zvg {s:Site}{b:aL}:AS.add s b ⟨tm,bx⟩=⟨tm,(s,b)::bx⟩:=rfl
theorem Zup {s:Site}{b:aL}:AS.set s b ⟨tm,bx⟩=⟨tm,(s,b)::bx⟩:=rfl
theorem ZtN {s:Site}:AS.drop s ⟨tm,bx⟩=⟨tm,bx.filter fun p=>!decide (p.1=s)⟩:=rfl
theorem ZpF {d:Nat}:AS.bI d ⟨tm,bx⟩=⟨tm.map fun p=>(p.1,p.2.bI d),(bx.filter fun p=>!p.1.fP d).map fun p=>(p.1,p.2.bI d)⟩:=rfl
theorem ZpO:B5 P [] K σ=K σ:=propext ⟨fun h=>h,fun h=>h⟩
theorem Znz {o:LO}{r:List LO}:B5 P (o::r) K σ=EO P o (hold (B5 P r K)) σ:=rfl
theorem Zp5:gO P .done K σ=K σ:=rfl
theorem ZuN {o:LO}{t:LT}:gO P (.op o t) K σ=EO P o (hold (gO P t K)) σ:=rfl
theorem ZL {d:Option Nat}{op:lZ}{lt:Bool}:EO P ⟨d,none,op,lt⟩ K σ=A6 P ⟨d,none,op,lt⟩ (fun a τ=>K (τ.oU d a)) σ:=rfl
theorem ZM {d:Option Nat}{t:Nat}{want:Bool}{op:lZ}{lt:Bool}:EO P ⟨d,some (t,want),op,lt⟩ K σ=E7 P (σ.t t) want ⟨d,some (t,want),op,lt⟩ K σ:=rfl
theorem ZuX {b want:Bool}{o:LO}:E7 P (some (.pv (.bool b))) want o K σ=if b=want then A6 P o (fun a τ=>K (τ.oU o.dst a)) σ else K (σ.oU o.dst A3):=rfl
theorem ZtG {o:LO}:E7 P (some (.pv (.bool true))) true o K σ=A6 P o (fun a τ=>K (τ.oU o.dst a)) σ:=rfl
theorem ZtJ {o:LO}:E7 P (some (.pv (.bool false))) false o K σ=A6 P o (fun a τ=>K (τ.oU o.dst a)) σ:=rfl
theorem ZtH {o:LO}:E7 P (some (.pv (.bool true))) false o K σ=K (σ.oU o.dst A3):=rfl
theorem ZtI {o:LO}:E7 P (some (.pv (.bool false))) true o K σ=K (σ.oU o.dst A3):=rfl
theorem ZuW {want:Bool}{o:LO}:E7 P (some (.pv (.bM []))) want o K σ=K (σ.oU o.dst A3):=rfl
theorem Znx {a:AV}{τ:AS}{l:lZ}{d:Nat}{K:AV->AS->Prop}:B4 (some (a,τ)) l d K σ=K a τ:=rfl
theorem Zu4 {A B:AS->Prop}:s4 (.pv (.bool true)) A B σ=A σ:=propext ⟨fun h=>h,fun h=>h⟩
theorem Zu5 {A B:AS->Prop}:s4 (.pv (.bool false)) A B σ=B σ:=propext ⟨fun h=>h,fun h=>h⟩
theorem ZoP:eL P .skip Q σ=Q .normal σ:=propext ⟨fun h=>h,fun h=>h⟩
theorem ZjW {ops:List LO}:eL P (.region ops) Q σ=B5 P ops (Q .normal) σ:=rfl
theorem ZoQ {t:LT}:eL P (.iZ t) Q σ=gO P t (Q .normal) σ:=rfl
theorem Zq8 {a b:bJ}:eL P (.seq a b) Q σ=eL P a (iU (hold (eL P b Q)) Q) σ:=rfl
theorem ZoS {c:bD}{a b:bJ}:eL P (.cond c a b) Q σ=s4 (σ.o c) (hold (eL P a Q)) (hold (eL P b Q)) σ:=rfl
theorem Zmc {id:Nat}{c:bJ}:eL P (.block id c) Q σ=eL P c (j6 id Q) σ:=rfl
theorem ZoR {id:Nat}:eL P (.exit id) Q σ=Q (.exit id) σ:=propext ⟨fun h=>h,fun h=>h⟩
theorem Zq9:eL P .ret Q σ=Q .ret σ:=propext ⟨fun h=>h,fun h=>h⟩
theorem Zsb:iU K Q .normal σ=K σ:=propext ⟨fun h=>h,fun h=>h⟩
theorem Zsc {i:Nat}:iU K Q (.exit i) σ=Q (.exit i) σ:=propext ⟨fun h=>h,fun h=>h⟩
theorem Zsa:iU K Q .ret σ=Q .ret σ:=propext ⟨fun h=>h,fun h=>h⟩
theorem ZqT {i:Nat}:j6 i Q .normal σ=Q .normal σ:=propext ⟨fun h=>h,fun h=>h⟩
theorem ZqS {i:Nat}:j6 i Q .ret σ=Q .ret σ:=propext ⟨fun h=>h,fun h=>h⟩
theorem ZqU {i j:Nat}:j6 i Q (.exit j) σ=if j=i then Q .normal σ else Q (.exit j) σ:=propext ⟨fun h=>h,fun h=>h⟩
theorem Zu0 {F:AS->Prop}:lA F .normal σ=F σ:=propext ⟨fun h=>h,fun h=>h⟩
theorem ZuZ {F:AS->Prop}:lA F .ret σ=F σ:=propext ⟨fun h=>h,fun h=>h⟩
theorem gG {f:bD}{args:List bD}{d:Nat}{K:AV->AS->Prop}{k:Nat}{g:FuncId}{fs xs cs:List PV}{y:PV}(h1:(σ.o f).snap σ k=some (.fn g fs cs))(h2:jI (AV.snap σ k) (args.map σ.o)=some xs)
  (hc:aD P g (fs++xs++cs) y) (hy:y.flat=true) (hK:K (.pv y) σ) {X:Prop}:yV P f args d K σ\/X:=
 .inl (ZiP h1 h2 (hc.mono (fun _ _ h=>h.1)) hy hK)
end
theorem gl0 {α:Type}{a:α}{l:List α}:(a::l)[0]?=some a:=rfl
theorem gl1 {α:Type}{a b:α}{l:List α}:(a::b::l)[1]?=some b:=rfl
theorem gl2 {α:Type}{a b c:α}{l:List α}:(a::b::c::l)[2]?=some c:=rfl
theorem gl3 {α:Type}{a b c d:α}{l:List α}:(a::b::c::d::l)[3]?=some d:=rfl
attribute [simp] gl0 gl1 gl2 gl3 List.getElem?_cons_succ
theorem Zhl {n:Nat}:jT (n:Int)=some n:=KK.2 rfl
theorem ZnN {n:Nat}:jT ((n:Int)+1)=some (n+1):=KK.2 (by omega)
theorem ZuM:jT 0=some 0:=rfl
theorem ZuL:jT 1=some 1:=rfl
theorem ZuK:jT 2=some 2:=rfl
attribute [simp] Zhl ZnN ZuM ZuL ZuK
theorem wrap64 {x:Int}(h:-9223372036854775808<=x/\x<=9223372036854775807):IntKind.i64.wrap x=x:=by rw[IntKind.wrap_i64];omega
theorem ZsF {a b c d:Nat}:(Site.loc a b==Site.loc c d)=(a==c&&b==d):=by rw[qQ];simp
theorem ZsB {a c:Nat}:(Site.par a==Site.par c)=(a==c):=by rw[qQ];simp
theorem Zsx {a c:Nat}:(Site.ret a==Site.ret c)=(a==c):=by rw[qQ];simp
theorem ZsE {a b c:Nat}:(Site.loc a b==Site.par c)=false:=rfl
theorem ZsC {a b c:Nat}:(Site.par c==Site.loc a b)=false:=rfl
theorem ZsD {a b c:Nat}:(Site.loc a b==Site.ret c)=false:=rfl
theorem Zsz {a b c:Nat}:(Site.ret c==Site.loc a b)=false:=rfl
theorem ZsA {a c:Nat}:(Site.par a==Site.ret c)=false:=rfl
theorem Zsy {a c:Nat}:(Site.ret a==Site.par c)=false:=rfl
attribute [simp] ZsF ZsB Zsx ZsE ZsC ZsD Zsz ZsA Zsy
attribute [simp] ZtC Zuw ZsW Znl Zvg Zup ZtN ZpF ZpO Znz Zp5 ZuN ZL ZM ZtG ZtJ ZtH ZtI ZuW ZuX Znx Zu4 Zu5 ZoP ZjW ZoQ Zq8 ZoS Zmc ZoR Zq9 Zsb Zsc Zsa ZqT ZqS ZqU Zu0 ZuZ
attribute [simp] A6 mA EN HC AS.s9 AS.NO AS.o AS.t AS.b AV.bI AV.has AV.qR AV.cells PV.cells AV.wide AV.one eW List.lookup DN DO A8 AS.FJ AS.Kt rK w8 eB aR j9 S4 AS.cont AS.ob AS.tN AS.DV AS.wX AS.JM A3 FX wK KT.ok bV CK.ok gV lR wL
section
attribute [local simp] aL.bI Site.fP
section
variable {P:Program}{σ:AS}{K:AV->AS->Prop}
def rB (σ:AS):List Site->Prop
 |[]=>True
 |s::r=>(∃b,σ.b s=some b/\b.dC dO=true)/\rB σ r
theorem Zeq:∀{l:List Site},rB σ l->∀s∈l,∀b,σ.b s=some b->b.dC dO=true
 |[],_,s,hs,_,_=>by cases hs
 |t::r,h,s,hs,b,hb=>by
  rcases jQ.1 hs with rfl|hs
  .obtain⟨b',h1,h2⟩:=h.1;rw[hb]at h1;cases h1;exact h2
  .exact Zeq h.2 s hs b hb
def aT (outs:List Site)(rs:List oA)(R:AV->List (Site×aL)->Prop)(σ:AS):Prop:=
 ∃l,σ.FJ rs=some l/\(rK l).dC dO=true/\outs.all dO=true/\rB σ outs/\R ((rK l).map (jV outs)) (σ.exp outs outs)
theorem Zq {outs:List Site}{rs:List oA}{R:AV->List (Site×aL)->Prop}{σ:AS}(h:aT outs rs R σ):rI rs R σ:=by
 obtain⟨l,h1,h2,h3,h4,h5⟩:=h;exact⟨[],outs,l,h1,h2,h3,fun s hs b hb=>Zeq h4 s hs b hb,h5⟩
theorem Oq (outs:List Site){f:FuncId}{F:aZ}{args:List AV}{B:List (Site×aL)}{R:AV->List (Site×aL)->Prop}(hm:P.follows .mixedOrders=true)(hf:fV P f=some F)(hn:args.length<=F.nt)
  (h:eL P F.code (lA (aT outs F.res R)) ⟨eW 0 args,B⟩):cN P f args B R:=Hy hm hf hn (fun _ h=>Zq h) (I8 h)
theorem xM (d:Nat)(aF:List Site){f:bD}{args:List bD}{d0:Nat}{g:FuncId}{fs cs:List AV}{B:List (Site×aL)}{gF:List AV}{R:AV->List (Site×aL)->Prop}(h1:mT (σ.o f)=some (g,fs,cs))(h2:DZ aF=true)(h3:aF.all (fun s=>!s.fP d)=true)
  (hB:oV σ aF 0 aF=some B) (h4:AV.hZ (fun x=>aF.contains x) (fs++args.map σ.o++cs)=true) (ha:AV.iR (kB aF) (fs++args.map σ.o++cs)=gF) (hC:cN P g gF B R)
  (hK:∀r B',R r B'->r.dC (bX aF)=true/\(∀p∈B',bX aF p.1=true/\p.2.dC (bX aF)=true)/\K (r.map (gH aF d)) (((cK aF σ).bI d).lY (eY aF d B'))):
  yV P f args d0 K σ\/(FZ P f args K σ\/GA P f args K σ):=by
 refine .inr (.inl ⟨d,[],aF,g,fs,cs,B,?_,SZ h2,h3,hB,h4,?_⟩)
 .unfold mT at h1;split at h1
  .rename_i e;cases h1;exact .inl e
  .rename_i tE iK e;cases h1;exact .inr ⟨tE,iK,e,rfl,rfl⟩
  .cases h1
 .have:(fs++args.map (aM [] σ).o++cs)=fs++args.map σ.o++cs:=rfl
  rw[this,ha];exact hC.mono hK
theorem AP {f:bD}{args:List bD}{d:Nat}{K:AV->AS->Prop}{k:Nat}{g:FuncId}{fs xs cs:List PV}{y:PV}(h1:(σ.o f).snap σ k=some (.fn g fs cs))(h2:jI (AV.snap σ k) (args.map σ.o)=some xs)
  (hc:aD P g (fs++xs++cs) y) (hy:y.flat=true) (hK:K (.pv y) σ):yV P f args d K σ:=ZiP h1 h2 (hc.mono (fun _ _ h=>h.1)) hy hK
end
end
section
attribute [local simp] aL.bI Site.fP
def dM (n:Nat):List Site:=(List.range n).map .par
def laid:Nat->List aL->List (Site×aL)
 |_,[]=>[]
 |i,b::r=>(.par i,b)::laid (i+1) r
def Site.lt (n:Nat):Site->Bool
 |.par i=>decide (i<n)
 |_=>false
def ED (n:Nat)(L:List aL):Prop:=∀b∈L,b.dC (Site.lt n)=true
theorem XE {n:Nat}{s:Site}:s∈dM n↔s.lt n=true:=by
 unfold dM;rw[iL];constructor
 .rintro⟨i,hi,rfl⟩;simpa[Site.lt]using hi
 .intro h;cases s with
  |par i=>exact⟨i,by simpa[Site.lt]using h,rfl⟩
  |loc d j=>cases h
  |ret j=>cases h
theorem Zcc {n:Nat}{s:Site}:(dM n).contains s=s.lt n:=by
 rw[qQ,jF];exact XE
theorem Hn {n i:Nat}(h:i<n):(dM n)[i]?=some (.par i):=by simp[dM,h]
theorem Zje {n:Nat}:(dM n).Nodup:=by
 unfold dM;rw[DS,List.pairwise_map];exact List.Pairwise.imp (fun h e=>h (by cases e;rfl)) (DS.1 List.nodup_range)
theorem Znv {n i:Nat}(h:i<n):(dM n).findIdx? (fun x=>decide (x=.par i))=some i:=by
 obtain⟨j,h1,h2⟩:=Ft (aF:=dM n) (s:=.par i) (XE.2 (by simpa[Site.lt]using h));rw[h1];have hj:j<n:=by
  have:=(bZ.1 h2).1
  simpa[dM]using this
 rw[Hn hj]at h2;cases h2;rfl
theorem Zep {n:Nat}{s:Site}(h:s.lt n=false):(dM n).findIdx? (fun x=>decide (x=s))=none:=by
 rw[List.findIdx?_eq_none_iff];intro x hx;rw[XE]at hx
 have:x≠s:=fun e=>by rw[e,h]at hx;cases hx
 simpa using this
theorem Ziw (n:Nat):kB (dM n)=id:=by
 funext s;unfold kB;cases hs:s.lt n with
 |true=>
  cases s with
  |par i=>rw[Znv (by simpa[Site.lt]using hs)];rfl
  |loc d j=>cases hs
  |ret j=>cases hs
 |false=>rw[Zep hs];rfl
theorem Zer {n d:Nat}{s:Site}(h:s.lt n=true):gH (dM n) d s=s:=by
 cases s with
 |par i=>show(dM n).getD i default=_;rw[List.getD_eq_getElem?_getD,Hn (by simpa[Site.lt]using h)];rfl
 |loc d j=>cases h
 |ret j=>cases h
theorem ZgL (n:Nat):jV (dM n)=id:=by
 funext s;unfold jV;cases s with
 |par i=>rfl
 |loc d j=>dsimp only;rw[Zep rfl];rfl
 |ret j=>dsimp only;rw[Zep rfl];rfl
mutual
theorem AV.Xk {g:Site->Site}{q:Site->Bool}(hg:∀s,q s=true->g s=s):∀a:AV,a.dC q=true->a.map g=a
 |.any,_=>rfl
 |.pv _,_=>rfl
 |.ptr _ _,h=>by simp only[AV.map];rw[hg _ h]
 |.lB _ _ _ _,h=>by simp only[AV.map];rw[hg _ h]
 |.vec _ _ _ _,h=>by simp only[AV.map];rw[hg _ h]
 |.mp _,h=>by simp only[AV.map];rw[hg _ h]
 |.nM _,h=>by simp only[AV.map];rw[hg _ h]
 |.fn f fs cs,h=>by
  simp only[AV.dC,dK]at h;simp only[AV.map,AV.WB hg fs h.1,AV.WB hg cs h.2]
 |.agg cs,h=>by simp only[AV.map,AV.WB hg cs h]
 |.bM vs,h=>by simp only[AV.map,AV.WB hg vs h]
theorem AV.WB {g:Site->Site}{q:Site->Bool}(hg:∀s,q s=true->g s=s):∀l:List AV,AV.hZ q l=true->AV.iR g l=l
 |[],_=>rfl
 |a::r,h=>by
  simp only[AV.hZ,dK]at h;simp only[AV.iR,AV.Xk hg a h.1,AV.WB hg r h.2]
end
mutual
theorem AV.WA {q q':Site->Bool}(hq:∀s,q s=true->q' s=true):∀a:AV,a.dC q=true->a.dC q'=true
 |.any,_=>rfl
 |.pv _,_=>rfl
 |.ptr _ _,h=>hq _ h
 |.lB _ _ _ _,h=>hq _ h
 |.vec _ _ _ _,h=>hq _ h
 |.mp _,h=>hq _ h
 |.nM _,h=>hq _ h
 |.fn f fs cs,h=>by
  simp only[AV.dC,dK]at h ⊢;exact⟨AV.NT hq fs h.1,AV.NT hq cs h.2⟩
 |.agg cs,h=>AV.NT hq cs h
 |.bM vs,h=>AV.NT hq vs h
theorem AV.NT {q q':Site->Bool}(hq:∀s,q s=true->q' s=true):∀l:List AV,AV.hZ q l=true->AV.hZ q' l=true
 |[],_=>rfl
 |a::r,h=>by
  simp only[AV.hZ,dK]at h ⊢;exact⟨AV.WA hq a h.1,AV.NT hq r h.2⟩
end
theorem aL.WA {q q':Site->Bool}(hq:∀s,q s=true->q' s=true){b:aL}(h:b.dC q=true):b.dC q'=true:=by
 cases b with
 |cells bU=>exact AV.NT hq bU h
 |loop C ps nt tm st=>exact AV.NT hq _ h
 |arr e n xs=>rfl
 |map es=>rfl
 |ext E=>rfl
theorem aL.ZxA {g:Site->Site}{q:Site->Bool}(hg:∀s,q s=true->g s=s){b:aL}(h:b.dC q=true):b.iW g=b:=by
 cases b with
 |cells bU=>simp only[aL.iW];rw[AV.WB hg bU h]
 |loop C ps nt tm st=>
  simp only[aL.iW];congr 1;have h':∀p∈tm,p.2.dC q=true:=fun p hp=>by
   obtain⟨i,hi⟩:=iM.1 hp;exact W5 (i:=i) h (by rw[bR,hi];rfl)
  clear h;induction tm with
  |nil=>rfl
  |cons p r ih=>
   simp only[iQ];rw[AV.Xk hg p.2 (h' p (by simp)),ih (fun x hx=>h' x (by simp[hx]))]
 |arr e n xs=>rfl
 |map es=>rfl
 |ext E=>rfl
theorem aL.Xe (b:aL):b.iW id=b:=by
 cases b with
 |cells bU=>simp only[aL.iW,SP]
 |loop C ps nt tm st=>
  simp only[aL.iW,Fp];congr 1;exact List.map_id tm
 |arr e n xs=>rfl
 |map es=>rfl
 |ext E=>rfl
theorem Zhu {n:Nat}{s:Site}(h:s.lt n=true):bX (dM n) s=true:=by
 cases s with
 |par i=>simpa[bX,dM,Site.lt]using h
 |loc d j=>cases h
 |ret j=>rfl
theorem ZkR {n:Nat}{s:Site}(h:s.lt n=true):dO s=true:=by
 cases s with
 |par i=>rfl
 |loc d j=>rfl
 |ret j=>cases h
theorem Zz:∀(L:List aL) (i j:Nat),(laid i L).lookup (.par (i+j))=L[j]?
 |[],i,j=>by simp[laid]
 |b::r,i,0=>by simp[laid]
 |b::r,i,j+1=>by
  rw[laid,jG (by simp),show i+(j+1)=(i+1)+j by omega,Zz r (i+1) j];rfl
theorem ZkZ:∀(L:List aL) (i:Nat) (p:Site×aL),p∈laid i L->∃j,L[j]?=some p.2/\p.1=.par (i+j)
 |[],i,p,h=>by simp[laid]at h
 |b::r,i,p,h=>by
  rcases jQ.1 h with rfl|h
  .exact⟨0,rfl,rfl⟩
  .obtain⟨j,h1,h2⟩:=ZkZ r (i+1) p h;exact⟨j+1,h1,by rw[h2];congr 1;omega⟩
theorem ZrL {n d:Nat}:∀{s:Site},s.lt n=true->s.fP d=false:=fun{s} h=>by
 cases s with
 |par i=>rfl
 |loc d j=>cases h
 |ret j=>cases h
mutual
theorem AV.Zxh {d:Nat}{q:Site->Bool}(hg:∀s,q s=true->s.fP d=false):∀a:AV,a.dC q=true->a.has d=false
 |.any,_=>rfl
 |.pv _,_=>rfl
 |.ptr _ _,h=>by simp only[AV.has];exact hg _ h
 |.lB _ _ _ _,h=>by simp only[AV.has];exact hg _ h
 |.vec _ _ _ _,h=>by simp only[AV.has];exact hg _ h
 |.mp _,h=>by simp only[AV.has];exact hg _ h
 |.nM _,h=>by simp only[AV.has];exact hg _ h
 |.fn f fs cs,h=>by
  simp only[AV.dC,dK]at h;simp only[AV.has,AV.Ew hg fs h.1,AV.Ew hg cs h.2];rfl
 |.agg cs,h=>by simp only[AV.has];exact AV.Ew hg cs h
 |.bM vs,h=>by simp only[AV.has];exact AV.Ew hg vs h
theorem AV.Ew {d:Nat}{q:Site->Bool}(hg:∀s,q s=true->s.fP d=false):∀l:List AV,AV.hZ q l=true->AV.qR d l=false
 |[],_=>rfl
 |a::r,h=>by
  simp only[AV.hZ,dK]at h;simp only[AV.qR,AV.Zxh hg a h.1,AV.Ew hg r h.2];rfl
end
theorem AV.Kv {n d:Nat}{a:AV}(h:a.dC (Site.lt n)=true):a.bI d=a:=by
 unfold AV.bI;rw[AV.Zxh (fun s hs=>ZrL hs) a h];rfl
theorem aL.Kv {n d:Nat}{b:aL}(h:b.dC (Site.lt n)=true):b.bI d=b:=by
 cases b with
 |cells bU=>
  simp only[aL.bI];congr 1;have h':∀a∈bU,a.dC (Site.lt n)=true:=fun a ha=>by
   obtain⟨i,hi⟩:=iM.1 ha;exact W5 h hi
  clear h;induction bU with
  |nil=>rfl
  |cons a r ih=>rw[iQ,AV.Kv (h' a (by simp)),ih (fun x hx=>h' x (by simp[hx]))]
 |loop C ps nt tm st=>
  simp only[aL.bI];congr 1;have h':∀p∈tm,p.2.dC (Site.lt n)=true:=fun p hp=>by
   obtain⟨i,hi⟩:=iM.1 hp;exact W5 (i:=i) h (by rw[bR,hi];rfl)
  clear h;induction tm with
  |nil=>rfl
  |cons p r ih=>rw[iQ,AV.Kv (h' p (by simp)),ih (fun x hx=>h' x (by simp[hx]))]
 |arr e n xs=>rfl
 |map es=>rfl
 |ext E=>rfl
theorem ZeA {n d:Nat}:∀{X:List aL} {i:Nat},ED n X->((laid i X).filter fun p=>!p.1.fP d).map (fun p=>(p.1,p.2.bI d))=laid i X
 |[],i,h=>rfl
 |b::r,i,h=>by
  have hb:=h b (by simp);have hr:ED n r:=fun x hx=>h x (by simp[hx])
  rw[laid,List.filter_cons_of_pos (by rfl),iQ,ZeA hr,aL.Kv hb]
theorem ZjG {m:Nat}{tm:List (Nat×AV)}{bx:List (Site×aL)}:cK (dM m) ⟨tm,bx⟩=⟨tm,bx.filter fun p=>!p.1.lt m⟩:=by
 have:∀(l:List Site) (bx:List (Site×aL)),cK l ⟨tm,bx⟩=⟨tm,bx.filter fun p=>!l.contains p.1⟩:=by
  intro l;induction l with
  |nil=>intro bx;show(⟨tm,bx⟩:AS)=⟨tm,_⟩;rw[List.filter_eq_self.2];intro _ _;rfl
  |cons s r ih=>
   intro bx;rw[cK,AS.drop,ih,List.filter_filter];congr 1;apply List.filter_congr;intro p hp;rw[List.contains_cons];by_cases e:p.1=s
   .simp[e]
   .simp[e]
 rw[this];congr 1;apply List.filter_congr;intro p hp;rw[Zcc]
theorem ZfJ {σ:AS}{n:Nat}:∀(r:List Site) (i:Nat) (L:List aL),(∀j s,r[j]?=some s->s=Site.par (i+j))->r.length=L.length->(∀j b,L[j]?=some b->σ.b (.par (i+j))=some b)->ED n L->
  oV σ (dM n) i r=some (laid i L)
 |[],i,[],_,_,_,_=>rfl
 |[],i,b::L,_,h,_,_=>by simp at h
 |s::r,i,[],_,h,_,_=>by simp at h
 |s::r,i,b::L,hs,hl,hb,hc=>by
  have h0:s=.par i:=hs 0 s rfl;have h1:=ZfJ r (i+1) L (fun j s' e=>by rw[hs (j+1) s' (by simpa using e)];congr 1;omega) (by simpa using hl) (fun j b' e=>by rw[show i+1+j=i+(j+1) by omega];exact hb (j+1) b' (by simpa using e)) (fun x hx=>hc x (by simp[hx]));subst h0;have h2:σ.b (.par i)=some b:=hb 0 b rfl;have h3:b.dC (fun x=>(dM n).contains x)=true:=aL.WA (fun s hs=>by rw[Zcc];exact hs) (hc b (by simp));simp only[oV,h2,h1,h3,if_pos,Ziw,aL.Xe,laid]
def xT (σ:AS)(L:List aL):Prop:=∀j b,L[j]?=some b->σ.b (.par j)=some b
theorem Zjm {σ:AS}{n:Nat}{L:List aL}(hl:L.length=n)(hs:xT σ L)(hc:ED n L):oV σ (dM n) 0 (dM n)=some (laid 0 L):=
 ZfJ _ _ _ (fun j s e=>by
  have:j<n:=by have:=(bZ.1 e).1;simpa[dM]using this
  rw[Hn this]at e;cases e;simp) (by simp[dM,hl]) (fun j b e=>by simpa using hs j b e) hc
theorem Zid {n d:Nat}:∀{L:List aL} {i:Nat},i+L.length<=n->ED n L->eY (dM n) d (laid i L)=laid i L
 |[],i,_,_=>rfl
 |b::r,i,h,hc=>by
  rw[pA]at h;have h1:=Zid (L:=r) (i:=i+1) (d:=d) (by omega) (fun x hx=>hc x (by simp[hx]));unfold eY at h1 ⊢;rw[laid,iQ,h1];rw[Zer (by simp[Site.lt];omega),aL.ZxA (fun s hs=>Zer hs) (hc b (by simp))]
theorem WT {n:Nat}{L:List aL}(h:L.length<=n)(hc:ED n L):∀p∈laid 0 L,bX (dM n) p.1=true/\p.2.dC (bX (dM n))=true:=fun p hp=>by
 obtain⟨j,h1,h2⟩:=ZkZ L 0 p hp;have hj:=(bZ.1 h1).1;refine⟨Zhu (by rw[h2];simp[Site.lt];omega),aL.WA (fun s hs=>Zhu hs) (hc _ (dL h1))⟩
theorem Zld {σ:AS}{n:Nat}:∀(r:List Site) (i:Nat) (L:List aL),(∀j s,r[j]?=some s->s=Site.par (i+j))->r.length=L.length->(∀j b,L[j]?=some b->σ.b (.par (i+j))=some b)->σ.exp (dM n) r=laid i L
 |[],i,[],_,_,_=>rfl
 |[],i,b::L,_,h,_=>by simp at h
 |s::r,i,[],_,h,_=>by simp at h
 |s::r,i,b::L,hs,hl,hb=>by
  have h0:s=.par i:=hs 0 s rfl;have h1:=Zld (n:=n) r (i+1) L (fun j s' e=>by rw[hs (j+1) s' (by simpa using e)];congr 1;omega) (by simpa using hl) (fun j b' e=>by rw[show i+1+j=i+(j+1) by omega];exact hb (j+1) b' (by simpa using e));subst h0;have h2:σ.b (.par i)=some b:=hb 0 b rfl;simp only[AS.exp,h2,h1,ZgL,aL.Xe,laid,id]
theorem Zqs {σ:AS}{n:Nat}{L:List aL}(hl:L.length=n)(hs:xT σ L):σ.exp (dM n) (dM n)=laid 0 L:=
 Zld _ _ _ (fun j s e=>by
  have:j<n:=by have:=(bZ.1 e).1;simpa[dM]using this
  rw[Hn this]at e;cases e;simp) (by simp[dM,hl]) (fun j b e=>by simpa using hs j b e)
theorem Zik {σ:AS}:∀{l:List Site},(∀s∈l,∃b,σ.b s=some b/\b.dC dO=true)->rB σ l
 |[],_=>trivial
 |s::r,h=>⟨h s (by simp),Zik (fun x hx=>h x (by simp[hx]))⟩
theorem Zjf {σ:AS}{n:Nat}{L:List aL}(hl:L.length=n)(hs:xT σ L)(hc:ED n L):rB σ (dM n):=Zik (fun s h=>by
 rw[XE]at h;cases s with
 |par i=>
  have hi:i<L.length:=by rw[hl];simpa[Site.lt]using h
  exact⟨L[i],hs i _ (aX hi),aL.WA (fun s hs=>ZkR hs) (hc _ (zX hi))⟩
 |loc d j=>cases h
 |ret j=>cases h)
theorem ZfQ {d e j:Nat}:Site.fP d (.loc e j)=(d==e):=rfl
theorem ZfP {d j:Nat}:Site.fP d (.par j)=false:=rfl
theorem ZfO {d j:Nat}:Site.fP d (.ret j)=false:=rfl
theorem Zdt {d:Nat}{l:List AV}:aL.bI d (.cells l)=.cells (l.map (AV.bI d)):=rfl
theorem Zfl {d:Nat}{l:List (PV×PV)}:aL.bI d (.map l)=.map l:=rfl
theorem Zfm {d n:Nat}{e:TypeId}{l:List PV}:aL.bI d (.arr e n l)=.arr e n l:=rfl
theorem Zeo {d nt:Nat}{C:Code×Code}{ps:List Nat}{tm:List (Nat×AV)}{st:Option Code}:aL.bI d (.loop C ps nt tm st)=.loop C ps nt (tm.map fun p=>(p.1,p.2.bI d)) st:=rfl
theorem TA {tm:List (Nat×AV)}{X:List aL}{r:List (Site×aL)}:xT ⟨tm,laid 0 X++r⟩ X:=fun j b h=>by
 have h1:(laid 0 X).lookup (.par j)=some b:=by have:=Zz X 0 j;rw[rT]at this;rw[this];exact h
 show(laid 0 X++r).lookup (.par j)=some b;clear h;generalize laid 0 X=l at h1;induction l with
 |nil=>cases h1
 |cons p l ih=>
  obtain⟨a,c⟩:=p;by_cases e:Site.par j=a
  .subst e;rw[mX]at h1;rw[List.cons_append,mX];exact h1
  .rw[jG e]at h1;rw[List.cons_append,jG e];exact ih h1
theorem XG {tm:List (Nat×AV)}{X:List aL}{p:Site×aL}{r:List (Site×aL)}(hp:p.1.lt X.length=false)(h:xT ⟨tm,r⟩ X):xT ⟨tm,p::r⟩ X:=fun j b hj=>by
 have hl:=(bZ.1 hj).1;obtain⟨a,c⟩:=p;have cZ:Site.par j≠a:=fun e=>by subst e;simp[Site.lt]at hp;omega
 show((a,c)::r).lookup (.par j)=some b;rw[jG cZ];exact h j b hj
theorem gN {P:Program}{o:LO}{t r:LT}{K:AS->Prop}{σ:AS}:gO P (.alt o t r) K σ=(EO P o (hold (gO P t K)) σ/\hold (gO P r K) σ):=rfl
theorem gW {P:Program}{K:AS->Prop}{σ:AS}:gO P .no K σ=True:=rfl
theorem FV {P:Program}{t r:LT}{K:AS->Prop}{σ:AS}(τ:AS)(h1:gO P t (fun zA=>Sub τ zA) σ)(h2:gO P r K τ):gO P (.seq t r) K σ:=
 ⟨fun x=>x=τ,by
  have:(fun zA=>∃x,Sub x zA/\x=τ)=fun zA=>Sub τ zA:=by
   funext zA;exact propext ⟨fun⟨x,h,e⟩=>e▸h,fun h=>⟨τ,h,rfl⟩⟩
  rw[this];exact h1,fun x e=>by subst e;exact h2⟩
theorem Zh0 {σ:AS}:∀{X:List aL} {i:Nat},(∀j b,X[j]?=some b->σ.b (.par (i+j))=some b)->S4 (laid i X) σ
 |[],i,h=>trivial
 |b::r,i,h=>⟨h 0 b rfl,Zh0 (fun j b' e=>by rw[show i+1+j=i+(j+1) by omega];exact h (j+1) b' (by simpa using e))⟩
theorem Hq {σ:AS}{X:List aL}(h:xT σ X):S4 (laid 0 X) σ:=Zh0 (fun j b e=>by rw[rT];exact h j b e)
section
variable {P:Program}{σ:AS}{K:AV->AS->Prop}
theorem Zia {n:Nat}{rs:List oA}{R:AV->List (Site×aL)->Prop}{L:List aL}{l:List AV}(h:σ.FJ rs=some l)(ho:(rK l).dC dO=true)(hl:L.length=n)(hs:xT σ L)(hc:ED n L)(hR:R (rK l) (laid 0 L)):aT (dM n) rs R σ:=by
 refine⟨l,h,ho,?_,Zjf hl hs hc,?_⟩
 .rw[qZ];intro s hs;exact ZkR (XE.1 hs)
 .rw[Zqs hl hs,ZgL,Fp];exact hR
theorem ZlB (d m:Nat)(X:List aL){f:bD}{args:List bD}{d0:Nat}{R:AV->List (Site×aL)->Prop}(h1:σ.o f=.nM (.par 0))(hm:0<m)(hl:X.length=m)(hs:xT σ X)(hc:ED m X)
  (h4:AV.hZ (Site.lt m) (args.map σ.o)=true) (hC:FU P 0 (args.map σ.o) (laid 0 X) R)
  (hK:∀r B',R r B'->∃L',B'=laid 0 L'/\L'.length=m/\ED m L'/\r.dC (Site.lt m)=true/\K r ((((⟨σ.tm,σ.bx.filter fun p=>!p.1.lt m⟩:AS).bI d)).lY (laid 0 L'))):
  yV P f args d0 K σ\/(FZ P f args K σ\/GA P f args K σ):=by
 refine .inr (.inr ⟨d,[],dM m,.par 0,0,laid 0 X,h1,Hn hm,Zje,?_,Zjm hl hs hc,?_,?_⟩)
 .rw[qZ];intro s hs;rw[ZrL (XE.1 hs)];rfl
 .exact AV.NT (fun s hs=>by rw[Zcc];exact hs) _ h4
 .rw[Ziw,SP];refine hC.mono (fun r B' h=>?_);obtain⟨L',rfl,k1,k2,k3,k4⟩:=hK r B' h;refine⟨AV.WA (fun s hs=>Zhu hs) _ k3,WT (by omega) k2,?_⟩;rw[AV.Xk (fun s hs=>Zer hs) _ k3,Zid (by omega) k2];cases σ;simp only[aM];rw[ZjG];exact k4
end
end
section
attribute [local simp] aL.bI Site.fP
section
variable {P:Program}{σ:AS}{K:AV->AS->Prop}
end
end
section
attribute [local simp] aL.bI Site.fP
theorem XS {P:Program}(hm:P.follows .mixedOrders=true){C:Code×Code}{ps:List Nat}{nt i:Nat}{tm:List (Nat×AV)}{la lb:bJ}(Tr:dQ P nt C.1=some la)(Tq:dQ P nt C.2=some lb){gF:List AV}{B:List (Site×aL)}
  {R:AV->List (Site×aL)->Prop} (hB:B.lookup (.par i)=some (.loop C ps nt tm none)) (yE:ps.length=gF.length) (Q0:∀p∈ps,p<nt) (y1:AV.hZ Site.s7 (tm.map (·.2))=true)
  (h:eL P la (iU (hold (eL P lb (Yo C ps nt tm i R))) (fun _ _=>False)) ⟨qH ps gF tm,B.filter fun p=>!decide (p.1=.par i)⟩):FU P i gF B R:=by
 refine ZgY hm Tr Tq hB yE Q0 y1 ?_;refine KF (I8 h) (fun e τ q=>?_);cases e with
 |normal=>
  have q':eL P lb (Yo C ps nt tm i R) τ:=q;exact I8 q'
 |exit id=>exact q
 |ret=>exact q
section
variable {P:Program}{σ:AS}
theorem WZ (aF:List Site)(tm:List (Nat×AV)){nt:Nat}{g:bD}{C:Code×Code}{ps:List Nat}{la lb:bJ}{Q:rY->AS->Prop}{gf:FuncId}{fs cs gF:List AV}{B:List (Site×aL)}{R:AV->List (Site×aL)->Prop}
  (h1:mT (((σ.bI nt).add (.loc nt 0) (.loop C ps nt tm none)).o g)=some (gf,fs,cs)) (y1:j9 tm (σ.bI nt)) (h2:DZ aF=true) (h3:aF.all (fun s=>!s.fP (nt+1))=true)
  (hB:oV ((σ.bI nt).add (.loc nt 0) (.loop C ps nt tm none)) aF 0 aF=some B) (h4:AV.hZ (fun x=>aF.contains x) (fs++[.nM (.loc nt 0)]++cs)=true) (ha:AV.iR (kB aF) (fs++[.nM (.loc nt 0)]++cs)=gF) (hC:cN P gf gF B R)
  (hK:∀r B',R r B'->r.dC (bX aF)=true/\(∀p∈B',bX aF p.1=true/\p.2.dC (bX aF)=true)/\
   ∃C' Iz Jb Ip st,(((cK aF ((σ.bI nt).add (.loc nt 0) (.loop C ps nt tm none))).bI (nt+1)).lY (eY aF (nt+1) B')).b (.loc nt 0)=some (.loop C' Iz Jb Ip st)/\
    kX Q st ((((cK aF ((σ.bI nt).add (.loc nt 0) (.loop C ps nt tm none))).bI (nt+1)).lY (eY aF (nt+1) B')).drop (.loc nt 0))):
  eL P (.vF nt g C la lb ps) Q σ:=by
 show J7 P nt g C ps Q σ;refine⟨σ,Sub.ZxU σ,[],aF,tm,_,gf,fs,cs,B,fun t a k=>Zfc y1 t a k,rfl,?_,SZ h2,h3,hB,h4,?_⟩
 .unfold mT at h1;split at h1
  .rename_i e;cases h1;exact .inl e
  .rename_i tE iK e;cases h1;exact .inr ⟨tE,iK,e,rfl,rfl⟩
  .cases h1
 .rw[ha];refine hC.mono (fun r B' h=>?_);obtain⟨k1,k2,C',Iz,Jb,Ip,st,k3,k4⟩:=hK r B' h;refine⟨k1,k2,?_⟩;have k3':(((cK aF ((((aM [] σ).bI nt).add (.loc nt 0) (.loop C ps nt tm none)))).bI (nt+1)).lY (eY aF (nt+1) B')).b (.loc nt 0)=some (.loop C' Iz Jb Ip st):=k3;rw[k3'];exact k4
theorem ZsM {nt:Nat}{g:bD}{C:Code×Code}{ps:List Nat}{la lb:bJ}{Q:rY->AS->Prop}{τ:AS}(hs:Sub τ σ)(h:eL P (.vF nt g C la lb ps) Q τ):eL P (.vF nt g C la lb ps) Q σ:=by
 obtain⟨Oy,h1,h2⟩:J7 P nt g C ps Q τ:=h;exact⟨Oy,h1.trans' hs,h2⟩
end
end
section
attribute [local simp] aL.bI Site.fP
def oH (fz:List Site)(rs:List oA)(R:AV->List (Site×aL)->Prop)(σ:AS):Prop:=A8 rs R (bB fz σ)
theorem Zpv {fz:List Site}{rs:List oA}{R:AV->List (Site×aL)->Prop}{σ:AS}(h:oH fz rs R σ):rI rs R σ:=by
 unfold oH A8 at h;split at h
 .rename_i l hl;split at h
  .rename_i x hx;exact⟨fz,[],l,hl,by rw[hx];rfl,rfl,(fun s hs=>by cases hs),by rw[hx];exact h⟩
  .exact h.elim
 .exact h.elim
theorem Oj {P:Program}(fz:List Site){f:FuncId}{F:aZ}{args:List AV}{B:List (Site×aL)}{R:AV->List (Site×aL)->Prop}(hm:P.follows .mixedOrders=true)(hf:fV P f=some F)(hn:args.length<=F.nt)
  (h:eL P F.code (lA (oH fz F.res R)) ⟨eW 0 args,B⟩):cN P f args B R:=Hy hm hf hn (fun _ h=>Zpv h) (I8 h)
theorem aP {a b:Nat}:Nat.ble a b=decide (a<=b):=by rw[qQ,Nat.ble_eq];simp
theorem cO {a b:Nat}:Nat.blt a b=decide (a<b):=by rw[qQ,Nat.blt_eq];simp
end
@[simp] def O (d:Nat)(x:lZ):LO:=⟨some d,none,x,true⟩
@[simp] def Of (d:Nat)(x:lZ):LO:=⟨some d,none,x,false⟩
@[simp] def N (x:lZ):LO:=⟨none,none,x,true⟩
@[simp] def Nf (x:lZ):LO:=⟨none,none,x,false⟩
@[simp] def G (d g:Nat)(b:Bool)(x:lZ):LO:=⟨some d,some (g,b),x,true⟩
@[simp] def Gf (d g:Nat)(b:Bool)(x:lZ):LO:=⟨some d,some (g,b),x,false⟩
@[simp] def Ng (g:Nat)(b:Bool)(x:lZ):LO:=⟨none,some (g,b),x,true⟩
@[simp] def Nh (g:Nat)(b:Bool)(x:lZ):LO:=⟨none,some (g,b),x,false⟩
@[simp] def I (n:Int):bD:=.c (.int .i64 n)
@[simp] def C (n:Nat):bD:=.c (.fn n [] [])
@[simp] def M (n:Nat):lZ:=.dV (.t n)
@[simp] def Om (d s:Nat):LO:=⟨some d,none,.dV (.t s),true⟩
@[simp] def OM (d:Nat)(n:Int):LO:=⟨some d,none,.dV (.c (.int .i64 n)),true⟩
@[simp] def Ol (d n s:Nat):LO:=⟨some d,none,.load false n (.t s),true⟩
@[simp] def Ot (d n s:Nat):LO:=⟨some d,none,.load true n (.t s),true⟩
@[simp] def Oa (d n s:Nat):LO:=⟨some d,none,.fa n (.t s),true⟩
@[simp] def Oi (d n s i:Nat):LO:=⟨some d,none,.ia n none (.t s) (.t i),true⟩
@[simp] def Oe (d s i:Nat):LO:=⟨some d,none,.ext (.t s) i,true⟩
@[simp] def On (d s:Nat):LO:=⟨some d,none,.len none (.t s),true⟩
@[simp] def Oz (d s:Nat):LO:=⟨some d,none,.vO (.t s),true⟩
@[simp] def Oo (d s:Nat):LO:=⟨some d,none,.not (.t s),true⟩
@[simp] def Ox (d n s:Nat):LO:=⟨some d,none,.box n (.t s),true⟩
@[simp] def Ob (d:Nat)(o:BinOp)(a b:Nat):LO:=⟨some d,none,.bin false o (.t a) (.t b),true⟩
@[simp] def Oc (d:Nat)(o:BinOp)(a:Nat)(n:Int):LO:=⟨some d,none,.bin false o (.t a) (.c (.int .i64 n)),true⟩
@[simp] def Ns (n a b:Nat):LO:=⟨none,none,.store n (.t a) (.t b),true⟩
@[simp] def Ce (a n:Nat):bJ:=.cond (.t a) .skip (.exit n)
@[simp] def Cd (a:Nat)(x y:bJ):bJ:=.cond (.t a) x y
@[simp] def Z0:PV:=.int .i64 0
@[simp] def E0:PV:=.emp (some true)
@[simp] def Bf:bD:=.c (.bool false)
@[simp] def Bt:bD:=.c (.bool true)
@[simp] def S (l:List LO)(c:bJ):bJ:=.seq (.region l) c
@[simp] def Ok (d n:Nat)(l:List bD):LO:=⟨some d,none,.call (.c (.fn n [] [])) l,true⟩
@[simp] def Pl (d n:Nat):LO:=⟨some d,none,.load false 1 (.t n),false⟩
@[simp] def Pa (d k n:Nat):LO:=⟨some d,none,.fa k (.t n),false⟩
@[simp] def Pg (d g n:Nat):LO:=⟨some d,some (g,true),.load false 1 (.t n),true⟩
@[simp] def Pi (d g n:Nat):LO:=⟨some d,some (g,true),.load false 1 (.t n),false⟩
@[simp] def Pm (d n:Nat):LO:=⟨some d,none,.dV (.t n),false⟩
@[simp] def Pp (d a b:Nat):LO:=⟨some d,none,.pick (.t a) (.t b) (.c (.bool false)),true⟩
@[simp] def Pq (d a b:Nat):LO:=⟨some d,none,.pick (.t a) (.c (.bool true)) (.t b),true⟩
@[simp] def Pf (d:Nat):LO:=⟨some d,none,.dV (.c (.bool false)),true⟩
@[simp] def Pe (d:Nat):LO:=⟨some d,none,.dV (.c (.emp (some true))),true⟩
@[simp] def Pt (d n m:Nat):LO:=⟨some d,none,.load true n (.t m),false⟩
@[simp] def Py (d a b c x y:Nat):LO:=⟨some d,none,.app a b c (.t x) (.t y),true⟩
@[simp] def Ph (d g k n:Nat):LO:=⟨some d,some (g,true),.fa k (.t n),true⟩
@[simp] def Pn (d g n:Nat):LO:=⟨some d,some (g,true),.dV (.t n),true⟩
@[simp] def Pj (d w n:Nat)(i:Int):LO:=⟨some d,none,.ia w none (.t n) (.c (.int .i64 i)),false⟩
@[simp] def Pz (d n:Nat):LO:=⟨some d,none,.vO (.t n),false⟩
@[simp] def Pb (d a b n:Nat):LO:=⟨some d,none,.aQ a b [.t n],true⟩
instance:Coe LO (List LO):=⟨fun x=>[x]⟩
@[simp] def aC (l:List (List LO))(c:bJ):bJ:=.seq (.region l.flatten) c
@[simp] def cC (l:List (List LO)):bJ:=.region l.flatten
@[simp] def mM (d a b c e f:Nat):List LO:=[G d a false (.fa b (.t c)),G (d+1) e false (.load false f (.t d))]
@[simp] def aV (d a b c:Nat):List LO:=[Oa d a b,Ol (d+1) c d]
@[simp] def gR (d a b c:Nat):List LO:=[Om d a,Oc (d+1) .add d b,Om c (d+1)]
@[simp] def bL (d a b:Nat):List LO:=[Om d a,Om (d+1) b]
@[simp] def Kr (d a b:Nat)(c:Int)(e f g:Nat)(h:Int)(i:Int):List LO:=[G d a true (.bin false .eql (.t b) (I c)),Pp (d+1) e d,Om (d+2) (d+1),Pn (d+3) (d+2) f,G (d+4) (d+2) true (.ia g none (.t (d+3)) (I h)),Pg (d+5) (d+2) (d+4),G (d+6) (d+2) true (.bin false .eql (.t (d+5)) (I i)),Pp (d+7) (d+2) (d+6)]
@[simp] def VW (d a b c:Nat)(e:Int)(f g:Nat)(h:Int)(i:Int):List LO:=[Om d a,G (d+1) d false (M b),G (d+2) d false (.ia c none (.t (d+1)) (I e)),G (d+3) d false (.load false f (.t (d+2))),G (d+4) d false (.call (C g) [.t (d+3),I h,I i]),G (d+5) d false (.not (.t (d+4))),Pq (d+6) d (d+5)]
@[simp] def V6 (d a b:Nat):List LO:=[O d (.alloc (.agg [Z0,Z0,Z0,Z0,Z0,Z0,Z0])),Ns a d b]
@[simp] def lW (d a b:Nat):List LO:=[On d a,Ob (d+1) .lss b d]
@[simp] def VR (d a b c:Nat)(e:Int)(f:Nat)(g:Int)(h:Int):List LO:=[Om d a,Pn (d+1) d b,G (d+2) d true (.ia c none (.t (d+1)) (I e)),Pg (d+3) d (d+2),G (d+4) d true (.call (C f) [.t (d+3),I g,I h]),Pp (d+5) d (d+4)]
@[simp] def SD (d a b c e:Nat):List LO:=[Om d a,Pn (d+1) d b,Pn (d+2) d c,G (d+3) d true (.bin false .leq (.t (d+1)) (.t (d+2))),Pp (d+4) d (d+3),Om e (d+4)]
@[simp] def H6 (d a b c e:Nat):List LO:=[Pl d a,Of b (.ia c none (.t d) (.t e))]
@[simp] def mV (d a b c e f:Nat):List LO:=[Om d a,Oe b d c,Oe e d f]
@[simp] def qC (d a b:Nat):List LO:=[Om d a,Ok (d+1) b [.t d]]
@[simp] def Q7 (d a b c:Nat):List LO:=[G d a false (.not (.t b)),Pq (d+1) c d]
@[simp] def V5 (d a b:Nat)(c:Int)(e:Nat):List LO:=[O d (.ia a none (.t b) (I c)),Ol (d+1) e d]
@[simp] def F1 (d a b c:Nat):List LO:=[Om d a,Ph (d+1) d b c,Pg (d+2) d (d+1)]
@[simp] def FI (d a b:Nat):List LO:=[O d (.alloc (.agg [E0,E0,E0,E0,E0])),Ns a d b]
@[simp] def yQ (d a b:Nat):List LO:=[Pm d a,Pz (d+1) d,Pa (d+2) b (d+1)]
@[simp] def pR (d a b c:Nat):List LO:=[Oc d .add a b,Om c d]
@[simp] def nB (d a b c:Nat):List LO:=[Om d a,Oi (d+1) b c d]
@[simp] def JJ (d a b c:Nat):List LO:=[Pm d a,Pm (d+1) b,Of (d+2) (.ia c none (.t d) (.t (d+1)))]
@[simp] def zW (d a b c:Nat):List LO:=[Om d a,Ok (d+1) b [.t c,.t d]]
@[simp] def El (d a b c e f:Nat):List LO:=[G d a false (.len none (.t b)),G (d+1) c false (.bin false .neq (.t e) (.t d)),Pq (d+2) f (d+1)]
@[simp] def FH (d a b c e f:Nat):List LO:=[G d a true (.call (C b) [.t c,.t e]),Pp (d+1) f d]
@[simp] def AE (d a b c:Nat):List LO:=[Ot d a b,O (d+1) (.call (.t c) [.t d])]
@[simp] def Zzt (d a b c e f g h:Nat)(i:Int)(j k:Nat)(l:Int)(m n o:Nat):List LO:=[O d (.build (.agg [Z0,.bool false,Z0,Z0]) [(a,(b,Bt)),(c,(e,(.t f)))]),O (d+1) (.build (.agg [Z0,.bool false,Z0,Z0]) [(g,(h,(I i)))]),O (d+2) (.build (.agg [Z0,.bool false,Z0,Z0]) [(j,(k,(I l)))]),O (d+3) (.build (.agg [Z0,.bool false,Z0,Z0]) []),O (d+4) (.build (.agg [Z0,.bool false,Z0,Z0]) []),O (d+5) (.aQ m (d+1) [.t n,.t d,.t (d+1),.t (d+2),.t (d+3),.t (d+4)]),Om o (d+5)]
@[simp] def kE (d a b:Nat):List LO:=[Om d a,Om b d]
@[simp] def Q6 (d a b:Nat):List LO:=[Om d a,Oz (d+1) d,Oa (d+2) b (d+1)]
@[simp] def JI (d a b:Nat):List LO:=[O d (.alloc (.agg [Z0,Z0,Z0])),Ns a d b]
@[simp] def JH (d a b c:Nat):List LO:=[Om d a,G (d+1) d true (.load true b (.t c))]
@[simp] def oZ (d a:Nat):List LO:=[Om d a,On (d+1) d]
@[simp] def SC (d a b:Nat)(c:Int)(e:Nat):List LO:=[G d a true (.bin false .eql (.t b) (I c)),Pp (d+1) e d]
@[simp] def qY (d a b:Nat):List LO:=[Om d a,Pn (d+1) d b]
@[simp] def qX (d a b c:Nat):List LO:=[Pm d a,Pj (d+1) b d c]
@[simp] def ZzC (d a b c e f g h i j:Nat)(k:Int)(l:Nat):List LO:=[G d a true (.load false b (.t c)),G (d+1) e true (.yB .sl false (.t d)),G (d+2) f true (M (d+1)),G (d+3) (d+2) false (M g),G (d+4) (d+2) false (.load false h (.t i)),G (d+5) (d+2) false (.call (C j) [.t (d+3),.t (d+4)]),G (d+6) (d+2) false (.bin false .lss (.t (d+5)) (I k)),G (d+7) l true (.pick (.t (d+2)) Bt (.t (d+6)))]
@[simp] def SH (d a:Nat):List LO:=[O d (.alloc (.agg [E0,E0,E0,E0,E0])),OM (d+1) a]
@[simp] def O5 (d a b:Nat):List LO:=[Om d a,Oc (d+1) .neq d b]
@[simp] def En (d a:Nat)(b:Int):List LO:=[Om d a,O (d+1) (.bin false .shr (.t d) (.c (.int .u64 (b))))]
@[simp] def Q9 (d a b c e f g h i:Nat):List LO:=[Pb d a b c,Py (d+1) e f g h d,Om i (d+1)]
@[simp] def JK (d a b c:Nat):List LO:=[G d a true (.not (.t b)),Pp (d+1) c d]
@[simp] def uF (d a b c e f g:Nat):List LO:=[Ot d a b,Ns c e d,OM f g]
@[simp] def Q8 (d a b c:Nat):List LO:=[Ot d a b,Ok (d+1) c [.t d]]
@[simp] def Xb (d a b:Nat):List LO:=[Om d a,O (d+1) (.x (.look ⟨false,[.int .i64]⟩ (.agg [Z0,Z0,Z0,Z0,Z0,Z0,Z0]) false (.t b) (.t d)))]
@[simp] def Kl (d a b c e f:Nat):List LO:=[Gf d a true (M b),Gf (d+1) c true (.vO (.t d)),Gf (d+2) e true (.fa f (.t (d+1)))]
@[simp] def Kk (d a b c:Nat):List LO:=[Of d (.load false a (.t b)),Of (d+1) (.vO (.t d)),Of (d+2) (.fa c (.t (d+1)))]
@[simp] def wV (d a b c e:Nat):List LO:=[Oi d a b c,Ol (d+1) e d]
@[simp] def VV (d a b c e:Nat):List LO:=[G d a false (.pick (.t b) (.t c) Bf),Pq (d+1) e d]
@[simp] def SG (d a b:Nat):List LO:=[O d (.alloc (.agg [Z0,Z0])),Ns a d b]
@[simp] def SE (d a b c e:Nat):List LO:=[G d a true (.call (C b) [.t c]),Pp (d+1) e d]
@[simp] def yR (d a b:Nat):List LO:=[Pa d a b,Pl (d+1) d]
@[simp] def VU (d a b c:Nat):List LO:=[Ot d a b,O c (.alloc (.agg [Z0,Z0,Z0,Z0]))]
@[simp] def Xa (d a b c:Nat):List LO:=[Om d a,G (d+1) d false (M b),G (d+2) d false (M c),G (d+3) d false (.x (.A5 (.t (d+1)) (.t (d+2))))]
@[simp] def ZzU (d a b c e f g:Nat):List LO:=[G d a true (.load true b (.t c)),G (d+1) e true (.x (.eqv true ⟨true,[.int .i64,.int .i64,.int .i64,.int .i64,.int .i64,.int .i64,.int .i64]⟩ (.t f) (.t d))),Pp (d+2) g (d+1)]
@[simp] def VT (d a b c:Nat):List LO:=[Pl d a,Of (d+1) (.ia b none (.t c) (.t d))]
@[simp] def F2 (d a b c e:Nat):List LO:=[Ph d a b c,Pg (d+1) e d]
@[simp] def VS (d a b c e:Nat):List LO:=[O d (.yC a [] [.t b]),Ok (d+1) c [.t e,.t d]]
@[simp] def ZzY (d a b c:Nat):List LO:=[Pl d a,Of (d+1) (.x (.look ⟨false,[.int .i64]⟩ (.agg [Z0,Z0,Z0,Z0,Z0,Z0,Z0]) false (.t b) (.t d))),Of c (.alloc (.agg [Z0,Z0,Z0,Z0,Z0,Z0,Z0]))]
@[simp] def Em (d a b c e f g h i j k:Nat):List LO:=[Of d (.aQ a b [.t c]),Py (d+1) e f g h d,Oa (d+2) i j,Ns k (d+2) (d+1)]
@[simp] def Xc (d a b c:Nat)(e:Int)(f:Nat):List LO:=[G d a false (.len none (.t b)),G (d+1) c false (.bin false .gtr (.t d) (I e)),Pq (d+2) f (d+1)]
@[simp] def NL (d a b c e:Nat):List LO:=[Om d a,Ok (d+1) b [.t c,.t e,.t d]]
@[simp] def Kq (d:Nat):List LO:=[O d (.dV (.c .eU)),O (d+1) (.dV (.c .cR))]
@[simp] def Kp (d a b c e f g h i:Nat):List LO:=[O d (.build (.agg [E0,E0]) [(a,(b,(.t c))),(e,(f,(.t g)))]),Ns h i d]
@[simp] def Zz4 (d a b c e f g h i j k l m n o p q r s:Nat):List LO:=[Pm d a,Gf b d false (.fa c (.t e)),Gf f d false (M g),Gf (d+1) d false (.load true h (.t i)),Gf j d false (.load false k (.t l)),Gf m d false (.ia n none (.t o) (.t p)),Gf q d false (.load true r (.t s))]
@[simp] def Ko (d a b c e:Nat):List LO:=[G d a true (.bin false .lss (.t b) (.t c)),Pp (d+1) e d]
@[simp] def Zz6 (d a b c e f g:Nat):List LO:=[Gf d a true (.x (.look ⟨false,[.int .i64]⟩ (.agg [Z0,Z0,Z0,Z0,Z0,Z0,Z0]) false (.t b) (.t c))),Gf (d+1) e true (.NC false f g (.t d))]
@[simp] def Kn (d a b c e:Nat):List LO:=[G d a true (.bin false .leq (.t b) (.t c)),Pp (d+1) e d]
@[simp] def Km (d a b c e f:Nat):List LO:=[Of d (.load false a (.t b)),Of c (.load false e (.t f))]
@[simp] def Eo (d a b c:Nat):List LO:=[Ot d a b,O c (.alloc (.agg [Z0,Z0,E0]))]
@[simp] def XU (d a b c e:Nat):List LO:=[Gf d a true (M b),Gf (d+1) c true (M e)]
@[simp] def OJ (d a b c e:Nat):List LO:=[Ot d a b,Ok (d+1) c [.t e,.t d]]
@[simp] def XT (d a:Nat):List LO:=[O d (.dV (.c .eU)),OM (d+1) a]
@[simp] def ZAd (d a b:Nat)(c:Int)(e f:Nat)(g:Int)(h i:Nat)(j:Int)(k l:Nat)(m:Int)(n o:Nat)(p:Int)(q r:Nat)(s:Int)(t u v w x y z:Nat):List LO:=[O d (.build (.agg [Z0,Z0,Z0]) [(a,(b,(I c))),(e,(f,(I g))),(h,(i,(I j)))]),O (d+1) (.build (.agg [Z0,Z0,Z0]) [(k,(l,(I m))),(n,(o,(I p))),(q,(r,(I s)))]),O (d+2) (.aQ t u [.t d,.t (d+1)]),O (d+3) (.build (.agg [Z0,E0]) [(v,(w,(.t x))),(y,(z,(.t (d+2))))])]
@[simp] def ZAe (d a:Nat)(b:Int)(c:Nat):List LO:=[Om d a,O (d+1) (.bin false .and (.t d) (.c (.int .u64 (b)))),Om c (d+1)]
@[simp] def xQ (d a b:Nat):List LO:=[On d a,OM (d+1) b]
@[simp] def ZAg (d a b:Nat)(c:Int)(e:Nat):List LO:=[Ob d .add a b,O (d+1) (.conv .u64 (.t d)),O (d+2) (.bin false .shr (.t (d+1)) (.c (.int .u64 (c)))),O (d+3) (.conv .i64 (.t (d+2))),Om e (d+3)]
@[simp] def Ia (d a:Nat):List LO:=[Pl d a,Of (d+1) (.len none (.t d))]
@[simp] def tL (d a b:Nat):List LO:=[Ox d a b,Pf (d+1)]
@[simp] def Hz (d a:Nat):List LO:=[Om d a,O (d+1) (.x (.rE (.t d)))]
@[simp] def TJ (d a b:Nat)(c:Int)(e:Int):List LO:=[Ok d a [.t b,I c,I e],Oo (d+1) d]
@[simp] def EH (d a b c:Nat):List LO:=[Ob d .add a b,Om c d]
@[simp] def ZAm (d a b c e:Nat):List LO:=[G d a false (.x (.look ⟨false,[.int .i64]⟩ (.bool false) false (.t b) (.t c))),O (d+1) (.pick (.t e) Bt (.t d))]
@[simp] def ZAn (d a:Nat)(b:Int):List LO:=[Om d a,O (d+1) (.bin false .neq (.t d) (.c (.int .u8 (b))))]
@[simp] def nQ (d a b c:Nat):List LO:=[Pl d a,Pl b c]
@[simp] def ZAp (d a b c e f g:Nat):List LO:=[G d a true (.load true b (.t c)),G (d+1) e true (.call (C f) [.t g,.t d])]
@[simp] def x6 (d a b:Nat):List LO:=[Oz d a,Oa (d+1) b d]
@[simp] def x5 (d a:Nat):List LO:=[Om d a,Oz (d+1) d]
@[simp] def OI (d a b:Nat):List LO:=[Om d a,Oc (d+1) .eql d b]
@[simp] def Ov (d a b c e f:Nat):List LO:=[Pn d a b,G (d+1) c true (.ia e none (.t f) (.t d))]
@[simp] def ZAu (d a b c e f:Nat):List LO:=[Om d a,G (d+1) d false (.fa b (.t c)),G (d+2) d false (.load true e (.t (d+1))),G (d+3) d false (.call (C f) [.t (d+2)])]
@[simp] def ZAv (d a b:Nat):List LO:=[O d (.alloc (.agg [Z0,Z0,Z0,.bool false])),Ns a d b]
noncomputable section
def L4:aZ :=⟨23,S [Pf 2] (.seq (S [OM 3 0] (.block 0 (.loop (.seq (aC [bL 4 3 0,lW 6 5 4,qY 8 7 3,G 10 8 true (.bin false .lss (.t 9) (I 56)),Pp 11 8 10] (Ce 11 0)) (.seq (.block 1 (aC [bL 14 0 3,wV 16 1 14 15 1,O 18 (.x (.rE (.t 17))),Oc 19 .gtr 18 210] (Cd 19 (S [Pf 2] .ret) .skip))) (cC [gR 12 3 1 3])))))) (aC [oZ 20 0,Oc 22 .leq 21 55,Om 2 22] .ret)),[.tm 2]⟩
def L10:aZ :=⟨131,S [Ox 1 5 0,O 2 (.alloc (.agg [E0,E0,E0,E0,E0]))] (aC [O 12 (.aQ 3 1 []),aV 13 1 1 1,O 15 (.iJ 3 1 8 (.t 12) (.t 14)),O 16 (.build (.agg [E0,E0,E0,E0,E0]) [(1,(1,(.t 15)))]),FI 3 5 16] (.seq (S [OM 4 0] (.block 0 (.loop (.seq (aC [Om 17 4,aV 18 0 1 1,lW 20 19 17] (Ce 21 0)) (.seq (.block 1 (aC [aV 24 0 1 1,nB 26 4 7 25,Ot 28 7 27,V6 5 7 28] (cC [aV 29 0 3 1,aV 31 0 5 1,aV 33 1 5 1,aV 35 2 5 1,aV 37 3 5 1,aV 39 4 5 1,Oa 41 5 5,aV 42 0 41 1,Oa 44 5 5,aV 45 1 44 1,O 47 (.build (.agg [Z0,Z0]) [(0,(1,(.t 43))),(1,(1,(.t 46)))]),O 48 (.build (.agg [Z0,Z0,Z0,Z0,Z0,Z0,Z0]) [(0,(1,(.t 32))),(1,(1,(.t 34))),(2,(1,(.t 36))),(3,(1,(.t 38))),(4,(1,(.t 40))),(5,(2,(.t 47)))]),Pb 49 66 7 48,Py 50 66 7 56 30 49,Oa 51 0 3,Ns 1 51 50]))) (cC [gR 22 4 1 4])))))) (.seq (S [OM 6 0] (.block 2 (.loop (.seq (aC [Om 52 6,aV 53 2 1 1,lW 55 54 52] (Ce 56 2)) (.seq (.block 3 (aC [aV 59 2 1 1,nB 61 6 4 60,Ot 63 4 62,ZAv 7 4 63] (cC [aV 64 2 3 1,aV 66 0 7 1,aV 68 1 7 1,aV 70 2 7 1,aV 72 3 7 1,O 74 (.build (.agg [Z0,Z0,Z0,.bool false]) [(0,(1,(.t 67))),(1,(1,(.t 69))),(2,(1,(.t 71))),(3,(1,(.t 73)))]),Pb 75 68 4 74,Py 76 68 4 32 65 75,Oa 77 2 3,Ns 1 77 76]))) (cC [gR 57 6 1 6])))))) (.seq (S [OM 8 0] (.block 4 (.loop (.seq (aC [Om 78 8,aV 79 3 1 1,lW 81 80 78] (Ce 82 4)) (.seq (.block 5 (aC [aV 85 3 1 1,nB 87 8 4 86,VU 89 4 88 9,Ns 4 9 89] (cC [aV 90 3 3 1,aV 92 0 9 1,aV 94 1 9 1,aV 96 2 9 1,aV 98 3 9 1,O 100 (.build (.agg [Z0,Z0,Z0,Z0]) [(0,(1,(.t 93))),(1,(1,(.t 95))),(2,(1,(.t 97))),(3,(1,(.t 99)))]),Pb 101 70 4 100,Py 102 70 4 32 91 101,Oa 103 3 3,Ns 1 103 102]))) (cC [gR 83 8 1 8])))))) (.seq (S [OM 10 0] (.block 6 (.loop (.seq (aC [Om 104 10,aV 105 4 1 1,lW 107 106 104] (Ce 108 6)) (.seq (.block 7 (aC [aV 111 4 1 1,nB 113 10 3 112,Eo 115 3 114 11,Ns 3 11 115] (cC [Pa 116 4 3,Pa 118 0 11,Pa 120 1 11,Pa 123 2 11,nQ 117 116 119 118,nQ 121 120 124 123,Of 122 (.aQ 4 1 []),Of 125 (.iJ 4 1 1 (.t 122) (.t 124)),Of 126 (.build (.agg [Z0,Z0,E0]) [(0,(1,(.t 119))),(1,(1,(.t 121))),(2,(1,(.t 125)))]),Em 127 73 3 126 73 3 40 117 4 3 1]))) (cC [gR 109 10 1 10])))))) (S [Ot 130 5 3,Ns 5 2 130] .ret)))))),[.cell 2 true 5]⟩
def L11:aZ :=⟨31,S [O 2 (.alloc (.agg [E0,E0,E0,E0,E0])),Pe 3] (S [O 4 (.alloc (.agg [E0,E0,E0,E0,E0]))] (S [Pe 5] (.seq (S [OM 6 0] (.block 0 (.loop (.seq (aC [bL 9 6 0,lW 11 10 9] (Ce 12 0)) (.seq (.block 1 (.seq (.iZ (.op (Pm 17 0) (.op (Pm 18 6) (.op (Of 19 (.ia 1 none (.t 17) (.t 18))) (.op (Pt 16 5 4) (.op (Pl 20 19) (.seq (.alt (Ok 21 21 [.t 16,.t 20]) (.op (Om 15 21) (.op (Oe 22 15 0) (.op (Oe 23 15 1) (.alt (Of 7 (.alloc (.agg [E0,E0,E0,E0,E0]))) (.alt (Ns 5 7 22) .done .no) .no)))) (.alt (Of 7 (.alloc (.agg [E0,E0,E0,E0,E0]))) (.alt (Ok 21 21 [.t 16,.t 20]) (.op (Om 15 21) (.op (Oe 22 15 0) (.op (Oe 23 15 1) (.alt (Ns 5 7 22) .done .no)))) .no) .no)) (.op (Om 8 23) .done)))))))) (S [Ot 24 5 7,Ns 5 4 24] (cC [bL 25 5 8,Q9 27 3 1 26 3 1 8 25 5])))) (cC [gR 13 6 1 6])))))) (S [Ot 29 5 4,Om 30 5,Ns 5 2 29,Om 3 30] .ret)))),[.cell 2 true 5,.tm 3]⟩
def L14:aZ :=⟨88,S [O 2 (.dV (.c (.str ⟨#[]⟩))),OM 3 0] (.seq (S [Om 16 0,Ok 17 17 [.t 16],Om 4 17] (aC [O5 18 4 0] (Cd 19 (S [Om 20 4,O 2 (.dV (.c (.str ⟨#[]⟩))),Om 3 20] .ret) .skip))) (aC [qC 22 0 18,mV 21 23 24 0 25 1,bL 5 24 25] (S [O 7 (.x (.Ek 87 5))] (S [O 26 (.yC 25 [] [.t 7]),Om 8 26] (.seq (aC [Q6 27 5 0,aV 30 2 29 1,xQ 32 31 0] (.block 0 (.loop (S [Ob 34 .lss 33 32] (.seq (Ce 34 0) (.seq (.block 1 (aC [Oi 35 4 31 33,Ot 36 4 35,ZAv 10 4 36] (cC [bL 37 8 5,OJ 39 4 10 27 38,O 41 (.call (.t 37) [.t 40])]))) (cC [pR 42 33 1 33]))))))) (aC [qC 44 5 29,Ok 46 28 [.t 45,.c E0],mV 43 46 47 0 48 1,bL 11 47 48] (aC [Pm 49 8,Of 50 (.x (.sB 9 (.c (.str ⟨#[99,101,114,116,115]⟩)))),yQ 51 5 0,Pa 54 0 53,Of 58 (.x (.sB 9 (.c (.str ⟨#[104,101,108,100]⟩)))),Pm 59 11,Of 60 (.len none (.t 59)),Of 61 (.x (.sB 3 (.t 60))),Of 62 (.x (.sB 9 (.c (.str ⟨#[98,97,100]⟩)))),yQ 63 5 0,Pa 66 1 65,Ia 55 54,Of 57 (.x (.sB 3 (.t 56))),Ia 67 66,Of 69 (.x (.sB 3 (.t 68))),O 70 (.aQ 20 1 [.t 50,.t 57,.t 58,.t 61,.t 62,.t 69]),Ok 71 30 [.t 70],O 72 (.call (.t 49) [.t 71])] (aC [qC 74 5 32,Ok 76 31 [.t 75],mV 73 76 77 0 78 1,Oe 79 73 2,bL 13 77 78,Om 15 79] (S [Om 80 8,O 81 (.x (.sB 9 (.c (.str ⟨#[101,110,100]⟩)))),Om 82 14,O 83 (.x (.sB 3 (.t 82))),O 84 (.aQ 20 1 [.t 81,.t 83]),Ok 85 30 [.t 84],O 86 (.call (.t 80) [.t 85])] (S [Ok 87 33 [.t 7],Om 2 87,OM 3 0] .ret)))))))))),[.tm 2,.tm 3]⟩
def L16:aZ :=⟨26,S [Pf 4] (.seq (aC [oZ 6 0,oZ 8 1,Ob 10 .neq 7 9] (Cd 10 (S [Pf 4] .ret) .skip)) (.seq (S [OM 5 0] (.block 0 (.loop (.seq (aC [bL 11 5 0,lW 13 12 11] (Ce 14 0)) (.seq (.block 1 (aC [JJ 17 0 5 1,JJ 21 1 5 1,nQ 20 19 24 23,Ob 25 .neq 20 24] (Cd 25 (S [Pf 4] .ret) .skip))) (cC [gR 15 5 1 5])))))) (S [O 4 (.dV Bt)] .ret))),[.tm 4]⟩
def L17:aZ :=⟨13,S [OM 2 0] (S [O 3 (.dV (C 35))] (.seq (aC [oZ 4 0,Oc 6 .gtr 5 50,Om 7 6,G 8 7 false (M 0),G 9 7 false (M 3),G 10 7 false (.call (C 36) [.t 8,.t 9]),Q7 11 7 10 7] (Cd 12 (S [OM 2 3] .ret) .skip)) (S [OM 2 0] .ret))),[.tm 2]⟩
def L22:aZ :=⟨12,aC [tL 3 1 1] (aC [Q6 5 0 0,aV 8 0 7 1,VS 10 51 3 50 9,Om 4 11] .ret),[.tm 4]⟩
def L24:aZ :=⟨19,aC [tL 3 4 1] (.seq (.iZ (.op (Pm 8 0) (.op (Pa 10 1 3) (.op (Pa 12 2 3) (.seq (.alt (Ok 9 29 [.t 8]) (.op (Pl 11 10) (.op (Pl 13 12) .done)) (.alt (Pl 11 10) (.alt (Ok 9 29 [.t 8]) (.op (Pl 13 12) .done) (.alt (Pl 13 12) (.alt (Ok 9 29 [.t 8]) .done .no) .no)) (.alt (Pl 13 12) (.alt (Ok 9 29 [.t 8]) (.op (Pl 11 10) .done) (.alt (Pl 11 10) (.alt (Ok 9 29 [.t 8]) .done .no) .no)) .no))) (.alt (Ok 14 52 [.t 9,.t 11,.t 13]) (.op (Om 7 14) (.op (Oe 15 7 0) (.op (Oe 16 7 1) (.op (Om 5 15) (.op (Om 6 16) .done))))) .no)))))) (aC [OI 17 6 0,Om 4 18] .ret)),[.tm 4]⟩
def L43:aZ :=⟨80,S [O 2 (.dV (.c (.str ⟨#[]⟩))),Pe 3,Pf 4] (S [Pe 5] (S [OM 6 0] (.seq (S [OM 7 0] (.block 0 (.loop (.seq (aC [bL 13 7 0,O 15 (.x (.rE (.t 14))),Ob 16 .leq 13 15] (Ce 16 0)) (.seq (.block 1 (aC [bL 19 7 0,O 21 (.x (.rE (.t 20))),Ob 22 .eql 19 21,Xa 23 22 0 7,G 27 23 false (.bin false .eql (.t 26) (.c (.int .u8 (32)))),Pq 28 23 27] (Cd 28 (aC [bL 29 5 0,bL 31 6 7,O 33 (.x (.TU (.t 30) (some (.t 31)) (some (.t 32)))),Q9 34 9 1 33 9 1 16 29 5] (cC [gR 36 7 1 6])) .skip))) (cC [gR 17 7 1 7])))))) (S [OM 8 (-1)] (.seq (aC [Om 38 5,V5 39 1 38 0 1] (.block 2 (S [O 42 (.x (.eqv false ⟨false,[.str]⟩ (.t 40) (.c (.str ⟨#[99,101,114,116]⟩)))),Om 41 42] (Cd 41 (.region [OM 8 7]) (.seq (S [O 44 (.x (.eqv false ⟨false,[.str]⟩ (.t 40) (.c (.str ⟨#[98,97,100]⟩)))),Om 43 44] (Cd 43 .skip (.region [O 45 (.x (.eqv false ⟨false,[.str]⟩ (.t 40) (.c (.str ⟨#[112,97,115,115]⟩)))),Om 43 45]))) (Cd 43 (.region [OM 8 1]) (.seq (S [O 47 (.x (.eqv false ⟨false,[.str]⟩ (.t 40) (.c (.str ⟨#[108,111,116]⟩)))),Om 46 47] (Cd 46 .skip (.region [O 48 (.x (.eqv false ⟨false,[.str]⟩ (.t 40) (.c (.str ⟨#[114,117,110]⟩)))),Om 46 48]))) (Cd 46 (.region [OM 8 3]) (S [O 50 (.x (.eqv false ⟨false,[.str]⟩ (.t 40) (.c (.str ⟨#[116,101,115,116]⟩)))),Om 49 50] (Cd 49 (.region [OM 8 4]) .skip)))))))))) (.seq (aC [oZ 51 5,Om 53 8,Oc 54 .add 53 1,Ob 55 .neq 52 54] (Cd 55 (S [O 2 (.dV (.c (.str ⟨#[]⟩))),Pe 3,Pf 4] .ret) .skip)) (S [Pe 9] (.seq (S [OM 10 1] (.block 3 (.loop (.seq (aC [bL 56 10 5,lW 58 57 56] (Ce 59 3)) (.seq (.block 4 (aC [bL 63 5 10,wV 65 1 63 64 1,Ok 67 75 [.t 66],mV 62 67 68 0 69 1,bL 11 68 69] (.seq (S [Om 70 12,Oo 71 70] (Cd 71 (S [O 2 (.dV (.c (.str ⟨#[]⟩))),Pe 3,Pf 4] .ret) .skip)) (cC [bL 72 9 11,Q9 74 3 1 73 3 1 8 72 9])))) (cC [gR 60 10 1 10])))))) (aC [Om 76 5,V5 77 1 76 0 1,Om 79 9,bL 2 78 79,O 4 (.dV Bt)] .ret))))))))),[.tm 2,.tm 3,.tm 4]⟩
def L44:aZ :=⟨59,aC [Ox 2 5 0,SH 4 0] (.seq (aC [qX 9 1 1 0,Pt 8 5 2,Pl 11 10,Ok 12 76 [.t 8,.t 11]] (Cd 12 (aC [uF 13 5 2 5 4 5 6] .ret) .skip)) (aC [Ot 14 5 2,FI 6 5 14] (.seq (.iZ (.op (Pa 16 0 2) (.op (Pm 19 1) (.op (Pj 20 1 19 0) (.op (Pm 22 1) (.op (Pj 23 1 22 1) (.op (Pm 25 1) (.op (Pj 26 1 25 2) (.op (Pm 28 1) (.op (Pj 29 1 28 3) (.op (Pm 31 1) (.op (Pj 32 1 31 4) (.op (Pm 34 1) (.op (Pj 35 1 34 5) (.op (Pm 37 1) (.op (Pj 38 1 37 6) (.op (Pl 17 16) (.op (Pl 21 20) (.op (Pl 24 23) (.op (Pl 27 26) (.op (Pl 30 29) (.op (Pl 33 32) (.op (Pl 36 35) (.op (Pl 39 38) (.op (Of 40 (.build (.agg [Z0,Z0]) [(0,(1,(.t 36))),(1,(1,(.t 39)))])) (.op (Of 41 (.build (.agg [Z0,Z0,Z0,Z0,Z0,Z0,Z0]) [(0,(1,(.t 21))),(1,(1,(.t 24))),(2,(1,(.t 27))),(3,(1,(.t 30))),(4,(1,(.t 33))),(5,(2,(.t 40)))])) (.seq (.alt (Of 15 (.aQ 66 7 [])) (.alt (Of 18 (.iJ 66 7 56 (.t 15) (.t 17))) (.alt (Of 42 (.aQ 66 7 [.t 41])) .done .no) (.alt (Of 42 (.aQ 66 7 [.t 41])) (.alt (Of 18 (.iJ 66 7 56 (.t 15) (.t 17))) .done .no) .no)) (.alt (Of 42 (.aQ 66 7 [.t 41])) (.alt (Of 15 (.aQ 66 7 [])) (.alt (Of 18 (.iJ 66 7 56 (.t 15) (.t 17))) .done .no) .no) .no)) (.alt (Py 43 66 7 56 18 42) (.op (Oa 44 0 6) (.alt (Ns 1 44 43) .done .no)) .no)))))))))))))))))))))))))))) (.seq (aC [yR 46 0 6,Of 45 (.call (C 78) []),O 48 (.build (.agg [E0,E0]) [(0,(1,(.t 45))),(1,(1,(.t 47)))]),Ok 49 77 [.t 48],Om 7 49] (aC [O5 50 7 0] (Cd 51 (S [Ot 52 5 2,Om 53 7,Ns 5 4 52,Om 5 53] .ret) .skip))) (.seq (aC [Q8 54 5 6 80,Ok 56 79 [.t 55]] (Cd 56 (aC [uF 57 5 2 5 4 5 9] .ret) .skip)) (aC [uF 58 5 6 5 4 5 0] .ret)))))),[.cell 4 true 5,.tm 5]⟩
def L45:aZ :=⟨64,aC [Ox 2 5 0,SH 4 0] (.seq (aC [Ot 8 5 2,zW 9 1 76 8,Oo 11 10] (Cd 11 (aC [uF 12 5 2 5 4 5 7] .ret) .skip)) (.seq (aC [aV 13 1 2 1,zW 15 1 81 14] (Cd 16 (aC [uF 17 5 2 5 4 5 6] .ret) .skip)) (aC [Ot 18 5 2,FI 6 5 18] (S [Oa 19 1 6,N (.store 1 (.t 19) (.c E0))] (.seq (S [OM 7 0] (.block 0 (.loop (.seq (aC [Om 20 7,aV 21 1 2 1,lW 23 22 20,F1 25 24 1 2,Ov 28 25 7 25 1 27,Pg 30 25 29,Pn 31 25 1,Ko 32 25 30 31 25] (Ce 33 0)) (.seq (.block 1 (cC [Pa 36 1 6,Pa 38 1 2,Pm 40 7,Pl 37 36,H6 39 38 41 1 40,Pl 42 41,Em 43 3 1 42 3 1 8 37 1 6 1])) (cC [gR 34 7 1 7])))))) (aC [aV 46 1 6 1,Om 48 1,Pb 49 3 1 48,Py 50 3 1 8 47 49,Oa 51 1 6,Ns 1 51 50] (aC [Pa 52 1 6,Pa 54 1 2,Pa 56 1 6,nQ 53 52 55 54,Ia 57 56,Of 59 (.bin false .sub (.t 58) (I 1)),Of 60 (.J5 1 none (.t 55) (some (.t 59)) none none),Py 61 3 1 8 53 60,Oa 62 1 6,Ns 1 62 61] (aC [uF 63 5 6 5 4 5 0] .ret)))))))),[.cell 4 true 5,.tm 5]⟩
def L48:aZ :=⟨52,aC [Ox 2 5 0,SH 4 0] (aC [Ot 10 5 2,zW 11 1 83 10,Om 6 12] (.seq (S [Om 13 6,Oc 14 .lss 13 0] (Cd 14 (aC [uF 15 5 2 5 4 5 7] .ret) .skip)) (.seq (aC [aV 16 2 2 1,nB 18 6 4 17,aV 20 3 19 1] (Cd 21 (aC [uF 22 5 2 5 4 5 6] .ret) .skip)) (.seq (aC [Pa 25 2 2,Pm 27 6,Pt 24 5 2,H6 26 25 28 4 27,Pt 29 4 28,Ok 30 84 [.t 24,.t 29],mV 23 30 31 0 32 1,bL 7 31 32] (S [Om 33 7] (.block 0 (S [Oc 35 .eql 33 3,Om 34 35] (Cd 34 (aC [uF 36 5 2 5 4 5 8] .ret) (S [Oc 38 .eql 33 2,Om 37 38] (Cd 37 (aC [uF 39 5 2 5 4 5 11] .ret) .skip))))))) (aC [Ot 40 5 2,FI 9 5 40] (aC [O 41 (.aQ 68 4 []),aV 42 2 2 1,O 44 (.iJ 68 4 32 (.t 41) (.t 43)),Oa 45 2 9,Ns 1 45 44] (aC [aV 46 2 9 1,nB 48 6 4 47,Oa 50 3 49,N (.store 1 (.t 50) Bt)] (aC [uF 51 5 9 5 4 5 0] .ret)))))))),[.cell 4 true 5,.tm 5]⟩
def L56:aZ :=⟨13,aC [tL 3 4 1] (aC [aV 5 3 3 1,qY 7 6 0,ZAp 9 7 4 3 7 55 8,G 11 7 true (.bin false .neq (.t 10) (.c (.int .u8 (1)))),Pp 12 7 11,Om 4 12] .ret),[.tm 4]⟩
def L60:aZ :=⟨8,S [Pf 3] (S [Ol 4 1 1,Om 5 0,O 6 (.x (.look ⟨false,[.int .i64]⟩ (.bool false) false (.t 4) (.t 5))),Oo 7 6,Om 3 7] .ret),[.tm 3]⟩
def L73:aZ :=⟨18,S [O 6 .other] (.block 0 (S [O 8 (.x (.LN false (.t 6)))] (Cd 8 (.region [Om 3 6]) (S [O 9 (.x (.KZ 156 (.agg [Z0]) (.t 6))),Oe 10 9 1,Oe 11 9 0] (Cd 10 (S [O 4 (.alloc (.agg [Z0])),Ns 1 4 11] (.iZ (.op (Pa 14 0 4) (.op (Pl 12 1) (.op (Pt 13 5 0) (.op (Pz 16 12) (.op (Pa 17 0 16) (.seq (.alt (Pl 15 14) (.alt (Nf (.store 5 (.t 17) (.t 13))) .done .no) (.alt (Nf (.store 5 (.t 17) (.t 13))) (.op (Pl 15 14) .done) .no)) (.alt (Ns 1 2 15) .done .no))))))))) (S [Om 5 6] (.region [Om 7 5,N (.x (.B3 (.t 7)))]))))))),[]⟩
@[simp] def L77c:LT:=.alt (Nf (.store 7 (.t 9) (.t 146))) .done .no
@[simp] def L77a:LT:=.alt (Pt 151 7 150) L77c (.alt (Nf (.store 7 (.t 9) (.t 146))) (.op (Pt 151 7 150) .done) .no)
@[simp] def L77b:LT:=.alt (Pl 148 147) (.op (Of 150 (.ia 7 none (.t 148) (.t 149))) L77a) (.alt (Nf (.store 7 (.t 9) (.t 146))) (.op (Pl 148 147) (.op (Of 150 (.ia 7 none (.t 148) (.t 149))) (.op (Pt 151 7 150) .done))) .no)
@[simp] def L77d:LT:=.alt (Pt 151 7 150) (.alt (Of 10 (.alloc (.agg [Z0,Z0,Z0,Z0,Z0,Z0,Z0]))) L77c .no) (.alt (Of 10 (.alloc (.agg [Z0,Z0,Z0,Z0,Z0,Z0,Z0]))) L77a .no)
@[simp] def L77e:LT:=.alt (Pt 151 7 150) (.alt (Of 9 (.alloc (.agg [Z0,Z0,Z0,Z0,Z0,Z0,Z0]))) L77c .no) (.alt (Of 9 (.alloc (.agg [Z0,Z0,Z0,Z0,Z0,Z0,Z0]))) L77a .no)
def L77:aZ :=⟨176,S [Ox 1 2 0,OM 2 0] (.seq (aC [aV 11 0 1 1,On 13 12,Oc 14 .gtr 13 8,Om 15 14,mM 16 15 1 1 15 1,Xc 18 15 17 15 24 15] (Cd 20 (S [OM 2 3] .ret) .skip)) (.seq (S [OM 3 0] (.block 0 (.loop (.seq (aC [Om 21 3,aV 22 0 1 1,lW 24 23 21] (Ce 25 0)) (.seq (.block 1 (aC [aV 28 0 1 1,nB 30 3 4 29,Ot 32 4 31,O 4 (.alloc (.agg [Z0,.bool false,Z0,Z0])),Ns 4 4 32] (aC [aV 33 0 4 1,TJ 35 120 34 0 100,ZAu 37 36 2 4 2 121,Q7 41 37 40 37,Om 43 42,mM 44 43 1 4 43 1,G 46 43 false (.not (.t 45)),G 47 43 false (M 46),Ph 48 47 2 4,F2 49 47 0 48 47,G 51 47 true (.bin false .neq (.t 50) (I 0)),Pn 52 47 51,G 53 52 false (.fa 2 (.t 4)),mM 54 52 1 53 52 1,G 56 52 false (.bin false .neq (.t 55) (I 0)),G 57 47 true (.pick (.t 52) Bt (.t 56)),VV 58 43 47 57 43] (Cd 59 (S [OM 2 1] .ret) .skip)))) (cC [gR 26 3 1 3])))))) (.seq (S [OM 5 0] (.block 2 (.loop (.seq (aC [Om 60 5,aV 61 1 1 1,lW 63 62 60] (Ce 64 2)) (.seq (.block 3 (aC [aV 67 1 1 1,nB 69 5 7 68,Ot 71 7 70,V6 6 7 71] (.seq (aC [aV 72 0 6 1,TJ 74 120 73 1 999,Om 76 75,mM 77 76 1 6 76 1,mM 79 76 0 1 76 1,G 81 76 false (.len none (.t 80)),G 82 76 false (.bin false .sub (.t 81) (I 1)),G 83 76 false (.call (C 120) [.t 78,I 0,.t 82]),Q7 84 76 83 76,Om 86 85,mM 87 86 2 6 86 1,mM 89 86 0 1 86 1,G 91 86 false (.len none (.t 90)),G 92 86 false (.bin false .sub (.t 91) (I 1)),G 93 86 false (.call (C 120) [.t 88,I 0,.t 92]),Q7 94 86 93 86,Om 96 95,mM 97 96 2 6 96 1,mM 99 96 1 6 96 1,G 101 96 false (.bin false .eql (.t 98) (.t 100)),Pq 102 96 101,Om 103 102,mM 104 103 0 1 103 1,mM 106 103 1 6 103 1,G 108 103 false (.ia 4 none (.t 105) (.t 107)),mM 109 103 1 108 103 1,Pq 111 103 110] (Cd 111 (S [OM 2 1] .ret) .skip)) (aC [aV 112 3 6 1,TJ 114 120 113 0 1000,Om 116 115,mM 117 116 4 6 116 1,G 119 116 false (.call (C 120) [.t 118,I 0,I 1000]),Q7 120 116 119 116,ZAu 122 121 5 6 2 121,Q7 126 122 125 122] (Cd 127 (S [OM 2 1] .ret) .skip))))) (cC [gR 65 5 1 5])))))) (.seq (S [OM 7 0] (.block 4 (.loop (.seq (aC [Om 128 7,aV 129 1 1 1,lW 131 130 128] (Ce 132 4)) (.seq (.block 5 (S [OM 8 0] (.block 6 (.loop (.seq (aC [Om 135 8,aV 136 1 1 1,lW 138 137 135] (Ce 139 6)) (.seq (.block 7 (.seq (.iZ (.op (Pa 142 1 1) (.op (Pm 144 7) (.op (Pa 147 1 1) (.op (Pm 149 8) (.op (Pl 143 142) (.op (Of 145 (.ia 7 none (.t 143) (.t 144))) (.op (Pt 146 7 145) (.seq (.alt (Pl 148 147) (.op (Of 150 (.ia 7 none (.t 148) (.t 149))) (.alt (Pt 151 7 150) (.alt (Of 9 (.alloc (.agg [Z0,Z0,Z0,Z0,Z0,Z0,Z0]))) (.alt (Of 10 (.alloc (.agg [Z0,Z0,Z0,Z0,Z0,Z0,Z0]))) L77c .no) (.alt (Of 10 (.alloc (.agg [Z0,Z0,Z0,Z0,Z0,Z0,Z0]))) (.alt (Of 9 (.alloc (.agg [Z0,Z0,Z0,Z0,Z0,Z0,Z0]))) L77c .no) .no)) (.alt (Of 9 (.alloc (.agg [Z0,Z0,Z0,Z0,Z0,Z0,Z0]))) L77d (.alt (Of 10 (.alloc (.agg [Z0,Z0,Z0,Z0,Z0,Z0,Z0]))) L77e .no)))) (.alt (Of 9 (.alloc (.agg [Z0,Z0,Z0,Z0,Z0,Z0,Z0]))) (.alt (Pl 148 147) (.op (Of 150 (.ia 7 none (.t 148) (.t 149))) L77d) (.alt (Of 10 (.alloc (.agg [Z0,Z0,Z0,Z0,Z0,Z0,Z0]))) L77b .no)) (.alt (Of 10 (.alloc (.agg [Z0,Z0,Z0,Z0,Z0,Z0,Z0]))) (.alt (Pl 148 147) (.op (Of 150 (.ia 7 none (.t 148) (.t 149))) L77e) (.alt (Of 9 (.alloc (.agg [Z0,Z0,Z0,Z0,Z0,Z0,Z0]))) L77b .no)) .no))) (.alt (Ns 7 10 151) .done .no)))))))))) (aC [aV 152 0 9 1,aV 154 0 10 1,Ob 156 .eql 153 155,JH 157 156 7 9,ZzU 159 157 7 10 157 158 157,Om 162 161,mM 163 162 0 9 162 1,mM 165 162 0 10 162 1,G 167 162 false (.bin false .gtr (.t 164) (.t 166)),G 168 162 false (M 167),F2 169 168 3 9 168,F2 171 168 3 10 168,G 173 168 true (.bin false .lss (.t 170) (.t 172)),VV 174 162 168 173 162] (Cd 175 (S [OM 2 6] .ret) .skip)))) (cC [gR 140 8 1 8]))))))) (cC [gR 133 7 1 7])))))) (S [OM 2 0] .ret))))),[.tm 2]⟩
def L85:aZ :=⟨12,aC [Ox 2 5 0,tL 3 4 1] (aC [Pa 7 1 3,Pa 9 2 3,Pt 5 5 2,nQ 8 7 10 9,Of 6 (.call (C 80) [.t 5]),Ok 11 127 [.t 6,.t 8,.t 10],Om 4 11] .ret),[.tm 4]⟩
def L86:aZ :=⟨29,S [Ox 2 2 0,Pf 4] (aC [Q8 7 2 2 128,Om 5 8] (.seq (S [OM 6 0] (.block 0 (.loop (.seq (aC [bL 9 6 5,lW 11 10 9] (Ce 12 0)) (.seq (.block 1 (aC [JJ 16 5 6 1,JJ 22 5 6 1,Pm 26 1,Pt 15 2 2,Pl 19 18,Pt 21 2 2,Pl 25 24,Of 20 (.call (C 129) [.t 15,.t 19]),Ok 27 130 [.t 21,.t 25,.t 26],Ob 28 .gtr 20 27] (Cd 28 (S [Pf 4] .ret) .skip))) (cC [gR 13 6 1 6])))))) (S [O 4 (.dV Bt)] .ret))),[.tm 4]⟩
def L90:aZ :=⟨8,aC [tL 2 7 0] (aC [Ol 4 1 1,aV 5 0 2 1,O 7 (.x (.look ⟨false,[.int .i64]⟩ (.bool false) false (.t 4) (.t 6))),Om 3 7] .ret),[.tm 3]⟩
def L91:aZ :=⟨10,S [Ox 4 1 0,Ox 5 1 1,Ox 6 1 2,Ox 7 1 3,O 8 (.dV (.c .dP))] (S [O 9 (.yC 133 [] [.t 4,.t 7,.t 5,.t 6]),Om 8 9] .ret),[.tm 8]⟩
theorem L91_ok:fV Tryz.prog 91=some L91:=by kernel_rfl
def L104:aZ :=⟨5,S [Pf 2] (S [Om 3 0,Ok 4 105 [.t 3,C 106],Om 2 4] .ret),[.tm 2]⟩
def L106:aZ :=⟨18,aC [tL 1 2 0] (aC [aV 3 0 1 1,Ok 5 150 [.t 4],F1 6 5 1 1,SE 9 6 150 8 6,F1 11 10 0 1,F2 14 11 1 1 11,Kn 16 11 13 15 11,Om 2 17] .ret),[.tm 2]⟩
def L107:aZ :=⟨21,aC [tL 2 3 0] (aC [aV 4 0 2 1,Ok 6 108 [.t 5],F1 7 6 1 2,SE 10 7 108 9 7,F1 12 11 2 2,G 15 12 true (.len none (.t 14)),F2 16 12 0 1 12,G 18 12 true (.len none (.t 17)),G 19 12 true (.bin false .eql (.t 15) (.t 18)),Pp 20 12 19,Om 3 20] .ret),[.tm 3]⟩
def L108:aZ :=⟨5,S [Pf 2] (S [Om 3 0,Ok 4 151 [.t 3,I 0,I 40],Om 2 4] .ret),[.tm 2]⟩
def L113:aZ :=⟨80,S [Pf 4] (aC [Om 13 1,O 14 (.build (.agg [Z0,Z0,Z0]) [(0,(1,(.t 13))),(1,(1,(I (-1)))),(2,(1,(I (-1))))]),JI 5 3 14] (aC [O 15 (.x .G0),Ot 16 3 5,Ot 17 3 5,N (.x (.iN ⟨true,[.int .i64,.int .i64,.int .i64]⟩ (.t 15) (.t 16) (.t 17))),kE 18 15 6] (S [Ot 19 3 5,Pb 20 262 3 19,Om 7 20] (.seq (.block 0 (.loop (.seq (aC [oZ 21 7,Oc 23 .gtr 22 0] (Ce 23 0)) (.block 1 (aC [Om 24 7,O 25 (.ia 3 none (.t 24) (I 0)),Ot 26 3 25,JI 8 3 26] (S [Om 27 7,O 28 (.J5 3 none (.t 27) (some (I 1)) none none),Om 7 28] (.seq (aC [Pt 29 3 8,Of 30 (.call (C 157) [.t 29]),Of 31 (.bin false .eql (.t 30) (I 2)),Pm 32 31,Kl 33 32 0 32 32 2,Gf 37 32 true (.fa 2 (.t 8)),Gf 39 32 true (.fa 1 (.t 8)),Pi 36 32 35,Pi 38 32 37,Gf 41 32 true (.ia 4 none (.t 36) (.t 38)),Pi 40 32 39,Gf 42 32 true (.ia 1 (some 4) (.t 41) (.t 40)),Pi 43 32 42,G 44 32 true (.bin false .eql (.t 43) (I (-1))),Pp 45 32 44] (Cd 45 (aC [Om 46 0,Ot 47 3 8,NL 48 6 158 46 47] (S [O 4 (.dV Bt)] .ret)) .skip)) (aC [Pm 56 0,Of 60 (.dV (I 0)),Pt 51 3 8,Pt 57 3 8,Of 50 (.call (C 159) []),Of 52 (.call (C 157) [.t 51]),Of 53 (.ia 1 none (.t 50) (.t 52)),yR 54 0 53,O 58 (.call (.t 55) [.t 56,.t 57]),On 59 58] (.block 2 (.loop (S [Ob 61 .lss 60 59] (.seq (Ce 61 2) (.seq (.block 3 (aC [Oi 62 3 58 60,Ot 63 3 62,JI 10 3 63] (aC [Om 65 6,Ot 66 3 10,O 67 (.x (.look ⟨true,[.int .i64,.int .i64,.int .i64]⟩ (.agg [Z0,Z0,Z0]) true (.t 65) (.t 66))),mV 64 67 68 0 69 1,JI 11 3 68,Om 12 69] (S [Om 70 12,Oo 71 70] (Cd 71 (S [Om 72 6,Ot 73 3 10,Ot 74 3 8,N (.x (.iN ⟨true,[.int .i64,.int .i64,.int .i64]⟩ (.t 72) (.t 73) (.t 74)))] (cC [Om 75 7,Ot 76 3 10,Q9 77 262 3 76 262 3 24 75 7])) .skip))))) (cC [pR 79 60 1 60])))))))))))))) (S [Pf 4] .ret))))),[.tm 4]⟩
def L117:aZ :=⟨9,S [O 0 (.dV (.c .cR))] (aC [O 1 (.x .G0),O 2 (.build (.agg [Z0,.dP]) [(0,(1,(I 7))),(1,(1,(C 161)))]),N (.x (.iN ⟨false,[.str]⟩ (.t 1) (.c (.str ⟨#[99,101,114,116]⟩)) (.t 2))),O 3 (.build (.agg [Z0,.dP]) [(0,(1,(I 1))),(1,(1,(C 162)))]),N (.x (.iN ⟨false,[.str]⟩ (.t 1) (.c (.str ⟨#[98,97,100]⟩)) (.t 3))),O 4 (.build (.agg [Z0,.dP]) [(0,(1,(I 3))),(1,(1,(C 163)))]),N (.x (.iN ⟨false,[.str]⟩ (.t 1) (.c (.str ⟨#[108,111,116]⟩)) (.t 4))),O 5 (.build (.agg [Z0,.dP]) [(0,(1,(I 4))),(1,(1,(C 164)))]),N (.x (.iN ⟨false,[.str]⟩ (.t 1) (.c (.str ⟨#[116,101,115,116]⟩)) (.t 5))),O 6 (.build (.agg [Z0,.dP]) [(0,(1,(I 1))),(1,(1,(C 165)))]),N (.x (.iN ⟨false,[.str]⟩ (.t 1) (.c (.str ⟨#[112,97,115,115]⟩)) (.t 6))),O 7 (.build (.agg [Z0,.dP]) [(0,(1,(I 3))),(1,(1,(C 166)))]),N (.x (.iN ⟨false,[.str]⟩ (.t 1) (.c (.str ⟨#[114,117,110]⟩)) (.t 7))),kE 8 1 0] .ret),[.tm 0]⟩
def L120:aZ :=⟨15,S [Pf 6] (aC [bL 7 0 1,Ob 9 .geq 7 8,SD 10 9 0 2 6] .ret),[.tm 6]⟩
def L122:aZ :=⟨72,S [Ox 1 2 0,O 2 (.dV (.c .eU))] (S [Ot 8 2 1,Ok 9 169 [.t 8,.c E0],O 10 (.build (.agg (List.replicate 2000 Z0 ++ [E0])) [(2000,(1,(.t 9)))]),Ox 11 2001 10,Om 3 11] (.seq (S [OM 4 0] (.block 0 (.loop (.seq (aC [bL 12 4 3,Oz 14 13,aV 15 2000 14 1,lW 17 16 12] (Ce 18 0)) (.seq (.block 1 (S [OM 5 0] (.block 2 (.loop (.seq (aC [Om 21 5,aV 22 1 1 1,lW 24 23 21] (Ce 25 2)) (.seq (.block 3 (aC [aV 28 1 1 1,nB 30 5 7 29,Ot 32 7 31,V6 6 7 32] (aC [Pa 33 0 6,yQ 35 3 2000,Pm 39 4,Pl 34 33,H6 38 37 40 1 39,Pl 41 40,Ob 42 .eql 34 41] (Cd 42 (aC [Ot 43 2 1,Om 44 3,aV 45 2 6 1,aV 47 3 6 1,aV 49 0 6 1,Ok 51 123 [.t 43,.t 44,.t 46,.t 48,.t 50],SG 7 2 51] (cC [Pm 52 3,Pa 53 0 6,Pa 55 0 7,Pa 57 5 6,Pa 58 0 57,Pa 61 1 7,Pa 63 5 6,Pa 64 1 63,Pz 68 52,Pa 69 0 68,nQ 54 53 56 55,Pl 59 58,Of 60 (.bin false .add (.t 56) (.t 59)),nQ 62 61 65 64,Of 66 (.bin false .add (.t 62) (.t 65)),Of 67 (.build (.agg [Z0,Z0]) [(0,(1,(.t 60))),(1,(1,(.t 66)))]),O 70 (.ia 2 (some 1000) (.t 69) (.t 54)),Ns 2 70 67])) .skip)))) (cC [gR 26 5 1 5]))))))) (cC [gR 19 4 1 4])))))) (aC [kE 71 3 2] .ret))),[.tm 2]⟩
def L126:aZ :=⟨8,S [O 2 (.alloc (.agg [Z0,E0]))] (aC [Om 3 0,ZAd 4 0 1 2 1 1 0 2 1 2 0 1 2 1 1 1 2 1 2 278 3 0 1 3 1 1,Ns 2 2 7] .ret),[.cell 2 true 2]⟩
def L127:aZ :=⟨45,S [Ox 3 2 0,Pf 6] (.seq (aC [aV 10 0 3 1,nB 12 1 4 11,aV 14 1 13 1] (Cd 15 (S [O 6 (.dV Bt)] .ret) .skip)) (S [Ot 16 2 3,Ok 17 169 [.t 16,.c E0],Om 7 17] (.seq (S [OM 8 0] (.block 0 (.loop (.seq (aC [Om 18 8,aV 19 1 3 1,lW 21 20 18] (Ce 22 0)) (.seq (.block 1 (aC [aV 25 1 3 1,nB 27 8 7 26,Ot 29 7 28,V6 9 7 29] (aC [aV 30 1 9 1,Om 32 1,Ob 33 .eql 31 32,JH 34 33 7 9,Pn 36 34 2,FH 37 34 170 35 36 34,qY 39 38 7,F2 41 39 0 9 39,FH 43 39 81 40 42 39] (Cd 44 (S [O 6 (.dV Bt)] .ret) .skip)))) (cC [gR 23 8 1 8])))))) (S [Pf 6] .ret)))),[.tm 6]⟩
def L133:aZ :=⟨45,aC [Ol 9 1 1,Oz 10 9,aV 11 3 10 1,xQ 13 12 0] (.block 0 (.loop (S [Ob 15 .lss 14 13] (.seq (Ce 15 0) (.seq (.block 1 (aC [wV 16 1 12 14 1,Om 7 17] (aC [Ol 18 1 1,Oz 19 18,aV 20 2 19 1,Xb 22 7 21,V6 8 7 23] (aC [Om 24 7,Ol 25 1 2,Ob 26 .lss 24 25,F1 27 26 1 8,Pg 30 27 3,G 31 27 true (.bin false .eql (.t 29) (.t 30)),Pp 32 27 31,JH 33 32 7 8,Pg 35 33 4,FH 36 33 134 34 35 33,qY 38 37 0,G 40 38 true (.load true 7 (.t 8)),G 41 38 true (.call (.t 39) [.t 40]),JK 42 38 41 38] (Cd 43 .ret .skip))))) (cC [pR 44 14 1 14])))))),[]⟩
theorem L133_ok:fV Tryz.prog 133=some L133:=by kernel_rfl
def L136:aZ :=⟨36,S [OM 4 0] (.seq (aC [oZ 9 0,OM 11 0] (.block 0 (.loop (S [Ob 12 .lss 11 10] (.seq (Ce 12 0) (.seq (.block 1 (aC [Om 13 11,wV 14 1 9 11 1,bL 5 13 15] (.seq (aC [bL 16 5 1,On 18 17,Ob 19 .geq 16 18] (Cd 19 (S [OM 4 1] .ret) .skip)) (aC [bL 20 1 5,wV 22 1 20 21 1,Om 7 23] (aC [bL 24 6 7,Ok 26 173 [.t 24,.t 25],Om 8 26] (aC [O5 27 8 0] (Cd 28 (aC [kE 29 8 4] .ret) .skip))))))) (cC [pR 30 11 1 11]))))))) (.seq (aC [oZ 31 0,Om 33 1,lW 34 33 32] (Cd 35 (S [OM 4 (-1)] .ret) .skip)) (S [OM 4 0] .ret))),[.tm 4]⟩
def L139:aZ :=⟨15,S [Ox 2 3 0,O 4 (.dV (.c (.int .u8 (0))))] (.seq (.block 0 (aC [Om 6 1,aV 7 1 2 1,Ob 9 .leq 6 8,Om 5 9] (Cd 5 (S [O 4 (.dV (.c (.int .u8 (1))))] .ret) (aC [Om 11 1,aV 12 2 2 1,Ob 14 .geq 11 13,Om 10 14] (Cd 10 (S [O 4 (.dV (.c (.int .u8 (2))))] .ret) .skip))))) (S [O 4 (.dV (.c (.int .u8 (3))))] .ret)),[.tm 4]⟩
def L143:aZ :=⟨52,aC [Ox 2 2 0,tL 3 7 1] (aC [aV 5 0 3 1,Ok 7 98 [.t 6],JH 8 7 2 2,F2 10 8 1 3 8,FH 12 8 131 9 11 8,F1 14 13 0 2,F2 17 14 1 3 14,G 19 14 true (.ia 4 none (.t 16) (.t 18)),F2 20 14 1 19 14,JK 22 14 21 14,JH 24 23 2 2,F2 26 24 2 3 24,FH 28 24 131 25 27 24,F1 30 29 2 3,F2 33 30 1 3 30,G 35 30 true (.bin false .neq (.t 32) (.t 34)),Pp 36 30 35,F1 37 36 3 3,SE 40 37 132 39 37,F1 42 41 4 3,SE 45 42 132 44 42,Om 47 46,Ph 48 47 5 3,G 49 47 true (.load true 2 (.t 48)),SE 50 47 182 49 47,Om 4 51] .ret),[.tm 4]⟩
def L144:aZ :=⟨11,aC [oZ 3 0,Om 2 4] (cC [bL 5 0 2,Om 7 2,O 8 (.conv .u64 (.t 7)),Ok 9 185 [.t 8],Ok 10 184 [.t 5,I 0,.t 6,.t 9]]),[]⟩
def L153:aZ :=⟨8,S [Pf 3] (S [Ol 4 1 1,Om 5 0,O 6 (.call (.t 4) [.t 5]),Oo 7 6,Om 3 7] .ret),[.tm 3]⟩
def L158:aZ :=⟨51,S [Ox 4 3 1] (.block 0 (.loop (.seq (S [Pm 8 2,Pt 7 3 4,Pt 9 3 4,Of 10 (.x (.look ⟨true,[.int .i64,.int .i64,.int .i64]⟩ (.agg [Z0,Z0,Z0]) false (.t 8) (.t 9))),O 11 (.x (.eqv true ⟨true,[.int .i64,.int .i64,.int .i64]⟩ (.t 7) (.t 10)))] (Ce 11 0)) (.block 1 (aC [Om 12 2,Ot 13 3 4,O 14 (.x (.look ⟨true,[.int .i64,.int .i64,.int .i64]⟩ (.agg [Z0,Z0,Z0]) false (.t 12) (.t 13))),JI 6 3 14] (.seq (.block 2 (aC [Q8 16 3 4 157,Oc 18 .eql 17 2,Om 15 18] (Cd 15 (cC [yQ 19 0 2,Pa 23 2 4,Pa 25 1 4,Pa 27 0 6,nQ 22 21 24 23,Of 29 (.ia 4 none (.t 22) (.t 24)),nQ 26 25 28 27,O 30 (.ia 1 (some 4) (.t 29) (.t 26)),Ns 1 30 28]) (aC [Q8 32 3 4 157,Oc 34 .eql 33 1,JH 35 34 3 6,G 37 35 true (.call (C 157) [.t 36]),SC 38 35 37 2 35,Om 31 39] (Cd 31 (cC [yQ 40 0 2,Pa 44 2 4,Pa 46 1 6,nQ 43 42 45 44,Of 48 (.ia 4 none (.t 43) (.t 45)),Pl 47 46,O 49 (.ia 1 (some 4) (.t 48) (.t 47)),N (.store 1 (.t 49) (I (-1)))]) .skip))))) (.region [Ot 50 3 6,Ns 3 4 50]))))))),[]⟩
def L161:aZ :=⟨61,aC [bL 5 0 1,V5 7 1 6 0 1,Ok 9 22 [.t 5,.t 8],Oo 10 9,Ok 11 118 [.t 10,I 6]] (aC [Pm 12 0,yQ 13 0 0,Pa 16 0 15,qX 18 1 1 0,qX 21 1 1 1,qX 24 1 1 2,qX 27 1 1 3,qX 30 1 1 4,qX 33 1 1 5,qX 36 1 1 6,nQ 17 16 20 19,nQ 23 22 26 25,nQ 29 28 32 31,nQ 35 34 38 37,Of 39 (.build (.agg [Z0,Z0]) [(0,(1,(.t 35))),(1,(1,(.t 38)))]),Of 40 (.build (.agg [Z0,Z0,Z0,Z0,Z0,Z0,Z0]) [(0,(1,(.t 20))),(1,(1,(.t 23))),(2,(1,(.t 26))),(3,(1,(.t 29))),(4,(1,(.t 32))),(5,(2,(.t 39)))]),Ok 41 202 [.t 17,.t 40],x6 42 12 0,Oa 44 0 43,Ns 1 44 41] (aC [qC 45 0 204,Ok 47 203 [.t 46],Om 4 47] (aC [OI 48 4 0,zW 50 4 118 49] (aC [qC 53 0 29,Ok 55 205 [.t 54],mV 52 55 56 0 57 1,Om 4 57] (cC [OI 58 4 7,Ok 60 118 [.t 59,I 9]]))))),[]⟩
def L165:aZ :=⟨62,aC [bL 8 0 1,V5 10 1 9 0 1,Ok 12 209 [.t 8,.t 11],mV 7 12 13 0 14 1,bL 4 13 14] (S [Om 15 5,Ok 16 118 [.t 15,I 7]] (aC [Q6 17 0 0,aV 20 2 19 1,nB 22 4 4 21,aV 24 3 23 1,Oo 26 25,Ok 27 118 [.t 26,I 6]] (aC [bL 28 0 0,x6 30 29 0,aV 32 2 31 1,nB 34 4 4 33,OJ 36 4 35 55 28,Om 6 37] (aC [ZAn 38 6 3,Ok 40 118 [.t 39,I 8]] (S [Om 41 6,O 42 (.bin false .eql (.t 41) (.c (.int .u8 (1)))),Ok 43 118 [.t 42,I 11]] (aC [bL 44 0 0,x6 46 45 0,aV 48 2 47 1,Ok 50 41 [.t 49],x6 51 44 0,Oa 53 2 52,Ns 1 53 50] (cC [Q6 54 0 0,aV 57 2 56 1,nB 59 4 4 58,Oa 61 3 60,N (.store 1 (.t 61) Bt)]))))))),[]⟩
def L172:aZ :=⟨72,S [Ox 5 2 0,OM 10 0] (.seq (aC [Om 13 3,aV 14 0 5 1,On 16 15,Ob 17 .eql 13 16] (Cd 17 (S [OM 10 0] .ret) .skip)) (aC [Ot 18 2 5,bL 19 1 2,Om 21 3,Oc 22 .add 21 1,Om 23 4,Ok 24 172 [.t 18,.t 19,.t 20,.t 22,.t 23],Om 11 24] (.seq (S [OM 12 0] (.block 0 (.loop (.seq (aC [bL 25 12 1,lW 27 26 25] (Ce 28 0)) (.seq (.block 1 (.seq (aC [Pm 31 4,JJ 32 1 12 1,VT 35 34 1 31,Pl 37 36,Pm 38 37,Gf 40 38 false (M 1),Gf 41 38 false (M 12),Gf 42 38 false (.ia 1 none (.t 40) (.t 41)),Gf 44 38 false (M 3),Gf 45 38 false (M 2),Gf 39 38 false (.load true 2 (.t 5)),Gf 43 38 false (.load false 1 (.t 42)),G 46 38 false (.call (C 217) [.t 39,.t 43,.t 44,.t 45]),Q7 47 38 46 38] (Cd 48 (.exit 1) .skip)) (aC [bL 49 4 1,nB 51 12 1 50,Ol 53 1 52,Oi 54 1 49 53,N (.store 1 (.t 54) Bt)] (aC [Om 55 11,Ot 56 2 5,bL 57 1 2,Om 59 3,Oc 60 .add 59 1,Om 61 4,Ok 62 172 [.t 56,.t 57,.t 58,.t 60,.t 61],O 63 (.bin false .add (I 1) (.t 62)),O 64 (.jB true (.t 55) (.t 63)),Om 11 64] (cC [bL 65 4 1,nB 67 12 1 66,Ol 69 1 68,Oi 70 1 65 69,N (.store 1 (.t 70) Bf)]))))) (cC [gR 29 12 1 12])))))) (aC [kE 71 11 10] .ret)))),[.tm 10]⟩
@[simp] def L174a:LT:=.op (O 9 (.build (.agg [.eU,.cR,.cR]) [(0,(1,(.t 5))),(1,(1,(.t 7))),(2,(1,(.t 8)))])) (.alt (Ox 10 3 9) .done .no)
@[simp] def L174b:LT:=.op (O 9 (.build (.agg [.eU,.cR,.cR]) [(0,(1,(.t 5))),(1,(1,(.t 7))),(2,(1,(.t 8)))])) (.alt (Ox 10 3 9) (.alt (Of 3 (.alloc .eU)) .done .no) (.alt (Of 3 (.alloc .eU)) (.alt (Ox 10 3 9) .done .no) .no))
@[simp] def L174c:LT:=.alt (Pl 5 1) (.alt (Ok 7 58 [.t 6]) L174a .no) (.alt (Ok 7 58 [.t 6]) (.op (Pl 5 1) L174a) .no)
@[simp] def L174d:LT:=.alt (Ok 7 58 [.t 6]) (.alt (Of 8 (.x .G0)) L174a .no) (.alt (Of 8 (.x .G0)) (.alt (Ok 7 58 [.t 6]) L174a .no) .no)
@[simp] def L174e:LT:=.alt (Ok 7 58 [.t 6]) L174b (.alt (Of 3 (.alloc .eU)) (.alt (Ok 7 58 [.t 6]) L174a .no) .no)
@[simp] def L174f:LT:=.alt (Of 8 (.x .G0)) L174b (.alt (Of 3 (.alloc .eU)) (.alt (Of 8 (.x .G0)) L174a .no) .no)
def L174:aZ :=⟨19,S [Ox 1 1 0,O 2 (.dV (.c .eU))] (.seq (.iZ (.op (Pl 6 1) (.seq (.alt (Pl 5 1) (.alt (Ok 7 58 [.t 6]) L174f (.alt (Of 8 (.x .G0)) L174e (.alt (Of 3 (.alloc .eU)) L174d .no))) (.alt (Ok 7 58 [.t 6]) (.op (Pl 5 1) L174f) (.alt (Of 8 (.x .G0)) (.alt (Pl 5 1) L174e (.alt (Ok 7 58 [.t 6]) (.op (Pl 5 1) L174b) (.alt (Of 3 (.alloc .eU)) L174c .no))) (.alt (Of 3 (.alloc .eU)) (.alt (Pl 5 1) L174d (.alt (Ok 7 58 [.t 6]) (.op (Pl 5 1) (.alt (Of 8 (.x .G0)) L174a .no)) (.alt (Of 8 (.x .G0)) L174c .no))) .no)))) (.alt (Ns 1 3 10) .done .no)))) (S [O 4 (.alloc .dP)] (S [O 11 (.yC 219 [] [.t 1,.t 3,.t 4]),Ns 1 4 11] (aC [Pl 12 4,Pl 13 1,Pz 14 13,yR 15 3 14,O 17 (.call (.t 12) [.t 16])] (S [Ol 18 1 3,Om 2 18] .ret))))),[.tm 2]⟩
def L183:aZ :=⟨8,aC [tL 2 7 0] (aC [Ol 4 1 1,AE 5 7 2 4,Oo 7 6,Om 3 7] .ret),[.tm 3]⟩
def L203:aZ :=⟨11,S [Ox 1 2 0,OM 2 0] (aC [Q8 6 2 1 97,mV 5 7 8 0 9 1,bL 3 8 9] (aC [kE 10 4 2] .ret)),[.tm 2]⟩
def L208:aZ :=⟨15,S [Pf 6] (aC [bL 7 1 0,Ob 9 .leq 7 8,SD 10 9 0 2 6] .ret),[.tm 6]⟩
def L222:aZ :=⟨2,S [O 0 (.alloc (.agg [Z0,Z0]))] (S [O 1 (.build (.agg [Z0,Z0]) [(0,(1,(I (-1099511627776)))),(1,(1,(I 1099511627776)))]),Ns 2 0 1] .ret),[.cell 0 true 2]⟩
def L228:aZ :=⟨5,S [Pf 2] (S [Om 3 0,Ok 4 145 [.t 3,I (-100000),I 100000],Om 2 4] .ret),[.tm 2]⟩
def L250:aZ :=⟨8,aC [tL 2 7 0] (aC [aV 4 0 2 1,Ol 6 1 1,Ob 7 .eql 5 6,Om 3 7] .ret),[.tm 3]⟩
def L251:aZ :=⟨6,S [Pf 2] (aC [bL 3 0 0,Ob 5 .neq 3 4,Om 2 5] .ret),[.tm 2]⟩
def L265:aZ :=⟨23,aC [Ox 2 7 0,tL 3 7 1] (aC [aV 5 1 3 1,aV 7 2 2 1,Ob 9 .eql 6 8,F1 10 9 0 3,F2 13 10 0 2 10,Ko 15 10 12 14 10,JH 17 16 7 3,F2 19 17 3 2 17,FH 21 17 170 18 20 17,Om 4 22] .ret),[.tm 4]⟩
def L279:aZ :=⟨27,S [Ot 7 2 1,O 8 (.yC 280 [.t 7] []),Om 5 8] (aC [aV 9 0 1 1,xQ 11 10 0] (.block 0 (.loop (S [Ob 13 .lss 12 11] (.seq (Ce 13 0) (.seq (.block 1 (aC [kE 14 12 6] (aC [Om 15 5,Ol 16 1 2,Om 17 6,Ol 18 1 3,O 19 (.call (.t 15) [.t 16,.t 17,.t 18]),qY 20 19 0,Pn 22 20 6,G 23 20 true (.call (.t 21) [.t 22]),JK 24 20 23 20] (Cd 25 .ret .skip)))) (cC [pR 26 12 1 12]))))))),[]⟩
def L280:aZ :=⟨38,aC [Ox 4 2 0,tL 7 1 3] (aC [aV 11 1 4 1,nB 13 1 3 12,Eo 15 3 14 9,Ns 3 9 15] (S [O 16 (.yC 294 [] [.t 7]),Om 10 16] (aC [aV 17 2 9 1,nB 19 2 1 18,Ol 21 1 20,F1 22 21 1 9,Pg 25 22 7,Kn 26 22 24 25 22,F1 28 27 0 4,Ov 31 28 2 28 1 30,Pg 33 28 32,Pn 34 28 10,G 35 28 true (.call (C 148) [.t 33,.t 34]),JK 36 28 35 28,Om 8 37] .ret))),[.tm 8]⟩
end
noncomputable section
def L6:aZ :=⟨24,S [O 2 (.alloc (.agg [E0,E0,E0,E0,E0])),Pe 3,OM 4 0] (.seq (aC [qC 7 0 17,Om 5 8] (aC [O5 9 5 0] (Cd 10 (S [O 11 (.build (.agg [E0,E0,E0,E0,E0]) []),Om 12 5,Ns 5 2 11,Pe 3,Om 4 12] .ret) .skip))) (aC [qC 14 0 18,mV 13 15 16 0 17 1,Om 6 16,Om 3 17] (aC [Q6 18 6 0,Q8 21 5 20 19,Om 23 3,Ns 5 2 22,Om 3 23,OM 4 0] .ret))),[.cell 2 true 5,.tm 3,.tm 4]⟩
def L7:aZ :=⟨6,S [Pe 2] (S [O 3 (.aQ 9 1 []),Om 4 0,O 5 (.iJ 9 1 16 (.t 3) (.t 4)),Om 2 5] .ret),[.tm 2]⟩
def L8:aZ :=⟨6,S [OM 2 0] (.seq (aC [qC 3 0 20,Oo 5 4] (Cd 5 (S [OM 2 3] .ret) .skip)) (S [OM 2 0] .ret)),[.tm 2]⟩
@[simp] def L9c:LT:=.alt (Nf (.store 3 (.t 9) (.t 119))) .done .no
@[simp] def L9a:LT:=.alt (Pt 124 3 123) L9c (.alt (Nf (.store 3 (.t 9) (.t 119))) (.op (Pt 124 3 123) .done) .no)
@[simp] def L9b:LT:=.alt (Pl 121 120) (.op (Of 123 (.ia 3 none (.t 121) (.t 122))) L9a) (.alt (Nf (.store 3 (.t 9) (.t 119))) (.op (Pl 121 120) (.op (Of 123 (.ia 3 none (.t 121) (.t 122))) (.op (Pt 124 3 123) .done))) .no)
@[simp] def L9d:LT:=.alt (Pt 124 3 123) (.alt (Of 10 (.alloc (.agg [Z0,Z0,E0]))) L9c .no) (.alt (Of 10 (.alloc (.agg [Z0,Z0,E0]))) L9a .no)
@[simp] def L9e:LT:=.alt (Pt 124 3 123) (.alt (Of 9 (.alloc (.agg [Z0,Z0,E0]))) L9c .no) (.alt (Of 9 (.alloc (.agg [Z0,Z0,E0]))) L9a .no)
def L9:aZ :=⟨164,aC [Ox 2 5 0,tL 3 5 1] (.seq (aC [aV 12 1 2 1,aV 14 1 3 1,Ok 16 16 [.t 13,.t 15],Oo 17 16,Om 18 17,mM 19 18 0 2 18 1,G 21 18 false (.len none (.t 20)),mM 22 18 0 3 18 1,El 24 18 23 18 21 18,Om 27 26,mM 28 27 2 2 27 1,G 30 27 false (.len none (.t 29)),mM 31 27 2 3 27 1,El 33 27 32 27 30 27,Om 36 35,mM 37 36 3 2 36 1,G 39 36 false (.len none (.t 38)),mM 40 36 3 3 36 1,El 42 36 41 36 39 36,Om 45 44,mM 46 45 4 2 45 1,G 48 45 false (.len none (.t 47)),mM 49 45 4 3 45 1,El 51 45 50 45 48 45] (Cd 53 (S [Pf 4] .ret) .skip)) (.seq (S [OM 5 0] (.block 0 (.loop (.seq (aC [Om 54 5,aV 55 0 2 1,lW 57 56 54] (Ce 58 0)) (.seq (.block 1 (aC [Pa 61 0 2,Pm 63 5,Pa 66 0 3,Pm 68 5,H6 62 61 64 7 63,Pt 65 7 64,H6 67 66 69 7 68,Pt 70 7 69,O 71 (.x (.eqv true ⟨true,[.int .i64,.int .i64,.int .i64,.int .i64,.int .i64,.int .i64,.int .i64]⟩ (.t 65) (.t 70)))] (Cd 71 (S [Pf 4] .ret) .skip))) (cC [gR 59 5 1 5])))))) (.seq (S [OM 6 0] (.block 2 (.loop (.seq (aC [Om 72 6,aV 73 2 2 1,lW 75 74 72] (Ce 76 2)) (.seq (.block 3 (aC [Pa 79 2 2,Pm 81 6,Pa 84 2 3,Pm 86 6,H6 80 79 82 4 81,Pt 83 4 82,H6 85 84 87 4 86,Pt 88 4 87,O 89 (.x (.eqv true ⟨true,[.int .i64,.int .i64,.int .i64,.bool]⟩ (.t 83) (.t 88)))] (Cd 89 (S [Pf 4] .ret) .skip))) (cC [gR 77 6 1 6])))))) (.seq (S [OM 7 0] (.block 4 (.loop (.seq (aC [Om 90 7,aV 91 3 2 1,lW 93 92 90] (Ce 94 4)) (.seq (.block 5 (aC [Pa 97 3 2,Pm 99 7,Pa 102 3 3,Pm 104 7,H6 98 97 100 4 99,Pt 101 4 100,H6 103 102 105 4 104,Pt 106 4 105,O 107 (.x (.eqv true ⟨true,[.int .i64,.int .i64,.int .i64,.int .i64]⟩ (.t 101) (.t 106)))] (Cd 107 (S [Pf 4] .ret) .skip))) (cC [gR 95 7 1 7])))))) (.seq (S [OM 8 0] (.block 6 (.loop (.seq (aC [Om 108 8,aV 109 4 2 1,lW 111 110 108] (Ce 112 6)) (.seq (.block 7 (.seq (.iZ (.op (Pa 115 4 2) (.op (Pm 117 8) (.op (Pa 120 4 3) (.op (Pm 122 8) (.op (Pl 116 115) (.op (Of 118 (.ia 3 none (.t 116) (.t 117))) (.op (Pt 119 3 118) (.seq (.alt (Pl 121 120) (.op (Of 123 (.ia 3 none (.t 121) (.t 122))) (.alt (Pt 124 3 123) (.alt (Of 9 (.alloc (.agg [Z0,Z0,E0]))) (.alt (Of 10 (.alloc (.agg [Z0,Z0,E0]))) L9c .no) (.alt (Of 10 (.alloc (.agg [Z0,Z0,E0]))) (.alt (Of 9 (.alloc (.agg [Z0,Z0,E0]))) L9c .no) .no)) (.alt (Of 9 (.alloc (.agg [Z0,Z0,E0]))) L9d (.alt (Of 10 (.alloc (.agg [Z0,Z0,E0]))) L9e .no)))) (.alt (Of 9 (.alloc (.agg [Z0,Z0,E0]))) (.alt (Pl 121 120) (.op (Of 123 (.ia 3 none (.t 121) (.t 122))) L9d) (.alt (Of 10 (.alloc (.agg [Z0,Z0,E0]))) L9b .no)) (.alt (Of 10 (.alloc (.agg [Z0,Z0,E0]))) (.alt (Pl 121 120) (.op (Of 123 (.ia 3 none (.t 121) (.t 122))) L9e) (.alt (Of 9 (.alloc (.agg [Z0,Z0,E0]))) L9b .no)) .no))) (.alt (Ns 3 10 124) .done .no)))))))))) (.seq (aC [aV 125 0 9 1,aV 127 0 10 1,Ob 129 .neq 126 128,Om 130 129,mM 131 130 1 9 130 1,mM 133 130 1 10 130 1,G 135 130 false (.bin false .neq (.t 132) (.t 134)),Pq 136 130 135,Om 137 136,mM 138 137 2 9 137 1,G 140 137 false (.len none (.t 139)),mM 141 137 2 10 137 1,El 143 137 142 137 140 137] (Cd 145 (S [Pf 4] .ret) .skip)) (S [OM 11 0] (.block 8 (.loop (.seq (aC [Om 146 11,aV 147 2 9 1,lW 149 148 146] (Ce 150 8)) (.seq (.block 9 (aC [Pa 153 2 9,Pm 155 11,Pa 158 2 10,Pm 160 11,H6 154 153 156 1 155,Pl 157 156,H6 159 158 161 1 160,Pl 162 161,O 163 (.bin true .neq (.t 157) (.t 162))] (Cd 163 (S [Pf 4] .ret) .skip))) (cC [gR 151 11 1 11]))))))))) (cC [gR 113 8 1 8])))))) (S [O 4 (.dV Bt)] .ret)))))),[.tm 4]⟩
def L15:aZ :=⟨12,S [Pe 2,OM 3 0] (.seq (aC [qC 5 0 17,Om 4 6] (aC [O5 7 4 0] (Cd 8 (S [Om 9 4,Pe 2,Om 3 9] .ret) .skip))) (aC [qC 10 0 34,Om 2 11,OM 3 0] .ret)),[.tm 2,.tm 3]⟩
def L19:aZ :=⟨39,S [Ox 1 5 0,O 2 (.alloc (.agg [E0,E0,E0,E0,E0]))] (S [Pe 3] (.seq (aC [aV 6 4 1 1,xQ 8 7 0] (.block 0 (.loop (S [Ob 10 .lss 9 8] (.seq (Ce 10 0) (.seq (.block 1 (aC [Oi 11 3 7 9,Eo 12 3 11 5,Ns 3 5 12] (cC [Pm 13 3,Pa 14 0 5,Pa 16 1 5,Pa 18 2 5,nQ 15 14 17 16,Pl 19 18,Of 20 (.call (C 38) [.t 19]),O 21 (.build (.agg [Z0,Z0,E0]) [(0,(1,(.t 15))),(1,(1,(.t 17))),(2,(1,(.t 20)))]),Q9 22 79 3 21 79 3 40 13 3]))) (cC [pR 24 9 1 9]))))))) (aC [Pa 25 0 1,Pa 28 1 1,Pa 31 2 1,Pa 34 3 1,Pm 37 3,nQ 26 25 29 28,nQ 32 31 35 34,Of 27 (.call (C 39) [.t 26]),Of 30 (.call (C 40) [.t 29]),Of 33 (.call (C 41) [.t 32]),Ok 36 42 [.t 35],O 38 (.build (.agg [E0,E0,E0,E0,E0]) [(0,(1,(.t 27))),(1,(1,(.t 30))),(2,(1,(.t 33))),(3,(1,(.t 36))),(4,(1,(.t 37)))]),Ns 5 2 38] .ret))),[.cell 2 true 5]⟩
@[simp] def L27a:LT:=.alt (Of 42 (.call (C 54) [.t 41])) (.op (Of 43 (.x (.sB 9 (.t 42)))) .done) .no
def L27:aZ :=⟨62,S [Ox 3 4 1,O 4 (.dV (.c (.str ⟨#[]⟩)))] (S [OM 5 0] (.seq (aC [Q6 9 0 0,aV 12 3 11 1,xQ 14 13 0] (.block 0 (.loop (S [Ob 16 .lss 15 14] (.seq (Ce 16 0) (.seq (.block 1 (aC [Oi 17 4 13 15,VU 18 4 17 7,Ns 4 7 18] (aC [aV 19 0 7 1,aV 21 0 3 1,Ob 23 .eql 20 22,qY 24 23 0,G 26 24 true (.load true 4 (.t 7)),FH 27 24 24 25 26 24] (Cd 28 (cC [gR 29 5 1 5]) .skip)))) (cC [pR 31 15 1 15]))))))) (.seq (.iZ (.op (Of 32 (.x (.sB 9 (.c (.str ⟨#[108,111,116]⟩))))) (.op (Pa 33 0 3) (.op (Of 36 (.x (.sB 9 (.c (.str ⟨#[116,101,115,116,115]⟩))))) (.op (Pm 37 5) (.op (Of 38 (.x (.sB 3 (.t 37)))) (.op (Pm 39 0) (.op (Pt 40 4 3) (.seq (.alt (Pl 34 33) (.op (Of 35 (.x (.sB 3 (.t 34)))) (.alt (Ok 41 55 [.t 39,.t 40]) L27a .no)) (.alt (Ok 41 55 [.t 39,.t 40]) (.op (Pl 34 33) (.op (Of 35 (.x (.sB 3 (.t 34)))) L27a)) .no)) (.alt (O 44 (.aQ 20 1 [.t 32,.t 35,.t 36,.t 38,.t 43])) (.alt (Ok 45 30 [.t 44]) (.op (Om 8 45) .done) .no) .no)))))))))) (.seq (aC [aV 46 3 3 1] (Cd 47 (.region [Om 48 8,O 49 (.x (.sB 9 (.t 48))),O 50 (.x (.sB 9 (.c (.str ⟨#[112,97,115,115,101,100]⟩)))),O 51 (.aQ 20 1 [.t 49,.t 50]),Ok 52 30 [.t 51],Om 8 52]) .skip)) (.seq (aC [Om 53 0,OJ 54 4 3 56 53] (Cd 55 (.region [Om 56 8,O 57 (.x (.sB 9 (.t 56))),O 58 (.x (.sB 9 (.c (.str ⟨#[114,101,99,97,108,108,101,100]⟩)))),O 59 (.aQ 20 1 [.t 57,.t 58]),Ok 60 30 [.t 59],Om 8 60]) .skip)) (aC [kE 61 8 4] .ret)))))),[.tm 4]⟩
def L28:aZ :=⟨27,S [Ox 2 2 0,Pe 4,OM 5 0] (aC [Ot 10 2 2,zW 11 1 57 10,mV 9 12 13 0 14 1,bL 6 13 14] (.seq (aC [O5 15 7 0] (Cd 16 (S [Om 17 7,Pe 4,Om 5 17] .ret) .skip)) (aC [qC 18 6 58,O 8 (.alloc .cR),Ns 1 8 19] (aC [x5 20 6,aV 22 3 21 1,Ok 24 40 [.t 23],VS 25 60 8 59 24,Om 4 26,OM 5 0] .ret)))),[.tm 4,.tm 5]⟩
def L30:aZ :=⟨33,S [O 2 (.dV (.c (.str ⟨#[]⟩)))] (S [Pe 3] (.seq (aC [oZ 8 0,OM 10 0] (.block 0 (.loop (S [Ob 11 .lss 10 9] (.seq (Ce 11 0) (.seq (.block 1 (aC [wV 12 1 8 10 1,Om 5 13] (S [Om 14 5] (.block 2 (S [O 15 (.x (.KZ 3 Z0 (.t 14))),Oe 16 15 1,Oe 17 15 0] (Cd 16 (S [Om 6 17] (cC [bL 18 3 6,Ok 20 65 [.t 19],Q9 21 9 1 20 9 1 16 18 3])) (S [O 23 (.x (.KZ 9 (.str ⟨#[]⟩) (.t 14))),Oe 24 23 1,Oe 25 23 0] (Cd 24 (S [Om 7 25] (cC [bL 26 3 7,Q9 28 9 1 27 9 1 16 26 3])) .skip)))))))) (cC [pR 30 10 1 10]))))))) (S [Om 31 3,O 32 (.call (C 66) [.t 31,.c (.str ⟨#[32]⟩)]),Om 2 32] .ret))),[.tm 2]⟩
def L35:aZ :=⟨6,S [Pf 2] (aC [Hz 3 0,Oc 5 .leq 4 200,Om 2 5] .ret),[.tm 2]⟩
def L36:aZ :=⟨9,aC [tL 3 1 1] (aC [Om 5 0,VS 6 72 3 71 5,Oo 8 7,Om 4 8] .ret),[.tm 4]⟩
def L46:aZ :=⟨93,aC [Ox 2 5 0,SH 4 0] (.seq (aC [Om 8 1,V5 9 1 8 0 1,TJ 11 82 10 1 99,VW 13 12 1 1 1 1 82 4 30,VW 20 19 1 1 2 1 82 0 1000] (Cd 26 (aC [uF 27 5 2 5 4 5 2] .ret) .skip)) (.seq (aC [qX 29 1 1 0,Pt 28 5 2,Pl 31 30,Ok 32 83 [.t 28,.t 31],Oc 33 .geq 32 0] (Cd 33 (aC [uF 34 5 2 5 4 5 6] .ret) .skip)) (aC [Ot 35 5 2,FI 6 5 35] (S [Oa 36 2 6,N (.store 1 (.t 36) (.c E0))] (.seq (S [OM 7 0] (.block 0 (.loop (.seq (aC [Pm 37 7,yR 38 2 2,Of 40 (.len none (.t 39)),Of 41 (.bin false .lss (.t 37) (.t 40)),Pm 42 41,Gf 43 42 true (.fa 2 (.t 2)),Gf 45 42 true (M 7),Gf 49 42 true (M 1),Gf 50 42 true (.ia 1 none (.t 49) (I 0)),Pi 44 42 43,Gf 46 42 true (.ia 4 none (.t 44) (.t 45)),Gf 47 42 true (.fa 0 (.t 46)),Pi 48 42 47,Pi 51 42 50,Ko 52 42 48 51 42] (Ce 53 0)) (.seq (.block 1 (cC [Pa 56 2 6,Pa 58 2 2,Pm 60 7,Pl 57 56,H6 59 58 61 4 60,Pt 62 4 61,Em 63 68 4 62 68 4 32 57 2 6 1])) (cC [gR 54 7 1 7])))))) (aC [Pa 66 2 6,qX 68 1 1 0,qX 71 1 1 1,qX 74 1 1 2,nQ 67 66 70 69,nQ 73 72 76 75,Of 77 (.build (.agg [Z0,Z0,Z0,.bool false]) [(0,(1,(.t 70))),(1,(1,(.t 73))),(2,(1,(.t 76)))]),Em 78 68 4 77 68 4 32 67 2 6 1] (aC [Pa 81 2 6,Pa 83 2 2,Pa 85 2 6,nQ 82 81 84 83,Ia 86 85,Of 88 (.bin false .sub (.t 87) (I 1)),Of 89 (.J5 4 none (.t 84) (some (.t 88)) none none),Py 90 68 4 32 82 89,Oa 91 2 6,Ns 1 91 90] (aC [uF 92 5 6 5 4 5 0] .ret)))))))),[.cell 4 true 5,.tm 5]⟩
def L61:aZ :=⟨42,S [Pe 4] (aC [bL 8 0 1,Ok 10 88 [.t 8,.t 9],Om 5 10] (.seq (S [Om 11 5,Oc 12 .eql 11 (-1)] (Cd 12 (aC [kE 13 0 4] .ret) .skip)) (.seq (aC [gR 14 5 1 6] (.block 0 (.loop (.seq (aC [bL 16 6 0,lW 18 17 16] (Ce 19 0)) (.seq (.block 1 (aC [bL 22 0 6,Oi 24 7 22 23,Ot 25 7 24,O 7 (.alloc (.agg [Z0,Z0,Z0,Z0,Z0,Z0,Z0])),Ns 7 7 25] (aC [Om 26 1,AE 27 7 7 26,Oo 29 28] (Cd 29 (aC [bL 30 0 5,Ot 32 7 7,Oi 33 7 30 31,Ns 7 33 32] (cC [gR 34 5 1 5])) .skip)))) (cC [gR 20 6 1 6])))))) (aC [bL 36 0 5,O 38 (.J5 7 none (.t 36) (some (.t 37)) none none),N (.x (.clear 7 (.agg [Z0,Z0,Z0,Z0,Z0,Z0,Z0]) (.t 38)))] (aC [bL 39 0 5,O 41 (.J5 7 none (.t 39) none (some (.t 40)) none),Om 4 41] .ret))))),[.tm 4]⟩
theorem L61_ok:fV Tryz.prog 61=some L61:=by kernel_rfl
def L62:aZ :=⟨12,aC [tL 2 7 0] (aC [Pa 9 0 2,Pl 4 1,Pz 5 4,Pa 6 0 5,yR 7 1 6,Pl 10 9,Ok 11 63 [.t 8,.t 10],Om 3 11] .ret),[.tm 3]⟩
def L72:aZ :=⟨8,S [Pf 3] (S [Ol 4 1 1,Om 5 0,O 6 (.call (.t 4) [.t 5]),Oo 7 6,Om 3 7] .ret),[.tm 3]⟩
def L76:aZ :=⟨21,S [Ox 2 5 0,Pf 4] (.seq (S [OM 5 0] (.block 0 (.loop (.seq (aC [Om 6 5,aV 7 0 2 1,lW 9 8 6] (Ce 10 0)) (.seq (.block 1 (aC [aV 13 0 2 1,nB 15 5 7 14,aV 17 0 16 1,Om 19 1,Ob 20 .eql 18 19] (Cd 20 (S [O 4 (.dV Bt)] .ret) .skip))) (cC [gR 11 5 1 5])))))) (S [Pf 4] .ret)),[.tm 4]⟩
def L81:aZ :=⟨18,S [Pf 4] (.seq (S [OM 5 0] (.block 0 (.loop (.seq (aC [bL 6 5 0,lW 8 7 6] (Ce 9 0)) (.seq (.block 1 (aC [bL 12 0 5,wV 14 1 12 13 1,Om 16 1,Ob 17 .eql 15 16] (Cd 17 (S [O 4 (.dV Bt)] .ret) .skip))) (cC [gR 10 5 1 5])))))) (S [Pf 4] .ret)),[.tm 4]⟩
def L92:aZ :=⟨15,S [OM 4 0] (aC [oZ 5 0,oZ 7 1,Ob 9 .sub 6 8,bL 10 0 1,Ok 12 136 [.t 10,.t 11],O 13 (.aQ 3 1 [.t 9,.t 12]),Ok 14 135 [.t 13],Om 4 14] .ret),[.tm 4]⟩
def L96:aZ :=⟨9,S [Ox 1 4 0,O 2 (.alloc (.agg [Z0,E0]))] (aC [aV 3 1 1 1,ZAd 5 0 1 2 1 1 0 2 1 2 0 1 2 1 1 1 2 1 2 251 3 0 1 4 1 1,Ns 2 2 8] .ret),[.cell 2 true 2]⟩
def L97:aZ :=⟨126,aC [Ox 1 2 0,XT 2 0] (.seq (.block 0 (aC [aV 12 0 1 1,On 14 13,Oc 15 .gtr 14 8,Om 16 15,mM 17 16 1 1 16 1,Xc 19 16 18 16 24 16,Om 11 21] (Cd 11 (S [O 2 (.dV (.c .eU)),OM 3 3] .ret) (aC [aV 23 0 1 1,Ok 25 140 [.t 24,C 141],Oo 26 25,Om 27 26,mM 28 27 1 1 27 1,G 30 27 false (.load true 2 (.t 1)),G 31 27 false (.yC 143 [.t 30] []),G 32 27 false (.call (C 142) [.t 29,.t 31]),Q7 33 27 32 27,Om 22 34] (Cd 22 (aC [XT 2 1] .ret) .skip))))) (S [Ot 35 2 1,O 36 (.x .G0),O 37 (.build (.agg ([E0,E0,.cR,E0] ++ List.replicate 1000 (.bool false))) [(0,(2,(.t 35))),(2,(1,(.t 36)))]),Ox 38 1004 37,Om 4 38] (.seq (aC [aV 39 1 1 1,xQ 41 40 0] (.block 1 (.loop (S [Ob 43 .lss 42 41] (.seq (Ce 43 1) (.seq (.block 2 (aC [Oi 44 7 40 42,Ot 45 7 44,V6 6 7 45] (aC [yQ 47 4 2,Pa 51 0 6,nQ 50 49 52 51,Of 53 (.x (.look ⟨false,[.int .i64]⟩ (.agg [Z0,Z0,Z0,Z0,Z0,Z0,Z0]) true (.t 50) (.t 52))),mV 46 53 54 0 55 1,Of 7 (.alloc (.agg [Z0,Z0,Z0,Z0,Z0,Z0,Z0])),Ns 7 7 54,Om 8 55] (.seq (aC [Om 56 8,JH 57 56 7 7,ZzU 59 57 7 6 57 58 57] (Cd 61 (aC [XT 2 6] .ret) .skip)) (S [Om 62 8,Oo 63 62] (Cd 63 (aC [yQ 64 4 2,Pa 68 0 6,nQ 67 66 69 68,Pt 70 7 6,N (.x (.iN ⟨false,[.int .i64]⟩ (.t 67) (.t 69) (.t 70)))] (cC [Pm 71 4,yQ 72 4 3,Pa 76 0 6,nQ 75 74 77 76,Of 78 (.aQ 3 1 [.t 77]),Py 79 3 1 8 75 78,x6 80 71 3,Ns 1 81 79])) .skip)))))) (cC [pR 82 42 1 42]))))))) (aC [x5 83 4,aV 85 3 84 1,Ok 87 144 [.t 86]] (.seq (aC [x5 88 4,aV 90 3 89 1,xQ 92 91 0] (.block 3 (.loop (S [Ob 94 .lss 93 92] (.seq (Ce 94 3) (.seq (.block 4 (aC [Om 95 93,wV 96 1 91 93 1,bL 9 95 97] (aC [Pm 98 9,Of 99 (.bin false .gtr (.t 98) (I 0)),Pm 100 99,Kl 101 100 4 100 100 2,Gf 105 100 true (M 10),Kl 108 100 4 100 100 2,Kl 112 100 4 100 100 3,Gf 116 100 true (M 9),Gf 117 100 true (.bin false .sub (.t 116) (I 1)),Pi 104 100 103,Zz6 106 100 104 105 100 3 1,Pi 111 100 110,Pi 115 100 114,Gf 118 100 true (.ia 1 none (.t 115) (.t 117)),Pi 119 100 118,Zz6 120 100 111 119 100 3 1,Ko 122 100 107 121 100] (Cd 123 (aC [XT 2 6] .ret) .skip)))) (cC [pR 124 93 1 93]))))))) (aC [kE 125 4 2,OM 3 0] .ret)))))),[.tm 2,.tm 3]⟩
def L114:aZ :=⟨24,S [O 4 (.dV (.c (.str ⟨#[]⟩)))] (S [O 5 (.alloc (.agg [.int .u8 (0),.int .u8 (0),.int .u8 (0),.int .u8 (0),.int .u8 (0)]))] (.seq (S [Om 7 1,Oc 8 .sub 7 1,Om 6 8] (.block 0 (.loop (.seq (S [Om 9 6,Oc 10 .geq 9 0] (Ce 10 0)) (.seq (.block 1 (aC [bL 13 6 0,Oc 15 .rem 14 10,O 16 (.bin false .add (I 48) (.t 15)),O 17 (.conv .u8 (.t 16)),O 18 (.ia 1 (some 5) (.t 5) (.t 13)),Ns 1 18 17] (.region [Om 19 0,Oc 20 .quo 19 10,Om 0 20]))) (.region [Om 11 6,Oc 12 .sub 11 1,Om 6 12])))))) (S [Om 21 1,O 22 (.x (.EM 5 (.t 5) (.t 21))),O 23 (.x (.TW (.t 22))),Om 4 23] .ret))),[.tm 4]⟩
def L118:aZ :=⟨9,S [Om 4 0,Oo 5 4] (Cd 5 (.region [Om 6 1,O 7 (.build (.agg [Z0]) [(0,(1,(.t 6)))]),O 8 (.x (.sB 156 (.t 7))),N (.x (.B3 (.t 8)))]) .skip),[]⟩
theorem L118_ok:fV Tryz.prog 118=some L118:=by kernel_rfl
def L128:aZ :=⟨18,S [Ox 1 2 0,Pe 2] (S [Pe 3] (.seq (S [OM 4 1] (.block 0 (.loop (.seq (aC [Om 5 4,aV 6 1 1 1,On 8 7,Ob 9 .leq 5 8] (Ce 9 0)) (.seq (.block 1 (.region [Om 12 3,Ot 13 2 1,Om 14 4,Ok 15 171 [.t 13,.c E0,I 0,.t 14],Py 16 26 1 24 12 15,Om 3 16])) (cC [gR 10 4 1 4])))))) (aC [kE 17 3 2] .ret))),[.tm 2]⟩
def L130:aZ :=⟨25,S [Ox 3 2 0,OM 6 0] (S [OM 7 0] (.seq (S [OM 8 0] (.block 0 (.loop (.seq (aC [bL 9 8 2,Ob 11 .lss 9 10] (Ce 11 0)) (.seq (.block 1 (cC [Pm 14 7,Pm 16 1,Pm 17 8,Pa 18 1 3,Pt 15 2 3,Ia 19 18,Of 21 (.UD 4 1 1 (.bool false) (.t 20) (.t 20)),Ok 22 172 [.t 15,.t 16,.t 17,I 0,.t 21],EH 23 14 22 7])) (cC [gR 12 8 1 8])))))) (aC [kE 24 7 6] .ret))),[.tm 6]⟩
def L134:aZ :=⟨14,S [Ox 2 7 0,Pf 4] (aC [Om 5 1,aV 6 3 2 1,aV 8 3 2 1,aV 10 4 2 1,Ob 12 .add 9 11,Ok 13 145 [.t 5,.t 7,.t 12],Om 4 13] .ret),[.tm 4]⟩
def L138:aZ :=⟨79,S [Ox 1 2 0,OM 2 0] (.seq (.block 0 (aC [aV 8 1 1 1,On 10 9,Oc 11 .gtr 10 3,Om 7 11] (Cd 7 (S [OM 2 3] .ret) (aC [aV 13 0 1 1,TJ 15 177 14 1 30,Om 17 16,mM 18 17 1 1 17 1,G 20 17 false (.len none (.t 19)),G 21 17 false (.bin false .eql (.t 20) (I 0)),Pq 22 17 21,Om 23 22,mM 24 23 1 1 23 1,G 26 23 false (.call (C 178) [.t 25,C 179]),Q7 27 23 26 23,Om 12 28] (Cd 12 (S [OM 2 1] .ret) .skip))))) (S [OM 3 0] (aC [O 29 (.build (.agg [Z0,Z0,Z0]) [(0,(1,(I 0))),(1,(1,(I (-1)))),(2,(1,(I 0)))]),JI 4 3 29] (.seq (aC [aV 30 1 1 1,xQ 32 31 0] (.block 1 (.loop (S [Ob 34 .lss 33 32] (.seq (Ce 34 1) (.seq (.block 2 (aC [Oi 35 3 31 33,Ot 36 3 35,JI 6 3 36] (.seq (aC [aV 37 0 6 1,aV 39 0 1 1,Om 41 3,Ob 42 .sub 40 41,Ob 43 .gtr 38 42] (Cd 43 (S [OM 2 1] .ret) .skip)) (aC [Om 44 3,aV 45 0 6 1,EH 47 44 46 3] (.seq (aC [aV 48 1 6 1,aV 50 1 4 1,Ob 52 .lss 49 51,Om 53 52,mM 54 53 2 6 53 1,mM 56 53 2 4 53 1,G 58 53 false (.bin false .lss (.t 55) (.t 57)),Pq 59 53 58,Om 60 59,mM 61 60 2 6 60 1,mM 63 60 1 6 60 1,G 65 60 false (.bin false .add (.t 64) (I 1)),G 66 60 false (M 3),G 67 60 false (.bin false .add (.t 66) (I 1)),G 68 60 false (.call (C 177) [.t 62,.t 65,.t 67]),Q7 69 60 68 60] (Cd 70 (S [OM 2 1] .ret) .skip)) (.region [Ot 71 3 6,Ns 3 4 71])))))) (cC [pR 72 33 1 33]))))))) (.seq (aC [aV 73 2 4 1,aV 75 1 4 1,Oc 77 .add 76 1,Ob 78 .neq 74 77] (Cd 78 (S [OM 2 1] .ret) .skip)) (S [OM 2 0] .ret)))))),[.tm 2]⟩
def L149:aZ :=⟨8,S [Ox 2 2 0,Pf 3] (aC [Ol 4 1 1,AE 5 2 2 4,Oo 7 6,Om 3 7] .ret),[.tm 3]⟩
def L151:aZ :=⟨15,S [Pf 6] (aC [bL 7 1 0,Ob 9 .leq 7 8,SD 10 9 0 2 6] .ret),[.tm 6]⟩
def L162:aZ :=⟨43,aC [bL 6 0 1,V5 8 1 7 0 1,Ok 10 22 [.t 6,.t 9],Ok 11 118 [.t 10,I 7]] (aC [yQ 13 0 0,Pa 16 1 15,qX 18 1 1 0,nQ 17 16 20 19,Ok 21 206 [.t 17,.t 20],mV 12 21 22 0 23 1,bL 4 22 23] (S [Om 24 5,Oo 25 24,Ok 26 118 [.t 25,I 6]] (.iZ (.op (Pm 27 0) (.op (Pm 28 0) (.op (Pz 29 28) (.op (Pa 30 0 29) (.op (Pa 31 1 30) (.op (Pm 34 4) (.op (Pm 35 1) (.op (Pj 36 1 35 0) (.op (Pl 32 31) (.op (Pl 37 36) (.seq (.alt (Of 33 (.call (C 40) [.t 32])) (.alt (Of 38 (.aQ 3 1 [.t 37])) .done .no) (.alt (Of 38 (.aQ 3 1 [.t 37])) (.alt (Of 33 (.call (C 40) [.t 32])) .done .no) .no)) (.alt (Ok 39 207 [.t 33,.t 34,.t 38]) (.op (Oz 40 27) (.op (Oa 41 0 40) (.op (Oa 42 1 41) (.alt (Ns 1 42 39) .done .no)))) .no))))))))))))))),[]⟩
def L175:aZ :=⟨45,S [Pf 2] (.seq (aC [x5 7 0,aV 9 0 8 1,Oz 11 10,aV 12 3 11 1,xQ 14 13 0] (.block 0 (.loop (S [Ob 16 .lss 15 14] (.seq (Ce 16 0) (.seq (.block 1 (aC [wV 17 1 13 15 1,Om 4 18] (aC [x5 19 0,aV 21 0 20 1,Oz 23 22,aV 24 2 23 1,Xb 26 4 25,V6 5 7 27] (aC [Om 28 0,aV 29 1 5 1,aV 31 3 5 1,Ok 33 176 [.t 28,.t 30,.t 32,I 1000],SG 6 2 33] (aC [Om 34 0,OJ 35 7 5 220 34,F1 37 36 0 6,F2 40 37 1 6 37,G 42 37 true (.bin false .gtr (.t 39) (.t 41)),Pp 43 37 42] (Cd 43 (S [O 2 (.dV Bt)] .ret) .skip)))))) (cC [pR 44 15 1 15]))))))) (S [Pf 2] .ret)),[.tm 2]⟩
def Y176_0a:bJ :=(cC [V6 11 7 47])
def Y176_0b:bJ :=(.block 1 (aC [Ol 48 1 9,AE 49 7 11 48] (Cd 50 (cC [Of 56 (.fa 0 (.t 11)),Of 72 (.fa 3 (.t 11)),Of 51 (.load true 2 (.t 10)),Kk 52 1 4 2,Km 55 1 54 57 1 56,Of 58 (.x (.look ⟨false,[.int .i64]⟩ (.agg [Z0,Z0]) false (.t 55) (.t 57))),Kk 59 1 4 0,Kk 62 1 61 0,Of 65 (.fa 0 (.t 64)),Of 66 (.load false 1 (.t 65)),Of 67 (.load false 1 (.t 5)),Of 68 (.ia 4 none (.t 66) (.t 67)),Of 69 (.fa 0 (.t 68)),Of 70 (.load false 1 (.t 69)),Km 71 1 6 73 1 72,Of 74 (.bin false .sub (.t 71) (.t 73)),Of 75 (.bin false .mul (.t 70) (.t 74)),Of 76 (.call (C 224) [.t 58,.t 75]),Ok 77 223 [.t 51,.t 76],Ns 2 10 77]) .skip)))
noncomputable def L176:aZ :=⟨79,S [Ox 4 1 0,Ox 5 1 1,Ox 6 1 2,O 8 (.alloc (.agg [Z0,Z0]))] (.seq (aC [Pl 12 4,Pz 13 12,yR 14 0 13,Pz 16 15,Pa 17 0 16,yR 18 0 17,VT 20 5 4 19,yR 22 1 21] (Cd 23 (aC [Pl 24 4,Pz 25 24,yR 26 0 25,Pz 28 27,Pa 29 0 28,yR 30 0 29,VT 32 5 4 31,Pa 34 2 33,Pt 35 2 34,Ns 2 8 35] .ret) .skip)) (S [Ol 36 1 4,O 37 (.yC 220 [.t 36] []),O 9 (.alloc .dP),Ns 1 9 37] (aC [Ok 38 222 [],SG 10 2 38] (.seq (aC [Pm 45 3,Pl 39 4,Pz 40 39,yR 41 0 40,Pl 43 5,Pl 44 6,Ok 46 91 [.t 42,.t 43,.t 44,.t 45]] (.block 0 (.vF 79 (.t 46) (fX Tryz.prog 176 0) Y176_0a Y176_0b [47]))) (S [Ot 78 2 10,Ns 2 8 78] .ret))))),[.cell 8 true 2]⟩
theorem L176_ok:fV Tryz.prog 176=some L176:=by kernel_rfl
def L182:aZ :=⟨18,aC [tL 1 2 0] (aC [aV 3 0 1 1,Ok 5 228 [.t 4],F1 6 5 1 1,SE 9 6 228 8 6,F1 11 10 0 1,F2 14 11 1 1 11,Kn 16 11 13 15 11,Om 2 17] .ret),[.tm 2]⟩
def L184:aZ :=⟨134,S [O 8 (.dV Bt)] (S [O 9 (.dV Bt)] (.block 0 (.loop (.block 1 (aC [bL 19 2 1,Ob 21 .sub 19 20,Om 10 21] (.seq (S [Om 22 10,Oc 23 .leq 22 12] (Cd 23 (aC [bL 24 0 1,NL 26 2 229 24 25] .ret) .skip)) (.seq (aC [OI 28 3 0] (Cd 29 (aC [bL 30 0 1,NL 32 2 230 30 31] .ret) .skip)) (.seq (S [Om 34 8,Oo 35 34] (Cd 35 (aC [bL 36 0 1,NL 38 2 231 36 37] (.region [Om 40 3,Oc 41 .sub 40 1,Om 3 41])) .skip)) (aC [bL 43 0 1,NL 45 2 232 43 44,mV 42 46 47 0 48 1,bL 11 47 48] (.seq (aC [OI 49 12 2] (Cd 50 (aC [bL 51 0 1,NL 53 2 233 51 52] (aC [Om 55 2,Oc 56 .sub 55 1,bL 57 11 1,Ob 59 .sub 57 58,Ob 60 .sub 56 59,Om 11 60] (.region [OM 12 1]))) .skip)) (.seq (aC [Om 61 8,qY 62 61 9,Pp 64 62 63,qY 65 64 12,SC 67 65 66 1 65] (Cd 68 (aC [bL 69 0 1,NL 71 2 234 69 70] (Cd 72 .ret .skip)) .skip)) (.seq (aC [Pm 73 1,Of 74 (.bin false .gtr (.t 73) (I 0)),Pm 75 74,XU 76 75 0 75 1,Gf 78 75 true (.bin false .sub (.t 77) (I 1)),Gf 79 75 true (.ia 1 none (.t 76) (.t 78)),XU 81 75 0 75 11,Gf 83 75 true (.ia 1 none (.t 81) (.t 82)),Pi 80 75 79,Pi 84 75 83,G 85 75 true (.call (C 235) [.t 80,.t 84]),JK 86 75 85 75] (Cd 87 (aC [bL 88 0 1,bL 90 2 11,Ok 92 236 [.t 88,.t 89,.t 90,.t 91],Om 13 92] (aC [kE 93 13 1] (.exit 1))) .skip)) (aC [bL 95 0 1,bL 97 2 11,Ok 99 237 [.t 95,.t 96,.t 97,.t 98],mV 94 99 100 0 101 1,bL 14 100 101] (aC [kE 102 15 9] (aC [bL 103 14 1,Ob 105 .sub 103 104,bL 106 2 14,Ob 108 .sub 106 107,bL 16 105 108] (S [Om 109 10,Oc 110 .quo 109 8,Om 18 110] (aC [bL 111 16 17,Ob 113 .lss 111 112] (Cd 113 (aC [bL 114 16 18,Ob 116 .geq 114 115,Om 8 116] (aC [bL 117 0 1,bL 119 14 3,Ok 121 184 [.t 117,.t 118,.t 119,.t 120]] (cC [gR 122 14 1 1]))) (aC [bL 124 17 18,Ob 126 .geq 124 125,Om 8 126] (aC [bL 127 0 14,Oc 129 .add 128 1,bL 130 2 3,Ok 132 184 [.t 127,.t 129,.t 130,.t 131]] (cC [kE 133 14 2]))))))))))))))))))))),[]⟩
def L204:aZ :=⟨10,S [O 2 (.alloc (.agg [E0,E0]))] (aC [yQ 4 0 0,yR 7 0 6,Of 3 (.call (C 64) []),Kp 9 0 1 3 1 1 8 2 2] .ret),[.cell 2 true 2]⟩
def L205:aZ :=⟨57,S [Ox 1 2 0,Pe 2,OM 3 0] (aC [Q8 13 2 1 97,mV 12 14 15 0 16 1,bL 4 15 16] (.seq (.block 0 (aC [O5 18 5 0,Om 17 19] (Cd 17 (S [Om 20 5,Pe 2,Om 3 20] .ret) (aC [qC 22 4 174,Ok 24 175 [.t 23],Oo 25 24,Om 21 25] (Cd 21 (S [Pe 2,OM 3 7] .ret) .skip))))) (S [Pe 6] (.seq (aC [x5 26 4,aV 28 3 27 1,xQ 30 29 0] (.block 1 (.loop (S [Ob 32 .lss 31 30] (.seq (Ce 32 1) (.seq (.block 2 (aC [wV 33 1 29 31 1,O 8 (.alloc Z0),Ns 1 8 34] (S [Ot 35 2 1,O 9 (.alloc (.agg [E0,E0])),Ns 2 9 35] (aC [aV 36 1 1 1,Ok 38 39 [.t 37],VS 39 250 8 61 38,Oa 41 1 9,Ns 1 41 40] (aC [Q8 43 2 9 97,mV 42 44 45 0 46 1,bL 10 45 46] (aC [qC 47 10 174,Ok 49 175 [.t 48],Oo 50 49] (Cd 50 (cC [Om 51 6,Ol 52 1 8,Q9 53 3 1 52 3 1 8 51 6]) .skip))))))) (cC [pR 55 31 1 31]))))))) (aC [kE 56 6 2,OM 3 0] .ret))))),[.tm 2,.tm 3]⟩
def L206:aZ :=⟨54,S [OM 4 0,Pf 5] (aC [oZ 10 0,Om 6 11] (S [Om 12 6,OM 7 0,Om 8 12] (.seq (.block 0 (.loop (.seq (aC [bL 13 7 8,Ob 15 .lss 13 14] (Ce 15 0)) (.block 1 (aC [bL 16 7 8,ZAg 18 16 17 1 9] (aC [bL 22 0 9,wV 24 1 22 23 1,zW 26 1 235 25] (Cd 27 (cC [gR 28 9 1 7]) (cC [kE 30 9 8])))))))) (aC [bL 31 7 7,Om 33 6,Ob 34 .lss 32 33,qY 35 34 0,Ov 37 35 7 35 1 36,Pg 39 35 38,Pn 40 35 1,G 41 35 true (.bin false .eql (.t 39) (.t 40)),Pn 42 35 41,G 43 42 false (M 0),G 44 42 false (M 7),G 45 42 false (.ia 1 none (.t 43) (.t 44)),G 46 42 false (.load false 1 (.t 45)),G 47 42 false (.call (C 251) [.t 46]),G 48 42 false (M 47),Pn 49 48 1,G 50 48 true (.call (C 251) [.t 49]),G 51 42 false (.pick (.t 48) (.t 50) Bf),G 52 35 true (.pick (.t 42) Bt (.t 51)),Pp 53 35 52,bL 4 31 53] .ret)))),[.tm 4,.tm 5]⟩
def L209:aZ :=⟨15,S [OM 4 0,Pf 5] (aC [Q6 6 0 0,aV 9 2 8 1,Om 11 1,Ok 12 254 [.t 10,.t 11,C 255],Oe 13 12 0,Oe 14 12 1,bL 4 13 14] .ret),[.tm 4,.tm 5]⟩
def L217:aZ :=⟨58,S [Ox 4 2 0,Pf 8] (aC [aV 13 1 4 1,nB 15 1 3 14,Eo 17 3 16 9,Ns 3 9 17] (aC [aV 18 2 9 1,nB 20 2 1 19,Ol 22 1 21,F1 23 22 1 9,Pn 26 23 3,Kn 27 23 25 26 23,Om 10 28] (.seq (S [OM 11 0] (.block 0 (.loop (.seq (aC [Om 29 11,aV 30 0 4 1,nB 32 2 1 31,Ol 34 1 33,lW 35 34 29] (Ce 36 0)) (.seq (.block 1 (aC [aV 39 0 4 1,nB 41 2 1 40,Ol 43 1 42,nB 44 11 2 43,Ot 46 2 45,SG 12 2 46] (cC [Om 47 10,qY 48 47 3,F2 50 48 0 12 48,F2 52 48 1 12 48,G 54 48 true (.call (C 266) [.t 49,.t 51,.t 53]),JK 55 48 54 48,Om 10 56]))) (cC [gR 37 11 1 11])))))) (aC [kE 57 10 8] .ret)))),[.tm 8]⟩
def L218:aZ :=⟨6,S [Pf 2] (aC [bL 3 0 0,Ob 5 .neq 3 4,Om 2 5] .ret),[.tm 2]⟩
def L220:aZ :=⟨12,aC [tL 3 7 1] (aC [yQ 5 0 1,Pa 9 0 3,nQ 8 7 10 9,Of 11 (.x (.look ⟨false,[.int .i64]⟩ (.bool false) false (.t 8) (.t 10))),Om 4 11] .ret),[.tm 4]⟩
def L226:aZ :=⟨8,aC [tL 2 3 0] (aC [Ol 4 1 1,AE 5 3 2 4,Oo 7 6,Om 3 7] .ret),[.tm 3]⟩
def L244:aZ :=⟨16,S [OM 6 0] (aC [x5 7 0,aV 9 2 8 1,nB 11 2 4 10,O 13 (.x (.EM 4 (.t 12) (I 4))),zW 14 1 100 13,Om 6 15] .ret),[.tm 6]⟩
def L269:aZ :=⟨5,S [OM 2 0] (aC [qC 3 0 291,Om 2 4] .ret),[.tm 2]⟩
def L291:aZ :=⟨25,S [OM 2 0] (.seq (aC [oZ 5 0,Oc 7 .lss 6 1] (Cd 7 (.region [O 8 (.x (.sB 9 (.c (.str ⟨#[115,108,105,99,101,115,46,77,97,120,58,32,101,109,112,116,121,32,108,105,115,116]⟩)))),N (.x (.B3 (.t 8)))]) .skip)) (aC [Om 9 0,V5 10 1 9 0 1,Om 3 11] (.seq (S [OM 4 1] (.block 0 (.loop (.seq (aC [bL 12 4 0,lW 14 13 12] (Ce 15 0)) (.seq (.block 1 (cC [bL 18 3 0,nB 20 4 1 19,Ol 22 1 21,O 23 (.jB true (.t 18) (.t 22)),Om 3 23])) (cC [gR 16 4 1 4])))))) (aC [kE 24 3 2] .ret)))),[.tm 2]⟩
def L294:aZ :=⟨10,S [Ox 2 2 0,Pf 3] (aC [Ol 4 1 1,aV 5 0 2 1,aV 7 1 2 1,Ok 9 151 [.t 4,.t 6,.t 8],Om 3 9] .ret),[.tm 3]⟩
end
end Go.Proofs.YthmbecacehfgfaaGreatDoor
