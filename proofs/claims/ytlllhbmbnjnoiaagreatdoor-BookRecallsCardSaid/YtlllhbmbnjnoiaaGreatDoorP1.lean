import Derived.Test.YtlllhbmbnjnoiaaGreatDoorP0
import Derived.OrdersHeld
import Derived.OrdersIn
import Derived.TacticsIn
import Derived.RangeFuncLeaves
import Derived.RangeFuncRecord
import Derived.Scope
import Derived.RangeFuncNested
import Derived.Sort.LoopGhostIn
import Derived.ChangeSame
import Derived.ProofKit
import Derived.Deep.Slices
import Derived.ReadAgain
import Derived.OpenShut
import Derived.Eval
import Derived.Test.YtlllhbmbnjnoiaaGreatDoorProg
set_option linter.unusedSimpArgs false
set_option linter.unusedVariables false
set_option maxHeartbeats 32000000
set_option maxRecDepth 100000
namespace Go.Proofs.YtlllhbmbnjnoiaaGreatDoor
open Go.RowKit
mutual
def AV.map (g:Site->Site):AV->AV
 |.any=>.any
 |.pv x=>.pv x
 |.ptr s off=>.ptr (g s) off
 |.lB s n i off=>.lB (g s) n i off
 |.vec s n lo len=>.vec (g s) n lo len
 |.mp s=>.mp (g s)
 |.nJ s=>.nJ (g s)
 |.fn f fs cs=>.fn f (AV.iM g fs) (AV.iM g cs)
 |.agg cs=>.agg (AV.iM g cs)
 |.bL vs=>.bL (AV.iM g vs)
def AV.iM (g:Site->Site):List AV->List AV
 |[]=>[]
 |a::r=>AV.map g a::AV.iM g r
end
theorem JY {g:Site->Site}:∀{l:List AV} {i:Nat},(AV.iM g l)[i]?=(l[i]?).map (AV.map g)
 |[],i=>by simp[AV.iM]
 |a::r,0=>by simp[AV.iM]
 |a::r,i+1=>by
  simp only[AV.iM,List.getElem?_cons_succ];exact JY
theorem JZ {g:Site->Site}:∀{l:List AV},(AV.iM g l).length=l.length
 |[]=>rfl
 |a::r=>by simp only[AV.iM,pB,JZ]
theorem V3 {q:Site->Bool}:∀{l:List AV} {i:Nat} {a:AV},AV.gW q l=true->l[i]?=some a->a.dC q=true
 |[],i,a,_,h=>by simp at h
 |b::r,0,a,hl,h=>by
  simp[AV.gW]at hl h;subst h;exact hl.1
 |b::r,i+1,a,hl,h=>by
  simp only[AV.gW,dJ]at hl;exact V3 hl.2 (by simpa using h)
theorem bO.map {ρ bV:Site->Loc}{m:Mem}{q:Site->Bool}{g:Site->Site}(hg:∀s,q s=true->bV (g s)=ρ s){v:Value}{a:AV}(h:bO ρ m v a)(ha:a.dC q=true):bO bV m v (a.map g):=by
 induction h with
 |any v=>exact .any v
 |pv v x h=>exact .pv v x h
 |ptr s off=>rw[AV.dC]at ha;rw[<-hg s ha];exact .ptr _ off
 |lB s n i off=>rw[AV.dC]at ha;rw[<-hg s ha];exact .lB _ n i off
 |vec s n lo len cap h0 h1 h2=>rw[AV.dC]at ha;rw[<-hg s ha]at h1 h2 ⊢;exact .vec _ n lo len cap h0 h1 h2
 |mZ s n lo a h=>exact .mZ _ n lo a h
 |mp s=>rw[AV.dC]at ha;rw[<-hg s ha];exact .mp _
 |nJ s=>rw[AV.dC]at ha;rw[<-hg s ha];exact .nJ _
 |fn f vf vc fs cs h0 h1 h2 h3 BI OV=>
  simp only[AV.dC,dJ]at ha;refine .fn f vf vc _ _ (by rw[JZ];exact h0) (by rw[JZ];exact h1) (fun j d c k1 k2=>?_) (fun j d c k1 k2=>?_)
  .rw[JY]at k2;obtain⟨a,k3,rfl⟩:=dZ.1 k2;exact BI j d a k1 k3 (V3 ha.1 k3)
  .rw[JY]at k2;obtain⟨a,k3,rfl⟩:=dZ.1 k2;exact OV j d a k1 k3 (V3 ha.2 k3)
 |agg vs cs h0 h1 h2 ih=>
  rw[AV.dC]at ha;refine .agg vs _ (by rw[JZ];exact h0) h1 (fun j d c k1 k2=>?_);rw[JY]at k2;obtain⟨a,k3,rfl⟩:=dZ.1 k2;exact ih j d a k1 k3 (V3 ha k3)
 |bL vs cs h0 h2 ih=>
  rw[AV.dC]at ha;refine .bL vs _ (by rw[JZ];exact h0) (fun j d c k1 k2=>?_);rw[JY]at k2;obtain⟨a,k3,rfl⟩:=dZ.1 k2;exact ih j d a k1 k3 (V3 ha k3)
def aJ.iR (g:Site->Site):aJ->aJ
 |.cells bS=>.cells (AV.iM g bS)
 |.loop C ps nt tm st=>.loop C ps nt (tm.map fun p=>(p.1,p.2.map g)) st
 |b=>b
def aJ.dC (q:Site->Bool):aJ->Bool
 |.cells bS=>AV.gW q bS
 |.loop _ _ _ tm _=>AV.gW q (tm.map (·.2))
 |_=>true
theorem ZkV {g:Site->Site}:∀l:List AV,AV.iM g l=l.map (AV.map g)
 |[]=>rfl
 |a::r=>by simp only[AV.iM,iL,ZkV r]
theorem aJ.Zxv {q:Site->Bool}{b:aJ}(hd:b.dC q=true){a:AV}(h:(∃bS,b=.cells bS/\a∈bS)\/(∃C ps nt tm st t,b=.loop C ps nt tm st/\(t,a)∈tm)):a.dC q=true:=by
 rcases h with⟨bS,rfl,h⟩|⟨C,ps,nt,tm,st,t,rfl,h⟩
 .obtain⟨i,hi⟩:=iJ.1 h;exact V3 hd hi
 .obtain⟨i,hi⟩:=iJ.1 h;have HY:AV.gW q (tm.map (·.2))=true:=hd;exact V3 (i:=i) HY (by rw[bW,hi];rfl)
theorem kO.iR {ρ bV:Site->Loc}{m:Mem}{w:World}{q:Site->Bool}{g:Site->Site}(hg:∀s,q s=true->bV (g s)=ρ s){s:Site}{b:aJ}(h:kO ρ m w s b)(hs:q s=true)(hb:b.dC q=true):kO bV m w (g s) (b.iR g):=by
 exact h.gen (AV.map g) (by cases b<;>first|rfl|(show aJ.cells _=_;rw[ZkV])) (Le.refl m) (hg s hs) (fun v a hv hw=>hv.map hg (aJ.Zxv hb hw)) (fun _ _=>rfl)
theorem Ztv {w:World}{l:Loc}{b:aJ}{g:Site->Site}:ins w l (b.iR g)=ins w l b:=by
 cases b with
 |_=>rfl
theorem uM {ρ bV:Site->Loc}{w:World}{s s':Site}{b:aJ}{g:Site->Site}{k:Nat}(h:bV s'=ρ s):fK bV w s' (b.iR g) k↔fK ρ w s b k:=by unfold fK;rw[Ztv,h]
mutual
def PV.flat:PV->Bool
 |.int _ _=>true
 |.bool _=>true
 |.str _=>true
 |.eU=>true
 |.dP=>true
 |.cT=>true
 |.eV=>true
 |.P3=>true
 |.iface _ x=>PV.flat x
 |.emp _=>true
 |.agg cs=>PV.VY cs
 |.bL vs=>PV.VY vs
 |_=>false
def PV.VY:List PV->Bool
 |[]=>true
 |x::r=>PV.flat x&&PV.VY r
end
theorem Zf0:∀{l:List PV} {i:Nat} {x:PV},PV.VY l=true->l[i]?=some x->x.flat=true
 |[],i,x,_,h=>by simp at h
 |b::r,0,x,hl,h=>by
  simp[PV.VY]at hl h;subst h;exact hl.1
 |b::r,i+1,x,hl,h=>by
  simp only[PV.VY,dJ]at hl;exact Zf0 hl.2 (by simpa using h)
theorem dG.flat {m m':Mem}{v:Value}{x:PV}(h:dG m v x)(hx:x.flat=true):dG m' v x:=by
 induction h with
 |int k n=>exact .int k n
 |bool b=>exact .bool b
 |str s=>exact .str s
 |eU=>exact .eU
 |dP=>exact .dP
 |cT=>exact .cT
 |eV=>exact .eV
 |P3 v h=>exact .P3 v h
 |emp a nl h0 h1 h2=>exact .emp a nl h0 h1 h2
 |agg vs cs h0 h1 h2 ih=>exact .agg vs cs h0 h1 (fun j d c k1 k2=>ih j d c k1 k2 (Zf0 (by rw[PV.flat]at hx;exact hx) k2))
 |bL vs cs h0 h2 ih=>exact .bL vs cs h0 (fun j d c k1 k2=>ih j d c k1 k2 (Zf0 (by rw[PV.flat]at hx;exact hx) k2))
 |aF=>simp[PV.flat]at hx
 |ref=>simp[PV.flat]at hx
 |fn=>simp[PV.flat]at hx
 |iface t v x h ih=>exact .iface t v x (ih (by rw[PV.flat]at hx;exact hx))
def jE (f:AV->Option PV):List AV->Option (List PV)
 |[]=>some []
 |a::r=>match f a,jE f r with
  |some x,some l=>some (x::l)
  |_,_=>none
def AV.FB (σ:AS):AV->Option PV
 |.pv x=>some x
 |.vec s n lo len=>match σ.b s with
  |some (.arr _ n' xs)=>if n'=n/\lo+len<=xs.length then some (.aF false n ((xs.drop lo).take len))else none
  |_=>none
 |_=>none
def AV.snap (σ:AS):Nat->AV->Option PV
 |0,a=>a.FB σ
 |k+1,a=>match a with
  |.ptr s off=>match σ.b s with
   |some (.cells bS)=>(jE (AV.snap σ k) (bS.drop off)).map .ref
   |_=>none
  |.fn f fs cs=>match jE (AV.snap σ k) fs,jE (AV.snap σ k) cs with
   |some a,some b=>some (.fn f a b)
   |_,_=>none
  |.agg cs=>(jE (AV.snap σ k) cs).map .agg
  |a=>a.FB σ
section
variable {N:Nat}{w0:World}{m0:Env w0}{pl:List Nat}{σ:AS}{ρ:Site->Loc}{m:Mem}{act:Act}{w:World}
theorem XI {f:AV->Option PV}:∀{l:List AV} {xs:List PV},jE f l=some xs->l.length=xs.length/\∀(j:Nat) (a:AV),l[j]?=some a->∃x,xs[j]?=some x/\f a=some x
 |[],xs,h=>by rw[jE]at h;cases h;exact⟨rfl,fun j a e=>by simp at e⟩
 |a::r,xs,h=>by
  rw[jE]at h;split at h
  .rename_i x l h1 h2;cases h;obtain⟨k1,k2⟩:=XI h2;refine⟨by simp[k1],fun j b e=>?_⟩;cases j with
   |zero=>simp at e;subst e;exact⟨x,rfl,h1⟩
   |succ j=>simpa using k2 j b (by simpa using e)
  .cases h
theorem Zkq (hS:Sat N w0 m0 pl σ ρ m act w){v:Value}{a:AV}{x:PV}(h:a.FB σ=some x)(hv:bO ρ m v a):dG w.mem v x:=by
 cases a with
 |pv y=>rw[AV.FB]at h;cases h;exact hv.nG.mono hS.mem
 |vec s n lo len=>
  rw[AV.FB]at h;split at h
  .rename_i e n' xs hb;split at h
   .rename_i hc;obtain⟨rfl,hl⟩:=hc;cases h;exact Zo0 (hS.bx s _ hb) hS.mem (fun _ o v hv=>hv) hl hv
   .cases h
  .cases h
 |_=>simp[AV.FB]at h
theorem ZmW (hS:Sat N w0 m0 pl σ ρ m act w):∀{k:Nat} {v:Value} {a:AV} {x:PV},a.snap σ k=some x->bO ρ m v a->dG w.mem v x:=by
 intro k;induction k with
 |zero=>intro v a x h hv;exact Zkq hS h hv
 |succ k ih=>
  intro v a x h hv;cases a with
  |ptr s off=>
   rw[AV.snap]at h;split at h
   .rename_i bS hb;obtain⟨xs,k1,rfl⟩:=dZ.1 h;obtain⟨k2,k3⟩:=XI k1;rw[hv.DP];have hlen:off<=bS.length\/bS.drop off=[]:=by
     rcases Nat.le_total off bS.length with h|h
     .exact .inl h
     .exact .inr (List.drop_of_length_le h)
    rcases hlen with hlen|hlen
    .obtain⟨ds,q1,q2,q3,q4⟩:=Hi (hS.bx s _ hb) (off:=off) (n:=bS.length-off) (by omega);refine .ref _ _ xs ds q2 (by rw[<-k2,uH];exact q1) q3 (fun j u c e1 e2=>?_);have hj:j<(bS.drop off).length:=by rw[k2];exact(bZ.1 e2).1
     obtain⟨x,k4,k5⟩:=k3 j _ (bB hj);rw[e2]at k4;cases k4;refine ih k5 (q4 j u _ e1 ?_);rw[mG,if_pos (by rw[uH]at hj;exact hj)];exact bB hj
    .rw[hlen]at k2
     have:xs=[]:=List.eq_nil_of_length_eq_zero k2.symm
     subst this;exact .ref _ _ [] [] trivial rfl (fun d hd=>by cases hd) (fun j d c e=>by simp at e)
   .cases h
  |fn f fs cs=>
   rw[AV.snap]at h;split at h
   .rename_i a b e1 e2;cases h;obtain⟨a1,a2⟩:=XI e1;obtain⟨b1,b2⟩:=XI e2;cases hv with
    |fn _ vf vc _ _ h0 h1 h2 h3=>
     refine .fn f vf vc a b (by omega) (by omega) (fun j d c q1 q2=>?_) (fun j d c q1 q2=>?_)
     .have hj:j<fs.length:=by rw[a1];exact(bZ.1 q2).1
      obtain⟨x,k4,k5⟩:=a2 j _ (bB hj);rw[q2]at k4;cases k4;exact ih k5 (h2 j d _ q1 (bB hj))
     .have hj:j<cs.length:=by rw[b1];exact(bZ.1 q2).1
      obtain⟨x,k4,k5⟩:=b2 j _ (bB hj);rw[q2]at k4;cases k4;exact ih k5 (h3 j d _ q1 (bB hj))
   .cases h
  |agg cs=>
   rw[AV.snap]at h;obtain⟨xs,k1,rfl⟩:=dZ.1 h;obtain⟨b1,b2⟩:=XI k1;cases hv with
   |agg vs _ h0 h1 h2=>
    refine .agg vs xs (by omega) h1 (fun j d c q1 q2=>?_);have hj:j<cs.length:=by rw[b1];exact(bZ.1 q2).1
    obtain⟨x,k4,k5⟩:=b2 j _ (bB hj);rw[q2]at k4;cases k4;exact ih k5 (h2 j d _ q1 (bB hj))
  |_=>exact Zkq hS (by simpa only[AV.snap]using h) hv
end
structure vA (ρ:Site->Loc)(m:Mem)(w:World)(B:List (Site×aJ)):Prop where
 bx:∀s b,B.lookup s=some b->kO ρ m w s b
 dY:∀s s' b b' k,B.lookup s=some b->B.lookup s'=some b'->fK ρ w s b k->fK ρ w s' b' k->s=s'
 eL:∀s b k,B.lookup s=some b->fK ρ w s b k->∀o,m k o=none
theorem vA.nil (ρ:Site->Loc)(m:Mem)(w:World):vA ρ m w []:=⟨fun s b h=>by simp[List.lookup]at h,fun s s' b b' k h=>by simp[List.lookup]at h,fun s b k h=>by simp[List.lookup]at h⟩
theorem vA.inj {ρ:Site->Loc}{m:Mem}{w:World}{B:List (Site×aJ)}(h:vA ρ m w B)(s s':Site)(b b':aJ)(k:B.lookup s=some b)(k':B.lookup s'=some b')(r:(ρ s).real=true)(r':(ρ s').real=true)(e:(ρ s).b=(ρ s').b):s=s':=
 h.dY s s' b b' _ k k' (xN r) (by rw[e];exact xN r')
theorem vA.off {ρ:Site->Loc}{m:Mem}{w:World}{B:List (Site×aJ)}(h:vA ρ m w B)(s:Site)(b:aJ)(k:B.lookup s=some b)(r:(ρ s).real=true):∀o,m (ρ s).b o=none:=h.eL s b _ k (xN r)
def cJ (ρ:Site->Loc)(w:World)(B:List (Site×aJ)):List Nat:=B.flatMap fun p=>(if(ρ p.1).real=true then[(ρ p.1).b]else[])++ins w (ρ p.1) p.2
theorem SV {ρ:Site->Loc}{w:World}{B:List (Site×aJ)}{k:Nat}:k∈cJ ρ w B↔∃p∈B,fK ρ w p.1 p.2 k:=by
 unfold cJ;rw[List.mem_flatMap];constructor
 .rintro⟨p,hp,h⟩;refine⟨p,hp,?_⟩;rcases sI.1 h with h|h
  .split at h
   .rename_i hr;exact .inl ⟨hr,(rY.1 h).symm⟩
   .cases h
  .exact .inr h
 .rintro⟨p,hp,h⟩;refine⟨p,hp,sI.2 ?_⟩;rcases h with⟨h,rfl⟩|h
  .exact .inl (by rw[if_pos h];simp)
  .exact .inr h
def jM (P : Program) (f : FuncId) : Prop := ∃ fn c, P.funcs[f]? = some fn /\ (fn.name == "runtime.NumGoroutine") = false /\ fn.body = some c
def lE (w:World)(m:Mem)(ρ:Site->Loc)(B:List (Site×aJ))(nX:AV->List (Site×aJ)->Prop)(e:Ending)(w':World):Prop:=
 ∃v r B' bV m',e=.returned v/\nX r B'/\vA bV m' w' B'/\Le m m'/\Le m' w'.mem/\(∀i,bV (.par i)=ρ (.par i))/\
   (∀s b k,B'.lookup s=some b->fK bV w' s b k->w.heap.size<=k\/k∈cJ ρ w B)/\(∀b o v,m' b o=some v->m b o=some v\/w.heap.size<=b\/b∈cJ ρ w B)/\bO bV m' v r/\cW (cJ ρ w B) w w'
theorem Zk0 {l:List (Site×aJ)}(hn:(l.map (·.1)).Nodup){p:Site×aJ}(h:p∈l):l.lookup p.1=some p.2:=by
 induction l with
 |nil=>cases h
 |cons q r ih=>
  obtain⟨a,b⟩:=q;rw[iL,List.nodup_cons]at hn;rcases jN.1 h with rfl|h
  .exact mT
  .rw[jC (fun e=>hn.1 (by rw[<-e];exact iI.2 ⟨p,h,rfl⟩))];exact ih hn.2 h
theorem vA.free {ρ:Site->Loc}{m:Mem}{w:World}{B:List (Site×aJ)}(h:vA ρ m w B)(hn:(B.map (·.1)).Nodup):∀k∈cJ ρ w B,∀o,m k o=none:=fun k hk o=>by
 obtain⟨p,hp,e⟩:=SV.1 hk;exact h.eL p.1 p.2 k (Zk0 hn hp) e o
def cR (P:Program)(f:FuncId)(bS:List AV)(B:List (Site×aJ))(nX:AV->List (Site×aJ)->Prop):Prop:=
 jM P f/\∀(w:World) (m:Mem) (ρ:Site->Loc) (vs:Array Value),vA ρ m w B->(Le m w.mem/\nI m w/\(B.map (·.1)).Nodup)->vs.size=bS.length->(∀(j:Nat) (d:Value) (c:AV),vs[j]?=some d->bS[j]?=some c->bO ρ m d c)->
  Calls P f vs w (lE w m ρ B nX)
theorem cR.mono {P:Program}{f:FuncId}{bS:List AV}{B:List (Site×aJ)}{nX O9:AV->List (Site×aJ)->Prop}(h:cR P f bS B nX)(hp:∀r B',nX r B'->O9 r B'):cR P f bS B O9:=
 ⟨h.1,fun w m ρ vs h1 h2 h3 h4=>(h.2 w m ρ vs h1 h2 h3 h4).mono fun e w' ⟨v,r,B',bV,m',k1,k2,k3⟩=>⟨v,r,B',bV,m',k1,hp _ _ k2,k3⟩⟩
def FF (ro:Option Nat):Fence:={ Fence.wide with round:=ro }
theorem FF.one {ro:Option Nat}{n:Nat}:(FF ro).depth.isSome=true->1<=n:=fun h=>by cases h
theorem Fm {P:Program}{ro:Option Nat}{n:Nat}{f:FuncId}{args:Array Value}{w:World}{R:Ending->World->Prop}(h:Calls P f args w R):CallsIn (FF ro) n P f args w R:=
 ⟨trivial,fun cs _=>(callsIn_wide (n:=n).2 h).2 cs (room_wide _)⟩
def Op.ZxG:Op->Bool
 |.defer _=>true
 |_=>false
def FM (ops:Array Oper):Bool:=ops.all fun o=>!Op.ZxG o.op
theorem XN {ops:Array Oper}(h:FM ops=true){i:Nat}{o:Oper}(hi:ops[i]?=some o):∀c,o.op≠.defer c:=fun c e=>by
 have:=Array.all_eq_true'.1 h o (Array.mem_of_getElem? hi)
 rw[e]at this;cases this
section
variable {P:Program}{ops:Array Oper}{Q:Exit->Act->World->Prop}{md:Region.Mode}{ro:Option Nat}{S:World->Prop}
theorem ZeK {i:Nat}{o:Oper}{v:Value}{a:Act}(hi:ops[i]?=some o)(hd:∀c,o.op≠.defer c)(hy:YieldsIf P ops S o v a)
  {K:Act->World->Prop} {w:World} (hS:S w) (h:K (a.put o.dst v) w):wpOpIn (FF ro) 1 P ops Q i K a w:=by
 unfold wpOpIn;simp only[hi];rcases hy with⟨hw,hv⟩|⟨hw,rfl⟩
 .simp only[hw,if_true,Oper.wpIn,Oper.semAt_eq _ _ _ hd,hv w hS,Oper.uponIn];exact⟨fun _ _=>trivial,h⟩
 .simp only[hw,Bool.false_eq_true,if_false];exact⟨fun _ _=>trivial,h⟩
theorem Zmn {j:Nat}{oi oj:Oper}{v:Value}(hj:ops[j]?=some oj)(hd:∀c,oj.op≠.defer c)(G9:oi.apart ops oj=true)
  (K6:∀cs b,oi.op≠.select cs b) (BR:∀cs b,oj.op≠.select cs b)
  (hQ:∀c a w,Q (.panic c) (a.put oi.dst v) w->Q (.panic c) a w) {K:Act->World->Prop} {a:Act} {w:World}
  (hy:YieldsIf P ops S oi v a) (h:wpOpIn (FF ro) 1 P ops Q j K (a.put oi.dst v) w):
  wpOpIn (FF ro) 1 P ops Q j (fun a' w'=>YieldsIf P ops S oi v a'/\K (a'.put oi.dst v) w') a w:=by
 obtain⟨h1,h2,h3⟩:=Oper.apart_spec G9;have keep:∀(a:Act),YieldsIf P ops S oi v a->∀u,YieldsIf P ops S oi v (a.put oj.dst u):=fun a hy u=>
  hy.of_same (execOp_put oi K6 a oj.dst u h3) (wanted_put oi a oj.dst u h3)
 have W8:∀d,YieldsIf P ops S oi v { a with defers:=d::a.defers }:=fun d=>hy.of_same rfl rfl
 unfold wpOpIn at *;simp only[hj]at *;rw[wanted_put oj a oi.dst v h1]at h;split
 .rename_i hw;simp only[hw,if_true]at h;unfold Oper.wpIn at *;refine⟨fun _ _=>trivial,?_⟩;have h:=h.2;rw[Oper.semAt_eq _ _ _ hd,execOp_put oj BR a oi.dst v h1]at h;rw[Oper.semAt_eq _ _ _ hd];generalize(execOp a.eval oj).run P w=r at *;cases r with
  |ok x w'=>
   cases x<;>simp only[Oper.uponIn]at h ⊢
   case value u=>exact⟨keep a hy u,by rw[<-Act.put_comm a v u h2];exact h⟩
   case skip=>exact⟨keep a hy _,by rw[<-Act.put_comm a v undef h2];exact h⟩
   case defer d=>
    refine⟨keep _ (W8 d) _,?_⟩;rw[<-Act.put_comm _ v undef h2,<-Act.put_defers];exact h
   case enter f args=>
    refine⟨h.1,CallsIn.mono h.2 fun e YD he=>?_⟩;cases e with
    |returned u=>exact⟨keep a hy u,by rw[<-Act.put_comm a v u h2];exact he⟩
    |panicked c=>exact hQ _ _ _ he
    |outgrown=>exact he
   case row row args=>exact⟨h.1,RowsIn.mono h.2 fun u YD he=>⟨keep a hy u,by rw[<-Act.put_comm a v u h2];exact he⟩⟩
   case round l f tmps assign body=>
    refine⟨h.1,RoundIn.mono h.2 fun e YD he=>?_⟩;cases e with
    |returned u=>exact⟨keep a hy u,by rw[<-Act.put_comm a v u h2];exact he⟩
    |panicked c=>exact hQ _ _ _ he
    |outgrown=>exact he
  |halt x w'=>
   cases x<;>simp only[Oper.uponIn]at h ⊢
   case panic u=>exact hQ _ _ _ h
 .rename_i hw;simp only[hw]at h;exact⟨fun _ _=>trivial,keep a hy _,by rw[<-Act.put_comm a v undef h2];exact h.2⟩
end
section
variable {P:Program}{ops:Array Oper}{Q:Exit->Act->World->Prop}{md:Region.Mode}{ro:Option Nat}
def q8 (md:Region.Mode)(acc:List Nat):List Edge->Nat->Nat
 |[],m=>m
 |e::r,m=>match Region.binds md e with
  |true=>q8 md acc r (m||| (1 <<< e.on)||| acc.getD e.on 0)
  |false=>q8 md acc r m
def DJ (md:Region.Mode):List Oper->List Nat->List Nat
 |[],acc=>acc
 |o::r,acc=>match q8 md acc o.after.toList 0 with
  |0=>DJ md r (acc++[0])
  |n+1=>DJ md r (acc++[n+1])
def waits (md:Region.Mode)(ops:Array Oper)(_:Nat)(j k:Nat):Bool:=Nat.testBit ((DJ md ops.toList []).getD j 0) k
inductive xA (md:Region.Mode)(ops:Array Oper):Nat->Nat->Prop where
 |one {j:Nat} {o:Oper} {e:Edge} (ho:ops[j]?=some o) (he:e∈o.after) (hb:Region.binds md e=true):xA md ops j e.on
 |more {j k:Nat} {o:Oper} {e:Edge} (ho:ops[j]?=some o) (he:e∈o.after) (hb:Region.binds md e=true) (h:xA md ops e.on k):xA md ops j k
theorem Zh {acc:List Nat}{j:Nat}{o:Oper}(ho:ops[j]?=some o)(tY:∀i k,Nat.testBit (acc.getD i 0) k=true->xA md ops i k):∀(l:List Edge) (m:Nat),(∀e∈l,e∈o.after)->(∀k,Nat.testBit m k=true->xA md ops j k)->∀k,Nat.testBit (q8 md acc l m) k=true->xA md ops j k
 |[],m,_,hm,k,h=>hm k h
 |e::r,m,hl,hm,k,h=>by
  unfold q8 at h;cases hb:Region.binds md e with
  |false=>
   rw[hb]at h;exact Zh ho tY r m (fun x hx=>hl x (by simp[hx])) hm k h
  |true=>
   rw[hb]at h;refine Zh ho tY r _ (fun x hx=>hl x (by simp[hx])) (fun k' h'=>?_) k h;rw[Nat.testBit_or,Nat.testBit_or,rV,rV]at h';rcases h' with(h'|h')|h'
   .exact hm k' h'
   .rw[Nat.one_shiftLeft,Nat.testBit_two_pow]at h'
    have:e.on=k':=by simpa using h'
    rw[<-this];exact .one ho (hl e (by simp)) hb
   .exact .more ho (hl e (by simp)) hb (tY _ _ h')
theorem Zg:∀(l pre:List Oper) (acc:List Nat),ops.toList=pre++l->acc.length=pre.length->(∀i k,Nat.testBit (acc.getD i 0) k=true->xA md ops i k)->∀i k,Nat.testBit ((DJ md l acc).getD i 0) k=true->xA md ops i k
 |[],pre,acc,_,_,tY=>tY
 |o::r,pre,acc,hp,hl,tY=>by
  have ho:ops[acc.length]?=some o:=by
   rw[<-O3,hp,hl];simp
  have step:∀m,q8 md acc o.after.toList 0=m->∀i k,Nat.testBit ((acc++[m]).getD i 0) k=true->xA md ops i k:=by
   intro m hm i k h;rw[List.getD_eq_getElem?_getD,yS]at h;split at h
   .exact tY i k (by rw[List.getD_eq_getElem?_getD];exact h)
   .rename_i hi;cases hx:[m][i-acc.length]? with
    |none=>rw[hx]at h;simp at h
    |some x=>
     have h0:i-acc.length=0:=by have:=(bZ.1 hx).1;simp at this;omega
     rw[h0]at hx;simp at hx;subst hx;have xI:i=acc.length:=by omega
     subst xI;rw[h0]at h;simp only[List.getElem?_cons_zero,rW]at h;rw[<-hm]at h;exact Zh ho tY _ 0 (fun e he=>by simpa using he) (fun k h=>by simp at h) k h
  unfold DJ;split
  .rename_i h0;exact Zg r (pre++[o]) _ (by rw[hp];simp) (by simp[hl]) (step 0 h0)
  .rename_i n h0;exact Zg r (pre++[o]) _ (by rw[hp];simp) (by simp[hl]) (step (n+1) h0)
theorem ZlJ {f j k:Nat}(h:waits md ops f j k=true):xA md ops j k:=Zg ops.toList [] [] (by simp) rfl (fun i k h=>by simp at h) j k h
def Down (md:Region.Mode)(ops:Array Oper)(listed:Array Bool):Prop:=∀j o,listed.getD j false=true->ops[j]?=some o->∀e∈o.after,Region.binds md e=true->listed.getD e.on false=true
theorem ZcT {l:Array Bool}{k:Nat}(h:l.getD k true=false):l.getD k false=false:=by
 rcases Nat.lt_or_ge k l.size with h'|h'
 .simp[h']at h ⊢;exact h
 .simp[Array.getElem?_eq_none h']at h
theorem Down.wait {listed:Array Bool}(h:Down md ops listed){j k:Nat}(hj:listed.getD j false=true)(hw:xA md ops j k):listed.getD k false=true:=by
 induction hw with
 |one ho he hb=>exact h _ _ hj ho _ he hb
 |more ho he hb _ ih=>exact ih (h _ _ hj ho _ he hb)
theorem Zjh {listed:Array Bool}(h:Down md ops listed){f j k:Nat}(hj:j∈Region.ready md ops listed)(hw:waits md ops f j k=true):listed.getD k false=true:=by
 obtain⟨_,o,ho,eS⟩:=mem_ready.1 hj;cases ZlJ hw with
 |one x3 he hb=>rw[ho]at x3;cases x3;exact eS _ he hb
 |more x3 he hb h2=>rw[ho]at x3;cases x3;exact h.wait (eS _ he hb) h2
theorem Down.set {listed:Array Bool}(h:Down md ops listed){i:Nat}(hi:i∈Region.ready md ops listed):Down md ops (listed.setIfInBounds i true):=by
 intro j o hj ho e he hb;have up:∀k,listed.getD k false=true->(listed.setIfInBounds i true).getD k false=true:=fun k hk=>by
  rcases Nat.decEq k i with dA|rfl
  .rw[getD_set_ne false (fun e=>dA e.symm)];exact hk
  .rcases Nat.lt_or_ge k listed.size with h'|h'
   .simp[h']
   .simp[Array.getElem?_eq_none h']at hk
 rcases Nat.decEq j i with dA|rfl
 .rw[getD_set_ne false (fun e=>dA e.symm)]at hj;exact up _ (h j o hj ho e he hb)
 .obtain⟨_,o',x3,eS⟩:=mem_ready.1 hi;rw[ho]at x3;cases x3;exact up _ (eS e he hb)
theorem Down.start (n:Nat):Down md ops (Array.replicate n false):=by
 intro j o hj;rcases Nat.lt_or_ge j n with h|h
 .simp[h]at hj
 .simp[h]at hj
def iQ (soft:Nat->Oper->Bool)(ops:Array Oper)(j:Nat):Bool:=match ops[j]? with
 |some o=>soft j o
 |none=>true
def JO (ro:Option Nat)(P:Program)(md:Region.Mode)(ops:Array Oper)(Q:Exit->Act->World->Prop)(soft:Nat->Oper->Bool):Nat->Array Bool->Act->World->Prop
 |0,listed,a,w=>Region.ready md ops listed=[]/\Q .normal a w
 |fuel+1,listed,a,w=>
  (Region.ready md ops listed=[]->Q .normal a w)/\
  ∀i∈Region.ready md ops listed,wpOpIn (FF ro) 1 P ops Q i (fun a' w'=>(iQ soft ops i=true->Ext w w')/\JO ro P md ops Q soft fuel (listed.setIfInBounds i true) a' w') a w
variable {soft:Nat->Oper->Bool}
theorem Zel:∀(fuel:Nat) (listed:Array Bool) (a:Act) (w:World),JO ro P md ops Q soft fuel listed a w->wpAnyIn (FF ro) 1 P md ops Q fuel listed a w
 |0,_,_,_,h=>h
 |fuel+1,_,_,_,h=>⟨h.1,fun i hi=>wpOpIn_mono (fun a' w' k=>Zel fuel _ a' w' k.2) (h.2 i hi)⟩
theorem ZeL {S':World->Prop}{i:Nat}{oi:Oper}{v:Value}(hx:∀w w',S' w->Ext w w'->S' w')(hi:ops[i]?=some oi)(Ah:∀(j:Nat) (o:Oper) cs b,ops[j]?=some o->o.op≠.select cs b)(N3:FM ops=true)
  (hQ:∀c a w,Q (.panic c) (a.put oi.dst v) w->Q (.panic c) a w):
  ∀(fuel:Nat) (listed:Array Bool) (a:Act) (w:World),Down md ops listed->((∀w,S' w)\/∀j,listed.getD j true=false->j≠i->iQ soft ops j=false->waits md ops ops.size j i=true)->
   (∀j oj,ops[j]?=some oj->j≠i->listed.getD j true=false->(∀e∈oj.after,Region.binds md e=true->e.on≠i)->oi.apart ops oj=true)->
   i∈Region.ready md ops listed->YieldsIf P ops S' oi v a->S' w->
   JO ro P md ops Q soft fuel (listed.setIfInBounds i true) (a.put oi.dst v) w->JO ro P md ops Q soft (fuel+1) listed a w:=by
 intro fuel;induction fuel with
 |zero=>
  intro listed a w _ _ _ hr hy hS H;refine⟨fun h=>absurd hr (by rw[h];simp),fun j hj=>?_⟩;rcases Nat.decEq j i with zN|zN
  .have h2:=ready_mono hj zN;rw[H.1]at h2;exact absurd h2 (by simp)
  .rw[zN];exact ZeK hi (XN N3 hi) hy hS ⟨fun _=>Ext.tI _,H⟩
 |succ fuel ih=>
  intro listed a w hD Jm iS hr hy hS H;refine⟨fun h=>absurd hr (by rw[h];simp),fun j hj=>?_⟩;rcases Nat.decEq j i with zN|zN
  .have h1:=H.2 j (ready_mono hj zN);obtain⟨QE,oj,Jl,eS⟩:=mem_ready.1 hj;have Bi:=(mem_ready.1 hr).1;have PS:∀e∈oj.after,Region.binds md e=true->e.on≠i:=fun e he hb heq=>by
    have k1:=eS e he hb;rw[heq,ZcT Bi]at k1;cases k1
   have h2:=Zmn Jl (XN N3 Jl) (iS j oj Jl zN QE PS) (fun cs b=>Ah i oi cs b hi) (fun cs b=>Ah j oj cs b Jl) hQ hy h1;have UQ:i∈Region.ready md ops (listed.setIfInBounds j true):=ready_mono hr (Ne.symm zN);have Ac:∀k,(listed.setIfInBounds j true).getD k true=false->listed.getD k true=false:=fun k hk=>by
    rcases Nat.decEq j k with Tp|Tp
    .rw[getD_set_ne true Tp]at hk;exact hk
    .rw[<-Tp];exact QE
   refine wpOpIn_mono (fun a' w' h3=>?_) h2;have mV:S' w':=by
    rcases Jm with Cu|Jm
    .exact Cu w'
    .cases BR:iQ soft ops j with
     |true=>exact hx w w' hS (h3.2.1 BR)
     |false=>
      have:=Zjh hD hj (Jm j QE zN BR)
      rw[ZcT Bi]at this;cases this
   refine⟨h3.2.1,ih (listed.setIfInBounds j true) a' w' (hD.set hj) (Jm.imp id (fun h k hk=>h k (Ac k hk))) (fun k ok hk x5 Tl mM=>iS k ok hk x5 (Ac k Tl) mM) UQ h3.1 mV ?_⟩;rw[Array.setIfInBounds_comm _ _ zN];exact h3.2.2
  .rw[zN];exact ZeK hi (XN N3 hi) hy hS ⟨fun _=>Ext.tI _,H⟩
def WD (ro:Option Nat)(P:Program)(ops:Array Oper)(Q:Exit->Act->World->Prop)(soft:Nat->Oper->Bool)(still:Oper->Bool):List (Nat×Bool)->Act->World->Prop
 |[],a,w=>Q .normal a w
 |(i,false)::r,a,w=>∃o v,∃S':World->Prop,(∀w w',S' w->Ext w w'->S' w')/\(still o=true->∀w,S' w)/\S' w/\ops[i]?=some o/\YieldsIf P ops S' o v a/\WD ro P ops Q soft still r (a.put o.dst v) w
 |(i,true)::r,a,w=>wpOpIn (FF ro) 1 P ops Q i (fun a' w'=>(iQ soft ops i=true->Ext w w')/\WD ro P ops Q soft still r a' w') a w
def J0 (md:Region.Mode)(ops:Array Oper)(soft:Nat->Oper->Bool)(still:Oper->Bool):List (Nat×Bool)->Array Bool->Bool
 |[],listed=>(Region.ready md ops listed).isEmpty
 |(i,false)::r,listed=>(Region.ready md ops listed).contains i&&Region.free md ops listed i&&
   ((match ops[i]? with|some o=>still o|none=>false)||(List.range ops.size).all fun j=>listed.getD j true||j==i||iQ soft ops j||waits md ops ops.size j i)&&J0 md ops soft still r (listed.setIfInBounds i true)
 |(i,true)::r,listed=>(Region.ready md ops listed==[i])&&J0 md ops soft still r (listed.setIfInBounds i true)
theorem Zg4 {still:Oper->Bool}(hs:Region.noSelect ops=true)(N3:FM ops=true)(hQ:∀c (a:Act) (d:Tmp) (v:Value) w,Q (.panic c) (a.put (some d) v) w->Q (.panic c) a w):∀(l:List (Nat×Bool)) (listed:Array Bool) (a:Act) (w:World),listed.size=ops.size->Down md ops listed->
  J0 md ops soft still l listed=true->WD ro P ops Q soft still l a w->JO ro P md ops Q soft l.length listed a w:=by
 intro l;induction l with
 |nil=>
  intro listed a w _ _ hB h;exact⟨by simpa[J0]using hB,h⟩
 |cons x r ih=>
  obtain⟨i,b⟩:=x;intro listed a w fH hD hB h;cases b with
  |false=>
   simp only[J0,dJ]at hB;obtain⟨o,v,S',hx,bT,Uy,ho,hy,h'⟩:=h;have hr:i∈Region.ready md ops listed:=by simpa using hB.1.1.1
   have CX:=hB.1.2;rw[ho]at CX;simp only[rV]at CX;exact ZeL hx ho (Region.noSelect_spec hs) N3 (fun c a w k=>by
    cases hd:o.dst with
    |none=>rw[hd]at k;exact k
    |some d=>rw[hd]at k;exact hQ c a d v w k) r.length listed a w hD (by
    rcases CX with h1|h1
    .exact .inl (bT h1)
    .refine .inr (fun j hj zN BR=>?_);have aI:j<ops.size:=by
      rcases Nat.lt_or_ge j listed.size with h2|h2
      .omega
      .simp[Array.getElem?_eq_none h2]at hj
     have:=rC.1 h1 j (List.mem_range.2 aI)
     simp only[rV,beq_iff_eq]at this;rcases this with((h3|h3)|h3)|h3
     .rw[hj]at h3;cases h3
     .exact absurd h3 zN
     .rw[BR]at h3;cases h3
     .exact h3) (Region.free_spec ho hB.1.1.2) hr hy Uy (ih _ _ _ (by simpa using fH) (hD.set hr) hB.2 h')
  |true=>
   simp only[J0,dJ,beq_iff_eq]at hB;refine⟨fun h0=>by rw[hB.1]at h0;simp at h0,fun j hj=>?_⟩;have X9:=hj;rw[hB.1,rY]at X9;subst X9;exact wpOpIn_mono (fun a' w' k=>⟨k.1,ih _ _ _ (by simpa using fH) (hD.set hj) hB.2 k.2⟩) h
theorem Zdk {id:Nat}{a:Act}{w:World}{o:Array Oper}(soft:Nat->Oper->Bool)(still:Oper->Bool)(l:List (Nat×Bool))(hm:P.follows .mixedOrders=true)(hQ:∀c (a:Act) (d:Tmp) (v:Value) w,Q (.panic c) (a.put (some d) v) w->Q (.panic c) a w)
  (h1:Region.noSelect o=true) (H3:FM o=true) (h2:l.length=o.size) (h3:J0 .any o soft still l (Array.replicate o.size false)=true)
  (h:WD ro P o Q soft still l a w.drew):(Code.region id o true).wpIn (FF ro) 1 P Q a w:=by
 refine wpIn_region_any hm (Zel (soft:=soft) _ _ _ _ ?_)
 have:=Zg4 (P:=P) (soft:=soft) (still:=still) h1 H3 hQ l _ _ _ (by simp) (Down.start _) h3 h
 rw[h2]at this;exact this
end
def iN (d:Nat):Site->Site
 |.ret j=>.loc d j
 |s=>s
def Site.uJ:Site->Bool
 |.ret _=>true
 |_=>false
def AS.lT (B:List (Site×aJ))(σ:AS):AS:=⟨σ.tm,B++σ.bx⟩
def nO (d:Nat)(B:List (Site×aJ)):List (Site×aJ):=B.map fun p=>(iN d p.1,p.2.iR (iN d))
def oE (r:AV)(B:List (Site×aJ)):Prop:=r.dC Site.uJ=true/\∀p∈B,p.1.uJ=true/\p.2.dC Site.uJ=true
def aM:List Site->AS->AS
 |[],σ=>σ
 |s::r,σ=>aM r (σ.cD s)
def yV (P:Program)(f:bA)(args:List bA)(d:Nat)(K:AV->AS->Prop)(σ:AS):Prop:=
 (∃k g fs xs cs,(σ.o f).snap σ k=some (.fn g fs cs)/\jE (AV.snap σ k) (args.map σ.o)=some xs/\cR P g ((fs++xs++cs).map .pv) [] (fun r _=>∃y,r=.pv y/\y.flat=true/\K (.pv y) σ))\/
 (∃(fz:List Site) (g:FuncId) (fs xs cs:List PV),(aM fz σ).o f=.pv (.fn g fs cs)/\(aM fz σ).tO args=some xs/\cR P g ((fs++xs++cs).map .pv) [] (fun r B=>oE r B/\K (r.map (iN d)) (((aM fz σ).bG d).lT (nO d B))))
section
variable {P:Program}{N:Nat}{w0:World}{m0:Env w0}{pl:List Nat}{σ:AS}{ρ:Site->Loc}{m:Mem}{act:Act}{w:World}{o:Oper}{d:Nat}{K:AV->AS->Prop}{ro:Option Nat}
theorem Sat.aM:∀(fz:List Site) {σ:AS} {m:Mem},Sat N w0 m0 pl σ ρ m act w->∃m',Le m m'/\Sat N w0 m0 pl (aM fz σ) ρ m' act w
 |[],σ,m,h=>⟨m,Le.refl m,h⟩
 |s::r,σ,m,h=>by
  obtain⟨m1,l1,h1⟩:=h.cD s;obtain⟨m2,l2,h2⟩:=Sat.aM r h1;exact⟨m2,l1.trans l2,h2⟩
theorem ZfI (d:Nat):∀(B:List (Site×aJ)),(∀p∈B,p.1.uJ=true)->∀s b,(nO d B).lookup s=some b->∃j b',s=.loc d j/\B.lookup (.ret j)=some b'/\b=b'.iR (iN d)
 |[],_,s,b,h=>by simp[nO]at h
 |(s',b')::r,hB,s,b,h=>by
  have h1:=hB (s',b') (by simp);cases s' with
  |ret j=>
   simp only[nO,iL,iN]at h;rcases Classical.em (s=.loc d j)with e|e
   .subst e;rw[mT]at h;cases h;exact⟨j,b',rfl,mT,rfl⟩
   .rw[jC e]at h;obtain⟨j2,b2,e1,e2,e3⟩:=ZfI d r (fun p hp=>hB p (by simp[hp])) s b h;refine⟨j2,b2,e1,?_,e3⟩;rw[jC (fun e4=>e (by rw[e1];cases e4;rfl))];exact e2
  |par i=>cases h1
  |loc e i=>cases h1
theorem ZeD {α β:Type}[BEq α][LawfulBEq α](k:α):∀(l r:List (α×β)),(l++r).lookup k=(l.lookup k).or (r.lookup k)
 |[],r=>by simp[List.lookup]
 |(a,b)::l,r=>by
  by_cases h:k=a
  .subst h;rw[List.cons_append,mT,mT];rfl
  .rw[List.cons_append,jC h,jC h];exact ZeD k l r
theorem Sat.ret (h:Sat N w0 m0 pl σ ρ m act w)(hN:qW d σ){w':World}(hx:Ext w w'){m':Mem}{bV:Site->Loc}{B:List (Site×aJ)}(hB:vA bV m' w' B)(hk:∀p∈B,p.1.uJ=true/\p.2.dC Site.uJ=true)(hm:Le m m')(hw:Le m' w'.mem)
  (hb:∀s b k,B.lookup s=some b->fK bV w' s b k->w.heap.size<=k) (hf:∀b o v,m' b o=some v->m b o=some v\/w.heap.size<=b):
  ∃oC,Sat N w0 m0 pl (σ.lT (nO d B)) oC m' act w'/\∀{v:Value} {r:AV},r.dC Site.uJ=true->bO bV m' v r->bO oC m' v (r.map (iN d)):=by
 let oC:Site->Loc:=fun s=>match s with
  |.loc e j=>if e=d then bV (.ret j)else ρ s
  |s=>ρ s
 have e1:∀s,s.fP d=false->oC s=ρ s:=fun s hs=>by
  cases s with
  |loc e j=>
   have:¬e=d:=fun h=>by subst h;simp[Site.fP]at hs
   simp[oC,this]
  |_=>rfl
 have e2:∀s,s.uJ=true->oC (iN d s)=bV s:=fun s hs=>by
  cases s with
  |ret j=>simp[oC,iN]
  |_=>cases hs
 have hX:=h.ext hx;have y0:Sat N w0 m0 pl σ ρ m' act w':=hX.Zx6 hm hw (fun s b i k r o=>by
  cases hv:m' i o with
  |none=>rfl
  |some v=>
   have r':=((h.bx s b k).dS (fun r=>hx.block _ (h.lt k r))).1 r;have aI:=h.G1 k r';rcases hf _ _ _ hv with k1|k1
   .rw[h.eL s b i k r' o]at k1;cases k1
   .omega) (fun b o v hv=>by
  rcases hf b o v hv with k|k
  .exact .inl k
  .exact .inr (.inl (lC h.keep.size k)))
 have look:∀s b,(σ.lT (nO d B)).b s=some b->(∃j b',s=.loc d j/\B.lookup (.ret j)=some b'/\b=b'.iR (iN d))\/(σ.b s=some b/\s.fP d=false):=fun s b k=>by
  have k':(nO d B++σ.bx).lookup s=some b:=k;rw[ZeD]at k';cases hl:(nO d B).lookup s with
  |some c=>
   rw[hl]at k';simp at k';subst k';exact .inl (ZfI d B (fun p hp=>(hk p hp).1) s c hl)
  |none=>
   rw[hl]at k';simp at k';exact .inr ⟨k',(hN.b s b k').1⟩
 have mem:∀{l:List (Site×aJ)} {s b},l.lookup s=some b->(s,b)∈l:=by
  intro l;induction l with
  |nil=>intro s b h;simp[List.lookup]at h
  |cons p r ih=>
   obtain⟨a,c⟩:=p;intro s b h;by_cases e:s=a
   .subst e;rw[mT]at h;cases h;simp
   .rw[jC e]at h;simp[ih h]
 refine⟨oC,⟨y0.sE,y0.sz,fun t a k=>?_,fun s b k=>?_,fun s s' b b' i k k' r r'=>?_,y0.mem,fun s b i k r=>?_,fun s b i k r=>?_,y0.keep,y0.base,y0.qC,fun i=>y0.par i⟩,fun hr hv=>hv.map e2 hr⟩
 .obtain⟨v,k1,k2⟩:=y0.tm t a k;exact⟨v,k1,k2.mono (Le.refl _) e1 (hN.t t a k)⟩
 .rcases look s b k with⟨j,b',rfl,k1,rfl⟩|⟨k1,k2⟩
  .exact(hB.bx _ _ k1).iR e2 (s:=.ret j) rfl (hk _ (mem k1)).2
  .exact(y0.bx s b k1).stay (Le.refl _) e1 k2 (hN.b s b k1).2 (fun _ _=>rfl)
 .rcases look s b k with⟨j,b2,rfl,k1,rfl⟩|⟨k1,k2⟩<;>rcases look s' b' k' with⟨j',b2',rfl,C0,rfl⟩|⟨C0,ZS⟩
  .have:=hB.dY _ _ _ _ i k1 C0 ((uM (e2 (.ret j) rfl)).1 r) ((uM (e2 (.ret j') rfl)).1 r')
   cases this;rfl
  .have a1:=hb _ _ i k1 ((uM (e2 (.ret j) rfl)).1 r);have a2:=h.G1 C0 (((h.bx s' b' C0).dS (fun r=>hx.block _ (h.lt C0 r))).1 ((Q5 (e1 s' ZS)).1 r'));omega
  .have a1:=hb _ _ i C0 ((uM (e2 (.ret j') rfl)).1 r');have a2:=h.G1 k1 (((h.bx s b k1).dS (fun r=>hx.block _ (h.lt k1 r))).1 ((Q5 (e1 s k2)).1 r));omega
  .exact y0.dY s s' b b' i k1 C0 ((Q5 (e1 s k2)).1 r) ((Q5 (e1 s' ZS)).1 r')
 .rcases look s b k with⟨j,b2,rfl,k1,rfl⟩|⟨k1,k2⟩
  .exact hB.eL _ _ i k1 ((uM (e2 (.ret j) rfl)).1 r)
  .exact y0.eL s b i k1 ((Q5 (e1 s k2)).1 r)
 .rcases look s b k with⟨j,b2,rfl,k1,rfl⟩|⟨k1,k2⟩
  .exact .inl (lC h.keep.size (hb _ _ i k1 ((uM (e2 (.ret j) rfl)).1 r)))
  .exact y0.fL s b i k1 ((Q5 (e1 s k2)).1 r)
theorem Fc {m:Mem}{v:Value}{g:FuncId}{fs cs:List PV}(h:dG m v (.fn g fs cs)):∃vf vc:Array Value,v=.func (.func g) vf vc/\vf.size=fs.length/\vc.size=cs.length/\(∀(j:Nat) (d:Value) (c:PV),vf[j]?=some d->fs[j]?=some c->dG m d c)/\(∀(j:Nat) (d:Value) (c:PV),vc[j]?=some d->cs[j]?=some c->dG m d c):=by
 cases h with
 |fn _ vf vc _ _ h0 h1 h2 h3=>exact⟨vf,vc,rfl,h0,h1,h2,h3⟩
theorem E9 {c:Call}{fo:Operand}(ho:o.op=.call c)(hc:c.callee=.value fo){g:FuncId}{vf vc:Array Value}(hv:act.eval fo=.func (.func g) vf vc)(hg:jM P g):
  (execOp act.eval o).run P w=.ok (.enter g (vf++c.args.map act.eval++vc)) w:=by
 obtain⟨fn,code,h1,h2,h3⟩:=hg;have uA : ¬ fn.name = "runtime.NumGoroutine" := by simpa using h2
 unfold execOp;simp only[ho];simp[resolve,hc,hv,Deferred.ofValue,invoke,callFunc,h1,uA,h3]
theorem Zo1 {m:Mem}{ρ:Site->Loc}{vf va vc:Array Value}{fs xs cs:List PV}(h1:vf.size=fs.length)(h2:va.size=xs.length)(h3:vc.size=cs.length)(k1:∀(j:Nat) (d:Value) (c:PV),vf[j]?=some d->fs[j]?=some c->dG m d c)
  (k2:∀(j:Nat) (d:Value) (c:PV),va[j]?=some d->xs[j]?=some c->dG m d c) (k3:∀(j:Nat) (d:Value) (c:PV),vc[j]?=some d->cs[j]?=some c->dG m d c):
  (vf++va++vc).size=((fs++xs++cs).map AV.pv).length/\∀(j:Nat) (d:Value) (c:AV),(vf++va++vc)[j]?=some d->((fs++xs++cs).map AV.pv)[j]?=some c->bO ρ m d c:=by
 refine⟨by simp[h1,h2,h3],fun j d c e1 e2=>?_⟩;rw[bW]at e2;obtain⟨x,e3,rfl⟩:=dZ.1 e2;refine .pv _ _ ?_;rw[Array.getElem?_append,Array.getElem?_append]at e1;rw[yS,yS]at e3;simp only[Array.size_append,gD,h1,h2]at e1 e3;split at e1
 .rename_i c1;rw[if_pos c1]at e3;split at e1
  .rename_i c2;rw[if_pos c2]at e3;exact k1 j d x e1 e3
  .rename_i c2;rw[if_neg c2]at e3;exact k2 _ d x e1 e3
 .rename_i c1;rw[if_neg c1]at e3;exact k3 _ d x e1 e3
theorem ZtY {f:bA}{args:List bA}(hl:aZ P o.op=.call f args)(h:yV P f args d K σ)(hS:Sat N w0 m0 pl σ ρ m act w){Q:Exit->Act->World->Prop} :
  o.wpIn (FF ro) 1 P act w (fun bE w'=>∃v a τ bV m',bE=act.put o.dst v/\K a τ/\Sat N w0 m0 pl τ bV m' act w'/\bO bV m' v a/\Ext w w') Q:=by
 obtain⟨c,fo,ho,hc,hf,ha⟩:∃c fo,o.op=.call c/\c.callee=.value fo/\aV fo=some f/\pJ c.args.toList=some args:=by
  replace hl:=ZfK hl;cases hop:o.op<;>rw[hop]at hl
  case call c=>
   simp only[mX]at hl;split at hl
   all_goals first
    |(rename_i fo hc
      split at hl
      .rename_i e1 e2;cases hl;exact⟨c,fo,rfl,hc,e1,e2⟩
      .cases hl)
    |(exfalso;repeat' (first|(cases hl;done)|split at hl))
  case unOp op t x=>exfalso;cases op<;>simp only[mX]at hl<;>(try split at hl)<;>cases hl
  case makeFunc fn fs cs=>exfalso;cases fn<;>simp only[mX]at hl<;>(try split at hl)<;>cases hl
  case slice t x lo hi mx=>exfalso;cases mx<;>simp only[mX]at hl<;>(try split at hl)<;>cases hl
  all_goals (exfalso;simp only[mX,vO]at hl;repeat' (first|(cases hl;done)|split at hl))
 obtain⟨q1,q2⟩:=KD ha;have fX:∀(τ:AS) (bV:Site->Loc) (m':Mem),Sat N w0 m0 pl τ bV m' act w->(c.args.map act.eval).size=args.length/\∀(j:Nat) (u:Value) (y:bA),(c.args.map act.eval)[j]?=some u->args[j]?=some y->bO bV m' u (τ.o y):=fun τ bV m' HA=>by
  refine⟨by simp;simpa using q1,fun j u y hu hy=>?_⟩;rw[Array.getElem?_map]at hu;obtain⟨x,k1,rfl⟩:=dZ.1 hu;obtain⟨y',k2,k3⟩:=q2 j x (by simpa using k1);rw[hy]at k2;cases k2;exact HA.aV k3
 unfold Oper.wpIn;refine⟨fun _ _=>trivial,?_⟩;rw[Oper.semAt_eq _ _ _ (fun c' e=>by rw[ho]at e;cases e)];rcases h with⟨k,g,fs,xs,cs,h1,h2,hC⟩|⟨fz,g,fs,xs,cs,h1,h2,hC⟩
 .obtain⟨vf,vc,hv,f1,f2,f3,f4⟩:=Fc (ZmW hS h1 (hS.aV hf));rw[E9 ho hc hv hC.1,Oper.uponIn_enter];refine⟨FF.one,Fm ?_⟩;obtain⟨s1,s2⟩:=XI h2;rw[fV]at s1;obtain⟨a1,a2⟩:=fX σ ρ m hS;obtain⟨b1,b2⟩:=Zo1 (ρ:=ρ) (m:=w.mem) (va:=c.args.map act.eval) (xs:=xs) f1 (by omega) f2 f3 (fun j u x e1 e2=>by
   have hj:j<args.length:=by rw[s1];exact(bZ.1 e2).1
   obtain⟨x',k1,k2⟩:=s2 j (σ.o args[j]) (by rw[bW,bB hj];rfl);rw[e2]at k1;cases k1;exact ZmW hS k2 (a2 j u _ e1 (bB hj))) f4
  refine(hC.2 w w.mem ρ _ (vA.nil _ _ _) ⟨Le.refl _,hS.uB.mono hS.mem,List.nodup_nil⟩ b1 b2).mono ?_;rintro e w' ⟨v,r,B,bV,m',rfl,⟨y,rfl,hy,hK⟩,_,_,_,_,_,_,rQ,X8⟩;have hx:Ext w w':=cW.ext X8;exact⟨v,.pv y,σ,ρ,m,rfl,hK,hS.ext hx,.pv _ _ (rQ.nG.flat hy),hx⟩
 .obtain⟨m1,G6,hF⟩:=Sat.aM fz hS;have o9:=hF.aV hf;rw[h1]at o9;obtain⟨vf,vc,hv,f1,f2,f3,f4⟩:=Fc o9.nG;rw[E9 ho hc hv hC.1,Oper.uponIn_enter];refine⟨FF.one,Fm ?_⟩;obtain⟨s1,s2⟩:=SP h2;obtain⟨a1,a2⟩:=fX _ ρ m1 hF;obtain⟨b1,b2⟩:=Zo1 (ρ:=ρ) (m:=m1) (va:=c.args.map act.eval) (xs:=xs) f1 (by omega) f2 f3 (fun j u x e1 e2=>by
   have hj:j<args.length:=by rw[s1];exact(bZ.1 e2).1
   obtain⟨x',k1,k2⟩:=s2 j _ (bB hj);rw[e2]at k1;cases k1
   have:=a2 j u _ e1 (bB hj)
   rw[k2]at this;exact this.nG) f4
  refine(hC.2 w m1 ρ _ (vA.nil _ _ _) ⟨hF.mem,hF.uB,List.nodup_nil⟩ b1 b2).mono ?_;rintro e w' ⟨v,r,B,bV,m',rfl,⟨⟨r1,r2⟩,hK⟩,hB,P8,HD,_,xJ,D4,rQ,X8⟩;have hx:Ext w w':=cW.ext X8;obtain⟨oC,k1,k2⟩:=(hF.bG d).ret (qW.bG d _) hx hB r2 P8 HD (fun s b i hs hr=>by
   rcases xJ s b i hs hr with k|k
   .exact k
   .simp[cJ]at k) (fun b o v hv=>by
   rcases D4 b o v hv with k|k|k
   .exact .inl k
   .exact .inr k
   .simp[cJ]at k)
  exact⟨v,_,_,oC,m',rfl,hK,k1,k2 r1 rQ,hx⟩
end
def kA (aE:List Site)(s:Site):Site:=match aE.findIdx? (fun x=>decide (x=s))with
 |some j=>.par j
 |none=>s
def gG (aE:List Site)(d:Nat):Site->Site
 |.par i=>aE.getD i default
 |.ret j=>.loc d j
 |s=>s
def bX (aE:List Site):Site->Bool
 |.par i=>decide (i<aE.length)
 |.ret _=>true
 |_=>false
def oW (σ:AS)(aE:List Site):Nat->List Site->Option (List (Site×aJ))
 |_,[]=>some []
 |i,s::r=>match σ.b s,oW σ aE (i+1) r with
  |some b,some l=>if b.dC (fun x=>aE.contains x)=true then some ((.par i,b.iR (kA aE))::l)else none
  |_,_=>none
def cO:List Site->AS->AS
 |[],σ=>σ
 |s::r,σ=>cO r (σ.drop s)
def eZ (aE:List Site)(d:Nat)(B:List (Site×aJ)):List (Site×aJ):=B.map fun p=>(gG aE d p.1,p.2.iR (gG aE d))
def FQ (P:Program)(f:bA)(args:List bA)(K:AV->AS->Prop)(σ:AS):Prop:=
 ∃(d:Nat) (fz aE:List Site) (g:FuncId) (fs cs:List AV) (B:List (Site×aJ)),
  ((aM fz σ).o f=.fn g fs cs\/∃tF iH,(aM fz σ).o f=.pv (.fn g tF iH)/\fs=tF.map .pv/\cs=iH.map .pv)/\aE.Nodup/\aE.all (fun s=>!s.fP d)=true/\oW (aM fz σ) aE 0 aE=some B/\
  AV.gW (fun x=>aE.contains x) (fs++args.map (aM fz σ).o++cs)=true/\
  cR P g (AV.iM (kA aE) (fs++args.map (aM fz σ).o++cs)) B (fun r B'=>r.dC (bX aE)=true/\(∀p∈B',bX aE p.1=true/\p.2.dC (bX aE)=true)/\
   K (r.map (gG aE d)) (((cO aE (aM fz σ)).bG d).lT (eZ aE d B')))
section
variable {P:Program}{N:Nat}{w0:World}{m0:Env w0}{pl:List Nat}{σ:AS}{ρ:Site->Loc}{m:Mem}{act:Act}{w:World}{o:Oper}{d:Nat}{K:AV->AS->Prop}
theorem Zov:∀(l:List Site) (σ:AS) (s:Site) (b:aJ),(cO l σ).b s=some b->σ.b s=some b/\s∉l
 |[],σ,s,b,h=>⟨h,by simp⟩
 |x::r,σ,s,b,h=>by
  obtain⟨h1,h2⟩:=Zov r _ s b h;rw[AS.JE]at h1;split at h1
  .cases h1
  .rename_i dA;exact⟨h1,by simp[dA,h2]⟩
theorem Zou:∀(l:List Site) (σ:AS),(cO l σ).tm=σ.tm
 |[],σ=>rfl
 |x::r,σ=>by rw[cO,Zou r];rfl
theorem Zl3 {l:List Site}{s:Site}{j:Nat}(h:l.findIdx? (fun x=>decide (x=s))=some j):l[j]?=some s:=by
 obtain⟨hj,h1,_⟩:=JC.1 h;rw[bB hj];simpa using h1
theorem Fv {aE:List Site}{s:Site}(h:s∈aE):∃j,aE.findIdx? (fun x=>decide (x=s))=some j/\aE[j]?=some s:=by
 cases hf:aE.findIdx? (fun x=>decide (x=s))with
 |some j=>exact⟨j,rfl,Zl3 hf⟩
 |none=>
  rw[List.findIdx?_eq_none_iff]at hf
  have:=hf s h
  simp at this
theorem Zdw (σ:AS)(aE:List Site):∀(l:List Site) (i:Nat) (B:List (Site×aJ)),oW σ aE i l=some B->
  (∀s b,B.lookup s=some b->∃j s0 b0,s=.par (i+j)/\l[j]?=some s0/\σ.b s0=some b0/\b=b0.iR (kA aE)/\b0.dC (fun x=>aE.contains x)=true)/\(∀s∈l,∃b,σ.b s=some b)/\(∀s0∈l,∃s b,(s,b)∈B/\∃j,s=.par (i+j)/\l[j]?=some s0)/\(∀p∈B,∃j s0 b0,p.1=.par (i+j)/\l[j]?=some s0/\σ.b s0=some b0/\p.2=b0.iR (kA aE))
 |[],i,B,h=>by
  simp[oW]at h;subst h;exact⟨fun s b h=>by simp[List.lookup]at h,fun s h=>(by cases h),fun s h=>(by cases h),fun p h=>(by cases h)⟩
 |x::r,i,B,h=>by
  unfold oW at h;split at h
  .rename_i b l h1 h2;split at h
   .rename_i eS;cases h;obtain⟨k1,k2,k3,k4⟩:=Zdw σ aE r (i+1) l h2;refine⟨fun s c hs=>?_,fun s hs=>?_,fun s hs=>?_,fun p hp=>?_⟩
    .by_cases e:s=.par i
     .subst e;rw[mT]at hs;cases hs;exact⟨0,x,b,rfl,rfl,h1,rfl,eS⟩
     .rw[jC e]at hs;obtain⟨j,s0,b0,e1,e2,e3⟩:=k1 s c hs;exact⟨j+1,s0,b0,by rw[e1];congr 1;omega,by simpa using e2,e3⟩
    .rcases jN.1 hs with rfl|hs
     .exact⟨b,h1⟩
     .exact k2 s hs
    .rcases jN.1 hs with rfl|hs
     .exact⟨.par i,b.iR (kA aE),by simp,0,rfl,rfl⟩
     .obtain⟨s',b',q1,j,q2,q3⟩:=k3 s hs;exact⟨s',b',by simp[q1],j+1,by rw[q2];congr 1;omega,by simpa using q3⟩
    .rcases jN.1 hp with rfl|hp
     .exact⟨0,x,b,rfl,rfl,h1,rfl⟩
     .obtain⟨j,s0,b0,q1,q2,q3⟩:=k4 p hp;exact⟨j+1,s0,b0,by rw[q1];congr 1;omega,by simpa using q2,q3⟩
   .cases h
  .cases h
theorem ZfH (aE:List Site)(d:Nat):∀(B:List (Site×aJ)) s b,(eZ aE d B).lookup s=some b->∃s0 b0,B.lookup s0=some b0/\(s0,b0)∈B/\s=gG aE d s0/\b=b0.iR (gG aE d)
 |[],s,b,h=>by simp[eZ]at h
 |(s',b')::r,s,b,h=>by
  simp only[eZ,iL]at h;by_cases e:s=gG aE d s'
  .subst e;rw[mT]at h;cases h;exact⟨s',b',mT,by simp,rfl,rfl⟩
  .rw[jC e]at h;obtain⟨s0,b0,h0,h1,h2,h3⟩:=ZfH aE d r s b h;exact⟨s0,b0,by rw[jC (fun e2=>e (by rw[h2,e2]))];exact h0,by simp[h1],h2,h3⟩
theorem Lw {v:Value}{g:FuncId}{fs cs:List AV}(h:bO ρ m v (.fn g fs cs)):∃vf vc:Array Value,v=.func (.func g) vf vc/\vf.size=fs.length/\vc.size=cs.length/\(∀(j:Nat) (d:Value) (c:AV),vf[j]?=some d->fs[j]?=some c->bO ρ m d c)/\(∀(j:Nat) (d:Value) (c:AV),vc[j]?=some d->cs[j]?=some c->bO ρ m d c):=by
 cases h with
 |fn _ vf vc _ _ h0 h1 h2 h3=>exact⟨vf,vc,rfl,h0,h1,h2,h3⟩
theorem ZhT {vf va vc:Array Value}{fs xs cs:List AV}(h1:vf.size=fs.length)(h2:va.size=xs.length)(h3:vc.size=cs.length)(k1:∀(j:Nat) (d:Value) (c:AV),vf[j]?=some d->fs[j]?=some c->bO ρ m d c)
  (k2:∀(j:Nat) (d:Value) (c:AV),va[j]?=some d->xs[j]?=some c->bO ρ m d c) (k3:∀(j:Nat) (d:Value) (c:AV),vc[j]?=some d->cs[j]?=some c->bO ρ m d c):
  (vf++va++vc).size=(fs++xs++cs).length/\∀(j:Nat) (d:Value) (c:AV),(vf++va++vc)[j]?=some d->(fs++xs++cs)[j]?=some c->bO ρ m d c:=by
 refine⟨by simp[h1,h2,h3],fun j d c e1 e3=>?_⟩;rw[Array.getElem?_append,Array.getElem?_append]at e1;rw[yS,yS]at e3;simp only[Array.size_append,gD,h1,h2]at e1 e3;split at e1
 .rename_i c1;rw[if_pos c1]at e3;split at e1
  .rename_i c2;rw[if_pos c2]at e3;exact k1 j d c e1 e3
  .rename_i c2;rw[if_neg c2]at e3;exact k2 _ d c e1 e3
 .rename_i c1;rw[if_neg c1]at e3;exact k3 _ d c e1 e3
theorem Mv {f:bA}{args:List bA}(hl:aZ P o.op=.call f args):∃c fo,o.op=.call c/\c.callee=.value fo/\aV fo=some f/\pJ c.args.toList=some args:=by
 replace hl:=ZfK hl;cases hop:o.op<;>rw[hop]at hl
 case call c=>
  simp only[mX]at hl;split at hl
  all_goals first
   |(rename_i fo hc
     split at hl
     .rename_i e1 e2;cases hl;exact⟨c,fo,rfl,hc,e1,e2⟩
     .cases hl)
   |(exfalso;repeat' (first|(cases hl;done)|split at hl))
 case unOp op t x=>exfalso;cases op<;>simp only[mX]at hl<;>(try split at hl)<;>cases hl
 case makeFunc fn fs cs=>exfalso;cases fn<;>simp only[mX]at hl<;>(try split at hl)<;>cases hl
 case slice t x lo hi mx=>exfalso;cases mx<;>simp only[mX]at hl<;>(try split at hl)<;>cases hl
 all_goals (exfalso;simp only[mX,vO]at hl;repeat' (first|(cases hl;done)|split at hl))
theorem Na {l:List Site}(h:l.Nodup){i j:Nat}{s:Site}(hi:l[i]?=some s)(hj:l[j]?=some s):i=j:=by
 obtain⟨h1,e1⟩:=bZ.1 hi;obtain⟨h2,e2⟩:=bZ.1 hj;have hp:=Q2.1 h;rcases Nat.lt_trichotomy i j with aI|he|aI
 .exact absurd (e1.trans e2.symm) (hp i j h1 h2 aI)
 .exact he
 .exact absurd (e2.trans e1.symm) (hp j i h2 h1 aI)
theorem ZfN {σ:AS}{aE:List Site}:∀(r:List Site) (i:Nat) (B:List (Site×aJ)),oW σ aE i r=some B->B.map (·.1)=(List.range' i r.length).map .par
 |[],i,B,h=>by simp[oW]at h;subst h;rfl
 |s::r,i,B,h=>by
  unfold oW at h;split at h
  .rename_i b l h1 h2;split at h
   .cases h;rw[iL,ZfN r (i+1) l h2];rfl
   .cases h
  .cases h
theorem Np {σ:AS}{aE:List Site}{B:List (Site×aJ)}(h:oW σ aE 0 aE=some B):(B.map (·.1)).Nodup:=by
 rw[ZfN _ _ _ h,DK,List.pairwise_map];exact List.Pairwise.imp (fun h e=>h (by cases e;rfl)) (DK.1 List.nodup_range')
theorem BE {lJ:AS}{m1:Mem}{aE:List Site}{B:List (Site×aJ)}(hF:Sat N w0 m0 pl lJ ρ m1 act w)(pX:aE.Nodup)(sS:aE.all (fun s=>!s.fP d)=true)(hB:oW lJ aE 0 aE=some B):
  ∃oB:Site->Loc,(∀s,aE.contains s=true->oB (kA aE s)=ρ s)/\vA oB m1 w B/\∀(R:AV->List (Site×aJ)->Prop) (e:Ending) (w':World),lE w m1 oB B (fun r B'=>r.dC (bX aE)=true/\(∀p∈B',bX aE p.1=true/\p.2.dC (bX aE)=true)/\R r B') e w'->
   ∃v r B' bV m',e=.returned v/\R r B'/\Sat N w0 m0 pl (((cO aE lJ).bG d).lT (eZ aE d B')) bV m' act w'/\bO bV m' v (r.map (gG aE d))/\∀s,s.fP d=false->bV s=ρ s:=by
 obtain⟨l1,l2,l3,l4⟩:=Zdw lJ aE aE 0 B hB
 let oB:Site->Loc:=fun s=>match s with
  |.par i=>ρ (aE.getD i default)
  |s=>ρ s
 have fU:∀s,aE.contains s=true->oB (kA aE s)=ρ s:=fun s hs=>by
  obtain⟨j,k1,k2⟩:=Fv (show s∈aE by simpa using hs);unfold kA;rw[k1];simp[oB,List.getD,k2]
 have oK:∀s b,B.lookup s=some b->∃j s0 b0,s=.par j/\aE[j]?=some s0/\lJ.b s0=some b0/\b=b0.iR (kA aE)/\b0.dC (fun x=>aE.contains x)=true:=fun s b hs=>by
  obtain⟨j,s0,b0,e1,e2⟩:=l1 s b hs;exact⟨j,s0,b0,by simpa using e1,e2⟩
 have lN:∀j s0,aE[j]?=some s0->oB (.par j)=ρ s0:=fun j s0 hj=>by simp[oB,List.getD,hj]
 have QG:∀j s0,aE[j]?=some s0->kA aE s0=.par j:=fun j s0 hj=>by
  obtain⟨j',k1,k2⟩:=Fv (dK hj);have e:j'=j:=Na pX k2 hj;unfold kA;rw[k1,e]
 have tZ:vA oB m1 w B:=by
  refine⟨fun s b hs=>?_,fun s s' b b' i hs X5 r r'=>?_,fun s b i hs r=>?_⟩
  .obtain⟨j,s0,b0,rfl,e2,e3,rfl,e5⟩:=oK s b hs
   have:=(hF.bx s0 b0 e3).iR fU (by simpa using dK e2) e5
   rwa [QG j s0 e2]at this
  .obtain⟨j,s0,b0,rfl,e2,e3,rfl,_⟩:=oK s b hs;obtain⟨j',OI,VP,rfl,EW,e3',rfl,_⟩:=oK s' b' X5
   have:=hF.dY s0 OI b0 VP i e3 e3' ((uM (lN j s0 e2)).1 r) ((uM (lN j' OI EW)).1 r')
   subst this
   have:j=j':=Na pX e2 EW
   rw[this]
  .obtain⟨j,s0,b0,rfl,e2,e3,rfl,_⟩:=oK s b hs;exact hF.eL s0 b0 i e3 ((uM (lN j s0 e2)).1 r)
 have mO:∀k,k∈cJ oB w B->∃s0 b0,s0∈aE/\lJ.b s0=some b0/\fK ρ w s0 b0 k:=fun k hk=>by
  obtain⟨p,hp,e⟩:=SV.1 hk;obtain⟨j,s0,b0,e1,e2,e3,e4⟩:=l4 p hp;rw[rX]at e1;rw[e1,e4]at e;exact⟨s0,b0,dK e2,e3,(uM (lN j s0 e2)).1 e⟩
 refine⟨oB,fU,tZ,fun R e w' h=>?_⟩;revert h;rintro⟨v,r,B',bV,m',rfl,⟨r1,r2,hK⟩,Vn,P8,HD,LX,xJ,D4,rQ,X8⟩;have hN:=qW.bG d (cO aE lJ)
 let oC:Site->Loc:=fun s=>match s with
  |.loc e j=>if e=d then bV (.ret j)else ρ s
  |s=>ρ s
 have e1:∀s,s.fP d=false->oC s=ρ s:=fun s hs=>by
  cases s with
  |loc e j=>
   have:¬e=d:=fun h=>by subst h;simp[Site.fP]at hs
   simp[oC,this]
  |_=>rfl
 have QA:∀s∈aE,s.fP d=false:=fun s hs=>by
  have:=rC.1 sS s hs
  simpa using this
 have e2:∀s,bX aE s=true->oC (gG aE d s)=bV s:=fun s hs=>by
  cases s with
  |par i=>
   simp only[bX,decide_eq_true_eq]at hs;have hg:=bB hs
   have:gG aE d (.par i)=aE[i]:=by simp[gG,List.getD,hg]
   rw[this,e1 _ (QA _ (zX hs)),LX i,lN i _ hg]
  |ret j=>simp[oC,gG]
  |loc e j=>cases hs
 have bT:∀s b,((cO aE lJ).bG d).b s=some b->s.fP d=false/\s∉aE/\∃b0,lJ.b s=some b0/\b=b0.bG d:=fun s b k=>by
  rw[AS.NO]at k;split at k
  .cases k
  .rename_i pX;obtain⟨b0,k1,rfl⟩:=dZ.1 k;obtain⟨k2,k3⟩:=Zov aE lJ s b0 k1;exact⟨by simpa using pX,k3,b0,k2,rfl⟩
 have look:∀s b,(((cO aE lJ).bG d).lT (eZ aE d B')).b s=some b->(∃s0 b0,B'.lookup s0=some b0/\bX aE s0=true/\b0.dC (bX aE)=true/\s=gG aE d s0/\b=b0.iR (gG aE d))\/(((cO aE lJ).bG d).b s=some b):=fun s b k=>by
  have k':(eZ aE d B'++((cO aE lJ).bG d).bx).lookup s=some b:=k;rw[ZeD]at k';cases hl:(eZ aE d B').lookup s with
  |some c=>
   rw[hl]at k';simp at k';subst k';obtain⟨s0,b0,k1,k2,k3,k4⟩:=ZfH aE d B' s c hl;exact .inl ⟨s0,b0,k1,(r2 _ k2).1,(r2 _ k2).2,k3,k4⟩
  |none=>
   rw[hl]at k';simp at k';exact .inr k'
 have uQ:∀s b0 k,s∉aE->lJ.b s=some b0->fK ρ w s b0 k->k∉cJ oB w B:=fun s b0 k hs hb hr hk=>by
  obtain⟨s0,VP,k1,k2,k3⟩:=mO _ hk
  have:=hF.dY s0 s VP b0 k k2 hb k3 hr
  subst this;exact hs k1
 have stay:∀s b0,s∉aE->lJ.b s=some b0->∀k,fK ρ w s b0 k->w'.heap[k]?=w.heap[k]?:=fun s b0 hs hb k hr=>X8.block k (hF.G1 hb hr) (uQ s b0 k hs hb hr)
 have back:∀s b0,s.fP d=false->s∉aE->lJ.b s=some b0->∀k,fK oC w' s (b0.bG d) k->fK ρ w s b0 k:=fun s b0 h1 hs hb k hr=>
  ((hF.bx s b0 hb).dS (fun r=>stay s b0 hs hb _ (xN r))).1 (JS.1 ((Q5 (e1 s h1)).1 hr))
 have Ss:∃ds:List Nat,Ib m0.rest ds act.defers/\Nod m0.strict ds/\∀D∈ds,(w0.heap.size<=D\/D∈pl)/\w'.heap[D]?=some (.deferred (some [])):=by
  obtain⟨ds,g1,g0,g2⟩:=hF.sE;refine⟨ds,g1,g0,fun D hD=>⟨(g2 D hD).1,?_⟩⟩;obtain⟨g3,g4⟩:=g2 D hD;rw[X8.block D (qE.1 g4).1 (fun q=>by
   obtain⟨s1,b1,q1,q2,q3⟩:=mO _ q;exact(hF.bx s1 b1 q2).Wy q3 g4)]
  exact g4
 have OP:∀s0 b0 k,B'.lookup s0=some b0->fK bV w' s0 b0 k->w.heap.size<=k\/k∈cJ oB w B:=xJ;refine⟨v,r,B',oC,m',rfl,hK,⟨Ss,hF.sz,fun t a k=>?_,fun s b k=>?_,fun s s' b b' i k k' rr KX=>?_,HD,fun s b i k rr=>?_,fun s b i k rr=>?_,?_,hF.base.trans P8,fun b o' v' Ro=>?_,fun i=>hF.par i⟩,rQ.map e2 r1,e1⟩
 .have k':((cO aE lJ).bG d).t t=some a:=k;have mM:=hN.t t a k';rw[AS.Kq]at k';obtain⟨a0,k1,rfl⟩:=dZ.1 k';have k2:lJ.t t=some a0:=by
   unfold AS.t at k1 ⊢;rw[Zou]at k1;exact k1
  obtain⟨u,k3,k4⟩:=hF.tm t a0 k2;refine⟨u,k3,?_⟩;have k5:bO ρ m1 u (a0.bG d):=by
   unfold AV.bG;split
   .exact .any u
   .exact k4
  exact k5.mono P8 e1 mM
 .rcases look s b k with⟨s0,b0,k1,k2,k3,rfl,rfl⟩|k1
  .exact(Vn.bx s0 b0 k1).iR e2 k2 k3
  .obtain⟨k2,k3,b0,k4,rfl⟩:=bT s b k1;exact((hF.bx s b0 k4).bG d).stay P8 e1 k2 (aJ.Ex d b0) (fun i hr=>stay s b0 k3 k4 i (JS.1 hr))
 .rcases look s b k with⟨s0,b0,k1,k2,k3,rfl,rfl⟩|k1<;>rcases look s' b' k' with⟨OI,VP,C0,ZS,k3',rfl,rfl⟩|C0
  .rw[Vn.dY s0 OI b0 VP i k1 C0 ((uM (e2 s0 k2)).1 rr) ((uM (e2 OI ZS)).1 KX)]
  .obtain⟨h2,h3,c0,h4,rfl⟩:=bT s' b' C0;have r2':=back s' c0 h2 h3 h4 i KX;rcases OP s0 b0 i k1 ((uM (e2 s0 k2)).1 rr)with q|q
   .have:=hF.G1 h4 r2';omega
   .exact absurd q (uQ s' c0 i h3 h4 r2')
  .obtain⟨h2,h3,c0,h4,rfl⟩:=bT s b k1;have r2:=back s c0 h2 h3 h4 i rr;rcases OP OI VP i C0 ((uM (e2 OI ZS)).1 KX)with q|q
   .have:=hF.G1 h4 r2;omega
   .exact absurd q (uQ s c0 i h3 h4 r2)
  .obtain⟨h2,h3,c0,h4,rfl⟩:=bT s b k1;obtain⟨uA,h3',c0',RJ,rfl⟩:=bT s' b' C0;exact hF.dY s s' c0 c0' i h4 RJ (back s c0 h2 h3 h4 i rr) (back s' c0' uA h3' RJ i KX)
 .rcases look s b k with⟨s0,b0,k1,k2,k3,rfl,rfl⟩|k1
  .exact Vn.eL s0 b0 i k1 ((uM (e2 s0 k2)).1 rr)
  .obtain⟨h2,h3,c0,h4,rfl⟩:=bT s b k1;have r2:=back s c0 h2 h3 h4 i rr;intro o';cases hx:m' i o' with
   |none=>rfl
   |some u=>
    rcases D4 _ _ _ hx with q|q|q
    .rw[hF.eL s c0 i h4 r2 o']at q;cases q
    .have:=hF.G1 h4 r2;omega
    .exact absurd q (uQ s c0 i h3 h4 r2)
 .rcases look s b k with⟨s0,b0,k1,k2,k3,rfl,rfl⟩|k1
  .rcases OP s0 b0 i k1 ((uM (e2 s0 k2)).1 rr)with q|q
   .exact .inl (lC hF.keep.size q)
   .obtain⟨s1,b1,q1,q2,q3⟩:=mO _ q;exact hF.fL s1 b1 i q2 q3
  .obtain⟨h2,h3,c0,h4,rfl⟩:=bT s b k1;exact hF.fL s c0 i h4 (back s c0 h2 h3 h4 i rr)
 .refine⟨X8.os.trans hF.keep.os,X8.tape.trans hF.keep.tape,X8.output.trans hF.keep.output,lC hF.keep.size X8.size,fun k hk hn=>?_⟩;refine(X8.block k (Nat.lt_of_lt_of_le hk hF.keep.size) (fun q=>?_)).trans (hF.keep.block k hk hn);obtain⟨s1,b1,q1,q2,q3⟩:=mO _ q;rcases hF.fL s1 b1 k q2 q3 with h'|h'
  .omega
  .exact hn h'
 .rcases D4 _ _ _ Ro with q|q|q
  .exact hF.qC _ _ _ q
  .exact .inr (.inl (lC hF.keep.size q))
  .obtain⟨s1,b1,q1,q2,q3⟩:=mO _ q;rcases hF.fL s1 b1 _ q2 q3 with h'|h'
   .exact .inr (.inl h')
   .exact .inr (.inr h')
theorem ZqW {ro:Option Nat}{f:bA}{args:List bA}(hl:aZ P o.op=.call f args)(h:FQ P f args K σ)(hS:Sat N w0 m0 pl σ ρ m act w){Q:Exit->Act->World->Prop} :
  o.wpIn (FF ro) 1 P act w (fun bE w'=>∃v a τ bV m',bE=act.put o.dst v/\K a τ/\Sat N w0 m0 pl τ bV m' act w'/\bO bV m' v a) Q:=by
 obtain⟨c,fo,ho,hc,hf,ha⟩:=Mv hl;obtain⟨d,fz,aE,g,fs,cs,B,qA,pX,sS,hB,eS,hC⟩:=h;obtain⟨m1,_,hF⟩:=hS.aM fz;generalize aM fz σ=lJ at qA hB eS hC hF;obtain⟨q1,q2⟩:=KD ha;obtain⟨oB,fU,tZ,yE⟩:=BE hF pX sS hB;have o9:∃vf vc:Array Value,act.eval fo=.func (.func g) vf vc/\vf.size=fs.length/\vc.size=cs.length/\(∀(j:Nat) (d:Value) (c:AV),vf[j]?=some d->fs[j]?=some c->bO ρ m1 d c)/\(∀(j:Nat) (d:Value) (c:AV),vc[j]?=some d->cs[j]?=some c->bO ρ m1 d c):=by
  have h1:=hF.aV hf;rcases qA with qA|⟨tF,iH,qA,rfl,rfl⟩
  .rw[qA]at h1;exact Lw h1
  .rw[qA]at h1;obtain⟨vf,vc,e1,e2,e3,e4,e5⟩:=Fc h1.nG;refine⟨vf,vc,e1,by simpa using e2,by simpa using e3,fun j d c k1 k2=>?_,fun j d c k1 k2=>?_⟩
   .rw[bW]at k2;obtain⟨x,k3,rfl⟩:=dZ.1 k2;exact .pv _ _ (e4 j d x k1 k3)
   .rw[bW]at k2;obtain⟨x,k3,rfl⟩:=dZ.1 k2;exact .pv _ _ (e5 j d x k1 k3)
 obtain⟨vf,vc,hv,f1,f2,f3,f4⟩:=o9;have fH:(c.args.map act.eval).size=(args.map lJ.o).length:=by simp;simpa using q1
 obtain⟨b1,b2⟩:=ZhT (ρ:=ρ) (m:=m1) (va:=c.args.map act.eval) (xs:=args.map lJ.o) f1 fH f2 f3 (fun j u y hu hy=>by
  rw[Array.getElem?_map]at hu;obtain⟨x,k1,rfl⟩:=dZ.1 hu;obtain⟨y',k2,k3⟩:=q2 j x (by simpa using k1);rw[bW,k2]at hy;cases hy;exact hF.aV k3) f4
 unfold Oper.wpIn;refine⟨fun _ _=>trivial,?_⟩;rw[Oper.semAt_eq _ _ _ (fun c' e=>by rw[ho]at e;cases e),E9 ho hc hv hC.1,Oper.uponIn_enter];refine⟨FF.one,Fm ?_⟩;refine(hC.2 w m1 oB _ tZ ⟨hF.mem,hF.uB,Np hB⟩ (by rw[JZ];exact b1) (fun j u y hu hy=>by
  rw[JY]at hy;obtain⟨a,k1,rfl⟩:=dZ.1 hy;exact(b2 j u a hu k1).map fU (V3 eS k1))).mono ?_
 intro e w' h;obtain⟨v,r,B',bV,m',rfl,hK,k1,k2,_⟩:=yE (fun r B'=>K (r.map (gG aE d)) (((cO aE lJ).bG d).lT (eZ aE d B'))) e w' h;exact⟨v,_,_,bV,m',rfl,hK,k1,k2⟩
end
def FL (P:Program)(i:Nat)(bS:List AV)(B:List (Site×aJ))(nX:AV->List (Site×aJ)->Prop):Prop:=
 ∀(w:World) (m:Mem) (ρ:Site->Loc) (vs:Array Value),vA ρ m w B->(Le m w.mem/\nI m w/\(B.map (·.1)).Nodup)->vs.size=bS.length->(∀(j:Nat) (d:Value) (c:AV),vs[j]?=some d->bS[j]?=some c->bO ρ m d c)->
  ∃r,w.heap[(ρ (.par i)).b]?=some (.loop r)/\vs.size=r.params.size/\RoundIn (FF none) 0 P (ρ (.par i)).b r.fn ((r.params.zip vs).foldl (fun tmps (t,a)=>tmps.setIfInBounds t a) r.tmps) r.assign r.body w (lE w m ρ B nX)
def FP (P:Program)(f:bA)(args:List bA)(K:AV->AS->Prop)(σ:AS):Prop:=
 ∃(d:Nat) (fz aE:List Site) (s:Site) (i:Nat) (B:List (Site×aJ)),(aM fz σ).o f=.nJ s/\aE[i]?=some s/\aE.Nodup/\aE.all (fun s=>!s.fP d)=true/\oW (aM fz σ) aE 0 aE=some B/\
  AV.gW (fun x=>aE.contains x) (args.map (aM fz σ).o)=true/\
  FL P i (AV.iM (kA aE) (args.map (aM fz σ).o)) B (fun r B'=>r.dC (bX aE)=true/\(∀p∈B',bX aE p.1=true/\p.2.dC (bX aE)=true)/\
   K (r.map (gG aE d)) (((cO aE (aM fz σ)).bG d).lT (eZ aE d B')))
theorem ZsO {ro:Option Nat}{n:Nat}{P:Program}{l:Nat}{f:FuncId}{tmps:Array Value}{a b:Code}{w:World}{R:Ending->World->Prop}(h:RoundIn (FF none) n P l f tmps a b w R):RoundIn (FF ro) n P l f tmps a b w R:=h
section
variable {P:Program}{N:Nat}{w0:World}{m0:Env w0}{pl:List Nat}{σ:AS}{ρ:Site->Loc}{m:Mem}{act:Act}{w:World}{o:Oper}{d:Nat}{K:AV->AS->Prop}
theorem Zr3 {v:Value}{s:Site}(h:bO ρ m v (.nJ s)):v=.func (.yield (ρ s).b) #[] #[]:=by cases h;rfl
theorem FY {c:Call}{fo:Operand}(ho:o.op=.call c)(hc:c.callee=.value fo){l:Nat}(hv:act.eval fo=.func (.yield l) #[] #[]){r:Loop}(hr:w.heap[l]?=some (.loop r))(hs:(c.args.map act.eval).size=r.params.size):
  (execOp act.eval o).run P w=.ok (.round l r.fn ((r.params.zip (c.args.map act.eval)).foldl (fun tmps (t,a)=>tmps.setIfInBounds t a) r.tmps) r.assign r.body) w:=by
 have:=run_yield (P:=P) hr hs
 unfold execOp;simp only[ho];simp[resolve,hc,hv,Deferred.ofValue,invoke,this]
theorem ZqV {ro:Option Nat}{f:bA}{args:List bA}(hl:aZ P o.op=.call f args)(h:FP P f args K σ)(hS:Sat N w0 m0 pl σ ρ m act w){Q:Exit->Act->World->Prop} :
  o.wpIn (FF ro) 1 P act w (fun bE w'=>∃v a τ bV m',bE=act.put o.dst v/\K a τ/\Sat N w0 m0 pl τ bV m' act w'/\bO bV m' v a) Q:=by
 obtain⟨c,fo,ho,hc,hf,ha⟩:=Mv hl;obtain⟨d,fz,aE,s,i,B,qA,hi,pX,sS,hB,eS,hC⟩:=h;obtain⟨m1,_,hF⟩:=hS.aM fz;generalize aM fz σ=lJ at qA hB eS hC hF;obtain⟨q1,q2⟩:=KD ha;obtain⟨oB,fU,tZ,yE⟩:=BE hF pX sS hB;have hv:act.eval fo=.func (.yield (ρ s).b) #[] #[]:=by
  have:=hF.aV hf
  rw[qA]at this;exact Zr3 this
 have lN:oB (.par i)=ρ s:=by
  have h1:=fU s (by simpa using dK hi);have h2:kA aE s=.par i:=by
   obtain⟨j',k1,k2⟩:=Fv (dK hi);have e:j'=i:=Na pX k2 hi;unfold kA;rw[k1,e]
  rw[h2]at h1;exact h1
 have fH:(c.args.map act.eval).size=(args.map lJ.o).length:=by simp;simpa using q1
 have lG:∀(j:Nat) (u:Value) (y:AV),(c.args.map act.eval)[j]?=some u->(args.map lJ.o)[j]?=some y->bO ρ m1 u y:=fun j u y hu hy=>by
  rw[Array.getElem?_map]at hu;obtain⟨x,k1,rfl⟩:=dZ.1 hu;obtain⟨y',k2,k3⟩:=q2 j x (by simpa using k1);rw[bW,k2]at hy;cases hy;exact hF.aV k3
 obtain⟨r,hr,yD,hR⟩:=hC w m1 oB (c.args.map act.eval) tZ ⟨hF.mem,hF.uB,Np hB⟩ (by rw[JZ];exact fH) (fun j u y hu hy=>by
  rw[JY]at hy;obtain⟨a,k1,rfl⟩:=dZ.1 hy;exact(lG j u a hu k1).map fU (V3 eS k1))
 rw[lN]at hr hR;unfold Oper.wpIn;refine⟨fun _ _=>trivial,?_⟩;rw[Oper.semAt_eq _ _ _ (fun c' e=>by rw[ho]at e;cases e),FY ho hc hv hr yD,Oper.uponIn_round];refine⟨FF.one,ZsO (hR.mono ?_)⟩;intro e w' h;obtain⟨v,r,B',bV,m',rfl,hK,k1,k2,_⟩:=yE (fun r B'=>K (r.map (gG aE d)) (((cO aE lJ).bG d).lT (eZ aE d B'))) e w' h;exact⟨v,_,_,bV,m',rfl,hK,k1,k2⟩
end
structure LO where
 dst:Option Nat
 g:Option (Nat×Bool)
 op:lU
 lt:Bool
 deriving Inhabited
def AS.oV (d:Option Nat)(a:AV)(σ:AS):AS:=match d with
 |some d=>σ.put d a
 |none=>σ
def lV (P:Program)(o:LO)(K:AV->AS->Prop)(σ:AS):Prop:=match o.op with
 |.call f args=>yV P f args (o.dst.getD 0) K σ\/(o.lt=true/\(FQ P f args K σ\/FP P f args K σ))
 |l=>bY l (o.dst.getD 0) K σ
def A3:AV:=.pv (.bL [])
def pM (P:Program)(o:LO)(K:AS->Prop)(σ:AS):Prop:=match o.g with
 |none=>lV P o (fun a τ=>K (τ.oV o.dst a)) σ
 |some (t,want)=>match σ.t t with
  |some (.pv (.bool b))=>if b=want then lV P o (fun a τ=>K (τ.oV o.dst a)) σ else K (σ.oV o.dst A3)
  |some (.pv (.bL []))=>K (σ.oV o.dst A3)
  |_=>False
def oH (P:Program):List LO->(AS->Prop)->AS->Prop
 |[],K,σ=>K σ
 |o::r,K,σ=>pM P o (oH P r K) σ
def RO (ops:Array Oper)(t:Nat):Bool:=ops.any fun o=>(o.dst==some t)&&(match o.op with
 |.buildSlice _ 0 _=>true
 |_=>false)
def sW (ops:Array Oper)(l:lU):lU:=match l with
 |.app e n b (.t k) y=>if RO ops k=true then .jA e n b (.t k) y else .app e n b (.t k) y
 |.app e n b (.c x) y=>match x with
  |.emp nl=>.jA e n b (.c (.emp nl)) y
  |x=>.app e n b (.c x) y
 |l=>l
def lU.JF:lU->Bool
 |.jA _ _ _ _ _=>true
 |_=>false
theorem Ni {ops:Array Oper}{l:lU}:(sW ops l=l/\(∀e n b x y,l=.app e n b x y->True))\/∃e n b x y,l=.app e n b x y/\sW ops l=.jA e n b x y:=by
 cases l with
 |app e n b x y=>
  cases x with
  |t k=>
   unfold sW;dsimp only;split
   .exact .inr ⟨e,n,b,.t k,y,rfl,rfl⟩
   .exact .inl ⟨rfl,fun _ _ _ _ _ _=>trivial⟩
  |c x=>
   cases x with
   |emp nl=>exact .inr ⟨e,n,b,_,y,rfl,rfl⟩
   |_=>exact .inl ⟨rfl,fun _ _ _ _ _ _=>trivial⟩
 |_=>exact .inl ⟨rfl,fun _ _ _ _ _ _=>trivial⟩
def MW (N:Nat):Option Nat->Bool
 |some d=>decide (d<N)
 |none=>true
def qM (P:Program)(N:Nat)(ops:Array Oper)(lt:Bool)(o:Oper):Option LO:=
 if MW N o.dst=true then
  match o.guard with
  |none=>some ⟨o.dst,none,sW ops (aZ P o.op),lt⟩
  |some (j,want)=>match(ops[j]?).bind (·.dst)with
   |some t=>some ⟨o.dst,some (t,want),sW ops (aZ P o.op),lt⟩
   |none=>none
 else none
def kW (P:Program)(N:Nat)(ops:Array Oper):List (Bool×Oper)->Option (List LO)
 |[]=>some []
 |(lt,o)::r=>match qM P N ops lt o,kW P N ops r with
  |some a,some l=>some (a::l)
  |_,_=>none
def lU.NH:lU->Bool
 |.call _ _=>true
 |_=>false
def xO (P:Program)(o:Oper):Bool:=(aZ P o.op).still
def Cs (P:Program)(f:FuncId):Bool:=match P.funcs[f]? with
 |some fn=>fn.params.toList.any fun t=>match P.underlying t with
  |some (.pointer _)=>true
  |_=>false
 |none=>false
def Cq (P:Program)(ops:Array Oper):lU->Bool
 |.call (.c (.fn f _ _)) _=>Cs P f
 |.call (.t _) [.t k]=>ops.any fun o=>o.dst==some k&&(match aZ P o.op with
  |.build _ _=>true
  |_=>false)
 |_=>false
def B8 (P:Program)(ops:Array Oper)(j:Nat):Bool:=(match ops[j]? with
 |some o=>Cq P ops (aZ P o.op)
 |none=>false)||(List.range ops.size).all fun i=>match ops[i]? with
 |some o=>!(aZ P o.op).FE||waits .any ops ops.size j i
 |none=>true
def Q6 (P:Program)(ops:Array Oper)(j:Nat)(o:Oper):Bool:=o.op.vP||((aZ P o.op).NH&&!B8 P ops j)||(sW ops (aZ P o.op)).JF||(aZ P o.op).still
def Lv (P:Program)(ops:Array Oper):Nat->Array Bool->List (Nat×Bool)
 |0,_=>[]
 |f+1,listed=>
  match(Region.ready .any ops listed).find? fun i=>match ops[i]? with
    |some o=>xO P o
    |none=>false with
  |some i=>(i,false)::Lv P ops f (listed.setIfInBounds i true)
  |none=>match(Region.ready .any ops listed).find? fun i=>match ops[i]? with
    |some o=>(aZ P o.op).FE&&(List.range ops.size).all fun j=>listed.getD j true||j==i||iQ (Q6 P ops) ops j||waits .any ops ops.size j i
    |none=>false with
   |some i=>(i,false)::Lv P ops f (listed.setIfInBounds i true)
   |none=>match Region.ready .any ops listed with
    |i::_=>(i,true)::Lv P ops f (listed.setIfInBounds i true)
    |[]=>[]
def rN (P:Program)(ops:Array Oper):List (Nat×Bool)->Bool
 |[]=>true
 |(i,false)::r=>(match ops[i]? with
   |some o=>xO P o||(aZ P o.op).FE
   |none=>false)&&rN P ops r
 |(i,true)::r=>(match ops[i]? with
   |some _=>true
   |none=>false)&&rN P ops r
def BD (P:Program)(N:Nat)(ops:Array Oper)(draw:Bool):Option (List LO):=
 if draw=true then
  let l:=Lv P ops ops.size (Array.replicate ops.size false)
  if Region.noSelect ops&&FM ops&&decide (l.length=ops.size)&&J0 .any ops (Q6 P ops) (xO P) l (Array.replicate ops.size false)&&rN P ops l=true then
   kW P N ops (l.map fun p=>(B8 P ops p.1,ops.getD p.1 default))
  else none
 else kW P N ops (ops.toList.map fun o=>(true,o))
section
variable {P:Program}{N:Nat}{w0:World}{m0:Env w0}{pl:List Nat}{σ:AS}{ρ:Site->Loc}{m:Mem}{act:Act}{w:World}{o:Oper}{lo:LO}{K:AS->Prop}{ops:Array Oper}{Q:Exit->Act->World->Prop}{ro:Option Nat}
theorem DX {lt:Bool}(h:qM P N ops lt o=some lo):lo.lt=lt/\lo.dst=o.dst/\lo.op=sW ops (aZ P o.op)/\(∀d,o.dst=some d->d<N)/\((o.guard=none/\lo.g=none)\/∃j want t,o.guard=some (j,want)/\lo.g=some (t,want)/\(ops[j]?).bind (·.dst)=some t):=by
 unfold qM at h;split at h
 .rename_i hd;have HY:∀d,o.dst=some d->d<N:=fun d e=>by rw[e]at hd;simpa[MW]using hd
  split at h
  .rename_i hg;cases h;exact⟨rfl,rfl,rfl,HY,.inl ⟨hg,rfl⟩⟩
  .rename_i j want hg;split at h
   .rename_i t ht;cases h;exact⟨rfl,rfl,rfl,HY,.inr ⟨j,want,t,hg,rfl,ht⟩⟩
   .cases h
 .cases h
theorem Sat.oV (h:Sat N w0 m0 pl σ ρ m act w){d:Option Nat}(hd:∀k,d=some k->k<N){v:Value}{a:AV}(hv:bO ρ m v a):Sat N w0 m0 pl (σ.oV d a) ρ m (act.put d v) w:=by
 cases d with
 |none=>exact h
 |some d=>exact h.put (hd d rfl) hv
theorem WC {ρ:Site->Loc}{m:Mem}:bO ρ m undef A3:=.pv _ _ (.bL _ _ rfl (fun j d c e1 e2=>by simp at e2))
theorem Gr {lt:Bool}(hl:qM P N ops lt o=some lo)(h:pM P lo K σ)(hS:Sat N w0 m0 pl σ ρ m act w):
  (Region.wanted o (yielded ops act.tmps)=true/\lV P lo (fun a τ=>K (τ.oV o.dst a)) σ)\/(Region.wanted o (yielded ops act.tmps)=false/\K (σ.oV o.dst A3)):=by
 obtain⟨e0,e1,e2,e3,e4⟩:=DX hl;unfold pM at h;rcases e4 with⟨hg,UY⟩|⟨j,want,t,hg,UY,ht⟩
 .rw[UY]at h;refine .inl ⟨by simp[Region.wanted,hg],?_⟩;rw[<-e1];exact h
 .rw[UY]at h;simp only at h;split at h
  .rename_i b hb;obtain⟨v,k1,k2⟩:=hS.tm t _ hb;have hv:=k2.NL;subst hv;have hy:yielded ops act.tmps j=some b:=by unfold yielded;rw[ht];simp[k1]
   have hw:Region.wanted o (yielded ops act.tmps)=decide (b=want):=by
    simp only[Region.wanted,hg,hy];cases b<;>cases want<;>rfl
   split at h
   .rename_i Ch;exact .inl ⟨by rw[hw];simpa using Ch,by rw[<-e1];exact h⟩
   .rename_i Ch;exact .inr ⟨by rw[hw];simpa using Ch,by rw[<-e1];exact h⟩
  .rename_i hb;obtain⟨v,k1,k2⟩:=hS.tm t _ hb;obtain⟨us,hv,hl,_⟩:=k2.Zw3;subst hv;have hy:yielded ops act.tmps j=none:=by unfold yielded;rw[ht];simp[k1]
   exact .inr ⟨by simp only[Region.wanted,hg,hy];rfl,by rw[<-e1];exact h⟩
  .exact h.elim
def F8 (N:Nat)(w0:World)(m0:Env w0)(pl:List Nat)(K:AS->Prop)(act:Act)(w:World):Prop:=∃τ ρ m,K τ/\Sat N w0 m0 pl τ ρ m act w
theorem Zut {lt:Bool}(hl:qM P N ops lt o=some lo){K':AV->AS->Prop}(h:lV P lo K' σ)(hS:Sat N w0 m0 pl σ ρ m act w):
  o.wpIn (FF ro) 1 P act w (fun bE w'=>∃v a τ bV m',bE=act.put o.dst v/\K' a τ/\Sat N w0 m0 pl τ bV m' act w'/\bO bV m' v a/\(o.op.vP=true\/((aZ P o.op).NH=true/\lt=false)\/(sW ops (aZ P o.op)).JF=true->Ext w w')) Q:=by
 obtain⟨e0,e1,e2,e3,e4⟩:=DX hl;unfold lV at h;rw[e2,e1]at h;have N3:∀c,o.op≠.defer c:=fun c e=>by
  rw[e]at h;exact h.elim
 rcases Ni (ops:=ops) (l:=aZ P o.op)with⟨mI,_⟩|⟨e,n,b,x,y,G9,mI⟩
 .rw[mI]at h ⊢;split at h
  .rename_i f args hc;have Ax:o.op.vP=false:=by
    obtain⟨c,fo,ho,_⟩:=Mv hc;rw[ho];rfl
   have xF:(aZ P o.op).JF=false:=by rw[hc];rfl
   rcases h with h|⟨aI,h⟩
   .exact Oper.wpIn_mono (fun bE w' ⟨v,a,τ,bV,m',k1,k2,k3,k4,k5⟩=>⟨v,a,τ,bV,m',k1,k2,k3,k4,fun _=>k5⟩) (ZtY hc h hS)
   .refine Oper.wpIn_mono (fun bE w' ⟨v,a,τ,bV,m',k1,k2,k3,k4⟩=>⟨v,a,τ,bV,m',k1,k2,k3,k4,fun h=>?_⟩) (h.elim (fun h=>ZqW hc h hS) (fun h=>ZqV hc h hS));rcases h with h|⟨_,h⟩|h
    .rw[Ax]at h;cases h
    .rw[e0]at aI;rw[aI]at h;cases h
    .rw[hc]at xF h;rw[xF]at h;cases h
  .rename_i hc;have M1:(aZ P o.op).NH=false:=by
    cases hx:aZ P o.op<;>first|rfl|(exact absurd hx (hc _ _))
   have xF:(aZ P o.op).JF=false:=by
    cases hx:aZ P o.op<;>first|rfl|(exfalso;replace hx:=ZlY hx (fun _ e=>by cases e);clear h hS hl e2 hc M1 mI;cases hop:o.op<;>rw[hop]at hx<;>(try rename_i op t x;try cases op)<;>(try rename_i fn fs cs;try cases fn)<;>simp only[mX,vO]at hx<;>repeat' (first|(cases hx;done)|split at hx))
   obtain⟨v,w',a,τ,bV,m',k1,k2,k3,k4,k5⟩:=ZpV (fun f l e=>hc f l e) h hS;have Bv:o.op.vP=true\/((aZ P o.op).NH=true/\lt=false)\/(aZ P o.op).JF=true->Ext w w':=fun h=>by
    rcases h with h|⟨h,_⟩|h
    .exact k5 h
    .rw[M1]at h;cases h
    .rw[xF]at h;cases h
   unfold Oper.wpIn;refine⟨fun _ _=>trivial,?_⟩;rw[Oper.semAt_eq _ _ _ N3];rcases k1 with k1|⟨k1,rfl⟩
   .rw[k1,Oper.uponIn_value];exact⟨v,a,τ,bV,m',rfl,k2,k3,k4,Bv⟩
   .rw[k1,Oper.uponIn_skip];exact⟨undef,a,τ,bV,m',rfl,k2,k3,k4,Bv⟩
 .rw[mI]at h ⊢;have hE:(∃nl,σ.o x=.pv (.emp nl))/\bY (aZ P o.op) (o.dst.getD 0) K' σ:=by
   rw[G9];simp only[bY]at h ⊢;split at h
   .split at h
    .rename_i nl ex;exact⟨⟨nl,ex⟩,by rw[ex];exact h⟩
    .exact h.elim
   .exact h.elim
  obtain⟨v,w',a,τ,bV,m',k1,k2,k3,k4,k5⟩:=Zs6 G9 hE.2 hS;unfold Oper.wpIn;refine⟨fun _ _=>trivial,?_⟩;rw[Oper.semAt_eq _ _ _ N3];rcases k1 with k1|⟨k1,rfl⟩
  .rw[k1,Oper.uponIn_value];exact⟨v,a,τ,bV,m',rfl,k2,k3,k4,fun _=>k5 hE.1⟩
  .rw[k1,Oper.uponIn_skip];exact⟨undef,a,τ,bV,m',rfl,k2,k3,k4,fun _=>k5 hE.1⟩
theorem Lo {lt:Bool}(hl:qM P N ops lt o=some lo)(h:lV P lo (fun a τ=>K (τ.oV o.dst a)) σ)(hS:Sat N w0 m0 pl σ ρ m act w):
  o.wpIn (FF ro) 1 P act w (fun bE w'=>F8 N w0 m0 pl K bE w'/\(o.op.vP=true\/((aZ P o.op).NH=true/\lt=false)\/(sW ops (aZ P o.op)).JF=true->Ext w w')) Q:=by
 refine Oper.wpIn_mono (fun bE w' ⟨v,a,τ,bV,m',k1,k2,k3,k4,k5⟩=>?_) (Zut hl h hS);subst k1;exact⟨⟨_,bV,m',k2,k3.oV (DX hl).2.2.2.1 k4⟩,k5⟩
theorem ZfJ {rest:List Oper}{lt:Bool}(hl:qM P N ops lt o=some lo)(h:pM P lo K σ)(hS:Sat N w0 m0 pl σ ρ m act w)(hr:∀bE w',F8 N w0 m0 pl K bE w'->wpListIn (FF ro) 1 P ops Q rest bE w'):wpListIn (FF ro) 1 P ops Q (o::rest) act w:=by
 unfold wpListIn;rcases Gr hl h hS with⟨h1,h2⟩|⟨h1,h2⟩
 .rw[if_pos h1];exact Oper.wpIn_mono (fun bE w' k=>hr bE w' k.1) (Lo hl h2 hS)
 .rw[if_neg (by rw[h1];simp)];exact⟨fun _ _=>trivial,hr _ _ ⟨_,ρ,m,h2,hS.oV (DX hl).2.2.2.1 WC⟩⟩
theorem Zgv:∀(l:List Oper) (qL:List LO) {σ:AS} {ρ:Site->Loc} {m:Mem} {act:Act} {w:World},kW P N ops (l.map fun o=>(true,o))=some qL->oH P qL K σ->Sat N w0 m0 pl σ ρ m act w->(∀bE w',F8 N w0 m0 pl K bE w'->Q .normal bE w')->wpListIn (FF ro) 1 P ops Q l act w
 |[],qL,σ,ρ,m,act,w,hl,h,hS,hQ=>by
  simp[kW]at hl;subst hl;exact hQ _ _ ⟨σ,ρ,m,h,hS⟩
 |o::r,qL,σ,ρ,m,act,w,hl,h,hS,hQ=>by
  rw[iL]at hl;unfold kW at hl;split at hl
  .rename_i a l h1 h2;cases hl;exact ZfJ h1 h hS (fun bE w' ⟨τ,bV,m',k1,k2⟩=>Zgv r l h2 k1 k2 hQ)
  .cases hl
theorem JW {G:World->Prop}{lt:Bool}(hl:qM P N ops lt o=some lo)(h:pM P lo K σ)(hS:Sat N w0 m0 pl σ ρ m act w)(hk:(aZ P o.op).still=true\/(aZ P o.op).FE=true/\∀w',G w'->fW σ ρ m w w'):
  ∃v,YieldsIf P ops G o v act/\F8 N w0 m0 pl K (act.put o.dst v) w/\∃τ,K τ/\τ.bx=σ.bx/\Sat N w0 m0 pl τ ρ m (act.put o.dst v) w:=by
 obtain⟨e0,e1,e2,e3,e4⟩:=DX hl;have KZ:∀a,(σ.oV o.dst a).bx=σ.bx:=fun a=>by cases o.dst<;>rfl
 rcases Gr hl h hS with⟨h1,h2⟩|⟨h1,h2⟩
 .unfold lV at h2;have mI:sW ops (aZ P o.op)=aZ P o.op:=by
   rcases Ni (ops:=ops) (l:=aZ P o.op)with⟨mI,_⟩|⟨e,n,b,x,y,G9,_⟩
   .exact mI
   .rw[G9]at hk;rcases hk with hk|⟨hk,_⟩<;>cases hk
  rw[e2,e1,mI]at h2;have hop:bY (aZ P o.op) (o.dst.getD 0) (fun a τ=>τ=σ/\K (τ.oV o.dst a)) σ\/True:=.inr trivial;split at h2
  .rename_i f args hc;rw[hc]at hk;rcases hk with hk|⟨hk,_⟩<;>cases hk
  .have hP:∃G':World->Prop,(∀w',G w'->G' w')/\dB G' P σ ρ m o act w (fun a τ=>K (τ.oV o.dst a)):=by
    rcases hk with hk|⟨hk,hG⟩
    .exact⟨G,fun _ h=>h,ZpU hk h2 hS⟩
    .refine⟨fW σ ρ m w,hG,Zs5 hk h2 hS⟩
   obtain⟨G',g1,v,a,g2,g3,g4⟩:=hP;exact⟨v,.inl ⟨h1,fun w' HD=>g2 w' (g1 w' HD)⟩,⟨_,ρ,m,g4,hS.oV e3 g3⟩,_,g4,KZ a,hS.oV e3 g3⟩
 .exact⟨undef,.inr ⟨h1,rfl⟩,⟨_,ρ,m,h2,hS.oV e3 WC⟩,_,h2,KZ _,hS.oV e3 WC⟩
theorem fW.Xb {w w' YD:World}(hS:Sat N w0 m0 pl σ ρ m act w)(h:fW σ ρ m w w')(k:Ext w' YD):fW σ ρ m w YD:=
 ⟨h.1.trans k.le,fun s b hs hr=>by
  have h1:=h.2 s b hs hr;have aI:=hS.lt hs hr;refine(k.block _ ?_).trans h1;rcases Nat.lt_or_ge (ρ s).b w'.heap.size with h2|h2
  .exact h2
  .rw[Array.getElem?_eq_none h2,uT aI]at h1;cases h1⟩
theorem XH (kY:FM ops=true):∀(l:List (Nat×Bool)) (qL:List LO) {σ:AS} {ρ:Site->Loc} {m:Mem} {act:Act} {w:World},rN P ops l=true->kW P N ops (l.map fun p=>(B8 P ops p.1,ops.getD p.1 default))=some qL->
  oH P qL K σ->Sat N w0 m0 pl σ ρ m act w->(∀bE w',F8 N w0 m0 pl K bE w'->Q .normal bE w')->WD ro P ops Q (Q6 P ops) (xO P) l act w
 |[],qL,σ,ρ,m,act,w,hk,hl,h,hS,hQ=>by
  simp[kW]at hl;subst hl;exact hQ _ _ ⟨σ,ρ,m,h,hS⟩
 |(i,b)::r,qL,σ,ρ,m,act,w,hk,hl,h,hS,hQ=>by
  simp only[iL]at hl;unfold kW at hl;split at hl
  .rename_i a l h1 h2;cases hl;cases b with
   |false=>
    simp only[rN,dJ]at hk;cases ho:ops[i]? with
    |none=>rw[ho]at hk;simp at hk
    |some o=>
     rw[ho]at hk;have hg:ops.getD i default=o:=by simp[Array.getD_eq_getD_getElem?,ho]
     rw[hg]at h1;have gZ:=hk.1;simp only[rV]at gZ;cases bT:xO P o with
     |true=>
      obtain⟨v,k1,⟨τ,bV,m',k2,k3⟩,_⟩:=JW (G:=fun _=>True) h1 h hS (.inl bT);exact⟨o,v,fun _=>True,fun _ _ _ _=>trivial,fun _ _=>trivial,trivial,ho,k1,XH kY r l hk.2 h2 k2 k3 hQ⟩
     |false=>
      have HO:(aZ P o.op).FE=true:=by
       rcases gZ with gZ|gZ
       .rw[bT]at gZ;cases gZ
       .exact gZ
      obtain⟨v,k1,⟨τ,bV,m',k2,k3⟩,_⟩:=JW (G:=fW σ ρ m w) h1 h hS (.inr ⟨HO,fun _ h=>h⟩);exact⟨o,v,fW σ ρ m w,fun _ _ hs hx=>fW.Xb hS hs hx,(fun e=>by rw[bT]at e;cases e),.refl hS,ho,k1,XH kY r l hk.2 h2 k2 k3 hQ⟩
   |true=>
    simp only[rN,dJ]at hk;cases ho:ops[i]? with
    |none=>rw[ho]at hk;simp at hk
    |some o=>
     have hg:ops.getD i default=o:=by simp[Array.getD_eq_getD_getElem?,ho]
     rw[hg]at h1;show wpOpIn (FF ro) 1 P ops Q i _ act w;unfold wpOpIn;simp only[ho];rcases Gr h1 h hS with⟨q1,q2⟩|⟨q1,q2⟩
     .rw[if_pos q1];cases bT:xO P o with
      |true=>
       obtain⟨v,k1,⟨τ,bV,m',k2,k3⟩,_⟩:=JW (G:=fun _=>True) h1 h hS (.inl bT);rcases k1 with⟨_,k1⟩|⟨k1,_⟩
       .unfold Oper.wpIn;refine⟨fun _ _=>trivial,?_⟩;rw[Oper.semAt_eq _ _ _ (XN kY ho),k1 w trivial,Oper.uponIn_value];exact⟨fun _=>Ext.tI _,XH kY r l hk.2 h2 k2 k3 hQ⟩
       .rw[k1]at q1;cases q1
      |false=>
       have K4:iQ (Q6 P ops) ops i=true->o.op.vP=true\/((aZ P o.op).NH=true/\B8 P ops i=false)\/(sW ops (aZ P o.op)).JF=true:=fun sQ=>by
        unfold iQ at sQ;rw[ho]at sQ;unfold Q6 at sQ;unfold xO at bT;simp only[bT,Bool.or_false,rV]at sQ;rcases sQ with(h'|h')|h'
        .exact .inl h'
        .simp only[dJ,Bool.not_eq_true']at h';exact .inr (.inl h')
        .exact .inr (.inr h')
       exact Oper.wpIn_mono (fun bE w' ⟨⟨τ,bV,m',k2,k3⟩,k4⟩=>⟨fun sQ=>k4 (K4 sQ),XH kY r l hk.2 h2 k2 k3 hQ⟩) (Lo h1 q2 hS)
     .rw[if_neg (by rw[q1];simp)];exact⟨fun _ _=>trivial,fun _=>Ext.tI _,XH kY r l hk.2 h2 q2 (hS.oV (DX h1).2.2.2.1 WC) hQ⟩
  .cases hl
theorem Znf {id:Nat}{draw:Bool}{qL:List LO}(hm:P.follows .mixedOrders=true)(hl:BD P N ops draw=some qL)(h:oH P qL K σ)(hS:Sat N w0 m0 pl σ ρ m act w)(hQ:∀bE w',F8 N w0 m0 pl K bE w'->Q .normal bE w')
  (hp:∀c (a:Act) (d:Tmp) (v:Value) w,Q (.panic c) (a.put (some d) v) w->Q (.panic c) a w):(Code.region id ops draw).wpIn (FF ro) 1 P Q act w:=by
 unfold BD at hl;split at hl
 .rename_i hd;subst hd;dsimp only at hl;split at hl
  .rename_i hc;simp only[dJ,decide_eq_true_eq]at hc;obtain⟨⟨⟨⟨c1,Eg⟩,c2⟩,c3⟩,c4⟩:=hc;have Vb:Sat N w0 m0 pl σ ρ m act w.drew:=hS.ext (Ext.dr w);exact Zdk _ _ _ hm hp c1 Eg c2 c3 (XH Eg _ qL c4 hl h Vb hQ)
  .cases hl
 .rename_i hd
  have:draw=false:=by simpa using hd
  subst this;exact wpIn_region_list (Zgv _ qL hl h hS hQ)
end
inductive RT where
 |done
 |rd (i:Nat) (t:RT)
 |ef (i:Nat) (t alt:RT)
 |no
 |seq (t r:RT)
 deriving Inhabited
def RT.flat:RT->RT->RT
 |.done,r=>r
 |.rd i t,r=>.rd i (t.flat r)
 |.ef i t alt,r=>.ef i (t.flat r) (alt.flat r)
 |.no,_=>.no
 |.seq t u,r=>t.flat (u.flat r)
def TQ (ro:Option Nat)(P:Program)(ops:Array Oper)(Q:Exit->Act->World->Prop)(soft:Nat->Oper->Bool)(still:Oper->Bool):RT->Act->World->Prop
 |.done,a,w=>Q .normal a w
 |.rd i t,a,w=>∃o v,∃S':World->Prop,(∀w w',S' w->Ext w w'->S' w')/\(still o=true->∀w,S' w)/\S' w/\ops[i]?=some o/\YieldsIf P ops S' o v a/\TQ ro P ops Q soft still t (a.put o.dst v) w
 |.ef i t alt,a,w=>wpOpIn (FF ro) 1 P ops Q i (fun a' w'=>(iQ soft ops i=true->Ext w w')/\TQ ro P ops Q soft still t a' w') a w/\TQ ro P ops Q soft still alt a w
 |.no,_,_=>True
 |.seq _ _,_,_=>False
def rJ (md:Region.Mode)(ops:Array Oper)(soft:Nat->Oper->Bool)(still:Oper->Bool):RT->Nat->Array Bool->Option (List Nat)->Bool
 |.done,_,listed,none=>(Region.ready md ops listed).isEmpty
 |.rd i t,n+1,listed,none=>(Region.ready md ops listed).contains i&&Region.free md ops listed i&&
   ((match ops[i]? with|some o=>still o|none=>false)||(List.range ops.size).all fun j=>listed.getD j true||j==i||iQ soft ops j||waits md ops ops.size j i)&&rJ md ops soft still t n (listed.setIfInBounds i true) none
 |.ef i t alt,n+1,listed,rem=>match rem.getD (Region.ready md ops listed)with
  |j::r=>j==i&&rJ md ops soft still t n (listed.setIfInBounds i true) none&&rJ md ops soft still alt (n+1) listed (some r)
  |[]=>false
 |.no,_,_,some []=>true
 |_,_,_,_=>false
section
variable {P:Program}{ops:Array Oper}{Q:Exit->Act->World->Prop}{md:Region.Mode}{ro:Option Nat}{soft:Nat->Oper->Bool}{still:Oper->Bool}
theorem Zgj (hs:Region.noSelect ops=true)(N3:FM ops=true)(hQ:∀c (a:Act) (d:Tmp) (v:Value) w,Q (.panic c) (a.put (some d) v) w->Q (.panic c) a w):∀(T:RT) (n:Nat) (listed:Array Bool) (rem:Option (List Nat)) (a:Act) (w:World),listed.size=ops.size->Down md ops listed->
  (∀r,rem=some r->∀i∈r,i∈Region.ready md ops listed)->rJ md ops soft still T n listed rem=true->TQ ro P ops Q soft still T a w->
  match rem with
  |none=>JO ro P md ops Q soft n listed a w
  |some r=>∃n',(r=[]\/n=n'+1)/\∀i∈r,wpOpIn (FF ro) 1 P ops Q i (fun a' w'=>(iQ soft ops i=true->Ext w w')/\JO ro P md ops Q soft n' (listed.setIfInBounds i true) a' w') a w:=by
 intro T;induction T with
 |done=>
  intro n listed rem a w fH hD BS hB h;cases rem with
  |some r=>simp[rJ]at hB
  |none=>
   have hr:Region.ready md ops listed=[]:=by simpa[rJ]using hB
   cases n with
   |zero=>exact⟨hr,h⟩
   |succ n=>exact⟨fun _=>h,fun i hi=>by rw[hr]at hi;cases hi⟩
 |rd i t ih=>
  intro n listed rem a w fH hD BS hB h;cases rem with
  |some r=>cases n<;>simp[rJ]at hB
  |none=>
   cases n with
   |zero=>simp[rJ]at hB
   |succ n=>
    simp only[rJ,dJ]at hB;obtain⟨o,v,S',hx,bT,Uy,ho,hy,h'⟩:=h;have hr:i∈Region.ready md ops listed:=by simpa using hB.1.1.1
    have CX:=hB.1.2;rw[ho]at CX;simp only[rV]at CX;exact ZeL hx ho (Region.noSelect_spec hs) N3 (fun c a w k=>by
     cases hd:o.dst with
     |none=>rw[hd]at k;exact k
     |some d=>rw[hd]at k;exact hQ c a d v w k) n listed a w hD (by
     rcases CX with h1|h1
     .exact .inl (bT h1)
     .refine .inr (fun j hj zN BR=>?_);have aI:j<ops.size:=by
       rcases Nat.lt_or_ge j listed.size with h2|h2
       .omega
       .simp[Array.getElem?_eq_none h2]at hj
      have:=rC.1 h1 j (List.mem_range.2 aI)
      simp only[rV,beq_iff_eq]at this;rcases this with((h3|h3)|h3)|h3
      .rw[hj]at h3;cases h3
      .exact absurd h3 zN
      .rw[BR]at h3;cases h3
      .exact h3) (Region.free_spec ho hB.1.1.2) hr hy Uy (ih n _ none _ _ (by simpa using fH) (hD.set hr) (fun r e=>by cases e) hB.2 h')
 |ef i t alt iht R7=>
  intro n listed rem a w fH hD BS hB h;cases n with
  |zero=>cases rem<;>simp[rJ]at hB
  |succ n=>
   simp only[rJ]at hB;split at hB
   .rename_i j r hj;simp only[dJ,beq_iff_eq]at hB;obtain⟨⟨rfl,De⟩,CX⟩:=hB;have eS:∀k∈j::r,k∈Region.ready md ops listed:=by
     cases rem with
     |none=>rw[show Option.getD none (Region.ready md ops listed)=Region.ready md ops listed from rfl]at hj;rw[hj];exact fun k hk=>hk
     |some r'=>rw[show Option.getD (some r') (Region.ready md ops listed)=r' from rfl]at hj;rw[<-hj];exact BS r' rfl
    have hr:j∈Region.ready md ops listed:=eS j (by simp);obtain⟨n',h1,h2⟩:=R7 (n+1) listed (some r) a w fH hD (fun r' e k hk=>by cases e;exact eS k (by simp[hk])) CX h.2;have n8:wpOpIn (FF ro) 1 P ops Q j (fun a' w'=>(iQ soft ops j=true->Ext w w')/\JO ro P md ops Q soft n (listed.setIfInBounds j true) a' w') a w:=
     wpOpIn_mono (fun a' w' k=>⟨k.1,iht n _ none _ _ (by simpa using fH) (hD.set hr) (fun r e=>by cases e) De k.2⟩) h.1
    have LZ:∀k∈j::r,wpOpIn (FF ro) 1 P ops Q k (fun a' w'=>(iQ soft ops k=true->Ext w w')/\JO ro P md ops Q soft n (listed.setIfInBounds k true) a' w') a w:=fun k hk=>by
     rcases jN.1 hk with rfl|hk
     .exact n8
     .rcases h1 with h1|h1
      .rw[h1]at hk;cases hk
      .have:n'=n:=by omega
       rw[<-this];exact h2 k hk
    cases rem with
    |none=>
     rw[show Option.getD none (Region.ready md ops listed)=Region.ready md ops listed from rfl]at hj;exact⟨fun e=>(by rw[hj]at e;cases e),fun k hk=>LZ k (by rw[<-hj];exact hk)⟩
    |some r'=>
     rw[show Option.getD (some r') (Region.ready md ops listed)=r' from rfl]at hj;subst hj;exact⟨n,.inr rfl,LZ⟩
   .cases hB
 |no=>
  intro n listed rem a w fH hD BS hB h;cases rem with
  |none=>cases n<;>simp[rJ]at hB
  |some r=>
   cases r with
   |nil=>exact⟨0,.inl rfl,fun i hi=>by cases hi⟩
   |cons x r=>cases n<;>simp[rJ]at hB
 |seq t r _ _=>intro n listed rem a w fH hD BS hB h;exact h.elim
inductive LT where
 |done
 |op (o:LO) (t:LT)
 |alt (o:LO) (t r:LT)
 |no
 |seq (t r:LT)
 deriving Inhabited
def DZ (τ σ:AS):Prop:=(∀t a,τ.t t=some a->σ.t t=some a)/\∀s b,τ.b s=some b->σ.b s=some b
def Sub (τ σ:AS):Prop:=∀(N:Nat) (w0:World) (m0:Env w0) (pl:List Nat) (ρ:Site->Loc) (m:Mem) (act:Act) (w:World),Sat N w0 m0 pl σ ρ m act w->∃bV m',Sat N w0 m0 pl τ bV m' act w
theorem DZ.sub {τ σ:AS}(h:DZ τ σ):Sub τ σ:=fun _ _ _ _ ρ m _ _ hS=>⟨ρ,m,hS.Zx4 (fun t a k=>.inl (h.1 t a k)) h.2⟩
theorem Sub.ZxX (σ:AS):Sub σ σ:=fun _ _ _ _ ρ m _ _ hS=>⟨ρ,m,hS⟩
theorem Sub.trans' {a b c:AS}(h:Sub a b)(k:Sub b c):Sub a c:=fun N w0 m0 pl ρ m act w hS=>let ⟨bV,m',h1⟩:=k N w0 m0 pl ρ m act w hS;h N w0 m0 pl bV m' act w h1
def vJ (P:Program):LT->(AS->Prop)->AS->Prop
 |.done,K,σ=>K σ
 |.op o t,K,σ=>pM P o (vJ P t K) σ
 |.alt o t r,K,σ=>pM P o (vJ P t K) σ/\vJ P r K σ
 |.no,_,_=>True
 |.seq t r,K,σ=>∃J:AS->Prop,vJ P t (fun zA=>∃τ,Sub τ zA/\J τ) σ/\∀τ,J τ->vJ P r K τ
def vU (P:Program)(N:Nat)(ops:Array Oper):RT->Option LT
 |.done=>some .done
 |.rd i t=>match ops[i]?,vU P N ops t with
  |some o,some t'=>if(xO P o||(aZ P o.op).FE)=true then(qM P N ops (B8 P ops i) o).map (.op · t')else none
  |_,_=>none
 |.ef i t alt=>match ops[i]?,vU P N ops t,vU P N ops alt with
  |some o,some t',some r'=>(qM P N ops (B8 P ops i) o).map (.alt · t' r')
  |_,_,_=>none
 |.no=>some .no
 |.seq t r=>match vU P N ops t,vU P N ops r with
  |some t',some r'=>some (.seq t' r')
  |_,_=>none
def hoist (P:Program)(ops:Array Oper)(listed:Array Bool):Option Nat:=
 match(Region.ready .any ops listed).find? fun i=>match ops[i]? with
   |some o=>xO P o
   |none=>false with
 |some i=>some i
 |none=>(Region.ready .any ops listed).find? fun i=>match ops[i]? with
   |some o=>(aZ P o.op).FE&&(List.range ops.size).all fun j=>listed.getD j true||j==i||iQ (Q6 P ops) ops j||waits .any ops ops.size j i
   |none=>false
def Yd (P:Program)(ops:Array Oper):Nat->Array Bool->List Nat->RT
 |0,_,_=>.done
 |f+1,listed,S=>if S.all (fun i=>listed.getD i true)then .done else match hoist P ops listed with
  |some i=>.rd i (Yd P ops f (listed.setIfInBounds i true) S)
  |none=>(Region.ready .any ops listed).foldr (fun i alt=>.ef i (Yd P ops f (listed.setIfInBounds i true) S) alt) .no
def IX (ops:Array Oper)(listed:Array Bool):List Nat:=
 let un:=(List.range ops.size).filter fun i=>!listed.getD i true
 match un.find? fun b=>un.any (fun i=>waits .any ops ops.size b i)&&un.all fun i=>i==b||waits .any ops ops.size b i||waits .any ops ops.size i b with
 |some b=>un.filter fun i=>waits .any ops ops.size b i
 |none=>un
def Z4 (P:Program)(ops:Array Oper):Nat->Array Bool->RT
 |0,_=>.done
 |f+1,listed=>match hoist P ops listed with
  |some i=>.rd i (Z4 P ops f (listed.setIfInBounds i true))
  |none=>match Region.ready .any ops listed with
   |[]=>.done
   |[i]=>.ef i (Z4 P ops f (listed.setIfInBounds i true)) .no
   |_=>
    let S:=IX ops listed
    .seq (Yd P ops ops.size listed S) (Z4 P ops f (S.foldl (fun l i=>l.setIfInBounds i true) listed))
def BC (P:Program)(N:Nat)(ops:Array Oper):Option LT:=
 let T:=Z4 P ops (ops.size+1) (Array.replicate ops.size false)
 if(Region.noSelect ops&&FM ops&&rJ .any ops (Q6 P ops) (xO P) (T.flat .done) ops.size (Array.replicate ops.size false) none)=true then vU P N ops T else none
end
section
variable {P:Program}{N:Nat}{w0:World}{m0:Env w0}{pl:List Nat}{σ:AS}{ρ:Site->Loc}{m:Mem}{act:Act}{w:World}{ops:Array Oper}{Q:Exit->Act->World->Prop}{ro:Option Nat}
theorem KG (kY:FM ops=true):∀(T:RT) (T':LT) (rest:RT) {J:AS->Prop} {σ:AS} {ρ:Site->Loc} {m:Mem} {act:Act} {w:World},vU P N ops T=some T'->vJ P T' J σ->Sat N w0 m0 pl σ ρ m act w->
  (∀bE w',F8 N w0 m0 pl J bE w'->TQ ro P ops Q (Q6 P ops) (xO P) rest bE w')->TQ ro P ops Q (Q6 P ops) (xO P) (T.flat rest) act w
 |.done,T',rest,J,σ,ρ,m,act,w,hl,h,hS,hQ=>by
  simp[vU]at hl;subst hl;exact hQ _ _ ⟨σ,ρ,m,h,hS⟩
 |.no,T',rest,J,σ,ρ,m,act,w,hl,h,hS,hQ=>trivial
 |.seq t u,T',rest,J,σ,ρ,m,act,w,hl,h,hS,hQ=>by
  simp only[vU]at hl;split at hl
  .rename_i t' r' h1 h2;cases hl;obtain⟨J',h3,h4⟩:=h;exact KG kY t t' (u.flat rest) h1 h3 hS (fun bE w' ⟨τ,bV,m',⟨Q8,k0,k1⟩,k2⟩=>let ⟨OD,m2,k3⟩:=k0 _ _ _ _ _ _ _ _ k2;KG kY u r' rest h2 (h4 Q8 k1) k3 hQ)
  .cases hl
 |.rd i t,T',rest,J,σ,ρ,m,act,w,hl,h,hS,hQ=>by
  simp only[vU]at hl;split at hl
  .rename_i o t' ho h2;split at hl
   .rename_i gZ;obtain⟨lo,h1,rfl⟩:=dZ.1 hl;simp only[rV]at gZ;cases bT:xO P o with
    |true=>
     obtain⟨v,k1,⟨τ,bV,m',k2,k3⟩,_⟩:=JW (G:=fun _=>True) h1 h hS (.inl bT);exact⟨o,v,fun _=>True,fun _ _ _ _=>trivial,fun _ _=>trivial,trivial,ho,k1,KG kY t t' rest h2 k2 k3 hQ⟩
    |false=>
     have HO:(aZ P o.op).FE=true:=by
      rcases gZ with gZ|gZ
      .rw[bT]at gZ;cases gZ
      .exact gZ
     obtain⟨v,k1,⟨τ,bV,m',k2,k3⟩,_⟩:=JW (G:=fW σ ρ m w) h1 h hS (.inr ⟨HO,fun _ h=>h⟩);exact⟨o,v,fW σ ρ m w,fun _ _ hs hx=>fW.Xb hS hs hx,(fun e=>by rw[bT]at e;cases e),.refl hS,ho,k1,KG kY t t' rest h2 k2 k3 hQ⟩
   .cases hl
  .cases hl
 |.ef i t alt,T',rest,J,σ,ρ,m,act,w,hl,h,hS,hQ=>by
  simp only[vU]at hl;split at hl
  .rename_i o t' r' ho h2 h3;obtain⟨lo,h1,rfl⟩:=dZ.1 hl;obtain⟨ha,hb⟩:=h;refine⟨?_,KG kY alt r' rest h3 hb hS hQ⟩;show wpOpIn (FF ro) 1 P ops Q i _ act w;unfold wpOpIn;simp only[ho];rcases Gr h1 ha hS with⟨q1,q2⟩|⟨q1,q2⟩
   .rw[if_pos q1];cases bT:xO P o with
    |true=>
     obtain⟨v,k1,⟨τ,bV,m',k2,k3⟩,_⟩:=JW (G:=fun _=>True) h1 ha hS (.inl bT);rcases k1 with⟨_,k1⟩|⟨k1,_⟩
     .unfold Oper.wpIn;refine⟨fun _ _=>trivial,?_⟩;rw[Oper.semAt_eq _ _ _ (XN kY ho),k1 w trivial,Oper.uponIn_value];exact⟨fun _=>Ext.tI _,KG kY t t' rest h2 k2 k3 hQ⟩
     .rw[k1]at q1;cases q1
    |false=>
     have K4:iQ (Q6 P ops) ops i=true->o.op.vP=true\/((aZ P o.op).NH=true/\B8 P ops i=false)\/(sW ops (aZ P o.op)).JF=true:=fun sQ=>by
      unfold iQ at sQ;rw[ho]at sQ;unfold Q6 at sQ;unfold xO at bT;simp only[bT,Bool.or_false,rV]at sQ;rcases sQ with(h'|h')|h'
      .exact .inl h'
      .simp only[dJ,Bool.not_eq_true']at h';exact .inr (.inl h')
      .exact .inr (.inr h')
     exact Oper.wpIn_mono (fun bE w' ⟨⟨τ,bV,m',k2,k3⟩,k4⟩=>⟨fun sQ=>k4 (K4 sQ),KG kY t t' rest h2 k2 k3 hQ⟩) (Lo h1 q2 hS)
   .rw[if_neg (by rw[q1];simp)];exact⟨fun _ _=>trivial,fun _=>Ext.tI _,KG kY t t' rest h2 q2 (hS.oV (DX h1).2.2.2.1 WC) hQ⟩
  .cases hl
theorem Zng {id:Nat}{K:AS->Prop}{T':LT}(hm:P.follows .mixedOrders=true)(hl:BC P N ops=some T')(h:vJ P T' K σ)(hS:Sat N w0 m0 pl σ ρ m act w)(hQ:∀bE w',F8 N w0 m0 pl K bE w'->Q .normal bE w')
  (hp:∀c (a:Act) (d:Tmp) (v:Value) w,Q (.panic c) (a.put (some d) v) w->Q (.panic c) a w):(Code.region id ops true).wpIn (FF ro) 1 P Q act w:=by
 unfold BC at hl;dsimp only at hl;split at hl
 .rename_i hc;simp only[dJ]at hc;obtain⟨⟨c1,c2⟩,c3⟩:=hc;refine wpIn_region_any hm (Zel (soft:=Q6 P ops) _ _ _ _ ?_);exact Zgj (soft:=Q6 P ops) (still:=xO P) c1 c2 hp _ _ _ none _ _ (by simp) (Down.start _) (fun r e=>by cases e) c3 (KG c2 _ T' .done hl h (hS.ext (Ext.dr w)) hQ)
 .cases hl
end
inductive bC where
 |skip
 |region (ops:List LO)
 |seq (a b:bC)
 |cond (c:bA) (a b:bC)
 |block (id:Nat) (c:bC)
 |loop (c:bC)
 |exit (id:Nat)
 |ret
 |jG (t:LT)
 |vE (nt:Nat) (g:bA) (C:Code×Code) (la lb:bC) (ps:List Nat)
 deriving Inhabited
def dQ (P:Program)(N:Nat):Code->Option bC
 |.skip=>some .skip
 |.region _ ops draw=>match BD P N ops draw with
  |some l=>some (.region l)
  |none=>if draw=true then(BC P N ops).map .jG else none
 |.seq a b=>match dQ P N a,dQ P N b with
  |some x,some y=>some (.seq x y)
  |_,_=>none
 |.cond c a b=>match aV c,dQ P N a,dQ P N b with
  |some c,some x,some y=>some (.cond c x y)
  |_,_,_=>none
 |.block id c=>(dQ P N c).map (.block id)
 |.loop c=>(dQ P N c).map .loop
 |.exit id=>some (.exit id)
 |.ret=>some .ret
 |.scope c=>dQ P N c
 |.label _=>some .skip
 |.rangeFunc g ps a b=>match aV g,dQ P N a,dQ P N b with
  |some g,some la,some lb=>some (.vE N g (a,b) la lb ps.toList)
  |_,_,_=>none
 |_=>none
inductive sC where
 |normal
 |exit (id:Nat)
 |ret
 deriving DecidableEq
def iO (K:AS->Prop)(Q:sC->AS->Prop):sC->AS->Prop
 |.normal,σ=>K σ
 |e,σ=>Q e σ
def c7 (id:Nat)(Q:sC->AS->Prop):sC->AS->Prop
 |.exit LQ,σ=>if LQ=id then Q .normal σ else Q (.exit LQ) σ
 |e,σ=>Q e σ
def kX (Q:sC->AS->Prop):Option Code->AS->Prop
 |none,σ=>Q .normal σ
 |some .ret,σ=>Q .ret σ
 |some (.exit id),σ=>Q (.exit id) σ
 |_,_=>False
def Zuv (P:Program)(nt:Nat)(g:bA)(C:Code×Code)(ps:List Nat)(Q:sC->AS->Prop)(σ:AS):Prop:=
 ∃(fz aE:List Site) (tm:List (Nat×AV)) (lJ:AS) (gf:FuncId) (fs cs:List AV) (B:List (Site×aJ)),
  (∀t a,tm.lookup t=some a->((aM fz σ).bG nt).t t=some a)/\lJ=((aM fz σ).bG nt).add (.loc nt 0) (.loop C ps nt tm none)/\
  (lJ.o g=.fn gf fs cs\/∃tF iH,lJ.o g=.pv (.fn gf tF iH)/\fs=tF.map .pv/\cs=iH.map .pv)/\aE.Nodup/\aE.all (fun s=>!s.fP (nt+1))=true/\oW lJ aE 0 aE=some B/\
  AV.gW (fun x=>aE.contains x) (fs++[.nJ (.loc nt 0)]++cs)=true/\
  cR P gf (AV.iM (kA aE) (fs++[.nJ (.loc nt 0)]++cs)) B (fun r B'=>r.dC (bX aE)=true/\(∀p∈B',bX aE p.1=true/\p.2.dC (bX aE)=true)/\
   match(((cO aE lJ).bG (nt+1)).lT (eZ aE (nt+1) B')).b (.loc nt 0)with
   |some (.loop _ _ _ _ st)=>kX Q st ((((cO aE lJ).bG (nt+1)).lT (eZ aE (nt+1) B')).drop (.loc nt 0))
   |_=>False)
def J1 (P:Program)(nt:Nat)(g:bA)(C:Code×Code)(ps:List Nat)(Q:sC->AS->Prop)(σ:AS):Prop:=∃τ,Sub τ σ/\Zuv P nt g C ps Q τ
def uE (P:Program):bC->(sC->AS->Prop)->AS->Prop
 |.skip,Q,σ=>Q .normal σ
 |.region ops,Q,σ=>oH P ops (Q .normal) σ
 |.jG t,Q,σ=>vJ P t (Q .normal) σ
 |.seq a b,Q,σ=>uE P a (iO (uE P b Q) Q) σ
 |.cond c a b,Q,σ=>match σ.o c with
  |.pv (.bool t)=>if t=true then uE P a Q σ else uE P b Q σ
  |_=>False
 |.block id c,Q,σ=>uE P c (c7 id Q) σ
 |.loop c,Q,σ=>∃(I:Nat->AS->Prop) (n:Nat) (τ:AS),Sub τ σ/\I n τ/\∀n τ,I n τ->uE P c (iO (fun zA=>∃k Q8,k<n/\Sub Q8 zA/\I k Q8) Q) τ
 |.exit id,Q,σ=>Q (.exit id) σ
 |.ret,Q,σ=>Q .ret σ
 |.vE nt g C _ _ ps,Q,σ=>J1 P nt g C ps Q σ
section
variable {P:Program}{N:Nat}{w0:World}{m0:Env w0}{pl:List Nat}{σ:AS}{ρ:Site->Loc}{m:Mem}{act:Act}{w:World}
def nX (N:Nat)(w0:World)(m0:Env w0)(pl:List Nat)(Q:sC->AS->Prop):Exit->Act->World->Prop
 |.normal,a,w=>F8 N w0 m0 pl (Q .normal) a w
 |.exit id,a,w=>F8 N w0 m0 pl (Q (.exit id)) a w
 |.ret,a,w=>F8 N w0 m0 pl (Q .ret) a w
 |_,_,_=>False
theorem XM {b:Frame}{a:Act}{k:List Item}{cs:List Frame}{c:Code}:step P (lone (b.atR a (.code (.scope c)::k)) cs w)=.next (lone (b.atR a (.code c::.inScope c::k)) cs w):=
 step_lone_go (by simp[stepG,stepG.exec,Frame.atR])
theorem Zg6 {b:Frame}{a:Act}{k:List Item}{cs:List Frame}{c:Code}:step P (lone (b.atR a (.inScope c::k)) cs w)=.next (lone (b.atR a k) cs w):=
 step_lone_go (by simp[stepG,stepG.exec,Frame.atR])
theorem ZbW {F:Fence}{n:Nat}{a:Act}{Q:Exit->Act->World->Prop}{c:Code}(h:c.wpIn F n P (Exit.noGoto Q) a w):(Code.scope c).wpIn F n P Q a w:=by
 intro b k cs PM hb hr;have h0:(lone (b.atR a (.code (.scope c)::k)) cs w).fenced P F:=fenced_calm hb hr rfl;obtain⟨e,DH,AJ,hq,p6⟩:=h b (.inScope c::k) cs PM hb hr;cases e with
 |normal=>exact⟨.normal,DH,AJ,hq,.head h0 XM (StepsIn.trans p6 (.one (fenced_calm hb hr rfl) Zg6))⟩
 |exit id=>
  have hx:exitTo id (.inScope c::k)=exitTo id k:=by simp[exitTo]
  exact⟨_,DH,AJ,hq,fun k' hk=>.head h0 XM (p6.1 k' (by rw[hx];exact hk)),
   fun wB hk=>let ⟨k₁,h1,h2⟩:=p6.2 wB (by rw[hx];exact hk);⟨k₁,h1,.head h0 XM h2⟩⟩
 |goto l=>exact hq.elim
 |ret=>exact⟨_,DH,AJ,hq,.of_steps (.one h0 XM) p6⟩
 |panic ch=>exact⟨_,DH,AJ,hq,.of_steps (.one h0 XM) p6⟩
 |outgrown=>exact⟨_,DH,AJ,hq,.of_steps (.one h0 XM) p6⟩
def kF:Code->Bool
 |.seq a b=>kF a&&kF b
 |.cond _ a b=>kF a&&kF b
 |.block _ c=>kF c
 |.loop c=>kF c
 |.scope c=>kF c
 |.rangeFunc _ _ _ _=>false
 |_=>true
theorem Mg {a b:Code}(h:kF (.seq a b)=true):kF a=true/\kF b=true:=by simpa[kF]using h
theorem Mz {c:Operand}{a b:Code}(h:kF (.cond c a b)=true):kF a=true/\kF b=true:=by simpa[kF]using h
theorem ZnQ {g:Operand}{ps:Array Tmp}{a b:Code}{t:Bool}(h:t=true->kF (.rangeFunc g ps a b)=true):t=false:=by
 cases t with
 |false=>rfl
 |true=>have:=h rfl;simp[kF]at this
def Fl (ro:Option Nat)(w0:World)(pl:List Nat):Prop:=∀l,ro=some l->(∃r,w0.heap[l]?=some (.loop r))/\l∉pl
theorem Hy (w:World)(l:Nat)(o:Obj):cW [l] w (w.putObj l o):=⟨rfl,rfl,rfl,by simp,fun k hk hn=>World.putObj_heap_other (by simpa using hn)⟩
theorem Zic {ro:Option Nat}(PM:Fl ro w0 pl){g:Operand}{ps:Array Tmp}{a b:Code}{g':bA}(hg:aV g=some g'){Q:sC->AS->Prop}(h:J1 P N g' (a,b) ps.toList Q σ)(hS:Sat N w0 m0 pl σ ρ m act w)(sQ:m0.strict=false):
  (Code.rangeFunc g ps a b).wpIn (FF ro) 1 P (nX N w0 m0 pl Q) act w:=by
 obtain⟨σ,kG,fz,aE,tm,lJ,gf,fs,cs,B,w9,Rb,qA,pX,sS,hB,eS,hC⟩:=h;obtain⟨ρ,m,hS⟩:=kG _ _ _ _ _ _ _ _ hS;obtain⟨m1,_,hF0⟩:=hS.aM fz;have MR:=hF0.bG N;have hND:=qW.bG N (aM fz σ);refine wpIn_rangeFunc (fun fn _=>?_);obtain⟨l,mark,w1,ds,T1,hmk,p4,QP,X0,oY,IC,M3⟩:∃(l:Nat) (mark:List Deferred) (w1:World) (ds:List Nat),(Instr.enterLoop fn act.tmps ps a b (FF ro).round).run P w=.ok (l,mark) w1/\mark=ds.map WJ/\ds.Nodup/\
   (∀D∈ds,w.heap.size<=D/\w1.heap[D]?=some (.deferred (some [])))/\Ext w w1/\w.heap.size<=l/\(∃r:Loop,w1.heap[l]?=some (.loop r)/\r.state=.ready/\r.pending=none/\r.params=ps/\r.assign=a/\r.body=b/\r.tmps=act.tmps)/\True:=by
  cases ro with
  |none=>
   refine⟨_,_,_,[w.heap.size],run_enterLoop_outer _ _ _ _ _,rfl,by simp,fun D hD=>?_,(Ext.al w _).trans' (Ext.al _ _),by omega,⟨{ state:=.ready,pending:=none,fn,tmps:=act.tmps,params:=ps,assign:=a,body:=b,defers:=w.heap.size },?_,rfl,rfl,rfl,rfl,rfl,rfl⟩,trivial⟩
   .simp at hD;subst hD;refine⟨fG _,?_⟩;exact(Below.heap_alloc _ _ _ (by simp)).trans (World.alloc_heap_new w _)
   .have:=World.alloc_heap_new (w.alloc (.deferred (some []))) (.loop { state:=.ready,pending:=none,fn,tmps:=act.tmps,params:=ps,assign:=a,body:=b,defers:=w.heap.size })
    rwa [World.size_alloc]at this
  |some l0=>
   obtain⟨⟨r0,EK⟩,x4⟩:=PM l0 rfl;have C8:w.heap[l0]?=some (.loop r0):=(hS.keep.block l0 (qE.1 EK).1 x4).trans EK;refine⟨_,_,_,[],run_enterLoop_inner C8 _ _ _ _ _,rfl,by simp,(fun D hD=>by cases hD),Ext.al w _,fG _,⟨{ state:=.ready,pending:=none,fn,tmps:=act.tmps,params:=ps,assign:=a,body:=b,defers:=r0.defers },World.alloc_heap_new w _,rfl,rfl,rfl,rfl,rfl,rfl⟩,trivial⟩
 obtain⟨r,C8,C7,X6,hr4,hr5,UR,hr7⟩:=IC
 let yQ:Act:={ act with defers:=mark++act.defers }
 have hF2:Sat N w0 m0 pl ((aM fz σ).bG N) ρ m1 yQ w1:=by
  have k:=MR.ext X0;obtain⟨Vx,⟨d1,d2,g3,g1⟩,g0,EU⟩:=MR.sE;have g2:∀D∈Vx,(w0.heap.size<=D\/D∈pl)/\w1.heap[D]?=some (.deferred (some [])):=fun D hD=>⟨(EU D hD).1,by rw[X0.block _ (qE.1 (EU D hD).2).1];exact(EU D hD).2⟩
  exact⟨⟨ds++Vx,⟨ds++d1,d2,by rw[g3,H9],by show mark++act.defers=_;rw[hmk,g1,mF];simp only[H9]⟩,⟨List.nodup_append.2 ⟨p4,g0.1,fun a ha b hb e=>by
   have h1:=(QP a ha).1;have h2:=(qE.1 (EU b hb).2).1
   omega⟩,fun e=>by rw[sQ]at e;cases e⟩,fun D hD=>by
   rcases sI.1 hD with hD|hD
   .exact⟨.inl (lC hS.keep.size (QP D hD).1),(QP D hD).2⟩
   .exact g2 D hD⟩,k.sz,k.tm,k.bx,k.dY,k.mem,k.eL,k.fL,k.keep,k.base,k.qC,k.par⟩
 have J8:=Mb ρ N 0 ⟨l,0,0,true⟩;have Dc:Sat N w0 m0 pl lJ (iK ρ (.loc N 0) ⟨l,0,0,true⟩) m1 yQ w1:=by
  rw[Rb];refine hF2.add hND (l:=⟨l,0,0,true⟩) ⟨by rw[Q7],r,by rw[Q7];exact C8,C7,X6,by rw[hr4],hr5,UR,by rw[hr7];exact MR.sz,fun t c k=>?_⟩ (fun _ s b k rr=>?_) (fun _ o=>?_) (fun _=>.inl (lC hS.keep.size oY))
  .obtain⟨v,k1,k2⟩:=MR.tm t c (w9 t c k);exact⟨v,by rw[hr7];exact k1,k2.mono (Le.refl _) J8 (hND.t t c (w9 t c k))⟩
  .have:=MR.G1 k (((MR.bx s b k).dS (fun r=>X0.block _ (MR.lt k r))).1 rr)
   have e':l<w.heap.size:=this;omega
  .exact MR.Es oY o
 generalize Rc:iK ρ (.loc N 0) ⟨l,0,0,true⟩=oX at Dc;have CB:oX (.loc N 0)=⟨l,0,0,true⟩:=by rw[<-Rc,Q7]
 obtain⟨oB,fU,tZ,yE⟩:=BE Dc pX sS hB;have o9:∃vf vc:Array Value,act.eval g=.func (.func gf) vf vc/\vf.size=fs.length/\vc.size=cs.length/\(∀(j:Nat) (d:Value) (c:AV),vf[j]?=some d->fs[j]?=some c->bO oX m1 d c)/\(∀(j:Nat) (d:Value) (c:AV),vc[j]?=some d->cs[j]?=some c->bO oX m1 d c):=by
  have h1:=Dc.aV hg;have e0:yQ.eval g=act.eval g:=by cases g<;>rfl
  rw[e0]at h1;rcases qA with qA|⟨tF,iH,qA,rfl,rfl⟩
  .rw[qA]at h1;exact Lw h1
  .rw[qA]at h1;obtain⟨vf,vc,e1,e2,e3,e4,e5⟩:=Fc h1.nG;refine⟨vf,vc,e1,by simpa using e2,by simpa using e3,fun j d c k1 k2=>?_,fun j d c k1 k2=>?_⟩
   .rw[bW]at k2;obtain⟨x,k3,rfl⟩:=dZ.1 k2;exact .pv _ _ (e4 j d x k1 k3)
   .rw[bW]at k2;obtain⟨x,k3,rfl⟩:=dZ.1 k2;exact .pv _ _ (e5 j d x k1 k3)
 obtain⟨vf,vc,hv,f1,f2,f3,f4⟩:=o9;obtain⟨b1,b2⟩:=ZhT (ρ:=oX) (m:=m1) (va:=#[Value.func (.yield l) #[] #[]]) (xs:=[AV.nJ (.loc N 0)]) f1 rfl f2 f3 (fun j u y hu hy=>by
  cases j with
  |zero=>
   simp at hu hy;subst hu hy
   have:=bO.nJ (ρ:=oX) (m:=m1) (.loc N 0)
   rwa [CB]at this
  |succ j=>simp at hu) f4
 obtain⟨gfn,gcode,g1,g2,g3⟩:=hC.1;have EU : ¬ gfn.name = "runtime.NumGoroutine" := by simpa using g2
 refine⟨l,mark,w1,{ target:=.fn (.func gf) vc,args:=vf++#[Value.func (.yield l) #[] #[]]},w1,gf,vf++#[Value.func (.yield l) #[] #[]]++vc,w1,T1,?_,fun _ _=>trivial,?_,FF.one,Fm ?_⟩
 .simp[resolve,hv,Deferred.ofValue];rfl
 .simp[invoke,callFunc,g1,EU,g3]
 refine(hC.2 w1 m1 oB _ tZ ⟨Dc.mem,Dc.uB,Np hB⟩ (by rw[JZ];exact b1) (fun j u y hu hy=>by
  rw[JY]at hy;obtain⟨a,k1,rfl⟩:=dZ.1 hy;exact(b2 j u a hu k1).map fU (V3 eS k1))).mono ?_
 intro e w3 h;obtain⟨v,rr,B',bV,m',rfl,hK,k1,k2,k3⟩:=yE (fun r B'=>match(((cO aE lJ).bG (N+1)).lT (eZ aE (N+1) B')).b (.loc N 0)with
   |some (.loop _ _ _ _ st)=>kX Q st ((((cO aE lJ).bG (N+1)).lT (eZ aE (N+1) B')).drop (.loc N 0))
   |_=>False) e w3 h
 clear h yE;replace k3:=k3 (.loc N 0) (by simp[Site.fP]);generalize((cO aE lJ).bG (N+1)).lT (eZ aE (N+1) B')=τ at hK k1;split at hK
 .rename_i C' Iy Ja Ip st tX;obtain⟨X6,r3,u1,u2,u3,_⟩:=k1.bx _ _ tX;have lN:bV (.loc N 0)=oX (.loc N 0):=k3;rw[lN,CB]at u1;have PU:r3.state≠.busy:=by rw[u2];cases st<;>simp
  have dF:=run_endLoop (P:=P) u1 PU;have Cy:Sat N w0 m0 pl (τ.drop (.loc N 0)) bV m' yQ (w3.putObj l (.loop { r3 with state:=.exhausted })):=(k1.drop _).write (k:=l) (fun s b k r=>by
   rw[AS.JE]at k;split at k
   .cases k
   .rename_i dA;refine dA (k1.dY _ _ _ _ l k tX r (.inl ⟨X6,?_⟩));rw[lN,CB]) (fun o=>by
   have:=k1.off _ _ tX X6 o
   rwa [lN,CB]at this) (by
   have:=k1.own _ _ tX X6
   rwa [lN,CB]at this) (.inl (by rw[u1];simp)) (Hy _ _ _)
  refine⟨st,_,by rw[<-u3];exact dF,?_⟩;cases st with
  |none=>exact⟨_,_,_,hK,Cy⟩
  |some c=>
   cases c with
   |ret=>exact wpIn_ret ⟨_,_,_,hK,Cy⟩
   |exit id=>exact wpIn_exit ⟨_,_,_,hK,Cy⟩
   |_=>exact hK.elim
 .exact hK.elim
theorem XJ {ro:Option Nat}(PM:Fl ro w0 pl)(hm:P.follows .mixedOrders=true):∀(c:Code) (l:bC) (Q:sC->AS->Prop) {σ:AS} {ρ:Site->Loc} {m:Mem} {act:Act} {w:World},(m0.strict=true->kF c=true)->dQ P N c=some l->uE P l Q σ->Sat N w0 m0 pl σ ρ m act w->c.wpIn (FF ro) 1 P (nX N w0 m0 pl Q) act w:=by
 intro c;induction c with
 |skip=>
  intro l Q σ ρ m act w bT hl h hS;simp[dQ]at hl;subst hl;exact wpIn_skip ⟨σ,ρ,m,h,hS⟩
 |region id ops draw=>
  intro l Q σ ρ m act w bT hl h hS;simp only[dQ]at hl;split at hl
  .rename_i qL k1;cases hl;exact Znf hm k1 h hS (fun _ _ k=>k) (fun _ _ _ _ _ h=>h)
  .split at hl
   .rename_i hd;subst hd;simp only[dZ]at hl;obtain⟨T',k1,rfl⟩:=hl;exact Zng hm k1 h hS (fun _ _ k=>k) (fun _ _ _ _ _ h=>h)
   .cases hl
 |seq a b R7 l8=>
  intro l Q σ ρ m act w bT hl h hS;simp only[dQ]at hl;split at hl
  .rename_i x y h1 h2;cases hl;refine wpIn_seq (wpIn_mono (R7 x _ (fun e=>(Mg (bT e)).1) h1 h hS) (fun e bE w' hq=>?_));cases e with
   |normal=>
    obtain⟨τ,bV,m',k1,k2⟩:=hq;exact l8 y Q (fun e=>(Mg (bT e)).2) h2 k1 k2
   |exit id=>exact hq
   |ret=>exact hq
   |goto l=>exact hq.elim
   |panic ch=>exact hq.elim
   |outgrown=>exact hq.elim
  .cases hl
 |cond c a b R7 l8=>
  intro l Q σ ρ m act w bT hl h hS;simp only[dQ]at hl;split at hl
  .rename_i c' x y h0 h1 h2;cases hl;unfold uE at h;split at h
   .rename_i t ht;have hc:=hS.aV h0;rw[ht]at hc;refine wpIn_cond hc.NL ?_;cases t
    .exact l8 y Q (fun e=>(Mz (bT e)).2) h2 (by simpa using h) hS
    .exact R7 x Q (fun e=>(Mz (bT e)).1) h1 (by simpa using h) hS
   .exact h.elim
  .cases hl
 |block id c ih=>
  intro l Q σ ρ m act w bT hl h hS;simp only[dQ,dZ]at hl;obtain⟨x,k1,rfl⟩:=hl;refine wpIn_block (wpIn_mono (ih x _ bT k1 h hS) (fun e bE w' hq=>?_));cases e with
  |exit LQ=>
   obtain⟨τ,bV,m',q1,q2⟩:=hq;by_cases he:LQ=id
   .subst he;simp only[c7,if_true]at q1;simp only[Exit.inBlock,if_true];exact⟨τ,bV,m',q1,q2⟩
   .simp only[c7,he,if_false]at q1;simp only[Exit.inBlock,he,if_false];exact⟨τ,bV,m',q1,q2⟩
  |normal=>exact hq
  |ret=>exact hq
  |goto l=>exact hq.elim
  |panic ch=>exact hq.elim
  |outgrown=>exact hq.elim
 |loop c ih=>
  intro l Q σ ρ m act w bT hl h hS;simp only[dQ,dZ]at hl;obtain⟨x,k1,rfl⟩:=hl;obtain⟨I,n,τ,kG,hI,aB⟩:=h;obtain⟨oX,m1,wI⟩:=kG _ _ _ _ _ _ _ _ hS;refine wpIn_loop_ghost (fun n act w=>∃τ ρ m,I n τ/\Sat N w0 m0 pl τ ρ m act w) n ⟨τ,oX,m1,hI,wI⟩ ?_;intro n act w ⟨τ,ρ,m,hI,hS⟩;refine wpIn_mono (ih x _ bT k1 (aB n τ hI) hS) (fun e bE w' hq=>?_);cases e with
  |normal=>
   obtain⟨zA,bV,m',⟨k,Q8,q1,q2,q3⟩,q4⟩:=hq;obtain⟨OD,m2,q5⟩:=q2 _ _ _ _ _ _ _ _ q4;exact⟨k,q1,Q8,OD,m2,q3,q5⟩
  |exit id=>exact hq
  |ret=>exact hq
  |goto l=>exact hq.elim
  |panic ch=>exact hq.elim
  |outgrown=>exact hq.elim
 |scope c ih=>
  intro l Q σ ρ m act w bT hl h hS;refine ZbW (wpIn_mono (ih l Q bT hl h hS) (fun e bE w' hq=>?_));cases e<;>first|exact hq|exact hq.elim
 |label l0=>
  intro l Q σ ρ m act w bT hl h hS;simp[dQ]at hl;subst hl;exact wpIn_label ⟨σ,ρ,m,h,hS⟩
 |exit id=>
  intro l Q σ ρ m act w bT hl h hS;simp[dQ]at hl;subst hl;exact wpIn_exit ⟨σ,ρ,m,h,hS⟩
 |ret=>
  intro l Q σ ρ m act w bT hl h hS;simp[dQ]at hl;subst hl;exact wpIn_ret ⟨σ,ρ,m,h,hS⟩
 |rangeFunc g ps a b=>
  intro l Q σ ρ m act w bT hl h hS;simp only[dQ]at hl;split at hl
  .rename_i g' la lb k1 k2 k3;cases hl;exact Zic PM k1 h hS (ZnQ bT)
  .cases hl
 |_=>intro l Q σ ρ m act w bT hl h hS;simp[dQ]at hl
end
inductive nY where
 |tm (t:Nat)
 |cell (t:Nat) (row:Bool) (n:Nat)
 deriving Inhabited
def kV (P:Program):List ResultVar->Option (List nY)
 |[]=>some []
 |.tmp t::r=>(kV P r).map (nY.tm t::·)
 |.cell a t::r=>match eH P t,P.underlying t,kV P r with
  |some n,some _,some l=>some (.cell a (sL P t) n::l)
  |_,_,_=>none
structure aX where
 nt:Nat
 code:bC
 res:List nY
 deriving Inhabited
def fT (P:Program)(f:FuncId):Option aX:=match P.funcs[f]? with
 | some fn => if fn.name == "runtime.NumGoroutine" then none else match fn.body with
  |some c=>match dQ P fn.ntmps c,kV P fn.results.toList with
   |some l,some r=>some ⟨fn.ntmps,l,r⟩
   |_,_=>none
  |none=>none
 |none=>none
def AS.Km (σ:AS):nY->Option AV
 |.tm t=>σ.t t
 |.cell t row n=>match σ.t t with
  |some (.ptr s off)=>match σ.b s with
   |some (.cells bS)=>if row=true then(if off+n<=bS.length then some (s5 ((bS.drop off).take n))else none)else bS[off]?
   |_=>none
  |_=>none
def AS.FA (σ:AS):List nY->Option (List AV)
 |[]=>some []
 |x::r=>match σ.Km x,σ.FA r with
  |some a,some l=>some (a::l)
  |_,_=>none
def rO:List AV->AV
 |[a]=>a
 |l=>match eA l with
  |some xs=>.pv (.bL xs)
  |none=>.bL l
def jT (outs:List Site)(s:Site):Site:=match s with
 |.par i=>.par i
 |s=>match outs.findIdx? (fun x=>decide (x=s))with
  |some j=>.ret j
  |none=>s
def dO (s:Site):Bool:=!s.uJ
def AS.exp (σ:AS)(outs:List Site):List Site->List (Site×aJ)
 |[]=>[]
 |s::r=>match σ.b s with
  |some b=>(jT outs s,b.iR (jT outs))::σ.exp outs r
  |none=>σ.exp outs r
def aY:List Site->AS->AS
 |[],σ=>σ
 |s::r,σ=>aY r (σ.cD s)
def rM (rs:List nY)(R:AV->List (Site×aJ)->Prop)(σ:AS):Prop:=
 ∃(fz outs:List Site) (l:List AV),(aY fz σ).FA rs=some l/\(rO l).dC dO=true/\outs.all dO=true/\(∀s∈outs,∀b,(aY fz σ).b s=some b->b.dC dO=true)/\R ((rO l).map (jT outs)) ((aY fz σ).exp outs outs)
def lA (F:AS->Prop):sC->AS->Prop
 |.exit _,_=>False
 |_,σ=>F σ
def A8 (rs:List nY)(R:AV->List (Site×aJ)->Prop)(σ:AS):Prop:=match σ.FA rs with
 |some l=>match rO l with
  |.pv x=>R (.pv x) []
  |_=>False
 |none=>False
theorem ZsT {rs:List nY}{R:AV->List (Site×aJ)->Prop}{σ:AS}(h:A8 rs R σ):rM rs R σ:=by
 unfold A8 at h;split at h
 .rename_i l hl;split at h
  .rename_i x hx;exact⟨[],[],l,hl,by rw[hx];rfl,rfl,(fun s hs=>by cases hs),by rw[hx];exact h⟩
  .exact h.elim
 .exact h.elim
def eW:Nat->List AV->List (Nat×AV)
 |_,[]=>[]
 |k,a::r=>(k,a)::eW (k+1) r
def vF (tmps:Array Value):ResultVar->Sem Value:=fun
 |.tmp t=>pure (tmps.getD t undef)
 |.cell a t=>do loadVar t (<-asAddr (tmps.getD a undef))
section
variable {P:Program}{N:Nat}{w0:World}{m0:Env w0}{pl:List Nat}{σ:AS}{ρ:Site->Loc}{m:Mem}{act:Act}{w:World}
theorem Sat.aY:∀(fz:List Site) {σ:AS} {m:Mem},Sat N w0 m0 pl σ ρ m act w->∃m',Sat N w0 m0 pl (aY fz σ) ρ m' act w
 |[],σ,m,h=>⟨m,h⟩
 |s::r,σ,m,h=>by
  obtain⟨m1,_,h1⟩:=h.cD s;exact Sat.aY r h1
theorem Hm:∀(l:List AV) (k j:Nat) (a:AV),(eW k l).lookup j=some a->k<=j/\l[j-k]?=some a
 |[],k,j,a,h=>by simp[eW]at h
 |b::r,k,j,a,h=>by
  unfold eW at h;rcases Nat.decEq j k with dA|rfl
  .rw[jC dA]at h;obtain⟨h1,h2⟩:=Hm r (k+1) j a h;refine⟨by omega,?_⟩;rw[show j-k=(j-(k+1))+1 by omega,List.getElem?_cons_succ];exact h2
  .rw[mT]at h;cases h;exact⟨fG _,by simp⟩
theorem ZlU {l:List (Site×aJ)}{s:Site}{b:aJ}(h:l.lookup s=some b):(s,b)∈l:=by
 induction l with
 |nil=>simp[List.lookup]at h
 |cons p r ih=>
  obtain⟨a,c⟩:=p;by_cases e:s=a
  .subst e;rw[mT]at h;cases h;simp
  .rw[jC e]at h;simp[ih h]
theorem XD {ρ:Site->Loc}{w:World}{B:List (Site×aJ)}{s:Site}{b:aJ}{k:Nat}(h:B.lookup s=some b)(hr:fK ρ w s b k):k∈cJ ρ w B:=by
 exact SV.2 ⟨(s,b),ZlU h,hr⟩
theorem ZpC {rv:ResultVar}{x:nY}(hx:kV P [rv]=some [x]){a:AV}(ha:σ.Km x=some a)(hS:Sat N w0 m0 pl σ ρ m act w):
  ∃v,(vF act.tmps rv).run P w=.ok v w/\bO ρ m v a:=by
 cases rv with
 |tmp t=>
  simp[kV]at hx;subst hx;obtain⟨v,k1,k2⟩:=hS.tm t a ha;refine⟨act.tmps.getD t undef,rfl,?_⟩;rw[Array.getD_eq_getD_getElem?,k1];exact k2
 |cell t0 ty=>
  simp only[kV]at hx;split at hx
  .rename_i n dd l h1 h2 h3;cases h3;cases hx;simp only[AS.Km]at ha;split at ha
   .rename_i s off ht;obtain⟨v,k1,k2⟩:=hS.tm t0 _ ht;have hv:=k2.DP;subst hv;have kJ:act.tmps.getD t0 undef=.pointer (some ⟨(ρ s).b,off,none⟩):=by rw[Array.getD_eq_getD_getElem?,k1];rfl
    split at ha
    .rename_i bS hb;have hB:=hS.bx s _ hb;split at ha
     .rename_i hr;split at ha
      .rename_i hl;cases ha;obtain⟨ds,q1,q2,q3,q4⟩:=Hi hB hl;refine⟨.agg ds.toArray,?_,Hd (by simp[q1,gJ,uH];omega) (fun u hu=>q3 u (by simpa using hu)) (fun j u c e1 e2=>q4 j u c (by simpa using e1) e2)⟩
       have:=Znl (P:=P) h2 hr q2 (by rw[h1,q1])
       simp only[Instr.loadAt,Instr.sureAddr,Sem.run_bind,Sem.run_pure,Result.andThen_ok]at this;simp only[vF,kJ,asAddr,Sem.run_bind,Sem.run_pure,Result.andThen_ok];exact this
      .cases ha
     .rename_i hr;have aI:=(bZ.1 ha).1;obtain⟨ds,q1,q2,q3,q4⟩:=Hi hB (off:=off) (n:=1) (by omega)
      match ds,q1 with
      |[v],_=>
       refine⟨v,?_,q4 0 v a rfl (by rw[mG,if_pos (by omega),mS];exact ha)⟩
       have:=Znm (P:=P) h2 (by simpa using hr) q2.1
       simp only[Instr.loadAt,Instr.sureAddr,Sem.run_bind,Sem.run_pure,Result.andThen_ok]at this;simp only[vF,kJ,asAddr,Sem.run_bind,Sem.run_pure,Result.andThen_ok];exact this
    .cases ha
   .cases ha
  .cases hx
theorem Mk:∀(YK:List ResultVar) (rs:List nY) (l:List AV),kV P YK=some rs->σ.FA rs=some l->Sat N w0 m0 pl σ ρ m act w->
  ∃vs:List Value,(YK.mapM (vF act.tmps)).run P w=.ok vs w/\vs.length=l.length/\∀(j:Nat) (v:Value) (a:AV),vs[j]?=some v->l[j]?=some a->bO ρ m v a
 |[],rs,l,h,hl,hS=>by
  simp[kV]at h;subst h;simp[AS.FA]at hl;subst hl;exact⟨[],rfl,rfl,fun j v a e=>by simp at e⟩
 |rv::YK,rs,l,h,hl,hS=>by
  obtain⟨x,xT,hx,h',rfl⟩:∃x xT,kV P [rv]=some [x]/\kV P YK=some xT/\rs=x::xT:=by
   cases rv with
   |tmp t=>
    simp only[kV,dZ]at h;obtain⟨xT,k1,rfl⟩:=h;exact⟨.tm t,xT,by simp[kV],k1,rfl⟩
   |cell a t=>
    simp only[kV]at h;split at h
    .rename_i n dd l' h1 h2 h3;cases h;exact⟨.cell a (sL P t) n,l',by simp[kV,h1,h2],h3,rfl⟩
    .cases h
  unfold AS.FA at hl;split at hl
  .rename_i a l' h1 h2;cases hl;obtain⟨v,k1,k2⟩:=ZpC hx h1 hS;obtain⟨vs,k3,k4,k5⟩:=Mk YK xT l' h' h2 hS;refine⟨v::vs,?_,by simp[k4],fun j u c e1 e2=>?_⟩
   .simp only[List.mapM_cons,Sem.run_bind,k1,Result.andThen_ok,k3];rfl
   .cases j with
    |zero=>simp at e1 e2;subst e1 e2;exact k2
    |succ j=>exact k5 j u c (by simpa using e1) (by simpa using e2)
  .cases hl
theorem ZkM {vs:List Value}{l:List AV}(h1:vs.length=l.length)(h2:∀(j:Nat) (v:Value) (a:AV),vs[j]?=some v->l[j]?=some a->bO ρ m v a):
  bO ρ m (if h:vs.toArray.size=1 then vs.toArray[0]else .tuple vs.toArray) (rO l):=by
 match l,vs,h1 with
 |[a],[v],_=>exact h2 0 v a rfl rfl
 |[],vs,h1=>
  have:vs=[]:=List.eq_nil_of_length_eq_zero h1
  subst this;exact .pv _ _ (.bL _ _ rfl (fun j v c e1 e2=>by simp at e2))
 |a::b::r,vs,h1=>
  have hs:¬vs.toArray.size=1:=by
   intro e;simp at e;rw[e]at h1;simp at h1
  rw[dif_neg hs];show bO ρ m _ (match eA (a::b::r)with
   |some xs=>.pv (.bL xs)
   |none=>.bL (a::b::r))
  cases hx:eA (a::b::r)with
  |some xs=>
   have e:=SX hx;rw[e]at h1 h2;refine .pv _ _ (.bL _ _ (by simpa using h1) (fun j v c e1 e2=>?_));exact(h2 j v (.pv c) (by simpa using e1) (by rw[bW,e2];rfl)).nG
  |none=>exact .bL _ _ (by simpa using h1) (fun j v c e1 e2=>h2 j v c (by simpa using e1) e2)
theorem ZjH {outs:List Site}{s:Site}{j:Nat}(h:outs.findIdx? (fun x=>decide (x=s))=some j):outs[j]?=some s:=by
 obtain⟨hj,h1,_⟩:=JC.1 h;rw[bB hj];simpa using h1
theorem Lu (hS:Sat N w0 m0 pl σ ρ m act w){outs:List Site}(ho:outs.all dO=true)(hb:∀s∈outs,∀b,σ.b s=some b->b.dC dO=true):
  ∃bV:Site->Loc,(∀s,dO s=true->bV (jT outs s)=ρ s)/\vA bV m w (σ.exp outs outs)/\(∀i,bV (.par i)=ρ (.par i))/\
   (∀s b k,(σ.exp outs outs).lookup s=some b->fK bV w s b k->∃s0 b0,σ.b s0=some b0/\fK ρ w s0 b0 k):=by
 let bV:Site->Loc:=fun s=>match s with
  |.ret j=>ρ (outs.getD j default)
  |s=>ρ s
 have hg:∀s,dO s=true->bV (jT outs s)=ρ s:=fun s hs=>by
  cases s with
  |par i=>rfl
  |ret j=>simp[dO,Site.uJ]at hs
  |loc d j=>
   unfold jT;simp only;split
   .rename_i k hk
    have:=ZjH hk
    simp[bV,List.getD,this]
   .rfl
 have look:∀(l:List Site),(∀s∈l,s∈outs)->∀s b,(σ.exp outs l).lookup s=some b->∃s0 b0,s0∈outs/\σ.b s0=some b0/\s=jT outs s0/\b=b0.iR (jT outs):=by
  intro l;induction l with
  |nil=>intro _ s b h;simp[AS.exp]at h
  |cons x r ih=>
   intro hl s b h;unfold AS.exp at h;split at h
   .rename_i b0 Ur;by_cases e:s=jT outs x
    .subst e;rw[mT]at h;cases h;exact⟨x,b0,hl x (by simp),Ur,rfl,rfl⟩
    .rw[jC e]at h;exact ih (fun s hs=>hl s (by simp[hs])) s b h
   .exact ih (fun s hs=>hl s (by simp[hs])) s b h
 have mM:∀s∈outs,dO s=true:=fun s hs=>rC.1 ho s hs
 refine⟨bV,hg,⟨fun s b h=>?_,fun s s' b b' k h h' r r'=>?_,fun s b k h r=>?_⟩,fun i=>rfl,fun s b k h r=>?_⟩
 .obtain⟨s0,b0,k1,k2,rfl,rfl⟩:=look outs (fun _ h=>h) s b h;exact(hS.bx s0 b0 k2).iR hg (mM s0 k1) (hb s0 k1 b0 k2)
 .obtain⟨s0,b0,k1,k2,rfl,rfl⟩:=look outs (fun _ h=>h) s b h;obtain⟨s1,b1,q1,q2,rfl,rfl⟩:=look outs (fun _ h=>h) s' b' h';rw[hS.dY s0 s1 b0 b1 k k2 q2 ((uM (hg s0 (mM s0 k1))).1 r) ((uM (hg s1 (mM s1 q1))).1 r')]
 .obtain⟨s0,b0,k1,k2,rfl,rfl⟩:=look outs (fun _ h=>h) s b h;exact hS.eL s0 b0 k k2 ((uM (hg s0 (mM s0 k1))).1 r)
 .obtain⟨s0,b0,k1,k2,rfl,rfl⟩:=look outs (fun _ h=>h) s b h;exact⟨s0,b0,k2,(uM (hg s0 (mM s0 k1))).1 r⟩
theorem Zey {fn:Func}{R:Ending->World->Prop}:∀(ds:List Nat) {w:World},ds.Nodup->(∀D∈ds,(w0.heap.size<=D\/D∈pl)/\w.heap[D]?=some (.deferred (some [])))->act.defers=[]->Sat N w0 m0 pl σ ρ m act w->
  ∃w2,Sat N w0 m0 pl σ ρ m act w2/\(LeavesIn (FF none) 1 P fn act.tmps R [] .returning w2->LeavesInM (FF none) 1 P fn act.tmps R (ds.map WJ) .returning w)
 |[],w,_,_,_,hS=>⟨w,hS,fun h=>h⟩
 |D::r,w,hn,hd,ha,hS=>by
  obtain⟨d1,d2⟩:=hd D (by simp);have yF:=List.nodup_cons.1 hn;have wI:Sat N w0 m0 pl σ ρ m act (w.putObj D (.deferred none)):=hS.write (k:=D) (fun s b hs hr=>(hS.bx s b hs).Wy hr d2) (fun o=>by
   cases hv:m D o with
   |none=>rfl
   |some v=>
    have:=hS.mem D o v hv
    simp[World.mem,World.cell?,d2]at this) d1 (.inr ha) (Hy _ _ _)
  obtain⟨w2,k1,k2⟩:=Zey r yF.2 (fun D' CW=>by
   refine⟨(hd D' (by simp[CW])).1,?_⟩;have dA:D'≠D:=fun e=>yF.1 (by rw[<-e];exact CW)
   rw[World.putObj_heap_other dA];exact(hd D' (by simp[CW])).2) ha wI
  exact⟨w2,k1,fun h=>⟨by simp,.inl ⟨D,_,rfl,run_takeDeferred d2,k2 h⟩⟩⟩
theorem Hz {f:FuncId}{F:aX}{bS:List AV}{B:List (Site×aJ)}{R:AV->List (Site×aJ)->Prop}(hm:P.follows .mixedOrders=true)(hf:fT P f=some F)(hn:bS.length<=F.nt)
  {Fin:AS->Prop} (CJ:∀σ,Fin σ->rM F.res R σ) (h:uE P F.code (lA Fin) ⟨eW 0 bS,B⟩):cR P f bS B R:=by
 unfold fT at hf;split at hf
 .rename_i fn qA;split at hf
  .cases hf
  .rename_i M4;split at hf
   .rename_i c hc;split at hf
    .rename_i l rs hl tU;cases hf;refine⟨⟨fn,c,qA,by simpa using M4,hc⟩,fun w m ρ vs hB mN P6 lG=>?_⟩;refine(callsIn_wide (n:=1)).1 (callsIn_of_wp_marks (F:=FF none) qA hc trivial ?_ rfl);have hS:Sat fn.ntmps w ⟨m,ρ,[],mN.2.1,false⟩ (cJ ρ w B) ⟨eW 0 bS,B⟩ ρ m { tmps:=vs++Array.replicate (fn.ntmps-vs.size) undef,defers:=[]} w:=by
      have yF:bS.length<=fn.ntmps:=hn;refine⟨⟨[],B7,xZ,fun D hD=>by cases hD⟩,by simp;omega,fun t a k=>?_,hB.bx,hB.dY,mN.1,hB.eL,fun s b i k r=>.inr (XD k r),cW.tI _ _,⟨Le.refl _,hB.free mN.2.2⟩,fun b o v k=>.inl k,fun i=>rfl⟩;obtain⟨_,k1⟩:=Hm bS 0 t a k;rw[Nat.sub_zero]at k1;have aI:t<vs.size:=by rw[P6];exact(bZ.1 k1).1
      exact⟨vs[t],by rw[Array.getElem?_append,if_pos aI,uT aI],lG t _ a (uT aI) k1⟩
     refine wpIn_mono (XJ (ro:=none) (fun l e=>by cases e) hm c l _ (fun e=>by cases e) hl h hS) (fun e bE w' hq=>?_);have fin:F8 fn.ntmps w ⟨m,ρ,[],mN.2.1,false⟩ (cJ ρ w B) Fin bE w'->LeavesInM (FF none) 1 P fn bE.tmps (lE w m ρ B R) bE.defers .returning w':=by
      rintro⟨τ,oX,m1,RD,hT⟩;obtain⟨ds,tW,wF,T2⟩:=hT.sE;have tW:=tW.nil;have Cw:Sat fn.ntmps w ⟨m,ρ,[],mN.2.1,false⟩ (cJ ρ w B) τ oX m1 { bE with defers:=[]} w':=⟨⟨[],B7,xZ,fun D hD=>by cases hD⟩,hT.sz,hT.tm,hT.bx,hT.dY,hT.mem,hT.eL,hT.fL,hT.keep,hT.base,hT.qC,hT.par⟩;obtain⟨w2,T4,hL⟩:=Zey (P:=P) (fn:=fn) (R:=lE w m ρ B R) ds wF.1 T2 rfl Cw;rw[tW];refine hL ?_;obtain⟨fz,outs,la,q1,q2,q3,q4,q5⟩:=CJ τ RD;obtain⟨m2,hF⟩:=T4.aY fz;obtain⟨YE,r1,r2,r3⟩:=Mk fn.results.toList rs la tU q1 hF;obtain⟨bV,g1,g2,g3,g4⟩:=Lu hF q3 q4;have BU:=ZkM r2 r3;refine⟨_,?_,_,_,_,bV,m2,rfl,q5,g2,hF.base.1,hF.mem,fun i=>(g3 i).trans (hF.par i),fun s b i k r=>?_,hF.qC,BU.map g1 q2,hF.keep⟩
      .show(do let vs <-fn.results.mapM (vF bE.tmps);pure (if h:vs.size=1 then vs[0]else .tuple vs):Sem Value).run P w2=_;rw[Sem.run_bind,Array.mapM_eq_mapM_toList,Sem.run_map,r1];rfl
      .obtain⟨s0,b0,e1,e2⟩:=g4 s b i k r;exact hF.fL s0 b0 i e1 e2
     cases e with
     |normal=>exact fin hq
     |ret=>exact fin hq
     |exit id=>obtain⟨τ,oX,m1,q,_⟩:=hq;exact q.elim
     |goto l=>exact hq.elim
     |panic ch=>exact hq.elim
     |outgrown=>exact hq.elim
    .cases hf
   .cases hf
 .cases hf
theorem ZiS {f:FuncId}{F:aX}{bS:List AV}{B:List (Site×aJ)}{R:AV->List (Site×aJ)->Prop}(hm:P.follows .mixedOrders=true)(hf:fT P f=some F)(hn:bS.length<=F.nt)
  (h:uE P F.code (lA (A8 F.res R)) ⟨eW 0 bS,B⟩):cR P f bS B R:=Hz hm hf hn (fun _ h=>ZsT h) h
section
variable {Q:sC->AS->Prop}{K:AV->AS->Prop}
def again (J:Nat->AS->Prop)(n:Nat)(zA:AS):Prop:=∃k Q8,k<n/\Sub Q8 zA/\J k Q8
def i6:List (Nat×AV)->AS->Prop
 |[],_=>True
 |(t,a)::r,σ=>σ.t t=some a/\i6 r σ
def R0:List (Site×aJ)->AS->Prop
 |[],_=>True
 |(s,b)::r,σ=>σ.b s=some b/\R0 r σ
theorem Zfe:∀{l:List (Nat×AV)},i6 l σ->∀t a,l.lookup t=some a->σ.t t=some a
 |[],_,t,a,h=>by simp[List.lookup]at h
 |(t',a')::r,hs,t,a,h=>by
  by_cases e:t=t'
  .subst e;rw[mT]at h;cases h;exact hs.1
  .rw[jC e]at h;exact Zfe hs.2 t a h
theorem Zh2:∀{l:List (Site×aJ)},R0 l σ->∀s b,l.lookup s=some b->σ.b s=some b
 |[],_,s,b,h=>by simp[List.lookup]at h
 |(s',b')::r,hs,s,b,h=>by
  by_cases e:s=s'
  .subst e;rw[mT]at h;cases h;exact hs.1
  .rw[jC e]at h;exact Zh2 hs.2 s b h
theorem DZ.mk {tm:List (Nat×AV)}{bx:List (Site×aJ)}(h1:i6 tm σ)(h2:R0 bx σ):DZ ⟨tm,bx⟩ σ:=⟨fun t a h=>Zfe h1 t a h,fun s b h=>Zh2 h2 s b h⟩
theorem Sub.mk {tm:List (Nat×AV)}{bx:List (Site×aJ)}(h1:i6 tm σ)(h2:R0 bx σ):Sub ⟨tm,bx⟩ σ:=(DZ.mk h1 h2).sub
theorem ZiU {f:bA}{args:List bA}{d k:Nat}{g:FuncId}{fs xs cs:List PV}{y:PV}(h1:(σ.o f).snap σ k=some (.fn g fs cs))(h2:jE (AV.snap σ k) (args.map σ.o)=some xs)
  (hc:cR P g ((fs++xs++cs).map .pv) [] (fun r _=>r=.pv y)) (hy:y.flat=true) (hK:K (.pv y) σ):yV P f args d K σ:=
 .inl ⟨k,g,fs,xs,cs,h1,h2,hc.mono (fun _ _ h=>⟨y,h,hy,hK⟩)⟩
theorem Zaj (fz:List Site){f:bA}{args:List bA}{d:Nat}{g:FuncId}{fs xs cs:List PV}{y:PV}(h1:(aM fz σ).o f=.pv (.fn g fs cs))(h2:(aM fz σ).tO args=some xs)
  (hc:cR P g ((fs++xs++cs).map .pv) [] (fun r B=>r=.pv y/\B=[])) (hK:K (.pv y) ((aM fz σ).bG d)):yV P f args d K σ:=
 .inr ⟨fz,g,fs,xs,cs,h1,h2,hc.mono (fun _ _ ⟨h,h'⟩=>by subst h h';exact⟨⟨rfl,fun p hp=>by cases hp⟩,hK⟩)⟩
theorem ZqT (fz:List Site){f:bA}{args:List bA}{d:Nat}{g:FuncId}{fs xs cs:List PV}{e n len:Nat}{ys:List PV}(h1:(aM fz σ).o f=.pv (.fn g fs cs))(h2:(aM fz σ).tO args=some xs)
  (hc:cR P g ((fs++xs++cs).map .pv) [] (fun r B=>r=.vec (.ret 0) n 0 len/\B=[(.ret 0,.arr e n ys)])) (hK:K (.vec (.loc d 0) n 0 len) (((aM fz σ).bG d).add (.loc d 0) (.arr e n ys))):yV P f args d K σ:=
 .inr ⟨fz,g,fs,xs,cs,h1,h2,hc.mono (fun _ _ ⟨h,h'⟩=>by subst h h';exact⟨⟨rfl,fun p hp=>by simp at hp;subst hp;exact⟨rfl,rfl⟩⟩,hK⟩)⟩
end
end
def Site.r4:Site->Bool
 |.par _=>true
 |_=>false
def qK:List Nat->List AV->List (Nat×AV)->List (Nat×AV)
 |p::ps,a::bS,tm=>qK ps bS ((p,a)::tm)
 |_,_,tm=>tm
def GH (C:Code×Code)(ps:List Nat)(nt:Nat)(tm:List (Nat×AV))(i:Nat)(R:AV->List (Site×aJ)->Prop)(st:Option Code)(σ:AS):Prop:=
 ∃(fz outs:List Site),outs.all dO=true/\outs.all (fun s=>!decide (s=.par i))=true/\(∀s∈outs,∀b,(aY fz σ).b s=some b->b.dC dO=true)/\
  R (.pv (.bool st.isNone)) ((.par i,.loop C ps nt tm st)::(aY fz σ).exp outs outs)
def Yg (C:Code×Code)(ps:List Nat)(nt:Nat)(tm:List (Nat×AV))(i:Nat)(R:AV->List (Site×aJ)->Prop):sC->AS->Prop
 |.normal,σ=>GH C ps nt tm i R none σ
 |.ret,σ=>GH C ps nt tm i R (some .ret) σ
 |.exit id,σ=>GH C ps nt tm i R (some (.exit id)) σ
mutual
theorem Fs:∀a:AV,a.map id=a
 |.any=>rfl
 |.pv _=>rfl
 |.ptr _ _=>rfl
 |.lB _ _ _ _=>rfl
 |.vec _ _ _ _=>rfl
 |.mp _=>rfl
 |.nJ _=>rfl
 |.fn f fs cs=>by simp only[AV.map,SO fs,SO cs]
 |.agg cs=>by simp only[AV.map,SO cs]
 |.bL vs=>by simp only[AV.map,SO vs]
theorem SO:∀l:List AV,AV.iM id l=l
 |[]=>rfl
 |a::r=>by simp only[AV.iM,Fs a,SO r]
end
section
variable {P:Program}{N:Nat}{w0:World}{m0:Env w0}{pl:List Nat}{σ:AS}{ρ:Site->Loc}{m:Mem}{act:Act}{w:World}
theorem Sat.ZxP (h:Sat N w0 m0 pl σ ρ m act w){Pr:List Nat}(hp:∀k∈pl,k∈Pr)(hz:∀k∈Pr,∀o,m0.m k o=none):Sat N w0 m0 Pr σ ρ m act w:=
 ⟨let ⟨ds,h1,h2,h3⟩:=h.sE;⟨ds,h1,h2,fun D hD=>⟨(h3 D hD).1.imp id (hp D),(h3 D hD).2⟩⟩,h.sz,h.tm,h.bx,h.dY,h.mem,h.eL,fun s b i k r=>(h.fL s b i k r).imp id (hp _),
  ⟨h.keep.os,h.keep.tape,h.keep.output,h.keep.size,fun k h1 h2=>h.keep.block k h1 (fun q=>h2 (hp k q))⟩,⟨h.base.1,hz⟩,fun b o v k=>(h.qC b o v k).imp id (fun q=>q.imp id (hp b)),h.par⟩
theorem OE {ro:Option Nat}{n n':Nat}{c:Code}{Q:Exit->Act->World->Prop}{a:Act}(h:c.wpIn (FF ro) n P Q a w):c.wpIn (FF ro) n' P Q a w:=fun b k cs h1 h2 _=>h b k cs h1 h2 (room_wide _)
theorem Znt {ρ:Site->Loc}{m:Mem}{nt:Nat}:∀(ps:List Nat) (bS:List AV) (vs:List Value) (tm:List (Nat×AV)) (t0:Array Value),ps.length=bS.length->vs.length=bS.length->(∀p∈ps,p<nt)->t0.size=nt->
  (∀(j:Nat) (d:Value) (c:AV),vs[j]?=some d->bS[j]?=some c->bO ρ m d c)->(∀t a,tm.lookup t=some a->∃v,t0[t]?=some v/\bO ρ m v a)->
  ((ps.zip vs).foldl (fun(tmps:Array Value) (x:Nat×Value)=>tmps.setIfInBounds x.1 x.2) t0).size=nt/\
   ∀t a,(qK ps bS tm).lookup t=some a->∃v,((ps.zip vs).foldl (fun(tmps:Array Value) (x:Nat×Value)=>tmps.setIfInBounds x.1 x.2) t0)[t]?=some v/\bO ρ m v a
 |[],bS,vs,tm,t0,h1,h2,h3,h4,h5,h6=>by
  cases bS with
  |nil=>exact⟨by simpa using h4,fun t a k=>by simpa using h6 t a k⟩
  |cons a bS=>simp at h1
 |p::ps,[],vs,tm,t0,h1,h2,h3,h4,h5,h6=>by simp at h1
 |p::ps,a::bS,[],tm,t0,h1,h2,h3,h4,h5,h6=>by simp at h2
 |p::ps,a::bS,v::vs,tm,t0,h1,h2,h3,h4,h5,h6=>by
  simp only[List.zip_cons_cons,List.foldl_cons,qK];refine Znt ps bS vs ((p,a)::tm) (t0.setIfInBounds p v) (by simpa using h1) (by simpa using h2) (fun q hq=>h3 q (by simp[hq])) (by simpa using h4) (fun j d c k1 k2=>h5 (j+1) d c (by simpa using k1) (by simpa using k2)) (fun t b k=>?_);rcases Nat.decEq t p with dA|rfl
  .rw[jC dA]at k;obtain⟨u,k1,k2⟩:=h6 t b k;exact⟨u,by rw[Array.getElem?_setIfInBounds_ne (fun e=>dA e.symm)];exact k1,k2⟩
  .rw[mT]at k;cases k;exact⟨v,by rw[Array.getElem?_setIfInBounds_self_of_lt (by rw[h4];exact h3 _ (by simp))],h5 0 v a rfl rfl⟩
theorem Zg3 (hm:P.follows .mixedOrders=true){C:Code×Code}{ps:List Nat}{nt i:Nat}{tm:List (Nat×AV)}{la lb:bC}(Tj:dQ P nt C.1=some la)(Ti:dQ P nt C.2=some lb){bS:List AV}{B:List (Site×aJ)}
  {R:AV->List (Site×aJ)->Prop} (hB:B.lookup (.par i)=some (.loop C ps nt tm none)) (yD:ps.length=bS.length) (P7:∀p∈ps,p<nt) (w9:AV.gW Site.r4 (tm.map (·.2))=true)
  (h:uE P la (iO (uE P lb (Yg C ps nt tm i R)) (fun _ _=>False)) ⟨qK ps bS tm,B.filter fun p=>!decide (p.1=.par i)⟩):FL P i bS B R:=by
 intro w m ρ vs tZ ⟨mN,Te,HM⟩ P6 lG;obtain⟨BT,r,u1,u2,u3,u4,u5,u6,u7,u8⟩:=tZ.bx _ _ hB;refine⟨r,u1,by rw[u4,P6];simpa using yD.symm,?_⟩;obtain⟨l,hl⟩:∃l,l=(ρ (.par i)).b:=⟨_,rfl⟩;rw[<-hl]at u1 ⊢;have Jn:l<w.heap.size:=(qE.1 u1).1;obtain⟨B1,De⟩:∃B1,B1=B.filter fun p=>!decide (p.1=.par i):=⟨_,rfl⟩
 rw[<-De]at h;have oK:∀s b,B1.lookup s=some b->B.lookup s=some b/\s≠.par i:=fun s b k=>by
  rw[De,show List.lookup s (B.filter fun p=>!decide (p.1=.par i))=_ from TG (fun x=>!decide (x=.par i)) s B]at k;split at k
  .rename_i dA;exact⟨k,by simpa using dA⟩
  .cases k
 have lZ:∀k,k∈cJ ρ w B1->k∈cJ ρ w B:=fun k hk=>by
  obtain⟨p,hp,e⟩:=SV.1 hk;exact SV.2 ⟨p,by rw[De]at hp;exact(iU.1 hp).1,e⟩
 obtain⟨AY,PO⟩:∃AY,AY=(cJ ρ w B1).filter (fun k=>!decide (k=l)):=⟨_,rfl⟩;have oY:l∉AY:=by rw[PO];simp
 have Jo:l∈cJ ρ w B:=by rw[hl];exact XD hB (xN BT)
 have zK:∀k∈AY,k∈cJ ρ w B:=fun k hk=>lZ k (by rw[PO]at hk;exact(iU.1 hk).1)
 have fH:=Znt (ρ:=ρ) (m:=m) (nt:=nt) ps bS vs.toList tm r.tmps yD (by simpa using P6) P7 u7 (fun j d c k1 k2=>lG j d c (by simpa using k1) k2) u8;have tE:(r.params.zip vs).foldl (fun tmps (x:Nat×Value)=>tmps.setIfInBounds x.1 x.2) r.tmps=(ps.zip vs.toList).foldl (fun(tmps:Array Value) (x:Nat×Value)=>tmps.setIfInBounds x.1 x.2) r.tmps:=by
  rw[u4,<-Array.foldl_toList];simp
 have hS:Sat nt w ⟨m,ρ,[],Te,false⟩ AY ⟨qK ps bS tm,B1⟩ ρ m { tmps:=(r.params.zip vs).foldl (fun tmps (x:Nat×Value)=>tmps.setIfInBounds x.1 x.2) r.tmps,defers:=[]} w:=by
  rw[tE];refine⟨⟨[],B7,xZ,fun D hD=>by cases hD⟩,fH.1,fH.2,fun s b k=>tZ.bx s b (oK s b k).1,fun s s' b b' i k k'=>tZ.dY s s' b b' i (oK s b k).1 (oK s' b' k').1,mN,fun s b i k=>tZ.eL s b i (oK s b k).1,fun s b j k r'=>.inr ?_,cW.tI _ _,⟨Le.refl _,fun k hk=>tZ.free HM k (zK k hk)⟩,fun b o v k=>.inl k,fun i=>rfl⟩;rw[PO];refine iU.2 ⟨XD k r',?_⟩
  have:j≠l:=fun e=>(oK s b k).2 (tZ.dY s _ b _ j (oK s b k).1 hB r' (by rw[e,hl];exact xN BT))
  simpa using this
 refine roundIn_of_wpIn trivial ?_;have QI:Fl (some l) w AY:=fun l' e=>by cases e;exact⟨⟨r,u1⟩,oY⟩
 have hwa:=XJ QI hm C.1 la _ (fun e=>by cases e) Tj h hS;rw[<-u5]at hwa;refine wpIn_mono (OE hwa) ?_;intro e yQ w1 hq;cases e with
 |normal=>
  obtain⟨XX,oX,m1,hb,wI⟩:=hq;have v1:w1.heap[l]?=some (.loop r):=(wI.keep.block l Jn oY).trans u1;refine⟨_,run_beginRound v1 u2,?_⟩;obtain⟨w2,sO⟩:∃w2,w2=w1.putObj l (.loop { r with state:=.busy }):=⟨_,rfl⟩;rw[<-sO];have v2:w2.heap[l]?=some (.loop { r with state:=.busy }):=by rw[sO];exact World.putObj_heap_same (qE.1 v1).1
  have ZQ:cW [l] w1 w2:=by rw[sO];exact Hy _ _ _
  have Qb:∀s b,XX.b s=some b->¬fK oX w1 s b l:=fun s b k rr=>by
   rcases wI.fL s b l k rr with q|q
   .omega
   .exact oY q
  have Px:∀s b j,XX.b s=some b->fK oX w2 s b j->j≠l:=fun s b j k rr e=>by
   subst e;refine Qb s b k (((wI.bx s b k).dS (fun r=>ZQ.block _ (wI.lt k r) ?_)).1 rr);rw[rY];intro e2;exact Qb s b k (.inl ⟨r,e2⟩)
  have S7:∀o,m1 l o=none:=fun o=>by
   cases hv:m1 l o with
   |none=>rfl
   |some v=>
    have:=wI.mem l o v hv
    simp[World.mem,World.cell?,v1]at this
  have mV:Sat nt w ⟨m,ρ,[],Te,false⟩ (l::AY) XX oX m1 yQ w2:=(wI.ZxP (fun k hk=>by simp[hk]) (fun k hk=>by
   rcases jN.1 hk with rfl|hk
   .exact tZ.free HM _ Jo
   .exact tZ.free HM k (zK k hk))).write (k:=l) Qb S7 (.inr (by simp)) (.inl (by rw[v1];simp)) ZQ
  obtain⟨GP,PN⟩:∃GP,GP=(AY++List.range' w.heap.size (w2.heap.size-w.heap.size)).filter (fun k=>@decide (∀o,m1 k o=none) (Classical.propDecidable _)):=⟨_,rfl⟩;have in2:∀b,(w.heap.size<=b\/b∈l::AY)->b<w2.heap.size->b≠l->(∀o,m1 b o=none)->b∈GP:=fun b hb aI dA hz=>by
   rw[PN];refine iU.2 ⟨?_,by simpa using hz⟩;rw[sI];rcases hb with hb|hb
   .exact .inr (List.mem_range'_1.2 ⟨hb,by omega⟩)
   .rcases jN.1 hb with hb|hb
    .exact absurd hb dA
    .exact .inl hb
  have GQ:∀b∈GP,w.heap.size<=b\/b∈AY:=fun b hb=>by
   rw[PN]at hb;have hb:=(iU.1 hb).1;rw[sI]at hb;rcases hb with hb|hb
   .exact .inr hb
   .exact .inl (List.mem_range'_1.1 hb).1
  have qZ:l∉GP:=fun hb=>by
   rcases GQ l hb with q|q
   .omega
   .exact oY q
  have P5:∀k∈GP,∀o,m1 k o=none:=fun k hk=>by
   rw[PN]at hk;simpa using(iU.1 hk).2
  have Va:Sat nt w2 ⟨m1,oX,[],mV.uB,false⟩ GP XX oX m1 yQ w2:=
   ⟨let ⟨ds,h1,h2,h3⟩:=mV.sE;⟨ds,h1,h2,fun D hD=>⟨.inr (in2 D (h3 D hD).1 (qE.1 (h3 D hD).2).1 (fun e=>by have:=(h3 D hD).2;rw[e,v2]at this;cases this) (fun o=>by
    cases hv:m1 D o with
    |none=>rfl
    |some v=>
     have:=mV.mem D o v hv
     simp[World.mem,World.cell?,(h3 D hD).2]at this)),(h3 D hD).2⟩⟩,mV.sz,mV.tm,mV.bx,mV.dY,mV.mem,mV.eL,
    fun s b j k rr=>.inr (in2 _ (mV.fL s b j k rr) (mV.G1 k rr) (Px s b j k rr) (mV.eL s b j k rr)),cW.tI _ _,⟨Le.refl _,fun k hk=>P5 k hk⟩,fun b o v k=>.inl k,fun i=>rfl⟩
  have QH:Fl (some l) w2 GP:=fun l' e=>by cases e;exact⟨⟨_,v2⟩,qZ⟩
  have PD:=XJ QH hm C.2 lb _ (fun e=>by cases e) Ti hb Va;rw[<-u6]at PD;refine wpIn_mono (OE PD) ?_;have fin:∀(st:Option Code) (qR:Act) (w3:World),F8 nt w2 ⟨m1,oX,[],mV.uB,false⟩ GP (GH C ps nt tm i R st) qR w3->∃v w',(Instr.endRound l st).run P w3=.ok v w'/\lE w m ρ B R (.returned v) w':=by
   rintro st qR w3 ⟨τ,TO,m3,⟨fz,outs,q1,j5,q2,q3⟩,Q0⟩;obtain⟨m4,hF⟩:=Q0.aY fz;obtain⟨bV,g1,g2,g3,g4⟩:=Lu hF q1 q2;have v3:w3.heap[l]?=some (.loop { r with state:=.busy }):=(hF.keep.block l (qE.1 v2).1 qZ).trans v2;have dF:=run_endRound (P:=P) st v3;obtain⟨w4,ZZ⟩:∃w4,w4=w3.putObj l (.loop { { r with state:=.busy }with state:=if st.isNone then .ready else .done,pending:=st }):=⟨_,rfl⟩;rw[<-ZZ]at dF;have v4:w4.heap[l]?=some (.loop { { r with state:=.busy }with state:=if st.isNone then .ready else .done,pending:=st }):=by rw[ZZ];exact World.putObj_heap_same (qE.1 v3).1
   have R4:cW [l] w3 w4:=by rw[ZZ];exact Hy _ _ _
   have J3:∀j,bV (.par j)=ρ (.par j):=fun j=>(g3 j).trans ((hF.par j).trans (wI.par j))
   have yH:Le m m4:=wI.base.1.trans hF.base.1;have Qw:w.heap.size<=w2.heap.size:=mV.keep.size;have Qa:∀s b,(aY fz τ).b s=some b->¬fK TO w3 s b l:=fun s b k rr=>by
    rcases hF.fL s b l k rr with q|q
    .omega
    .exact qZ q
   have ON:∀s b,((aY fz τ).exp outs outs).lookup s=some b->¬fK bV w3 s b l:=fun s b k rr=>by
    obtain⟨s0,b0,e1,e2⟩:=g4 s b l k rr;exact Qa s0 b0 e1 e2
   have KU:∀s b,((aY fz τ).exp outs outs).lookup s=some b->∀j,fK bV w3 s b j->w4.heap[j]?=w3.heap[j]?:=fun s b k j rr=>R4.block _ (by
    obtain⟨s0,b0,e1,e2⟩:=g4 s b j k rr;exact hF.G1 e1 e2) (by
    rw[rY];intro e;subst e;exact ON s b k rr)
   have zU:∀s b,((aY fz τ).exp outs outs).lookup s=some b->∀j,fK bV w4 s b j->fK bV w3 s b j:=fun s b k j rr=>((g2.bx s b k).dS (fun r=>KU s b k _ (xN r))).1 rr
   have Aw:∀o,m4 l o=none:=fun o=>by
    cases hv:m4 l o with
    |none=>rfl
    |some v=>
     have:=hF.mem l o v hv
     simp[World.mem,World.cell?,v3]at this
   refine⟨_,w4,dF,.bool st.isNone,.pv (.bool st.isNone),_,bV,m4,rfl,q3,?_,?_,?_,?_,?_,?_,.pv _ _ (.bool _),?_⟩
   .refine⟨fun s b k=>?_,fun s s' b b' j k k' rr KX=>?_,fun s b j k rr o=>?_⟩
    .by_cases hs:s=.par i
     .subst hs;rw[mT]at k;cases k;refine⟨by rw[J3];exact BT,{ { r with state:=.busy }with state:=if st.isNone then .ready else .done,pending:=st },by rw[J3,<-hl];exact v4,by cases st<;>rfl,rfl,u4,u5,u6,u7,fun t a k=>?_⟩;obtain⟨v,k1,k2⟩:=u8 t a k;obtain⟨j,hj⟩:=ZdR k;have k3:=k2.more yH;have k4:=k3.map (g:=id) (bV:=bV) (q:=Site.r4) (fun s hs=>by
       cases s with
       |par i=>exact J3 i
       |_=>cases hs) (V3 w9 hj)
      rw[Fs]at k4;exact⟨v,k1,k4⟩
     .rw[jC hs]at k;exact(g2.bx s b k).more (Le.refl _) (KU s b k)
    .by_cases hs:s=.par i<;>by_cases X5:s'=.par i
     .rw[hs,X5]
     .subst hs;rw[mT]at k;cases k;rw[jC X5]at k';have e:=(DW rfl rr).2;rw[J3,<-hl]at e;subst e;exact absurd (zU s' b' k' _ KX) (ON s' b' k')
     .subst X5;rw[mT]at k';cases k';rw[jC hs]at k;have e:=(DW rfl KX).2;rw[J3,<-hl]at e;subst e;exact absurd (zU s b k _ rr) (ON s b k)
     .rw[jC hs]at k;rw[jC X5]at k';exact g2.dY s s' b b' j k k' (zU s b k _ rr) (zU s' b' k' _ KX)
    .by_cases hs:s=.par i
     .subst hs;rw[mT]at k;cases k;have e:=(DW rfl rr).2;rw[J3,<-hl]at e;subst e;exact Aw o
     .rw[jC hs]at k;exact g2.eL s b j k (zU s b k _ rr) o
   .exact yH
   .intro b o v hv;have h1:=hF.mem b o v hv;refine(World.cell?_of_block (a:=⟨b,o,none⟩) (R4.block b (AG h1) ?_)).trans h1;rw[rY];intro e;have e':b=l:=e;subst e';rw[Aw o]at hv;cases hv
   .exact J3
   .intro s b j k rr;by_cases hs:s=.par i
    .subst hs;rw[mT]at k;cases k;have e:=(DW rfl rr).2;rw[J3,<-hl]at e;subst e;exact .inr Jo
    .rw[jC hs]at k;obtain⟨s0,b0,e1,e2⟩:=g4 s b j k (zU s b k _ rr);rcases hF.fL s0 b0 j e1 e2 with q|q
     .exact .inl (lC Qw q)
     .exact(GQ _ q).imp id (zK _)
   .intro b o v hv;rcases hF.qC b o v hv with q|q|q
    .rcases mV.qC b o v q with q|q|q
     .exact .inl q
     .exact .inr (.inl q)
     .rcases jN.1 q with q|q
      .subst q;exact .inr (.inr Jo)
      .exact .inr (.inr (zK _ q))
    .exact .inr (.inl (lC Qw q))
    .exact .inr ((GQ _ q).imp id (zK _))
   .have k1:=mV.keep;have k3:=hF.keep;refine⟨R4.os.trans (k3.os.trans k1.os),R4.tape.trans (k3.tape.trans k1.tape),R4.output.trans (k3.output.trans k1.output),lC Qw (lC k3.size R4.size),fun k hk hn=>?_⟩;have xG:k≠l:=fun e=>hn (e▸Jo)
    have gZ:k∉AY:=fun q=>hn (zK _ q)
    have a1:=k1.block k hk (by simp[xG,gZ]);have a2:=k3.block k (by omega) (fun q=>by
     rcases GQ k q with q|q
     .omega
     .exact gZ q)
    have a3:=R4.block k (by have:=k3.size;omega) (by simpa using xG);exact a3.trans (a2.trans a1)
  intro e qR w3 UT;cases e with
  |normal=>exact fin none qR w3 UT
  |ret=>exact fin (some .ret) qR w3 UT
  |exit id=>exact fin (some (.exit id)) qR w3 UT
  |goto t=>exact UT.elim
  |panic ch=>exact UT.elim
  |outgrown=>exact UT.elim
 |ret=>obtain⟨_,_,_,q,_⟩:=hq;exact q.elim
 |exit id=>obtain⟨_,_,_,q,_⟩:=hq;exact q.elim
 |goto t=>exact hq.elim
 |panic ch=>exact hq.elim
 |outgrown=>exact hq.elim
end
section
universe u
section
variable {α:Type u}
end
theorem ZrJ (a b:Nat):Nat.beq a b=decide (a=b):=by
 cases h:Nat.beq a b with
 |true=>rw[Nat.eq_of_beq_eq_true h];simp
 |false=>
  have:a≠b:=fun e=>by subst e;rw[Nat.beq_refl]at h;cases h
  simp[this]
def Site.NI (d:Nat):Site->Bool
 |.loc e _=>Nat.beq d e
 |_=>false
theorem Site.ZwS (d:Nat)(s:Site):s.NI d=s.fP d:=by
 cases s with
 |loc e j=>
  show Nat.beq d e=(d==e);rw[ZrJ];rfl
 |_=>rfl
def Site.Eo:Site->Site->Bool
 |.par i,.par j=>Nat.beq i j
 |.loc a b,.loc c d=>Nat.beq a c&&Nat.beq b d
 |.ret i,.ret j=>Nat.beq i j
 |_,_=>false
theorem Site.ZxL (s t:Site):s.Eo t=decide (s=t):=by
 cases s<;>cases t<;>simp only[Site.Eo,ZrJ]<;>simp
theorem Site.Zw8 (s t:Site):s.Eo t=(s==t):=by rw[Site.ZxL];rfl
def AV.Xa (d:Nat)(a:AV):Bool:=match a with
 |.pv _=>false
 |.any=>false
 |.ptr s _=>s.NI d
 |.lB s _ _ _=>s.NI d
 |.vec s _ _ _=>s.NI d
 |.mp s=>s.NI d
 |.nJ s=>s.NI d
 |a=>a.has d
theorem AV.ZxI (d:Nat)(a:AV):a.Xa d=a.has d:=by cases a<;>simp[AV.Xa,AV.has,Site.ZwS]
def AV.tK (d:Nat)(a:AV):AV:=match a.Xa d with
 |true=>.any
 |false=>a
theorem AV.r7 (d:Nat)(a:AV):a.tK d=a.bG d:=by
 unfold AV.tK AV.bG;rw[AV.ZxI];cases a.has d<;>rfl
def aJ.tK (d:Nat):aJ->aJ
 |.cells bS=>.cells (bS.map (AV.tK d))
 |.loop C ps nt tm st=>.loop C ps nt (tm.map fun p=>(p.1,p.2.tK d)) st
 |b=>b
theorem aJ.r7 (d:Nat)(b:aJ):b.tK d=b.bG d:=by
 have h:AV.tK d=AV.bG d:=funext (AV.r7 d);cases b<;>simp[aJ.tK,aJ.bG,h]
def AS.tK (d:Nat)(σ:AS):AS:=⟨σ.tm.map fun p=>(p.1,p.2.tK d),(σ.bx.filter fun p=>!p.1.NI d).map fun p=>(p.1,p.2.tK d)⟩
theorem AS.r7 (d:Nat)(σ:AS):σ.tK d=σ.bG d:=by
 have h:AV.tK d=AV.bG d:=funext (AV.r7 d);have h2:aJ.tK d=aJ.bG d:=funext (aJ.r7 d);have h3:Site.NI d=Site.fP d:=funext (Site.ZwS d);simp only[AS.tK,AS.bG,h,h2,h3]
def W5 {β:Type}(s:Site):List (Site×β)->Option β
 |[]=>none
 |(a,b)::r=>match s.Eo a with
  |true=>some b
  |false=>W5 s r
theorem Zk1 {β:Type}(s:Site):∀l:List (Site×β),W5 s l=l.lookup s
 |[]=>rfl
 |(a,b)::r=>by
  unfold W5;rw[List.lookup,Site.Zw8,Zk1 s r];cases(s==a)<;>rfl
def AS.bF (σ:AS)(s:Site):Option aJ:=W5 s σ.bx
theorem AS.NJ (σ:AS)(s:Site):σ.bF s=σ.b s:=Zk1 s σ.bx
def GZ (s:Site):List Site->Bool
 |[]=>false
 |a::r=>match s.Eo a with
  |true=>true
  |false=>GZ s r
theorem ZnU (s:Site):∀l:List Site,GZ s l=l.contains s
 |[]=>rfl
 |a::r=>by
  unfold GZ;rw[List.contains_cons,Site.Zw8,ZnU s r];cases(s==a)<;>rfl
end
def jQ (z:Int):Option Nat:=match decide (0<=z)with
 |true=>some z.toNat
 |false=>none
theorem KC {z:Int}{n:Nat}:jQ z=some n↔z=n:=by
 unfold jQ;by_cases h:0<=z
 .simp[h];omega
 .simp[h];omega
def FN (n:Nat)(x:PV):Bool:=(x.cells.length==n)&&((AV.pv x).wide||(AV.pv x).one)
def GS (l:V5)(d:Nat)(σ:AS):Option (AV×AS):=
 match l with
 |.eqv neg kt x y=>match σ.o x,σ.o y with
  |.pv a,.pv b=>match kt.ok a&&kt.ok b with
   |true=>some (.pv (.bool (gR a b != neg)),σ)
   |false=>none
  |_,_=>none
 |.F9=>some (.mp (.loc d 0),(σ.tK d).add (.loc d 0) (.map []))
 |.look kt z ok x i=>match σ.o i with
  |.pv k=>match kt.ok k with
   |true=>match σ.o x with
    |.mp s=>match σ.bF s with
     |some (.map es)=>match zZ kt es with
      |true=>some (gI ok (eX k es) z,σ)
      |false=>none
     |_=>none
    |.pv .cT=>some (gI ok none z,σ)
    |_=>none
   |false=>none
  |_=>none
 |.iK kt x i v=>match σ.o i with
  |.pv k=>match kt.ok k with
   |true=>match σ.o x with
    |.mp s=>match(σ.wV (σ.o v)).bF s,(σ.wV (σ.o v)).o v with
     |some (.map es),.pv val=>match zZ kt es with
      |true=>some (.any,(σ.wV (σ.o v)).set s (.map (mK k val es)))
      |false=>none
     |_,_=>none
    |_=>none
   |false=>none
  |_=>none
 |.BB x=>match σ.o x with
  |.mp s=>match σ.bF s with
   |some (.map es)=>some (.pv (.int .i64 es.length),σ)
   |_=>none
  |.pv .cT=>some (.pv (.int .i64 0),σ)
  |_=>none
 |.copy n x y=>match σ.cont (σ.o y) n with
  |some ys=>match σ.o x with
   |.pv (.emp _)=>some (.pv (.int .i64 0),σ)
   |.vec s n' lo len=>match σ.bF s with
    |some (.arr e eT xs)=>match(n'==n)&&(eT==n)&&Nat.ble (lo+len) xs.length with
     |true=>some (.pv (.int .i64 (ys.take len).length),σ.set s (.arr e n (aR xs lo (ys.take len))))
     |false=>none
    |_=>none
   |_=>none
  |none=>none
 |.clear n z x=>match σ.o x with
  |.pv (.emp _)=>some (.pv (.bL []),σ)
  |.vec s n' lo len=>match σ.bF s with
   |some (.arr e eT xs)=>match(n'==n)&&(eT==n)&&Nat.ble (lo+len) xs.length with
    |true=>some (.pv (.bL []),σ.set s (.arr e n (aR xs lo (List.replicate len z))))
    |false=>none
   |_=>none
  |_=>none
 |.ED n x hi=>match σ.o hi with
  |.pv (.int _ h)=>match jQ h with
   |some k=>match σ.o x with
    |.ptr s off=>match σ.bF s with
     |some (.cells gE)=>match eA gE with
      |some xs=>match Nat.ble k n&&Nat.ble (off+n) xs.length with
       |true=>some (.pv (.aF false 1 ((xs.drop off).take k)),σ.cD s)
       |false=>none
      |none=>none
     |_=>none
    |.pv (.ref xs)=>match Nat.ble k n&&Nat.ble n xs.length with
     |true=>some (.pv (.aF false 1 (xs.take k)),σ)
     |false=>none
    |_=>none
   |none=>none
  |_=>none
 |.YI _ _ _ _=>none
 |.rI x=>match σ.o x with
  |.pv (.str s)=>some (.pv (.int .i64 s.size),σ)
  |_=>none
 |.A5 x i=>match σ.o x,σ.o i with
  |.pv (.str s),.pv (.int _ z)=>match AP s z with
   |some b=>some (.pv (.int .u8 b.toNat),σ)
   |none=>none
  |_,_=>none
 |.TT x lo hi=>match σ.o x with
  |.pv (.str s)=>match σ.ob lo 0,σ.ob hi s.size with
   |some l,some h=>match jQ l,jQ h with
    |some i,some j=>match Nat.ble i j&&Nat.ble j s.size with
     |true=>some (.pv (.str (s.extract i j)),σ)
     |false=>none
    |_,_=>none
   |_,_=>none
  |_=>none
 |.rK x y=>match σ.o x,σ.o y with
  |.pv (.str a),.pv (.str b)=>match Nat.ble (a.size+b.size) 9223372036854775807 with
   |true=>some (.pv (.str (a++b)),σ)
   |false=>none
  |_,_=>none
 |.AO _ x=>match σ.o x with
  |.pv (.str s)=>match Nat.ble s.size 1000000 with
   |true=>some (.pv (.aF false 1 (qG s)),σ)
   |false=>none
  |_=>none
 |.TU x=>match σ.cont (σ.o x) 1 with
  |some xs=>match DT xs with
   |some ns=>some (.pv (.str (NP ns)),σ)
   |none=>none
  |none=>none
 |.sF t x=>match σ.o x with
  |.pv a=>some (.pv (.iface t a),σ)
  |_=>none
 |.LF neg x=>match σ.o x with
  |.pv .eV=>some (.pv (.bool (!neg)),σ)
  |.pv (.iface _ _)=>some (.pv (.bool neg),σ)
  |_=>none
 |.KR t z x=>match σ.o x with
  |.pv .eV=>some (.pv (.bL [z,.bool false]),σ)
  |.pv (.iface u a)=>some (.pv (.bL (if u=t then[a,.bool true]else[z,.bool false])),σ)
  |_=>none
 |.B3 _=>none
 |.Ek _ _=>none
 |.VQ e n bytes x y=>match σ.o y with
  |.pv (.str s0)=>match σ.o x with
   |.pv (.emp _)=>match Nat.ble (qG s0).length 1000000&&Nat.ble bytes 1000 with
    |true=>some (.vec (.loc d 0) n 0 (qG s0).length,(σ.tK d).add (.loc d 0) (.arr e n (qG s0)))
    |false=>none
   |.vec s n' lo len=>match σ.bF s with
    |some (.arr e' eT xs)=>match(e'==e)&&(n'==n)&&(eT==n)&&(lo+len==xs.length)&&Nat.ble (len+(qG s0).length) 1000000&&Nat.ble bytes 1000 with
     |true=>some (.vec (.loc d 0) n 0 (len+(qG s0).length),((σ.drop s).tK d).add (.loc d 0) (.arr e n (xs.drop lo++qG s0)))
     |false=>none
    |_=>none
   |_=>none
  |_=>none
theorem IL {a b:Nat}(h1:a<=1000000)(h2:b<=1000):a*b<=140737488355328/\a<=9223372036854775807:=
 ⟨lC (Nat.mul_le_mul h1 h2) (by decide),by omega⟩
theorem ZlT {l:V5}{d:Nat}{σ τ:AS}{a:AV}{K:AV->AS->Prop}(h:GS l d σ=some (a,τ))(hK:K a τ):cC l d K σ:=by
 cases l
 all_goals
  simp only[GS,AS.r7,AS.NJ]at h;simp only[cC]
  repeat' split at h
  all_goals first
   |(cases h;done)
   |(cases h;simp_all;done)
   |(cases h;simp_all;exact IL (by omega) (by omega))
   |(cases h;simp_all;omega)
   |(cases h;simp_all [KC];done)
   |(cases h;simp_all [KC];omega)
def EE (l:lU)(d:Nat)(σ:AS):Option (AV×AS):=
 match l with
 |.dV x=>some (σ.o x,σ)
 |.pick c a b=>match σ.o c with
  |.pv (.bool true)=>some (σ.o a,σ)
  |.pv (.bool false)=>some (σ.o b,σ)
  |_=>none
 |.bin bt op x y=>match σ.o x,σ.o y with
  |.pv (.int k a),.pv (.int k' b)=>match DF op k k' a b with
   |some r=>some (.pv r,σ)
   |none=>none
  |.pv (.bool a),.pv (.bool b)=>match bt with
   |true=>match DG op a b with
    |some r=>some (.pv r,σ)
    |none=>none
   |false=>none
  |_,_=>none
 |.not x=>match σ.o x with
  |.pv (.bool a)=>some (.pv (.bool (!a)),σ)
  |_=>none
 |.neg x=>match σ.o x with
  |.pv (.int k a)=>some (.pv (.int k (k.wrap (0-a))),σ)
  |_=>none
 |.yA k neg x=>match dH k (σ.o x)with
  |some b=>some (.pv (.bool (b != neg)),σ)
  |none=>none
 |.x y=>GS y d σ
 |.box n x=>let a:=(σ.tK d).o x
  match(a.cells.length==n)&&(a.wide||a.one)with
  |true=>some (.ptr (.loc d 0) 0,(σ.tK d).add (.loc d 0) (.cells a.cells))
  |false=>none
 |.alloc z=>some (.ptr (.loc d 0) 0,(σ.tK d).add (.loc d 0) (.cells (z.cells.map .pv)))
 |.build z ps=>match wJ σ (z.cells.map .pv) ps with
  |some l=>some (s5 l,σ)
  |none=>none
 |.aQ e n ps=>match(σ.DN ps).tO ps with
  |some []=>some (.pv (.emp (some false)),σ)
  |some (x::xs)=>match(x::xs).all (FN n)with
   |true=>some (.vec (.loc d 0) n 0 (x::xs).length,((σ.DN ps).tK d).add (.loc d 0) (.arr e n (x::xs)))
   |false=>none
  |none=>none
 |.load row n x=>match σ.o x with
  |.pv (.ref cs)=>match row with
   |true=>match Nat.ble n cs.length with
    |true=>some (.pv (.agg (cs.take n)),σ)
    |false=>none
   |false=>match cs with
    |c::_=>some (.pv c,σ)
    |[]=>none
  |.ptr s off=>match σ.bF s with
   |some (.cells bS)=>match row with
    |true=>match Nat.ble (off+n) bS.length with
     |true=>some (s5 ((bS.drop off).take n),σ)
     |false=>none
    |false=>match bS[off]? with
     |some a=>some (a,σ)
     |none=>none
   |_=>none
  |.lB s n' i off=>match σ.bF s with
   |some (.arr _ eT xs)=>match xs[i]? with
    |some x=>match n'==eT with
     |true=>match row with
      |true=>match Nat.ble (off+n) x.cells.length with
       |true=>some (.pv (.agg ((x.cells.drop off).take n)),σ)
       |false=>none
      |false=>match x.cells[off]? with
       |some c=>some (.pv c,σ)
       |none=>none
     |false=>none
    |none=>none
   |_=>none
  |_=>none
 |.store n x y=>match σ.o x with
  |.ptr s off=>match σ.bF s with
   |some (.cells bS)=>let a:=σ.o y
    match(a.cells.length==n)&&(a.wide||a.one)&&Nat.ble (off+n) bS.length with
    |true=>some (.any,σ.set s (.cells (aR bS off a.cells)))
    |false=>none
   |_=>none
  |.lB s n' i off=>match(σ.wV (σ.o y)).bF s,(σ.wV (σ.o y)).o y with
    |some (.arr e eT xs),.pv p=>match xs[i]? with
     |some x=>match(n'==eT)&&Nat.blt 0 n&&FN n p&&Nat.ble (off+n) x.cells.length with
      |true=>some (.any,(σ.wV (σ.o y)).set s (.arr e eT (xs.set i (setAt x off p))))
      |false=>none
     |none=>none
    |_,_=>none
  |_=>none
 |.fa off x=>match σ.o x with
  |.pv (.ref cs)=>match Nat.ble off cs.length with
   |true=>some (.pv (.ref (cs.drop off)),σ)
   |false=>none
  |.ptr s o=>some (.ptr s (o+off),σ)
  |.lB s n i o=>some (.lB s n i (o+off),σ)
  |_=>none
 |.MT row off n x=>let a:=σ.o x
  match a.wide with
  |true=>match row with
   |true=>match Nat.ble (off+n) a.cells.length with
    |true=>some (s5 ((a.cells.drop off).take n),σ)
    |false=>none
   |false=>match a.cells[off]? with
    |some c=>some (c,σ)
    |none=>none
  |false=>none
 |.ia n arr x i=>match σ.o i with
  |.pv (.int _ zi)=>match jQ zi with
   |none=>none
   |some z=>match arr with
    |none=>match σ.o x with
     |.pv (.aF _ n' xs)=>match xs[z]? with
      |some y=>match n'==n with
       |true=>some (.pv (.ref y.cells),σ)
       |false=>none
      |none=>none
     |.vec s n' lo len=>match(n'==n)&&Nat.blt z len with
      |true=>some (.lB s n (lo+z) 0,σ)
      |false=>none
     |_=>none
    |some l=>match Nat.blt z l with
     |true=>match σ.o x with
      |.pv (.ref cs)=>match Nat.ble (z*n) cs.length with
       |true=>some (.pv (.ref (cs.drop (z*n))),σ)
       |false=>none
      |.ptr s o=>some (.ptr s (o+z*n),σ)
      |.lB s n' j o=>some (.lB s n' j (o+z*n),σ)
      |_=>none
     |false=>none
  |_=>none
 |.len arr x=>match arr with
  |some l=>some (.pv (.int .i64 l),σ)
  |none=>match σ.o x with
   |.pv (.aF _ _ xs)=>some (.pv (.int .i64 xs.length),σ)
   |.pv (.emp _)=>some (.pv (.int .i64 0),σ)
   |.vec _ _ _ len=>some (.pv (.int .i64 len),σ)
   |_=>none
 |.ext x i=>match σ.o x with
  |.pv (.bL vs)=>match vs[i]? with
   |some v=>some (.pv v,σ)
   |none=>none
  |.bL vs=>match vs[i]? with
   |some v=>some (v,σ)
   |none=>none
  |_=>none
 |.yB f fs cs=>match σ.tO fs,σ.tO cs with
  |some a,some b=>some (.pv (.fn f a b),σ)
  |_,_=>some (.fn f (fs.map σ.o) (cs.map σ.o),σ)
 |.vN x=>match σ.o x with
  |.pv (.ref cs)=>some (.pv (.ref cs),σ)
  |.ptr s o=>some (.ptr s o,σ)
  |.lB s n i o=>some (.lB s n i o,σ)
  |_=>none
 |.iW mx x y=>match σ.o x,σ.o y with
  |.pv (.int k a),.pv (.int _ b)=>some (.pv (.int k (if mx=true then(if b>a then b else a)else(if b<a then b else a))),σ)
  |_,_=>none
 |.conv k x=>match σ.o x with
  |.pv (.int _ a)=>some (.pv (.int k (k.wrap a)),σ)
  |_=>none
 |.app e n bytes x y=>match σ.cont (σ.o y) n with
  |some ys=>match σ.o x with
   |.pv (.emp _)=>match Nat.ble ys.length 1000000&&Nat.ble bytes 1000 with
    |true=>some (.vec (.loc d 0) n 0 ys.length,(σ.tK d).add (.loc d 0) (.arr e n ys))
    |false=>none
   |.vec s n' lo len=>match σ.bF s with
    |some (.arr e' eT xs)=>match(e'==e)&&(n'==n)&&(eT==n)&&(lo+len==xs.length)&&Nat.ble (len+ys.length) 1000000&&Nat.ble bytes 1000 with
     |true=>some (.vec (.loc d 0) n 0 (len+ys.length),((σ.drop s).tK d).add (.loc d 0) (.arr e n (xs.drop lo++ys)))
     |false=>none
    |_=>none
   |_=>none
  |none=>none
 |.jA e n bytes x y=>match σ.cont (σ.o y) n with
  |some ys=>match σ.o x with
   |.pv (.emp _)=>match Nat.ble ys.length 1000000&&Nat.ble bytes 1000 with
    |true=>some (.vec (.loc d 0) n 0 ys.length,(σ.tK d).add (.loc d 0) (.arr e n ys))
    |false=>none
   |_=>none
  |none=>none
 |.UC e n bytes z l c=>match σ.o l,σ.o c with
  |.pv (.int _ ai),.pv (.int _ bi)=>match jQ ai,jQ bi with
   |some a,some b=>match Nat.ble a b&&Nat.ble b 1000000&&Nat.ble bytes 1000 with
    |true=>some (.vec (.loc d 0) n 0 a,(σ.tK d).add (.loc d 0) (.arr e n (List.replicate a z)))
    |false=>none
   |_,_=>none
  |_,_=>none
 |.I9 n none x lo hi none=>match σ.ob lo 0 with
  |some li=>match jQ li with
   |none=>none
   |some l=>match σ.o x with
    |.pv (.aF nn n' xs)=>match σ.ob hi xs.length with
     |some hh=>match jQ hh with
      |some h=>match Nat.ble l h&&Nat.ble h xs.length&&(n'==n)with
       |true=>some (.pv (.aF nn n ((xs.take h).drop l)),σ)
       |false=>none
      |none=>none
     |none=>none
    |.pv (.emp nl)=>match σ.ob hi 0 with
     |some hh=>match jQ hh with
      |some h=>match(l==0)&&(h==0)with
       |true=>some (.pv (.emp nl),σ)
       |false=>none
      |none=>none
     |none=>none
    |.vec s n' OS len=>match σ.ob hi len with
     |some hh=>match jQ hh with
      |some h=>match Nat.ble l h&&Nat.ble h len&&(n'==n)with
       |true=>some (.vec s n (OS+l) (h-l),σ)
       |false=>none
      |none=>none
     |none=>none
    |_=>none
  |none=>none
 |_=>none
theorem ZnJ {l:lU}{d:Nat}{σ τ:AS}{a:AV}{K:AV->AS->Prop}(h:EE l d σ=some (a,τ))(hK:K a τ):bY l d K σ:=by
 cases l
 case x y=>exact ZlT h hK
 case aQ e n ps=>
  simp only[EE,AS.r7,AS.NJ]at h;simp only[bY];cases hx:(σ.DN ps).tO ps with
  |none=>rw[hx]at h;cases h
  |some xs=>
   rw[hx]at h;cases xs with
   |nil=>cases h;exact hK
   |cons x r=>
    dsimp only at h ⊢;split at h
    .rename_i eS;cases h;refine⟨fun y hy=>?_,hK⟩
     have:=rC.1 eS y hy
     simpa[FN]using this
    .cases h
 case iW mx x y=>
  simp only[EE,AS.r7,AS.NJ]at h;simp only[bY];split at h
  .rename_i e1 e2;cases h;rw[e1,e2];exact hK
  .cases h
 case store n x y=>
  simp only[EE,AS.r7,AS.NJ]at h;simp only[bY];split at h
  .rename_i s off e1;rw[e1];dsimp only;split at h
   .rename_i bS hb;rw[hb];dsimp only;split at h
    .rename_i hc;cases h;simp only[dJ,beq_iff_eq,rV,Nat.ble_eq]at hc;exact⟨hc.1.1,hc.1.2,hc.2,hK⟩
    .cases h
   .cases h
  .rename_i s n' i off e1;rw[e1];dsimp only;split at h
   .rename_i e eT xs p pP hp;rw[pP,hp];dsimp only;split at h
    .rename_i x hx;rw[hx];dsimp only;split at h
     .rename_i hc;cases h;simp only[dJ,beq_iff_eq,Nat.ble_eq,FN,rV]at hc;exact⟨hc.1.1.1,tH hc.1.1.2,hc.1.2.1,hc.1.2.2,hc.2,hK⟩
     .cases h
    .cases h
   .cases h
  .cases h
 case app e n bytes x y=>
  simp only[EE,AS.r7,AS.NJ]at h;simp only[bY]
  repeat' split at h
  all_goals first
   |contradiction
   |(cases h;done)
   |(cases h;simp_all [FN,KC];exact IL (by omega) (by omega))
   |(cases h;simp_all [FN,KC];exact .inl (IL (by omega) (by omega)))
 case yB f fs cs=>
  simp only[EE,AS.r7,AS.NJ]at h;simp only[bY];cases h1:σ.tO fs<;>cases h2:σ.tO cs<;>(rw[h1,h2]at h;cases h;exact hK)
 all_goals
  simp only[EE,AS.r7,AS.NJ]at h;simp only[bY]
  repeat' split at h
  all_goals first
   |contradiction
   |(cases h;done)
   |(cases h;simp_all [FN,KC];done)
   |(cases h;simp_all [FN,KC];omega)
   |(cases h;simp_all [FN,KC];exact IL (by omega) (by omega))
def DR:List Site->Bool
 |[]=>true
 |s::r=>!GZ s r&&DR r
theorem SY:∀{l:List Site},DR l=true->l.Nodup
 |[],_=>List.nodup_nil
 |s::r,h=>by
  simp only[DR,dJ,Bool.not_eq_true']at h;exact List.nodup_cons.2 ⟨by have:=h.1;rw[ZnU]at this;simpa using this,SY h.2⟩
def mQ:AV->Option (FuncId×List AV×List AV)
 |.fn g fs cs=>some (g,fs,cs)
 |.pv (.fn g fs cs)=>some (g,fs.map .pv,cs.map .pv)
 |_=>none
abbrev TJ:=Nat->List Nat->Option (bC×bC×(Code×Code))
def fuel:Nat:=4000
mutual
def PV.beq:PV->PV->Bool
 |.int k a,.int k' b=>decide (k=k')&&decide (a=b)
 |.bool a,.bool b=>decide (a=b)
 |.str a,.str b=>decide (a.data.toList=b.data.toList)
 |.eU,.eU=>true
 |.dP,.dP=>true
 |.cT,.cT=>true
 |.eV,.eV=>true
 |.P3,.P3=>true
 |.emp a,.emp b=>decide (a=b)
 |.aF a n xs,.aF b m ys=>decide (a=b)&&decide (n=m)&&PV.DL xs ys
 |.ref xs,.ref ys=>PV.DL xs ys
 |.fn f a b,.fn g c d=>decide (f=g)&&PV.DL a c&&PV.DL b d
 |.agg xs,.agg ys=>PV.DL xs ys
 |.bL xs,.bL ys=>PV.DL xs ys
 |.iface t x,.iface u y=>decide (t=u)&&PV.beq x y
 |_,_=>false
def PV.DL:List PV->List PV->Bool
 |[],[]=>true
 |x::xs,y::ys=>PV.beq x y&&PV.DL xs ys
 |_,_=>false
end
def yZ (P:Program)(TY:TJ):bC->Prop
 |.seq a b=>yZ P TY a/\yZ P TY b
 |.cond _ a b=>yZ P TY a/\yZ P TY b
 |.block _ c=>yZ P TY c
 |.loop c=>yZ P TY c
 |.vE nt _ C la lb ps=>dQ P nt C.1=some la/\dQ P nt C.2=some lb/\TY nt ps=some (la,lb,C)/\yZ P TY la/\yZ P TY lb
 |_=>True
def kQ (TY:TJ):bC->Prop
 |.seq a b=>kQ TY a/\kQ TY b
 |.cond _ a b=>kQ TY a/\kQ TY b
 |.block _ c=>kQ TY c
 |.loop c=>kQ TY c
 |.vE nt _ C la lb ps=>TY nt ps=some (la,lb,C)/\kQ TY la/\kQ TY lb
 |_=>True
theorem Ztn {P:Program}{TY:TJ}{N:Nat}:∀(c:Code) (l:bC),dQ P N c=some l->kQ TY l->yZ P TY l:=by
 intro c;induction c with
 |seq a b R7 l8=>
  intro l h ht;simp only[dQ]at h;split at h
  .rename_i x y h1 h2;cases h;exact⟨R7 _ h1 ht.1,l8 _ h2 ht.2⟩
  .cases h
 |cond c a b R7 l8=>
  intro l h ht;simp only[dQ]at h;split at h
  .rename_i c' x y h0 h1 h2;cases h;exact⟨R7 _ h1 ht.1,l8 _ h2 ht.2⟩
  .cases h
 |block id c ih=>
  intro l h ht;simp only[dQ,dZ]at h;obtain⟨x,k1,rfl⟩:=h;exact ih x k1 ht
 |loop c ih=>
  intro l h ht;simp only[dQ,dZ]at h;obtain⟨x,k1,rfl⟩:=h;exact ih x k1 ht
 |scope c ih=>intro l h ht;exact ih l h ht
 |rangeFunc g ps a b R7 l8=>
  intro l h ht;simp only[dQ]at h;split at h
  .rename_i g' x y h0 h1 h2;cases h;exact⟨h1,h2,ht.1,R7 _ h1 ht.2.1,l8 _ h2 ht.2.2⟩
  .cases h
 |region id ops draw=>
  intro l h ht;simp only[dQ]at h;split at h
  .cases h;trivial
  .split at h
   .simp only[dZ]at h;obtain⟨x,_,rfl⟩:=h;trivial
   .cases h
 |_=>intro l h ht;simp[dQ]at h<;>subst h<;>trivial
section
variable {P:Program}{TY:TJ}
theorem ZnI {l:lU}{d:Nat}{σ:AS}{K K':AV->AS->Prop}(hk:∀a τ,K a τ->K' a τ)(h:bY l d K σ):bY l d K' σ:=by
 cases l
 case x y=>
  simp only[bY]at h ⊢;cases y
  all_goals
   simp only[cC]at h ⊢
   repeat' split at h
   all_goals first
    |exact h.elim
    |exact hk _ _ h
    |exact⟨h.1,hk _ _ h.2⟩
    |exact⟨h.1,h.2.1,hk _ _ h.2.2⟩
    |(simp_all;done)
    |(simp_all<;>first|exact hk _ _ h.2|exact hk _ _ h|exact hk _ _ h.2.2)
 case iW mx x y=>
  simp only[bY]at h ⊢;split at h
  .exact hk _ _ h
  .exact h.elim
 case app e n bytes x y=>
  simp only[bY]at h ⊢;split at h
  .split at h
   .exact⟨h.1,h.2.1,hk _ _ h.2.2⟩
   .split at h
    .exact h.imp (fun h=>⟨h.1,h.2.1,h.2.2.1,hk _ _ h.2.2.2⟩) (fun h=>⟨h.1,h.2.1,h.2.2.1,hk _ _ h.2.2.2.1,hk _ _ h.2.2.2.2⟩)
    .exact h.elim
   .exact h.elim
  .exact h.elim
 all_goals
  simp only[bY]at h ⊢
  repeat' split at h
  all_goals first
   |exact h.elim
   |(simp_all;done)
   |(simp_all<;>first|exact hk _ _ h.2|exact hk _ _ h|exact hk _ _ h.2.2)
theorem ZjY {f:bA}{args:List bA}{d:Nat}{σ:AS}{K K':AV->AS->Prop}(hk:∀a τ,K a τ->K' a τ)(h:yV P f args d K σ):yV P f args d K' σ:=by
 rcases h with⟨k,g,fs,xs,cs,h1,h2,h3⟩|⟨fz,g,fs,xs,cs,h1,h2,h3⟩
 .exact .inl ⟨k,g,fs,xs,cs,h1,h2,h3.mono (fun _ _ ⟨y,e1,e2,e3⟩=>⟨y,e1,e2,hk _ _ e3⟩)⟩
 .exact .inr ⟨fz,g,fs,xs,cs,h1,h2,h3.mono (fun _ _ ⟨e1,e2⟩=>⟨e1,hk _ _ e2⟩)⟩
theorem ZiW {f:bA}{args:List bA}{σ:AS}{K K':AV->AS->Prop}(hk:∀a τ,K a τ->K' a τ)(h:FQ P f args K σ):FQ P f args K' σ:=by
 obtain⟨d,fz,aE,g,fs,cs,B,h1,h2,h3,h4,h5,h6⟩:=h;exact⟨d,fz,aE,g,fs,cs,B,h1,h2,h3,h4,h5,h6.mono (fun _ _ ⟨e1,e2,e3⟩=>⟨e1,e2,hk _ _ e3⟩)⟩
theorem ZiV {f:bA}{args:List bA}{σ:AS}{K K':AV->AS->Prop}(hk:∀a τ,K a τ->K' a τ)(h:FP P f args K σ):FP P f args K' σ:=by
 obtain⟨d,fz,aE,s,i,B,h1,h2,h3,h4,h5,h6,h7⟩:=h;refine⟨d,fz,aE,s,i,B,h1,h2,h3,h4,h5,h6,fun w m ρ vs a1 a2 a3 a4=>?_⟩;obtain⟨r,k1,k2,k3⟩:=h7 w m ρ vs a1 a2 a3 a4;exact⟨r,k1,k2,k3.mono (fun e w' ⟨v,r,B',bV,m',q1,⟨e1,e2,e3⟩,q2⟩=>⟨v,r,B',bV,m',q1,⟨e1,e2,hk _ _ e3⟩,q2⟩)⟩
theorem Zgo {o:LO}{σ:AS}{K K':AV->AS->Prop}(hk:∀a τ,K a τ->K' a τ)(h:lV P o K σ):lV P o K' σ:=by
 unfold lV at h ⊢;split at h
 .rcases h with h|⟨aI,h|h⟩
  .exact Or.inl (ZjY hk h)
  .exact Or.inr ⟨aI,Or.inl (ZiW hk h)⟩
  .exact Or.inr ⟨aI,Or.inr (ZiV hk h)⟩
 .exact ZnI hk h
theorem NZ {o:LO}{σ:AS}{K K':AS->Prop}(hk:∀τ,K τ->K' τ)(h:pM P o K σ):pM P o K' σ:=by
 unfold pM at h ⊢;split at h
 .exact Zgo (fun a τ q=>hk _ q) h
 .split at h
  .split at h
   .rename_i e;rw[if_pos e];exact Zgo (fun a τ q=>hk _ q) h
   .rename_i e;rw[if_neg e];exact hk _ h
  .exact hk _ h
  .exact h.elim
theorem Zgw:∀{l:List LO} {σ:AS} {K K':AS->Prop},(∀τ,K τ->K' τ)->oH P l K σ->oH P l K' σ
 |[],σ,K,K',hk,h=>hk _ h
 |o::r,σ,K,K',hk,h=>NZ (fun τ q=>Zgw hk q) h
theorem Hn:∀{l:LT} {σ:AS} {K K':AS->Prop},(∀τ,K τ->K' τ)->vJ P l K σ->vJ P l K' σ
 |.done,σ,K,K',hk,h=>hk _ h
 |.op o t,σ,K,K',hk,h=>NZ (fun τ q=>Hn hk q) h
 |.alt o t r,σ,K,K',hk,h=>⟨NZ (fun τ q=>Hn hk q) h.1,Hn hk h.2⟩
 |.no,σ,K,K',hk,h=>trivial
 |.seq t r,σ,K,K',hk,⟨J,h1,h2⟩=>⟨J,h1,fun τ q=>Hn hk (h2 τ q)⟩
theorem ZlZ {Q Q':sC->AS->Prop}(hk:∀e τ,Q e τ->Q' e τ):∀{st:Option Code} {σ:AS},kX Q st σ->kX Q' st σ:=by
 intro st σ h;cases st with
 |none=>exact hk _ _ h
 |some c=>cases c<;>first|exact hk _ _ h|exact h.elim
theorem JX:∀{c:bC} {σ:AS} {Q Q':sC->AS->Prop},uE P c Q σ->(∀e τ,Q e τ->Q' e τ)->uE P c Q' σ
 |.skip,σ,Q,Q',h,hk=>hk _ _ h
 |.region ops,σ,Q,Q',h,hk=>Zgw (fun τ q=>hk _ _ q) h
 |.jG t,σ,Q,Q',h,hk=>Hn (fun τ q=>hk _ _ q) h
 |.seq a b,σ,Q,Q',h,hk=>JX (c:=a) h (fun e τ q=>by
   cases e with
   |normal=>exact JX (c:=b) q hk
   |exit id=>exact hk _ _ q
   |ret=>exact hk _ _ q)
 |.cond c a b,σ,Q,Q',h,hk=>by
   unfold uE at h ⊢;split at h
   .split at h
    .rename_i e;rw[if_pos e];exact JX h hk
    .rename_i e;rw[if_neg e];exact JX h hk
   .exact h.elim
 |.block id c,σ,Q,Q',h,hk=>JX (c:=c) h (fun e τ q=>by
   cases e with
   |normal=>exact hk _ _ q
   |exit LQ=>
    by_cases e:LQ=id
    .simp only[c7,e,if_true]at q ⊢;exact hk _ _ q
    .simp only[c7,e,if_false]at q ⊢;exact hk _ _ q
   |ret=>exact hk _ _ q)
 |.loop c,σ,Q,Q',⟨I,n,τ,h1,h2,h3⟩,hk=>⟨I,n,τ,h1,h2,fun n τ hI=>JX (c:=c) (h3 n τ hI) (fun e τ q=>by
   cases e with
   |normal=>exact q
   |exit id=>exact hk _ _ q
   |ret=>exact hk _ _ q)⟩
 |.exit id,σ,Q,Q',h,hk=>hk _ _ h
 |.ret,σ,Q,Q',h,hk=>hk _ _ h
 |.vE nt g C la lb ps,σ,Q,Q',⟨Nz,Ai,fz,aE,tm,lJ,gf,fs,cs,B,h1,h2,h3,h4,h5,h6,h7,h8⟩,hk=>⟨Nz,Ai,fz,aE,tm,lJ,gf,fs,cs,B,h1,h2,h3,h4,h5,h6,h7,h8.mono (fun r B' ⟨e1,e2,e3⟩=>⟨e1,e2,by
   revert e3;cases(((cO aE lJ).bG (nt+1)).lT (eZ aE (nt+1) B')).b (.loc nt 0)with
   |none=>exact fun h=>h.elim
   |some b=>cases b<;>first|exact fun h=>h.elim|exact fun h=>ZlZ hk h⟩)⟩
end
section
variable {P:Program}{TY:TJ}
theorem FL.mono {i:Nat}{bS:List AV}{B:List (Site×aJ)}{nX O9:AV->List (Site×aJ)->Prop}(h:FL P i bS B nX)(hp:∀r B',nX r B'->O9 r B'):FL P i bS B O9:=
 fun w m ρ vs a1 a2 a3 a4=>let ⟨r,k1,k2,k3⟩:=h w m ρ vs a1 a2 a3 a4;⟨r,k1,k2,k3.mono (fun e w' ⟨v,r,B',bV,m',q1,q2,q3⟩=>⟨v,r,B',bV,m',q1,hp _ _ q2,q3⟩)⟩
mutual
theorem PV.beq_eq:∀(x y:PV),x.beq y=true->x=y
 |.int k a,y,h=>by cases y<;>simp[PV.beq]at h;rw[h.1,h.2]
 |.bool a,y,h=>by cases y<;>simp[PV.beq]at h;rw[h]
 |.str a,y,h=>by
  cases y<;>simp[PV.beq]at h;rename_i b;obtain⟨a⟩:=a;obtain⟨b⟩:=b
  have:a=b:=h
  rw[this]
 |.eU,y,h=>by cases y<;>simp[PV.beq]at h<;>rfl
 |.dP,y,h=>by cases y<;>simp[PV.beq]at h<;>rfl
 |.cT,y,h=>by cases y<;>simp[PV.beq]at h<;>rfl
 |.eV,y,h=>by cases y<;>simp[PV.beq]at h<;>rfl
 |.P3,y,h=>by cases y<;>simp[PV.beq]at h<;>rfl
 |.emp a,y,h=>by cases y<;>simp[PV.beq]at h;rw[h]
 |.aF a n xs,y,h=>by
  cases y<;>simp[PV.beq]at h;rw[h.1.1,h.1.2,PV.SG _ _ h.2]
 |.ref xs,y,h=>by cases y<;>simp[PV.beq]at h;rw[PV.SG _ _ h]
 |.fn f a b,y,h=>by
  cases y<;>simp[PV.beq]at h;rw[h.1.1,PV.SG _ _ h.1.2,PV.SG _ _ h.2]
 |.agg xs,y,h=>by cases y<;>simp[PV.beq]at h;rw[PV.SG _ _ h]
 |.bL xs,y,h=>by cases y<;>simp[PV.beq]at h;rw[PV.SG _ _ h]
 |.iface t x,y,h=>by
  cases y<;>simp[PV.beq]at h;rw[h.1,PV.beq_eq _ _ h.2]
theorem PV.SG:∀(x y:List PV),PV.DL x y=true->x=y
 |[],[],_=>rfl
 |[],_::_,h=>by simp[PV.DL]at h
 |_::_,[],h=>by simp[PV.DL]at h
 |x::xs,y::ys,h=>by
  simp only[PV.DL,dJ]at h;rw[PV.beq_eq _ _ h.1,PV.SG _ _ h.2]
end
end
def FX:Code->List (Code×Code)
 |.seq a b=>FX a++FX b
 |.cond _ a b=>FX a++FX b
 |.block _ c=>FX c
 |.loop c=>FX c
 |.scope c=>FX c
 |.rangeFunc _ _ a b=>(a,b)::(FX a++FX b)
 |_=>[]
def fQ (P:Program)(f:FuncId)(k:Nat):Code×Code:=match P.funcs[f]? with
 |some fn=>match fn.body with
  |some c=>(FX c).getD k (.skip,.skip)
  |none=>(.skip,.skip)
 |none=>(.skip,.skip)
def pG (l:List ((Nat×List Nat)×(bC×bC×(Code×Code)))):TJ:=fun nt ps=>l.lookup (nt,ps)
theorem Fy {P:Program}{TY:TJ}{f:FuncId}{F:aX}(h:fT P f=some F)(ht:kQ TY F.code):yZ P TY F.code:=by
 unfold fT at h;split at h
 .split at h
  .cases h
  .split at h
   .split at h
    .rename_i l r h1 h2;cases h;exact Ztn _ _ h1 ht
    .cases h
   .cases h
 .cases h
section
open Go.RowKit Go.ChangeShapes Go.WideShapes
theorem cW.but {w w':World}(h:cW [] w w')(may:MemPlace->Prop):w.keptBut w' may:=
 ⟨h.os,h.output,fun i hi=>by
  rw[h.block i hi (by simp)];cases w.heap[i]? with
  |none=>rfl
  |some o=>cases o<;>first|exact⟨rfl,rfl,rfl,fun _ _=>rfl⟩|exact .inr ⟨rfl,rfl⟩|rfl⟩
theorem Znx {H:Type}{enc:TypeId×Value->H}{P:Program}{f:Func}{s:ChangeSpec}{apart fresh handsOn again:Bool}{W W':World}{args:Array Value}{v:Value}{ds gs:List (DataW H)}{before pa pv:List MemPlace}
  (hW:DataW.Whole enc P f.params.toList s.vars apart W args.toList ds gs before)
  (eM:∀(b:Nat) (sp:Nat->Bool) (hd:Bool),DataW.TrodAll enc P W' b sp hd f.resultTypes.toList (v.resultList f.resultTypes.size) (s.fn H (ds++gs)).results [])
  (fX:∀sp:Nat->Bool,(∀p∈before,sp p.block=true)->DataW.TrodAll enc P W' 0 sp true f.params.toList args.toList (s.fn H (ds++gs)).args pa)
  (K2:∀sp:Nat->Bool,(∀p∈before,sp p.block=true)->DataW.TrodVars enc P W' sp s.vars (s.fn H (ds++gs)).vars pv)
  (yD:before=pa++pv) (hk:cW [] W W')
  (cZ:∀(j:Nat) (t:TypeId) (r:Value),f.resultTypes[j]?=some t->(v.resultList f.resultTypes.size)[j]?=some r->Value.okWide P W' .any 0 t r):
  s.post enc P f apart fresh handsOn again W args v W':=by
 have aI:=fun p hp=>hW.lt p hp
 have hold:∀p∈before,(fun b=>decide (b<W.heap.size)) p.block=true:=fun p hp=>by simpa using hW.lt p hp
 refine⟨ds,gs,before,[],pa,pv,hW,eM _ _ _,fX _ hold,K2 _ hold,World.keptBut_mono (fun p hp=>⟨hp,?_⟩) (hk.but (·∈before)),fun _=>?_⟩
 .rw[yD,sI]at hp;exact Or.inr hp
 .obtain⟨_,_,_,_,_,hz,hn⟩:=hW;refine⟨cZ,_,_,([]++pa)++pv,⟨[]++pa,pv,trodAll_append (fX _ (fun _ _=>rfl)) (eM _ _ _),K2 _ (fun _ _=>rfl),rfl,?_,?_⟩,?_⟩
  .intro b off hp;have LX:MemPlace.cell b off∈before:=by rw[yD];simpa using hp
   have hb:b<W.heap.size:=aI _ LX
   have:=hz b off LX
   unfold World.frozen? at this ⊢;rw[hk.block b hb (by simp)];exact this
  .intro ha
   have:=hn ha
   rw[yD]at this;simpa using this
  .intro p hp _;rw[yD];simpa using hp
theorem Zl8 {P:Program}{f:FuncId}{xs:List PV}{b:Bool}(h:cR P f (xs.map .pv) [] (fun r _=>r=.pv (.bool b))){w:World}{vs:Array Value}(hl:vs.size=xs.length)(hv:∀(j:Nat) (v:Value) (x:PV),vs[j]?=some v->xs[j]?=some x->dG w.mem v x)(hg:nI w.mem w:=by exact trivial):
  Calls P f vs w fun e w'=>e=.returned (.bool b)/\cW [] w w':=by
 refine(h.2 w w.mem (fun _=>default) vs (vA.nil _ _ _) ⟨Le.refl _,hg,List.nodup_nil⟩ (by simpa using hl) (fun j d c h1 h2=>?_)).mono fun e w' ⟨v,r,B',bV,m',he,hr,_,_,_,_,_,_,lG,hk⟩=>?_
 .rw[bW]at h2;obtain⟨x,k1,rfl⟩:=dZ.1 h2;exact .pv _ _ (hv j d x h1 k1)
 .subst hr;rw[lG.NL]at he;exact⟨he,hk⟩
end
section
open Go.RowKit Go.ChangeShapes Go.WideShapes Go.Deep
section
variable {H:Type}{enc:TypeId×Value->H}{P:Program}{w W W':World}{sp:Nat->Bool}{held:Bool}
theorem Zrh {b o n:Nat}{cs:List Value}(h:w.cells? 0 ⟨b,o,none⟩ n=some cs):At w.mem b o cs:=by
 obtain⟨_,h1,h2⟩:=World.cells?_some h;refine At.b9 fun j u hj=>?_
 have aI:=(bZ.1 hj).1;have h3:=h2 j (by omega);rw[hj]at h3;have e:(⟨b,o,none⟩:Addr).add j=⟨b,o+j,none⟩:=by
  unfold Addr.add;split
  .rename_i h0;subst h0;rfl
  .rfl
 rw[e]at h3;exact h3
structure F7 (m:Mem)(n:Nat)(cs:List Value)(x:PV):Prop where
 l1:cs.length=n
 l2:x.cells.length=n
 one:∀d∈cs,d.oneCell'=true
 rd:∀(j:Nat) (d:Value) (c:PV),cs[j]?=some d->x.cells[j]?=some c->dG m d c
theorem ZjQ {α β:Type}{p:Nat->α->β->Prop}:∀(l:List α),(∀(i:Nat) (a:α),l[i]?=some a->∃b,p i a b)->∃r:List β,r.length=l.length/\∀(i:Nat) (a:α) (b:β),l[i]?=some a->r[i]?=some b->p i a b:=by
 intro l;induction l generalizing p with
 |nil=>exact fun _=>⟨[],rfl,fun i a b h=>by simp at h⟩
 |cons x l ih=>
  intro h;obtain⟨b,hb⟩:=h 0 x rfl;obtain⟨r,h1,h2⟩:=ih (p:=fun i=>p (i+1)) (fun i a ha=>h (i+1) a (by simpa using ha));refine⟨b::r,by simp[h1],fun i a b' ha nL=>?_⟩;cases i with
  |zero=>simp at ha nL;subst ha nL;exact hb
  |succ i=>exact h2 i a b' (by simpa using ha) (by simpa using nL)
theorem ZpH {α:Type}{t e:TypeId}{n:Nat}(f:α->PV)(Q:α->Prop)(ht:P.underlying t=some (.slice e))(hn:P.cellsOf e=n){fuel:Nat}{v:Value}{x:DataW H×List MemPlace}(h:DataW.trod enc P w 0 sp held fuel t [v]=some x)
  (hs:∀a len cap,v=.slice (some a) len cap->a.spot=none) (he:∀(k:Nat) (cs:List Value) (y:DataW H×List MemPlace),DataW.trod enc P w 0 sp held k e cs=some y->cs.length=n->∃a:α,Q a/\F7 w.mem n cs (f a)):
  ∃l:List α,(∀a∈l,Q a)/\l.length<=9223372036854775807/\dG w.mem v (.aF false n (l.map f)):=by
 rcases open_slice ht h with⟨h0,_⟩|⟨a,len,cap,m,k,D,Pl,h0,_,hl,hc,hm,_,hx⟩
 .have:v=.slice none 0 0:=by simpa using h0
  subst this;refine⟨[],fun a ha=>by simp at ha,by simp,?_⟩;exact .aF none 0 false n [] (fun _=>[]) (by simp) (by simp) (fun _=>rfl) (fun A hA=>by cases hA) (fun hh=>by cases hh) (fun i x hx=>by simp at hx) (fun i x hx=>by simp at hx) (fun i x j d c hx=>by simp at hx)
 .have hv:v=.slice (some a) len cap:=by simpa using h0
  subst hv;have jJ:=hs _ _ _ rfl;obtain⟨b,o,s⟩:=a;simp only at jJ;subst jJ;have S7:len<=m:=by rw[hm];split<;>omega
  have QO:∀(i:Nat) (u:Nat),(List.range len)[i]?=some u->∃z:List Value×α,Q z.2/\At w.mem b (o+i*n) z.1/\F7 w.mem n z.1 (f z.2):=by
   intro i u hu;have hi:i<len:=by have:=(bZ.1 hu).1;simpa using this
   obtain⟨iH,h1,h2⟩:=hx i (by omega);rw[hn]at h1;obtain⟨_,hlen,_⟩:=World.cells?_some h1;obtain⟨z,W9,P5⟩:=he _ _ _ h2 hlen;refine⟨(iH,z),W9,?_,P5⟩;have e:(⟨b,o,none⟩:Addr).add (i*n)=⟨b,o+i*n,none⟩:=by
    unfold Addr.add;split
    .rename_i h0;rw[h0];rfl
    .rfl
   rw[e]at h1;exact Zrh h1
  obtain⟨r,C8,C7⟩:=ZjQ (List.range len) QO;simp only[List.length_range]at C8;have X6:∀(i:Nat) (z:List Value×α),r[i]?=some z->Q z.2/\At w.mem b (o+i*n) z.1/\F7 w.mem n z.1 (f z.2):=fun i z hz=>by
   have hi:i<len:=by have:=(bZ.1 hz).1;omega
   exact C7 i i z (by simp[hi]) hz
  refine⟨r.map (·.2),fun a ha=>?_,?_,?_⟩
  .obtain⟨z,hz,rfl⟩:=iI.1 ha;obtain⟨i,hi⟩:=iJ.1 hz;exact(X6 i z hi).1
  .rw[fV,C8];have:maxLen=9223372036854775807:=rfl;omega
  .have hlen:((r.map (·.2)).map f).length=len:=by simp[C8]
   have key:∀(i:Nat) (x:PV),((r.map (·.2)).map f)[i]?=some x->∃z,r[i]?=some z/\x=f z.2:=fun i x hx=>by
    rw[List.map_map,bW]at hx;obtain⟨z,h1,h2⟩:=dZ.1 hx;exact⟨z,h1,h2.symm⟩
   have QP:∀(i:Nat) (z:List Value×α),r[i]?=some z->(r.getD i ([],z.2)).1=z.1:=fun i z hz=>by simp[List.getD_eq_getElem?_getD,hz]
   have wF:∀(i:Nat) (z:List Value×α),r[i]?=some z->(match r[i]? with|some z=>z.1|none=>[])=z.1:=fun i z hz=>by rw[hz]
   rw[<-hlen];refine .aF (some ⟨b,o,none⟩) cap false n _ (fun i=>match r[i]? with|some z=>z.1|none=>[]) (by omega) (by have:maxLen=9223372036854775807:=rfl;omega) (fun hh=>by cases hh) (fun A hA=>by cases hA;rfl) (fun hh=>by cases hh) (fun i x hx=>?_) (fun i x hx=>?_) (fun i x j d c hx=>?_)
   .obtain⟨z,hz,rfl⟩:=key i x hx;refine⟨b,o,rfl,?_⟩;rw[wF i z hz];exact(X6 i z hz).2.1
   .obtain⟨z,hz,rfl⟩:=key i x hx;rw[wF i z hz];exact⟨(X6 i z hz).2.2.l1,(X6 i z hz).2.2.l2,(X6 i z hz).2.2.one⟩
   .obtain⟨z,hz,rfl⟩:=key i x hx;rw[wF i z hz];exact(X6 i z hz).2.2.rd j d c
theorem Zmi (hl:laidOutB P=true)(hm:mapsRowed P=true)(CI:((List.range P.types.size).all fun t=>match P.underlying t with|some (.slice e)=>decide (0<P.cellsOf e)|_=>true)=true){ts:List TypeId}(Jj:∀t∈ts,t<P.types.size)
  {vs:List Value} {ds:List (DataW H)} {p:List MemPlace} (h:DataW.TrodAll enc P W 0 (fun _=>true) true ts vs ds p) (hp:∀x∈p,sp x.block=true) (hk:cW [] W W'):DataW.TrodAll enc P W' 0 sp true ts vs ds p:=by
 have h1:=DataW.TrodAll.respare (kids_rows hl hm) (slices_full_of P CI) Jj h hp;clear h hp;induction ts generalizing vs ds p with
 |nil=>
  obtain⟨rfl,rfl,rfl⟩:=trodAll_nil h1;exact trodAll_mk0
 |cons t ts ih=>
  obtain⟨v,YE,d,ds',a,b,rfl,rfl,rfl,⟨n,hn⟩,h2⟩:=trodAll_cons h1;refine⟨a,b,⟨n,DataW.trod_carry n _ _ _ hn fun x hx=>?_⟩,ih (fun t ht=>Jj t (by simp[ht])) h2,rfl⟩;have aI:=DataW.trod_lt n _ _ _ hn x hx;cases x with
  |cell b o=>
   show W'.cell? _=W.cell? _;unfold World.cell?;rw[hk.block b aI (by simp)]
  |map b=>
   show W'.heap[b]?=W.heap[b]?;rw[hk.block b aI (by simp)]
theorem ZpN {f:Func}{s:ChangeSpec}{args:Array Value}{ds gs:List (DataW H)}{before:List MemPlace}{tb:TypeId}(hl:laidOutB P=true)(hm:mapsRowed P=true)(CI:((List.range P.types.size).all fun t=>match P.underlying t with|some (.slice e)=>decide (0<P.cellsOf e)|_=>true)=true)
  (Jj:∀t∈f.params.toList,t<P.types.size) (K2:s.vars=[]) (hs:s.fn H (ds++gs)={ results:=[.lit (.bool true)],args:=ds }) (eM:f.resultTypes=#[tb]) (htb:P.underlying tb=some .bool)
  (hW:DataW.Whole enc P f.params.toList s.vars false W args.toList ds gs before) (hk:cW [] W W'):s.post enc P f false true false false W args (.bool true) W':=by
 have Uw:=hW;obtain⟨p,q,hA,hV,rfl,hfz,pX⟩:=hW;rw[K2]at hV;obtain⟨rfl,rfl⟩:=trodVars_none hV;refine Znx (pa:=p) (pv:=[]) Uw (fun b sp hd=>?_) (fun sp jJ=>?_) (fun sp jJ=>?_) rfl hk ?_
 .rw[hs,eM];exact trodAll_cons_mk (shut_bool htb _) trodAll_mk0
 .rw[hs];exact Zmi hl hm CI Jj hA (fun x hx=>jJ x (by simp[hx])) hk
 .rw[hs,K2];rfl
 .intro j t r h1 h2;rw[eM]at h1 h2;exact ok_one (f:=f) eM rfl (okWide_bool_mk htb _) j t r (by rw[eM];exact h1) (by rw[eM];exact h2)
end
end
section
open Go.RowKit Go.ChangeShapes Go.WideShapes Go.Deep
section
variable {H:Type}{enc:TypeId×Value->H}{P:Program}{w W W':World}{sp:Nat->Bool}{held:Bool}
theorem Zni {α:Type}{t e:TypeId}{n:Nat}(f:α->PV)(Q:α->Prop)(ht:P.underlying t=some (.slice e))(hn:P.cellsOf e=n)(xF:0<n){fuel:Nat}{v:Value}{x:DataW H×List MemPlace}(h:DataW.trod enc P w 0 sp held fuel t [v]=some x)
  (he:∀(k:Nat) (cs:List Value) (y:DataW H×List MemPlace),DataW.trod enc P w 0 sp held k e cs=some y->cs.length=n->∃a:α,Q a/\F7 w.mem n cs (f a)):
  ∃l:List α,(∀a∈l,Q a)/\l.length<=9223372036854775807/\dG w.mem v (.aF false n (l.map f)):=by
 by_cases hv:∃a cap,v=.slice (some a) 0 cap/\cap<=maxLen
 .obtain⟨a,cap,rfl,hc⟩:=hv;refine⟨[],fun a ha=>by simp at ha,by simp,?_⟩;have sU:cap<=9223372036854775807:=by have:maxLen=9223372036854775807:=rfl;omega
  exact .aF (some a) cap false n [] (fun _=>[]) (by simp) sU (fun e=>by cases e) (fun _ _=>rfl) (fun hh=>by cases hh) (fun i x hx=>by simp at hx) (fun i x hx=>by simp at hx) (fun i x j d c hx=>by simp at hx)
 .refine ZpH f Q ht hn h (fun a len cap e=>?_) he;subst e;rcases open_slice ht h with⟨h0,_⟩|⟨a',Qv,IU,m,k,D,Pl,h0,_,hl,hc,hm,_,hx⟩
  .simp at h0
  .simp at h0;obtain⟨rfl,rfl,rfl⟩:=h0;have hlen:0<len:=by
    rcases Nat.eq_zero_or_pos len with e|e
    .subst e;exact absurd ⟨a,cap,rfl,hc⟩ hv
    .exact e
   have S7:len<=m:=by rw[hm];split<;>omega
   obtain⟨cs,h1,_⟩:=hx 0 (by omega);obtain⟨_,h2,h3⟩:=World.cells?_some h1;have h4:=h3 0 (by omega);rw[bB (by omega)]at h4
   have:=World.cell?_spot h4
   simpa[Addr.add]using this
end
end
def aD (P:Program)(f:FuncId)(xs:List PV)(y:PV):Prop:=cR P f (xs.map .pv) [] (fun r B=>r=.pv y/\B=[])
def hold (K:AS->Prop):AS->Prop:=K
def B4 (r:Option (AV×AS))(l:lU)(d:Nat)(K:AV->AS->Prop)(σ:AS):Prop:=match r with
 |some (a,τ)=>K a τ
 |none=>bY l d K σ
def A6 (P:Program)(o:LO)(K:AV->AS->Prop)(σ:AS):Prop:=match o.op with
 |.call _ _=>lV P o K σ
 |l=>B4 (EE l (o.dst.getD 0) σ) l (o.dst.getD 0) K σ
def E6 (P:Program)(a:Option AV)(want:Bool)(o:LO)(K:AS->Prop)(σ:AS):Prop:=match a with
 |some (.pv (.bool b))=>if b=want then A6 P o (fun a τ=>K (τ.oV o.dst a)) σ else K (σ.oV o.dst A3)
 |some (.pv (.bL []))=>K (σ.oV o.dst A3)
 |_=>False
def EF (P:Program)(o:LO)(K:AS->Prop)(σ:AS):Prop:=match o.g with
 |none=>A6 P o (fun a τ=>K (τ.oV o.dst a)) σ
 |some (t,want)=>E6 P (σ.t t) want o K σ
def B5 (P:Program):List LO->(AS->Prop)->AS->Prop
 |[],K,σ=>K σ
 |o::r,K,σ=>EF P o (hold (B5 P r K)) σ
def gK (P:Program):LT->(AS->Prop)->AS->Prop
 |.done,K,σ=>K σ
 |.op o t,K,σ=>EF P o (hold (gK P t K)) σ
 |.alt o t r,K,σ=>EF P o (hold (gK P t K)) σ/\gK P r K σ
 |.no,_,_=>True
 |.seq t r,K,σ=>∃J:AS->Prop,gK P t (fun zA=>∃τ,Sub τ zA/\J τ) σ/\∀τ,J τ->gK P r K τ
def p9 (a:AV)(A B:AS->Prop)(σ:AS):Prop:=match a with
 |.pv (.bool true)=>A σ
 |.pv (.bool false)=>B σ
 |_=>False
def eK (P:Program):bC->(sC->AS->Prop)->AS->Prop
 |.skip,Q,σ=>Q .normal σ
 |.region ops,Q,σ=>B5 P ops (Q .normal) σ
 |.jG t,Q,σ=>gK P t (Q .normal) σ
 |.seq a b,Q,σ=>eK P a (iO (hold (eK P b Q)) Q) σ
 |.cond c a b,Q,σ=>p9 (σ.o c) (hold (eK P a Q)) (hold (eK P b Q)) σ
 |.block id c,Q,σ=>eK P c (c7 id Q) σ
 |.loop c,Q,σ=>∃(I:Nat->AS->Prop) (n:Nat) (τ:AS),Sub τ σ/\I n τ/\∀n τ,I n τ->eK P c (iO (again I n) Q) τ
 |.exit id,Q,σ=>Q (.exit id) σ
 |.ret,Q,σ=>Q .ret σ
 |.vE nt g C _ _ ps,Q,σ=>J1 P nt g C ps Q σ
section
variable {P:Program}
theorem Zs3 {l:lU}{d:Nat}{K:AV->AS->Prop}{σ:AS}(h:B4 (EE l d σ) l d K σ):bY l d K σ:=by
 unfold B4 at h;split at h
 .rename_i e;exact ZnJ e h
 .exact h
theorem Zm3 {o:LO}{K:AV->AS->Prop}{σ:AS}(h:A6 P o K σ):lV P o K σ:=by
 unfold A6 at h;split at h
 .exact h
 .rename_i dA;unfold lV;split
  .rename_i f args e;exact absurd e (dA f args)
  .exact Zs3 h
theorem Lh {o:LO}{K:AS->Prop}{σ:AS}(h:EF P o K σ):pM P o K σ:=by
 unfold EF at h;unfold pM;split at h
 .rename_i e;(try rw[e]);exact Zm3 h
 .rename_i t want e
  (try rw[e])
  (try dsimp only)
  unfold E6 at h;split at h
  .rename_i b hb
   (try rw[hb])
   (try dsimp only)
   split at h
   .rename_i e2;rw[if_pos e2];exact Zm3 h
   .rename_i e2;rw[if_neg e2];exact h
  .rename_i hb;(try rw[hb]);exact h
  .exact h.elim
theorem Lk:∀{l:List LO} {K:AS->Prop} {σ:AS},B5 P l K σ->oH P l K σ
 |[],K,σ,h=>h
 |o::r,K,σ,h=>NZ (fun τ q=>Lk q) (Lh h)
theorem WX:∀{l:LT} {K:AS->Prop} {σ:AS},gK P l K σ->vJ P l K σ
 |.done,K,σ,h=>h
 |.op o t,K,σ,h=>NZ (fun τ q=>WX q) (Lh h)
 |.alt o t r,K,σ,h=>⟨NZ (fun τ q=>WX q) (Lh h.1),WX h.2⟩
 |.no,K,σ,h=>trivial
 |.seq t r,K,σ,⟨J,h1,h2⟩=>⟨J,WX h1,fun τ hJ=>WX (h2 τ hJ)⟩
theorem I7:∀{c:bC} {Q:sC->AS->Prop} {σ:AS},eK P c Q σ->uE P c Q σ
 |.skip,Q,σ,h=>h
 |.region ops,Q,σ,h=>Lk h
 |.jG t,Q,σ,h=>WX h
 |.seq a b,Q,σ,h=>by
  have h':eK P a (iO (hold (eK P b Q)) Q) σ:=h;show uE P a (iO (uE P b Q) Q) σ;refine JX (I7 h') (fun e τ q=>?_);cases e with
  |normal=>
   have q':eK P b Q τ:=q;exact I7 q'
  |exit id=>exact q
  |ret=>exact q
 |.cond c a b,Q,σ,h=>by
  have h':p9 (σ.o c) (hold (eK P a Q)) (hold (eK P b Q)) σ:=h;unfold p9 at h';unfold uE;split at h'
  .rename_i e;rw[e];exact I7 (c:=a) h'
  .rename_i e;rw[e];exact I7 (c:=b) h'
  .exact h'.elim
 |.block id c,Q,σ,h=>I7 (c:=c) h
 |.loop c,Q,σ,⟨I,n,τ,h1,h2,h3⟩=>⟨I,n,τ,h1,h2,fun n τ hI=>I7 (c:=c) (h3 n τ hI)⟩
 |.exit id,Q,σ,h=>h
 |.ret,Q,σ,h=>h
 |.vE _ _ _ _ _ _,Q,σ,h=>h
theorem Nt {f:FuncId}{F:aX}{args:List AV}{B:List (Site×aJ)}{R:AV->List (Site×aJ)->Prop}(hm:P.follows .mixedOrders=true)(hf:fT P f=some F)(hn:args.length<=F.nt)
  (h:eK P F.code (lA (A8 F.res R)) ⟨eW 0 args,B⟩):cR P f args B R:=ZiS hm hf hn (I7 h)
theorem eO {c:bC}{Q:sC->AS->Prop}{σ:AS}(I:Nat->AS->Prop)(h0:∃n τ,Sub τ σ/\I n τ)(round:∀J:Nat->AS->Prop,(∀k τ,I k τ->J k τ)->∀n τ,I n τ->eK P c (iO (again J n) Q) τ):eK P (.loop c) Q σ:=
 let ⟨n,τ,h1,h2⟩:=h0;⟨I,n,τ,h1,h2,fun n τ h=>round I (fun _ _ h=>h) n τ h⟩
end
section
variable {P:Program}{σ:AS}{K:AS->Prop}{Q:sC->AS->Prop}{tm:List (Nat×AV)}{bx:List (Site×aJ)}
theorem ZtE:hold K ⟨tm,bx⟩=K ⟨tm,bx⟩:=propext ⟨fun h=>h,fun h=>h⟩
theorem Zuy {d:Nat}{a:AV}:AS.put d a ⟨tm,bx⟩=⟨(d,a)::tm,bx⟩:=rfl
theorem ZsZ {d:Nat}{a:AV}:AS.oV (some d) a ⟨tm,bx⟩=⟨(d,a)::tm,bx⟩:=rfl
theorem Zns {a:AV}:AS.oV none a ⟨tm,bx⟩=⟨tm,bx⟩:=rfl
theorem Zvi {s:Site}{b:aJ}:AS.add s b ⟨tm,bx⟩=⟨tm,(s,b)::bx⟩:=rfl
theorem Zur {s:Site}{b:aJ}:AS.set s b ⟨tm,bx⟩=⟨tm,(s,b)::bx⟩:=rfl
theorem ZtP {s:Site}:AS.drop s ⟨tm,bx⟩=⟨tm,bx.filter fun p=>!decide (p.1=s)⟩:=rfl
theorem ZpK {d:Nat}:AS.bG d ⟨tm,bx⟩=⟨tm.map fun p=>(p.1,p.2.bG d),(bx.filter fun p=>!p.1.fP d).map fun p=>(p.1,p.2.bG d)⟩:=rfl
theorem ZpT:B5 P [] K σ=K σ:=propext ⟨fun h=>h,fun h=>h⟩
theorem ZnF {o:LO}{r:List LO}:B5 P (o::r) K σ=EF P o (hold (B5 P r K)) σ:=rfl
theorem Zqa:gK P .done K σ=K σ:=rfl
theorem ZuP {o:LO}{t:LT}:gK P (.op o t) K σ=EF P o (hold (gK P t K)) σ:=rfl
theorem ZN {d:Option Nat}{op:lU}{lt:Bool}:EF P ⟨d,none,op,lt⟩ K σ=A6 P ⟨d,none,op,lt⟩ (fun a τ=>K (τ.oV d a)) σ:=rfl
theorem ZO {d:Option Nat}{t:Nat}{want:Bool}{op:lU}{lt:Bool}:EF P ⟨d,some (t,want),op,lt⟩ K σ=E6 P (σ.t t) want ⟨d,some (t,want),op,lt⟩ K σ:=rfl
theorem ZuZ {b want:Bool}{o:LO}:E6 P (some (.pv (.bool b))) want o K σ=if b=want then A6 P o (fun a τ=>K (τ.oV o.dst a)) σ else K (σ.oV o.dst A3):=rfl
theorem ZtI {o:LO}:E6 P (some (.pv (.bool true))) true o K σ=A6 P o (fun a τ=>K (τ.oV o.dst a)) σ:=rfl
theorem ZtL {o:LO}:E6 P (some (.pv (.bool false))) false o K σ=A6 P o (fun a τ=>K (τ.oV o.dst a)) σ:=rfl
theorem ZtJ {o:LO}:E6 P (some (.pv (.bool true))) false o K σ=K (σ.oV o.dst A3):=rfl
theorem ZtK {o:LO}:E6 P (some (.pv (.bool false))) true o K σ=K (σ.oV o.dst A3):=rfl
theorem ZuY {want:Bool}{o:LO}:E6 P (some (.pv (.bL []))) want o K σ=K (σ.oV o.dst A3):=rfl
theorem ZnD {a:AV}{τ:AS}{l:lU}{d:Nat}{K:AV->AS->Prop}:B4 (some (a,τ)) l d K σ=K a τ:=rfl
theorem Zu6 {A B:AS->Prop}:p9 (.pv (.bool true)) A B σ=A σ:=propext ⟨fun h=>h,fun h=>h⟩
theorem Zu7 {A B:AS->Prop}:p9 (.pv (.bool false)) A B σ=B σ:=propext ⟨fun h=>h,fun h=>h⟩
theorem ZoV:eK P .skip Q σ=Q .normal σ:=propext ⟨fun h=>h,fun h=>h⟩
theorem Zj2 {ops:List LO}:eK P (.region ops) Q σ=B5 P ops (Q .normal) σ:=rfl
theorem ZoW {t:LT}:eK P (.jG t) Q σ=gK P t (Q .normal) σ:=rfl
theorem Zrd {a b:bC}:eK P (.seq a b) Q σ=eK P a (iO (hold (eK P b Q)) Q) σ:=rfl
theorem ZoY {c:bA}{a b:bC}:eK P (.cond c a b) Q σ=p9 (σ.o c) (hold (eK P a Q)) (hold (eK P b Q)) σ:=rfl
theorem Zmh {id:Nat}{c:bC}:eK P (.block id c) Q σ=eK P c (c7 id Q) σ:=rfl
theorem ZoX {id:Nat}:eK P (.exit id) Q σ=Q (.exit id) σ:=propext ⟨fun h=>h,fun h=>h⟩
theorem Zre:eK P .ret Q σ=Q .ret σ:=propext ⟨fun h=>h,fun h=>h⟩
theorem Zse:iO K Q .normal σ=K σ:=propext ⟨fun h=>h,fun h=>h⟩
theorem Zsf {i:Nat}:iO K Q (.exit i) σ=Q (.exit i) σ:=propext ⟨fun h=>h,fun h=>h⟩
theorem Zsd:iO K Q .ret σ=Q .ret σ:=propext ⟨fun h=>h,fun h=>h⟩
theorem ZqY {i:Nat}:c7 i Q .normal σ=Q .normal σ:=propext ⟨fun h=>h,fun h=>h⟩
theorem ZqX {i:Nat}:c7 i Q .ret σ=Q .ret σ:=propext ⟨fun h=>h,fun h=>h⟩
theorem ZqZ {i j:Nat}:c7 i Q (.exit j) σ=if j=i then Q .normal σ else Q (.exit j) σ:=propext ⟨fun h=>h,fun h=>h⟩
theorem Zu2 {F:AS->Prop}:lA F .normal σ=F σ:=propext ⟨fun h=>h,fun h=>h⟩
theorem Zu1 {F:AS->Prop}:lA F .ret σ=F σ:=propext ⟨fun h=>h,fun h=>h⟩
theorem gF {f:bA}{args:List bA}{d:Nat}{K:AV->AS->Prop}{k:Nat}{g:FuncId}{fs xs cs:List PV}{y:PV}(h1:(σ.o f).snap σ k=some (.fn g fs cs))(h2:jE (AV.snap σ k) (args.map σ.o)=some xs)
  (hc:aD P g (fs++xs++cs) y) (hy:y.flat=true) (hK:K (.pv y) σ) {X:Prop}:yV P f args d K σ\/X:=
 .inl (ZiU h1 h2 (hc.mono (fun _ _ h=>h.1)) hy hK)
end
theorem gl0 {α:Type}{a:α}{l:List α}:(a::l)[0]?=some a:=rfl
theorem gl1 {α:Type}{a b:α}{l:List α}:(a::b::l)[1]?=some b:=rfl
theorem gl2 {α:Type}{a b c:α}{l:List α}:(a::b::c::l)[2]?=some c:=rfl
theorem gl3 {α:Type}{a b c d:α}{l:List α}:(a::b::c::d::l)[3]?=some d:=rfl
attribute [simp] gl0 gl1 gl2 gl3 List.getElem?_cons_succ
theorem Zho {n:Nat}:jQ (n:Int)=some n:=KC.2 rfl
theorem ZnT {n:Nat}:jQ ((n:Int)+1)=some (n+1):=KC.2 (by omega)
theorem ZuO:jQ 0=some 0:=rfl
theorem ZuN:jQ 1=some 1:=rfl
theorem ZuM:jQ 2=some 2:=rfl
attribute [simp] Zho ZnT ZuO ZuN ZuM
theorem wrap64 {x:Int}(h:-9223372036854775808<=x/\x<=9223372036854775807):IntKind.i64.wrap x=x:=by rw[IntKind.wrap_i64];omega
theorem ZsI {a b c d:Nat}:(Site.loc a b==Site.loc c d)=(a==c&&b==d):=by rw[qS];simp
theorem ZsE {a c:Nat}:(Site.par a==Site.par c)=(a==c):=by rw[qS];simp
theorem ZsA {a c:Nat}:(Site.ret a==Site.ret c)=(a==c):=by rw[qS];simp
theorem ZsH {a b c:Nat}:(Site.loc a b==Site.par c)=false:=rfl
theorem ZsF {a b c:Nat}:(Site.par c==Site.loc a b)=false:=rfl
theorem ZsG {a b c:Nat}:(Site.loc a b==Site.ret c)=false:=rfl
theorem ZsC {a b c:Nat}:(Site.ret c==Site.loc a b)=false:=rfl
theorem ZsD {a c:Nat}:(Site.par a==Site.ret c)=false:=rfl
theorem ZsB {a c:Nat}:(Site.ret a==Site.par c)=false:=rfl
attribute [simp] ZsI ZsE ZsA ZsH ZsF ZsG ZsC ZsD ZsB
attribute [simp] ZtE Zuy ZsZ Zns Zvi Zur ZtP ZpK ZpT ZnF Zqa ZuP ZN ZO ZtI ZtL ZtJ ZtK ZuY ZuZ ZnD Zu6 Zu7 ZoV Zj2 ZoW Zrd ZoY Zmh ZoX Zre Zse Zsf Zsd ZqY ZqX ZqZ Zu2 Zu1
attribute [simp] A6 lV EE GS AS.r7 AS.NJ AS.o AS.t AS.b AV.bG AV.has AV.qT AV.cells PV.cells AV.wide AV.one eW List.lookup DF DG A8 AS.FA AS.Km rO s5 eA aR i6 R0 AS.cont AS.ob AS.tO AS.DN AS.wV AS.JD A3 FN wJ KT.ok bU CK.ok gR lP wK
section
attribute [local simp] aJ.bG Site.fP
section
variable {P:Program}{σ:AS}{K:AV->AS->Prop}
def rE (σ:AS):List Site->Prop
 |[]=>True
 |s::r=>(∃b,σ.b s=some b/\b.dC dO=true)/\rE σ r
theorem Zeu:∀{l:List Site},rE σ l->∀s∈l,∀b,σ.b s=some b->b.dC dO=true
 |[],_,s,hs,_,_=>by cases hs
 |t::r,h,s,hs,b,hb=>by
  rcases jN.1 hs with rfl|hs
  .obtain⟨b',h1,h2⟩:=h.1;rw[hb]at h1;cases h1;exact h2
  .exact Zeu h.2 s hs b hb
def aU (outs:List Site)(rs:List nY)(R:AV->List (Site×aJ)->Prop)(σ:AS):Prop:=
 ∃l,σ.FA rs=some l/\(rO l).dC dO=true/\outs.all dO=true/\rE σ outs/\R ((rO l).map (jT outs)) (σ.exp outs outs)
theorem Ys {outs:List Site}{rs:List nY}{R:AV->List (Site×aJ)->Prop}{σ:AS}(h:aU outs rs R σ):rM rs R σ:=by
 obtain⟨l,h1,h2,h3,h4,h5⟩:=h;exact⟨[],outs,l,h1,h2,h3,fun s hs b hb=>Zeu h4 s hs b hb,h5⟩
theorem Nr (outs:List Site){f:FuncId}{F:aX}{args:List AV}{B:List (Site×aJ)}{R:AV->List (Site×aJ)->Prop}(hm:P.follows .mixedOrders=true)(hf:fT P f=some F)(hn:args.length<=F.nt)
  (h:eK P F.code (lA (aU outs F.res R)) ⟨eW 0 args,B⟩):cR P f args B R:=Hz hm hf hn (fun _ h=>Ys h) (I7 h)
theorem xM (d:Nat)(aE:List Site){f:bA}{args:List bA}{d0:Nat}{g:FuncId}{fs cs:List AV}{B:List (Site×aJ)}{gE:List AV}{R:AV->List (Site×aJ)->Prop}(h1:mQ (σ.o f)=some (g,fs,cs))(h2:DR aE=true)(h3:aE.all (fun s=>!s.fP d)=true)
  (hB:oW σ aE 0 aE=some B) (h4:AV.gW (fun x=>aE.contains x) (fs++args.map σ.o++cs)=true) (ha:AV.iM (kA aE) (fs++args.map σ.o++cs)=gE) (hC:cR P g gE B R)
  (hK:∀r B',R r B'->r.dC (bX aE)=true/\(∀p∈B',bX aE p.1=true/\p.2.dC (bX aE)=true)/\K (r.map (gG aE d)) (((cO aE σ).bG d).lT (eZ aE d B'))):
  yV P f args d0 K σ\/(FQ P f args K σ\/FP P f args K σ):=by
 refine .inr (.inl ⟨d,[],aE,g,fs,cs,B,?_,SY h2,h3,hB,h4,?_⟩)
 .unfold mQ at h1;split at h1
  .rename_i e;cases h1;exact .inl e
  .rename_i tF iH e;cases h1;exact .inr ⟨tF,iH,e,rfl,rfl⟩
  .cases h1
 .have:(fs++args.map (aM [] σ).o++cs)=fs++args.map σ.o++cs:=rfl
  rw[this,ha];exact hC.mono hK
theorem AF {f:bA}{args:List bA}{d:Nat}{K:AV->AS->Prop}{k:Nat}{g:FuncId}{fs xs cs:List PV}{y:PV}(h1:(σ.o f).snap σ k=some (.fn g fs cs))(h2:jE (AV.snap σ k) (args.map σ.o)=some xs)
  (hc:aD P g (fs++xs++cs) y) (hy:y.flat=true) (hK:K (.pv y) σ):yV P f args d K σ:=ZiU h1 h2 (hc.mono (fun _ _ h=>h.1)) hy hK
end
end
section
attribute [local simp] aJ.bG Site.fP
def dM (n:Nat):List Site:=(List.range n).map .par
def laid:Nat->List aJ->List (Site×aJ)
 |_,[]=>[]
 |i,b::r=>(.par i,b)::laid (i+1) r
def Site.lt (n:Nat):Site->Bool
 |.par i=>decide (i<n)
 |_=>false
def DV (n:Nat)(L:List aJ):Prop:=∀b∈L,b.dC (Site.lt n)=true
theorem XE {n:Nat}{s:Site}:s∈dM n↔s.lt n=true:=by
 unfold dM;rw[iI];constructor
 .rintro⟨i,hi,rfl⟩;simpa[Site.lt]using hi
 .intro h;cases s with
  |par i=>exact⟨i,by simpa[Site.lt]using h,rfl⟩
  |loc d j=>cases h
  |ret j=>cases h
theorem Zcc {n:Nat}{s:Site}:(dM n).contains s=s.lt n:=by
 rw[qS,jB];exact XE
theorem Ho {n i:Nat}(h:i<n):(dM n)[i]?=some (.par i):=by simp[dM,h]
theorem Zjk {n:Nat}:(dM n).Nodup:=by
 unfold dM;rw[DK,List.pairwise_map];exact List.Pairwise.imp (fun h e=>h (by cases e;rfl)) (DK.1 List.nodup_range)
theorem ZnB {n i:Nat}(h:i<n):(dM n).findIdx? (fun x=>decide (x=.par i))=some i:=by
 obtain⟨j,h1,h2⟩:=Fv (aE:=dM n) (s:=.par i) (XE.2 (by simpa[Site.lt]using h));rw[h1];have hj:j<n:=by
  have:=(bZ.1 h2).1
  simpa[dM]using this
 rw[Ho hj]at h2;cases h2;rfl
theorem Zet {n:Nat}{s:Site}(h:s.lt n=false):(dM n).findIdx? (fun x=>decide (x=s))=none:=by
 rw[List.findIdx?_eq_none_iff];intro x hx;rw[XE]at hx
 have:x≠s:=fun e=>by rw[e,h]at hx;cases hx
 simpa using this
theorem ZiA (n:Nat):kA (dM n)=id:=by
 funext s;unfold kA;cases hs:s.lt n with
 |true=>
  cases s with
  |par i=>rw[ZnB (by simpa[Site.lt]using hs)];rfl
  |loc d j=>cases hs
  |ret j=>cases hs
 |false=>rw[Zet hs];rfl
theorem Zev {n d:Nat}{s:Site}(h:s.lt n=true):gG (dM n) d s=s:=by
 cases s with
 |par i=>show(dM n).getD i default=_;rw[List.getD_eq_getElem?_getD,Ho (by simpa[Site.lt]using h)];rfl
 |loc d j=>cases h
 |ret j=>cases h
theorem ZgP (n:Nat):jT (dM n)=id:=by
 funext s;unfold jT;cases s with
 |par i=>rfl
 |loc d j=>dsimp only;rw[Zet rfl];rfl
 |ret j=>dsimp only;rw[Zet rfl];rfl
mutual
theorem AV.Xd {g:Site->Site}{q:Site->Bool}(hg:∀s,q s=true->g s=s):∀a:AV,a.dC q=true->a.map g=a
 |.any,_=>rfl
 |.pv _,_=>rfl
 |.ptr _ _,h=>by simp only[AV.map];rw[hg _ h]
 |.lB _ _ _ _,h=>by simp only[AV.map];rw[hg _ h]
 |.vec _ _ _ _,h=>by simp only[AV.map];rw[hg _ h]
 |.mp _,h=>by simp only[AV.map];rw[hg _ h]
 |.nJ _,h=>by simp only[AV.map];rw[hg _ h]
 |.fn f fs cs,h=>by
  simp only[AV.dC,dJ]at h;simp only[AV.map,AV.WA hg fs h.1,AV.WA hg cs h.2]
 |.agg cs,h=>by simp only[AV.map,AV.WA hg cs h]
 |.bL vs,h=>by simp only[AV.map,AV.WA hg vs h]
theorem AV.WA {g:Site->Site}{q:Site->Bool}(hg:∀s,q s=true->g s=s):∀l:List AV,AV.gW q l=true->AV.iM g l=l
 |[],_=>rfl
 |a::r,h=>by
  simp only[AV.gW,dJ]at h;simp only[AV.iM,AV.Xd hg a h.1,AV.WA hg r h.2]
end
mutual
theorem AV.VZ {q q':Site->Bool}(hq:∀s,q s=true->q' s=true):∀a:AV,a.dC q=true->a.dC q'=true
 |.any,_=>rfl
 |.pv _,_=>rfl
 |.ptr _ _,h=>hq _ h
 |.lB _ _ _ _,h=>hq _ h
 |.vec _ _ _ _,h=>hq _ h
 |.mp _,h=>hq _ h
 |.nJ _,h=>hq _ h
 |.fn f fs cs,h=>by
  simp only[AV.dC,dJ]at h ⊢;exact⟨AV.NN hq fs h.1,AV.NN hq cs h.2⟩
 |.agg cs,h=>AV.NN hq cs h
 |.bL vs,h=>AV.NN hq vs h
theorem AV.NN {q q':Site->Bool}(hq:∀s,q s=true->q' s=true):∀l:List AV,AV.gW q l=true->AV.gW q' l=true
 |[],_=>rfl
 |a::r,h=>by
  simp only[AV.gW,dJ]at h ⊢;exact⟨AV.VZ hq a h.1,AV.NN hq r h.2⟩
end
theorem aJ.VZ {q q':Site->Bool}(hq:∀s,q s=true->q' s=true){b:aJ}(h:b.dC q=true):b.dC q'=true:=by
 cases b with
 |cells bS=>exact AV.NN hq bS h
 |loop C ps nt tm st=>exact AV.NN hq _ h
 |arr e n xs=>rfl
 |map es=>rfl
 |ext E=>rfl
theorem aJ.ZxD {g:Site->Site}{q:Site->Bool}(hg:∀s,q s=true->g s=s){b:aJ}(h:b.dC q=true):b.iR g=b:=by
 cases b with
 |cells bS=>simp only[aJ.iR];rw[AV.WA hg bS h]
 |loop C ps nt tm st=>
  simp only[aJ.iR];congr 1;have h':∀p∈tm,p.2.dC q=true:=fun p hp=>by
   obtain⟨i,hi⟩:=iJ.1 hp;exact V3 (i:=i) h (by rw[bW,hi];rfl)
  clear h;induction tm with
  |nil=>rfl
  |cons p r ih=>
   simp only[iL];rw[AV.Xd hg p.2 (h' p (by simp)),ih (fun x hx=>h' x (by simp[hx]))]
 |arr e n xs=>rfl
 |map es=>rfl
 |ext E=>rfl
theorem aJ.Wx (b:aJ):b.iR id=b:=by
 cases b with
 |cells bS=>simp only[aJ.iR,SO]
 |loop C ps nt tm st=>
  simp only[aJ.iR,Fs];congr 1;exact List.map_id tm
 |arr e n xs=>rfl
 |map es=>rfl
 |ext E=>rfl
theorem Zu {n:Nat}{s:Site}(h:s.lt n=true):bX (dM n) s=true:=by
 cases s with
 |par i=>simpa[bX,dM,Site.lt]using h
 |loc d j=>cases h
 |ret j=>rfl
theorem ZkY {n:Nat}{s:Site}(h:s.lt n=true):dO s=true:=by
 cases s with
 |par i=>rfl
 |loc d j=>rfl
 |ret j=>cases h
theorem Zr:∀(L:List aJ) (i j:Nat),(laid i L).lookup (.par (i+j))=L[j]?
 |[],i,j=>by simp[laid]
 |b::r,i,0=>by simp[laid]
 |b::r,i,j+1=>by
  rw[laid,jC (by simp),show i+(j+1)=(i+1)+j by omega,Zr r (i+1) j];rfl
theorem Zk6:∀(L:List aJ) (i:Nat) (p:Site×aJ),p∈laid i L->∃j,L[j]?=some p.2/\p.1=.par (i+j)
 |[],i,p,h=>by simp[laid]at h
 |b::r,i,p,h=>by
  rcases jN.1 h with rfl|h
  .exact⟨0,rfl,rfl⟩
  .obtain⟨j,h1,h2⟩:=Zk6 r (i+1) p h;exact⟨j+1,h1,by rw[h2];congr 1;omega⟩
theorem ZrP {n d:Nat}:∀{s:Site},s.lt n=true->s.fP d=false:=fun{s} h=>by
 cases s with
 |par i=>rfl
 |loc d j=>cases h
 |ret j=>cases h
mutual
theorem AV.Zxk {d:Nat}{q:Site->Bool}(hg:∀s,q s=true->s.fP d=false):∀a:AV,a.dC q=true->a.has d=false
 |.any,_=>rfl
 |.pv _,_=>rfl
 |.ptr _ _,h=>by simp only[AV.has];exact hg _ h
 |.lB _ _ _ _,h=>by simp only[AV.has];exact hg _ h
 |.vec _ _ _ _,h=>by simp only[AV.has];exact hg _ h
 |.mp _,h=>by simp only[AV.has];exact hg _ h
 |.nJ _,h=>by simp only[AV.has];exact hg _ h
 |.fn f fs cs,h=>by
  simp only[AV.dC,dJ]at h;simp only[AV.has,AV.Eu hg fs h.1,AV.Eu hg cs h.2];rfl
 |.agg cs,h=>by simp only[AV.has];exact AV.Eu hg cs h
 |.bL vs,h=>by simp only[AV.has];exact AV.Eu hg vs h
theorem AV.Eu {d:Nat}{q:Site->Bool}(hg:∀s,q s=true->s.fP d=false):∀l:List AV,AV.gW q l=true->AV.qT d l=false
 |[],_=>rfl
 |a::r,h=>by
  simp only[AV.gW,dJ]at h;simp only[AV.qT,AV.Zxk hg a h.1,AV.Eu hg r h.2];rfl
end
theorem AV.Kn {n d:Nat}{a:AV}(h:a.dC (Site.lt n)=true):a.bG d=a:=by
 unfold AV.bG;rw[AV.Zxk (fun s hs=>ZrP hs) a h];rfl
theorem aJ.Kn {n d:Nat}{b:aJ}(h:b.dC (Site.lt n)=true):b.bG d=b:=by
 cases b with
 |cells bS=>
  simp only[aJ.bG];congr 1;have h':∀a∈bS,a.dC (Site.lt n)=true:=fun a ha=>by
   obtain⟨i,hi⟩:=iJ.1 ha;exact V3 h hi
  clear h;induction bS with
  |nil=>rfl
  |cons a r ih=>rw[iL,AV.Kn (h' a (by simp)),ih (fun x hx=>h' x (by simp[hx]))]
 |loop C ps nt tm st=>
  simp only[aJ.bG];congr 1;have h':∀p∈tm,p.2.dC (Site.lt n)=true:=fun p hp=>by
   obtain⟨i,hi⟩:=iJ.1 hp;exact V3 (i:=i) h (by rw[bW,hi];rfl)
  clear h;induction tm with
  |nil=>rfl
  |cons p r ih=>rw[iL,AV.Kn (h' p (by simp)),ih (fun x hx=>h' x (by simp[hx]))]
 |arr e n xs=>rfl
 |map es=>rfl
 |ext E=>rfl
theorem ZeF {n d:Nat}:∀{X:List aJ} {i:Nat},DV n X->((laid i X).filter fun p=>!p.1.fP d).map (fun p=>(p.1,p.2.bG d))=laid i X
 |[],i,h=>rfl
 |b::r,i,h=>by
  have hb:=h b (by simp);have hr:DV n r:=fun x hx=>h x (by simp[hx])
  rw[laid,List.filter_cons_of_pos (by rfl),iL,ZeF hr,aJ.Kn hb]
theorem ZjM {m:Nat}{tm:List (Nat×AV)}{bx:List (Site×aJ)}:cO (dM m) ⟨tm,bx⟩=⟨tm,bx.filter fun p=>!p.1.lt m⟩:=by
 have:∀(l:List Site) (bx:List (Site×aJ)),cO l ⟨tm,bx⟩=⟨tm,bx.filter fun p=>!l.contains p.1⟩:=by
  intro l;induction l with
  |nil=>intro bx;show(⟨tm,bx⟩:AS)=⟨tm,_⟩;rw[List.filter_eq_self.2];intro _ _;rfl
  |cons s r ih=>
   intro bx;rw[cO,AS.drop,ih,List.filter_filter];congr 1;apply List.filter_congr;intro p hp;rw[List.contains_cons];by_cases e:p.1=s
   .simp[e]
   .simp[e]
 rw[this];congr 1;apply List.filter_congr;intro p hp;rw[Zcc]
theorem ZfM {σ:AS}{n:Nat}:∀(r:List Site) (i:Nat) (L:List aJ),(∀j s,r[j]?=some s->s=Site.par (i+j))->r.length=L.length->(∀j b,L[j]?=some b->σ.b (.par (i+j))=some b)->DV n L->
  oW σ (dM n) i r=some (laid i L)
 |[],i,[],_,_,_,_=>rfl
 |[],i,b::L,_,h,_,_=>by simp at h
 |s::r,i,[],_,h,_,_=>by simp at h
 |s::r,i,b::L,hs,hl,hb,hc=>by
  have h0:s=.par i:=hs 0 s rfl;have h1:=ZfM r (i+1) L (fun j s' e=>by rw[hs (j+1) s' (by simpa using e)];congr 1;omega) (by simpa using hl) (fun j b' e=>by rw[show i+1+j=i+(j+1) by omega];exact hb (j+1) b' (by simpa using e)) (fun x hx=>hc x (by simp[hx]));subst h0;have h2:σ.b (.par i)=some b:=hb 0 b rfl;have h3:b.dC (fun x=>(dM n).contains x)=true:=aJ.VZ (fun s hs=>by rw[Zcc];exact hs) (hc b (by simp));simp only[oW,h2,h1,h3,if_pos,ZiA,aJ.Wx,laid]
def xS (σ:AS)(L:List aJ):Prop:=∀j b,L[j]?=some b->σ.b (.par j)=some b
theorem Zjs {σ:AS}{n:Nat}{L:List aJ}(hl:L.length=n)(hs:xS σ L)(hc:DV n L):oW σ (dM n) 0 (dM n)=some (laid 0 L):=
 ZfM _ _ _ (fun j s e=>by
  have:j<n:=by have:=(bZ.1 e).1;simpa[dM]using this
  rw[Ho this]at e;cases e;simp) (by simp[dM,hl]) (fun j b e=>by simpa using hs j b e) hc
theorem Zig {n d:Nat}:∀{L:List aJ} {i:Nat},i+L.length<=n->DV n L->eZ (dM n) d (laid i L)=laid i L
 |[],i,_,_=>rfl
 |b::r,i,h,hc=>by
  rw[pB]at h;have h1:=Zig (L:=r) (i:=i+1) (d:=d) (by omega) (fun x hx=>hc x (by simp[hx]));unfold eZ at h1 ⊢;rw[laid,iL,h1];rw[Zev (by simp[Site.lt];omega),aJ.ZxD (fun s hs=>Zev hs) (hc b (by simp))]
theorem WR {n:Nat}{L:List aJ}(h:L.length<=n)(hc:DV n L):∀p∈laid 0 L,bX (dM n) p.1=true/\p.2.dC (bX (dM n))=true:=fun p hp=>by
 obtain⟨j,h1,h2⟩:=Zk6 L 0 p hp;have hj:=(bZ.1 h1).1;refine⟨Zu (by rw[h2];simp[Site.lt];omega),aJ.VZ (fun s hs=>Zu hs) (hc _ (dK h1))⟩
theorem Zlj {σ:AS}{n:Nat}:∀(r:List Site) (i:Nat) (L:List aJ),(∀j s,r[j]?=some s->s=Site.par (i+j))->r.length=L.length->(∀j b,L[j]?=some b->σ.b (.par (i+j))=some b)->σ.exp (dM n) r=laid i L
 |[],i,[],_,_,_=>rfl
 |[],i,b::L,_,h,_=>by simp at h
 |s::r,i,[],_,h,_=>by simp at h
 |s::r,i,b::L,hs,hl,hb=>by
  have h0:s=.par i:=hs 0 s rfl;have h1:=Zlj (n:=n) r (i+1) L (fun j s' e=>by rw[hs (j+1) s' (by simpa using e)];congr 1;omega) (by simpa using hl) (fun j b' e=>by rw[show i+1+j=i+(j+1) by omega];exact hb (j+1) b' (by simpa using e));subst h0;have h2:σ.b (.par i)=some b:=hb 0 b rfl;simp only[AS.exp,h2,h1,ZgP,aJ.Wx,laid,id]
theorem Zqx {σ:AS}{n:Nat}{L:List aJ}(hl:L.length=n)(hs:xS σ L):σ.exp (dM n) (dM n)=laid 0 L:=
 Zlj _ _ _ (fun j s e=>by
  have:j<n:=by have:=(bZ.1 e).1;simpa[dM]using this
  rw[Ho this]at e;cases e;simp) (by simp[dM,hl]) (fun j b e=>by simpa using hs j b e)
theorem Zio {σ:AS}:∀{l:List Site},(∀s∈l,∃b,σ.b s=some b/\b.dC dO=true)->rE σ l
 |[],_=>trivial
 |s::r,h=>⟨h s (by simp),Zio (fun x hx=>h x (by simp[hx]))⟩
theorem Zjl {σ:AS}{n:Nat}{L:List aJ}(hl:L.length=n)(hs:xS σ L)(hc:DV n L):rE σ (dM n):=Zio (fun s h=>by
 rw[XE]at h;cases s with
 |par i=>
  have hi:i<L.length:=by rw[hl];simpa[Site.lt]using h
  exact⟨L[i],hs i _ (bB hi),aJ.VZ (fun s hs=>ZkY hs) (hc _ (zX hi))⟩
 |loc d j=>cases h
 |ret j=>cases h)
theorem ZfT {d e j:Nat}:Site.fP d (.loc e j)=(d==e):=rfl
theorem ZfS {d j:Nat}:Site.fP d (.par j)=false:=rfl
theorem ZfR {d j:Nat}:Site.fP d (.ret j)=false:=rfl
theorem Zds {d:Nat}{l:List AV}:aJ.bG d (.cells l)=.cells (l.map (AV.bG d)):=rfl
theorem Zfn {d:Nat}{l:List (PV×PV)}:aJ.bG d (.map l)=.map l:=rfl
theorem Zfo {d n:Nat}{e:TypeId}{l:List PV}:aJ.bG d (.arr e n l)=.arr e n l:=rfl
theorem Zes {d nt:Nat}{C:Code×Code}{ps:List Nat}{tm:List (Nat×AV)}{st:Option Code}:aJ.bG d (.loop C ps nt tm st)=.loop C ps nt (tm.map fun p=>(p.1,p.2.bG d)) st:=rfl
theorem SZ {tm:List (Nat×AV)}{X:List aJ}{r:List (Site×aJ)}:xS ⟨tm,laid 0 X++r⟩ X:=fun j b h=>by
 have h1:(laid 0 X).lookup (.par j)=some b:=by have:=Zr X 0 j;rw[rX]at this;rw[this];exact h
 show(laid 0 X++r).lookup (.par j)=some b;clear h;generalize laid 0 X=l at h1;induction l with
 |nil=>cases h1
 |cons p l ih=>
  obtain⟨a,c⟩:=p;by_cases e:Site.par j=a
  .subst e;rw[mT]at h1;rw[List.cons_append,mT];exact h1
  .rw[jC e]at h1;rw[List.cons_append,jC e];exact ih h1
theorem XG {tm:List (Nat×AV)}{X:List aJ}{p:Site×aJ}{r:List (Site×aJ)}(hp:p.1.lt X.length=false)(h:xS ⟨tm,r⟩ X):xS ⟨tm,p::r⟩ X:=fun j b hj=>by
 have hl:=(bZ.1 hj).1;obtain⟨a,c⟩:=p;have dA:Site.par j≠a:=fun e=>by subst e;simp[Site.lt]at hp;omega
 show((a,c)::r).lookup (.par j)=some b;rw[jC dA];exact h j b hj
theorem gO {P:Program}{o:LO}{t r:LT}{K:AS->Prop}{σ:AS}:gK P (.alt o t r) K σ=(EF P o (hold (gK P t K)) σ/\hold (gK P r K) σ):=rfl
theorem gY {P:Program}{K:AS->Prop}{σ:AS}:gK P .no K σ=True:=rfl
theorem JQ {P:Program}{t r:LT}{K:AS->Prop}{σ:AS}(τ:AS)(h1:gK P t (fun zA=>Sub τ zA) σ)(h2:gK P r K τ):gK P (.seq t r) K σ:=
 ⟨fun x=>x=τ,by
  have:(fun zA=>∃x,Sub x zA/\x=τ)=fun zA=>Sub τ zA:=by
   funext zA;exact propext ⟨fun⟨x,h,e⟩=>e▸h,fun h=>⟨τ,h,rfl⟩⟩
  rw[this];exact h1,fun x e=>by subst e;exact h2⟩
theorem Zh3 {σ:AS}:∀{X:List aJ} {i:Nat},(∀j b,X[j]?=some b->σ.b (.par (i+j))=some b)->R0 (laid i X) σ
 |[],i,h=>trivial
 |b::r,i,h=>⟨h 0 b rfl,Zh3 (fun j b' e=>by rw[show i+1+j=i+(j+1) by omega];exact h (j+1) b' (by simpa using e))⟩
theorem Hr {σ:AS}{X:List aJ}(h:xS σ X):R0 (laid 0 X) σ:=Zh3 (fun j b e=>by rw[rX];exact h j b e)
section
variable {P:Program}{σ:AS}{K:AV->AS->Prop}
theorem Zid {n:Nat}{rs:List nY}{R:AV->List (Site×aJ)->Prop}{L:List aJ}{l:List AV}(h:σ.FA rs=some l)(ho:(rO l).dC dO=true)(hl:L.length=n)(hs:xS σ L)(hc:DV n L)(hR:R (rO l) (laid 0 L)):aU (dM n) rs R σ:=by
 refine⟨l,h,ho,?_,Zjl hl hs hc,?_⟩
 .rw[rC];intro s hs;exact ZkY (XE.1 hs)
 .rw[Zqx hl hs,ZgP,Fs];exact hR
theorem ZlH (d m:Nat)(X:List aJ){f:bA}{args:List bA}{d0:Nat}{R:AV->List (Site×aJ)->Prop}(h1:σ.o f=.nJ (.par 0))(hm:0<m)(hl:X.length=m)(hs:xS σ X)(hc:DV m X)
  (h4:AV.gW (Site.lt m) (args.map σ.o)=true) (hC:FL P 0 (args.map σ.o) (laid 0 X) R)
  (hK:∀r B',R r B'->∃L',B'=laid 0 L'/\L'.length=m/\DV m L'/\r.dC (Site.lt m)=true/\K r ((((⟨σ.tm,σ.bx.filter fun p=>!p.1.lt m⟩:AS).bG d)).lT (laid 0 L'))):
  yV P f args d0 K σ\/(FQ P f args K σ\/FP P f args K σ):=by
 refine .inr (.inr ⟨d,[],dM m,.par 0,0,laid 0 X,h1,Ho hm,Zjk,?_,Zjs hl hs hc,?_,?_⟩)
 .rw[rC];intro s hs;rw[ZrP (XE.1 hs)];rfl
 .exact AV.NN (fun s hs=>by rw[Zcc];exact hs) _ h4
 .rw[ZiA,SO];refine hC.mono (fun r B' h=>?_);obtain⟨L',rfl,k1,k2,k3,k4⟩:=hK r B' h;refine⟨AV.VZ (fun s hs=>Zu hs) _ k3,WR (by omega) k2,?_⟩;rw[AV.Xd (fun s hs=>Zev hs) _ k3,Zig (by omega) k2];cases σ;simp only[aM];rw[ZjM];exact k4
end
end
section
attribute [local simp] aJ.bG Site.fP
section
variable {P:Program}{σ:AS}{K:AV->AS->Prop}
end
end
section
attribute [local simp] aJ.bG Site.fP
theorem XS {P:Program}(hm:P.follows .mixedOrders=true){C:Code×Code}{ps:List Nat}{nt i:Nat}{tm:List (Nat×AV)}{la lb:bC}(Tj:dQ P nt C.1=some la)(Ti:dQ P nt C.2=some lb){gE:List AV}{B:List (Site×aJ)}
  {R:AV->List (Site×aJ)->Prop} (hB:B.lookup (.par i)=some (.loop C ps nt tm none)) (yD:ps.length=gE.length) (P7:∀p∈ps,p<nt) (w9:AV.gW Site.r4 (tm.map (·.2))=true)
  (h:eK P la (iO (hold (eK P lb (Yg C ps nt tm i R))) (fun _ _=>False)) ⟨qK ps gE tm,B.filter fun p=>!decide (p.1=.par i)⟩):FL P i gE B R:=by
 refine Zg3 hm Tj Ti hB yD P7 w9 ?_;refine JX (I7 h) (fun e τ q=>?_);cases e with
 |normal=>
  have q':eK P lb (Yg C ps nt tm i R) τ:=q;exact I7 q'
 |exit id=>exact q
 |ret=>exact q
section
variable {P:Program}{σ:AS}
theorem WY (aE:List Site)(tm:List (Nat×AV)){nt:Nat}{g:bA}{C:Code×Code}{ps:List Nat}{la lb:bC}{Q:sC->AS->Prop}{gf:FuncId}{fs cs gE:List AV}{B:List (Site×aJ)}{R:AV->List (Site×aJ)->Prop}
  (h1:mQ (((σ.bG nt).add (.loc nt 0) (.loop C ps nt tm none)).o g)=some (gf,fs,cs)) (w9:i6 tm (σ.bG nt)) (h2:DR aE=true) (h3:aE.all (fun s=>!s.fP (nt+1))=true)
  (hB:oW ((σ.bG nt).add (.loc nt 0) (.loop C ps nt tm none)) aE 0 aE=some B) (h4:AV.gW (fun x=>aE.contains x) (fs++[.nJ (.loc nt 0)]++cs)=true) (ha:AV.iM (kA aE) (fs++[.nJ (.loc nt 0)]++cs)=gE) (hC:cR P gf gE B R)
  (hK:∀r B',R r B'->r.dC (bX aE)=true/\(∀p∈B',bX aE p.1=true/\p.2.dC (bX aE)=true)/\
   ∃C' Iy Ja Ip st,(((cO aE ((σ.bG nt).add (.loc nt 0) (.loop C ps nt tm none))).bG (nt+1)).lT (eZ aE (nt+1) B')).b (.loc nt 0)=some (.loop C' Iy Ja Ip st)/\
    kX Q st ((((cO aE ((σ.bG nt).add (.loc nt 0) (.loop C ps nt tm none))).bG (nt+1)).lT (eZ aE (nt+1) B')).drop (.loc nt 0))):
  eK P (.vE nt g C la lb ps) Q σ:=by
 show J1 P nt g C ps Q σ;refine⟨σ,Sub.ZxX σ,[],aE,tm,_,gf,fs,cs,B,fun t a k=>Zfe w9 t a k,rfl,?_,SY h2,h3,hB,h4,?_⟩
 .unfold mQ at h1;split at h1
  .rename_i e;cases h1;exact .inl e
  .rename_i tF iH e;cases h1;exact .inr ⟨tF,iH,e,rfl,rfl⟩
  .cases h1
 .rw[ha];refine hC.mono (fun r B' h=>?_);obtain⟨k1,k2,C',Iy,Ja,Ip,st,k3,k4⟩:=hK r B' h;refine⟨k1,k2,?_⟩;have k3':(((cO aE ((((aM [] σ).bG nt).add (.loc nt 0) (.loop C ps nt tm none)))).bG (nt+1)).lT (eZ aE (nt+1) B')).b (.loc nt 0)=some (.loop C' Iy Ja Ip st):=k3;rw[k3'];exact k4
theorem ZsP {nt:Nat}{g:bA}{C:Code×Code}{ps:List Nat}{la lb:bC}{Q:sC->AS->Prop}{τ:AS}(hs:Sub τ σ)(h:eK P (.vE nt g C la lb ps) Q τ):eK P (.vE nt g C la lb ps) Q σ:=by
 obtain⟨Nz,h1,h2⟩:J1 P nt g C ps Q τ:=h;exact⟨Nz,h1.trans' hs,h2⟩
end
end
section
attribute [local simp] aJ.bG Site.fP
def oF (fz:List Site)(rs:List nY)(R:AV->List (Site×aJ)->Prop)(σ:AS):Prop:=A8 rs R (aY fz σ)
theorem ZpA {fz:List Site}{rs:List nY}{R:AV->List (Site×aJ)->Prop}{σ:AS}(h:oF fz rs R σ):rM rs R σ:=by
 unfold oF A8 at h;split at h
 .rename_i l hl;split at h
  .rename_i x hx;exact⟨fz,[],l,hl,by rw[hx];rfl,rfl,(fun s hs=>by cases hs),by rw[hx];exact h⟩
  .exact h.elim
 .exact h.elim
theorem Nq {P:Program}(fz:List Site){f:FuncId}{F:aX}{args:List AV}{B:List (Site×aJ)}{R:AV->List (Site×aJ)->Prop}(hm:P.follows .mixedOrders=true)(hf:fT P f=some F)(hn:args.length<=F.nt)
  (h:eK P F.code (lA (oF fz F.res R)) ⟨eW 0 args,B⟩):cR P f args B R:=Hz hm hf hn (fun _ h=>ZpA h) (I7 h)
theorem aP {a b:Nat}:Nat.ble a b=decide (a<=b):=by rw[qS,Nat.ble_eq];simp
theorem cV {a b:Nat}:Nat.blt a b=decide (a<b):=by rw[qS,Nat.blt_eq];simp
end
@[simp] def O (d:Nat)(x:lU):LO:=⟨some d,none,x,true⟩
@[simp] def Of (d:Nat)(x:lU):LO:=⟨some d,none,x,false⟩
@[simp] def N (x:lU):LO:=⟨none,none,x,true⟩
@[simp] def Nf (x:lU):LO:=⟨none,none,x,false⟩
@[simp] def G (d g:Nat)(b:Bool)(x:lU):LO:=⟨some d,some (g,b),x,true⟩
@[simp] def Gf (d g:Nat)(b:Bool)(x:lU):LO:=⟨some d,some (g,b),x,false⟩
@[simp] def Ng (g:Nat)(b:Bool)(x:lU):LO:=⟨none,some (g,b),x,true⟩
@[simp] def Nh (g:Nat)(b:Bool)(x:lU):LO:=⟨none,some (g,b),x,false⟩
@[simp] def I (n:Int):bA:=.c (.int .i64 n)
@[simp] def C (n:Nat):bA:=.c (.fn n [] [])
@[simp] def M (n:Nat):lU:=.dV (.t n)
@[simp] def Om (d s:Nat):LO:=⟨some d,none,.dV (.t s),true⟩
@[simp] def OM (d:Nat)(n:Int):LO:=⟨some d,none,.dV (.c (.int .i64 n)),true⟩
@[simp] def Ol (d n s:Nat):LO:=⟨some d,none,.load false n (.t s),true⟩
@[simp] def Ot (d n s:Nat):LO:=⟨some d,none,.load true n (.t s),true⟩
@[simp] def Oa (d n s:Nat):LO:=⟨some d,none,.fa n (.t s),true⟩
@[simp] def Oi (d n s i:Nat):LO:=⟨some d,none,.ia n none (.t s) (.t i),true⟩
@[simp] def Oe (d s i:Nat):LO:=⟨some d,none,.ext (.t s) i,true⟩
@[simp] def On (d s:Nat):LO:=⟨some d,none,.len none (.t s),true⟩
@[simp] def Oz (d s:Nat):LO:=⟨some d,none,.vN (.t s),true⟩
@[simp] def Oo (d s:Nat):LO:=⟨some d,none,.not (.t s),true⟩
@[simp] def Ox (d n s:Nat):LO:=⟨some d,none,.box n (.t s),true⟩
@[simp] def Ob (d:Nat)(o:BinOp)(a b:Nat):LO:=⟨some d,none,.bin false o (.t a) (.t b),true⟩
@[simp] def Oc (d:Nat)(o:BinOp)(a:Nat)(n:Int):LO:=⟨some d,none,.bin false o (.t a) (.c (.int .i64 n)),true⟩
@[simp] def Ns (n a b:Nat):LO:=⟨none,none,.store n (.t a) (.t b),true⟩
@[simp] def Ce (a n:Nat):bC:=.cond (.t a) .skip (.exit n)
@[simp] def Cd (a:Nat)(x y:bC):bC:=.cond (.t a) x y
@[simp] def Z0:PV:=.int .i64 0
@[simp] def E0:PV:=.emp (some true)
@[simp] def Bf:bA:=.c (.bool false)
@[simp] def Bt:bA:=.c (.bool true)
@[simp] def S (l:List LO)(c:bC):bC:=.seq (.region l) c
@[simp] def Ok (d n:Nat)(l:List bA):LO:=⟨some d,none,.call (.c (.fn n [] [])) l,true⟩
@[simp] def Pl (d n:Nat):LO:=⟨some d,none,.load false 1 (.t n),false⟩
@[simp] def Pa (d k n:Nat):LO:=⟨some d,none,.fa k (.t n),false⟩
@[simp] def Pg (d g n:Nat):LO:=⟨some d,some (g,true),.load false 1 (.t n),true⟩
@[simp] def Pi (d g n:Nat):LO:=⟨some d,some (g,true),.load false 1 (.t n),false⟩
@[simp] def Pm (d n:Nat):LO:=⟨some d,none,.dV (.t n),false⟩
@[simp] def Pp (d a b:Nat):LO:=⟨some d,none,.pick (.t a) (.t b) (.c (.bool false)),true⟩
@[simp] def Pq (d a b:Nat):LO:=⟨some d,none,.pick (.t a) (.c (.bool true)) (.t b),true⟩
@[simp] def Pf (d:Nat):LO:=⟨some d,none,.dV (.c (.bool false)),true⟩
@[simp] def Pe (d:Nat):LO:=⟨some d,none,.dV (.c (.emp (some true))),true⟩
@[simp] def Pt (d n m:Nat):LO:=⟨some d,none,.load true n (.t m),false⟩
@[simp] def Py (d a b c x y:Nat):LO:=⟨some d,none,.app a b c (.t x) (.t y),true⟩
@[simp] def Ph (d g k n:Nat):LO:=⟨some d,some (g,true),.fa k (.t n),true⟩
@[simp] def Pn (d g n:Nat):LO:=⟨some d,some (g,true),.dV (.t n),true⟩
@[simp] def Pj (d w n:Nat)(i:Int):LO:=⟨some d,none,.ia w none (.t n) (.c (.int .i64 i)),false⟩
@[simp] def Pz (d n:Nat):LO:=⟨some d,none,.vN (.t n),false⟩
@[simp] def Pb (d a b n:Nat):LO:=⟨some d,none,.aQ a b [.t n],true⟩
instance:Coe LO (List LO):=⟨fun x=>[x]⟩
@[simp] def aC (l:List (List LO))(c:bC):bC:=.seq (.region l.flatten) c
@[simp] def cK (l:List (List LO)):bC:=.region l.flatten
@[simp] def bD (d a b c:Nat):List LO:=[Oa d a b,Ol (d+1) c d]
@[simp] def rD (d a b c e f:Nat):List LO:=[G d a false (.fa b (.t c)),G (d+1) e false (.load false f (.t d))]
@[simp] def bM (d a b:Nat):List LO:=[Om d a,Om (d+1) b]
@[simp] def iT (d a b c:Nat):List LO:=[Om d a,Oc (d+1) .add d b,Om c (d+1)]
@[simp] def Kg (d a b:Nat)(c:Int)(e f g:Nat)(h:Int)(i:Int):List LO:=[G d a true (.bin false .eql (.t b) (I c)),Pp (d+1) e d,Om (d+2) (d+1),Pn (d+3) (d+2) f,G (d+4) (d+2) true (.ia g none (.t (d+3)) (I h)),Pg (d+5) (d+2) (d+4),G (d+6) (d+2) true (.bin false .eql (.t (d+5)) (I i)),Pp (d+7) (d+2) (d+6)]
@[simp] def VS (d a b c:Nat)(e:Int)(f g:Nat)(h:Int)(i:Int):List LO:=[Om d a,G (d+1) d false (M b),G (d+2) d false (.ia c none (.t (d+1)) (I e)),G (d+3) d false (.load false f (.t (d+2))),G (d+4) d false (.call (C g) [.t (d+3),I h,I i]),G (d+5) d false (.not (.t (d+4))),Pq (d+6) d (d+5)]
@[simp] def Z9 (d a b:Nat):List LO:=[O d (.alloc (.agg [Z0,Z0,Z0,Z0,Z0,Z0,Z0])),Ns a d b]
@[simp] def VR (d a b c:Nat)(e:Int)(f:Nat)(g:Int)(h:Int):List LO:=[Om d a,Pn (d+1) d b,G (d+2) d true (.ia c none (.t (d+1)) (I e)),Pg (d+3) d (d+2),G (d+4) d true (.call (C f) [.t (d+3),I g,I h]),Pp (d+5) d (d+4)]
@[simp] def RZ (d a b c e:Nat):List LO:=[Om d a,Pn (d+1) d b,Pn (d+2) d c,G (d+3) d true (.bin false .leq (.t (d+1)) (.t (d+2))),Pp (d+4) d (d+3),Om e (d+4)]
@[simp] def nZ (d a b:Nat):List LO:=[On d a,Ob (d+1) .lss b d]
@[simp] def mE (d a b c e f:Nat):List LO:=[Om d a,Oe b d c,Oe e d f]
@[simp] def oT (d a b:Nat):List LO:=[Om d a,Ok (d+1) b [.t d]]
@[simp] def U5 (d a b:Nat)(c:Int)(e:Nat):List LO:=[O d (.ia a none (.t b) (I c)),Ol (d+1) e d]
@[simp] def U4 (d a b c:Nat):List LO:=[G d a false (.not (.t b)),Pq (d+1) c d]
@[simp] def F0 (d a b c:Nat):List LO:=[Om d a,Ph (d+1) d b c,Pg (d+2) d (d+1)]
@[simp] def pA (d a b c:Nat):List LO:=[Oc d .add a b,Om c d]
@[simp] def yR (d a b:Nat):List LO:=[Pm d a,Pz (d+1) d,Pa (d+2) b (d+1)]
@[simp] def zW (d a b c:Nat):List LO:=[Om d a,Ok (d+1) b [.t c,.t d]]
@[simp] def nW (d a b c:Nat):List LO:=[Om d a,Oi (d+1) b c d]
@[simp] def EY (d a b c e f:Nat):List LO:=[G d a true (.call (C b) [.t c,.t e]),Pp (d+1) f d]
@[simp] def y7 (d a b c:Nat):List LO:=[Ot d a b,O (d+1) (.call (.t c) [.t d])]
@[simp] def NC (d a b c e:Nat):List LO:=[Of d (.ia a none (.t b) (.t c)),Pa (d+1) e d,Pl (d+2) (d+1)]
@[simp] def O0 (d a b:Nat):List LO:=[Om d a,Oz (d+1) d,Oa (d+2) b (d+1)]
@[simp] def NB (d a b:Nat):List LO:=[O d (.alloc (.agg [E0,E0,E0,E0,E0])),Ns a d b]
@[simp] def jU (d a b:Nat):List LO:=[Om d a,Om b d]
@[simp] def Zzw (d a b c e f g h:Nat)(i:Int)(j k:Nat)(l:Int)(m n o:Nat):List LO:=[O d (.build (.agg [Z0,.bool false,Z0,Z0]) [(a,(b,Bt)),(c,(e,(.t f)))]),O (d+1) (.build (.agg [Z0,.bool false,Z0,Z0]) [(g,(h,(I i)))]),O (d+2) (.build (.agg [Z0,.bool false,Z0,Z0]) [(j,(k,(I l)))]),O (d+3) (.build (.agg [Z0,.bool false,Z0,Z0]) []),O (d+4) (.build (.agg [Z0,.bool false,Z0,Z0]) []),O (d+5) (.aQ m (d+1) [.t n,.t d,.t (d+1),.t (d+2),.t (d+3),.t (d+4)]),Om o (d+5)]
@[simp] def qD (d a b:Nat):List LO:=[Om d a,Pn (d+1) d b]
@[simp] def IZ (d a b:Nat):List LO:=[O d (.alloc (.agg [Z0,Z0,Z0])),Ns a d b]
@[simp] def oZ (d a:Nat):List LO:=[Om d a,On (d+1) d]
@[simp] def SE (d a b:Nat)(c:Int)(e:Nat):List LO:=[G d a true (.bin false .eql (.t b) (I c)),Pp (d+1) e d]
@[simp] def rB (d a b c:Nat):List LO:=[Pm d a,Pj (d+1) b d c]
@[simp] def ZzC (d a b c e f g h i j:Nat)(k:Int)(l:Nat):List LO:=[G d a true (.load false b (.t c)),G (d+1) e true (.yA .sl false (.t d)),G (d+2) f true (M (d+1)),G (d+3) (d+2) false (M g),G (d+4) (d+2) false (.load false h (.t i)),G (d+5) (d+2) false (.call (C j) [.t (d+3),.t (d+4)]),G (d+6) (d+2) false (.bin false .lss (.t (d+5)) (I k)),G (d+7) l true (.pick (.t (d+2)) Bt (.t (d+6)))]
@[simp] def SD (d a b c:Nat):List LO:=[Pm d a,Pm (d+1) b,Of (d+2) (.ia c none (.t d) (.t (d+1)))]
@[simp] def H6 (d a b c e f g h i:Nat):List LO:=[Pb d a b c,Py (d+1) e f g h d,Om i (d+1)]
@[simp] def SC (d a:Nat):List LO:=[O d (.alloc (.agg [E0,E0,E0,E0,E0])),OM (d+1) a]
@[simp] def H5 (d a b:Nat):List LO:=[Om d a,Oc (d+1) .neq d b]
@[simp] def NF (d a b c:Nat):List LO:=[Om d a,G (d+1) d true (.load true b (.t c))]
@[simp] def Em (d a:Nat)(b:Int):List LO:=[Om d a,O (d+1) (.bin false .shr (.t d) (.c (.int .u64 (b))))]
@[simp] def JA (d a b c:Nat):List LO:=[G d a true (.not (.t b)),Pp (d+1) c d]
@[simp] def uF (d a b c e f g:Nat):List LO:=[Ot d a b,Ns c e d,OM f g]
@[simp] def Q1 (d a b c:Nat):List LO:=[Ot d a b,Ok (d+1) c [.t d]]
@[simp] def Wt (d a b:Nat):List LO:=[Om d a,O (d+1) (.x (.look ⟨false,[.int .i64]⟩ (.agg [Z0,Z0,Z0,Z0,Z0,Z0,Z0]) false (.t b) (.t d)))]
@[simp] def Ki (d a b c e f:Nat):List LO:=[Gf d a true (M b),Gf (d+1) c true (.vN (.t d)),Gf (d+2) e true (.fa f (.t (d+1)))]
@[simp] def ND (d a b c e:Nat):List LO:=[Pl d a,Of b (.ia c none (.t d) (.t e))]
@[simp] def Kh (d a b c:Nat):List LO:=[Of d (.load false a (.t b)),Of (d+1) (.vN (.t d)),Of (d+2) (.fa c (.t (d+1)))]
@[simp] def wU (d a b c e:Nat):List LO:=[Oi d a b c,Ol (d+1) e d]
@[simp] def VU (d a b c e:Nat):List LO:=[G d a false (.pick (.t b) (.t c) Bf),Pq (d+1) e d]
@[simp] def SB (d a b:Nat):List LO:=[O d (.alloc (.agg [Z0,Z0])),Ns a d b]
@[simp] def SA (d a b c e:Nat):List LO:=[G d a true (.call (C b) [.t c]),Pp (d+1) e d]
@[simp] def El (d a b c e f:Nat):List LO:=[Oi d a b c,Ot (d+1) e d,O f (.alloc (.agg [Z0,Z0,Z0,Z0]))]
@[simp] def Ws (d a b c:Nat):List LO:=[Om d a,G (d+1) d false (M b),G (d+2) d false (M c),G (d+3) d false (.x (.A5 (.t (d+1)) (.t (d+2))))]
@[simp] def ZzW (d a b c e f g:Nat):List LO:=[G d a true (.load true b (.t c)),G (d+1) e true (.x (.eqv true ⟨true,[.int .i64,.int .i64,.int .i64,.int .i64,.int .i64,.int .i64,.int .i64]⟩ (.t f) (.t d))),Pp (d+2) g (d+1)]
@[simp] def F1 (d a b c e:Nat):List LO:=[Ph d a b c,Pg (d+1) e d]
@[simp] def VT (d a b c e:Nat):List LO:=[O d (.yB a [] [.t b]),Ok (d+1) c [.t e,.t d]]
@[simp] def EZ (d a b c e:Nat):List LO:=[Ot d a b,Ok (d+1) c [.t e,.t d]]
@[simp] def Zz0 (d a b c:Nat):List LO:=[Pl d a,Of (d+1) (.x (.look ⟨false,[.int .i64]⟩ (.agg [Z0,Z0,Z0,Z0,Z0,Z0,Z0]) false (.t b) (.t d))),Of c (.alloc (.agg [Z0,Z0,Z0,Z0,Z0,Z0,Z0]))]
@[simp] def Wv (d a b c:Nat)(e:Int)(f:Nat):List LO:=[G d a false (.len none (.t b)),G (d+1) c false (.bin false .gtr (.t d) (I e)),Pq (d+2) f (d+1)]
@[simp] def VV (d a:Nat):List LO:=[Pl d a,Of (d+1) (.len none (.t d))]
@[simp] def Wu (d a b c e f g h i j:Nat):List LO:=[Pa d a b,Pl (d+1) d,Of c (.call (C e) []),O (d+2) (.build (.agg [E0,E0]) [(f,(g,(.t h))),(i,(j,(.t (d+1))))])]
@[simp] def NG (d a b c e:Nat):List LO:=[Om d a,Ok (d+1) b [.t c,.t e,.t d]]
@[simp] def JB (d a b:Nat):List LO:=[Pl d a,Pz (d+1) d,Pa (d+2) b (d+1)]
@[simp] def Kk (d:Nat):List LO:=[O d (.dV (.c .eU)),O (d+1) (.dV (.c .cT))]
@[simp] def Zz7 (d a b c e f g h i j k l m n o p q r s:Nat):List LO:=[Pm d a,Gf b d false (.fa c (.t e)),Gf f d false (M g),Gf (d+1) d false (.load true h (.t i)),Gf j d false (.load false k (.t l)),Gf m d false (.ia n none (.t o) (.t p)),Gf q d false (.load true r (.t s))]
@[simp] def Kj (d a b c e:Nat):List LO:=[G d a true (.bin false .lss (.t b) (.t c)),Pp (d+1) e d]
@[simp] def Zz9 (d a b c e f g:Nat):List LO:=[Gf d a true (.x (.look ⟨false,[.int .i64]⟩ (.agg [Z0,Z0,Z0,Z0,Z0,Z0,Z0]) false (.t b) (.t c))),Gf (d+1) e true (.MT false f g (.t d))]
@[simp] def Nx (d a b c e:Nat):List LO:=[G d a true (.bin false .leq (.t b) (.t c)),Pp (d+1) e d]
@[simp] def Nw (d a b c e f:Nat):List LO:=[Of d (.load false a (.t b)),Of c (.load false e (.t f))]
@[simp] def wZ (d a b:Nat):List LO:=[On d a,OM (d+1) b]
@[simp] def XW (d a b c e:Nat):List LO:=[Gf d a true (M b),Gf (d+1) c true (M e)]
@[simp] def XV (d a:Nat):List LO:=[O d (.dV (.c .eU)),OM (d+1) a]
@[simp] def ZAf (d a b:Nat)(c:Int)(e f:Nat)(g:Int)(h i:Nat)(j:Int)(k l:Nat)(m:Int)(n o:Nat)(p:Int)(q r:Nat)(s:Int)(t u v w x y z:Nat):List LO:=[O d (.build (.agg [Z0,Z0,Z0]) [(a,(b,(I c))),(e,(f,(I g))),(h,(i,(I j)))]),O (d+1) (.build (.agg [Z0,Z0,Z0]) [(k,(l,(I m))),(n,(o,(I p))),(q,(r,(I s)))]),O (d+2) (.aQ t u [.t d,.t (d+1)]),O (d+3) (.build (.agg [Z0,E0]) [(v,(w,(.t x))),(y,(z,(.t (d+2))))])]
@[simp] def ZAg (d a:Nat)(b:Int)(c:Nat):List LO:=[Om d a,O (d+1) (.bin false .and (.t d) (.c (.int .u64 (b)))),Om c (d+1)]
@[simp] def KH (d a b:Nat):List LO:=[Om d a,Oc (d+1) .eql d b]
@[simp] def ZAi (d a b:Nat)(c:Int)(e:Nat):List LO:=[Ob d .add a b,O (d+1) (.conv .u64 (.t d)),O (d+2) (.bin false .shr (.t (d+1)) (.c (.int .u64 (c)))),O (d+3) (.conv .i64 (.t (d+2))),Om e (d+3)]
@[simp] def XU (d a b c e f g h:Nat):List LO:=[Of d (.aQ a b [.t c]),Py (d+1) e f g h d]
@[simp] def tM (d a b:Nat):List LO:=[Ox d a b,Pf (d+1)]
@[simp] def Ia (d a:Nat):List LO:=[Om d a,O (d+1) (.x (.rI (.t d)))]
@[simp] def TI (d a b:Nat)(c:Int)(e:Int):List LO:=[Ok d a [.t b,I c,I e],Oo (d+1) d]
@[simp] def DY (d a b c:Nat):List LO:=[Ob d .add a b,Om c d]
@[simp] def ZAo (d a b c e:Nat):List LO:=[G d a false (.x (.look ⟨false,[.int .i64]⟩ (.bool false) false (.t b) (.t c))),O (d+1) (.pick (.t e) Bt (.t d))]
@[simp] def mY (d a b c:Nat):List LO:=[Pl d a,Pl b c]
@[simp] def ZAq (d a:Nat)(b:Int):List LO:=[Om d a,O (d+1) (.bin false .neq (.t d) (.c (.int .u8 (b))))]
@[simp] def ZAr (d a b c e f g:Nat):List LO:=[G d a true (.load true b (.t c)),G (d+1) e true (.call (C f) [.t g,.t d])]
@[simp] def u0 (d a b:Nat):List LO:=[Oz d a,Oa (d+1) b d]
@[simp] def s9 (d a:Nat):List LO:=[Om d a,Oz (d+1) d]
@[simp] def Nv (d a b c e f:Nat):List LO:=[Pn d a b,G (d+1) c true (.ia e none (.t f) (.t d))]
@[simp] def ZAv (d a b c e f:Nat):List LO:=[Om d a,G (d+1) d false (.fa b (.t c)),G (d+2) d false (.load true e (.t (d+1))),G (d+3) d false (.call (C f) [.t (d+2)])]
@[simp] def ZAw (d a b:Nat):List LO:=[O d (.alloc (.agg [Z0,Z0,Z0,.bool false])),Ns a d b]
@[simp] def XT (d a b:Nat):List LO:=[Om d a,G (d+1) d false (M b)]
@[simp] def Nu (d a b c e f g:Nat):List LO:=[Pi d a b,Gf c e true (.ia f none (.t d) (.t g))]
noncomputable section
def L6:aX :=⟨73,S [Pf 2] (.seq (aC [oT 10 0 8,Oo 12 11] (Cd 12 (S [Ok 13 9 [],Om 2 13] .ret) .skip)) (aC [oT 15 0 11,Ok 17 22 [.t 16],mE 14 17 18 0 19 1,bM 3 18 19] (.seq (aC [oT 20 0 12,Om 5 21] (aC [H5 22 5 0] (Cd 23 (aC [bM 24 4 5,Ob 26 .eql 24 25,qD 27 26 3,G 29 27 true (.len none (.t 28)),SE 30 27 29 0 27,Om 32 31,G 33 32 true (.call (C 9) []),Pp 34 32 33,Om 2 34] .ret) .skip))) (aC [oT 36 0 15,mE 35 37 38 0 39 1,NB 6 5 38,Om 7 39] (S [Pe 8] (.seq (S [OM 9 0] (.block 0 (.loop (.seq (aC [Om 40 9,bD 41 2 6 1,nZ 43 42 40] (Ce 44 0)) (.seq (.block 1 (aC [Pa 48 2 6,Pm 50 9,Pt 47 5 6,ND 49 48 51 4 50,Pt 52 4 51,Ok 53 23 [.t 47,.t 52]] (Cd 53 (cK [Om 54 8,bD 55 2 6 1,nW 57 9 4 56,bD 59 0 58 1,H6 61 3 1 60 3 1 8 54 8]) .skip))) (cK [iT 45 9 1 9])))))) (aC [KH 63 4 0,qD 65 64 3,Pn 67 65 8,EY 68 65 19 66 67 65,Om 70 69,G 71 70 true (.call (C 9) []),Pp 72 70 71,Om 2 72] .ret))))))),[.tm 2]⟩
def L11:aX :=⟨6,S [Pe 2] (S [O 3 (.aQ 9 1 []),Om 4 0,O 5 (.jA 9 1 16 (.t 3) (.t 4)),Om 2 5] .ret),[.tm 2]⟩
def L12:aX :=⟨6,S [OM 2 0] (.seq (aC [oT 3 0 33,Oo 5 4] (Cd 5 (S [OM 2 3] .ret) .skip)) (S [OM 2 0] .ret)),[.tm 2]⟩
def L30:aX :=⟨13,S [OM 2 0] (S [O 3 (.dV (C 65))] (.seq (aC [oZ 4 0,Oc 6 .gtr 5 50,XT 7 6 0,G 9 7 false (M 3),G 10 7 false (.call (C 66) [.t 8,.t 9]),U4 11 7 10 7] (Cd 12 (S [OM 2 3] .ret) .skip)) (S [OM 2 0] .ret))),[.tm 2]⟩
def L33:aX :=⟨19,S [Pf 2] (.seq (S [OM 3 0] (.block 0 (.loop (.seq (aC [bM 4 3 0,nZ 6 5 4] (Ce 7 0)) (.seq (.block 1 (aC [bM 10 0 3,wU 12 1 10 11 1,O 14 (.x (.rI (.t 13))),Oc 15 .gtr 14 200] (Cd 15 (S [Pf 2] .ret) .skip))) (cK [iT 8 3 1 3])))))) (aC [oZ 16 0,Oc 18 .leq 17 50,Om 2 18] .ret)),[.tm 2]⟩
def L37:aX :=⟨45,S [Ox 3 2 0,Pf 6] (.seq (aC [bD 10 0 3 1,nW 12 1 4 11,bD 14 1 13 1] (Cd 15 (S [O 6 (.dV Bt)] .ret) .skip)) (S [Ot 16 2 3,Ok 17 50 [.t 16,.c E0],Om 7 17] (.seq (S [OM 8 0] (.block 0 (.loop (.seq (aC [Om 18 8,bD 19 1 3 1,nZ 21 20 18] (Ce 22 0)) (.seq (.block 1 (aC [bD 25 1 3 1,nW 27 8 7 26,Ot 29 7 28,Z9 9 7 29] (aC [bD 30 1 9 1,Om 32 1,Ob 33 .eql 31 32,NF 34 33 7 9,Pn 36 34 2,EY 37 34 75 35 36 34,qD 39 38 7,F1 41 39 0 9 39,EY 43 39 76 40 42 39] (Cd 44 (S [O 6 (.dV Bt)] .ret) .skip)))) (cK [iT 23 8 1 8])))))) (S [Pf 6] .ret)))),[.tm 6]⟩
@[simp] def L41a:LT:=.alt (Of 42 (.call (C 79) [.t 41])) (.op (Of 43 (.x (.sF 9 (.t 42)))) .done) .no
def L41:aX :=⟨62,S [Ox 3 4 1,O 4 (.dV (.c (.str ⟨#[]⟩)))] (S [OM 5 0] (.seq (aC [O0 9 0 0,bD 12 3 11 1,wZ 14 13 0] (.block 0 (.loop (S [Ob 16 .lss 15 14] (.seq (Ce 16 0) (.seq (.block 1 (aC [El 17 4 13 15 4 7,Ns 4 7 18] (aC [bD 19 0 7 1,bD 21 0 3 1,Ob 23 .eql 20 22,qD 24 23 0,G 26 24 true (.load true 4 (.t 7)),EY 27 24 36 25 26 24] (Cd 28 (cK [iT 29 5 1 5]) .skip)))) (cK [pA 31 15 1 15]))))))) (.seq (.jG (.op (Of 32 (.x (.sF 9 (.c (.str ⟨#[108,111,116]⟩))))) (.op (Pa 33 0 3) (.op (Of 36 (.x (.sF 9 (.c (.str ⟨#[116,101,115,116,115]⟩))))) (.op (Pm 37 5) (.op (Of 38 (.x (.sF 3 (.t 37)))) (.op (Pm 39 0) (.op (Pt 40 4 3) (.seq (.alt (Pl 34 33) (.op (Of 35 (.x (.sF 3 (.t 34)))) (.alt (Ok 41 80 [.t 39,.t 40]) L41a .no)) (.alt (Ok 41 80 [.t 39,.t 40]) (.op (Pl 34 33) (.op (Of 35 (.x (.sF 3 (.t 34)))) L41a)) .no)) (.alt (O 44 (.aQ 20 1 [.t 32,.t 35,.t 36,.t 38,.t 43])) (.alt (Ok 45 44 [.t 44]) (.op (Om 8 45) .done) .no) .no)))))))))) (.seq (aC [bD 46 3 3 1] (Cd 47 (.region [Om 48 8,O 49 (.x (.sF 9 (.t 48))),O 50 (.x (.sF 9 (.c (.str ⟨#[112,97,115,115,101,100]⟩)))),O 51 (.aQ 20 1 [.t 49,.t 50]),Ok 52 44 [.t 51],Om 8 52]) .skip)) (.seq (aC [Om 53 0,EZ 54 4 3 53 53] (Cd 55 (.region [Om 56 8,O 57 (.x (.sF 9 (.t 56))),O 58 (.x (.sF 9 (.c (.str ⟨#[114,101,99,97,108,108,101,100]⟩)))),O 59 (.aQ 20 1 [.t 57,.t 58]),Ok 60 44 [.t 59],Om 8 60]) .skip)) (aC [jU 61 8 4] .ret)))))),[.tm 4]⟩
def L44:aX :=⟨33,S [O 2 (.dV (.c (.str ⟨#[]⟩)))] (S [Pe 3] (.seq (aC [oZ 8 0,OM 10 0] (.block 0 (.loop (S [Ob 11 .lss 10 9] (.seq (Ce 11 0) (.seq (.block 1 (aC [wU 12 1 8 10 1,Om 5 13] (S [Om 14 5] (.block 2 (S [O 15 (.x (.KR 3 Z0 (.t 14))),Oe 16 15 1,Oe 17 15 0] (Cd 16 (S [Om 6 17] (cK [bM 18 3 6,Ok 20 89 [.t 19],H6 21 9 1 20 9 1 16 18 3])) (S [O 23 (.x (.KR 9 (.str ⟨#[]⟩) (.t 14))),Oe 24 23 1,Oe 25 23 0] (Cd 24 (S [Om 7 25] (cK [bM 26 3 7,H6 28 9 1 27 9 1 16 26 3])) .skip)))))))) (cK [pA 30 10 1 10]))))))) (S [Om 31 3,O 32 (.call (C 90) [.t 31,.c (.str ⟨#[32]⟩)]),Om 2 32] .ret))),[.tm 2]⟩
def L48:aX :=⟨66,S [Ox 2 5 0,Ox 3 4 1,OM 4 0,OM 5 0] (S [Pe 6] (.seq (S [OM 7 0] (.block 0 (.loop (.seq (aC [Om 11 7,bD 12 3 2 1,nZ 14 13 11] (Ce 15 0)) (.seq (.block 1 (.seq (aC [Pa 18 3 2,Pm 20 7,Pa 24 0 3,Pl 19 18,NC 21 4 19 20 0,Pl 25 24,Of 26 (.bin false .neq (.t 23) (.t 25)),Zz7 27 26 29 3 2 31 7 5 2 30 1 29 32 4 30 31 33 4 32,G 34 27 false (.call (C 18) [.t 28,.t 33]),U4 35 27 34 27] (Cd 36 (.exit 1) .skip)) (aC [Pm 37 6,Pa 39 3 2,Pm 41 7,Pa 44 2 3,Pt 38 5 2,ND 40 39 42 4 41,Pt 43 4 42,Pl 45 44,Ok 46 94 [.t 38,.t 43,.t 45],Oo 47 46,H6 48 4 1 47 4 1 1 37 6] (aC [bD 51 1 3 1,Ok 53 96 [.t 52],zW 54 6 95 53,mE 50 55 56 0 57 1,Oe 58 50 2,bM 8 56 57,Om 10 58] (aC [H5 59 8 3] (Cd 60 (aC [bM 61 8 6,On 63 62,bM 4 61 63] .ret) .skip)))))) (cK [iT 16 7 1 7])))))) (aC [oZ 64 6,OM 4 3,Om 5 65] .ret))),[.tm 4,.tm 5]⟩
def L52:aX :=⟨8,S [O 2 (.alloc (.agg [E0,E0]))] (S [O 3 (.build (.agg [Z0,Z0]) [(0,(1,(I 10))),(1,(1,(I 13)))]),Pb 4 192 2 3,O 5 (.aQ 193 1 [.t 4,.c E0]),Om 6 0,O 7 (.build (.agg [E0,E0]) [(0,(1,(.t 5))),(1,(1,(.t 6)))]),Ns 2 2 7] .ret),[.cell 2 true 2]⟩
def L59:aX :=⟨59,aC [Ox 2 5 0,SC 4 0] (.seq (aC [rB 9 1 1 0,Pt 8 5 2,Pl 11 10,Ok 12 17 [.t 8,.t 11]] (Cd 12 (aC [uF 13 5 2 5 4 5 6] .ret) .skip)) (aC [Ot 14 5 2,NB 6 5 14] (.seq (.jG (.op (Pa 16 0 2) (.op (Pm 19 1) (.op (Pj 20 1 19 0) (.op (Pm 22 1) (.op (Pj 23 1 22 1) (.op (Pm 25 1) (.op (Pj 26 1 25 2) (.op (Pm 28 1) (.op (Pj 29 1 28 3) (.op (Pm 31 1) (.op (Pj 32 1 31 4) (.op (Pm 34 1) (.op (Pj 35 1 34 5) (.op (Pm 37 1) (.op (Pj 38 1 37 6) (.op (Pl 17 16) (.op (Pl 21 20) (.op (Pl 24 23) (.op (Pl 27 26) (.op (Pl 30 29) (.op (Pl 33 32) (.op (Pl 36 35) (.op (Pl 39 38) (.op (Of 40 (.build (.agg [Z0,Z0]) [(0,(1,(.t 36))),(1,(1,(.t 39)))])) (.op (Of 41 (.build (.agg [Z0,Z0,Z0,Z0,Z0,Z0,Z0]) [(0,(1,(.t 21))),(1,(1,(.t 24))),(2,(1,(.t 27))),(3,(1,(.t 30))),(4,(1,(.t 33))),(5,(2,(.t 40)))])) (.seq (.alt (Of 15 (.aQ 82 7 [])) (.alt (Of 18 (.jA 82 7 56 (.t 15) (.t 17))) (.alt (Of 42 (.aQ 82 7 [.t 41])) .done .no) (.alt (Of 42 (.aQ 82 7 [.t 41])) (.alt (Of 18 (.jA 82 7 56 (.t 15) (.t 17))) .done .no) .no)) (.alt (Of 42 (.aQ 82 7 [.t 41])) (.alt (Of 15 (.aQ 82 7 [])) (.alt (Of 18 (.jA 82 7 56 (.t 15) (.t 17))) .done .no) .no) .no)) (.alt (Py 43 82 7 56 18 42) (.op (Oa 44 0 6) (.alt (Ns 1 44 43) .done .no)) .no)))))))))))))))))))))))))))) (.seq (aC [Wu 46 0 6 45 77 0 1 45 1 1,Ok 49 105 [.t 48],Om 7 49] (aC [H5 50 7 0] (Cd 51 (S [Ot 52 5 2,Om 53 7,Ns 5 4 52,Om 5 53] .ret) .skip))) (.seq (aC [Q1 54 5 6 38,Ok 56 106 [.t 55]] (Cd 56 (aC [uF 57 5 2 5 4 5 9] .ret) .skip)) (aC [uF 58 5 6 5 4 5 0] .ret)))))),[.cell 4 true 5,.tm 5]⟩
@[simp] def L64a:LT:=.alt (Of 36 (.jA 85 3 40 (.t 33) (.t 35))) (.alt (Of 53 (.aQ 85 3 [.t 52])) .done .no) (.alt (Of 53 (.aQ 85 3 [.t 52])) (.alt (Of 36 (.jA 85 3 40 (.t 33) (.t 35))) .done .no) .no)
def L64:aX :=⟨63,aC [Ox 2 5 0,SC 4 0] (.seq (aC [Om 7 1,U5 8 1 7 0 1,TI 10 107 9 1 40,VS 12 11 1 1 1 1 107 0 40,VS 19 18 1 1 2 1 107 1 3] (Cd 25 (aC [uF 26 5 2 5 4 5 2] .ret) .skip)) (.seq (aC [bD 27 4 2 1,On 29 28,Oc 30 .geq 29 6] (Cd 30 (aC [uF 31 5 2 5 4 5 3] .ret) .skip)) (aC [Ot 32 5 2,NB 6 5 32] (.seq (.jG (.op (Pa 34 4 2) (.op (Pm 37 1) (.op (Pj 38 1 37 0) (.op (Pm 40 1) (.op (Pj 41 1 40 1) (.op (Pm 43 1) (.op (Pj 44 1 43 2) (.op (Pm 47 1) (.op (Pj 48 1 47 2) (.op (Pl 35 34) (.op (Pl 39 38) (.op (Pl 42 41) (.op (Pl 45 44) (.op (Of 46 (.bin false .neq (.t 45) (I 2))) (.op (Pl 49 48) (.op (Of 50 (.bin false .neq (.t 49) (I 1))) (.seq (.alt (Of 33 (.aQ 85 3 [])) (.alt (Of 36 (.jA 85 3 40 (.t 33) (.t 35))) (.alt (Of 51 (.aQ 4 1 [.t 46,.t 50])) (.op (Of 52 (.build (.agg [Z0,Z0,E0]) [(0,(1,(.t 39))),(1,(1,(.t 42))),(2,(1,(.t 51)))])) (.alt (Of 53 (.aQ 85 3 [.t 52])) .done .no)) .no) (.alt (Of 51 (.aQ 4 1 [.t 46,.t 50])) (.op (Of 52 (.build (.agg [Z0,Z0,E0]) [(0,(1,(.t 39))),(1,(1,(.t 42))),(2,(1,(.t 51)))])) L64a) .no)) (.alt (Of 51 (.aQ 4 1 [.t 46,.t 50])) (.op (Of 52 (.build (.agg [Z0,Z0,E0]) [(0,(1,(.t 39))),(1,(1,(.t 42))),(2,(1,(.t 51)))])) (.alt (Of 33 (.aQ 85 3 [])) L64a (.alt (Of 53 (.aQ 85 3 [.t 52])) (.alt (Of 33 (.aQ 85 3 [])) (.alt (Of 36 (.jA 85 3 40 (.t 33) (.t 35))) .done .no) .no) .no))) .no)) (.alt (Py 54 85 3 40 36 53) (.op (Oa 55 4 6) (.alt (Ns 1 55 54) .done .no)) .no))))))))))))))))))) (.seq (aC [bD 56 4 6 1,Ok 58 52 [.t 57],Ok 59 98 [.t 58,I 40],Oo 60 59] (Cd 60 (aC [uF 61 5 2 5 4 5 9] .ret) .skip)) (aC [uF 62 5 6 5 4 5 0] .ret)))))),[.cell 4 true 5,.tm 5]⟩
def L76:aX :=⟨18,S [Pf 4] (.seq (S [OM 5 0] (.block 0 (.loop (.seq (aC [bM 6 5 0,nZ 8 7 6] (Ce 9 0)) (.seq (.block 1 (aC [bM 12 0 5,wU 14 1 12 13 1,Om 16 1,Ob 17 .eql 15 16] (Cd 17 (S [O 4 (.dV Bt)] .ret) .skip))) (cK [iT 10 5 1 5])))))) (S [Pf 4] .ret)),[.tm 4]⟩
def L88:aX :=⟨9,S [Pe 0] (aC [O 1 (.build (.agg [Z0,.bool false,Z0,Z0]) [(1,(1,Bt))]),O 2 (.build (.agg [Z0,Z0]) [(0,(1,(I (-2)))),(1,(1,(I 2)))]),Zzw 3 1 1 2 2 2 0 1 1 0 1 1 210 1 0] .ret),[.tm 0]⟩
def L91:aX :=⟨38,S [Ox 1 2 0,OM 2 0] (S [O 3 (.dV (C 127))] (S [O 4 (.dV (C 128))] (S [O 6 (.yB 131 [] [.t 1]),Om 5 6] (.seq (.block 0 (aC [bD 8 0 1 1,On 10 9,Oc 11 .gtr 10 4,Om 12 11,rD 13 12 1 1 12 1,Wv 15 12 14 12 6 12,Om 18 17,rD 19 18 0 1 18 1,G 21 18 false (M 3),G 22 18 false (.call (C 133) [.t 20,.t 21]),U4 23 18 22 18,Om 7 24] (Cd 7 (S [OM 2 3] .ret) (aC [bD 26 0 1 1,zW 28 4 133 27,Oo 30 29,Om 31 30,rD 32 31 1 1 31 1,G 34 31 false (M 5),G 35 31 false (.call (C 134) [.t 33,.t 34]),U4 36 31 35 31,Om 25 37] (Cd 25 (S [OM 2 1] .ret) .skip))))) (S [OM 2 0] .ret))))),[.tm 2]⟩
def L96:aX :=⟨8,S [O 2 (.alloc (.agg [Z0,E0]))] (aC [Om 3 0,ZAf 4 0 1 2 1 1 0 2 1 2 0 1 2 1 1 1 2 1 2 246 3 0 1 3 1 1,Ns 2 2 7] .ret),[.cell 2 true 2]⟩
def L101:aX :=⟨48,S [Om 10 1,O 11 (.call (C 146) [.t 10,.c (.str ⟨#[32]⟩)]),Om 4 11] (.seq (.jG (.op (Pm 14 4) (.op (Pj 15 1 14 0) (.op (Pl 16 15) (.seq (.alt (Of 13 (.call (C 147) [])) (.op (Of 17 (.x (.look ⟨false,[.str]⟩ (.agg [Z0,.dP]) true (.t 13) (.t 16)))) (.op (Om 12 17) (.op (Oe 18 12 0) (.op (Oe 19 12 1) (.alt (Of 5 (.alloc (.agg [Z0,.dP]))) (.alt (Ns 2 5 18) .done .no) .no))))) (.alt (Of 5 (.alloc (.agg [Z0,.dP]))) (.alt (Of 13 (.call (C 147) [])) (.op (Of 17 (.x (.look ⟨false,[.str]⟩ (.agg [Z0,.dP]) true (.t 13) (.t 16)))) (.op (Om 12 17) (.op (Oe 18 12 0) (.op (Oe 19 12 1) (.alt (Ns 2 5 18) .done .no))))) .no) .no)) (.op (Om 6 19) .done)))))) (aC [Om 20 6,qD 21 20 4,G 23 21 true (.len none (.t 22)),F1 24 21 0 5 21,G 26 21 true (.bin false .add (.t 25) (I 1)),G 27 21 true (.bin false .eql (.t 23) (.t 26)),Pp 28 21 27,Ok 29 148 [.t 28,I 4]] (S [Pe 7] (.seq (aC [Om 30 4,O 31 (.I9 1 none (.t 30) (some (I 1)) none none),wZ 32 31 0] (.block 0 (.loop (S [Ob 34 .lss 33 32] (.seq (Ce 34 0) (.seq (.block 1 (aC [wU 35 1 31 33 1,Om 9 36] (cK [bM 37 7 9,Ok 39 149 [.t 38],H6 40 3 1 39 3 1 8 37 7]))) (cK [pA 42 33 1 33]))))))) (cK [bD 43 1 5 1,bM 45 0 7,O 47 (.call (.t 44) [.t 45,.t 46])]))))),[]⟩
@[simp] def L105c:LT:=.alt (Nf (.store 7 (.t 9) (.t 146))) .done .no
@[simp] def L105a:LT:=.alt (Pt 151 7 150) L105c (.alt (Nf (.store 7 (.t 9) (.t 146))) (.op (Pt 151 7 150) .done) .no)
@[simp] def L105b:LT:=.alt (Pl 148 147) (.op (Of 150 (.ia 7 none (.t 148) (.t 149))) L105a) (.alt (Nf (.store 7 (.t 9) (.t 146))) (.op (Pl 148 147) (.op (Of 150 (.ia 7 none (.t 148) (.t 149))) (.op (Pt 151 7 150) .done))) .no)
@[simp] def L105d:LT:=.alt (Pt 151 7 150) (.alt (Of 10 (.alloc (.agg [Z0,Z0,Z0,Z0,Z0,Z0,Z0]))) L105c .no) (.alt (Of 10 (.alloc (.agg [Z0,Z0,Z0,Z0,Z0,Z0,Z0]))) L105a .no)
@[simp] def L105e:LT:=.alt (Pt 151 7 150) (.alt (Of 9 (.alloc (.agg [Z0,Z0,Z0,Z0,Z0,Z0,Z0]))) L105c .no) (.alt (Of 9 (.alloc (.agg [Z0,Z0,Z0,Z0,Z0,Z0,Z0]))) L105a .no)
def L105:aX :=⟨176,S [Ox 1 2 0,OM 2 0] (.seq (aC [bD 11 0 1 1,On 13 12,Oc 14 .gtr 13 8,Om 15 14,rD 16 15 1 1 15 1,Wv 18 15 17 15 24 15] (Cd 20 (S [OM 2 3] .ret) .skip)) (.seq (S [OM 3 0] (.block 0 (.loop (.seq (aC [Om 21 3,bD 22 0 1 1,nZ 24 23 21] (Ce 25 0)) (.seq (.block 1 (aC [bD 28 0 1 1,nW 30 3 4 29,Ot 32 4 31,O 4 (.alloc (.agg [Z0,.bool false,Z0,Z0])),Ns 4 4 32] (aC [bD 33 0 4 1,TI 35 116 34 0 100,ZAv 37 36 2 4 2 151,U4 41 37 40 37,Om 43 42,rD 44 43 1 4 43 1,G 46 43 false (.not (.t 45)),G 47 43 false (M 46),Ph 48 47 2 4,F1 49 47 0 48 47,G 51 47 true (.bin false .neq (.t 50) (I 0)),Pn 52 47 51,G 53 52 false (.fa 2 (.t 4)),rD 54 52 1 53 52 1,G 56 52 false (.bin false .neq (.t 55) (I 0)),G 57 47 true (.pick (.t 52) Bt (.t 56)),VU 58 43 47 57 43] (Cd 59 (S [OM 2 1] .ret) .skip)))) (cK [iT 26 3 1 3])))))) (.seq (S [OM 5 0] (.block 2 (.loop (.seq (aC [Om 60 5,bD 61 1 1 1,nZ 63 62 60] (Ce 64 2)) (.seq (.block 3 (aC [bD 67 1 1 1,nW 69 5 7 68,Ot 71 7 70,Z9 6 7 71] (.seq (aC [bD 72 0 6 1,TI 74 116 73 1 999,Om 76 75,rD 77 76 1 6 76 1,rD 79 76 0 1 76 1,G 81 76 false (.len none (.t 80)),G 82 76 false (.bin false .sub (.t 81) (I 1)),G 83 76 false (.call (C 116) [.t 78,I 0,.t 82]),U4 84 76 83 76,Om 86 85,rD 87 86 2 6 86 1,rD 89 86 0 1 86 1,G 91 86 false (.len none (.t 90)),G 92 86 false (.bin false .sub (.t 91) (I 1)),G 93 86 false (.call (C 116) [.t 88,I 0,.t 92]),U4 94 86 93 86,Om 96 95,rD 97 96 2 6 96 1,rD 99 96 1 6 96 1,G 101 96 false (.bin false .eql (.t 98) (.t 100)),Pq 102 96 101,Om 103 102,rD 104 103 0 1 103 1,rD 106 103 1 6 103 1,G 108 103 false (.ia 4 none (.t 105) (.t 107)),rD 109 103 1 108 103 1,Pq 111 103 110] (Cd 111 (S [OM 2 1] .ret) .skip)) (aC [bD 112 3 6 1,TI 114 116 113 0 1000,Om 116 115,rD 117 116 4 6 116 1,G 119 116 false (.call (C 116) [.t 118,I 0,I 1000]),U4 120 116 119 116,ZAv 122 121 5 6 2 151,U4 126 122 125 122] (Cd 127 (S [OM 2 1] .ret) .skip))))) (cK [iT 65 5 1 5])))))) (.seq (S [OM 7 0] (.block 4 (.loop (.seq (aC [Om 128 7,bD 129 1 1 1,nZ 131 130 128] (Ce 132 4)) (.seq (.block 5 (S [OM 8 0] (.block 6 (.loop (.seq (aC [Om 135 8,bD 136 1 1 1,nZ 138 137 135] (Ce 139 6)) (.seq (.block 7 (.seq (.jG (.op (Pa 142 1 1) (.op (Pm 144 7) (.op (Pa 147 1 1) (.op (Pm 149 8) (.op (Pl 143 142) (.op (Of 145 (.ia 7 none (.t 143) (.t 144))) (.op (Pt 146 7 145) (.seq (.alt (Pl 148 147) (.op (Of 150 (.ia 7 none (.t 148) (.t 149))) (.alt (Pt 151 7 150) (.alt (Of 9 (.alloc (.agg [Z0,Z0,Z0,Z0,Z0,Z0,Z0]))) (.alt (Of 10 (.alloc (.agg [Z0,Z0,Z0,Z0,Z0,Z0,Z0]))) L105c .no) (.alt (Of 10 (.alloc (.agg [Z0,Z0,Z0,Z0,Z0,Z0,Z0]))) (.alt (Of 9 (.alloc (.agg [Z0,Z0,Z0,Z0,Z0,Z0,Z0]))) L105c .no) .no)) (.alt (Of 9 (.alloc (.agg [Z0,Z0,Z0,Z0,Z0,Z0,Z0]))) L105d (.alt (Of 10 (.alloc (.agg [Z0,Z0,Z0,Z0,Z0,Z0,Z0]))) L105e .no)))) (.alt (Of 9 (.alloc (.agg [Z0,Z0,Z0,Z0,Z0,Z0,Z0]))) (.alt (Pl 148 147) (.op (Of 150 (.ia 7 none (.t 148) (.t 149))) L105d) (.alt (Of 10 (.alloc (.agg [Z0,Z0,Z0,Z0,Z0,Z0,Z0]))) L105b .no)) (.alt (Of 10 (.alloc (.agg [Z0,Z0,Z0,Z0,Z0,Z0,Z0]))) (.alt (Pl 148 147) (.op (Of 150 (.ia 7 none (.t 148) (.t 149))) L105e) (.alt (Of 9 (.alloc (.agg [Z0,Z0,Z0,Z0,Z0,Z0,Z0]))) L105b .no)) .no))) (.alt (Ns 7 10 151) .done .no)))))))))) (aC [bD 152 0 9 1,bD 154 0 10 1,Ob 156 .eql 153 155,NF 157 156 7 9,ZzW 159 157 7 10 157 158 157,Om 162 161,rD 163 162 0 9 162 1,rD 165 162 0 10 162 1,G 167 162 false (.bin false .gtr (.t 164) (.t 166)),G 168 162 false (M 167),F1 169 168 3 9 168,F1 171 168 3 10 168,G 173 168 true (.bin false .lss (.t 170) (.t 172)),VU 174 162 168 173 162] (Cd 175 (S [OM 2 6] .ret) .skip)))) (cK [iT 140 8 1 8]))))))) (cK [iT 133 7 1 7])))))) (S [OM 2 0] .ret))))),[.tm 2]⟩
def L119:aX :=⟨71,S [Ox 2 2 0,O 4 (.dV (.c (.int .u8 (0)))),OM 5 0,OM 6 0] (.seq (aC [Q1 14 2 2 160,Om 7 15] (aC [H5 16 7 0] (Cd 17 (S [Om 18 7,O 4 (.dV (.c (.int .u8 (0)))),OM 5 0,Om 6 18] .ret) .skip))) (S [OM 8 0,OM 9 0] (.seq .skip (.seq (aC [bD 19 1 2 1,wZ 21 20 0] (.block 0 (.loop (S [Ob 23 .lss 22 21] (.seq (Ce 23 0) (.seq (.block 1 (aC [Oi 24 3 20 22,Ot 25 3 24,IZ 11 3 25] (.seq (aC [oZ 26 1,Om 28 8,bD 29 0 11 1,Ob 31 .add 28 30,Ob 32 .lss 27 31] (Cd 32 (S [Pm 33 8,Pa 34 0 11,Pm 37 1,Of 38 (.len none (.t 37)),Of 4 (.dV (.c (.int .u8 (3)))),Pl 35 34,Ob 36 .add 33 35,Ob 39 .sub 36 38,Om 5 39,OM 6 0] .ret) .skip)) (.seq (aC [bM 40 1 8,Om 42 8,bD 43 0 11 1,Ob 45 .add 42 44,O 46 (.I9 1 none (.t 40) (some (.t 41)) (some (.t 45)) none),wZ 47 46 0] (.block 2 (.loop (S [Ob 49 .lss 48 47] (.seq (Ce 49 2) (.seq (.block 3 (aC [wU 50 1 46 48 1,Om 13 51] (S [Om 52 13] (Cd 52 (cK [iT 53 9 1 9]) .skip)))) (cK [pA 55 48 1 48]))))))) (aC [Om 56 8,bD 57 0 11 1,DY 59 56 58 8] (aC [Ot 60 3 11,zW 61 9 161 60,Om 4 62] (aC [ZAq 63 4 3] (Cd 64 (.exit 0) .skip)))))))) (cK [pA 65 22 1 22]))))))) (.seq (aC [oZ 66 1,Om 68 8,Ob 69 .gtr 67 68] (Cd 69 (S [O 4 (.dV (.c (.int .u8 (0)))),OM 5 0,OM 6 2] .ret) .skip)) (aC [jU 70 4 4,OM 5 0,OM 6 0] .ret)))))),[.tm 4,.tm 5,.tm 6]⟩
def L121:aX :=⟨126,aC [Ox 1 2 0,XV 2 0] (.seq (.block 0 (aC [bD 12 0 1 1,On 14 13,Oc 15 .gtr 14 8,Om 16 15,rD 17 16 1 1 16 1,Wv 19 16 18 16 24 16,Om 11 21] (Cd 11 (S [O 2 (.dV (.c .eU)),OM 3 3] .ret) (aC [bD 23 0 1 1,Ok 25 162 [.t 24,C 163],Oo 26 25,Om 27 26,rD 28 27 1 1 27 1,G 30 27 false (.load true 2 (.t 1)),G 31 27 false (.yB 165 [.t 30] []),G 32 27 false (.call (C 164) [.t 29,.t 31]),U4 33 27 32 27,Om 22 34] (Cd 22 (aC [XV 2 1] .ret) .skip))))) (S [Ot 35 2 1,O 36 (.x .F9),O 37 (.build (.agg ([E0,E0,.cT,E0] ++ List.replicate 1000 (.bool false))) [(0,(2,(.t 35))),(2,(1,(.t 36)))]),Ox 38 1004 37,Om 4 38] (.seq (aC [bD 39 1 1 1,wZ 41 40 0] (.block 1 (.loop (S [Ob 43 .lss 42 41] (.seq (Ce 43 1) (.seq (.block 2 (aC [Oi 44 7 40 42,Ot 45 7 44,Z9 6 7 45] (aC [yR 47 4 2,Pa 51 0 6,mY 50 49 52 51,Of 53 (.x (.look ⟨false,[.int .i64]⟩ (.agg [Z0,Z0,Z0,Z0,Z0,Z0,Z0]) true (.t 50) (.t 52))),mE 46 53 54 0 55 1,Of 7 (.alloc (.agg [Z0,Z0,Z0,Z0,Z0,Z0,Z0])),Ns 7 7 54,Om 8 55] (.seq (aC [Om 56 8,NF 57 56 7 7,ZzW 59 57 7 6 57 58 57] (Cd 61 (aC [XV 2 6] .ret) .skip)) (S [Om 62 8,Oo 63 62] (Cd 63 (aC [yR 64 4 2,Pa 68 0 6,mY 67 66 69 68,Pt 70 7 6,N (.x (.iK ⟨false,[.int .i64]⟩ (.t 67) (.t 69) (.t 70)))] (cK [Pm 71 4,yR 72 4 3,Pa 76 0 6,mY 75 74 77 76,XU 78 3 1 77 3 1 8 75,u0 80 71 3,Ns 1 81 79])) .skip)))))) (cK [pA 82 42 1 42]))))))) (aC [s9 83 4,bD 85 3 84 1,Ok 87 166 [.t 86]] (.seq (aC [s9 88 4,bD 90 3 89 1,wZ 92 91 0] (.block 3 (.loop (S [Ob 94 .lss 93 92] (.seq (Ce 94 3) (.seq (.block 4 (aC [Om 95 93,wU 96 1 91 93 1,bM 9 95 97] (aC [Pm 98 9,Of 99 (.bin false .gtr (.t 98) (I 0)),Pm 100 99,Ki 101 100 4 100 100 2,Gf 105 100 true (M 10),Ki 108 100 4 100 100 2,Ki 112 100 4 100 100 3,Gf 116 100 true (M 9),Gf 117 100 true (.bin false .sub (.t 116) (I 1)),Pi 104 100 103,Zz9 106 100 104 105 100 3 1,Pi 111 100 110,Nu 115 100 114 118 100 1 117,Pi 119 100 118,Zz9 120 100 111 119 100 3 1,Kj 122 100 107 121 100] (Cd 123 (aC [XV 2 6] .ret) .skip)))) (cK [pA 124 93 1 93]))))))) (aC [jU 125 4 2,OM 3 0] .ret)))))),[.tm 2,.tm 3]⟩
def L122:aX :=⟨5,S [Pf 2] (S [Om 3 0,Ok 4 167 [.t 3,I 1,I 999],Om 2 4] .ret),[.tm 2]⟩
def L123:aX :=⟨19,S [OM 4 0] (.seq (aC [oZ 6 0,OM 8 0] (.block 0 (.loop (S [Ob 9 .lss 8 7] (.seq (Ce 9 0) (.seq (.block 1 (aC [jU 10 8 5] (aC [bM 11 1 0,nW 13 5 1 12,Ol 15 1 14,O 16 (.call (.t 11) [.t 15])] (Cd 16 (aC [jU 17 5 4] .ret) .skip)))) (cK [pA 18 8 1 8]))))))) (S [OM 4 (-1)] .ret)),[.tm 4]⟩
def L136:aX :=⟨9,S [O 0 (.alloc (.agg [Z0,Z0,Z0,Z0]))] (.seq (S [OM 2 0] (.block 0 (.loop (S [Oc 3 .lss 2 4] (.seq (Ce 3 0) (.seq (.block 1 (aC [jU 4 2 1] (.region [Om 5 1,O 6 (.ia 1 (some 4) (.t 0) (.t 5)),N (.store 1 (.t 6) (I (-1)))]))) (cK [pA 7 2 1 2]))))))) (S [Ot 8 4 0,Ns 4 0 8] .ret)),[.cell 0 true 4]⟩
def L140:aX :=⟨23,aC [Ox 2 7 0,tM 3 7 1] (aC [bD 5 1 3 1,bD 7 2 2 1,Ob 9 .eql 6 8,F0 10 9 0 3,F1 13 10 0 2 10,Kj 15 10 12 14 10,NF 17 16 7 3,F1 19 17 3 2 17,EY 21 17 75 18 20 17,Om 4 22] .ret),[.tm 4]⟩
def L153:aX :=⟨11,S [Ox 2 2 0,Pf 4] (aC [Om 5 1,bD 6 0 2 1,On 8 7,Oc 9 .sub 8 1,Ok 10 167 [.t 5,I 0,.t 9],Om 4 10] .ret),[.tm 4]⟩
def L155:aX :=⟨45,aC [Ol 9 1 1,Oz 10 9,bD 11 3 10 1,wZ 13 12 0] (.block 0 (.loop (S [Ob 15 .lss 14 13] (.seq (Ce 15 0) (.seq (.block 1 (aC [wU 16 1 12 14 1,Om 7 17] (aC [Ol 18 1 1,Oz 19 18,bD 20 2 19 1,Wt 22 7 21,Z9 8 7 23] (aC [Om 24 7,Ol 25 1 2,Ob 26 .lss 24 25,F0 27 26 1 8,Pg 30 27 3,G 31 27 true (.bin false .eql (.t 29) (.t 30)),Pp 32 27 31,NF 33 32 7 8,Pg 35 33 4,EY 36 33 156 34 35 33,qD 38 37 0,G 40 38 true (.load true 7 (.t 8)),G 41 38 true (.call (.t 39) [.t 40]),JA 42 38 41 38] (Cd 43 .ret .skip))))) (cK [pA 44 14 1 14])))))),[]⟩
theorem L155_ok:fT Tryz.prog 155=some L155:=by kernel_rfl
def L167:aX :=⟨15,S [Pf 6] (aC [bM 7 1 0,Ob 9 .leq 7 8,RZ 10 9 0 2 6] .ret),[.tm 6]⟩
def L171:aX :=⟨8,S [Ox 2 2 0,Pf 3] (aC [Ol 4 1 1,y7 5 2 2 4,Oo 7 6,Om 3 7] .ret),[.tm 3]⟩
def L189:aX :=⟨57,aC [Om 6 1,U5 7 1 6 0 1,Ok 9 235 [.t 8,I 1,I 99],VR 10 9 1 1 1 235 4 30,VR 16 15 1 1 2 235 0 1000,Ok 22 148 [.t 21,I 2]] (aC [bM 24 0 1,U5 26 1 25 0 1,Ok 28 236 [.t 24,.t 27],mE 23 28 29 0 30 1,bM 4 29 30] (S [Om 31 5,Oo 32 31,Ok 33 148 [.t 32,I 6]] (.jG (.op (Pm 34 0) (.op (Pm 35 0) (.op (Pz 36 35) (.op (Pa 37 0 36) (.op (Pa 38 2 37) (.op (Pm 41 4) (.op (Pm 42 1) (.op (Pj 43 1 42 0) (.op (Pm 45 1) (.op (Pj 46 1 45 1) (.op (Pm 48 1) (.op (Pj 49 1 48 2) (.op (Pl 39 38) (.op (Pl 44 43) (.op (Pl 47 46) (.op (Pl 50 49) (.op (Of 51 (.build (.agg [Z0,Z0,Z0,.bool false]) [(0,(1,(.t 44))),(1,(1,(.t 47))),(2,(1,(.t 50)))])) (.seq (.alt (Of 40 (.call (C 70) [.t 39])) (.alt (Of 52 (.aQ 89 4 [.t 51])) .done .no) (.alt (Of 52 (.aQ 89 4 [.t 51])) (.alt (Of 40 (.call (C 70) [.t 39])) .done .no) .no)) (.alt (Ok 53 237 [.t 40,.t 41,.t 52]) (.op (Oz 54 34) (.op (Oa 55 0 54) (.op (Oa 56 2 55) (.alt (Ns 1 56 53) .done .no)))) .no)))))))))))))))))))))),[]⟩
def L190:aX :=⟨107,aC [Om 11 1,U5 12 1 11 1 1,Ok 14 235 [.t 13,I 2,I 5],VR 15 14 1 1 2 235 0 1000,VR 21 20 1 1 3 235 0 2000,Ok 27 148 [.t 26,I 2]] (aC [bM 29 0 1,U5 31 1 30 0 1,Ok 33 236 [.t 29,.t 32],mE 28 33 34 0 35 1,bM 4 34 35] (S [Om 36 5,Ok 37 148 [.t 36,I 7]] (aC [O0 38 0 0,bD 41 2 40 1,nW 43 4 4 42,Ot 45 4 44,ZAw 6 4 45] (aC [bD 46 3 6 1,Oo 48 47,qD 49 48 0,ZAr 51 49 4 6 49 80 50,G 53 49 true (.bin false .eql (.t 52) (.c (.int .u8 (3)))),Pp 54 49 53,Ok 55 148 [.t 54,I 8]] (S [OM 7 0] (.seq (aC [O0 56 0 0,bD 59 3 58 1,wZ 61 60 0] (.block 0 (.loop (S [Ob 63 .lss 62 61] (.seq (Ce 63 0) (.seq (.block 1 (aC [El 64 4 60 62 4 9,Ns 4 9 65] (aC [bD 66 0 9 1,bD 68 0 6 1,Ob 70 .eql 67 69] (Cd 70 (cK [iT 71 7 1 7]) .skip)))) (cK [pA 73 62 1 62]))))))) (aC [Om 74 7,bD 75 1 6 1,Ob 77 .lss 74 76,Ok 78 148 [.t 77,I 3]] (aC [rB 79 1 1 0,rB 82 1 1 1,rB 85 1 1 2,rB 88 1 1 3,mY 81 80 84 83,mY 87 86 90 89,O 91 (.build (.agg [Z0,Z0,Z0,Z0]) [(0,(1,(.t 81))),(1,(1,(.t 84))),(2,(1,(.t 87))),(3,(1,(.t 90)))]),Of 10 (.alloc (.agg [Z0,Z0,Z0,Z0])),Ns 4 10 91] (aC [Om 92 0,EZ 93 4 10 36 92,Ok 95 148 [.t 94,I 10]] (cK [Pm 96 0,yR 97 0 0,Pa 100 3 99,Pl 101 100,Pt 102 4 10,Ok 103 238 [.t 101,.t 102],u0 104 96 0,Oa 106 3 105,Ns 1 106 103])))))))))),[]⟩
def L194:aX :=⟨20,S [OM 4 0] (aC [oT 7 0 241,Om 5 8] (aC [oT 9 1 241,Om 6 10] (.seq (S [Om 11 5] (Cd 11 (.seq (S [Om 12 6] (Cd 12 (S [OM 4 0] .ret) .skip)) (S [OM 4 (-1)] .ret)) .skip)) (.seq (S [Om 13 6] (Cd 13 (S [OM 4 1] .ret) .skip)) (.seq (aC [bM 14 0 1,Ob 16 .lss 14 15] (Cd 16 (S [OM 4 (-1)] .ret) .skip)) (.seq (aC [bM 17 0 1,Ob 19 .gtr 17 18] (Cd 19 (S [OM 4 1] .ret) .skip)) (S [OM 4 0] .ret))))))),[.tm 4]⟩
def L196:aX :=⟨45,S [Pf 2] (.seq (aC [s9 7 0,bD 9 0 8 1,Oz 11 10,bD 12 3 11 1,wZ 14 13 0] (.block 0 (.loop (S [Ob 16 .lss 15 14] (.seq (Ce 16 0) (.seq (.block 1 (aC [wU 17 1 13 15 1,Om 4 18] (aC [s9 19 0,bD 21 0 20 1,Oz 23 22,bD 24 2 23 1,Wt 26 4 25,Z9 5 7 27] (aC [Om 28 0,bD 29 1 5 1,bD 31 3 5 1,Ok 33 197 [.t 28,.t 30,.t 32,I 1000],SB 6 2 33] (aC [Om 34 0,EZ 35 7 5 243 34,F0 37 36 0 6,F1 40 37 1 6 37,G 42 37 true (.bin false .gtr (.t 39) (.t 41)),Pp 43 37 42] (Cd 43 (S [O 2 (.dV Bt)] .ret) .skip)))))) (cK [pA 44 15 1 15]))))))) (S [Pf 2] .ret)),[.tm 2]⟩
def L199:aX :=⟨9,aC [tM 3 1 1] (aC [Om 5 0,VT 6 249 3 248 5,Oo 8 7,Om 4 8] .ret),[.tm 4]⟩
def L200:aX :=⟨6,aC [tM 1 3 0] (aC [bD 3 0 1 1,Oc 5 .geq 4 1,Om 2 5] .ret),[.tm 2]⟩
def L203:aX :=⟨18,aC [tM 1 2 0] (aC [bD 3 0 1 1,Ok 5 251 [.t 4],F0 6 5 1 1,SA 9 6 251 8 6,F0 11 10 0 1,F1 14 11 1 1 11,Nx 16 11 13 15 11,Om 2 17] .ret),[.tm 2]⟩
def L205:aX :=⟨134,S [O 8 (.dV Bt)] (S [O 9 (.dV Bt)] (.block 0 (.loop (.block 1 (aC [bM 19 2 1,Ob 21 .sub 19 20,Om 10 21] (.seq (S [Om 22 10,Oc 23 .leq 22 12] (Cd 23 (aC [bM 24 0 1,NG 26 2 252 24 25] .ret) .skip)) (.seq (aC [KH 28 3 0] (Cd 29 (aC [bM 30 0 1,NG 32 2 253 30 31] .ret) .skip)) (.seq (S [Om 34 8,Oo 35 34] (Cd 35 (aC [bM 36 0 1,NG 38 2 254 36 37] (.region [Om 40 3,Oc 41 .sub 40 1,Om 3 41])) .skip)) (aC [bM 43 0 1,NG 45 2 255 43 44,mE 42 46 47 0 48 1,bM 11 47 48] (.seq (aC [KH 49 12 2] (Cd 50 (aC [bM 51 0 1,NG 53 2 256 51 52] (aC [Om 55 2,Oc 56 .sub 55 1,bM 57 11 1,Ob 59 .sub 57 58,Ob 60 .sub 56 59,Om 11 60] (.region [OM 12 1]))) .skip)) (.seq (aC [Om 61 8,qD 62 61 9,Pp 64 62 63,qD 65 64 12,SE 67 65 66 1 65] (Cd 68 (aC [bM 69 0 1,NG 71 2 257 69 70] (Cd 72 .ret .skip)) .skip)) (.seq (aC [Pm 73 1,Of 74 (.bin false .gtr (.t 73) (I 0)),Pm 75 74,XW 76 75 0 75 1,Gf 78 75 true (.bin false .sub (.t 77) (I 1)),Gf 79 75 true (.ia 1 none (.t 76) (.t 78)),XW 81 75 0 75 11,Gf 83 75 true (.ia 1 none (.t 81) (.t 82)),Pi 80 75 79,Pi 84 75 83,G 85 75 true (.call (C 258) [.t 80,.t 84]),JA 86 75 85 75] (Cd 87 (aC [bM 88 0 1,bM 90 2 11,Ok 92 259 [.t 88,.t 89,.t 90,.t 91],Om 13 92] (aC [jU 93 13 1] (.exit 1))) .skip)) (aC [bM 95 0 1,bM 97 2 11,Ok 99 260 [.t 95,.t 96,.t 97,.t 98],mE 94 99 100 0 101 1,bM 14 100 101] (aC [jU 102 15 9] (aC [bM 103 14 1,Ob 105 .sub 103 104,bM 106 2 14,Ob 108 .sub 106 107,bM 16 105 108] (S [Om 109 10,Oc 110 .quo 109 8,Om 18 110] (aC [bM 111 16 17,Ob 113 .lss 111 112] (Cd 113 (aC [bM 114 16 18,Ob 116 .geq 114 115,Om 8 116] (aC [bM 117 0 1,bM 119 14 3,Ok 121 205 [.t 117,.t 118,.t 119,.t 120]] (cK [iT 122 14 1 1]))) (aC [bM 124 17 18,Ob 126 .geq 124 125,Om 8 126] (aC [bM 127 0 14,Oc 129 .add 128 1,bM 130 2 3,Ok 132 205 [.t 127,.t 129,.t 130,.t 131]] (cK [jU 133 14 2]))))))))))))))))))))),[]⟩
def L217:aX :=⟨29,S [Ox 3 3 1,Pe 4] (.seq (aC [s9 6 0,bD 8 2 7 1,wZ 10 9 0] (.block 0 (.loop (S [Ob 12 .lss 11 10] (.seq (Ce 12 0) (.seq (.block 1 (aC [jU 13 11 5] (aC [Om 14 0,bD 15 0 3 1,NG 17 5 267 14 16,Oc 19 .eql 18 (-1)] (Cd 19 (cK [Om 20 4,bD 21 0 3 1,Om 23 5,O 24 (.build (.agg [Z0,Z0,Z0]) [(0,(1,(.t 22))),(1,(1,(I (-1)))),(2,(1,(.t 23)))]),H6 25 281 3 24 281 3 24 20 4]) .skip)))) (cK [pA 27 11 1 11]))))))) (aC [jU 28 4 4] .ret)),[.tm 4]⟩
def L233:aX :=⟨54,S [OM 4 0,Pf 5] (aC [oZ 10 0,Om 6 11] (S [Om 12 6,OM 7 0,Om 8 12] (.seq (.block 0 (.loop (.seq (aC [bM 13 7 8,Ob 15 .lss 13 14] (Ce 15 0)) (.block 1 (aC [bM 16 7 8,ZAi 18 16 17 1 9] (aC [bM 22 0 9,wU 24 1 22 23 1,zW 26 1 258 25] (Cd 27 (cK [iT 28 9 1 7]) (cK [jU 30 9 8])))))))) (aC [bM 31 7 7,Om 33 6,Ob 34 .lss 32 33,qD 35 34 0,Nv 37 35 7 35 1 36,Pg 39 35 38,Pn 40 35 1,G 41 35 true (.bin false .eql (.t 39) (.t 40)),Pn 42 35 41,G 43 42 false (M 0),G 44 42 false (M 7),G 45 42 false (.ia 1 none (.t 43) (.t 44)),G 46 42 false (.load false 1 (.t 45)),G 47 42 false (.call (C 278) [.t 46]),G 48 42 false (M 47),Pn 49 48 1,G 50 48 true (.call (C 278) [.t 49]),G 51 42 false (.pick (.t 48) (.t 50) Bf),G 52 35 true (.pick (.t 42) Bt (.t 51)),Pp 53 35 52,bM 4 31 53] .ret)))),[.tm 4,.tm 5]⟩
def L236:aX :=⟨15,S [OM 4 0,Pf 5] (aC [O0 6 0 0,bD 9 2 8 1,Om 11 1,Ok 12 281 [.t 10,.t 11,C 282],Oe 13 12 0,Oe 14 12 1,bM 4 13 14] .ret),[.tm 4,.tm 5]⟩
def L245:aX :=⟨2,S [O 0 (.alloc (.agg [Z0,Z0]))] (S [O 1 (.build (.agg [Z0,Z0]) [(0,(1,(I (-1099511627776)))),(1,(1,(I 1099511627776)))]),Ns 2 0 1] .ret),[.cell 0 true 2]⟩
def L246:aX :=⟨18,S [Ox 2 2 0,Ox 3 2 1,O 4 (.alloc (.agg [Z0,Z0]))] (.seq (.jG (.op (Pa 5 0 2) (.op (Pa 7 0 3) (.op (Pa 11 1 2) (.op (Pa 13 1 3) (.op (Pl 6 5) (.op (Pl 8 7) (.op (Pl 12 11) (.op (Pl 14 13) (.seq (.alt (Of 9 (.aQ 3 1 [.t 6,.t 8])) (.alt (Of 10 (.call (C 289) [.t 9])) (.alt (Of 15 (.aQ 3 1 [.t 12,.t 14])) .done .no) (.alt (Of 15 (.aQ 3 1 [.t 12,.t 14])) (.alt (Of 10 (.call (C 289) [.t 9])) .done .no) .no)) (.alt (Of 15 (.aQ 3 1 [.t 12,.t 14])) (.alt (Of 9 (.aQ 3 1 [.t 6,.t 8])) (.alt (Of 10 (.call (C 289) [.t 9])) .done .no) .no) .no)) (.alt (Ok 16 290 [.t 15]) (.op (O 17 (.build (.agg [Z0,Z0]) [(0,(1,(.t 10))),(1,(1,(.t 16)))])) (.alt (Ns 2 4 17) .done .no)) .no))))))))))) .ret),[.cell 4 true 2]⟩
def L247:aX :=⟨11,S [Ox 2 2 0,O 4 (.alloc (.agg [Z0,Z0]))] (S [Ot 5 2 2,Om 6 1,O 7 (.neg (.t 6)),Om 8 1,O 9 (.build (.agg [Z0,Z0]) [(0,(1,(.t 7))),(1,(1,(.t 8)))]),Ok 10 244 [.t 5,.t 9],Ns 2 4 10] .ret),[.cell 4 true 2]⟩
def L249:aX :=⟨8,aC [tM 2 3 0] (aC [Ol 4 1 1,y7 5 3 2 4,Oo 7 6,Om 3 7] .ret),[.tm 3]⟩
def L252:aX :=⟨49,aC [iT 8 1 1 6] (.block 0 (.loop (.seq (aC [bM 10 6 2,Ob 12 .lss 10 11] (Ce 12 0)) (.seq (.block 1 (aC [jU 15 6 7] (.block 2 (.loop (.seq (aC [Pm 16 7,Pm 17 1,Of 18 (.bin false .gtr (.t 16) (.t 17)),Pm 19 18,XW 20 19 0 19 7,Gf 22 19 true (.ia 1 none (.t 20) (.t 21)),XW 24 19 0 19 7,Gf 26 19 true (.bin false .sub (.t 25) (I 1)),Gf 27 19 true (.ia 1 none (.t 24) (.t 26)),Pi 23 19 22,Pi 28 19 27,EY 29 19 258 23 28 19] (Ce 30 2)) (.seq (.block 3 (cK [Pm 33 0,Pm 34 7,Pm 35 0,Pm 36 7,Of 37 (.bin false .sub (.t 36) (I 1)),Pm 38 0,Pm 39 7,Of 40 (.bin false .sub (.t 39) (I 1)),Of 41 (.ia 1 none (.t 38) (.t 40)),SD 43 0 7 1,mY 42 41 46 45,Oi 47 1 33 34,Ns 1 47 42,Oi 48 1 35 37,Ns 1 48 46])) (.region [Om 31 7,Oc 32 .sub 31 1,Om 7 32]))))))) (cK [iT 13 6 1 6]))))),[]⟩
def L269:aX :=⟨15,S [Pf 6] (aC [bM 7 0 1,Ob 9 .geq 7 8,RZ 10 9 0 2 6] .ret),[.tm 6]⟩
def L282:aX :=⟨9,S [Ox 2 4 0,OM 4 0] (aC [bD 5 0 2 1,Om 7 1,Ob 8 .sub 6 7,Om 4 8] .ret),[.tm 4]⟩
def L287:aX :=⟨5,S [Ox 1 2 0,OM 2 0] (aC [bD 3 0 1 1,Om 2 4] .ret),[.tm 2]⟩
def L289:aX :=⟨5,S [OM 2 0] (aC [oT 3 0 310,Om 2 4] .ret),[.tm 2]⟩
def L299:aX :=⟨27,S [Ot 7 2 1,O 8 (.yB 300 [.t 7] []),Om 5 8] (aC [bD 9 0 1 1,wZ 11 10 0] (.block 0 (.loop (S [Ob 13 .lss 12 11] (.seq (Ce 13 0) (.seq (.block 1 (aC [jU 14 12 6] (aC [Om 15 5,Ol 16 1 2,Om 17 6,Ol 18 1 3,O 19 (.call (.t 15) [.t 16,.t 17,.t 18]),qD 20 19 0,Pn 22 20 6,G 23 20 true (.call (.t 21) [.t 22]),JA 24 20 23 20] (Cd 25 .ret .skip)))) (cK [pA 26 12 1 12]))))))),[]⟩
def L310:aX :=⟨25,S [OM 2 0] (.seq (aC [oZ 5 0,Oc 7 .lss 6 1] (Cd 7 (.region [O 8 (.x (.sF 9 (.c (.str ⟨#[115,108,105,99,101,115,46,77,97,120,58,32,101,109,112,116,121,32,108,105,115,116]⟩)))),N (.x (.B3 (.t 8)))]) .skip)) (aC [Om 9 0,U5 10 1 9 0 1,Om 3 11] (.seq (S [OM 4 1] (.block 0 (.loop (.seq (aC [bM 12 4 0,nZ 14 13 12] (Ce 15 0)) (.seq (.block 1 (cK [bM 18 3 0,nW 20 4 1 19,Ol 22 1 21,O 23 (.iW true (.t 18) (.t 22)),Om 3 23])) (cK [iT 16 4 1 4])))))) (aC [jU 24 3 2] .ret)))),[.tm 2]⟩
def L313:aX :=⟨10,S [Ox 2 2 0,Pf 3] (aC [Ol 4 1 1,bD 5 0 2 1,bD 7 1 2 1,Ok 9 173 [.t 4,.t 6,.t 8],Om 3 9] .ret),[.tm 3]⟩
end
noncomputable section
def L20:aX :=⟨88,S [O 2 (.dV (.c (.str ⟨#[]⟩))),OM 3 0] (.seq (aC [oT 16 0 30,Om 4 17] (aC [H5 18 4 0] (Cd 19 (S [Om 20 4,O 2 (.dV (.c (.str ⟨#[]⟩))),Om 3 20] .ret) .skip))) (aC [oT 22 0 31,mE 21 23 24 0 25 1,bM 5 24 25] (S [O 7 (.x (.Ek 102 5))] (S [O 26 (.yB 39 [] [.t 7]),Om 8 26] (.seq (aC [O0 27 5 0,bD 30 2 29 1,wZ 32 31 0] (.block 0 (.loop (S [Ob 34 .lss 33 32] (.seq (Ce 34 0) (.seq (.block 1 (aC [Oi 35 4 31 33,Ot 36 4 35,ZAw 10 4 36] (cK [bM 37 8 5,EZ 39 4 10 41 38,O 41 (.call (.t 37) [.t 40])]))) (cK [pA 42 33 1 33]))))))) (aC [oT 44 5 43,Ok 46 42 [.t 45,.c E0],mE 43 46 47 0 48 1,bM 11 47 48] (aC [Pm 49 8,Of 50 (.x (.sF 9 (.c (.str ⟨#[99,101,114,116,115]⟩)))),yR 51 5 0,Pa 54 0 53,Of 58 (.x (.sF 9 (.c (.str ⟨#[104,101,108,100]⟩)))),Pm 59 11,Of 60 (.len none (.t 59)),Of 61 (.x (.sF 3 (.t 60))),Of 62 (.x (.sF 9 (.c (.str ⟨#[98,97,100]⟩)))),yR 63 5 0,Pa 66 1 65,VV 55 54,Of 57 (.x (.sF 3 (.t 56))),VV 67 66,Of 69 (.x (.sF 3 (.t 68))),O 70 (.aQ 20 1 [.t 50,.t 57,.t 58,.t 61,.t 62,.t 69]),Ok 71 44 [.t 70],O 72 (.call (.t 49) [.t 71])] (aC [oT 74 5 46,Ok 76 45 [.t 75],mE 73 76 77 0 78 1,Oe 79 73 2,bM 13 77 78,Om 15 79] (S [Om 80 8,O 81 (.x (.sF 9 (.c (.str ⟨#[101,110,100]⟩)))),Om 82 14,O 83 (.x (.sF 3 (.t 82))),O 84 (.aQ 20 1 [.t 81,.t 83]),Ok 85 44 [.t 84],O 86 (.call (.t 80) [.t 85])] (S [Ok 87 47 [.t 7],Om 2 87,OM 3 0] .ret)))))))))),[.tm 2,.tm 3]⟩
def L23:aX :=⟨19,aC [Ox 2 5 0,tM 3 4 1] (aC [Ot 8 5 2,EZ 9 4 3 48 8,mE 7 10 11 0 12 1,bM 5 11 12] (aC [bD 13 3 3 1,qD 15 14 5,G 17 15 true (.bin false .neq (.t 16) (I 1)),Pp 18 15 17,Om 4 18] .ret)),[.tm 4]⟩
def L26:aX :=⟨63,aC [Ox 2 5 0,SC 4 0] (aC [oT 10 1 58,mE 9 11 12 0 13 1,Oe 14 9 2,bM 6 12 13,Om 8 14] (.seq (S [Om 15 8,Oo 16 15] (Cd 16 (aC [uF 17 5 2 5 4 5 4] .ret) .skip)) (.seq (S [Om 18 6] (.block 0 (S [O 20 (.x (.eqv false ⟨false,[.str]⟩ (.t 18) (.c (.str ⟨#[99,101,114,116]⟩)))),Om 19 20] (Cd 19 (aC [Ot 21 5 2,zW 22 7 59 21,Oe 24 23 0,Oe 25 23 1,Ns 5 4 24,Om 5 25] .ret) (S [O 27 (.x (.eqv false ⟨false,[.str]⟩ (.t 18) (.c (.str ⟨#[98,97,100]⟩)))),Om 26 27] (Cd 26 (aC [rB 29 7 1 0,Pt 28 5 2,Pl 31 30,Ok 32 60 [.t 28,.t 31],Oe 33 32 0,Oe 34 32 1,Ns 5 4 33,Om 5 34] .ret) (S [O 36 (.x (.eqv false ⟨false,[.str]⟩ (.t 18) (.c (.str ⟨#[108,111,116]⟩)))),Om 35 36] (Cd 35 (aC [Ot 37 5 2,zW 38 7 61 37,Oe 40 39 0,Oe 41 39 1,Ns 5 4 40,Om 5 41] .ret) (S [O 43 (.x (.eqv false ⟨false,[.str]⟩ (.t 18) (.c (.str ⟨#[116,101,115,116]⟩)))),Om 42 43] (Cd 42 (aC [Ot 44 5 2,zW 45 7 62 44,Oe 47 46 0,Oe 48 46 1,Ns 5 4 47,Om 5 48] .ret) (S [O 50 (.x (.eqv false ⟨false,[.str]⟩ (.t 18) (.c (.str ⟨#[112,97,115,115]⟩)))),Om 49 50] (Cd 49 (aC [rB 52 7 1 0,Pt 51 5 2,Pl 54 53,Ok 55 63 [.t 51,.t 54],Oe 56 55 0,Oe 57 55 1,Ns 5 4 56,Om 5 57] .ret) .skip)))))))))))) (aC [Ot 58 5 2,zW 59 7 64 58,Oe 61 60 0,Oe 62 60 1,Ns 5 4 61,Om 5 62] .ret)))),[.cell 4 true 5,.tm 5]⟩
def L28:aX :=⟨2,S [Pe 0] (S [O 1 (.aQ 9 1 [.c (.str ⟨#[99,101,114,116,32,49,32,50,32,48,32,49,48,32,49,48,48,32,45,49,32,49]⟩),.c (.str ⟨#[108,111,116,32,55,32,56,32,53,48,48]⟩),.c (.str ⟨#[116,101,115,116,32,55,32,50,32,50,48,32,53,49,49]⟩),.c (.str ⟨#[116,101,115,116,32,55,32,50,32,50,48,32,53,49,48]⟩)]),Om 0 1] .ret),[.tm 0]⟩
def L39:aX :=⟨6,.region [Om 3 0,O 4 (.x (.rK (.t 3) (.c (.str ⟨#[10]⟩)))),Ok 5 40 [.t 1,.t 4]],[]⟩
def L42:aX :=⟨27,S [Ox 2 2 0,Pe 4,OM 5 0] (aC [Ot 10 2 2,zW 11 1 81 10,mE 9 12 13 0 14 1,bM 6 13 14] (.seq (aC [H5 15 7 0] (Cd 16 (S [Om 17 7,Pe 4,Om 5 17] .ret) .skip)) (aC [oT 18 6 82,O 8 (.alloc .cT),Ns 1 8 19] (aC [s9 20 6,bD 22 3 21 1,Ok 24 69 [.t 23],VT 25 84 8 83 24,Om 4 26,OM 5 0] .ret)))),[.tm 4,.tm 5]⟩
def L43:aX :=⟨15,S [Ox 1 1 0,O 2 (.alloc (.agg [E0,E0]))] (aC [Ol 4 1 1,u0 5 4 0,bD 7 0 6 1,Ok 9 68 [.t 8],VT 10 86 1 85 9,Om 3 11] (S [Ok 12 88 [],Om 13 3,O 14 (.build (.agg [E0,E0]) [(0,(1,(.t 12))),(1,(1,(.t 13)))]),Ns 2 2 14] .ret)),[.cell 2 true 2]⟩
def L46:aX :=⟨10,S [O 2 (.alloc (.agg [E0,E0]))] (aC [yR 4 0 0,Wu 7 4 6 3 93 0 1 3 1 1,Ns 2 2 9] .ret),[.cell 2 true 2]⟩
def L50:aX :=⟨48,S [Ox 2 2 0,Pe 4] (S [Pe 5] (.seq (S [OM 6 1] (.block 0 (.loop (.seq (S [Om 9 6,Oc 10 .leq 9 999] (Ce 10 0)) (.seq (.block 1 (S [Pf 7] (.seq (S [OM 8 0] (.block 2 (.loop (.seq (aC [Om 13 8,bD 14 1 2 1,nZ 16 15 13] (Ce 17 2)) (.seq (.block 3 (cK [Pm 20 7,Pm 21 20,Gf 22 21 false (.fa 1 (.t 2)),Gf 24 21 false (M 8),Gf 28 21 false (M 6),Gf 23 21 false (.load false 1 (.t 22)),Gf 25 21 false (.ia 7 none (.t 23) (.t 24)),Gf 26 21 false (.fa 0 (.t 25)),Gf 27 21 false (.load false 1 (.t 26)),Gf 29 21 false (.bin false .eql (.t 27) (.t 28)),Gf 30 21 false (M 29),Gf 32 30 true (.fa 1 (.t 2)),Gf 34 30 true (M 8),XW 37 30 1 30 5,Gf 31 30 true (.load true 2 (.t 2)),Nu 33 30 32 35 30 7 34,Gf 36 30 true (.load true 7 (.t 35)),G 39 30 true (.call (C 97) [.t 31,.t 36,.t 37,.t 38]),VU 40 21 30 39 21,Om 7 41])) (cK [iT 18 8 1 8])))))) (S [Om 42 7] (Cd 42 (cK [bM 43 5 6,H6 45 3 1 44 3 1 8 43 5]) .skip))))) (cK [iT 11 6 1 6])))))) (aC [jU 47 5 4] .ret))),[.tm 4]⟩
def L53:aX :=⟨13,aC [tM 3 4 1] (aC [bD 5 3 3 1,qD 7 6 0,ZAr 9 7 4 3 7 80 8,G 11 7 true (.bin false .neq (.t 10) (.c (.int .u8 (1)))),Pp 12 7 11,Om 4 12] .ret),[.tm 4]⟩
def Y54_0a:bC :=(S [Om 4 8] (.region [Om 5 9]))
def Y54_0b:bC :=(.block 1 (.seq (S [Ol 10 1 2,On 11 10,Oc 12 .eql 11 50] (Cd 12 (.exit 0) .skip)) (.region [Ol 13 1 2,Om 14 4,O 15 (.aQ 9 1 [.t 14]),O 16 (.app 9 1 16 (.t 13) (.t 15)),Om 17 5,Ns 1 2 16,Ns 1 3 17])))
def L56:aX :=⟨20,S [Pe 2] (S [Pe 3] (.seq (aC [oZ 6 0,OM 8 0] (.block 0 (.loop (S [Ob 9 .lss 8 7] (.seq (Ce 9 0) (.seq (.block 1 (aC [Om 10 8,wU 11 1 6 8 1,bM 4 10 12] (cK [bM 13 3 5,zW 15 4 102 14,O 17 (.x (.VQ 5 1 1 (.t 13) (.t 16))),Om 3 17]))) (cK [pA 18 8 1 8]))))))) (aC [jU 19 3 2] .ret))),[.tm 2]⟩
def L58:aX :=⟨80,S [O 2 (.dV (.c (.str ⟨#[]⟩))),Pe 3,Pf 4] (S [Pe 5] (S [OM 6 0] (.seq (S [OM 7 0] (.block 0 (.loop (.seq (aC [bM 13 7 0,O 15 (.x (.rI (.t 14))),Ob 16 .leq 13 15] (Ce 16 0)) (.seq (.block 1 (aC [bM 19 7 0,O 21 (.x (.rI (.t 20))),Ob 22 .eql 19 21,Ws 23 22 0 7,G 27 23 false (.bin false .eql (.t 26) (.c (.int .u8 (32)))),Pq 28 23 27] (Cd 28 (aC [bM 29 5 0,bM 31 6 7,O 33 (.x (.TT (.t 30) (some (.t 31)) (some (.t 32)))),H6 34 9 1 33 9 1 16 29 5] (cK [iT 36 7 1 6])) .skip))) (cK [iT 17 7 1 7])))))) (S [OM 8 (-1)] (.seq (aC [Om 38 5,U5 39 1 38 0 1] (.block 2 (S [O 42 (.x (.eqv false ⟨false,[.str]⟩ (.t 40) (.c (.str ⟨#[99,101,114,116]⟩)))),Om 41 42] (Cd 41 (.region [OM 8 7]) (.seq (S [O 44 (.x (.eqv false ⟨false,[.str]⟩ (.t 40) (.c (.str ⟨#[98,97,100]⟩)))),Om 43 44] (Cd 43 .skip (.region [O 45 (.x (.eqv false ⟨false,[.str]⟩ (.t 40) (.c (.str ⟨#[112,97,115,115]⟩)))),Om 43 45]))) (Cd 43 (.region [OM 8 1]) (.seq (S [O 47 (.x (.eqv false ⟨false,[.str]⟩ (.t 40) (.c (.str ⟨#[108,111,116]⟩)))),Om 46 47] (Cd 46 .skip (.region [O 48 (.x (.eqv false ⟨false,[.str]⟩ (.t 40) (.c (.str ⟨#[114,117,110]⟩)))),Om 46 48]))) (Cd 46 (.region [OM 8 3]) (S [O 50 (.x (.eqv false ⟨false,[.str]⟩ (.t 40) (.c (.str ⟨#[116,101,115,116]⟩)))),Om 49 50] (Cd 49 (.region [OM 8 4]) .skip)))))))))) (.seq (aC [oZ 51 5,Om 53 8,Oc 54 .add 53 1,Ob 55 .neq 52 54] (Cd 55 (S [O 2 (.dV (.c (.str ⟨#[]⟩))),Pe 3,Pf 4] .ret) .skip)) (S [Pe 9] (.seq (S [OM 10 1] (.block 3 (.loop (.seq (aC [bM 56 10 5,nZ 58 57 56] (Ce 59 3)) (.seq (.block 4 (aC [bM 63 5 10,wU 65 1 63 64 1,Ok 67 104 [.t 66],mE 62 67 68 0 69 1,bM 11 68 69] (.seq (S [Om 70 12,Oo 71 70] (Cd 71 (S [O 2 (.dV (.c (.str ⟨#[]⟩))),Pe 3,Pf 4] .ret) .skip)) (cK [bM 72 9 11,H6 74 3 1 73 3 1 8 72 9])))) (cK [iT 60 10 1 10])))))) (aC [Om 76 5,U5 77 1 76 0 1,Om 79 9,bM 2 78 79,O 4 (.dV Bt)] .ret))))))))),[.tm 2,.tm 3,.tm 4]⟩
def L68:aX :=⟨8,S [Pe 2] (.seq (S [Om 3 0,O 4 (.yA .sl false (.t 3))] (Cd 4 (S [Pe 2] .ret) .skip)) (S [O 5 (.aQ 88 7 []),Om 6 0,O 7 (.jA 88 7 56 (.t 5) (.t 6)),Om 2 7] .ret)),[.tm 2]⟩
def L69:aX :=⟨8,S [Pe 2] (.seq (S [Om 3 0,O 4 (.yA .sl false (.t 3))] (Cd 4 (S [Pe 2] .ret) .skip)) (S [O 5 (.aQ 3 1 []),Om 6 0,O 7 (.jA 3 1 8 (.t 5) (.t 6)),Om 2 7] .ret)),[.tm 2]⟩
def L73:aX :=⟨8,aC [tM 2 7 0] (aC [bD 4 0 2 1,Ol 6 1 1,Ob 7 .eql 5 6,Om 3 7] .ret),[.tm 3]⟩
def L75:aX :=⟨14,S [Ox 2 7 0,Pf 4] (aC [Om 5 1,bD 6 3 2 1,bD 8 3 2 1,bD 10 4 2 1,Ob 12 .add 9 11,Ok 13 116 [.t 5,.t 7,.t 12],Om 4 13] .ret),[.tm 4]⟩
def L83:aX :=⟨42,S [Pe 4] (aC [bM 8 0 1,Ok 10 123 [.t 8,.t 9],Om 5 10] (.seq (S [Om 11 5,Oc 12 .eql 11 (-1)] (Cd 12 (aC [jU 13 0 4] .ret) .skip)) (.seq (aC [iT 14 5 1 6] (.block 0 (.loop (.seq (aC [bM 16 6 0,nZ 18 17 16] (Ce 19 0)) (.seq (.block 1 (aC [bM 22 0 6,wU 24 1 22 23 1,Om 7 25] (aC [bM 26 1 7,O 28 (.call (.t 26) [.t 27]),Oo 29 28] (Cd 29 (aC [bM 30 0 5,Om 32 7,Oi 33 1 30 31,Ns 1 33 32] (cK [iT 34 5 1 5])) .skip)))) (cK [iT 20 6 1 6])))))) (aC [bM 36 0 5,O 38 (.I9 1 none (.t 36) (some (.t 37)) none none),N (.x (.clear 1 Z0 (.t 38)))] (aC [bM 39 0 5,O 41 (.I9 1 none (.t 39) none (some (.t 40)) none),Om 4 41] .ret))))),[.tm 4]⟩
def L84:aX :=⟨8,S [Pf 3] (S [Ol 4 1 1,Om 5 0,O 6 (.x (.look ⟨false,[.int .i64]⟩ (.bool false) false (.t 4) (.t 5))),Oo 7 6,Om 3 7] .ret),[.tm 3]⟩
def L86:aX :=⟨12,aC [tM 2 7 0] (aC [Pa 9 0 2,JB 4 1 0,Pa 7 1 6,mY 8 7 10 9,Ok 11 87 [.t 8,.t 10],Om 3 11] .ret),[.tm 3]⟩
def L92:aX :=⟨51,S [Ox 1 2 0,O 2 (.dV (.c .eU)),Pf 3] (S [Ot 8 2 1,O 9 (.build (.agg [E0,E0,E0]) [(0,(2,(.t 8)))]),Ox 10 3 9,Om 4 10] (S [Pe 5] (.seq (aC [bD 11 1 1 1,wZ 13 12 0] (.block 0 (.loop (S [Ob 15 .lss 14 13] (.seq (Ce 15 0) (.seq (.block 1 (S [Om 16 14,Oi 17 3 12 14,Ot 18 3 17,O 7 (.alloc (.agg [Z0,Z0,E0])),Om 6 16,Ns 3 7 18] (cK [bM 19 5 6,Pb 21 3 1 20,bD 22 0 7 1,Ok 24 135 [.t 21,.t 23],Py 25 3 1 8 19 24,Om 5 25]))) (cK [pA 26 14 1 14]))))))) (.seq (.block 2 (.loop (.seq (aC [oZ 27 5,Oc 29 .gtr 28 0] (Ce 29 2)) (.block 3 (.seq (aC [s9 30 4,bD 32 2 31 1,On 34 33,Oc 35 .eql 34 40] (Cd 35 (S [O 2 (.dV (.c .eU)),Pf 3] .ret) .skip)) (aC [Pm 36 4,yR 37 4 2,Pl 40 39,Of 41 (.call (C 136) []),XU 42 180 4 41 180 4 32 40,u0 44 36 2,Ns 1 45 43] (cK [bM 46 5 4,O 48 (.yB 137 [.t 47] []),Ok 49 83 [.t 46,.t 48],Om 5 49]))))))) (aC [jU 50 4 2,O 3 (.dV Bt)] .ret))))),[.tm 2,.tm 3]⟩
def L98:aX :=⟨29,S [Ox 2 2 0,Pf 4] (aC [Q1 7 2 2 141,Om 5 8] (.seq (S [OM 6 0] (.block 0 (.loop (.seq (aC [bM 9 6 5,nZ 11 10 9] (Ce 12 0)) (.seq (.block 1 (aC [SD 16 5 6 1,SD 22 5 6 1,Pm 26 1,Pt 15 2 2,Pl 19 18,Pt 21 2 2,Pl 25 24,Of 20 (.call (C 142) [.t 15,.t 19]),Ok 27 143 [.t 21,.t 25,.t 26],Ob 28 .gtr 20 27] (Cd 28 (S [Pf 4] .ret) .skip))) (cK [iT 13 6 1 6])))))) (S [O 4 (.dV Bt)] .ret))),[.tm 4]⟩
def L102:aX :=⟨47,S [O 4 (.dV (.c (.str ⟨#[]⟩)))] (S [Om 8 1,Oc 9 .add 8 1,O 10 (.bin false .mul (I 11) (.t 9)),Om 5 10] (.seq (aC [Om 11 0,O 12 (.x (.AO 5 (.t 11))),wZ 13 12 0] (.block 0 (.loop (S [Ob 15 .lss 14 13] (.seq (Ce 15 0) (.seq (.block 1 (aC [Om 16 14,wU 17 1 12 14 1,bM 6 16 18] (cK [bM 19 5 6,Oc 21 .add 20 1,Om 22 7,O 23 (.conv .i64 (.t 22)),Oc 24 .add 23 1,Ob 25 .mul 21 24,DY 26 19 25 5]))) (cK [pA 27 14 1 14]))))))) (aC [Ia 28 0,Ok 30 150 [.t 29,I 3],O 31 (.x (.rK (.c (.str ⟨#[123]⟩)) (.t 30))),O 32 (.x (.rK (.t 31) (.c (.str ⟨#[58]⟩)))),Ia 33 0,O 35 (.bin false .sub (I 999) (.t 34)),Ok 36 150 [.t 35,I 3],O 37 (.x (.rK (.t 32) (.t 36))),O 38 (.x (.rK (.t 37) (.c (.str ⟨#[58]⟩)))),Om 39 5,Oc 40 .rem 39 99991,Ok 41 150 [.t 40,I 5],O 42 (.x (.rK (.t 38) (.t 41))),O 43 (.x (.rK (.t 42) (.c (.str ⟨#[125]⟩)))),Om 44 0,O 45 (.x (.rK (.t 43) (.t 44))),O 46 (.x (.rK (.t 45) (.c (.str ⟨#[10]⟩)))),Om 4 46] .ret))),[.tm 4]⟩
def L106:aX :=⟨42,aC [tM 1 2 0] (aC [Q1 7 2 1 139,Om 3 8] (.seq (S [OM 4 0] (.block 0 (.loop (.seq (aC [Om 9 4,bD 10 1 1 1,nZ 12 11 9] (Ce 13 0)) (.seq (.block 1 (aC [bD 16 1 1 1,nW 18 4 7 17,Ot 20 7 19,Z9 5 7 20] (aC [Ot 21 2 1,Om 22 3,bD 23 1 5 1,bD 25 3 5 1,Ok 27 138 [.t 21,.t 22,.t 24,.t 26,I 1000],SB 6 2 27] (aC [yR 28 3 2000,Pa 32 0 5,mY 31 30 33 32,Of 34 (.call (C 76) [.t 31,.t 33]),Pm 35 34,Gf 36 35 true (.fa 0 (.t 6)),Gf 38 35 true (.fa 1 (.t 6)),Pi 37 35 36,Pi 39 35 38,G 40 35 true (.bin false .gtr (.t 37) (.t 39)),Pp 41 35 40] (Cd 41 (S [O 2 (.dV Bt)] .ret) .skip))))) (cK [iT 14 4 1 4])))))) (S [Pf 2] .ret))),[.tm 2]⟩
def L108:aX :=⟨22,S [Ox 2 5 0,OM 4 0] (.seq (S [OM 5 0] (.block 0 (.loop (.seq (aC [Om 6 5,bD 7 2 2 1,nZ 9 8 6] (Ce 10 0)) (.seq (.block 1 (aC [bD 13 2 2 1,nW 15 5 4 14,bD 17 0 16 1,Om 19 1,Ob 20 .eql 18 19] (Cd 20 (aC [jU 21 5 4] .ret) .skip))) (cK [iT 11 5 1 5])))))) (S [OM 4 (-1)] .ret)),[.tm 4]⟩
def L111:aX :=⟨19,S [OM 4 0] (.seq (aC [oZ 6 0,OM 8 0] (.block 0 (.loop (S [Ob 9 .lss 8 7] (.seq (Ce 9 0) (.seq (.block 1 (aC [jU 10 8 5] (aC [bM 11 1 0,nW 13 5 7 12,y7 15 7 14 11] (Cd 16 (aC [jU 17 5 4] .ret) .skip)))) (cK [pA 18 8 1 8]))))))) (S [OM 4 (-1)] .ret)),[.tm 4]⟩
theorem L111_ok:fT Tryz.prog 111=some L111:=by kernel_rfl
def Y112_0a:bC :=(cK [Z9 13 7 49])
def Y112_0b:bC :=(.block 1 (cK [Ol 50 1 12,Om 51 50,G 52 51 false (.load false 1 (.t 11)),rD 53 51 0 13 51 1,ZAo 55 51 52 54 51,Ns 1 12 56]))
noncomputable def L112:aX :=⟨61,aC [Ox 3 2 0,Kk 6,OM 8 0] (aC [Q1 15 2 3 121,mE 14 16 17 0 18 1,bM 9 17 18] (.seq (aC [H5 19 10 0] (Cd 20 (aC [Om 21 10,Kk 6,Om 8 21] .ret) .skip)) (.seq (aC [O0 22 9 0,Ot 25 2 24,zW 26 1 153 25,Oo 28 27,XT 29 28 2,G 31 29 false (.call (C 154) [.t 30]),U4 32 29 31 29] (Cd 33 (aC [Kk 6,OM 8 2] .ret) .skip)) (aC [oT 34 9 82,O 11 (.alloc .cT),Ns 1 11 35] (aC [O0 36 9 0,bD 39 0 38 1,nW 41 1 4 40,bD 43 1 42 1,O 12 (.alloc (.bool false)),Ns 1 12 44] (.seq (aC [bM 45 9 1,Om 47 2,Ok 48 114 [.t 45,.t 46,.t 47,I 1000]] (.block 0 (.vE 61 (.t 48) (fQ Tryz.prog 112 0) Y112_0a Y112_0b [49]))) (.seq (S [Ol 57 1 12,Oo 58 57] (Cd 58 (aC [Kk 6,OM 8 10] .ret) .skip)) (S [Pm 59 9,Pm 6 59,Pl 60 11,Om 7 60,OM 8 0] .ret)))))))),[.tm 6,.tm 7,.tm 8]⟩
theorem L112_ok:fT Tryz.prog 112=some L112:=by kernel_rfl
def L113:aX :=⟨8,aC [tM 2 7 0] (aC [Ol 4 1 1,bD 5 0 2 1,O 7 (.x (.look ⟨false,[.int .i64]⟩ (.bool false) false (.t 4) (.t 6))),Om 3 7] .ret),[.tm 3]⟩
def L120:aX :=⟨9,S [Ox 1 4 0,O 2 (.alloc (.agg [Z0,E0]))] (aC [bD 3 1 1 1,ZAf 5 0 1 2 1 1 0 2 1 2 0 1 2 1 1 1 2 1 2 270 3 0 1 4 1 1,Ns 2 2 8] .ret),[.cell 2 true 2]⟩
def L127:aX :=⟨6,S [Pf 2] (aC [oZ 3 0,Oc 5 .leq 4 6,Om 2 5] .ret),[.tm 2]⟩
def L132:aX :=⟨5,S [Pf 2] (S [Om 3 0,Ok 4 173 [.t 3,I 0,I 40],Om 2 4] .ret),[.tm 2]⟩
def L137:aX :=⟨80,S [Pf 4] (aC [Om 13 1,O 14 (.build (.agg [Z0,Z0,Z0]) [(0,(1,(.t 13))),(1,(1,(I (-1)))),(2,(1,(I (-1))))]),IZ 5 3 14] (aC [O 15 (.x .F9),Ot 16 3 5,Ot 17 3 5,N (.x (.iK ⟨true,[.int .i64,.int .i64,.int .i64]⟩ (.t 15) (.t 16) (.t 17))),jU 18 15 6] (S [Ot 19 3 5,Pb 20 281 3 19,Om 7 20] (.seq (.block 0 (.loop (.seq (aC [oZ 21 7,Oc 23 .gtr 22 0] (Ce 23 0)) (.block 1 (aC [Om 24 7,O 25 (.ia 3 none (.t 24) (I 0)),Ot 26 3 25,IZ 8 3 26] (S [Om 27 7,O 28 (.I9 3 none (.t 27) (some (I 1)) none none),Om 7 28] (.seq (aC [Pt 29 3 8,Of 30 (.call (C 179) [.t 29]),Of 31 (.bin false .eql (.t 30) (I 2)),Pm 32 31,Ki 33 32 0 32 32 2,Gf 37 32 true (.fa 2 (.t 8)),Gf 39 32 true (.fa 1 (.t 8)),Pi 36 32 35,Pi 38 32 37,Gf 41 32 true (.ia 4 none (.t 36) (.t 38)),Pi 40 32 39,Gf 42 32 true (.ia 1 (some 4) (.t 41) (.t 40)),Pi 43 32 42,G 44 32 true (.bin false .eql (.t 43) (I (-1))),Pp 45 32 44] (Cd 45 (aC [Om 46 0,Ot 47 3 8,NG 48 6 180 46 47] (S [O 4 (.dV Bt)] .ret)) .skip)) (aC [Pm 56 0,Of 60 (.dV (I 0)),Pt 51 3 8,Pt 57 3 8,Of 50 (.call (C 181) []),Of 52 (.call (C 179) [.t 51]),NC 53 1 50 52 0,O 58 (.call (.t 55) [.t 56,.t 57]),On 59 58] (.block 2 (.loop (S [Ob 61 .lss 60 59] (.seq (Ce 61 2) (.seq (.block 3 (aC [Oi 62 3 58 60,Ot 63 3 62,IZ 10 3 63] (aC [Om 65 6,Ot 66 3 10,O 67 (.x (.look ⟨true,[.int .i64,.int .i64,.int .i64]⟩ (.agg [Z0,Z0,Z0]) true (.t 65) (.t 66))),mE 64 67 68 0 69 1,IZ 11 3 68,Om 12 69] (S [Om 70 12,Oo 71 70] (Cd 71 (S [Om 72 6,Ot 73 3 10,Ot 74 3 8,N (.x (.iK ⟨true,[.int .i64,.int .i64,.int .i64]⟩ (.t 72) (.t 73) (.t 74)))] (cK [Om 75 7,Ot 76 3 10,H6 77 281 3 76 281 3 24 75 7])) .skip))))) (cK [pA 79 60 1 60])))))))))))))) (S [Pf 4] .ret))))),[.tm 4]⟩
def L142:aX :=⟨25,S [Ox 2 2 0,OM 4 0] (S [OM 5 0] (.seq (S [OM 6 0] (.block 0 (.loop (.seq (aC [bM 7 6 1,nZ 9 8 7] (Ce 10 0)) (.seq (.block 1 (cK [Pm 13 5,Pa 14 1 2,SD 16 1 6 1,mY 15 14 19 18,NC 20 3 15 19 0,DY 23 13 22 5])) (cK [iT 11 6 1 6])))))) (aC [jU 24 5 4] .ret))),[.tm 4]⟩
def L150:aX :=⟨24,S [O 4 (.dV (.c (.str ⟨#[]⟩)))] (S [O 5 (.alloc (.agg [.int .u8 (0),.int .u8 (0),.int .u8 (0),.int .u8 (0),.int .u8 (0)]))] (.seq (S [Om 7 1,Oc 8 .sub 7 1,Om 6 8] (.block 0 (.loop (.seq (S [Om 9 6,Oc 10 .geq 9 0] (Ce 10 0)) (.seq (.block 1 (aC [bM 13 6 0,Oc 15 .rem 14 10,O 16 (.bin false .add (I 48) (.t 15)),O 17 (.conv .u8 (.t 16)),O 18 (.ia 1 (some 5) (.t 5) (.t 13)),Ns 1 18 17] (.region [Om 19 0,Oc 20 .quo 19 10,Om 0 20]))) (.region [Om 11 6,Oc 12 .sub 11 1,Om 6 12])))))) (S [Om 21 1,O 22 (.x (.ED 5 (.t 5) (.t 21))),O 23 (.x (.TU (.t 22))),Om 4 23] .ret))),[.tm 4]⟩
def L157:aX :=⟨18,S [OM 2 0] (S [OM 3 0] (.seq (aC [oZ 6 0,OM 8 0] (.block 0 (.loop (S [Ob 9 .lss 8 7] (.seq (Ce 9 0) (.seq (.block 1 (aC [wU 10 1 6 8 1,Om 5 11] (aC [bM 12 5 3,Ob 14 .neq 12 13] (Cd 14 (aC [jU 15 5 2] .ret) .skip)))) (cK [pA 16 8 1 8]))))))) (aC [jU 17 3 2] .ret))),[.tm 2]⟩
def L158:aX :=⟨36,S [OM 4 0] (.seq (aC [oZ 9 0,OM 11 0] (.block 0 (.loop (S [Ob 12 .lss 11 10] (.seq (Ce 12 0) (.seq (.block 1 (aC [Om 13 11,wU 14 1 9 11 1,bM 5 13 15] (.seq (aC [bM 16 5 1,On 18 17,Ob 19 .geq 16 18] (Cd 19 (S [OM 4 1] .ret) .skip)) (aC [bM 20 1 5,wU 22 1 20 21 1,Om 7 23] (aC [bM 24 6 7,Ok 26 194 [.t 24,.t 25],Om 8 26] (aC [H5 27 8 0] (Cd 28 (aC [jU 29 8 4] .ret) .skip))))))) (cK [pA 30 11 1 11]))))))) (.seq (aC [oZ 31 0,Om 33 1,nZ 34 33 32] (Cd 35 (S [OM 4 (-1)] .ret) .skip)) (S [OM 4 0] .ret))),[.tm 4]⟩
def L165:aX :=⟨52,aC [Ox 2 2 0,tM 3 7 1] (aC [bD 5 0 3 1,Ok 7 122 [.t 6],NF 8 7 2 2,F1 10 8 1 3 8,EY 12 8 153 9 11 8,F0 14 13 0 2,F1 17 14 1 3 14,G 19 14 true (.ia 4 none (.t 16) (.t 18)),F1 20 14 1 19 14,JA 22 14 21 14,NF 24 23 2 2,F1 26 24 2 3 24,EY 28 24 153 25 27 24,F0 30 29 2 3,F1 33 30 1 3 30,G 35 30 true (.bin false .neq (.t 32) (.t 34)),Pp 36 30 35,F0 37 36 3 3,SA 40 37 154 39 37,F0 42 41 4 3,SA 45 42 154 44 42,Om 47 46,Ph 48 47 5 3,G 49 47 true (.load true 2 (.t 48)),SA 50 47 203 49 47,Om 4 51] .ret),[.tm 4]⟩
def L173:aX :=⟨15,S [Pf 6] (aC [bM 7 1 0,Ob 9 .leq 7 8,RZ 10 9 0 2 6] .ret),[.tm 6]⟩
def L177:aX :=⟨8,aC [tM 2 3 0] (aC [Ol 4 1 1,y7 5 3 2 4,Oo 7 6,Om 3 7] .ret),[.tm 3]⟩
def Y197_0a:bC :=(cK [Z9 11 7 47])
def Y197_0b:bC :=(.block 1 (aC [Ol 48 1 9,y7 49 7 11 48] (Cd 50 (cK [Of 56 (.fa 0 (.t 11)),Of 72 (.fa 3 (.t 11)),Of 51 (.load true 2 (.t 10)),Kh 52 1 4 2,Nw 55 1 54 57 1 56,Of 58 (.x (.look ⟨false,[.int .i64]⟩ (.agg [Z0,Z0]) false (.t 55) (.t 57))),Kh 59 1 4 0,Kh 62 1 61 0,Of 65 (.fa 0 (.t 64)),Of 66 (.load false 1 (.t 65)),Of 67 (.load false 1 (.t 5)),Of 68 (.ia 4 none (.t 66) (.t 67)),Of 69 (.fa 0 (.t 68)),Of 70 (.load false 1 (.t 69)),Nw 71 1 6 73 1 72,Of 74 (.bin false .sub (.t 71) (.t 73)),Of 75 (.bin false .mul (.t 70) (.t 74)),Of 76 (.call (C 247) [.t 58,.t 75]),Ok 77 246 [.t 51,.t 76],Ns 2 10 77]) .skip)))
noncomputable def L197:aX :=⟨79,S [Ox 4 1 0,Ox 5 1 1,Ox 6 1 2,O 8 (.alloc (.agg [Z0,Z0]))] (.seq (aC [JB 12 4 0,JB 15 14 0,Pa 18 0 17,Pl 19 18,Pl 20 5,NC 21 4 19 20 1] (Cd 23 (aC [JB 24 4 0,JB 27 26 0,Pa 30 0 29,Pl 31 30,Pl 32 5,Of 33 (.ia 4 none (.t 31) (.t 32)),Pa 34 2 33,Pt 35 2 34,Ns 2 8 35] .ret) .skip)) (S [Ol 36 1 4,O 37 (.yB 243 [.t 36] []),O 9 (.alloc .dP),Ns 1 9 37] (aC [Ok 38 245 [],SB 10 2 38] (.seq (aC [Pm 45 3,JB 39 4 0,Pl 42 41,Pl 43 5,Pl 44 6,Ok 46 114 [.t 42,.t 43,.t 44,.t 45]] (.block 0 (.vE 79 (.t 46) (fQ Tryz.prog 197 0) Y197_0a Y197_0b [47]))) (S [Ot 78 2 10,Ns 2 8 78] .ret))))),[.cell 8 true 2]⟩
theorem L197_ok:fT Tryz.prog 197=some L197:=by kernel_rfl
def Y218_0a:bC :=(.region [Om 5 15])
def Y218_0b:bC :=(.block 1 (aC [Of 20 (.fa 2 (.t 3)),Of 22 (M 5),Of 26 (.fa 0 (.t 3)),Kh 16 1 2 2,Nw 19 1 18 21 1 20,Of 23 (.ia 4 none (.t 19) (.t 21)),Of 24 (.ia 1 (some 4) (.t 23) (.t 22)),Nw 25 1 24 27 1 26,Ob 28 .neq 25 27] (Cd 28 (cK [Ol 29 1 4,Om 30 5,bD 31 2 3 1,O 33 (.build (.agg [Z0,Z0,Z0]) [(0,(1,(I (-1)))),(1,(1,(.t 30))),(2,(1,(.t 32)))]),O 34 (.aQ 281 3 [.t 33]),O 35 (.app 281 3 24 (.t 29) (.t 34)),Ns 1 4 35]) .skip)))
noncomputable def L218:aX :=⟨50,S [Ox 2 1 0,Ox 3 3 1,O 4 (.alloc E0)] (.seq (aC [Pa 10 0 3,Pa 12 2 3,JB 6 2 0,Pt 9 2 8,mY 11 10 13 12,Ok 14 268 [.t 9,.t 11,.t 13]] (.block 0 (.vE 50 (.t 14) (fQ Tryz.prog 218 0) Y218_0a Y218_0b [15]))) (.seq (aC [Ol 36 1 2,bD 37 0 3 1,bD 39 2 3 1,Ok 41 267 [.t 36,.t 38,.t 40],Oc 42 .neq 41 (-1)] (Cd 42 (cK [Ol 43 1 4,bD 44 0 3 1,O 46 (.build (.agg [Z0,Z0,Z0]) [(0,(1,(.t 45))),(1,(1,(I (-1)))),(2,(1,(I (-1))))]),Pb 47 281 3 46,Py 48 281 3 24 43 47,Ns 1 4 48]) .skip)) (S [Ol 49 1 4,Ns 1 4 49] .ret))),[.cell 4 false 1]⟩
theorem L218_ok:fT Tryz.prog 218=some L218:=by kernel_rfl
def L258:aX :=⟨17,S [Pf 4] (aC [oT 5 0 241,qD 7 6 1,G 9 7 true (.call (C 241) [.t 8]),JA 10 7 9 7,XT 12 11 0,G 14 12 false (M 1),G 15 12 false (.bin false .lss (.t 13) (.t 14)),Pq 16 12 15,Om 4 16] .ret),[.tm 4]⟩
def L268:aX :=⟨8,S [Ox 3 2 0,Ox 4 1 1,Ox 5 1 2,O 6 (.dV (.c .dP))] (S [O 7 (.yB 299 [] [.t 3,.t 4,.t 5]),Om 6 7] .ret),[.tm 6]⟩
def L288:aX :=⟨5,S [Ox 1 2 0,OM 2 0] (aC [bD 3 1 1 1,Om 2 4] .ret),[.tm 2]⟩
def L300:aX :=⟨38,aC [Ox 4 2 0,tM 7 1 3] (aC [bD 11 1 4 1,nW 13 1 3 12,Ot 15 3 14,O 9 (.alloc (.agg [Z0,Z0,E0])),Ns 3 9 15] (S [O 16 (.yB 313 [] [.t 7]),Om 10 16] (aC [bD 17 2 9 1,nW 19 2 1 18,Ol 21 1 20,F0 22 21 1 9,Pg 25 22 7,Nx 26 22 24 25 22,F0 28 27 0 4,Nv 31 28 2 28 1 30,Pg 33 28 32,Pn 34 28 10,G 35 28 true (.call (C 170) [.t 33,.t 34]),JA 36 28 35 28,Om 8 37] .ret))),[.tm 8]⟩
end
end Go.Proofs.YtlllhbmbnjnoiaaGreatDoor
