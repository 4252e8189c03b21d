import Derived.Test.YthmbecacehfgfabGreatDoorP0
import Derived.OrdersHeld
import Derived.OrdersIn
import Derived.TacticsIn
import Derived.RangeFuncLeaves
import Derived.RangeFuncRecord
import Derived.Scope
import Derived.RangeFuncNested
import Derived.Sort.LoopGhostIn
import Derived.ChangeSame
import Derived.ProofKit
import Derived.Deep.Slices
import Derived.ReadAgain
import Derived.OpenShut
import Derived.Eval
import Derived.Test.YthmbecacehfgfabGreatDoorProg
set_option linter.unusedSimpArgs false
set_option linter.unusedVariables false
set_option maxHeartbeats 32000000
set_option maxRecDepth 100000
namespace Go.Proofs.YthmbecacehfgfabGreatDoor
open Go.RowKit
mutual
def AV.map (g:Site->Site):AV->AV
 |.any=>.any
 |.pv x=>.pv x
 |.ptr s off=>.ptr (g s) off
 |.lG s n i off=>.lG (g s) n i off
 |.vec s n lo len=>.vec (g s) n lo len
 |.mp s=>.mp (g s)
 |.nQ s=>.nQ (g s)
 |.fn f fs cs=>.fn f (AV.iT g fs) (AV.iT g cs)
 |.agg cs=>.agg (AV.iT g cs)
 |.bN vs=>.bN (AV.iT g vs)
def AV.iT (g:Site->Site):List AV->List AV
 |[]=>[]
 |a::r=>AV.map g a::AV.iT g r
end
theorem KY {g:Site->Site}:∀{l:List AV} {i:Nat},(AV.iT g l)[i]?=(l[i]?).map (AV.map g)
 |[],i=>by simp[AV.iT]
 |a::r,0=>by simp[AV.iT]
 |a::r,i+1=>by
  simp only[AV.iT,List.getElem?_cons_succ];exact KY
theorem KZ {g:Site->Site}:∀{l:List AV},(AV.iT g l).length=l.length
 |[]=>rfl
 |a::r=>by simp only[AV.iT,pI,KZ]
theorem W4 {q:Site->Bool}:∀{l:List AV} {i:Nat} {a:AV},AV.hZ q l=true->l[i]?=some a->a.dC q=true
 |[],i,a,_,h=>by simp at h
 |b::r,0,a,hl,h=>by
  simp[AV.hZ]at hl h;subst h;exact hl.1
 |b::r,i+1,a,hl,h=>by
  simp only[AV.hZ,dK]at hl;exact W4 hl.2 (by simpa using h)
theorem bQ.map {ρ bX:Site->Loc}{m:Mem}{q:Site->Bool}{g:Site->Site}(hg:∀s,q s=true->bX (g s)=ρ s){v:Value}{a:AV}(h:bQ ρ m v a)(ha:a.dC q=true):bQ bX m v (a.map g):=by
 induction h with
 |any v=>exact .any v
 |pv v x h=>exact .pv v x h
 |ptr s off=>rw[AV.dC]at ha;rw[<-hg s ha];exact .ptr _ off
 |lG s n i off=>rw[AV.dC]at ha;rw[<-hg s ha];exact .lG _ n i off
 |vec s n lo len cap h0 h1 h2=>rw[AV.dC]at ha;rw[<-hg s ha]at h1 h2 ⊢;exact .vec _ n lo len cap h0 h1 h2
 |nG s n lo a h=>exact .nG _ n lo a h
 |mp s=>rw[AV.dC]at ha;rw[<-hg s ha];exact .mp _
 |nQ s=>rw[AV.dC]at ha;rw[<-hg s ha];exact .nQ _
 |fn f vf vc fs cs h0 h1 h2 h3 CN QA=>
  simp only[AV.dC,dK]at ha;refine .fn f vf vc _ _ (by rw[KZ];exact h0) (by rw[KZ];exact h1) (fun j d c k1 k2=>?_) (fun j d c k1 k2=>?_)
  .rw[KY]at k2;obtain⟨a,k3,rfl⟩:=eB.1 k2;exact CN j d a k1 k3 (W4 ha.1 k3)
  .rw[KY]at k2;obtain⟨a,k3,rfl⟩:=eB.1 k2;exact QA j d a k1 k3 (W4 ha.2 k3)
 |agg vs cs h0 h1 h2 ih=>
  rw[AV.dC]at ha;refine .agg vs _ (by rw[KZ];exact h0) h1 (fun j d c k1 k2=>?_);rw[KY]at k2;obtain⟨a,k3,rfl⟩:=eB.1 k2;exact ih j d a k1 k3 (W4 ha k3)
 |bN vs cs h0 h2 ih=>
  rw[AV.dC]at ha;refine .bN vs _ (by rw[KZ];exact h0) (fun j d c k1 k2=>?_);rw[KY]at k2;obtain⟨a,k3,rfl⟩:=eB.1 k2;exact ih j d a k1 k3 (W4 ha k3)
def aJ.iX (g:Site->Site):aJ->aJ
 |.cells bU=>.cells (AV.iT g bU)
 |.loop C ps nt tm st=>.loop C ps nt (tm.map fun p=>(p.1,p.2.map g)) st
 |b=>b
def aJ.dC (q:Site->Bool):aJ->Bool
 |.cells bU=>AV.hZ q bU
 |.loop _ _ _ tm _=>AV.hZ q (tm.map (·.2))
 |_=>true
theorem ZkY {g:Site->Site}:∀l:List AV,AV.iT g l=l.map (AV.map g)
 |[]=>rfl
 |a::r=>by simp only[AV.iT,iS,ZkY r]
theorem aJ.ZxC {q:Site->Bool}{b:aJ}(hd:b.dC q=true){a:AV}(h:(∃bU,b=.cells bU/\a∈bU)\/(∃C ps nt tm st t,b=.loop C ps nt tm st/\(t,a)∈tm)):a.dC q=true:=by
 rcases h with⟨bU,rfl,h⟩|⟨C,ps,nt,tm,st,t,rfl,h⟩
 .obtain⟨i,hi⟩:=iO.1 h;exact W4 hd hi
 .obtain⟨i,hi⟩:=iO.1 h;have JD:AV.hZ q (tm.map (·.2))=true:=hd;exact W4 (i:=i) JD (by rw[bY,hi];rfl)
theorem kT.iX {ρ bX:Site->Loc}{m:Mem}{w:World}{q:Site->Bool}{g:Site->Site}(hg:∀s,q s=true->bX (g s)=ρ s){s:Site}{b:aJ}(h:kT ρ m w s b)(hs:q s=true)(hb:b.dC q=true):kT bX m w (g s) (b.iX g):=by
 exact h.gen (AV.map g) (by cases b<;>first|rfl|(show aJ.cells _=_;rw[ZkY])) (Le.refl m) (hg s hs) (fun v a hv hw=>hv.map hg (aJ.ZxC hb hw)) (fun _ _=>rfl)
theorem Ztz {w:World}{l:Loc}{b:aJ}{g:Site->Site}:ins w l (b.iX g)=ins w l b:=by
 cases b with
 |_=>rfl
theorem uU {ρ bX:Site->Loc}{w:World}{s s':Site}{b:aJ}{g:Site->Site}{k:Nat}(h:bX s'=ρ s):fL bX w s' (b.iX g) k↔fL ρ w s b k:=by unfold fL;rw[Ztz,h]
mutual
def PV.flat:PV->Bool
 |.int _ _=>true
 |.bool _=>true
 |.str _=>true
 |.eX=>true
 |.dP=>true
 |.cV=>true
 |.eY=>true
 |.P6=>true
 |.iface _ x=>PV.flat x
 |.emp _=>true
 |.agg cs=>PV.XB cs
 |.bN vs=>PV.XB vs
 |_=>false
def PV.XB:List PV->Bool
 |[]=>true
 |x::r=>PV.flat x&&PV.XB r
end
theorem Zf8:∀{l:List PV} {i:Nat} {x:PV},PV.XB l=true->l[i]?=some x->x.flat=true
 |[],i,x,_,h=>by simp at h
 |b::r,0,x,hl,h=>by
  simp[PV.XB]at hl h;subst h;exact hl.1
 |b::r,i+1,x,hl,h=>by
  simp only[PV.XB,dK]at hl;exact Zf8 hl.2 (by simpa using h)
theorem dH.flat {m m':Mem}{v:Value}{x:PV}(h:dH m v x)(hx:x.flat=true):dH m' v x:=by
 induction h with
 |int k n=>exact .int k n
 |bool b=>exact .bool b
 |str s=>exact .str s
 |eX=>exact .eX
 |dP=>exact .dP
 |cV=>exact .cV
 |eY=>exact .eY
 |P6 v h=>exact .P6 v h
 |emp a nl h0 h1 h2=>exact .emp a nl h0 h1 h2
 |agg vs cs h0 h1 h2 ih=>exact .agg vs cs h0 h1 (fun j d c k1 k2=>ih j d c k1 k2 (Zf8 (by rw[PV.flat]at hx;exact hx) k2))
 |bN vs cs h0 h2 ih=>exact .bN vs cs h0 (fun j d c k1 k2=>ih j d c k1 k2 (Zf8 (by rw[PV.flat]at hx;exact hx) k2))
 |aF=>simp[PV.flat]at hx
 |ref=>simp[PV.flat]at hx
 |fn=>simp[PV.flat]at hx
 |iface t v x h ih=>exact .iface t v x (ih (by rw[PV.flat]at hx;exact hx))
def jL (f:AV->Option PV):List AV->Option (List PV)
 |[]=>some []
 |a::r=>match f a,jL f r with
  |some x,some l=>some (x::l)
  |_,_=>none
def AV.GK (σ:AS):AV->Option PV
 |.pv x=>some x
 |.vec s n lo len=>match σ.b s with
  |some (.arr _ n' xs)=>if n'=n/\lo+len<=xs.length then some (.aF false n ((xs.drop lo).take len))else none
  |_=>none
 |_=>none
def AV.snap (σ:AS):Nat->AV->Option PV
 |0,a=>a.GK σ
 |k+1,a=>match a with
  |.ptr s off=>match σ.b s with
   |some (.cells bU)=>(jL (AV.snap σ k) (bU.drop off)).map .ref
   |_=>none
  |.fn f fs cs=>match jL (AV.snap σ k) fs,jL (AV.snap σ k) cs with
   |some a,some b=>some (.fn f a b)
   |_,_=>none
  |.agg cs=>(jL (AV.snap σ k) cs).map .agg
  |a=>a.GK σ
section
variable {N:Nat}{w0:World}{m0:Env w0}{pl:List Nat}{σ:AS}{ρ:Site->Loc}{m:Mem}{act:Act}{w:World}
theorem YN {f:AV->Option PV}:∀{l:List AV} {xs:List PV},jL f l=some xs->l.length=xs.length/\∀(j:Nat) (a:AV),l[j]?=some a->∃x,xs[j]?=some x/\f a=some x
 |[],xs,h=>by rw[jL]at h;cases h;exact⟨rfl,fun j a e=>by simp at e⟩
 |a::r,xs,h=>by
  rw[jL]at h;split at h
  .rename_i x l h1 h2;cases h;obtain⟨k1,k2⟩:=YN h2;refine⟨by simp[k1],fun j b e=>?_⟩;cases j with
   |zero=>simp at e;subst e;exact⟨x,rfl,h1⟩
   |succ j=>simpa using k2 j b (by simpa using e)
  .cases h
theorem Zkw (hS:Sat N w0 m0 pl σ ρ m act w){v:Value}{a:AV}{x:PV}(h:a.GK σ=some x)(hv:bQ ρ m v a):dH w.mem v x:=by
 cases a with
 |pv y=>rw[AV.GK]at h;cases h;exact hv.nN.mono hS.mem
 |vec s n lo len=>
  rw[AV.GK]at h;split at h
  .rename_i e n' xs hb;split at h
   .rename_i hc;obtain⟨rfl,hl⟩:=hc;cases h;exact Zo3 (hS.bx s _ hb) hS.mem (fun _ o v hv=>hv) hl hv
   .cases h
  .cases h
 |_=>simp[AV.GK]at h
theorem ZmZ (hS:Sat N w0 m0 pl σ ρ m act w):∀{k:Nat} {v:Value} {a:AV} {x:PV},a.snap σ k=some x->bQ ρ m v a->dH w.mem v x:=by
 intro k;induction k with
 |zero=>intro v a x h hv;exact Zkw hS h hv
 |succ k ih=>
  intro v a x h hv;cases a with
  |ptr s off=>
   rw[AV.snap]at h;split at h
   .rename_i bU hb;obtain⟨xs,k1,rfl⟩:=eB.1 h;obtain⟨k2,k3⟩:=YN k1;rw[hv.EW];have hlen:off<=bU.length\/bU.drop off=[]:=by
     rcases Nat.le_total off bU.length with h|h
     .exact .inl h
     .exact .inr (List.drop_of_length_le h)
    rcases hlen with hlen|hlen
    .obtain⟨ds,q1,q2,q3,q4⟩:=Ix (hS.bx s _ hb) (off:=off) (n:=bU.length-off) (by omega);refine .ref _ _ xs ds q2 (by rw[<-k2,uQ];exact q1) q3 (fun j u c e1 e2=>?_);have hj:j<(bU.drop off).length:=by rw[k2];exact(cD.1 e2).1
     obtain⟨x,k4,k5⟩:=k3 j _ (bC hj);rw[e2]at k4;cases k4;refine ih k5 (q4 j u _ e1 ?_);rw[mH,if_pos (by rw[uQ]at hj;exact hj)];exact bC hj
    .rw[hlen]at k2
     have:xs=[]:=List.eq_nil_of_length_eq_zero k2.symm
     subst this;exact .ref _ _ [] [] trivial rfl (fun d hd=>by cases hd) (fun j d c e=>by simp at e)
   .cases h
  |fn f fs cs=>
   rw[AV.snap]at h;split at h
   .rename_i a b e1 e2;cases h;obtain⟨a1,a2⟩:=YN e1;obtain⟨b1,b2⟩:=YN e2;cases hv with
    |fn _ vf vc _ _ h0 h1 h2 h3=>
     refine .fn f vf vc a b (by omega) (by omega) (fun j d c q1 q2=>?_) (fun j d c q1 q2=>?_)
     .have hj:j<fs.length:=by rw[a1];exact(cD.1 q2).1
      obtain⟨x,k4,k5⟩:=a2 j _ (bC hj);rw[q2]at k4;cases k4;exact ih k5 (h2 j d _ q1 (bC hj))
     .have hj:j<cs.length:=by rw[b1];exact(cD.1 q2).1
      obtain⟨x,k4,k5⟩:=b2 j _ (bC hj);rw[q2]at k4;cases k4;exact ih k5 (h3 j d _ q1 (bC hj))
   .cases h
  |agg cs=>
   rw[AV.snap]at h;obtain⟨xs,k1,rfl⟩:=eB.1 h;obtain⟨b1,b2⟩:=YN k1;cases hv with
   |agg vs _ h0 h1 h2=>
    refine .agg vs xs (by omega) h1 (fun j d c q1 q2=>?_);have hj:j<cs.length:=by rw[b1];exact(cD.1 q2).1
    obtain⟨x,k4,k5⟩:=b2 j _ (bC hj);rw[q2]at k4;cases k4;exact ih k5 (h2 j d _ q1 (bC hj))
  |_=>exact Zkw hS (by simpa only[AV.snap]using h) hv
end
structure vH (ρ:Site->Loc)(m:Mem)(w:World)(B:List (Site×aJ)):Prop where
 bx:∀s b,B.lookup s=some b->kT ρ m w s b
 eA:∀s s' b b' k,B.lookup s=some b->B.lookup s'=some b'->fL ρ w s b k->fL ρ w s' b' k->s=s'
 eQ:∀s b k,B.lookup s=some b->fL ρ w s b k->∀o,m k o=none
theorem vH.nil (ρ:Site->Loc)(m:Mem)(w:World):vH ρ m w []:=⟨fun s b h=>by simp[List.lookup]at h,fun s s' b b' k h=>by simp[List.lookup]at h,fun s b k h=>by simp[List.lookup]at h⟩
theorem vH.inj {ρ:Site->Loc}{m:Mem}{w:World}{B:List (Site×aJ)}(h:vH ρ m w B)(s s':Site)(b b':aJ)(k:B.lookup s=some b)(k':B.lookup s'=some b')(r:(ρ s).real=true)(r':(ρ s').real=true)(e:(ρ s).b=(ρ s').b):s=s':=
 h.eA s s' b b' _ k k' (xV r) (by rw[e];exact xV r')
theorem vH.off {ρ:Site->Loc}{m:Mem}{w:World}{B:List (Site×aJ)}(h:vH ρ m w B)(s:Site)(b:aJ)(k:B.lookup s=some b)(r:(ρ s).real=true):∀o,m (ρ s).b o=none:=h.eQ s b _ k (xV r)
def cK (ρ:Site->Loc)(w:World)(B:List (Site×aJ)):List Nat:=B.flatMap fun p=>(if(ρ p.1).real=true then[(ρ p.1).b]else[])++ins w (ρ p.1) p.2
theorem UF {ρ:Site->Loc}{w:World}{B:List (Site×aJ)}{k:Nat}:k∈cK ρ w B↔∃p∈B,fL ρ w p.1 p.2 k:=by
 unfold cK;rw[List.mem_flatMap];constructor
 .rintro⟨p,hp,h⟩;refine⟨p,hp,?_⟩;rcases sS.1 h with h|h
  .split at h
   .rename_i hr;exact .inl ⟨hr,(sG.1 h).symm⟩
   .cases h
  .exact .inr h
 .rintro⟨p,hp,h⟩;refine⟨p,hp,sS.2 ?_⟩;rcases h with⟨h,rfl⟩|h
  .exact .inl (by rw[if_pos h];simp)
  .exact .inr h
def jS (P : Program) (f : FuncId) : Prop := ∃ fn c, P.funcs[f]? = some fn /\ (fn.name == "runtime.NumGoroutine") = false /\ fn.body = some c
def lI (w:World)(m:Mem)(ρ:Site->Loc)(B:List (Site×aJ))(oE:AV->List (Site×aJ)->Prop)(e:Ending)(w':World):Prop:=
 ∃v r B' bX m',e=.returned v/\oE r B'/\vH bX m' w' B'/\Le m m'/\Le m' w'.mem/\(∀i,bX (.par i)=ρ (.par i))/\
   (∀s b k,B'.lookup s=some b->fL bX w' s b k->w.heap.size<=k\/k∈cK ρ w B)/\(∀b o v,m' b o=some v->m b o=some v\/w.heap.size<=b\/b∈cK ρ w B)/\bQ bX m' v r/\cY (cK ρ w B) w w'
theorem Zk4 {l:List (Site×aJ)}(hn:(l.map (·.1)).Nodup){p:Site×aJ}(h:p∈l):l.lookup p.1=some p.2:=by
 induction l with
 |nil=>cases h
 |cons q r ih=>
  obtain⟨a,b⟩:=q;rw[iS,List.nodup_cons]at hn;rcases jT.1 h with rfl|h
  .exact mX
  .rw[jJ (fun e=>hn.1 (by rw[<-e];exact iN.2 ⟨p,h,rfl⟩))];exact ih hn.2 h
theorem vH.free {ρ:Site->Loc}{m:Mem}{w:World}{B:List (Site×aJ)}(h:vH ρ m w B)(hn:(B.map (·.1)).Nodup):∀k∈cK ρ w B,∀o,m k o=none:=fun k hk o=>by
 obtain⟨p,hp,e⟩:=UF.1 hk;exact h.eQ p.1 p.2 k (Zk4 hn hp) e o
def cU (P:Program)(f:FuncId)(bU:List AV)(B:List (Site×aJ))(oE:AV->List (Site×aJ)->Prop):Prop:=
 jS P f/\∀(w:World) (m:Mem) (ρ:Site->Loc) (vs:Array Value),vH ρ m w B->(Le m w.mem/\nP m w/\(B.map (·.1)).Nodup)->vs.size=bU.length->(∀(j:Nat) (d:Value) (c:AV),vs[j]?=some d->bU[j]?=some c->bQ ρ m d c)->
  Calls P f vs w (lI w m ρ B oE)
theorem cU.mono {P:Program}{f:FuncId}{bU:List AV}{B:List (Site×aJ)}{oE P2:AV->List (Site×aJ)->Prop}(h:cU P f bU B oE)(hp:∀r B',oE r B'->P2 r B'):cU P f bU B P2:=
 ⟨h.1,fun w m ρ vs h1 h2 h3 h4=>(h.2 w m ρ vs h1 h2 h3 h4).mono fun e w' ⟨v,r,B',bX,m',k1,k2,k3⟩=>⟨v,r,B',bX,m',k1,hp _ _ k2,k3⟩⟩
def FF (ro:Option Nat):Fence:={ Fence.wide with round:=ro }
theorem FF.one {ro:Option Nat}{n:Nat}:(FF ro).depth.isSome=true->1<=n:=fun h=>by cases h
theorem Gr {P:Program}{ro:Option Nat}{n:Nat}{f:FuncId}{args:Array Value}{w:World}{R:Ending->World->Prop}(h:Calls P f args w R):CallsIn (FF ro) n P f args w R:=
 ⟨trivial,fun cs _=>(callsIn_wide (n:=n).2 h).2 cs (room_wide _)⟩
def Op.ZxN:Op->Bool
 |.defer _=>true
 |_=>false
def GU (ops:Array Oper):Bool:=ops.all fun o=>!Op.ZxN o.op
theorem YR {ops:Array Oper}(h:GU ops=true){i:Nat}{o:Oper}(hi:ops[i]?=some o):∀c,o.op≠.defer c:=fun c e=>by
 have:=Array.all_eq_true'.1 h o (Array.mem_of_getElem? hi)
 rw[e]at this;cases this
section
variable {P:Program}{ops:Array Oper}{Q:Exit->Act->World->Prop}{md:Region.Mode}{ro:Option Nat}{S:World->Prop}
theorem ZeL {i:Nat}{o:Oper}{v:Value}{a:Act}(hi:ops[i]?=some o)(hd:∀c,o.op≠.defer c)(hy:YieldsIf P ops S o v a)
  {K:Act->World->Prop} {w:World} (hS:S w) (h:K (a.put o.dst v) w):wpOpIn (FF ro) 1 P ops Q i K a w:=by
 unfold wpOpIn;simp only[hi];rcases hy with⟨hw,hv⟩|⟨hw,rfl⟩
 .simp only[hw,if_true,Oper.wpIn,Oper.semAt_eq _ _ _ hd,hv w hS,Oper.uponIn];exact⟨fun _ _=>trivial,h⟩
 .simp only[hw,Bool.false_eq_true,if_false];exact⟨fun _ _=>trivial,h⟩
theorem Zmr {j:Nat}{oi oj:Oper}{v:Value}(hj:ops[j]?=some oj)(hd:∀c,oj.op≠.defer c)(H7:oi.apart ops oj=true)
  (M1:∀cs b,oi.op≠.select cs b) (CW:∀cs b,oj.op≠.select cs b)
  (hQ:∀c a w,Q (.panic c) (a.put oi.dst v) w->Q (.panic c) a w) {K:Act->World->Prop} {a:Act} {w:World}
  (hy:YieldsIf P ops S oi v a) (h:wpOpIn (FF ro) 1 P ops Q j K (a.put oi.dst v) w):
  wpOpIn (FF ro) 1 P ops Q j (fun a' w'=>YieldsIf P ops S oi v a'/\K (a'.put oi.dst v) w') a w:=by
 obtain⟨h1,h2,h3⟩:=Oper.apart_spec H7;have keep:∀(a:Act),YieldsIf P ops S oi v a->∀u,YieldsIf P ops S oi v (a.put oj.dst u):=fun a hy u=>
  hy.of_same (execOp_put oi M1 a oj.dst u h3) (wanted_put oi a oj.dst u h3)
 have X8:∀d,YieldsIf P ops S oi v { a with defers:=d::a.defers }:=fun d=>hy.of_same rfl rfl
 unfold wpOpIn at *;simp only[hj]at *;rw[wanted_put oj a oi.dst v h1]at h;split
 .rename_i hw;simp only[hw,if_true]at h;unfold Oper.wpIn at *;refine⟨fun _ _=>trivial,?_⟩;have h:=h.2;rw[Oper.semAt_eq _ _ _ hd,execOp_put oj CW a oi.dst v h1]at h;rw[Oper.semAt_eq _ _ _ hd];generalize(execOp a.eval oj).run P w=r at *;cases r with
  |ok x w'=>
   cases x<;>simp only[Oper.uponIn]at h ⊢
   case value u=>exact⟨keep a hy u,by rw[<-Act.put_comm a v u h2];exact h⟩
   case skip=>exact⟨keep a hy _,by rw[<-Act.put_comm a v undef h2];exact h⟩
   case defer d=>
    refine⟨keep _ (X8 d) _,?_⟩;rw[<-Act.put_comm _ v undef h2,<-Act.put_defers];exact h
   case enter f args=>
    refine⟨h.1,CallsIn.mono h.2 fun e ZH he=>?_⟩;cases e with
    |returned u=>exact⟨keep a hy u,by rw[<-Act.put_comm a v u h2];exact he⟩
    |panicked c=>exact hQ _ _ _ he
    |outgrown=>exact he
   case row row args=>exact⟨h.1,RowsIn.mono h.2 fun u ZH he=>⟨keep a hy u,by rw[<-Act.put_comm a v u h2];exact he⟩⟩
   case round l f tmps assign body=>
    refine⟨h.1,RoundIn.mono h.2 fun e ZH he=>?_⟩;cases e with
    |returned u=>exact⟨keep a hy u,by rw[<-Act.put_comm a v u h2];exact he⟩
    |panicked c=>exact hQ _ _ _ he
    |outgrown=>exact he
  |halt x w'=>
   cases x<;>simp only[Oper.uponIn]at h ⊢
   case panic u=>exact hQ _ _ _ h
 .rename_i hw;simp only[hw]at h;exact⟨fun _ _=>trivial,keep a hy _,by rw[<-Act.put_comm a v undef h2];exact h.2⟩
end
section
variable {P:Program}{ops:Array Oper}{Q:Exit->Act->World->Prop}{md:Region.Mode}{ro:Option Nat}
def w8 (md:Region.Mode)(acc:List Nat):List Edge->Nat->Nat
 |[],m=>m
 |e::r,m=>match Region.binds md e with
  |true=>w8 md acc r (m||| (1 <<< e.on)||| acc.getD e.on 0)
  |false=>w8 md acc r m
def EN (md:Region.Mode):List Oper->List Nat->List Nat
 |[],acc=>acc
 |o::r,acc=>match w8 md acc o.after.toList 0 with
  |0=>EN md r (acc++[0])
  |n+1=>EN md r (acc++[n+1])
def waits (md:Region.Mode)(ops:Array Oper)(_:Nat)(j k:Nat):Bool:=Nat.testBit ((EN md ops.toList []).getD j 0) k
inductive xG (md:Region.Mode)(ops:Array Oper):Nat->Nat->Prop where
 |one {j:Nat} {o:Oper} {e:Edge} (ho:ops[j]?=some o) (he:e∈o.after) (hb:Region.binds md e=true):xG md ops j e.on
 |more {j k:Nat} {o:Oper} {e:Edge} (ho:ops[j]?=some o) (he:e∈o.after) (hb:Region.binds md e=true) (h:xG md ops e.on k):xG md ops j k
theorem Zv {acc:List Nat}{j:Nat}{o:Oper}(ho:ops[j]?=some o)(uI:∀i k,Nat.testBit (acc.getD i 0) k=true->xG md ops i k):∀(l:List Edge) (m:Nat),(∀e∈l,e∈o.after)->(∀k,Nat.testBit m k=true->xG md ops j k)->∀k,Nat.testBit (w8 md acc l m) k=true->xG md ops j k
 |[],m,_,hm,k,h=>hm k h
 |e::r,m,hl,hm,k,h=>by
  unfold w8 at h;cases hb:Region.binds md e with
  |false=>
   rw[hb]at h;exact Zv ho uI r m (fun x hx=>hl x (by simp[hx])) hm k h
  |true=>
   rw[hb]at h;refine Zv ho uI r _ (fun x hx=>hl x (by simp[hx])) (fun k' h'=>?_) k h;rw[Nat.testBit_or,Nat.testBit_or,sD,sD]at h';rcases h' with(h'|h')|h'
   .exact hm k' h'
   .rw[Nat.one_shiftLeft,Nat.testBit_two_pow]at h'
    have:e.on=k':=by simpa using h'
    rw[<-this];exact .one ho (hl e (by simp)) hb
   .exact .more ho (hl e (by simp)) hb (uI _ _ h')
theorem Zu:∀(l pre:List Oper) (acc:List Nat),ops.toList=pre++l->acc.length=pre.length->(∀i k,Nat.testBit (acc.getD i 0) k=true->xG md ops i k)->∀i k,Nat.testBit ((EN md l acc).getD i 0) k=true->xG md ops i k
 |[],pre,acc,_,_,uI=>uI
 |o::r,pre,acc,hp,hl,uI=>by
  have ho:ops[acc.length]?=some o:=by
   rw[<-O7,hp,hl];simp
  have step:∀m,w8 md acc o.after.toList 0=m->∀i k,Nat.testBit ((acc++[m]).getD i 0) k=true->xG md ops i k:=by
   intro m hm i k h;rw[List.getD_eq_getElem?_getD,zB]at h;split at h
   .exact uI i k (by rw[List.getD_eq_getElem?_getD];exact h)
   .rename_i hi;cases hx:[m][i-acc.length]? with
    |none=>rw[hx]at h;simp at h
    |some x=>
     have h0:i-acc.length=0:=by have:=(cD.1 hx).1;simp at this;omega
     rw[h0]at hx;simp at hx;subst hx;have xQ:i=acc.length:=by omega
     subst xQ;rw[h0]at h;simp only[List.getElem?_cons_zero,sE]at h;rw[<-hm]at h;exact Zv ho uI _ 0 (fun e he=>by simpa using he) (fun k h=>by simp at h) k h
  unfold EN;split
  .rename_i h0;exact Zu r (pre++[o]) _ (by rw[hp];simp) (by simp[hl]) (step 0 h0)
  .rename_i n h0;exact Zu r (pre++[o]) _ (by rw[hp];simp) (by simp[hl]) (step (n+1) h0)
theorem ZlP {f j k:Nat}(h:waits md ops f j k=true):xG md ops j k:=Zu ops.toList [] [] (by simp) rfl (fun i k h=>by simp at h) j k h
def Down (md:Region.Mode)(ops:Array Oper)(listed:Array Bool):Prop:=∀j o,listed.getD j false=true->ops[j]?=some o->∀e∈o.after,Region.binds md e=true->listed.getD e.on false=true
theorem ZcU {l:Array Bool}{k:Nat}(h:l.getD k true=false):l.getD k false=false:=by
 rcases Nat.lt_or_ge k l.size with h'|h'
 .simp[h']at h ⊢;exact h
 .simp[Array.getElem?_eq_none h']at h
theorem Down.wait {listed:Array Bool}(h:Down md ops listed){j k:Nat}(hj:listed.getD j false=true)(hw:xG md ops j k):listed.getD k false=true:=by
 induction hw with
 |one ho he hb=>exact h _ _ hj ho _ he hb
 |more ho he hb _ ih=>exact ih (h _ _ hj ho _ he hb)
theorem Zjo {listed:Array Bool}(h:Down md ops listed){f j k:Nat}(hj:j∈Region.ready md ops listed)(hw:waits md ops f j k=true):listed.getD k false=true:=by
 obtain⟨_,o,ho,eV⟩:=mem_ready.1 hj;cases ZlP hw with
 |one AH he hb=>rw[ho]at AH;cases AH;exact eV _ he hb
 |more AH he hb h2=>rw[ho]at AH;cases AH;exact h.wait (eV _ he hb) h2
theorem Down.set {listed:Array Bool}(h:Down md ops listed){i:Nat}(hi:i∈Region.ready md ops listed):Down md ops (listed.setIfInBounds i true):=by
 intro j o hj ho e he hb;have up:∀k,listed.getD k false=true->(listed.setIfInBounds i true).getD k false=true:=fun k hk=>by
  rcases Nat.decEq k i with dA|rfl
  .rw[getD_set_ne false (fun e=>dA e.symm)];exact hk
  .rcases Nat.lt_or_ge k listed.size with h'|h'
   .simp[h']
   .simp[Array.getElem?_eq_none h']at hk
 rcases Nat.decEq j i with dA|rfl
 .rw[getD_set_ne false (fun e=>dA e.symm)]at hj;exact up _ (h j o hj ho e he hb)
 .obtain⟨_,o',AH,eV⟩:=mem_ready.1 hi;rw[ho]at AH;cases AH;exact up _ (eV e he hb)
theorem Down.start (n:Nat):Down md ops (Array.replicate n false):=by
 intro j o hj;rcases Nat.lt_or_ge j n with h|h
 .simp[h]at hj
 .simp[h]at hj
def iW (soft:Nat->Oper->Bool)(ops:Array Oper)(j:Nat):Bool:=match ops[j]? with
 |some o=>soft j o
 |none=>true
def KO (ro:Option Nat)(P:Program)(md:Region.Mode)(ops:Array Oper)(Q:Exit->Act->World->Prop)(soft:Nat->Oper->Bool):Nat->Array Bool->Act->World->Prop
 |0,listed,a,w=>Region.ready md ops listed=[]/\Q .normal a w
 |fuel+1,listed,a,w=>
  (Region.ready md ops listed=[]->Q .normal a w)/\
  ∀i∈Region.ready md ops listed,wpOpIn (FF ro) 1 P ops Q i (fun a' w'=>(iW soft ops i=true->Ext w w')/\KO ro P md ops Q soft fuel (listed.setIfInBounds i true) a' w') a w
variable {soft:Nat->Oper->Bool}
theorem Zek:∀(fuel:Nat) (listed:Array Bool) (a:Act) (w:World),KO ro P md ops Q soft fuel listed a w->wpAnyIn (FF ro) 1 P md ops Q fuel listed a w
 |0,_,_,_,h=>h
 |fuel+1,_,_,_,h=>⟨h.1,fun i hi=>wpOpIn_mono (fun a' w' k=>Zek fuel _ a' w' k.2) (h.2 i hi)⟩
theorem ZeM {S':World->Prop}{i:Nat}{oi:Oper}{v:Value}(hx:∀w w',S' w->Ext w w'->S' w')(hi:ops[i]?=some oi)(Bp:∀(j:Nat) (o:Oper) cs b,ops[j]?=some o->o.op≠.select cs b)(N8:GU ops=true)
  (hQ:∀c a w,Q (.panic c) (a.put oi.dst v) w->Q (.panic c) a w):
  ∀(fuel:Nat) (listed:Array Bool) (a:Act) (w:World),Down md ops listed->((∀w,S' w)\/∀j,listed.getD j true=false->j≠i->iW soft ops j=false->waits md ops ops.size j i=true)->
   (∀j oj,ops[j]?=some oj->j≠i->listed.getD j true=false->(∀e∈oj.after,Region.binds md e=true->e.on≠i)->oi.apart ops oj=true)->
   i∈Region.ready md ops listed->YieldsIf P ops S' oi v a->S' w->
   KO ro P md ops Q soft fuel (listed.setIfInBounds i true) (a.put oi.dst v) w->KO ro P md ops Q soft (fuel+1) listed a w:=by
 intro fuel;induction fuel with
 |zero=>
  intro listed a w _ _ _ hr hy hS H;refine⟨fun h=>absurd hr (by rw[h];simp),fun j hj=>?_⟩;rcases Nat.decEq j i with zU|zU
  .have h2:=ready_mono hj zU;rw[H.1]at h2;exact absurd h2 (by simp)
  .rw[zU];exact ZeL hi (YR N8 hi) hy hS ⟨fun _=>Ext.tS _,H⟩
 |succ fuel ih=>
  intro listed a w hD Ko iY hr hy hS H;refine⟨fun h=>absurd hr (by rw[h];simp),fun j hj=>?_⟩;rcases Nat.decEq j i with zU|zU
  .have h1:=H.2 j (ready_mono hj zU);obtain⟨RI,oj,Kn,eV⟩:=mem_ready.1 hj;have Cq:=(mem_ready.1 hr).1;have QX:∀e∈oj.after,Region.binds md e=true->e.on≠i:=fun e he hb heq=>by
    have k1:=eV e he hb;rw[heq,ZcU Cq]at k1;cases k1
   have h2:=Zmr Kn (YR N8 Kn) (iY j oj Kn zU RI QX) (fun cs b=>Bp i oi cs b hi) (fun cs b=>Bp j oj cs b Kn) hQ hy h1;have VX:i∈Region.ready md ops (listed.setIfInBounds j true):=ready_mono hr (Ne.symm zU);have Bj:∀k,(listed.setIfInBounds j true).getD k true=false->listed.getD k true=false:=fun k hk=>by
    rcases Nat.decEq j k with Vc|Vc
    .rw[getD_set_ne true Vc]at hk;exact hk
    .rw[<-Vc];exact RI
   refine wpOpIn_mono (fun a' w' h3=>?_) h2;have nA:S' w':=by
    rcases Ko with Dx|Ko
    .exact Dx w'
    .cases CW:iW soft ops j with
     |true=>exact hx w w' hS (h3.2.1 CW)
     |false=>
      have:=Zjo hD hj (Ko j RI zU CW)
      rw[ZcU Cq]at this;cases this
   refine⟨h3.2.1,ih (listed.setIfInBounds j true) a' w' (hD.set hj) (Ko.imp id (fun h k hk=>h k (Bj k hk))) (fun k ok hk AK Ux mP=>iY k ok hk AK (Bj k Ux) mP) VX h3.1 nA ?_⟩;rw[Array.setIfInBounds_comm _ _ zU];exact h3.2.2
  .rw[zU];exact ZeL hi (YR N8 hi) hy hS ⟨fun _=>Ext.tS _,H⟩
def XI (ro:Option Nat)(P:Program)(ops:Array Oper)(Q:Exit->Act->World->Prop)(soft:Nat->Oper->Bool)(still:Oper->Bool):List (Nat×Bool)->Act->World->Prop
 |[],a,w=>Q .normal a w
 |(i,false)::r,a,w=>∃o v,∃S':World->Prop,(∀w w',S' w->Ext w w'->S' w')/\(still o=true->∀w,S' w)/\S' w/\ops[i]?=some o/\YieldsIf P ops S' o v a/\XI ro P ops Q soft still r (a.put o.dst v) w
 |(i,true)::r,a,w=>wpOpIn (FF ro) 1 P ops Q i (fun a' w'=>(iW soft ops i=true->Ext w w')/\XI ro P ops Q soft still r a' w') a w
def J5 (md:Region.Mode)(ops:Array Oper)(soft:Nat->Oper->Bool)(still:Oper->Bool):List (Nat×Bool)->Array Bool->Bool
 |[],listed=>(Region.ready md ops listed).isEmpty
 |(i,false)::r,listed=>(Region.ready md ops listed).contains i&&Region.free md ops listed i&&
   ((match ops[i]? with|some o=>still o|none=>false)||(List.range ops.size).all fun j=>listed.getD j true||j==i||iW soft ops j||waits md ops ops.size j i)&&J5 md ops soft still r (listed.setIfInBounds i true)
 |(i,true)::r,listed=>(Region.ready md ops listed==[i])&&J5 md ops soft still r (listed.setIfInBounds i true)
theorem Zhc {still:Oper->Bool}(hs:Region.noSelect ops=true)(N8:GU ops=true)(hQ:∀c (a:Act) (d:Tmp) (v:Value) w,Q (.panic c) (a.put (some d) v) w->Q (.panic c) a w):∀(l:List (Nat×Bool)) (listed:Array Bool) (a:Act) (w:World),listed.size=ops.size->Down md ops listed->
  J5 md ops soft still l listed=true->XI ro P ops Q soft still l a w->KO ro P md ops Q soft l.length listed a w:=by
 intro l;induction l with
 |nil=>
  intro listed a w _ _ hB h;exact⟨by simpa[J5]using hB,h⟩
 |cons x r ih=>
  obtain⟨i,b⟩:=x;intro listed a w fI hD hB h;cases b with
  |false=>
   simp only[J5,dK]at hB;obtain⟨o,v,S',hx,bS,Wn,ho,hy,h'⟩:=h;have hr:i∈Region.ready md ops listed:=by simpa using hB.1.1.1
   have EA:=hB.1.2;rw[ho]at EA;simp only[sD]at EA;exact ZeM hx ho (Region.noSelect_spec hs) N8 (fun c a w k=>by
    cases hd:o.dst with
    |none=>rw[hd]at k;exact k
    |some d=>rw[hd]at k;exact hQ c a d v w k) r.length listed a w hD (by
    rcases EA with h1|h1
    .exact .inl (bS h1)
    .refine .inr (fun j hj zU CW=>?_);have aI:j<ops.size:=by
      rcases Nat.lt_or_ge j listed.size with h2|h2
      .omega
      .simp[Array.getElem?_eq_none h2]at hj
     have:=rM.1 h1 j (List.mem_range.2 aI)
     simp only[sD,beq_iff_eq]at this;rcases this with((h3|h3)|h3)|h3
     .rw[hj]at h3;cases h3
     .exact absurd h3 zU
     .rw[CW]at h3;cases h3
     .exact h3) (Region.free_spec ho hB.1.1.2) hr hy Wn (ih _ _ _ (by simpa using fI) (hD.set hr) hB.2 h')
  |true=>
   simp only[J5,dK,beq_iff_eq]at hB;refine⟨fun h0=>by rw[hB.1]at h0;simp at h0,fun j hj=>?_⟩;have b8:=hj;rw[hB.1,sG]at b8;subst b8;exact wpOpIn_mono (fun a' w' k=>⟨k.1,ih _ _ _ (by simpa using fI) (hD.set hj) hB.2 k.2⟩) h
theorem Zdn {id:Nat}{a:Act}{w:World}{o:Array Oper}(soft:Nat->Oper->Bool)(still:Oper->Bool)(l:List (Nat×Bool))(hm:P.follows .mixedOrders=true)(hQ:∀c (a:Act) (d:Tmp) (v:Value) w,Q (.panic c) (a.put (some d) v) w->Q (.panic c) a w)
  (h1:Region.noSelect o=true) (I0:GU o=true) (h2:l.length=o.size) (h3:J5 .any o soft still l (Array.replicate o.size false)=true)
  (h:XI ro P o Q soft still l a w.drew):(Code.region id o true).wpIn (FF ro) 1 P Q a w:=by
 refine wpIn_region_any hm (Zek (soft:=soft) _ _ _ _ ?_)
 have:=Zhc (P:=P) (soft:=soft) (still:=still) h1 I0 hQ l _ _ _ (by simp) (Down.start _) h3 h
 rw[h2]at this;exact this
end
def iU (d:Nat):Site->Site
 |.ret j=>.loc d j
 |s=>s
def Site.uS:Site->Bool
 |.ret _=>true
 |_=>false
def AS.lX (B:List (Site×aJ))(σ:AS):AS:=⟨σ.tm,B++σ.bx⟩
def nV (d:Nat)(B:List (Site×aJ)):List (Site×aJ):=B.map fun p=>(iU d p.1,p.2.iX (iU d))
def oK (r:AV)(B:List (Site×aJ)):Prop:=r.dC Site.uS=true/\∀p∈B,p.1.uS=true/\p.2.dC Site.uS=true
def aL:List Site->AS->AS
 |[],σ=>σ
 |s::r,σ=>aL r (σ.cJ s)
def zD (P:Program)(f:bB)(args:List bB)(d:Nat)(K:AV->AS->Prop)(σ:AS):Prop:=
 (∃k g fs xs cs,(σ.o f).snap σ k=some (.fn g fs cs)/\jL (AV.snap σ k) (args.map σ.o)=some xs/\cU P g ((fs++xs++cs).map .pv) [] (fun r _=>∃y,r=.pv y/\y.flat=true/\K (.pv y) σ))\/
 (∃(fz:List Site) (g:FuncId) (fs xs cs:List PV),(aL fz σ).o f=.pv (.fn g fs cs)/\(aL fz σ).tY args=some xs/\cU P g ((fs++xs++cs).map .pv) [] (fun r B=>oK r B/\K (r.map (iU d)) (((aL fz σ).bG d).lX (nV d B))))
section
variable {P:Program}{N:Nat}{w0:World}{m0:Env w0}{pl:List Nat}{σ:AS}{ρ:Site->Loc}{m:Mem}{act:Act}{w:World}{o:Oper}{d:Nat}{K:AV->AS->Prop}{ro:Option Nat}
theorem Sat.aL:∀(fz:List Site) {σ:AS} {m:Mem},Sat N w0 m0 pl σ ρ m act w->∃m',Le m m'/\Sat N w0 m0 pl (aL fz σ) ρ m' act w
 |[],σ,m,h=>⟨m,Le.refl m,h⟩
 |s::r,σ,m,h=>by
  obtain⟨m1,l1,h1⟩:=h.cJ s;obtain⟨m2,l2,h2⟩:=Sat.aL r h1;exact⟨m2,l1.trans l2,h2⟩
theorem ZfO (d:Nat):∀(B:List (Site×aJ)),(∀p∈B,p.1.uS=true)->∀s b,(nV d B).lookup s=some b->∃j b',s=.loc d j/\B.lookup (.ret j)=some b'/\b=b'.iX (iU d)
 |[],_,s,b,h=>by simp[nV]at h
 |(s',b')::r,hB,s,b,h=>by
  have h1:=hB (s',b') (by simp);cases s' with
  |ret j=>
   simp only[nV,iS,iU]at h;rcases Classical.em (s=.loc d j)with e|e
   .subst e;rw[mX]at h;cases h;exact⟨j,b',rfl,mX,rfl⟩
   .rw[jJ e]at h;obtain⟨j2,b2,e1,e2,e3⟩:=ZfO d r (fun p hp=>hB p (by simp[hp])) s b h;refine⟨j2,b2,e1,?_,e3⟩;rw[jJ (fun e4=>e (by rw[e1];cases e4;rfl))];exact e2
  |par i=>cases h1
  |loc e i=>cases h1
theorem ZeD {α β:Type}[BEq α][LawfulBEq α](k:α):∀(l r:List (α×β)),(l++r).lookup k=(l.lookup k).or (r.lookup k)
 |[],r=>by simp[List.lookup]
 |(a,b)::l,r=>by
  by_cases h:k=a
  .subst h;rw[List.cons_append,mX,mX];rfl
  .rw[List.cons_append,jJ h,jJ h];exact ZeD k l r
theorem Sat.ret (h:Sat N w0 m0 pl σ ρ m act w)(hN:rG d σ){w':World}(hx:Ext w w'){m':Mem}{bX:Site->Loc}{B:List (Site×aJ)}(hB:vH bX m' w' B)(hk:∀p∈B,p.1.uS=true/\p.2.dC Site.uS=true)(hm:Le m m')(hw:Le m' w'.mem)
  (hb:∀s b k,B.lookup s=some b->fL bX w' s b k->w.heap.size<=k) (hf:∀b o v,m' b o=some v->m b o=some v\/w.heap.size<=b):
  ∃oI,Sat N w0 m0 pl (σ.lX (nV d B)) oI m' act w'/\∀{v:Value} {r:AV},r.dC Site.uS=true->bQ bX m' v r->bQ oI m' v (r.map (iU d)):=by
 let oI:Site->Loc:=fun s=>match s with
  |.loc e j=>if e=d then bX (.ret j)else ρ s
  |s=>ρ s
 have e1:∀s,s.fP d=false->oI s=ρ s:=fun s hs=>by
  cases s with
  |loc e j=>
   have:¬e=d:=fun h=>by subst h;simp[Site.fP]at hs
   simp[oI,this]
  |_=>rfl
 have e2:∀s,s.uS=true->oI (iU d s)=bX s:=fun s hs=>by
  cases s with
  |ret j=>simp[oI,iU]
  |_=>cases hs
 have hX:=h.ext hx;have AQ:Sat N w0 m0 pl σ ρ m' act w':=hX.Zyd hm hw (fun s b i k r o=>by
  cases hv:m' i o with
  |none=>rfl
  |some v=>
   have r':=((h.bx s b k).dS (fun r=>hx.block _ (h.lt k r))).1 r;have aI:=h.G8 k r';rcases hf _ _ _ hv with k1|k1
   .rw[h.eQ s b i k r' o]at k1;cases k1
   .omega) (fun b o v hv=>by
  rcases hf b o v hv with k|k
  .exact .inl k
  .exact .inr (.inl (lM h.keep.size k)))
 have look:∀s b,(σ.lX (nV d B)).b s=some b->(∃j b',s=.loc d j/\B.lookup (.ret j)=some b'/\b=b'.iX (iU d))\/(σ.b s=some b/\s.fP d=false):=fun s b k=>by
  have k':(nV d B++σ.bx).lookup s=some b:=k;rw[ZeD]at k';cases hl:(nV d B).lookup s with
  |some c=>
   rw[hl]at k';simp at k';subst k';exact .inl (ZfO d B (fun p hp=>(hk p hp).1) s c hl)
  |none=>
   rw[hl]at k';simp at k';exact .inr ⟨k',(hN.b s b k').1⟩
 have mem:∀{l:List (Site×aJ)} {s b},l.lookup s=some b->(s,b)∈l:=by
  intro l;induction l with
  |nil=>intro s b h;simp[List.lookup]at h
  |cons p r ih=>
   obtain⟨a,c⟩:=p;intro s b h;by_cases e:s=a
   .subst e;rw[mX]at h;cases h;simp
   .rw[jJ e]at h;simp[ih h]
 refine⟨oI,⟨AQ.sM,AQ.sz,fun t a k=>?_,fun s b k=>?_,fun s s' b b' i k k' r r'=>?_,AQ.mem,fun s b i k r=>?_,fun s b i k r=>?_,AQ.keep,AQ.base,AQ.qJ,fun i=>AQ.par i⟩,fun hr hv=>hv.map e2 hr⟩
 .obtain⟨v,k1,k2⟩:=AQ.tm t a k;exact⟨v,k1,k2.mono (Le.refl _) e1 (hN.t t a k)⟩
 .rcases look s b k with⟨j,b',rfl,k1,rfl⟩|⟨k1,k2⟩
  .exact(hB.bx _ _ k1).iX e2 (s:=.ret j) rfl (hk _ (mem k1)).2
  .exact(AQ.bx s b k1).stay (Le.refl _) e1 k2 (hN.b s b k1).2 (fun _ _=>rfl)
 .rcases look s b k with⟨j,b2,rfl,k1,rfl⟩|⟨k1,k2⟩<;>rcases look s' b' k' with⟨j',b2',rfl,C9,rfl⟩|⟨C9,Az⟩
  .have:=hB.eA _ _ _ _ i k1 C9 ((uU (e2 (.ret j) rfl)).1 r) ((uU (e2 (.ret j') rfl)).1 r')
   cases this;rfl
  .have a1:=hb _ _ i k1 ((uU (e2 (.ret j) rfl)).1 r);have a2:=h.G8 C9 (((h.bx s' b' C9).dS (fun r=>hx.block _ (h.lt C9 r))).1 ((R7 (e1 s' Az)).1 r'));omega
  .have a1:=hb _ _ i C9 ((uU (e2 (.ret j') rfl)).1 r');have a2:=h.G8 k1 (((h.bx s b k1).dS (fun r=>hx.block _ (h.lt k1 r))).1 ((R7 (e1 s k2)).1 r));omega
  .exact AQ.eA s s' b b' i k1 C9 ((R7 (e1 s k2)).1 r) ((R7 (e1 s' Az)).1 r')
 .rcases look s b k with⟨j,b2,rfl,k1,rfl⟩|⟨k1,k2⟩
  .exact hB.eQ _ _ i k1 ((uU (e2 (.ret j) rfl)).1 r)
  .exact AQ.eQ s b i k1 ((R7 (e1 s k2)).1 r)
 .rcases look s b k with⟨j,b2,rfl,k1,rfl⟩|⟨k1,k2⟩
  .exact .inl (lM h.keep.size (hb _ _ i k1 ((uU (e2 (.ret j) rfl)).1 r)))
  .exact AQ.fM s b i k1 ((R7 (e1 s k2)).1 r)
theorem Gg {m:Mem}{v:Value}{g:FuncId}{fs cs:List PV}(h:dH m v (.fn g fs cs)):∃vf vc:Array Value,v=.func (.func g) vf vc/\vf.size=fs.length/\vc.size=cs.length/\(∀(j:Nat) (d:Value) (c:PV),vf[j]?=some d->fs[j]?=some c->dH m d c)/\(∀(j:Nat) (d:Value) (c:PV),vc[j]?=some d->cs[j]?=some c->dH m d c):=by
 cases h with
 |fn _ vf vc _ _ h0 h1 h2 h3=>exact⟨vf,vc,rfl,h0,h1,h2,h3⟩
theorem F7 {c:Call}{fo:Operand}(ho:o.op=.call c)(hc:c.callee=.value fo){g:FuncId}{vf vc:Array Value}(hv:act.eval fo=.func (.func g) vf vc)(hg:jS P g):
  (execOp act.eval o).run P w=.ok (.enter g (vf++c.args.map act.eval++vc)) w:=by
 obtain⟨fn,code,h1,h2,h3⟩:=hg;have uK : ¬ fn.name = "runtime.NumGoroutine" := by simpa using h2
 unfold execOp;simp only[ho];simp[resolve,hc,hv,Deferred.ofValue,invoke,callFunc,h1,uK,h3]
theorem Zo4 {m:Mem}{ρ:Site->Loc}{vf va vc:Array Value}{fs xs cs:List PV}(h1:vf.size=fs.length)(h2:va.size=xs.length)(h3:vc.size=cs.length)(k1:∀(j:Nat) (d:Value) (c:PV),vf[j]?=some d->fs[j]?=some c->dH m d c)
  (k2:∀(j:Nat) (d:Value) (c:PV),va[j]?=some d->xs[j]?=some c->dH m d c) (k3:∀(j:Nat) (d:Value) (c:PV),vc[j]?=some d->cs[j]?=some c->dH m d c):
  (vf++va++vc).size=((fs++xs++cs).map AV.pv).length/\∀(j:Nat) (d:Value) (c:AV),(vf++va++vc)[j]?=some d->((fs++xs++cs).map AV.pv)[j]?=some c->bQ ρ m d c:=by
 refine⟨by simp[h1,h2,h3],fun j d c e1 e2=>?_⟩;rw[bY]at e2;obtain⟨x,e3,rfl⟩:=eB.1 e2;refine .pv _ _ ?_;rw[Array.getElem?_append,Array.getElem?_append]at e1;rw[zB,zB]at e3;simp only[Array.size_append,gF,h1,h2]at e1 e3;split at e1
 .rename_i c1;rw[if_pos c1]at e3;split at e1
  .rename_i c2;rw[if_pos c2]at e3;exact k1 j d x e1 e3
  .rename_i c2;rw[if_neg c2]at e3;exact k2 _ d x e1 e3
 .rename_i c1;rw[if_neg c1]at e3;exact k3 _ d x e1 e3
theorem Zt2 {f:bB}{args:List bB}(hl:aZ P o.op=.call f args)(h:zD P f args d K σ)(hS:Sat N w0 m0 pl σ ρ m act w){Q:Exit->Act->World->Prop} :
  o.wpIn (FF ro) 1 P act w (fun bE w'=>∃v a τ bX m',bE=act.put o.dst v/\K a τ/\Sat N w0 m0 pl τ bX m' act w'/\bQ bX m' v a/\Ext w w') Q:=by
 obtain⟨c,fo,ho,hc,hf,ha⟩:∃c fo,o.op=.call c/\c.callee=.value fo/\aU fo=some f/\pP c.args.toList=some args:=by
  replace hl:=ZfQ hl;cases hop:o.op<;>rw[hop]at hl
  case call c=>
   simp only[nE]at hl;split at hl
   all_goals first
    |(rename_i fo hc
      split at hl
      .rename_i e1 e2;cases hl;exact⟨c,fo,rfl,hc,e1,e2⟩
      .cases hl)
    |(exfalso;repeat' (first|(cases hl;done)|split at hl))
  case unOp op t x=>exfalso;cases op<;>simp only[nE]at hl<;>(try split at hl)<;>cases hl
  case makeFunc fn fs cs=>exfalso;cases fn<;>simp only[nE]at hl<;>(try split at hl)<;>cases hl
  case slice t x lo hi mx=>exfalso;cases mx<;>simp only[nE]at hl<;>(try split at hl)<;>cases hl
  all_goals (exfalso;simp only[nE,vX]at hl;repeat' (first|(cases hl;done)|split at hl))
 obtain⟨q1,q2⟩:=LD ha;have fY:∀(τ:AS) (bX:Site->Loc) (m':Mem),Sat N w0 m0 pl τ bX m' act w->(c.args.map act.eval).size=args.length/\∀(j:Nat) (u:Value) (y:bB),(c.args.map act.eval)[j]?=some u->args[j]?=some y->bQ bX m' u (τ.o y):=fun τ bX m' HY=>by
  refine⟨by simp;simpa using q1,fun j u y hu hy=>?_⟩;rw[Array.getElem?_map]at hu;obtain⟨x,k1,rfl⟩:=eB.1 hu;obtain⟨y',k2,k3⟩:=q2 j x (by simpa using k1);rw[hy]at k2;cases k2;exact HY.aU k3
 unfold Oper.wpIn;refine⟨fun _ _=>trivial,?_⟩;rw[Oper.semAt_eq _ _ _ (fun c' e=>by rw[ho]at e;cases e)];rcases h with⟨k,g,fs,xs,cs,h1,h2,hC⟩|⟨fz,g,fs,xs,cs,h1,h2,hC⟩
 .obtain⟨vf,vc,hv,f1,f2,f3,f4⟩:=Gg (ZmZ hS h1 (hS.aU hf));rw[F7 ho hc hv hC.1,Oper.uponIn_enter];refine⟨FF.one,Gr ?_⟩;obtain⟨s1,s2⟩:=YN h2;rw[fZ]at s1;obtain⟨a1,a2⟩:=fY σ ρ m hS;obtain⟨b1,b2⟩:=Zo4 (ρ:=ρ) (m:=w.mem) (va:=c.args.map act.eval) (xs:=xs) f1 (by omega) f2 f3 (fun j u x e1 e2=>by
   have hj:j<args.length:=by rw[s1];exact(cD.1 e2).1
   obtain⟨x',k1,k2⟩:=s2 j (σ.o args[j]) (by rw[bY,bC hj];rfl);rw[e2]at k1;cases k1;exact ZmZ hS k2 (a2 j u _ e1 (bC hj))) f4
  refine(hC.2 w w.mem ρ _ (vH.nil _ _ _) ⟨Le.refl _,hS.uL.mono hS.mem,List.nodup_nil⟩ b1 b2).mono ?_;rintro e w' ⟨v,r,B,bX,m',rfl,⟨y,rfl,hy,hK⟩,_,_,_,_,_,_,rY,Z9⟩;have hx:Ext w w':=cY.ext Z9;exact⟨v,.pv y,σ,ρ,m,rfl,hK,hS.ext hx,.pv _ _ (rY.nN.flat hy),hx⟩
 .obtain⟨m1,zQ,hF⟩:=Sat.aL fz hS;have s6:=hF.aU hf;rw[h1]at s6;obtain⟨vf,vc,hv,f1,f2,f3,f4⟩:=Gg s6.nN;rw[F7 ho hc hv hC.1,Oper.uponIn_enter];refine⟨FF.one,Gr ?_⟩;obtain⟨s1,s2⟩:=TZ h2;obtain⟨a1,a2⟩:=fY _ ρ m1 hF;obtain⟨b1,b2⟩:=Zo4 (ρ:=ρ) (m:=m1) (va:=c.args.map act.eval) (xs:=xs) f1 (by omega) f2 f3 (fun j u x e1 e2=>by
   have hj:j<args.length:=by rw[s1];exact(cD.1 e2).1
   obtain⟨x',k1,k2⟩:=s2 j _ (bC hj);rw[e2]at k1;cases k1
   have:=a2 j u _ e1 (bC hj)
   rw[k2]at this;exact this.nN) f4
  refine(hC.2 w m1 ρ _ (vH.nil _ _ _) ⟨hF.mem,hF.uL,List.nodup_nil⟩ b1 b2).mono ?_;rintro e w' ⟨v,r,B,bX,m',rfl,⟨⟨r1,r2⟩,hK⟩,hB,Q3,IB,_,wM,E9,rY,Z9⟩;have hx:Ext w w':=cY.ext Z9;obtain⟨oI,k1,k2⟩:=(hF.bG d).ret (rG.bG d _) hx hB r2 Q3 IB (fun s b i hs hr=>by
   rcases wM s b i hs hr with k|k
   .exact k
   .simp[cK]at k) (fun b o v hv=>by
   rcases E9 b o v hv with k|k|k
   .exact .inl k
   .exact .inr k
   .simp[cK]at k)
  exact⟨v,_,_,oI,m',rfl,hK,k1,k2 r1 rY,hx⟩
end
def kF (aE:List Site)(s:Site):Site:=match aE.findIdx? (fun x=>decide (x=s))with
 |some j=>.par j
 |none=>s
def gI (aE:List Site)(d:Nat):Site->Site
 |.par i=>aE.getD i default
 |.ret j=>.loc d j
 |s=>s
def cA (aE:List Site):Site->Bool
 |.par i=>decide (i<aE.length)
 |.ret _=>true
 |_=>false
def pD (σ:AS)(aE:List Site):Nat->List Site->Option (List (Site×aJ))
 |_,[]=>some []
 |i,s::r=>match σ.b s,pD σ aE (i+1) r with
  |some b,some l=>if b.dC (fun x=>aE.contains x)=true then some ((.par i,b.iX (kF aE))::l)else none
  |_,_=>none
def cT:List Site->AS->AS
 |[],σ=>σ
 |s::r,σ=>cT r (σ.drop s)
def fB (aE:List Site)(d:Nat)(B:List (Site×aJ)):List (Site×aJ):=B.map fun p=>(gI aE d p.1,p.2.iX (gI aE d))
def GX (P:Program)(f:bB)(args:List bB)(K:AV->AS->Prop)(σ:AS):Prop:=
 ∃(d:Nat) (fz aE:List Site) (g:FuncId) (fs cs:List AV) (B:List (Site×aJ)),
  ((aL fz σ).o f=.fn g fs cs\/∃tP iM,(aL fz σ).o f=.pv (.fn g tP iM)/\fs=tP.map .pv/\cs=iM.map .pv)/\aE.Nodup/\aE.all (fun s=>!s.fP d)=true/\pD (aL fz σ) aE 0 aE=some B/\
  AV.hZ (fun x=>aE.contains x) (fs++args.map (aL fz σ).o++cs)=true/\
  cU P g (AV.iT (kF aE) (fs++args.map (aL fz σ).o++cs)) B (fun r B'=>r.dC (cA aE)=true/\(∀p∈B',cA aE p.1=true/\p.2.dC (cA aE)=true)/\
   K (r.map (gI aE d)) (((cT aE (aL fz σ)).bG d).lX (fB aE d B')))
section
variable {P:Program}{N:Nat}{w0:World}{m0:Env w0}{pl:List Nat}{σ:AS}{ρ:Site->Loc}{m:Mem}{act:Act}{w:World}{o:Oper}{d:Nat}{K:AV->AS->Prop}
theorem Zoz:∀(l:List Site) (σ:AS) (s:Site) (b:aJ),(cT l σ).b s=some b->σ.b s=some b/\s∉l
 |[],σ,s,b,h=>⟨h,by simp⟩
 |x::r,σ,s,b,h=>by
  obtain⟨h1,h2⟩:=Zoz r _ s b h;rw[AS.KC]at h1;split at h1
  .cases h1
  .rename_i dA;exact⟨h1,by simp[dA,h2]⟩
theorem Zoy:∀(l:List Site) (σ:AS),(cT l σ).tm=σ.tm
 |[],σ=>rfl
 |x::r,σ=>by rw[cT,Zoy r];rfl
theorem Zl9 {l:List Site}{s:Site}{j:Nat}(h:l.findIdx? (fun x=>decide (x=s))=some j):l[j]?=some s:=by
 obtain⟨hj,h1,_⟩:=JY.1 h;rw[bC hj];simpa using h1
theorem Hf {aE:List Site}{s:Site}(h:s∈aE):∃j,aE.findIdx? (fun x=>decide (x=s))=some j/\aE[j]?=some s:=by
 cases hf:aE.findIdx? (fun x=>decide (x=s))with
 |some j=>exact⟨j,rfl,Zl9 hf⟩
 |none=>
  rw[List.findIdx?_eq_none_iff]at hf
  have:=hf s h
  simp at this
theorem Zdy (σ:AS)(aE:List Site):∀(l:List Site) (i:Nat) (B:List (Site×aJ)),pD σ aE i l=some B->
  (∀s b,B.lookup s=some b->∃j s0 b0,s=.par (i+j)/\l[j]?=some s0/\σ.b s0=some b0/\b=b0.iX (kF aE)/\b0.dC (fun x=>aE.contains x)=true)/\(∀s∈l,∃b,σ.b s=some b)/\(∀s0∈l,∃s b,(s,b)∈B/\∃j,s=.par (i+j)/\l[j]?=some s0)/\(∀p∈B,∃j s0 b0,p.1=.par (i+j)/\l[j]?=some s0/\σ.b s0=some b0/\p.2=b0.iX (kF aE))
 |[],i,B,h=>by
  simp[pD]at h;subst h;exact⟨fun s b h=>by simp[List.lookup]at h,fun s h=>(by cases h),fun s h=>(by cases h),fun p h=>(by cases h)⟩
 |x::r,i,B,h=>by
  unfold pD at h;split at h
  .rename_i b l h1 h2;split at h
   .rename_i eV;cases h;obtain⟨k1,k2,k3,k4⟩:=Zdy σ aE r (i+1) l h2;refine⟨fun s c hs=>?_,fun s hs=>?_,fun s hs=>?_,fun p hp=>?_⟩
    .by_cases e:s=.par i
     .subst e;rw[mX]at hs;cases hs;exact⟨0,x,b,rfl,rfl,h1,rfl,eV⟩
     .rw[jJ e]at hs;obtain⟨j,s0,b0,e1,e2,e3⟩:=k1 s c hs;exact⟨j+1,s0,b0,by rw[e1];congr 1;omega,by simpa using e2,e3⟩
    .rcases jT.1 hs with rfl|hs
     .exact⟨b,h1⟩
     .exact k2 s hs
    .rcases jT.1 hs with rfl|hs
     .exact⟨.par i,b.iX (kF aE),by simp,0,rfl,rfl⟩
     .obtain⟨s',b',q1,j,q2,q3⟩:=k3 s hs;exact⟨s',b',by simp[q1],j+1,by rw[q2];congr 1;omega,by simpa using q3⟩
    .rcases jT.1 hp with rfl|hp
     .exact⟨0,x,b,rfl,rfl,h1,rfl⟩
     .obtain⟨j,s0,b0,q1,q2,q3⟩:=k4 p hp;exact⟨j+1,s0,b0,by rw[q1];congr 1;omega,by simpa using q2,q3⟩
   .cases h
  .cases h
theorem ZfN (aE:List Site)(d:Nat):∀(B:List (Site×aJ)) s b,(fB aE d B).lookup s=some b->∃s0 b0,B.lookup s0=some b0/\(s0,b0)∈B/\s=gI aE d s0/\b=b0.iX (gI aE d)
 |[],s,b,h=>by simp[fB]at h
 |(s',b')::r,s,b,h=>by
  simp only[fB,iS]at h;by_cases e:s=gI aE d s'
  .subst e;rw[mX]at h;cases h;exact⟨s',b',mX,by simp,rfl,rfl⟩
  .rw[jJ e]at h;obtain⟨s0,b0,h0,h1,h2,h3⟩:=ZfN aE d r s b h;exact⟨s0,b0,by rw[jJ (fun e2=>e (by rw[h2,e2]))];exact h0,by simp[h1],h2,h3⟩
theorem Ni {v:Value}{g:FuncId}{fs cs:List AV}(h:bQ ρ m v (.fn g fs cs)):∃vf vc:Array Value,v=.func (.func g) vf vc/\vf.size=fs.length/\vc.size=cs.length/\(∀(j:Nat) (d:Value) (c:AV),vf[j]?=some d->fs[j]?=some c->bQ ρ m d c)/\(∀(j:Nat) (d:Value) (c:AV),vc[j]?=some d->cs[j]?=some c->bQ ρ m d c):=by
 cases h with
 |fn _ vf vc _ _ h0 h1 h2 h3=>exact⟨vf,vc,rfl,h0,h1,h2,h3⟩
theorem Zh3 {vf va vc:Array Value}{fs xs cs:List AV}(h1:vf.size=fs.length)(h2:va.size=xs.length)(h3:vc.size=cs.length)(k1:∀(j:Nat) (d:Value) (c:AV),vf[j]?=some d->fs[j]?=some c->bQ ρ m d c)
  (k2:∀(j:Nat) (d:Value) (c:AV),va[j]?=some d->xs[j]?=some c->bQ ρ m d c) (k3:∀(j:Nat) (d:Value) (c:AV),vc[j]?=some d->cs[j]?=some c->bQ ρ m d c):
  (vf++va++vc).size=(fs++xs++cs).length/\∀(j:Nat) (d:Value) (c:AV),(vf++va++vc)[j]?=some d->(fs++xs++cs)[j]?=some c->bQ ρ m d c:=by
 refine⟨by simp[h1,h2,h3],fun j d c e1 e3=>?_⟩;rw[Array.getElem?_append,Array.getElem?_append]at e1;rw[zB,zB]at e3;simp only[Array.size_append,gF,h1,h2]at e1 e3;split at e1
 .rename_i c1;rw[if_pos c1]at e3;split at e1
  .rename_i c2;rw[if_pos c2]at e3;exact k1 j d c e1 e3
  .rename_i c2;rw[if_neg c2]at e3;exact k2 _ d c e1 e3
 .rename_i c1;rw[if_neg c1]at e3;exact k3 _ d c e1 e3
theorem Pr {f:bB}{args:List bB}(hl:aZ P o.op=.call f args):∃c fo,o.op=.call c/\c.callee=.value fo/\aU fo=some f/\pP c.args.toList=some args:=by
 replace hl:=ZfQ hl;cases hop:o.op<;>rw[hop]at hl
 case call c=>
  simp only[nE]at hl;split at hl
  all_goals first
   |(rename_i fo hc
     split at hl
     .rename_i e1 e2;cases hl;exact⟨c,fo,rfl,hc,e1,e2⟩
     .cases hl)
   |(exfalso;repeat' (first|(cases hl;done)|split at hl))
 case unOp op t x=>exfalso;cases op<;>simp only[nE]at hl<;>(try split at hl)<;>cases hl
 case makeFunc fn fs cs=>exfalso;cases fn<;>simp only[nE]at hl<;>(try split at hl)<;>cases hl
 case slice t x lo hi mx=>exfalso;cases mx<;>simp only[nE]at hl<;>(try split at hl)<;>cases hl
 all_goals (exfalso;simp only[nE,vX]at hl;repeat' (first|(cases hl;done)|split at hl))
theorem Qa {l:List Site}(h:l.Nodup){i j:Nat}{s:Site}(hi:l[i]?=some s)(hj:l[j]?=some s):i=j:=by
 obtain⟨h1,e1⟩:=cD.1 hi;obtain⟨h2,e2⟩:=cD.1 hj;have hp:=R3.1 h;rcases Nat.lt_trichotomy i j with aI|he|aI
 .exact absurd (e1.trans e2.symm) (hp i j h1 h2 aI)
 .exact he
 .exact absurd (e2.trans e1.symm) (hp j i h2 h1 aI)
theorem ZfT {σ:AS}{aE:List Site}:∀(r:List Site) (i:Nat) (B:List (Site×aJ)),pD σ aE i r=some B->B.map (·.1)=(List.range' i r.length).map .par
 |[],i,B,h=>by simp[pD]at h;subst h;rfl
 |s::r,i,B,h=>by
  unfold pD at h;split at h
  .rename_i b l h1 h2;split at h
   .cases h;rw[iS,ZfT r (i+1) l h2];rfl
   .cases h
  .cases h
theorem Qh {σ:AS}{aE:List Site}{B:List (Site×aJ)}(h:pD σ aE 0 aE=some B):(B.map (·.1)).Nodup:=by
 rw[ZfT _ _ _ h,EO,List.pairwise_map];exact List.Pairwise.imp (fun h e=>h (by cases e;rfl)) (EO.1 List.nodup_range')
theorem CJ {lN:AS}{m1:Mem}{aE:List Site}{B:List (Site×aJ)}(hF:Sat N w0 m0 pl lN ρ m1 act w)(qE:aE.Nodup)(tC:aE.all (fun s=>!s.fP d)=true)(hB:pD lN aE 0 aE=some B):
  ∃oH:Site->Loc,(∀s,aE.contains s=true->oH (kF aE s)=ρ s)/\vH oH m1 w B/\∀(R:AV->List (Site×aJ)->Prop) (e:Ending) (w':World),lI w m1 oH B (fun r B'=>r.dC (cA aE)=true/\(∀p∈B',cA aE p.1=true/\p.2.dC (cA aE)=true)/\R r B') e w'->
   ∃v r B' bX m',e=.returned v/\R r B'/\Sat N w0 m0 pl (((cT aE lN).bG d).lX (fB aE d B')) bX m' act w'/\bQ bX m' v (r.map (gI aE d))/\∀s,s.fP d=false->bX s=ρ s:=by
 obtain⟨l1,l2,l3,l4⟩:=Zdy lN aE aE 0 B hB
 let oH:Site->Loc:=fun s=>match s with
  |.par i=>ρ (aE.getD i default)
  |s=>ρ s
 have gB:∀s,aE.contains s=true->oH (kF aE s)=ρ s:=fun s hs=>by
  obtain⟨j,k1,k2⟩:=Hf (show s∈aE by simpa using hs);unfold kF;rw[k1];simp[oH,List.getD,k2]
 have oR:∀s b,B.lookup s=some b->∃j s0 b0,s=.par j/\aE[j]?=some s0/\lN.b s0=some b0/\b=b0.iX (kF aE)/\b0.dC (fun x=>aE.contains x)=true:=fun s b hs=>by
  obtain⟨j,s0,b0,e1,e2⟩:=l1 s b hs;exact⟨j,s0,b0,by simpa using e1,e2⟩
 have lR:∀j s0,aE[j]?=some s0->oH (.par j)=ρ s0:=fun j s0 hj=>by simp[oH,List.getD,hj]
 have RM:∀j s0,aE[j]?=some s0->kF aE s0=.par j:=fun j s0 hj=>by
  obtain⟨j',k1,k2⟩:=Hf (dL hj);have e:j'=j:=Qa qE k2 hj;unfold kF;rw[k1,e]
 have uJ:vH oH m1 w B:=by
  refine⟨fun s b hs=>?_,fun s s' b b' i hs Z6 r r'=>?_,fun s b i hs r=>?_⟩
  .obtain⟨j,s0,b0,rfl,e2,e3,rfl,e5⟩:=oR s b hs
   have:=(hF.bx s0 b0 e3).iX gB (by simpa using dL e2) e5
   rwa [RM j s0 e2]at this
  .obtain⟨j,s0,b0,rfl,e2,e3,rfl,_⟩:=oR s b hs;obtain⟨j',PL,WT,rfl,GB,e3',rfl,_⟩:=oR s' b' Z6
   have:=hF.eA s0 PL b0 WT i e3 e3' ((uU (lR j s0 e2)).1 r) ((uU (lR j' PL GB)).1 r')
   subst this
   have:j=j':=Qa qE e2 GB
   rw[this]
  .obtain⟨j,s0,b0,rfl,e2,e3,rfl,_⟩:=oR s b hs;exact hF.eQ s0 b0 i e3 ((uU (lR j s0 e2)).1 r)
 have mR:∀k,k∈cK oH w B->∃s0 b0,s0∈aE/\lN.b s0=some b0/\fL ρ w s0 b0 k:=fun k hk=>by
  obtain⟨p,hp,e⟩:=UF.1 hk;obtain⟨j,s0,b0,e1,e2,e3,e4⟩:=l4 p hp;rw[sF]at e1;rw[e1,e4]at e;exact⟨s0,b0,dL e2,e3,(uU (lR j s0 e2)).1 e⟩
 refine⟨oH,gB,uJ,fun R e w' h=>?_⟩;revert h;rintro⟨v,r,B',bX,m',rfl,⟨r1,r2,hK⟩,Xd,Q3,IB,MY,wM,E9,rY,Z9⟩;have hN:=rG.bG d (cT aE lN)
 let oI:Site->Loc:=fun s=>match s with
  |.loc e j=>if e=d then bX (.ret j)else ρ s
  |s=>ρ s
 have e1:∀s,s.fP d=false->oI s=ρ s:=fun s hs=>by
  cases s with
  |loc e j=>
   have:¬e=d:=fun h=>by subst h;simp[Site.fP]at hs
   simp[oI,this]
  |_=>rfl
 have RE:∀s∈aE,s.fP d=false:=fun s hs=>by
  have:=rM.1 tC s hs
  simpa using this
 have e2:∀s,cA aE s=true->oI (gI aE d s)=bX s:=fun s hs=>by
  cases s with
  |par i=>
   simp only[cA,decide_eq_true_eq]at hs;have hg:=bC hs
   have:gI aE d (.par i)=aE[i]:=by simp[gI,List.getD,hg]
   rw[this,e1 _ (RE _ (A2 hs)),MY i,lR i _ hg]
  |ret j=>simp[oI,gI]
  |loc e j=>cases hs
 have bS:∀s b,((cT aE lN).bG d).b s=some b->s.fP d=false/\s∉aE/\∃b0,lN.b s=some b0/\b=b0.bG d:=fun s b k=>by
  rw[AS.OQ]at k;split at k
  .cases k
  .rename_i qE;obtain⟨b0,k1,rfl⟩:=eB.1 k;obtain⟨k2,k3⟩:=Zoz aE lN s b0 k1;exact⟨by simpa using qE,k3,b0,k2,rfl⟩
 have look:∀s b,(((cT aE lN).bG d).lX (fB aE d B')).b s=some b->(∃s0 b0,B'.lookup s0=some b0/\cA aE s0=true/\b0.dC (cA aE)=true/\s=gI aE d s0/\b=b0.iX (gI aE d))\/(((cT aE lN).bG d).b s=some b):=fun s b k=>by
  have k':(fB aE d B'++((cT aE lN).bG d).bx).lookup s=some b:=k;rw[ZeD]at k';cases hl:(fB aE d B').lookup s with
  |some c=>
   rw[hl]at k';simp at k';subst k';obtain⟨s0,b0,k1,k2,k3,k4⟩:=ZfN aE d B' s c hl;exact .inl ⟨s0,b0,k1,(r2 _ k2).1,(r2 _ k2).2,k3,k4⟩
  |none=>
   rw[hl]at k';simp at k';exact .inr k'
 have uX:∀s b0 k,s∉aE->lN.b s=some b0->fL ρ w s b0 k->k∉cK oH w B:=fun s b0 k hs hb hr hk=>by
  obtain⟨s0,WT,k1,k2,k3⟩:=mR _ hk
  have:=hF.eA s0 s WT b0 k k2 hb k3 hr
  subst this;exact hs k1
 have stay:∀s b0,s∉aE->lN.b s=some b0->∀k,fL ρ w s b0 k->w'.heap[k]?=w.heap[k]?:=fun s b0 hs hb k hr=>Z9.block k (hF.G8 hb hr) (uX s b0 k hs hb hr)
 have back:∀s b0,s.fP d=false->s∉aE->lN.b s=some b0->∀k,fL oI w' s (b0.bG d) k->fL ρ w s b0 k:=fun s b0 h1 hs hb k hr=>
  ((hF.bx s b0 hb).dS (fun r=>stay s b0 hs hb _ (xV r))).1 (KR.1 ((R7 (e1 s h1)).1 hr))
 have Ud:∃ds:List Nat,Jf m0.rest ds act.defers/\Nod m0.strict ds/\∀D∈ds,(w0.heap.size<=D\/D∈pl)/\w'.heap[D]?=some (.deferred (some [])):=by
  obtain⟨ds,g1,g0,g2⟩:=hF.sM;refine⟨ds,g1,g0,fun D hD=>⟨(g2 D hD).1,?_⟩⟩;obtain⟨g3,g4⟩:=g2 D hD;rw[Z9.block D (qL.1 g4).1 (fun q=>by
   obtain⟨s1,b1,q1,q2,q3⟩:=mR _ q;exact(hF.bx s1 b1 q2).Yn q3 g4)]
  exact g4
 have PT:∀s0 b0 k,B'.lookup s0=some b0->fL bX w' s0 b0 k->w.heap.size<=k\/k∈cK oH w B:=wM;refine⟨v,r,B',oI,m',rfl,hK,⟨Ud,hF.sz,fun t a k=>?_,fun s b k=>?_,fun s s' b b' i k k' rr MC=>?_,IB,fun s b i k rr=>?_,fun s b i k rr=>?_,?_,hF.base.trans Q3,fun b o' v' Td=>?_,fun i=>hF.par i⟩,rY.map e2 r1,e1⟩
 .have k':((cT aE lN).bG d).t t=some a:=k;have mP:=hN.t t a k';rw[AS.Lu]at k';obtain⟨a0,k1,rfl⟩:=eB.1 k';have k2:lN.t t=some a0:=by
   unfold AS.t at k1 ⊢;rw[Zoy]at k1;exact k1
  obtain⟨u,k3,k4⟩:=hF.tm t a0 k2;refine⟨u,k3,?_⟩;have k5:bQ ρ m1 u (a0.bG d):=by
   unfold AV.bG;split
   .exact .any u
   .exact k4
  exact k5.mono Q3 e1 mP
 .rcases look s b k with⟨s0,b0,k1,k2,k3,rfl,rfl⟩|k1
  .exact(Xd.bx s0 b0 k1).iX e2 k2 k3
  .obtain⟨k2,k3,b0,k4,rfl⟩:=bS s b k1;exact((hF.bx s b0 k4).bG d).stay Q3 e1 k2 (aJ.Gb d b0) (fun i hr=>stay s b0 k3 k4 i (KR.1 hr))
 .rcases look s b k with⟨s0,b0,k1,k2,k3,rfl,rfl⟩|k1<;>rcases look s' b' k' with⟨PL,WT,C9,Az,k3',rfl,rfl⟩|C9
  .rw[Xd.eA s0 PL b0 WT i k1 C9 ((uU (e2 s0 k2)).1 rr) ((uU (e2 PL Az)).1 MC)]
  .obtain⟨h2,h3,c0,h4,rfl⟩:=bS s' b' C9;have r2':=back s' c0 h2 h3 h4 i MC;rcases PT s0 b0 i k1 ((uU (e2 s0 k2)).1 rr)with q|q
   .have:=hF.G8 h4 r2';omega
   .exact absurd q (uX s' c0 i h3 h4 r2')
  .obtain⟨h2,h3,c0,h4,rfl⟩:=bS s b k1;have r2:=back s c0 h2 h3 h4 i rr;rcases PT PL WT i C9 ((uU (e2 PL Az)).1 MC)with q|q
   .have:=hF.G8 h4 r2;omega
   .exact absurd q (uX s c0 i h3 h4 r2)
  .obtain⟨h2,h3,c0,h4,rfl⟩:=bS s b k1;obtain⟨uK,h3',c0',SU,rfl⟩:=bS s' b' C9;exact hF.eA s s' c0 c0' i h4 SU (back s c0 h2 h3 h4 i rr) (back s' c0' uK h3' SU i MC)
 .rcases look s b k with⟨s0,b0,k1,k2,k3,rfl,rfl⟩|k1
  .exact Xd.eQ s0 b0 i k1 ((uU (e2 s0 k2)).1 rr)
  .obtain⟨h2,h3,c0,h4,rfl⟩:=bS s b k1;have r2:=back s c0 h2 h3 h4 i rr;intro o';cases hx:m' i o' with
   |none=>rfl
   |some u=>
    rcases E9 _ _ _ hx with q|q|q
    .rw[hF.eQ s c0 i h4 r2 o']at q;cases q
    .have:=hF.G8 h4 r2;omega
    .exact absurd q (uX s c0 i h3 h4 r2)
 .rcases look s b k with⟨s0,b0,k1,k2,k3,rfl,rfl⟩|k1
  .rcases PT s0 b0 i k1 ((uU (e2 s0 k2)).1 rr)with q|q
   .exact .inl (lM hF.keep.size q)
   .obtain⟨s1,b1,q1,q2,q3⟩:=mR _ q;exact hF.fM s1 b1 i q2 q3
  .obtain⟨h2,h3,c0,h4,rfl⟩:=bS s b k1;exact hF.fM s c0 i h4 (back s c0 h2 h3 h4 i rr)
 .refine⟨Z9.os.trans hF.keep.os,Z9.tape.trans hF.keep.tape,Z9.output.trans hF.keep.output,lM hF.keep.size Z9.size,fun k hk hn=>?_⟩;refine(Z9.block k (Nat.lt_of_lt_of_le hk hF.keep.size) (fun q=>?_)).trans (hF.keep.block k hk hn);obtain⟨s1,b1,q1,q2,q3⟩:=mR _ q;rcases hF.fM s1 b1 k q2 q3 with h'|h'
  .omega
  .exact hn h'
 .rcases E9 _ _ _ Td with q|q|q
  .exact hF.qJ _ _ _ q
  .exact .inr (.inl (lM hF.keep.size q))
  .obtain⟨s1,b1,q1,q2,q3⟩:=mR _ q;rcases hF.fM s1 b1 _ q2 q3 with h'|h'
   .exact .inr (.inl h')
   .exact .inr (.inr h')
theorem ZqY {ro:Option Nat}{f:bB}{args:List bB}(hl:aZ P o.op=.call f args)(h:GX P f args K σ)(hS:Sat N w0 m0 pl σ ρ m act w){Q:Exit->Act->World->Prop} :
  o.wpIn (FF ro) 1 P act w (fun bE w'=>∃v a τ bX m',bE=act.put o.dst v/\K a τ/\Sat N w0 m0 pl τ bX m' act w'/\bQ bX m' v a) Q:=by
 obtain⟨c,fo,ho,hc,hf,ha⟩:=Pr hl;obtain⟨d,fz,aE,g,fs,cs,B,qH,qE,tC,hB,eV,hC⟩:=h;obtain⟨m1,_,hF⟩:=hS.aL fz;generalize aL fz σ=lN at qH hB eV hC hF;obtain⟨q1,q2⟩:=LD ha;obtain⟨oH,gB,uJ,yN⟩:=CJ hF qE tC hB;have s6:∃vf vc:Array Value,act.eval fo=.func (.func g) vf vc/\vf.size=fs.length/\vc.size=cs.length/\(∀(j:Nat) (d:Value) (c:AV),vf[j]?=some d->fs[j]?=some c->bQ ρ m1 d c)/\(∀(j:Nat) (d:Value) (c:AV),vc[j]?=some d->cs[j]?=some c->bQ ρ m1 d c):=by
  have h1:=hF.aU hf;rcases qH with qH|⟨tP,iM,qH,rfl,rfl⟩
  .rw[qH]at h1;exact Ni h1
  .rw[qH]at h1;obtain⟨vf,vc,e1,e2,e3,e4,e5⟩:=Gg h1.nN;refine⟨vf,vc,e1,by simpa using e2,by simpa using e3,fun j d c k1 k2=>?_,fun j d c k1 k2=>?_⟩
   .rw[bY]at k2;obtain⟨x,k3,rfl⟩:=eB.1 k2;exact .pv _ _ (e4 j d x k1 k3)
   .rw[bY]at k2;obtain⟨x,k3,rfl⟩:=eB.1 k2;exact .pv _ _ (e5 j d x k1 k3)
 obtain⟨vf,vc,hv,f1,f2,f3,f4⟩:=s6;have fI:(c.args.map act.eval).size=(args.map lN.o).length:=by simp;simpa using q1
 obtain⟨b1,b2⟩:=Zh3 (ρ:=ρ) (m:=m1) (va:=c.args.map act.eval) (xs:=args.map lN.o) f1 fI f2 f3 (fun j u y hu hy=>by
  rw[Array.getElem?_map]at hu;obtain⟨x,k1,rfl⟩:=eB.1 hu;obtain⟨y',k2,k3⟩:=q2 j x (by simpa using k1);rw[bY,k2]at hy;cases hy;exact hF.aU k3) f4
 unfold Oper.wpIn;refine⟨fun _ _=>trivial,?_⟩;rw[Oper.semAt_eq _ _ _ (fun c' e=>by rw[ho]at e;cases e),F7 ho hc hv hC.1,Oper.uponIn_enter];refine⟨FF.one,Gr ?_⟩;refine(hC.2 w m1 oH _ uJ ⟨hF.mem,hF.uL,Qh hB⟩ (by rw[KZ];exact b1) (fun j u y hu hy=>by
  rw[KY]at hy;obtain⟨a,k1,rfl⟩:=eB.1 hy;exact(b2 j u a hu k1).map gB (W4 eV k1))).mono ?_
 intro e w' h;obtain⟨v,r,B',bX,m',rfl,hK,k1,k2,_⟩:=yN (fun r B'=>K (r.map (gI aE d)) (((cT aE lN).bG d).lX (fB aE d B'))) e w' h;exact⟨v,_,_,bX,m',rfl,hK,k1,k2⟩
end
def GS (P:Program)(i:Nat)(bU:List AV)(B:List (Site×aJ))(oE:AV->List (Site×aJ)->Prop):Prop:=
 ∀(w:World) (m:Mem) (ρ:Site->Loc) (vs:Array Value),vH ρ m w B->(Le m w.mem/\nP m w/\(B.map (·.1)).Nodup)->vs.size=bU.length->(∀(j:Nat) (d:Value) (c:AV),vs[j]?=some d->bU[j]?=some c->bQ ρ m d c)->
  ∃r,w.heap[(ρ (.par i)).b]?=some (.loop r)/\vs.size=r.params.size/\RoundIn (FF none) 0 P (ρ (.par i)).b r.fn ((r.params.zip vs).foldl (fun tmps (t,a)=>tmps.setIfInBounds t a) r.tmps) r.assign r.body w (lI w m ρ B oE)
def GY (P:Program)(f:bB)(args:List bB)(K:AV->AS->Prop)(σ:AS):Prop:=
 ∃(d:Nat) (fz aE:List Site) (s:Site) (i:Nat) (B:List (Site×aJ)),(aL fz σ).o f=.nQ s/\aE[i]?=some s/\aE.Nodup/\aE.all (fun s=>!s.fP d)=true/\pD (aL fz σ) aE 0 aE=some B/\
  AV.hZ (fun x=>aE.contains x) (args.map (aL fz σ).o)=true/\
  GS P i (AV.iT (kF aE) (args.map (aL fz σ).o)) B (fun r B'=>r.dC (cA aE)=true/\(∀p∈B',cA aE p.1=true/\p.2.dC (cA aE)=true)/\
   K (r.map (gI aE d)) (((cT aE (aL fz σ)).bG d).lX (fB aE d B')))
theorem ZsR {ro:Option Nat}{n:Nat}{P:Program}{l:Nat}{f:FuncId}{tmps:Array Value}{a b:Code}{w:World}{R:Ending->World->Prop}(h:RoundIn (FF none) n P l f tmps a b w R):RoundIn (FF ro) n P l f tmps a b w R:=h
section
variable {P:Program}{N:Nat}{w0:World}{m0:Env w0}{pl:List Nat}{σ:AS}{ρ:Site->Loc}{m:Mem}{act:Act}{w:World}{o:Oper}{d:Nat}{K:AV->AS->Prop}
theorem Zr6 {v:Value}{s:Site}(h:bQ ρ m v (.nQ s)):v=.func (.yield (ρ s).b) #[] #[]:=by cases h;rfl
theorem HD {c:Call}{fo:Operand}(ho:o.op=.call c)(hc:c.callee=.value fo){l:Nat}(hv:act.eval fo=.func (.yield l) #[] #[]){r:Loop}(hr:w.heap[l]?=some (.loop r))(hs:(c.args.map act.eval).size=r.params.size):
  (execOp act.eval o).run P w=.ok (.round l r.fn ((r.params.zip (c.args.map act.eval)).foldl (fun tmps (t,a)=>tmps.setIfInBounds t a) r.tmps) r.assign r.body) w:=by
 have:=run_yield (P:=P) hr hs
 unfold execOp;simp only[ho];simp[resolve,hc,hv,Deferred.ofValue,invoke,this]
theorem ZqX {ro:Option Nat}{f:bB}{args:List bB}(hl:aZ P o.op=.call f args)(h:GY P f args K σ)(hS:Sat N w0 m0 pl σ ρ m act w){Q:Exit->Act->World->Prop} :
  o.wpIn (FF ro) 1 P act w (fun bE w'=>∃v a τ bX m',bE=act.put o.dst v/\K a τ/\Sat N w0 m0 pl τ bX m' act w'/\bQ bX m' v a) Q:=by
 obtain⟨c,fo,ho,hc,hf,ha⟩:=Pr hl;obtain⟨d,fz,aE,s,i,B,qH,hi,qE,tC,hB,eV,hC⟩:=h;obtain⟨m1,_,hF⟩:=hS.aL fz;generalize aL fz σ=lN at qH hB eV hC hF;obtain⟨q1,q2⟩:=LD ha;obtain⟨oH,gB,uJ,yN⟩:=CJ hF qE tC hB;have hv:act.eval fo=.func (.yield (ρ s).b) #[] #[]:=by
  have:=hF.aU hf
  rw[qH]at this;exact Zr6 this
 have lR:oH (.par i)=ρ s:=by
  have h1:=gB s (by simpa using dL hi);have h2:kF aE s=.par i:=by
   obtain⟨j',k1,k2⟩:=Hf (dL hi);have e:j'=i:=Qa qE k2 hi;unfold kF;rw[k1,e]
  rw[h2]at h1;exact h1
 have fI:(c.args.map act.eval).size=(args.map lN.o).length:=by simp;simpa using q1
 have lK:∀(j:Nat) (u:Value) (y:AV),(c.args.map act.eval)[j]?=some u->(args.map lN.o)[j]?=some y->bQ ρ m1 u y:=fun j u y hu hy=>by
  rw[Array.getElem?_map]at hu;obtain⟨x,k1,rfl⟩:=eB.1 hu;obtain⟨y',k2,k3⟩:=q2 j x (by simpa using k1);rw[bY,k2]at hy;cases hy;exact hF.aU k3
 obtain⟨r,hr,yM,hR⟩:=hC w m1 oH (c.args.map act.eval) uJ ⟨hF.mem,hF.uL,Qh hB⟩ (by rw[KZ];exact fI) (fun j u y hu hy=>by
  rw[KY]at hy;obtain⟨a,k1,rfl⟩:=eB.1 hy;exact(lK j u a hu k1).map gB (W4 eV k1))
 rw[lR]at hr hR;unfold Oper.wpIn;refine⟨fun _ _=>trivial,?_⟩;rw[Oper.semAt_eq _ _ _ (fun c' e=>by rw[ho]at e;cases e),HD ho hc hv hr yM,Oper.uponIn_round];refine⟨FF.one,ZsR (hR.mono ?_)⟩;intro e w' h;obtain⟨v,r,B',bX,m',rfl,hK,k1,k2,_⟩:=yN (fun r B'=>K (r.map (gI aE d)) (((cT aE lN).bG d).lX (fB aE d B'))) e w' h;exact⟨v,_,_,bX,m',rfl,hK,k1,k2⟩
end
structure LO where
 dst:Option Nat
 g:Option (Nat×Bool)
 op:lY
 lt:Bool
 deriving Inhabited
def AS.pC (d:Option Nat)(a:AV)(σ:AS):AS:=match d with
 |some d=>σ.put d a
 |none=>σ
def lZ (P:Program)(o:LO)(K:AV->AS->Prop)(σ:AS):Prop:=match o.op with
 |.call f args=>zD P f args (o.dst.getD 0) K σ\/(o.lt=true/\(GX P f args K σ\/GY P f args K σ))
 |l=>cC l (o.dst.getD 0) K σ
def A8:AV:=.pv (.bN [])
def pS (P:Program)(o:LO)(K:AS->Prop)(σ:AS):Prop:=match o.g with
 |none=>lZ P o (fun a τ=>K (τ.pC o.dst a)) σ
 |some (t,want)=>match σ.t t with
  |some (.pv (.bool b))=>if b=want then lZ P o (fun a τ=>K (τ.pC o.dst a)) σ else K (σ.pC o.dst A8)
  |some (.pv (.bN []))=>K (σ.pC o.dst A8)
  |_=>False
def oN (P:Program):List LO->(AS->Prop)->AS->Prop
 |[],K,σ=>K σ
 |o::r,K,σ=>pS P o (oN P r K) σ
def SX (ops:Array Oper)(t:Nat):Bool:=ops.any fun o=>(o.dst==some t)&&(match o.op with
 |.buildSlice _ 0 _=>true
 |_=>false)
def tF (ops:Array Oper)(l:lY):lY:=match l with
 |.app e n b (.t k) y=>if SX ops k=true then .iR e n b (.t k) y else .app e n b (.t k) y
 |.app e n b (.c x) y=>match x with
  |.emp nl=>.iR e n b (.c (.emp nl)) y
  |x=>.app e n b (.c x) y
 |l=>l
def lY.KD:lY->Bool
 |.iR _ _ _ _ _=>true
 |_=>false
theorem Qd {ops:Array Oper}{l:lY}:(tF ops l=l/\(∀e n b x y,l=.app e n b x y->True))\/∃e n b x y,l=.app e n b x y/\tF ops l=.iR e n b x y:=by
 cases l with
 |app e n b x y=>
  cases x with
  |t k=>
   unfold tF;dsimp only;split
   .exact .inr ⟨e,n,b,.t k,y,rfl,rfl⟩
   .exact .inl ⟨rfl,fun _ _ _ _ _ _=>trivial⟩
  |c x=>
   cases x with
   |emp nl=>exact .inr ⟨e,n,b,_,y,rfl,rfl⟩
   |_=>exact .inl ⟨rfl,fun _ _ _ _ _ _=>trivial⟩
 |_=>exact .inl ⟨rfl,fun _ _ _ _ _ _=>trivial⟩
def OA (N:Nat):Option Nat->Bool
 |some d=>decide (d<N)
 |none=>true
def qU (P:Program)(N:Nat)(ops:Array Oper)(lt:Bool)(o:Oper):Option LO:=
 if OA N o.dst=true then
  match o.guard with
  |none=>some ⟨o.dst,none,tF ops (aZ P o.op),lt⟩
  |some (j,want)=>match(ops[j]?).bind (·.dst)with
   |some t=>some ⟨o.dst,some (t,want),tF ops (aZ P o.op),lt⟩
   |none=>none
 else none
def lA (P:Program)(N:Nat)(ops:Array Oper):List (Bool×Oper)->Option (List LO)
 |[]=>some []
 |(lt,o)::r=>match qU P N ops lt o,lA P N ops r with
  |some a,some l=>some (a::l)
  |_,_=>none
def lY.OJ:lY->Bool
 |.call _ _=>true
 |_=>false
def xW (P:Program)(o:Oper):Bool:=(aZ P o.op).still
def Dw (P:Program)(f:FuncId):Bool:=match P.funcs[f]? with
 |some fn=>fn.params.toList.any fun t=>match P.underlying t with
  |some (.pointer _)=>true
  |_=>false
 |none=>false
def Dv (P:Program)(ops:Array Oper):lY->Bool
 |.call (.c (.fn f _ _)) _=>Dw P f
 |.call (.t _) [.t k]=>ops.any fun o=>o.dst==some k&&(match aZ P o.op with
  |.build _ _=>true
  |_=>false)
 |_=>false
def C7 (P:Program)(ops:Array Oper)(j:Nat):Bool:=(match ops[j]? with
 |some o=>Dv P ops (aZ P o.op)
 |none=>false)||(List.range ops.size).all fun i=>match ops[i]? with
 |some o=>!(aZ P o.op).GH||waits .any ops ops.size j i
 |none=>true
def R9 (P:Program)(ops:Array Oper)(j:Nat)(o:Oper):Bool:=o.op.vY||((aZ P o.op).OJ&&!C7 P ops j)||(tF ops (aZ P o.op)).KD||(aZ P o.op).still
def Nc (P:Program)(ops:Array Oper):Nat->Array Bool->List (Nat×Bool)
 |0,_=>[]
 |f+1,listed=>
  match(Region.ready .any ops listed).find? fun i=>match ops[i]? with
    |some o=>xW P o
    |none=>false with
  |some i=>(i,false)::Nc P ops f (listed.setIfInBounds i true)
  |none=>match(Region.ready .any ops listed).find? fun i=>match ops[i]? with
    |some o=>(aZ P o.op).GH&&(List.range ops.size).all fun j=>listed.getD j true||j==i||iW (R9 P ops) ops j||waits .any ops ops.size j i
    |none=>false with
   |some i=>(i,false)::Nc P ops f (listed.setIfInBounds i true)
   |none=>match Region.ready .any ops listed with
    |i::_=>(i,true)::Nc P ops f (listed.setIfInBounds i true)
    |[]=>[]
def rT (P:Program)(ops:Array Oper):List (Nat×Bool)->Bool
 |[]=>true
 |(i,false)::r=>(match ops[i]? with
   |some o=>xW P o||(aZ P o.op).GH
   |none=>false)&&rT P ops r
 |(i,true)::r=>(match ops[i]? with
   |some _=>true
   |none=>false)&&rT P ops r
def CI (P:Program)(N:Nat)(ops:Array Oper)(draw:Bool):Option (List LO):=
 if draw=true then
  let l:=Nc P ops ops.size (Array.replicate ops.size false)
  if Region.noSelect ops&&GU ops&&decide (l.length=ops.size)&&J5 .any ops (R9 P ops) (xW P) l (Array.replicate ops.size false)&&rT P ops l=true then
   lA P N ops (l.map fun p=>(C7 P ops p.1,ops.getD p.1 default))
  else none
 else lA P N ops (ops.toList.map fun o=>(true,o))
section
variable {P:Program}{N:Nat}{w0:World}{m0:Env w0}{pl:List Nat}{σ:AS}{ρ:Site->Loc}{m:Mem}{act:Act}{w:World}{o:Oper}{lo:LO}{K:AS->Prop}{ops:Array Oper}{Q:Exit->Act->World->Prop}{ro:Option Nat}
theorem FE {lt:Bool}(h:qU P N ops lt o=some lo):lo.lt=lt/\lo.dst=o.dst/\lo.op=tF ops (aZ P o.op)/\(∀d,o.dst=some d->d<N)/\((o.guard=none/\lo.g=none)\/∃j want t,o.guard=some (j,want)/\lo.g=some (t,want)/\(ops[j]?).bind (·.dst)=some t):=by
 unfold qU at h;split at h
 .rename_i hd;have JD:∀d,o.dst=some d->d<N:=fun d e=>by rw[e]at hd;simpa[OA]using hd
  split at h
  .rename_i hg;cases h;exact⟨rfl,rfl,rfl,JD,.inl ⟨hg,rfl⟩⟩
  .rename_i j want hg;split at h
   .rename_i t ht;cases h;exact⟨rfl,rfl,rfl,JD,.inr ⟨j,want,t,hg,rfl,ht⟩⟩
   .cases h
 .cases h
theorem Sat.pC (h:Sat N w0 m0 pl σ ρ m act w){d:Option Nat}(hd:∀k,d=some k->k<N){v:Value}{a:AV}(hv:bQ ρ m v a):Sat N w0 m0 pl (σ.pC d a) ρ m (act.put d v) w:=by
 cases d with
 |none=>exact h
 |some d=>exact h.put (hd d rfl) hv
theorem XH {ρ:Site->Loc}{m:Mem}:bQ ρ m undef A8:=.pv _ _ (.bN _ _ rfl (fun j d c e1 e2=>by simp at e2))
theorem Hm {lt:Bool}(hl:qU P N ops lt o=some lo)(h:pS P lo K σ)(hS:Sat N w0 m0 pl σ ρ m act w):
  (Region.wanted o (yielded ops act.tmps)=true/\lZ P lo (fun a τ=>K (τ.pC o.dst a)) σ)\/(Region.wanted o (yielded ops act.tmps)=false/\K (σ.pC o.dst A8)):=by
 obtain⟨e0,e1,e2,e3,e4⟩:=FE hl;unfold pS at h;rcases e4 with⟨hg,WC⟩|⟨j,want,t,hg,WC,ht⟩
 .rw[WC]at h;refine .inl ⟨by simp[Region.wanted,hg],?_⟩;rw[<-e1];exact h
 .rw[WC]at h;simp only at h;split at h
  .rename_i b hb;obtain⟨v,k1,k2⟩:=hS.tm t _ hb;have hv:=k2.ON;subst hv;have hy:yielded ops act.tmps j=some b:=by unfold yielded;rw[ht];simp[k1]
   have hw:Region.wanted o (yielded ops act.tmps)=decide (b=want):=by
    simp only[Region.wanted,hg,hy];cases b<;>cases want<;>rfl
   split at h
   .rename_i Dl;exact .inl ⟨by rw[hw];simpa using Dl,by rw[<-e1];exact h⟩
   .rename_i Dl;exact .inr ⟨by rw[hw];simpa using Dl,by rw[<-e1];exact h⟩
  .rename_i hb;obtain⟨v,k1,k2⟩:=hS.tm t _ hb;obtain⟨us,hv,hl,_⟩:=k2.Zxa;subst hv;have hy:yielded ops act.tmps j=none:=by unfold yielded;rw[ht];simp[k1]
   exact .inr ⟨by simp only[Region.wanted,hg,hy];rfl,by rw[<-e1];exact h⟩
  .exact h.elim
def G6 (N:Nat)(w0:World)(m0:Env w0)(pl:List Nat)(K:AS->Prop)(act:Act)(w:World):Prop:=∃τ ρ m,K τ/\Sat N w0 m0 pl τ ρ m act w
theorem Zuy {lt:Bool}(hl:qU P N ops lt o=some lo){K':AV->AS->Prop}(h:lZ P lo K' σ)(hS:Sat N w0 m0 pl σ ρ m act w):
  o.wpIn (FF ro) 1 P act w (fun bE w'=>∃v a τ bX m',bE=act.put o.dst v/\K' a τ/\Sat N w0 m0 pl τ bX m' act w'/\bQ bX m' v a/\(o.op.vY=true\/((aZ P o.op).OJ=true/\lt=false)\/(tF ops (aZ P o.op)).KD=true->Ext w w')) Q:=by
 obtain⟨e0,e1,e2,e3,e4⟩:=FE hl;unfold lZ at h;rw[e2,e1]at h;have N8:∀c,o.op≠.defer c:=fun c e=>by
  rw[e]at h;exact h.elim
 rcases Qd (ops:=ops) (l:=aZ P o.op)with⟨mK,_⟩|⟨e,n,b,x,y,H7,mK⟩
 .rw[mK]at h ⊢;split at h
  .rename_i f args hc;have Ci:o.op.vY=false:=by
    obtain⟨c,fo,ho,_⟩:=Pr hc;rw[ho];rfl
   have xN:(aZ P o.op).KD=false:=by rw[hc];rfl
   rcases h with h|⟨aI,h⟩
   .exact Oper.wpIn_mono (fun bE w' ⟨v,a,τ,bX,m',k1,k2,k3,k4,k5⟩=>⟨v,a,τ,bX,m',k1,k2,k3,k4,fun _=>k5⟩) (Zt2 hc h hS)
   .refine Oper.wpIn_mono (fun bE w' ⟨v,a,τ,bX,m',k1,k2,k3,k4⟩=>⟨v,a,τ,bX,m',k1,k2,k3,k4,fun h=>?_⟩) (h.elim (fun h=>ZqY hc h hS) (fun h=>ZqX hc h hS));rcases h with h|⟨_,h⟩|h
    .rw[Ci]at h;cases h
    .rw[e0]at aI;rw[aI]at h;cases h
    .rw[hc]at xN h;rw[xN]at h;cases h
  .rename_i hc;have M7:(aZ P o.op).OJ=false:=by
    cases hx:aZ P o.op<;>first|rfl|(exact absurd hx (hc _ _))
   have xN:(aZ P o.op).KD=false:=by
    cases hx:aZ P o.op<;>first|rfl|(exfalso;replace hx:=Zl4 hx (fun _ e=>by cases e);clear h hS hl e2 hc M7 mK;cases hop:o.op<;>rw[hop]at hx<;>(try rename_i op t x;try cases op)<;>(try rename_i fn fs cs;try cases fn)<;>simp only[nE,vX]at hx<;>repeat' (first|(cases hx;done)|split at hx))
   obtain⟨v,w',a,τ,bX,m',k1,k2,k3,k4,k5⟩:=ZpW (fun f l e=>hc f l e) h hS;have Dd:o.op.vY=true\/((aZ P o.op).OJ=true/\lt=false)\/(aZ P o.op).KD=true->Ext w w':=fun h=>by
    rcases h with h|⟨h,_⟩|h
    .exact k5 h
    .rw[M7]at h;cases h
    .rw[xN]at h;cases h
   unfold Oper.wpIn;refine⟨fun _ _=>trivial,?_⟩;rw[Oper.semAt_eq _ _ _ N8];rcases k1 with k1|⟨k1,rfl⟩
   .rw[k1,Oper.uponIn_value];exact⟨v,a,τ,bX,m',rfl,k2,k3,k4,Dd⟩
   .rw[k1,Oper.uponIn_skip];exact⟨undef,a,τ,bX,m',rfl,k2,k3,k4,Dd⟩
 .rw[mK]at h ⊢;have hE:(∃nl,σ.o x=.pv (.emp nl))/\cC (aZ P o.op) (o.dst.getD 0) K' σ:=by
   rw[H7];simp only[cC]at h ⊢;split at h
   .split at h
    .rename_i nl ex;exact⟨⟨nl,ex⟩,by rw[ex];exact h⟩
    .exact h.elim
   .exact h.elim
  obtain⟨v,w',a,τ,bX,m',k1,k2,k3,k4,k5⟩:=Zs9 H7 hE.2 hS;unfold Oper.wpIn;refine⟨fun _ _=>trivial,?_⟩;rw[Oper.semAt_eq _ _ _ N8];rcases k1 with k1|⟨k1,rfl⟩
  .rw[k1,Oper.uponIn_value];exact⟨v,a,τ,bX,m',rfl,k2,k3,k4,fun _=>k5 hE.1⟩
  .rw[k1,Oper.uponIn_skip];exact⟨undef,a,τ,bX,m',rfl,k2,k3,k4,fun _=>k5 hE.1⟩
theorem Mr {lt:Bool}(hl:qU P N ops lt o=some lo)(h:lZ P lo (fun a τ=>K (τ.pC o.dst a)) σ)(hS:Sat N w0 m0 pl σ ρ m act w):
  o.wpIn (FF ro) 1 P act w (fun bE w'=>G6 N w0 m0 pl K bE w'/\(o.op.vY=true\/((aZ P o.op).OJ=true/\lt=false)\/(tF ops (aZ P o.op)).KD=true->Ext w w')) Q:=by
 refine Oper.wpIn_mono (fun bE w' ⟨v,a,τ,bX,m',k1,k2,k3,k4,k5⟩=>?_) (Zuy hl h hS);subst k1;exact⟨⟨_,bX,m',k2,k3.pC (FE hl).2.2.2.1 k4⟩,k5⟩
theorem ZfP {rest:List Oper}{lt:Bool}(hl:qU P N ops lt o=some lo)(h:pS P lo K σ)(hS:Sat N w0 m0 pl σ ρ m act w)(hr:∀bE w',G6 N w0 m0 pl K bE w'->wpListIn (FF ro) 1 P ops Q rest bE w'):wpListIn (FF ro) 1 P ops Q (o::rest) act w:=by
 unfold wpListIn;rcases Hm hl h hS with⟨h1,h2⟩|⟨h1,h2⟩
 .rw[if_pos h1];exact Oper.wpIn_mono (fun bE w' k=>hr bE w' k.1) (Mr hl h2 hS)
 .rw[if_neg (by rw[h1];simp)];exact⟨fun _ _=>trivial,hr _ _ ⟨_,ρ,m,h2,hS.pC (FE hl).2.2.2.1 XH⟩⟩
theorem ZgD:∀(l:List Oper) (qT:List LO) {σ:AS} {ρ:Site->Loc} {m:Mem} {act:Act} {w:World},lA P N ops (l.map fun o=>(true,o))=some qT->oN P qT K σ->Sat N w0 m0 pl σ ρ m act w->(∀bE w',G6 N w0 m0 pl K bE w'->Q .normal bE w')->wpListIn (FF ro) 1 P ops Q l act w
 |[],qT,σ,ρ,m,act,w,hl,h,hS,hQ=>by
  simp[lA]at hl;subst hl;exact hQ _ _ ⟨σ,ρ,m,h,hS⟩
 |o::r,qT,σ,ρ,m,act,w,hl,h,hS,hQ=>by
  rw[iS]at hl;unfold lA at hl;split at hl
  .rename_i a l h1 h2;cases hl;exact ZfP h1 h hS (fun bE w' ⟨τ,bX,m',k1,k2⟩=>ZgD r l h2 k1 k2 hQ)
  .cases hl
theorem KW {G:World->Prop}{lt:Bool}(hl:qU P N ops lt o=some lo)(h:pS P lo K σ)(hS:Sat N w0 m0 pl σ ρ m act w)(hk:(aZ P o.op).still=true\/(aZ P o.op).GH=true/\∀w',G w'->fW σ ρ m w w'):
  ∃v,YieldsIf P ops G o v act/\G6 N w0 m0 pl K (act.put o.dst v) w/\∃τ,K τ/\τ.bx=σ.bx/\Sat N w0 m0 pl τ ρ m (act.put o.dst v) w:=by
 obtain⟨e0,e1,e2,e3,e4⟩:=FE hl;have ME:∀a,(σ.pC o.dst a).bx=σ.bx:=fun a=>by cases o.dst<;>rfl
 rcases Hm hl h hS with⟨h1,h2⟩|⟨h1,h2⟩
 .unfold lZ at h2;have mK:tF ops (aZ P o.op)=aZ P o.op:=by
   rcases Qd (ops:=ops) (l:=aZ P o.op)with⟨mK,_⟩|⟨e,n,b,x,y,H7,_⟩
   .exact mK
   .rw[H7]at hk;rcases hk with hk|⟨hk,_⟩<;>cases hk
  rw[e2,e1,mK]at h2;have hop:cC (aZ P o.op) (o.dst.getD 0) (fun a τ=>τ=σ/\K (τ.pC o.dst a)) σ\/True:=.inr trivial;split at h2
  .rename_i f args hc;rw[hc]at hk;rcases hk with hk|⟨hk,_⟩<;>cases hk
  .have hP:∃G':World->Prop,(∀w',G w'->G' w')/\dB G' P σ ρ m o act w (fun a τ=>K (τ.pC o.dst a)):=by
    rcases hk with hk|⟨hk,hG⟩
    .exact⟨G,fun _ h=>h,ZpV hk h2 hS⟩
    .refine⟨fW σ ρ m w,hG,Zs8 hk h2 hS⟩
   obtain⟨G',g1,v,a,g2,g3,g4⟩:=hP;exact⟨v,.inl ⟨h1,fun w' IB=>g2 w' (g1 w' IB)⟩,⟨_,ρ,m,g4,hS.pC e3 g3⟩,_,g4,ME a,hS.pC e3 g3⟩
 .exact⟨undef,.inr ⟨h1,rfl⟩,⟨_,ρ,m,h2,hS.pC e3 XH⟩,_,h2,ME _,hS.pC e3 XH⟩
theorem fW.Yo {w w' ZH:World}(hS:Sat N w0 m0 pl σ ρ m act w)(h:fW σ ρ m w w')(k:Ext w' ZH):fW σ ρ m w ZH:=
 ⟨h.1.trans k.le,fun s b hs hr=>by
  have h1:=h.2 s b hs hr;have aI:=hS.lt hs hr;refine(k.block _ ?_).trans h1;rcases Nat.lt_or_ge (ρ s).b w'.heap.size with h2|h2
  .exact h2
  .rw[Array.getElem?_eq_none h2,vA aI]at h1;cases h1⟩
theorem YM (lC:GU ops=true):∀(l:List (Nat×Bool)) (qT:List LO) {σ:AS} {ρ:Site->Loc} {m:Mem} {act:Act} {w:World},rT P ops l=true->lA P N ops (l.map fun p=>(C7 P ops p.1,ops.getD p.1 default))=some qT->
  oN P qT K σ->Sat N w0 m0 pl σ ρ m act w->(∀bE w',G6 N w0 m0 pl K bE w'->Q .normal bE w')->XI ro P ops Q (R9 P ops) (xW P) l act w
 |[],qT,σ,ρ,m,act,w,hk,hl,h,hS,hQ=>by
  simp[lA]at hl;subst hl;exact hQ _ _ ⟨σ,ρ,m,h,hS⟩
 |(i,b)::r,qT,σ,ρ,m,act,w,hk,hl,h,hS,hQ=>by
  simp only[iS]at hl;unfold lA at hl;split at hl
  .rename_i a l h1 h2;cases hl;cases b with
   |false=>
    simp only[rT,dK]at hk;cases ho:ops[i]? with
    |none=>rw[ho]at hk;simp at hk
    |some o=>
     rw[ho]at hk;have hg:ops.getD i default=o:=by simp[Array.getD_eq_getD_getElem?,ho]
     rw[hg]at h1;have iC:=hk.1;simp only[sD]at iC;cases bS:xW P o with
     |true=>
      obtain⟨v,k1,⟨τ,bX,m',k2,k3⟩,_⟩:=KW (G:=fun _=>True) h1 h hS (.inl bS);exact⟨o,v,fun _=>True,fun _ _ _ _=>trivial,fun _ _=>trivial,trivial,ho,k1,YM lC r l hk.2 h2 k2 k3 hQ⟩
     |false=>
      have IQ:(aZ P o.op).GH=true:=by
       rcases iC with iC|iC
       .rw[bS]at iC;cases iC
       .exact iC
      obtain⟨v,k1,⟨τ,bX,m',k2,k3⟩,_⟩:=KW (G:=fW σ ρ m w) h1 h hS (.inr ⟨IQ,fun _ h=>h⟩);exact⟨o,v,fW σ ρ m w,fun _ _ hs hx=>fW.Yo hS hs hx,(fun e=>by rw[bS]at e;cases e),.refl hS,ho,k1,YM lC r l hk.2 h2 k2 k3 hQ⟩
   |true=>
    simp only[rT,dK]at hk;cases ho:ops[i]? with
    |none=>rw[ho]at hk;simp at hk
    |some o=>
     have hg:ops.getD i default=o:=by simp[Array.getD_eq_getD_getElem?,ho]
     rw[hg]at h1;show wpOpIn (FF ro) 1 P ops Q i _ act w;unfold wpOpIn;simp only[ho];rcases Hm h1 h hS with⟨q1,q2⟩|⟨q1,q2⟩
     .rw[if_pos q1];cases bS:xW P o with
      |true=>
       obtain⟨v,k1,⟨τ,bX,m',k2,k3⟩,_⟩:=KW (G:=fun _=>True) h1 h hS (.inl bS);rcases k1 with⟨_,k1⟩|⟨k1,_⟩
       .unfold Oper.wpIn;refine⟨fun _ _=>trivial,?_⟩;rw[Oper.semAt_eq _ _ _ (YR lC ho),k1 w trivial,Oper.uponIn_value];exact⟨fun _=>Ext.tS _,YM lC r l hk.2 h2 k2 k3 hQ⟩
       .rw[k1]at q1;cases q1
      |false=>
       have K9:iW (R9 P ops) ops i=true->o.op.vY=true\/((aZ P o.op).OJ=true/\C7 P ops i=false)\/(tF ops (aZ P o.op)).KD=true:=fun tA=>by
        unfold iW at tA;rw[ho]at tA;unfold R9 at tA;unfold xW at bS;simp only[bS,Bool.or_false,sD]at tA;rcases tA with(h'|h')|h'
        .exact .inl h'
        .simp only[dK,Bool.not_eq_true']at h';exact .inr (.inl h')
        .exact .inr (.inr h')
       exact Oper.wpIn_mono (fun bE w' ⟨⟨τ,bX,m',k2,k3⟩,k4⟩=>⟨fun tA=>k4 (K9 tA),YM lC r l hk.2 h2 k2 k3 hQ⟩) (Mr h1 q2 hS)
     .rw[if_neg (by rw[q1];simp)];exact⟨fun _ _=>trivial,fun _=>Ext.tS _,YM lC r l hk.2 h2 q2 (hS.pC (FE h1).2.2.2.1 XH) hQ⟩
  .cases hl
theorem Znk {id:Nat}{draw:Bool}{qT:List LO}(hm:P.follows .mixedOrders=true)(hl:CI P N ops draw=some qT)(h:oN P qT K σ)(hS:Sat N w0 m0 pl σ ρ m act w)(hQ:∀bE w',G6 N w0 m0 pl K bE w'->Q .normal bE w')
  (hp:∀c (a:Act) (d:Tmp) (v:Value) w,Q (.panic c) (a.put (some d) v) w->Q (.panic c) a w):(Code.region id ops draw).wpIn (FF ro) 1 P Q act w:=by
 unfold CI at hl;split at hl
 .rename_i hd;subst hd;dsimp only at hl;split at hl
  .rename_i hc;simp only[dK,decide_eq_true_eq]at hc;obtain⟨⟨⟨⟨c1,Fj⟩,c2⟩,c3⟩,c4⟩:=hc;have Wq:Sat N w0 m0 pl σ ρ m act w.drew:=hS.ext (Ext.dr w);exact Zdn _ _ _ hm hp c1 Fj c2 c3 (YM Fj _ qT c4 hl h Wq hQ)
  .cases hl
 .rename_i hd
  have:draw=false:=by simpa using hd
  subst this;exact wpIn_region_list (ZgD _ qT hl h hS hQ)
end
inductive RT where
 |done
 |rd (i:Nat) (t:RT)
 |ef (i:Nat) (t alt:RT)
 |no
 |seq (t r:RT)
 deriving Inhabited
def RT.flat:RT->RT->RT
 |.done,r=>r
 |.rd i t,r=>.rd i (t.flat r)
 |.ef i t alt,r=>.ef i (t.flat r) (alt.flat r)
 |.no,_=>.no
 |.seq t u,r=>t.flat (u.flat r)
def UY (ro:Option Nat)(P:Program)(ops:Array Oper)(Q:Exit->Act->World->Prop)(soft:Nat->Oper->Bool)(still:Oper->Bool):RT->Act->World->Prop
 |.done,a,w=>Q .normal a w
 |.rd i t,a,w=>∃o v,∃S':World->Prop,(∀w w',S' w->Ext w w'->S' w')/\(still o=true->∀w,S' w)/\S' w/\ops[i]?=some o/\YieldsIf P ops S' o v a/\UY ro P ops Q soft still t (a.put o.dst v) w
 |.ef i t alt,a,w=>wpOpIn (FF ro) 1 P ops Q i (fun a' w'=>(iW soft ops i=true->Ext w w')/\UY ro P ops Q soft still t a' w') a w/\UY ro P ops Q soft still alt a w
 |.no,_,_=>True
 |.seq _ _,_,_=>False
def rQ (md:Region.Mode)(ops:Array Oper)(soft:Nat->Oper->Bool)(still:Oper->Bool):RT->Nat->Array Bool->Option (List Nat)->Bool
 |.done,_,listed,none=>(Region.ready md ops listed).isEmpty
 |.rd i t,n+1,listed,none=>(Region.ready md ops listed).contains i&&Region.free md ops listed i&&
   ((match ops[i]? with|some o=>still o|none=>false)||(List.range ops.size).all fun j=>listed.getD j true||j==i||iW soft ops j||waits md ops ops.size j i)&&rQ md ops soft still t n (listed.setIfInBounds i true) none
 |.ef i t alt,n+1,listed,rem=>match rem.getD (Region.ready md ops listed)with
  |j::r=>j==i&&rQ md ops soft still t n (listed.setIfInBounds i true) none&&rQ md ops soft still alt (n+1) listed (some r)
  |[]=>false
 |.no,_,_,some []=>true
 |_,_,_,_=>false
section
variable {P:Program}{ops:Array Oper}{Q:Exit->Act->World->Prop}{md:Region.Mode}{ro:Option Nat}{soft:Nat->Oper->Bool}{still:Oper->Bool}
theorem Zgr (hs:Region.noSelect ops=true)(N8:GU ops=true)(hQ:∀c (a:Act) (d:Tmp) (v:Value) w,Q (.panic c) (a.put (some d) v) w->Q (.panic c) a w):∀(T:RT) (n:Nat) (listed:Array Bool) (rem:Option (List Nat)) (a:Act) (w:World),listed.size=ops.size->Down md ops listed->
  (∀r,rem=some r->∀i∈r,i∈Region.ready md ops listed)->rQ md ops soft still T n listed rem=true->UY ro P ops Q soft still T a w->
  match rem with
  |none=>KO ro P md ops Q soft n listed a w
  |some r=>∃n',(r=[]\/n=n'+1)/\∀i∈r,wpOpIn (FF ro) 1 P ops Q i (fun a' w'=>(iW soft ops i=true->Ext w w')/\KO ro P md ops Q soft n' (listed.setIfInBounds i true) a' w') a w:=by
 intro T;induction T with
 |done=>
  intro n listed rem a w fI hD CX hB h;cases rem with
  |some r=>simp[rQ]at hB
  |none=>
   have hr:Region.ready md ops listed=[]:=by simpa[rQ]using hB
   cases n with
   |zero=>exact⟨hr,h⟩
   |succ n=>exact⟨fun _=>h,fun i hi=>by rw[hr]at hi;cases hi⟩
 |rd i t ih=>
  intro n listed rem a w fI hD CX hB h;cases rem with
  |some r=>cases n<;>simp[rQ]at hB
  |none=>
   cases n with
   |zero=>simp[rQ]at hB
   |succ n=>
    simp only[rQ,dK]at hB;obtain⟨o,v,S',hx,bS,Wn,ho,hy,h'⟩:=h;have hr:i∈Region.ready md ops listed:=by simpa using hB.1.1.1
    have EA:=hB.1.2;rw[ho]at EA;simp only[sD]at EA;exact ZeM hx ho (Region.noSelect_spec hs) N8 (fun c a w k=>by
     cases hd:o.dst with
     |none=>rw[hd]at k;exact k
     |some d=>rw[hd]at k;exact hQ c a d v w k) n listed a w hD (by
     rcases EA with h1|h1
     .exact .inl (bS h1)
     .refine .inr (fun j hj zU CW=>?_);have aI:j<ops.size:=by
       rcases Nat.lt_or_ge j listed.size with h2|h2
       .omega
       .simp[Array.getElem?_eq_none h2]at hj
      have:=rM.1 h1 j (List.mem_range.2 aI)
      simp only[sD,beq_iff_eq]at this;rcases this with((h3|h3)|h3)|h3
      .rw[hj]at h3;cases h3
      .exact absurd h3 zU
      .rw[CW]at h3;cases h3
      .exact h3) (Region.free_spec ho hB.1.1.2) hr hy Wn (ih n _ none _ _ (by simpa using fI) (hD.set hr) (fun r e=>by cases e) hB.2 h')
 |ef i t alt iht T0=>
  intro n listed rem a w fI hD CX hB h;cases n with
  |zero=>cases rem<;>simp[rQ]at hB
  |succ n=>
   simp only[rQ]at hB;split at hB
   .rename_i j r hj;simp only[dK,beq_iff_eq]at hB;obtain⟨⟨rfl,Eh⟩,EA⟩:=hB;have eV:∀k∈j::r,k∈Region.ready md ops listed:=by
     cases rem with
     |none=>rw[show Option.getD none (Region.ready md ops listed)=Region.ready md ops listed from rfl]at hj;rw[hj];exact fun k hk=>hk
     |some r'=>rw[show Option.getD (some r') (Region.ready md ops listed)=r' from rfl]at hj;rw[<-hj];exact CX r' rfl
    have hr:j∈Region.ready md ops listed:=eV j (by simp);obtain⟨n',h1,h2⟩:=T0 (n+1) listed (some r) a w fI hD (fun r' e k hk=>by cases e;exact eV k (by simp[hk])) EA h.2;have r7:wpOpIn (FF ro) 1 P ops Q j (fun a' w'=>(iW soft ops j=true->Ext w w')/\KO ro P md ops Q soft n (listed.setIfInBounds j true) a' w') a w:=
     wpOpIn_mono (fun a' w' k=>⟨k.1,iht n _ none _ _ (by simpa using fI) (hD.set hr) (fun r e=>by cases e) Eh k.2⟩) h.1
    have NA:∀k∈j::r,wpOpIn (FF ro) 1 P ops Q k (fun a' w'=>(iW soft ops k=true->Ext w w')/\KO ro P md ops Q soft n (listed.setIfInBounds k true) a' w') a w:=fun k hk=>by
     rcases jT.1 hk with rfl|hk
     .exact r7
     .rcases h1 with h1|h1
      .rw[h1]at hk;cases hk
      .have:n'=n:=by omega
       rw[<-this];exact h2 k hk
    cases rem with
    |none=>
     rw[show Option.getD none (Region.ready md ops listed)=Region.ready md ops listed from rfl]at hj;exact⟨fun e=>(by rw[hj]at e;cases e),fun k hk=>NA k (by rw[<-hj];exact hk)⟩
    |some r'=>
     rw[show Option.getD (some r') (Region.ready md ops listed)=r' from rfl]at hj;subst hj;exact⟨n,.inr rfl,NA⟩
   .cases hB
 |no=>
  intro n listed rem a w fI hD CX hB h;cases rem with
  |none=>cases n<;>simp[rQ]at hB
  |some r=>
   cases r with
   |nil=>exact⟨0,.inl rfl,fun i hi=>by cases hi⟩
   |cons x r=>cases n<;>simp[rQ]at hB
 |seq t r _ _=>intro n listed rem a w fI hD CX hB h;exact h.elim
inductive LT where
 |done
 |op (o:LO) (t:LT)
 |alt (o:LO) (t r:LT)
 |no
 |seq (t r:LT)
 deriving Inhabited
def FH (τ σ:AS):Prop:=(∀t a,τ.t t=some a->σ.t t=some a)/\∀s b,τ.b s=some b->σ.b s=some b
def Sub (τ σ:AS):Prop:=∀(N:Nat) (w0:World) (m0:Env w0) (pl:List Nat) (ρ:Site->Loc) (m:Mem) (act:Act) (w:World),Sat N w0 m0 pl σ ρ m act w->∃bX m',Sat N w0 m0 pl τ bX m' act w
theorem FH.sub {τ σ:AS}(h:FH τ σ):Sub τ σ:=fun _ _ _ _ ρ m _ _ hS=>⟨ρ,m,hS.Zyb (fun t a k=>.inl (h.1 t a k)) h.2⟩
theorem Sub.Zx4 (σ:AS):Sub σ σ:=fun _ _ _ _ ρ m _ _ hS=>⟨ρ,m,hS⟩
theorem Sub.trans' {a b c:AS}(h:Sub a b)(k:Sub b c):Sub a c:=fun N w0 m0 pl ρ m act w hS=>let ⟨bX,m',h1⟩:=k N w0 m0 pl ρ m act w hS;h N w0 m0 pl bX m' act w h1
def vS (P:Program):LT->(AS->Prop)->AS->Prop
 |.done,K,σ=>K σ
 |.op o t,K,σ=>pS P o (vS P t K) σ
 |.alt o t r,K,σ=>pS P o (vS P t K) σ/\vS P r K σ
 |.no,_,_=>True
 |.seq t r,K,σ=>∃J:AS->Prop,vS P t (fun zI=>∃τ,Sub τ zI/\J τ) σ/\∀τ,J τ->vS P r K τ
def wD (P:Program)(N:Nat)(ops:Array Oper):RT->Option LT
 |.done=>some .done
 |.rd i t=>match ops[i]?,wD P N ops t with
  |some o,some t'=>if(xW P o||(aZ P o.op).GH)=true then(qU P N ops (C7 P ops i) o).map (.op · t')else none
  |_,_=>none
 |.ef i t alt=>match ops[i]?,wD P N ops t,wD P N ops alt with
  |some o,some t',some r'=>(qU P N ops (C7 P ops i) o).map (.alt · t' r')
  |_,_,_=>none
 |.no=>some .no
 |.seq t r=>match wD P N ops t,wD P N ops r with
  |some t',some r'=>some (.seq t' r')
  |_,_=>none
def hoist (P:Program)(ops:Array Oper)(listed:Array Bool):Option Nat:=
 match(Region.ready .any ops listed).find? fun i=>match ops[i]? with
   |some o=>xW P o
   |none=>false with
 |some i=>some i
 |none=>(Region.ready .any ops listed).find? fun i=>match ops[i]? with
   |some o=>(aZ P o.op).GH&&(List.range ops.size).all fun j=>listed.getD j true||j==i||iW (R9 P ops) ops j||waits .any ops ops.size j i
   |none=>false
def Zp (P:Program)(ops:Array Oper):Nat->Array Bool->List Nat->RT
 |0,_,_=>.done
 |f+1,listed,S=>if S.all (fun i=>listed.getD i true)then .done else match hoist P ops listed with
  |some i=>.rd i (Zp P ops f (listed.setIfInBounds i true) S)
  |none=>(Region.ready .any ops listed).foldr (fun i alt=>.ef i (Zp P ops f (listed.setIfInBounds i true) S) alt) .no
def JV (ops:Array Oper)(listed:Array Bool):List Nat:=
 let un:=(List.range ops.size).filter fun i=>!listed.getD i true
 match un.find? fun b=>un.any (fun i=>waits .any ops ops.size b i)&&un.all fun i=>i==b||waits .any ops ops.size b i||waits .any ops ops.size i b with
 |some b=>un.filter fun i=>waits .any ops ops.size b i
 |none=>un
def c8 (P:Program)(ops:Array Oper):Nat->Array Bool->RT
 |0,_=>.done
 |f+1,listed=>match hoist P ops listed with
  |some i=>.rd i (c8 P ops f (listed.setIfInBounds i true))
  |none=>match Region.ready .any ops listed with
   |[]=>.done
   |[i]=>.ef i (c8 P ops f (listed.setIfInBounds i true)) .no
   |_=>
    let S:=JV ops listed
    .seq (Zp P ops ops.size listed S) (c8 P ops f (S.foldl (fun l i=>l.setIfInBounds i true) listed))
def CH (P:Program)(N:Nat)(ops:Array Oper):Option LT:=
 let T:=c8 P ops (ops.size+1) (Array.replicate ops.size false)
 if(Region.noSelect ops&&GU ops&&rQ .any ops (R9 P ops) (xW P) (T.flat .done) ops.size (Array.replicate ops.size false) none)=true then wD P N ops T else none
end
section
variable {P:Program}{N:Nat}{w0:World}{m0:Env w0}{pl:List Nat}{σ:AS}{ρ:Site->Loc}{m:Mem}{act:Act}{w:World}{ops:Array Oper}{Q:Exit->Act->World->Prop}{ro:Option Nat}
theorem LI (lC:GU ops=true):∀(T:RT) (T':LT) (rest:RT) {J:AS->Prop} {σ:AS} {ρ:Site->Loc} {m:Mem} {act:Act} {w:World},wD P N ops T=some T'->vS P T' J σ->Sat N w0 m0 pl σ ρ m act w->
  (∀bE w',G6 N w0 m0 pl J bE w'->UY ro P ops Q (R9 P ops) (xW P) rest bE w')->UY ro P ops Q (R9 P ops) (xW P) (T.flat rest) act w
 |.done,T',rest,J,σ,ρ,m,act,w,hl,h,hS,hQ=>by
  simp[wD]at hl;subst hl;exact hQ _ _ ⟨σ,ρ,m,h,hS⟩
 |.no,T',rest,J,σ,ρ,m,act,w,hl,h,hS,hQ=>trivial
 |.seq t u,T',rest,J,σ,ρ,m,act,w,hl,h,hS,hQ=>by
  simp only[wD]at hl;split at hl
  .rename_i t' r' h1 h2;cases hl;obtain⟨J',h3,h4⟩:=h;exact LI lC t t' (u.flat rest) h1 h3 hS (fun bE w' ⟨τ,bX,m',⟨S3,k0,k1⟩,k2⟩=>let ⟨PH,m2,k3⟩:=k0 _ _ _ _ _ _ _ _ k2;LI lC u r' rest h2 (h4 S3 k1) k3 hQ)
  .cases hl
 |.rd i t,T',rest,J,σ,ρ,m,act,w,hl,h,hS,hQ=>by
  simp only[wD]at hl;split at hl
  .rename_i o t' ho h2;split at hl
   .rename_i iC;obtain⟨lo,h1,rfl⟩:=eB.1 hl;simp only[sD]at iC;cases bS:xW P o with
    |true=>
     obtain⟨v,k1,⟨τ,bX,m',k2,k3⟩,_⟩:=KW (G:=fun _=>True) h1 h hS (.inl bS);exact⟨o,v,fun _=>True,fun _ _ _ _=>trivial,fun _ _=>trivial,trivial,ho,k1,LI lC t t' rest h2 k2 k3 hQ⟩
    |false=>
     have IQ:(aZ P o.op).GH=true:=by
      rcases iC with iC|iC
      .rw[bS]at iC;cases iC
      .exact iC
     obtain⟨v,k1,⟨τ,bX,m',k2,k3⟩,_⟩:=KW (G:=fW σ ρ m w) h1 h hS (.inr ⟨IQ,fun _ h=>h⟩);exact⟨o,v,fW σ ρ m w,fun _ _ hs hx=>fW.Yo hS hs hx,(fun e=>by rw[bS]at e;cases e),.refl hS,ho,k1,LI lC t t' rest h2 k2 k3 hQ⟩
   .cases hl
  .cases hl
 |.ef i t alt,T',rest,J,σ,ρ,m,act,w,hl,h,hS,hQ=>by
  simp only[wD]at hl;split at hl
  .rename_i o t' r' ho h2 h3;obtain⟨lo,h1,rfl⟩:=eB.1 hl;obtain⟨ha,hb⟩:=h;refine⟨?_,LI lC alt r' rest h3 hb hS hQ⟩;show wpOpIn (FF ro) 1 P ops Q i _ act w;unfold wpOpIn;simp only[ho];rcases Hm h1 ha hS with⟨q1,q2⟩|⟨q1,q2⟩
   .rw[if_pos q1];cases bS:xW P o with
    |true=>
     obtain⟨v,k1,⟨τ,bX,m',k2,k3⟩,_⟩:=KW (G:=fun _=>True) h1 ha hS (.inl bS);rcases k1 with⟨_,k1⟩|⟨k1,_⟩
     .unfold Oper.wpIn;refine⟨fun _ _=>trivial,?_⟩;rw[Oper.semAt_eq _ _ _ (YR lC ho),k1 w trivial,Oper.uponIn_value];exact⟨fun _=>Ext.tS _,LI lC t t' rest h2 k2 k3 hQ⟩
     .rw[k1]at q1;cases q1
    |false=>
     have K9:iW (R9 P ops) ops i=true->o.op.vY=true\/((aZ P o.op).OJ=true/\C7 P ops i=false)\/(tF ops (aZ P o.op)).KD=true:=fun tA=>by
      unfold iW at tA;rw[ho]at tA;unfold R9 at tA;unfold xW at bS;simp only[bS,Bool.or_false,sD]at tA;rcases tA with(h'|h')|h'
      .exact .inl h'
      .simp only[dK,Bool.not_eq_true']at h';exact .inr (.inl h')
      .exact .inr (.inr h')
     exact Oper.wpIn_mono (fun bE w' ⟨⟨τ,bX,m',k2,k3⟩,k4⟩=>⟨fun tA=>k4 (K9 tA),LI lC t t' rest h2 k2 k3 hQ⟩) (Mr h1 q2 hS)
   .rw[if_neg (by rw[q1];simp)];exact⟨fun _ _=>trivial,fun _=>Ext.tS _,LI lC t t' rest h2 q2 (hS.pC (FE h1).2.2.2.1 XH) hQ⟩
  .cases hl
theorem Znl {id:Nat}{K:AS->Prop}{T':LT}(hm:P.follows .mixedOrders=true)(hl:CH P N ops=some T')(h:vS P T' K σ)(hS:Sat N w0 m0 pl σ ρ m act w)(hQ:∀bE w',G6 N w0 m0 pl K bE w'->Q .normal bE w')
  (hp:∀c (a:Act) (d:Tmp) (v:Value) w,Q (.panic c) (a.put (some d) v) w->Q (.panic c) a w):(Code.region id ops true).wpIn (FF ro) 1 P Q act w:=by
 unfold CH at hl;dsimp only at hl;split at hl
 .rename_i hc;simp only[dK]at hc;obtain⟨⟨c1,c2⟩,c3⟩:=hc;refine wpIn_region_any hm (Zek (soft:=R9 P ops) _ _ _ _ ?_);exact Zgr (soft:=R9 P ops) (still:=xW P) c1 c2 hp _ _ _ none _ _ (by simp) (Down.start _) (fun r e=>by cases e) c3 (LI c2 _ T' .done hl h (hS.ext (Ext.dr w)) hQ)
 .cases hl
end
inductive bH where
 |skip
 |region (ops:List LO)
 |seq (a b:bH)
 |cond (c:bB) (a b:bH)
 |block (id:Nat) (c:bH)
 |loop (c:bH)
 |exit (id:Nat)
 |ret
 |jA (t:LT)
 |vM (nt:Nat) (g:bB) (C:Code×Code) (la lb:bH) (ps:List Nat)
 deriving Inhabited
def dQ (P:Program)(N:Nat):Code->Option bH
 |.skip=>some .skip
 |.region _ ops draw=>match CI P N ops draw with
  |some l=>some (.region l)
  |none=>if draw=true then(CH P N ops).map .jA else none
 |.seq a b=>match dQ P N a,dQ P N b with
  |some x,some y=>some (.seq x y)
  |_,_=>none
 |.cond c a b=>match aU c,dQ P N a,dQ P N b with
  |some c,some x,some y=>some (.cond c x y)
  |_,_,_=>none
 |.block id c=>(dQ P N c).map (.block id)
 |.loop c=>(dQ P N c).map .loop
 |.exit id=>some (.exit id)
 |.ret=>some .ret
 |.scope c=>dQ P N c
 |.label _=>some .skip
 |.rangeFunc g ps a b=>match aU g,dQ P N a,dQ P N b with
  |some g,some la,some lb=>some (.vM N g (a,b) la lb ps.toList)
  |_,_,_=>none
 |_=>none
inductive sK where
 |normal
 |exit (id:Nat)
 |ret
 deriving DecidableEq
def iV (K:AS->Prop)(Q:sK->AS->Prop):sK->AS->Prop
 |.normal,σ=>K σ
 |e,σ=>Q e σ
def j9 (id:Nat)(Q:sK->AS->Prop):sK->AS->Prop
 |.exit MS,σ=>if MS=id then Q .normal σ else Q (.exit MS) σ
 |e,σ=>Q e σ
def lB (Q:sK->AS->Prop):Option Code->AS->Prop
 |none,σ=>Q .normal σ
 |some .ret,σ=>Q .ret σ
 |some (.exit id),σ=>Q (.exit id) σ
 |_,_=>False
def ZuA (P:Program)(nt:Nat)(g:bB)(C:Code×Code)(ps:List Nat)(Q:sK->AS->Prop)(σ:AS):Prop:=
 ∃(fz aE:List Site) (tm:List (Nat×AV)) (lN:AS) (gf:FuncId) (fs cs:List AV) (B:List (Site×aJ)),
  (∀t a,tm.lookup t=some a->((aL fz σ).bG nt).t t=some a)/\lN=((aL fz σ).bG nt).add (.loc nt 0) (.loop C ps nt tm none)/\
  (lN.o g=.fn gf fs cs\/∃tP iM,lN.o g=.pv (.fn gf tP iM)/\fs=tP.map .pv/\cs=iM.map .pv)/\aE.Nodup/\aE.all (fun s=>!s.fP (nt+1))=true/\pD lN aE 0 aE=some B/\
  AV.hZ (fun x=>aE.contains x) (fs++[.nQ (.loc nt 0)]++cs)=true/\
  cU P gf (AV.iT (kF aE) (fs++[.nQ (.loc nt 0)]++cs)) B (fun r B'=>r.dC (cA aE)=true/\(∀p∈B',cA aE p.1=true/\p.2.dC (cA aE)=true)/\
   match(((cT aE lN).bG (nt+1)).lX (fB aE (nt+1) B')).b (.loc nt 0)with
   |some (.loop _ _ _ _ st)=>lB Q st ((((cT aE lN).bG (nt+1)).lX (fB aE (nt+1) B')).drop (.loc nt 0))
   |_=>False)
def J6 (P:Program)(nt:Nat)(g:bB)(C:Code×Code)(ps:List Nat)(Q:sK->AS->Prop)(σ:AS):Prop:=∃τ,Sub τ σ/\ZuA P nt g C ps Q τ
def uO (P:Program):bH->(sK->AS->Prop)->AS->Prop
 |.skip,Q,σ=>Q .normal σ
 |.region ops,Q,σ=>oN P ops (Q .normal) σ
 |.jA t,Q,σ=>vS P t (Q .normal) σ
 |.seq a b,Q,σ=>uO P a (iV (uO P b Q) Q) σ
 |.cond c a b,Q,σ=>match σ.o c with
  |.pv (.bool t)=>if t=true then uO P a Q σ else uO P b Q σ
  |_=>False
 |.block id c,Q,σ=>uO P c (j9 id Q) σ
 |.loop c,Q,σ=>∃(I:Nat->AS->Prop) (n:Nat) (τ:AS),Sub τ σ/\I n τ/\∀n τ,I n τ->uO P c (iV (fun zI=>∃k S3,k<n/\Sub S3 zI/\I k S3) Q) τ
 |.exit id,Q,σ=>Q (.exit id) σ
 |.ret,Q,σ=>Q .ret σ
 |.vM nt g C _ _ ps,Q,σ=>J6 P nt g C ps Q σ
section
variable {P:Program}{N:Nat}{w0:World}{m0:Env w0}{pl:List Nat}{σ:AS}{ρ:Site->Loc}{m:Mem}{act:Act}{w:World}
def oE (N:Nat)(w0:World)(m0:Env w0)(pl:List Nat)(Q:sK->AS->Prop):Exit->Act->World->Prop
 |.normal,a,w=>G6 N w0 m0 pl (Q .normal) a w
 |.exit id,a,w=>G6 N w0 m0 pl (Q (.exit id)) a w
 |.ret,a,w=>G6 N w0 m0 pl (Q .ret) a w
 |_,_,_=>False
theorem YQ {b:Frame}{a:Act}{k:List Item}{cs:List Frame}{c:Code}:step P (lone (b.atR a (.code (.scope c)::k)) cs w)=.next (lone (b.atR a (.code c::.inScope c::k)) cs w):=
 step_lone_go (by simp[stepG,stepG.exec,Frame.atR])
theorem Zhe {b:Frame}{a:Act}{k:List Item}{cs:List Frame}{c:Code}:step P (lone (b.atR a (.inScope c::k)) cs w)=.next (lone (b.atR a k) cs w):=
 step_lone_go (by simp[stepG,stepG.exec,Frame.atR])
theorem ZbX {F:Fence}{n:Nat}{a:Act}{Q:Exit->Act->World->Prop}{c:Code}(h:c.wpIn F n P (Exit.noGoto Q) a w):(Code.scope c).wpIn F n P Q a w:=by
 intro b k cs QS hb hr;have h0:(lone (b.atR a (.code (.scope c)::k)) cs w).fenced P F:=fenced_calm hb hr rfl;obtain⟨e,EL,BN,hq,u0⟩:=h b (.inScope c::k) cs QS hb hr;cases e with
 |normal=>exact⟨.normal,EL,BN,hq,.head h0 YQ (StepsIn.trans u0 (.one (fenced_calm hb hr rfl) Zhe))⟩
 |exit id=>
  have hx:exitTo id (.inScope c::k)=exitTo id k:=by simp[exitTo]
  exact⟨_,EL,BN,hq,fun k' hk=>.head h0 YQ (u0.1 k' (by rw[hx];exact hk)),
   fun wI hk=>let ⟨k₁,h1,h2⟩:=u0.2 wI (by rw[hx];exact hk);⟨k₁,h1,.head h0 YQ h2⟩⟩
 |goto l=>exact hq.elim
 |ret=>exact⟨_,EL,BN,hq,.of_steps (.one h0 YQ) u0⟩
 |panic ch=>exact⟨_,EL,BN,hq,.of_steps (.one h0 YQ) u0⟩
 |outgrown=>exact⟨_,EL,BN,hq,.of_steps (.one h0 YQ) u0⟩
def kL:Code->Bool
 |.seq a b=>kL a&&kL b
 |.cond _ a b=>kL a&&kL b
 |.block _ c=>kL c
 |.loop c=>kL c
 |.scope c=>kL c
 |.rangeFunc _ _ _ _=>false
 |_=>true
theorem Oy {a b:Code}(h:kL (.seq a b)=true):kL a=true/\kL b=true:=by simpa[kL]using h
theorem Px {c:Operand}{a b:Code}(h:kL (.cond c a b)=true):kL a=true/\kL b=true:=by simpa[kL]using h
theorem ZnV {g:Operand}{ps:Array Tmp}{a b:Code}{t:Bool}(h:t=true->kL (.rangeFunc g ps a b)=true):t=false:=by
 cases t with
 |false=>rfl
 |true=>have:=h rfl;simp[kL]at this
def Gq (ro:Option Nat)(w0:World)(pl:List Nat):Prop:=∀l,ro=some l->(∃r,w0.heap[l]?=some (.loop r))/\l∉pl
theorem Jb (w:World)(l:Nat)(o:Obj):cY [l] w (w.putObj l o):=⟨rfl,rfl,rfl,by simp,fun k hk hn=>World.putObj_heap_other (by simpa using hn)⟩
theorem Zil {ro:Option Nat}(QS:Gq ro w0 pl){g:Operand}{ps:Array Tmp}{a b:Code}{g':bB}(hg:aU g=some g'){Q:sK->AS->Prop}(h:J6 P N g' (a,b) ps.toList Q σ)(hS:Sat N w0 m0 pl σ ρ m act w)(tA:m0.strict=false):
  (Code.rangeFunc g ps a b).wpIn (FF ro) 1 P (oE N w0 m0 pl Q) act w:=by
 obtain⟨σ,kM,fz,aE,tm,lN,gf,fs,cs,B,AG,Sr,qH,qE,tC,hB,eV,hC⟩:=h;obtain⟨ρ,m,hS⟩:=kM _ _ _ _ _ _ _ _ hS;obtain⟨m1,_,hF0⟩:=hS.aL fz;have NV:=hF0.bG N;have hND:=rG.bG N (aL fz σ);refine wpIn_rangeFunc (fun fn _=>?_);obtain⟨l,mark,w1,ds,U4,hmk,s7,RY,Z1,pG,DW,M8⟩:∃(l:Nat) (mark:List Deferred) (w1:World) (ds:List Nat),(Instr.enterLoop fn act.tmps ps a b (FF ro).round).run P w=.ok (l,mark) w1/\mark=ds.map XM/\ds.Nodup/\
   (∀D∈ds,w.heap.size<=D/\w1.heap[D]?=some (.deferred (some [])))/\Ext w w1/\w.heap.size<=l/\(∃r:Loop,w1.heap[l]?=some (.loop r)/\r.state=.ready/\r.pending=none/\r.params=ps/\r.assign=a/\r.body=b/\r.tmps=act.tmps)/\True:=by
  cases ro with
  |none=>
   refine⟨_,_,_,[w.heap.size],run_enterLoop_outer _ _ _ _ _,rfl,by simp,fun D hD=>?_,(Ext.al w _).trans' (Ext.al _ _),by omega,⟨{ state:=.ready,pending:=none,fn,tmps:=act.tmps,params:=ps,assign:=a,body:=b,defers:=w.heap.size },?_,rfl,rfl,rfl,rfl,rfl,rfl⟩,trivial⟩
   .simp at hD;subst hD;refine⟨fH _,?_⟩;exact(Below.heap_alloc _ _ _ (by simp)).trans (World.alloc_heap_new w _)
   .have:=World.alloc_heap_new (w.alloc (.deferred (some []))) (.loop { state:=.ready,pending:=none,fn,tmps:=act.tmps,params:=ps,assign:=a,body:=b,defers:=w.heap.size })
    rwa [World.size_alloc]at this
  |some l0=>
   obtain⟨⟨r0,FR⟩,AJ⟩:=QS l0 rfl;have D9:w.heap[l0]?=some (.loop r0):=(hS.keep.block l0 (qL.1 FR).1 AJ).trans FR;refine⟨_,_,_,[],run_enterLoop_inner D9 _ _ _ _ _,rfl,by simp,(fun D hD=>by cases hD),Ext.al w _,fH _,⟨{ state:=.ready,pending:=none,fn,tmps:=act.tmps,params:=ps,assign:=a,body:=b,defers:=r0.defers },World.alloc_heap_new w _,rfl,rfl,rfl,rfl,rfl,rfl⟩,trivial⟩
 obtain⟨r,D9,D8,Z7,hr4,hr5,VY,hr7⟩:=DW
 let yY:Act:={ act with defers:=mark++act.defers }
 have hF2:Sat N w0 m0 pl ((aL fz σ).bG N) ρ m1 yY w1:=by
  have k:=NV.ext Z1;obtain⟨Xn,⟨d1,d2,g3,g1⟩,g0,FZ⟩:=NV.sM;have g2:∀D∈Xn,(w0.heap.size<=D\/D∈pl)/\w1.heap[D]?=some (.deferred (some [])):=fun D hD=>⟨(FZ D hD).1,by rw[Z1.block _ (qL.1 (FZ D hD).2).1];exact(FZ D hD).2⟩
  exact⟨⟨ds++Xn,⟨ds++d1,d2,by rw[g3,I3],by show mark++act.defers=_;rw[hmk,g1,mL];simp only[I3]⟩,⟨List.nodup_append.2 ⟨s7,g0.1,fun a ha b hb e=>by
   have h1:=(RY a ha).1;have h2:=(qL.1 (FZ b hb).2).1
   omega⟩,fun e=>by rw[tA]at e;cases e⟩,fun D hD=>by
   rcases sS.1 hD with hD|hD
   .exact⟨.inl (lM hS.keep.size (RY D hD).1),(RY D hD).2⟩
   .exact g2 D hD⟩,k.sz,k.tm,k.bx,k.eA,k.mem,k.eQ,k.fM,k.keep,k.base,k.qJ,k.par⟩
 have K4:=Mx ρ N 0 ⟨l,0,0,true⟩;have Ef:Sat N w0 m0 pl lN (iQ ρ (.loc N 0) ⟨l,0,0,true⟩) m1 yY w1:=by
  rw[Sr];refine hF2.add hND (l:=⟨l,0,0,true⟩) ⟨by rw[S0],r,by rw[S0];exact D9,D8,Z7,by rw[hr4],hr5,VY,by rw[hr7];exact NV.sz,fun t c k=>?_⟩ (fun _ s b k rr=>?_) (fun _ o=>?_) (fun _=>.inl (lM hS.keep.size pG))
  .obtain⟨v,k1,k2⟩:=NV.tm t c (AG t c k);exact⟨v,by rw[hr7];exact k1,k2.mono (Le.refl _) K4 (hND.t t c (AG t c k))⟩
  .have:=NV.G8 k (((NV.bx s b k).dS (fun r=>Z1.block _ (NV.lt k r))).1 rr)
   have e':l<w.heap.size:=this;omega
  .exact NV.Ga pG o
 generalize Ss:iQ ρ (.loc N 0) ⟨l,0,0,true⟩=pE at Ef;have DD:pE (.loc N 0)=⟨l,0,0,true⟩:=by rw[<-Ss,S0]
 obtain⟨oH,gB,uJ,yN⟩:=CJ Ef qE tC hB;have s6:∃vf vc:Array Value,act.eval g=.func (.func gf) vf vc/\vf.size=fs.length/\vc.size=cs.length/\(∀(j:Nat) (d:Value) (c:AV),vf[j]?=some d->fs[j]?=some c->bQ pE m1 d c)/\(∀(j:Nat) (d:Value) (c:AV),vc[j]?=some d->cs[j]?=some c->bQ pE m1 d c):=by
  have h1:=Ef.aU hg;have e0:yY.eval g=act.eval g:=by cases g<;>rfl
  rw[e0]at h1;rcases qH with qH|⟨tP,iM,qH,rfl,rfl⟩
  .rw[qH]at h1;exact Ni h1
  .rw[qH]at h1;obtain⟨vf,vc,e1,e2,e3,e4,e5⟩:=Gg h1.nN;refine⟨vf,vc,e1,by simpa using e2,by simpa using e3,fun j d c k1 k2=>?_,fun j d c k1 k2=>?_⟩
   .rw[bY]at k2;obtain⟨x,k3,rfl⟩:=eB.1 k2;exact .pv _ _ (e4 j d x k1 k3)
   .rw[bY]at k2;obtain⟨x,k3,rfl⟩:=eB.1 k2;exact .pv _ _ (e5 j d x k1 k3)
 obtain⟨vf,vc,hv,f1,f2,f3,f4⟩:=s6;obtain⟨b1,b2⟩:=Zh3 (ρ:=pE) (m:=m1) (va:=#[Value.func (.yield l) #[] #[]]) (xs:=[AV.nQ (.loc N 0)]) f1 rfl f2 f3 (fun j u y hu hy=>by
  cases j with
  |zero=>
   simp at hu hy;subst hu hy
   have:=bQ.nQ (ρ:=pE) (m:=m1) (.loc N 0)
   rwa [DD]at this
  |succ j=>simp at hu) f4
 obtain⟨gfn,gcode,g1,g2,g3⟩:=hC.1;have FZ : ¬ gfn.name = "runtime.NumGoroutine" := by simpa using g2
 refine⟨l,mark,w1,{ target:=.fn (.func gf) vc,args:=vf++#[Value.func (.yield l) #[] #[]]},w1,gf,vf++#[Value.func (.yield l) #[] #[]]++vc,w1,U4,?_,fun _ _=>trivial,?_,FF.one,Gr ?_⟩
 .simp[resolve,hv,Deferred.ofValue];rfl
 .simp[invoke,callFunc,g1,FZ,g3]
 refine(hC.2 w1 m1 oH _ uJ ⟨Ef.mem,Ef.uL,Qh hB⟩ (by rw[KZ];exact b1) (fun j u y hu hy=>by
  rw[KY]at hy;obtain⟨a,k1,rfl⟩:=eB.1 hy;exact(b2 j u a hu k1).map gB (W4 eV k1))).mono ?_
 intro e w3 h;obtain⟨v,rr,B',bX,m',rfl,hK,k1,k2,k3⟩:=yN (fun r B'=>match(((cT aE lN).bG (N+1)).lX (fB aE (N+1) B')).b (.loc N 0)with
   |some (.loop _ _ _ _ st)=>lB Q st ((((cT aE lN).bG (N+1)).lX (fB aE (N+1) B')).drop (.loc N 0))
   |_=>False) e w3 h
 clear h yN;replace k3:=k3 (.loc N 0) (by simp[Site.fP]);generalize((cT aE lN).bG (N+1)).lX (fB aE (N+1) B')=τ at hK k1;split at hK
 .rename_i C' Jy Ka Jr st uH;obtain⟨Z7,r3,u1,u2,u3,_⟩:=k1.bx _ _ uH;have lR:bX (.loc N 0)=pE (.loc N 0):=k3;rw[lR,DD]at u1;have QZ:r3.state≠.busy:=by rw[u2];cases st<;>simp
  have dG:=run_endLoop (P:=P) u1 QZ;have Eb:Sat N w0 m0 pl (τ.drop (.loc N 0)) bX m' yY (w3.putObj l (.loop { r3 with state:=.exhausted })):=(k1.drop _).write (k:=l) (fun s b k r=>by
   rw[AS.KC]at k;split at k
   .cases k
   .rename_i dA;refine dA (k1.eA _ _ _ _ l k uH r (.inl ⟨Z7,?_⟩));rw[lR,DD]) (fun o=>by
   have:=k1.off _ _ uH Z7 o
   rwa [lR,DD]at this) (by
   have:=k1.own _ _ uH Z7
   rwa [lR,DD]at this) (.inl (by rw[u1];simp)) (Jb _ _ _)
  refine⟨st,_,by rw[<-u3];exact dG,?_⟩;cases st with
  |none=>exact⟨_,_,_,hK,Eb⟩
  |some c=>
   cases c with
   |ret=>exact wpIn_ret ⟨_,_,_,hK,Eb⟩
   |exit id=>exact wpIn_exit ⟨_,_,_,hK,Eb⟩
   |_=>exact hK.elim
 .exact hK.elim
theorem YO {ro:Option Nat}(QS:Gq ro w0 pl)(hm:P.follows .mixedOrders=true):∀(c:Code) (l:bH) (Q:sK->AS->Prop) {σ:AS} {ρ:Site->Loc} {m:Mem} {act:Act} {w:World},(m0.strict=true->kL c=true)->dQ P N c=some l->uO P l Q σ->Sat N w0 m0 pl σ ρ m act w->c.wpIn (FF ro) 1 P (oE N w0 m0 pl Q) act w:=by
 intro c;induction c with
 |skip=>
  intro l Q σ ρ m act w bS hl h hS;simp[dQ]at hl;subst hl;exact wpIn_skip ⟨σ,ρ,m,h,hS⟩
 |region id ops draw=>
  intro l Q σ ρ m act w bS hl h hS;simp only[dQ]at hl;split at hl
  .rename_i qT k1;cases hl;exact Znk hm k1 h hS (fun _ _ k=>k) (fun _ _ _ _ _ h=>h)
  .split at hl
   .rename_i hd;subst hd;simp only[eB]at hl;obtain⟨T',k1,rfl⟩:=hl;exact Znl hm k1 h hS (fun _ _ k=>k) (fun _ _ _ _ _ h=>h)
   .cases hl
 |seq a b T0 r4=>
  intro l Q σ ρ m act w bS hl h hS;simp only[dQ]at hl;split at hl
  .rename_i x y h1 h2;cases hl;refine wpIn_seq (wpIn_mono (T0 x _ (fun e=>(Oy (bS e)).1) h1 h hS) (fun e bE w' hq=>?_));cases e with
   |normal=>
    obtain⟨τ,bX,m',k1,k2⟩:=hq;exact r4 y Q (fun e=>(Oy (bS e)).2) h2 k1 k2
   |exit id=>exact hq
   |ret=>exact hq
   |goto l=>exact hq.elim
   |panic ch=>exact hq.elim
   |outgrown=>exact hq.elim
  .cases hl
 |cond c a b T0 r4=>
  intro l Q σ ρ m act w bS hl h hS;simp only[dQ]at hl;split at hl
  .rename_i c' x y h0 h1 h2;cases hl;unfold uO at h;split at h
   .rename_i t ht;have hc:=hS.aU h0;rw[ht]at hc;refine wpIn_cond hc.ON ?_;cases t
    .exact r4 y Q (fun e=>(Px (bS e)).2) h2 (by simpa using h) hS
    .exact T0 x Q (fun e=>(Px (bS e)).1) h1 (by simpa using h) hS
   .exact h.elim
  .cases hl
 |block id c ih=>
  intro l Q σ ρ m act w bS hl h hS;simp only[dQ,eB]at hl;obtain⟨x,k1,rfl⟩:=hl;refine wpIn_block (wpIn_mono (ih x _ bS k1 h hS) (fun e bE w' hq=>?_));cases e with
  |exit MS=>
   obtain⟨τ,bX,m',q1,q2⟩:=hq;by_cases he:MS=id
   .subst he;simp only[j9,if_true]at q1;simp only[Exit.inBlock,if_true];exact⟨τ,bX,m',q1,q2⟩
   .simp only[j9,he,if_false]at q1;simp only[Exit.inBlock,he,if_false];exact⟨τ,bX,m',q1,q2⟩
  |normal=>exact hq
  |ret=>exact hq
  |goto l=>exact hq.elim
  |panic ch=>exact hq.elim
  |outgrown=>exact hq.elim
 |loop c ih=>
  intro l Q σ ρ m act w bS hl h hS;simp only[dQ,eB]at hl;obtain⟨x,k1,rfl⟩:=hl;obtain⟨I,n,τ,kM,hI,aB⟩:=h;obtain⟨pE,m1,wP⟩:=kM _ _ _ _ _ _ _ _ hS;refine wpIn_loop_ghost (fun n act w=>∃τ ρ m,I n τ/\Sat N w0 m0 pl τ ρ m act w) n ⟨τ,pE,m1,hI,wP⟩ ?_;intro n act w ⟨τ,ρ,m,hI,hS⟩;refine wpIn_mono (ih x _ bS k1 (aB n τ hI) hS) (fun e bE w' hq=>?_);cases e with
  |normal=>
   obtain⟨zI,bX,m',⟨k,S3,q1,q2,q3⟩,q4⟩:=hq;obtain⟨PH,m2,q5⟩:=q2 _ _ _ _ _ _ _ _ q4;exact⟨k,q1,S3,PH,m2,q3,q5⟩
  |exit id=>exact hq
  |ret=>exact hq
  |goto l=>exact hq.elim
  |panic ch=>exact hq.elim
  |outgrown=>exact hq.elim
 |scope c ih=>
  intro l Q σ ρ m act w bS hl h hS;refine ZbX (wpIn_mono (ih l Q bS hl h hS) (fun e bE w' hq=>?_));cases e<;>first|exact hq|exact hq.elim
 |label l0=>
  intro l Q σ ρ m act w bS hl h hS;simp[dQ]at hl;subst hl;exact wpIn_label ⟨σ,ρ,m,h,hS⟩
 |exit id=>
  intro l Q σ ρ m act w bS hl h hS;simp[dQ]at hl;subst hl;exact wpIn_exit ⟨σ,ρ,m,h,hS⟩
 |ret=>
  intro l Q σ ρ m act w bS hl h hS;simp[dQ]at hl;subst hl;exact wpIn_ret ⟨σ,ρ,m,h,hS⟩
 |rangeFunc g ps a b=>
  intro l Q σ ρ m act w bS hl h hS;simp only[dQ]at hl;split at hl
  .rename_i g' la lb k1 k2 k3;cases hl;exact Zil QS k1 h hS (ZnV bS)
  .cases hl
 |_=>intro l Q σ ρ m act w bS hl h hS;simp[dQ]at hl
end
inductive oF where
 |tm (t:Nat)
 |cell (t:Nat) (row:Bool) (n:Nat)
 deriving Inhabited
def kZ (P:Program):List ResultVar->Option (List oF)
 |[]=>some []
 |.tmp t::r=>(kZ P r).map (oF.tm t::·)
 |.cell a t::r=>match eJ P t,P.underlying t,kZ P r with
  |some n,some _,some l=>some (.cell a (sW P t) n::l)
  |_,_,_=>none
structure aW where
 nt:Nat
 code:bH
 res:List oF
 deriving Inhabited
def fV (P:Program)(f:FuncId):Option aW:=match P.funcs[f]? with
 | some fn => if fn.name == "runtime.NumGoroutine" then none else match fn.body with
  |some c=>match dQ P fn.ntmps c,kZ P fn.results.toList with
   |some l,some r=>some ⟨fn.ntmps,l,r⟩
   |_,_=>none
  |none=>none
 |none=>none
def AS.Lp (σ:AS):oF->Option AV
 |.tm t=>σ.t t
 |.cell t row n=>match σ.t t with
  |some (.ptr s off)=>match σ.b s with
   |some (.cells bU)=>if row=true then(if off+n<=bU.length then some (y0 ((bU.drop off).take n))else none)else bU[off]?
   |_=>none
  |_=>none
def AS.GG (σ:AS):List oF->Option (List AV)
 |[]=>some []
 |x::r=>match σ.Lp x,σ.GG r with
  |some a,some l=>some (a::l)
  |_,_=>none
def rU:List AV->AV
 |[a]=>a
 |l=>match eD l with
  |some xs=>.pv (.bN xs)
  |none=>.bN l
def jY (outs:List Site)(s:Site):Site:=match s with
 |.par i=>.par i
 |s=>match outs.findIdx? (fun x=>decide (x=s))with
  |some j=>.ret j
  |none=>s
def dO (s:Site):Bool:=!s.uS
def AS.exp (σ:AS)(outs:List Site):List Site->List (Site×aJ)
 |[]=>[]
 |s::r=>match σ.b s with
  |some b=>(jY outs s,b.iX (jY outs))::σ.exp outs r
  |none=>σ.exp outs r
def aY:List Site->AS->AS
 |[],σ=>σ
 |s::r,σ=>aY r (σ.cJ s)
def rS (rs:List oF)(R:AV->List (Site×aJ)->Prop)(σ:AS):Prop:=
 ∃(fz outs:List Site) (l:List AV),(aY fz σ).GG rs=some l/\(rU l).dC dO=true/\outs.all dO=true/\(∀s∈outs,∀b,(aY fz σ).b s=some b->b.dC dO=true)/\R ((rU l).map (jY outs)) ((aY fz σ).exp outs outs)
def lF (F:AS->Prop):sK->AS->Prop
 |.exit _,_=>False
 |_,σ=>F σ
def B6 (rs:List oF)(R:AV->List (Site×aJ)->Prop)(σ:AS):Prop:=match σ.GG rs with
 |some l=>match rU l with
  |.pv x=>R (.pv x) []
  |_=>False
 |none=>False
theorem ZsW {rs:List oF}{R:AV->List (Site×aJ)->Prop}{σ:AS}(h:B6 rs R σ):rS rs R σ:=by
 unfold B6 at h;split at h
 .rename_i l hl;split at h
  .rename_i x hx;exact⟨[],[],l,hl,by rw[hx];rfl,rfl,(fun s hs=>by cases hs),by rw[hx];exact h⟩
  .exact h.elim
 .exact h.elim
def eZ:Nat->List AV->List (Nat×AV)
 |_,[]=>[]
 |k,a::r=>(k,a)::eZ (k+1) r
def vN (tmps:Array Value):ResultVar->Sem Value:=fun
 |.tmp t=>pure (tmps.getD t undef)
 |.cell a t=>do loadVar t (<-asAddr (tmps.getD a undef))
section
variable {P:Program}{N:Nat}{w0:World}{m0:Env w0}{pl:List Nat}{σ:AS}{ρ:Site->Loc}{m:Mem}{act:Act}{w:World}
theorem Sat.aY:∀(fz:List Site) {σ:AS} {m:Mem},Sat N w0 m0 pl σ ρ m act w->∃m',Sat N w0 m0 pl (aY fz σ) ρ m' act w
 |[],σ,m,h=>⟨m,h⟩
 |s::r,σ,m,h=>by
  obtain⟨m1,_,h1⟩:=h.cJ s;exact Sat.aY r h1
theorem Im:∀(l:List AV) (k j:Nat) (a:AV),(eZ k l).lookup j=some a->k<=j/\l[j-k]?=some a
 |[],k,j,a,h=>by simp[eZ]at h
 |b::r,k,j,a,h=>by
  unfold eZ at h;rcases Nat.decEq j k with dA|rfl
  .rw[jJ dA]at h;obtain⟨h1,h2⟩:=Im r (k+1) j a h;refine⟨by omega,?_⟩;rw[show j-k=(j-(k+1))+1 by omega,List.getElem?_cons_succ];exact h2
  .rw[mX]at h;cases h;exact⟨fH _,by simp⟩
theorem Zl1 {l:List (Site×aJ)}{s:Site}{b:aJ}(h:l.lookup s=some b):(s,b)∈l:=by
 induction l with
 |nil=>simp[List.lookup]at h
 |cons p r ih=>
  obtain⟨a,c⟩:=p;by_cases e:s=a
  .subst e;rw[mX]at h;cases h;simp
  .rw[jJ e]at h;simp[ih h]
theorem YI {ρ:Site->Loc}{w:World}{B:List (Site×aJ)}{s:Site}{b:aJ}{k:Nat}(h:B.lookup s=some b)(hr:fL ρ w s b k):k∈cK ρ w B:=by
 exact UF.2 ⟨(s,b),Zl1 h,hr⟩
theorem ZpD {rv:ResultVar}{x:oF}(hx:kZ P [rv]=some [x]){a:AV}(ha:σ.Lp x=some a)(hS:Sat N w0 m0 pl σ ρ m act w):
  ∃v,(vN act.tmps rv).run P w=.ok v w/\bQ ρ m v a:=by
 cases rv with
 |tmp t=>
  simp[kZ]at hx;subst hx;obtain⟨v,k1,k2⟩:=hS.tm t a ha;refine⟨act.tmps.getD t undef,rfl,?_⟩;rw[Array.getD_eq_getD_getElem?,k1];exact k2
 |cell t0 ty=>
  simp only[kZ]at hx;split at hx
  .rename_i n dd l h1 h2 h3;cases h3;cases hx;simp only[AS.Lp]at ha;split at ha
   .rename_i s off ht;obtain⟨v,k1,k2⟩:=hS.tm t0 _ ht;have hv:=k2.EW;subst hv;have kO:act.tmps.getD t0 undef=.pointer (some ⟨(ρ s).b,off,none⟩):=by rw[Array.getD_eq_getD_getElem?,k1];rfl
    split at ha
    .rename_i bU hb;have hB:=hS.bx s _ hb;split at ha
     .rename_i hr;split at ha
      .rename_i hl;cases ha;obtain⟨ds,q1,q2,q3,q4⟩:=Ix hB hl;refine⟨.agg ds.toArray,?_,Ic (by simp[q1,gM,uQ];omega) (fun u hu=>q3 u (by simpa using hu)) (fun j u c e1 e2=>q4 j u c (by simpa using e1) e2)⟩
       have:=Znp (P:=P) h2 hr q2 (by rw[h1,q1])
       simp only[Instr.loadAt,Instr.sureAddr,Sem.run_bind,Sem.run_pure,Result.andThen_ok]at this;simp only[vN,kO,asAddr,Sem.run_bind,Sem.run_pure,Result.andThen_ok];exact this
      .cases ha
     .rename_i hr;have aI:=(cD.1 ha).1;obtain⟨ds,q1,q2,q3,q4⟩:=Ix hB (off:=off) (n:=1) (by omega)
      match ds,q1 with
      |[v],_=>
       refine⟨v,?_,q4 0 v a rfl (by rw[mH,if_pos (by omega),mW];exact ha)⟩
       have:=Znq (P:=P) h2 (by simpa using hr) q2.1
       simp only[Instr.loadAt,Instr.sureAddr,Sem.run_bind,Sem.run_pure,Result.andThen_ok]at this;simp only[vN,kO,asAddr,Sem.run_bind,Sem.run_pure,Result.andThen_ok];exact this
    .cases ha
   .cases ha
  .cases hx
theorem Nw:∀(ZO:List ResultVar) (rs:List oF) (l:List AV),kZ P ZO=some rs->σ.GG rs=some l->Sat N w0 m0 pl σ ρ m act w->
  ∃vs:List Value,(ZO.mapM (vN act.tmps)).run P w=.ok vs w/\vs.length=l.length/\∀(j:Nat) (v:Value) (a:AV),vs[j]?=some v->l[j]?=some a->bQ ρ m v a
 |[],rs,l,h,hl,hS=>by
  simp[kZ]at h;subst h;simp[AS.GG]at hl;subst hl;exact⟨[],rfl,rfl,fun j v a e=>by simp at e⟩
 |rv::ZO,rs,l,h,hl,hS=>by
  obtain⟨x,yC,hx,h',rfl⟩:∃x yC,kZ P [rv]=some [x]/\kZ P ZO=some yC/\rs=x::yC:=by
   cases rv with
   |tmp t=>
    simp only[kZ,eB]at h;obtain⟨yC,k1,rfl⟩:=h;exact⟨.tm t,yC,by simp[kZ],k1,rfl⟩
   |cell a t=>
    simp only[kZ]at h;split at h
    .rename_i n dd l' h1 h2 h3;cases h;exact⟨.cell a (sW P t) n,l',by simp[kZ,h1,h2],h3,rfl⟩
    .cases h
  unfold AS.GG at hl;split at hl
  .rename_i a l' h1 h2;cases hl;obtain⟨v,k1,k2⟩:=ZpD hx h1 hS;obtain⟨vs,k3,k4,k5⟩:=Nw ZO yC l' h' h2 hS;refine⟨v::vs,?_,by simp[k4],fun j u c e1 e2=>?_⟩
   .simp only[List.mapM_cons,Sem.run_bind,k1,Result.andThen_ok,k3];rfl
   .cases j with
    |zero=>simp at e1 e2;subst e1 e2;exact k2
    |succ j=>exact k5 j u c (by simpa using e1) (by simpa using e2)
  .cases hl
theorem ZkP {vs:List Value}{l:List AV}(h1:vs.length=l.length)(h2:∀(j:Nat) (v:Value) (a:AV),vs[j]?=some v->l[j]?=some a->bQ ρ m v a):
  bQ ρ m (if h:vs.toArray.size=1 then vs.toArray[0]else .tuple vs.toArray) (rU l):=by
 match l,vs,h1 with
 |[a],[v],_=>exact h2 0 v a rfl rfl
 |[],vs,h1=>
  have:vs=[]:=List.eq_nil_of_length_eq_zero h1
  subst this;exact .pv _ _ (.bN _ _ rfl (fun j v c e1 e2=>by simp at e2))
 |a::b::r,vs,h1=>
  have hs:¬vs.toArray.size=1:=by
   intro e;simp at e;rw[e]at h1;simp at h1
  rw[dif_neg hs];show bQ ρ m _ (match eD (a::b::r)with
   |some xs=>.pv (.bN xs)
   |none=>.bN (a::b::r))
  cases hx:eD (a::b::r)with
  |some xs=>
   have e:=UH hx;rw[e]at h1 h2;refine .pv _ _ (.bN _ _ (by simpa using h1) (fun j v c e1 e2=>?_));exact(h2 j v (.pv c) (by simpa using e1) (by rw[bY,e2];rfl)).nN
  |none=>exact .bN _ _ (by simpa using h1) (fun j v c e1 e2=>h2 j v c (by simpa using e1) e2)
theorem ZjM {outs:List Site}{s:Site}{j:Nat}(h:outs.findIdx? (fun x=>decide (x=s))=some j):outs[j]?=some s:=by
 obtain⟨hj,h1,_⟩:=JY.1 h;rw[bC hj];simpa using h1
theorem Nb (hS:Sat N w0 m0 pl σ ρ m act w){outs:List Site}(ho:outs.all dO=true)(hb:∀s∈outs,∀b,σ.b s=some b->b.dC dO=true):
  ∃bX:Site->Loc,(∀s,dO s=true->bX (jY outs s)=ρ s)/\vH bX m w (σ.exp outs outs)/\(∀i,bX (.par i)=ρ (.par i))/\
   (∀s b k,(σ.exp outs outs).lookup s=some b->fL bX w s b k->∃s0 b0,σ.b s0=some b0/\fL ρ w s0 b0 k):=by
 let bX:Site->Loc:=fun s=>match s with
  |.ret j=>ρ (outs.getD j default)
  |s=>ρ s
 have hg:∀s,dO s=true->bX (jY outs s)=ρ s:=fun s hs=>by
  cases s with
  |par i=>rfl
  |ret j=>simp[dO,Site.uS]at hs
  |loc d j=>
   unfold jY;simp only;split
   .rename_i k hk
    have:=ZjM hk
    simp[bX,List.getD,this]
   .rfl
 have look:∀(l:List Site),(∀s∈l,s∈outs)->∀s b,(σ.exp outs l).lookup s=some b->∃s0 b0,s0∈outs/\σ.b s0=some b0/\s=jY outs s0/\b=b0.iX (jY outs):=by
  intro l;induction l with
  |nil=>intro _ s b h;simp[AS.exp]at h
  |cons x r ih=>
   intro hl s b h;unfold AS.exp at h;split at h
   .rename_i b0 Wf;by_cases e:s=jY outs x
    .subst e;rw[mX]at h;cases h;exact⟨x,b0,hl x (by simp),Wf,rfl,rfl⟩
    .rw[jJ e]at h;exact ih (fun s hs=>hl s (by simp[hs])) s b h
   .exact ih (fun s hs=>hl s (by simp[hs])) s b h
 have mP:∀s∈outs,dO s=true:=fun s hs=>rM.1 ho s hs
 refine⟨bX,hg,⟨fun s b h=>?_,fun s s' b b' k h h' r r'=>?_,fun s b k h r=>?_⟩,fun i=>rfl,fun s b k h r=>?_⟩
 .obtain⟨s0,b0,k1,k2,rfl,rfl⟩:=look outs (fun _ h=>h) s b h;exact(hS.bx s0 b0 k2).iX hg (mP s0 k1) (hb s0 k1 b0 k2)
 .obtain⟨s0,b0,k1,k2,rfl,rfl⟩:=look outs (fun _ h=>h) s b h;obtain⟨s1,b1,q1,q2,rfl,rfl⟩:=look outs (fun _ h=>h) s' b' h';rw[hS.eA s0 s1 b0 b1 k k2 q2 ((uU (hg s0 (mP s0 k1))).1 r) ((uU (hg s1 (mP s1 q1))).1 r')]
 .obtain⟨s0,b0,k1,k2,rfl,rfl⟩:=look outs (fun _ h=>h) s b h;exact hS.eQ s0 b0 k k2 ((uU (hg s0 (mP s0 k1))).1 r)
 .obtain⟨s0,b0,k1,k2,rfl,rfl⟩:=look outs (fun _ h=>h) s b h;exact⟨s0,b0,k2,(uU (hg s0 (mP s0 k1))).1 r⟩
theorem Zex {fn:Func}{R:Ending->World->Prop}:∀(ds:List Nat) {w:World},ds.Nodup->(∀D∈ds,(w0.heap.size<=D\/D∈pl)/\w.heap[D]?=some (.deferred (some [])))->act.defers=[]->Sat N w0 m0 pl σ ρ m act w->
  ∃w2,Sat N w0 m0 pl σ ρ m act w2/\(LeavesIn (FF none) 1 P fn act.tmps R [] .returning w2->LeavesInM (FF none) 1 P fn act.tmps R (ds.map XM) .returning w)
 |[],w,_,_,_,hS=>⟨w,hS,fun h=>h⟩
 |D::r,w,hn,hd,ha,hS=>by
  obtain⟨d1,d2⟩:=hd D (by simp);have yO:=List.nodup_cons.1 hn;have wP:Sat N w0 m0 pl σ ρ m act (w.putObj D (.deferred none)):=hS.write (k:=D) (fun s b hs hr=>(hS.bx s b hs).Yn hr d2) (fun o=>by
   cases hv:m D o with
   |none=>rfl
   |some v=>
    have:=hS.mem D o v hv
    simp[World.mem,World.cell?,d2]at this) d1 (.inr ha) (Jb _ _ _)
  obtain⟨w2,k1,k2⟩:=Zex r yO.2 (fun D' DZ=>by
   refine⟨(hd D' (by simp[DZ])).1,?_⟩;have dA:D'≠D:=fun e=>yO.1 (by rw[<-e];exact DZ)
   rw[World.putObj_heap_other dA];exact(hd D' (by simp[DZ])).2) ha wP
  exact⟨w2,k1,fun h=>⟨by simp,.inl ⟨D,_,rfl,run_takeDeferred d2,k2 h⟩⟩⟩
theorem Jc {f:FuncId}{F:aW}{bU:List AV}{B:List (Site×aJ)}{R:AV->List (Site×aJ)->Prop}(hm:P.follows .mixedOrders=true)(hf:fV P f=some F)(hn:bU.length<=F.nt)
  {Fin:AS->Prop} (DM:∀σ,Fin σ->rS F.res R σ) (h:uO P F.code (lF Fin) ⟨eZ 0 bU,B⟩):cU P f bU B R:=by
 unfold fV at hf;split at hf
 .rename_i fn qH;split at hf
  .cases hf
  .rename_i M9;split at hf
   .rename_i c hc;split at hf
    .rename_i l rs hl uF;cases hf;refine⟨⟨fn,c,qH,by simpa using M9,hc⟩,fun w m ρ vs hB mQ P9 lK=>?_⟩;refine(callsIn_wide (n:=1)).1 (callsIn_of_wp_marks (F:=FF none) qH hc trivial ?_ rfl);have hS:Sat fn.ntmps w ⟨m,ρ,[],mQ.2.1,false⟩ (cK ρ w B) ⟨eZ 0 bU,B⟩ ρ m { tmps:=vs++Array.replicate (fn.ntmps-vs.size) undef,defers:=[]} w:=by
      have yO:bU.length<=fn.ntmps:=hn;refine⟨⟨[],C5,yI,fun D hD=>by cases hD⟩,by simp;omega,fun t a k=>?_,hB.bx,hB.eA,mQ.1,hB.eQ,fun s b i k r=>.inr (YI k r),cY.tS _ _,⟨Le.refl _,hB.free mQ.2.2⟩,fun b o v k=>.inl k,fun i=>rfl⟩;obtain⟨_,k1⟩:=Im bU 0 t a k;rw[Nat.sub_zero]at k1;have aI:t<vs.size:=by rw[P9];exact(cD.1 k1).1
      exact⟨vs[t],by rw[Array.getElem?_append,if_pos aI,vA aI],lK t _ a (vA aI) k1⟩
     refine wpIn_mono (YO (ro:=none) (fun l e=>by cases e) hm c l _ (fun e=>by cases e) hl h hS) (fun e bE w' hq=>?_);have fin:G6 fn.ntmps w ⟨m,ρ,[],mQ.2.1,false⟩ (cK ρ w B) Fin bE w'->LeavesInM (FF none) 1 P fn bE.tmps (lI w m ρ B R) bE.defers .returning w':=by
      rintro⟨τ,pE,m1,SN,hT⟩;obtain⟨ds,tO,uZ,U5⟩:=hT.sM;have tO:=tO.nil;have Dz:Sat fn.ntmps w ⟨m,ρ,[],mQ.2.1,false⟩ (cK ρ w B) τ pE m1 { bE with defers:=[]} w':=⟨⟨[],C5,yI,fun D hD=>by cases hD⟩,hT.sz,hT.tm,hT.bx,hT.eA,hT.mem,hT.eQ,hT.fM,hT.keep,hT.base,hT.qJ,hT.par⟩;obtain⟨w2,U7,hL⟩:=Zex (P:=P) (fn:=fn) (R:=lI w m ρ B R) ds uZ.1 U5 rfl Dz;rw[tO];refine hL ?_;obtain⟨fz,outs,la,q1,q2,q3,q4,q5⟩:=DM τ SN;obtain⟨m2,hF⟩:=U7.aY fz;obtain⟨ZI,r1,r2,r3⟩:=Nw fn.results.toList rs la uF q1 hF;obtain⟨bX,g1,g2,g3,g4⟩:=Nb hF q3 q4;have CZ:=ZkP r2 r3;refine⟨_,?_,_,_,_,bX,m2,rfl,q5,g2,hF.base.1,hF.mem,fun i=>(g3 i).trans (hF.par i),fun s b i k r=>?_,hF.qJ,CZ.map g1 q2,hF.keep⟩
      .show(do let vs <-fn.results.mapM (vN bE.tmps);pure (if h:vs.size=1 then vs[0]else .tuple vs):Sem Value).run P w2=_;rw[Sem.run_bind,Array.mapM_eq_mapM_toList,Sem.run_map,r1];rfl
      .obtain⟨s0,b0,e1,e2⟩:=g4 s b i k r;exact hF.fM s0 b0 i e1 e2
     cases e with
     |normal=>exact fin hq
     |ret=>exact fin hq
     |exit id=>obtain⟨τ,pE,m1,q,_⟩:=hq;exact q.elim
     |goto l=>exact hq.elim
     |panic ch=>exact hq.elim
     |outgrown=>exact hq.elim
    .cases hf
   .cases hf
 .cases hf
theorem ZiZ {f:FuncId}{F:aW}{bU:List AV}{B:List (Site×aJ)}{R:AV->List (Site×aJ)->Prop}(hm:P.follows .mixedOrders=true)(hf:fV P f=some F)(hn:bU.length<=F.nt)
  (h:uO P F.code (lF (B6 F.res R)) ⟨eZ 0 bU,B⟩):cU P f bU B R:=Jc hm hf hn (fun _ h=>ZsW h) h
section
variable {Q:sK->AS->Prop}{K:AV->AS->Prop}
def again (J:Nat->AS->Prop)(n:Nat)(zI:AS):Prop:=∃k S3,k<n/\Sub S3 zI/\J k S3
def n7:List (Nat×AV)->AS->Prop
 |[],_=>True
 |(t,a)::r,σ=>σ.t t=some a/\n7 r σ
def S5:List (Site×aJ)->AS->Prop
 |[],_=>True
 |(s,b)::r,σ=>σ.b s=some b/\S5 r σ
theorem Zfj:∀{l:List (Nat×AV)},n7 l σ->∀t a,l.lookup t=some a->σ.t t=some a
 |[],_,t,a,h=>by simp[List.lookup]at h
 |(t',a')::r,hs,t,a,h=>by
  by_cases e:t=t'
  .subst e;rw[mX]at h;cases h;exact hs.1
  .rw[jJ e]at h;exact Zfj hs.2 t a h
theorem Zic:∀{l:List (Site×aJ)},S5 l σ->∀s b,l.lookup s=some b->σ.b s=some b
 |[],_,s,b,h=>by simp[List.lookup]at h
 |(s',b')::r,hs,s,b,h=>by
  by_cases e:s=s'
  .subst e;rw[mX]at h;cases h;exact hs.1
  .rw[jJ e]at h;exact Zic hs.2 s b h
theorem FH.mk {tm:List (Nat×AV)}{bx:List (Site×aJ)}(h1:n7 tm σ)(h2:S5 bx σ):FH ⟨tm,bx⟩ σ:=⟨fun t a h=>Zfj h1 t a h,fun s b h=>Zic h2 s b h⟩
theorem Sub.mk {tm:List (Nat×AV)}{bx:List (Site×aJ)}(h1:n7 tm σ)(h2:S5 bx σ):Sub ⟨tm,bx⟩ σ:=(FH.mk h1 h2).sub
theorem Zi1 {f:bB}{args:List bB}{d k:Nat}{g:FuncId}{fs xs cs:List PV}{y:PV}(h1:(σ.o f).snap σ k=some (.fn g fs cs))(h2:jL (AV.snap σ k) (args.map σ.o)=some xs)
  (hc:cU P g ((fs++xs++cs).map .pv) [] (fun r _=>r=.pv y)) (hy:y.flat=true) (hK:K (.pv y) σ):zD P f args d K σ:=
 .inl ⟨k,g,fs,xs,cs,h1,h2,hc.mono (fun _ _ h=>⟨y,h,hy,hK⟩)⟩
theorem Zaj (fz:List Site){f:bB}{args:List bB}{d:Nat}{g:FuncId}{fs xs cs:List PV}{y:PV}(h1:(aL fz σ).o f=.pv (.fn g fs cs))(h2:(aL fz σ).tY args=some xs)
  (hc:cU P g ((fs++xs++cs).map .pv) [] (fun r B=>r=.pv y/\B=[])) (hK:K (.pv y) ((aL fz σ).bG d)):zD P f args d K σ:=
 .inr ⟨fz,g,fs,xs,cs,h1,h2,hc.mono (fun _ _ ⟨h,h'⟩=>by subst h h';exact⟨⟨rfl,fun p hp=>by cases hp⟩,hK⟩)⟩
theorem ZqV (fz:List Site){f:bB}{args:List bB}{d:Nat}{g:FuncId}{fs xs cs:List PV}{e n len:Nat}{ys:List PV}(h1:(aL fz σ).o f=.pv (.fn g fs cs))(h2:(aL fz σ).tY args=some xs)
  (hc:cU P g ((fs++xs++cs).map .pv) [] (fun r B=>r=.vec (.ret 0) n 0 len/\B=[(.ret 0,.arr e n ys)])) (hK:K (.vec (.loc d 0) n 0 len) (((aL fz σ).bG d).add (.loc d 0) (.arr e n ys))):zD P f args d K σ:=
 .inr ⟨fz,g,fs,xs,cs,h1,h2,hc.mono (fun _ _ ⟨h,h'⟩=>by subst h h';exact⟨⟨rfl,fun p hp=>by simp at hp;subst hp;exact⟨rfl,rfl⟩⟩,hK⟩)⟩
end
end
def Site.x3:Site->Bool
 |.par _=>true
 |_=>false
def qR:List Nat->List AV->List (Nat×AV)->List (Nat×AV)
 |p::ps,a::bU,tm=>qR ps bU ((p,a)::tm)
 |_,_,tm=>tm
def HJ (C:Code×Code)(ps:List Nat)(nt:Nat)(tm:List (Nat×AV))(i:Nat)(R:AV->List (Site×aJ)->Prop)(st:Option Code)(σ:AS):Prop:=
 ∃(fz outs:List Site),outs.all dO=true/\outs.all (fun s=>!decide (s=.par i))=true/\(∀s∈outs,∀b,(aY fz σ).b s=some b->b.dC dO=true)/\
  R (.pv (.bool st.isNone)) ((.par i,.loop C ps nt tm st)::(aY fz σ).exp outs outs)
def Zi (C:Code×Code)(ps:List Nat)(nt:Nat)(tm:List (Nat×AV))(i:Nat)(R:AV->List (Site×aJ)->Prop):sK->AS->Prop
 |.normal,σ=>HJ C ps nt tm i R none σ
 |.ret,σ=>HJ C ps nt tm i R (some .ret) σ
 |.exit id,σ=>HJ C ps nt tm i R (some (.exit id)) σ
mutual
theorem Hd:∀a:AV,a.map id=a
 |.any=>rfl
 |.pv _=>rfl
 |.ptr _ _=>rfl
 |.lG _ _ _ _=>rfl
 |.vec _ _ _ _=>rfl
 |.mp _=>rfl
 |.nQ _=>rfl
 |.fn f fs cs=>by simp only[AV.map,TX fs,TX cs]
 |.agg cs=>by simp only[AV.map,TX cs]
 |.bN vs=>by simp only[AV.map,TX vs]
theorem TX:∀l:List AV,AV.iT id l=l
 |[]=>rfl
 |a::r=>by simp only[AV.iT,Hd a,TX r]
end
section
variable {P:Program}{N:Nat}{w0:World}{m0:Env w0}{pl:List Nat}{σ:AS}{ρ:Site->Loc}{m:Mem}{act:Act}{w:World}
theorem Sat.ZxW (h:Sat N w0 m0 pl σ ρ m act w){Rj:List Nat}(hp:∀k∈pl,k∈Rj)(hz:∀k∈Rj,∀o,m0.m k o=none):Sat N w0 m0 Rj σ ρ m act w:=
 ⟨let ⟨ds,h1,h2,h3⟩:=h.sM;⟨ds,h1,h2,fun D hD=>⟨(h3 D hD).1.imp id (hp D),(h3 D hD).2⟩⟩,h.sz,h.tm,h.bx,h.eA,h.mem,h.eQ,fun s b i k r=>(h.fM s b i k r).imp id (hp _),
  ⟨h.keep.os,h.keep.tape,h.keep.output,h.keep.size,fun k h1 h2=>h.keep.block k h1 (fun q=>h2 (hp k q))⟩,⟨h.base.1,hz⟩,fun b o v k=>(h.qJ b o v k).imp id (fun q=>q.imp id (hp b)),h.par⟩
theorem PI {ro:Option Nat}{n n':Nat}{c:Code}{Q:Exit->Act->World->Prop}{a:Act}(h:c.wpIn (FF ro) n P Q a w):c.wpIn (FF ro) n' P Q a w:=fun b k cs h1 h2 _=>h b k cs h1 h2 (room_wide _)
theorem Znx {ρ:Site->Loc}{m:Mem}{nt:Nat}:∀(ps:List Nat) (bU:List AV) (vs:List Value) (tm:List (Nat×AV)) (t0:Array Value),ps.length=bU.length->vs.length=bU.length->(∀p∈ps,p<nt)->t0.size=nt->
  (∀(j:Nat) (d:Value) (c:AV),vs[j]?=some d->bU[j]?=some c->bQ ρ m d c)->(∀t a,tm.lookup t=some a->∃v,t0[t]?=some v/\bQ ρ m v a)->
  ((ps.zip vs).foldl (fun(tmps:Array Value) (x:Nat×Value)=>tmps.setIfInBounds x.1 x.2) t0).size=nt/\
   ∀t a,(qR ps bU tm).lookup t=some a->∃v,((ps.zip vs).foldl (fun(tmps:Array Value) (x:Nat×Value)=>tmps.setIfInBounds x.1 x.2) t0)[t]?=some v/\bQ ρ m v a
 |[],bU,vs,tm,t0,h1,h2,h3,h4,h5,h6=>by
  cases bU with
  |nil=>exact⟨by simpa using h4,fun t a k=>by simpa using h6 t a k⟩
  |cons a bU=>simp at h1
 |p::ps,[],vs,tm,t0,h1,h2,h3,h4,h5,h6=>by simp at h1
 |p::ps,a::bU,[],tm,t0,h1,h2,h3,h4,h5,h6=>by simp at h2
 |p::ps,a::bU,v::vs,tm,t0,h1,h2,h3,h4,h5,h6=>by
  simp only[List.zip_cons_cons,List.foldl_cons,qR];refine Znx ps bU vs ((p,a)::tm) (t0.setIfInBounds p v) (by simpa using h1) (by simpa using h2) (fun q hq=>h3 q (by simp[hq])) (by simpa using h4) (fun j d c k1 k2=>h5 (j+1) d c (by simpa using k1) (by simpa using k2)) (fun t b k=>?_);rcases Nat.decEq t p with dA|rfl
  .rw[jJ dA]at k;obtain⟨u,k1,k2⟩:=h6 t b k;exact⟨u,by rw[Array.getElem?_setIfInBounds_ne (fun e=>dA e.symm)];exact k1,k2⟩
  .rw[mX]at k;cases k;exact⟨v,by rw[Array.getElem?_setIfInBounds_self_of_lt (by rw[h4];exact h3 _ (by simp))],h5 0 v a rfl rfl⟩
theorem Zhb (hm:P.follows .mixedOrders=true){C:Code×Code}{ps:List Nat}{nt i:Nat}{tm:List (Nat×AV)}{la lb:bH}(Uv:dQ P nt C.1=some la)(Uu:dQ P nt C.2=some lb){bU:List AV}{B:List (Site×aJ)}
  {R:AV->List (Site×aJ)->Prop} (hB:B.lookup (.par i)=some (.loop C ps nt tm none)) (yM:ps.length=bU.length) (Q1:∀p∈ps,p<nt) (AG:AV.hZ Site.x3 (tm.map (·.2))=true)
  (h:uO P la (iV (uO P lb (Zi C ps nt tm i R)) (fun _ _=>False)) ⟨qR ps bU tm,B.filter fun p=>!decide (p.1=.par i)⟩):GS P i bU B R:=by
 intro w m ρ vs uJ ⟨mQ,Up,IM⟩ P9 lK;obtain⟨CY,r,u1,u2,u3,u4,u5,u6,u7,u8⟩:=uJ.bx _ _ hB;refine⟨r,u1,by rw[u4,P9];simpa using yM.symm,?_⟩;obtain⟨l,hl⟩:∃l,l=(ρ (.par i)).b:=⟨_,rfl⟩;rw[<-hl]at u1 ⊢;have Kp:l<w.heap.size:=(qL.1 u1).1;obtain⟨B1,Eh⟩:∃B1,B1=B.filter fun p=>!decide (p.1=.par i):=⟨_,rfl⟩
 rw[<-Eh]at h;have oR:∀s b,B1.lookup s=some b->B.lookup s=some b/\s≠.par i:=fun s b k=>by
  rw[Eh,show List.lookup s (B.filter fun p=>!decide (p.1=.par i))=_ from UP (fun x=>!decide (x=.par i)) s B]at k;split at k
  .rename_i dA;exact⟨k,by simpa using dA⟩
  .cases k
 have mJ:∀k,k∈cK ρ w B1->k∈cK ρ w B:=fun k hk=>by
  obtain⟨p,hp,e⟩:=UF.1 hk;exact UF.2 ⟨p,by rw[Eh]at hp;exact(iZ.1 hp).1,e⟩
 obtain⟨CD,QU⟩:∃CD,CD=(cK ρ w B1).filter (fun k=>!decide (k=l)):=⟨_,rfl⟩;have pG:l∉CD:=by rw[QU];simp
 have Kr:l∈cK ρ w B:=by rw[hl];exact YI hB (xV CY)
 have zP:∀k∈CD,k∈cK ρ w B:=fun k hk=>mJ k (by rw[QU]at hk;exact(iZ.1 hk).1)
 have fI:=Znx (ρ:=ρ) (m:=m) (nt:=nt) ps bU vs.toList tm r.tmps yM (by simpa using P9) Q1 u7 (fun j d c k1 k2=>lK j d c (by simpa using k1) k2) u8;have tN:(r.params.zip vs).foldl (fun tmps (x:Nat×Value)=>tmps.setIfInBounds x.1 x.2) r.tmps=(ps.zip vs.toList).foldl (fun(tmps:Array Value) (x:Nat×Value)=>tmps.setIfInBounds x.1 x.2) r.tmps:=by
  rw[u4,<-Array.foldl_toList];simp
 have hS:Sat nt w ⟨m,ρ,[],Up,false⟩ CD ⟨qR ps bU tm,B1⟩ ρ m { tmps:=(r.params.zip vs).foldl (fun tmps (x:Nat×Value)=>tmps.setIfInBounds x.1 x.2) r.tmps,defers:=[]} w:=by
  rw[tN];refine⟨⟨[],C5,yI,fun D hD=>by cases hD⟩,fI.1,fI.2,fun s b k=>uJ.bx s b (oR s b k).1,fun s s' b b' i k k'=>uJ.eA s s' b b' i (oR s b k).1 (oR s' b' k').1,mQ,fun s b i k=>uJ.eQ s b i (oR s b k).1,fun s b j k r'=>.inr ?_,cY.tS _ _,⟨Le.refl _,fun k hk=>uJ.free IM k (zP k hk)⟩,fun b o v k=>.inl k,fun i=>rfl⟩;rw[QU];refine iZ.2 ⟨YI k r',?_⟩
  have:j≠l:=fun e=>(oR s b k).2 (uJ.eA s _ b _ j (oR s b k).1 hB r' (by rw[e,hl];exact xV CY))
  simpa using this
 refine roundIn_of_wpIn trivial ?_;have RO:Gq (some l) w CD:=fun l' e=>by cases e;exact⟨⟨r,u1⟩,pG⟩
 have hwa:=YO RO hm C.1 la _ (fun e=>by cases e) Uv h hS;rw[<-u5]at hwa;refine wpIn_mono (PI hwa) ?_;intro e yY w1 hq;cases e with
 |normal=>
  obtain⟨ZB,pE,m1,hb,wP⟩:=hq;have v1:w1.heap[l]?=some (.loop r):=(wP.keep.block l Kp pG).trans u1;refine⟨_,run_beginRound v1 u2,?_⟩;obtain⟨w2,sY⟩:∃w2,w2=w1.putObj l (.loop { r with state:=.busy }):=⟨_,rfl⟩;rw[<-sY];have v2:w2.heap[l]?=some (.loop { r with state:=.busy }):=by rw[sY];exact World.putObj_heap_same (qL.1 v1).1
  have Ax:cY [l] w1 w2:=by rw[sY];exact Jb _ _ _
  have Rs:∀s b,ZB.b s=some b->¬fL pE w1 s b l:=fun s b k rr=>by
   rcases wP.fM s b l k rr with q|q
   .omega
   .exact pG q
  have Ro:∀s b j,ZB.b s=some b->fL pE w2 s b j->j≠l:=fun s b j k rr e=>by
   subst e;refine Rs s b k (((wP.bx s b k).dS (fun r=>Ax.block _ (wP.lt k r) ?_)).1 rr);rw[sG];intro e2;exact Rs s b k (.inl ⟨r,e2⟩)
  have T8:∀o,m1 l o=none:=fun o=>by
   cases hv:m1 l o with
   |none=>rfl
   |some v=>
    have:=wP.mem l o v hv
    simp[World.mem,World.cell?,v1]at this
  have nA:Sat nt w ⟨m,ρ,[],Up,false⟩ (l::CD) ZB pE m1 yY w2:=(wP.ZxW (fun k hk=>by simp[hk]) (fun k hk=>by
   rcases jT.1 hk with rfl|hk
   .exact uJ.free IM _ Kr
   .exact uJ.free IM k (zP k hk))).write (k:=l) Rs T8 (.inr (by simp)) (.inl (by rw[v1];simp)) Ax
  obtain⟨HP,QT⟩:∃HP,HP=(CD++List.range' w.heap.size (w2.heap.size-w.heap.size)).filter (fun k=>@decide (∀o,m1 k o=none) (Classical.propDecidable _)):=⟨_,rfl⟩;have in2:∀b,(w.heap.size<=b\/b∈l::CD)->b<w2.heap.size->b≠l->(∀o,m1 b o=none)->b∈HP:=fun b hb aI dA hz=>by
   rw[QT];refine iZ.2 ⟨?_,by simpa using hz⟩;rw[sS];rcases hb with hb|hb
   .exact .inr (List.mem_range'_1.2 ⟨hb,by omega⟩)
   .rcases jT.1 hb with hb|hb
    .exact absurd hb dA
    .exact .inl hb
  have HQ:∀b∈HP,w.heap.size<=b\/b∈CD:=fun b hb=>by
   rw[QT]at hb;have hb:=(iZ.1 hb).1;rw[sS]at hb;rcases hb with hb|hb
   .exact .inr hb
   .exact .inl (List.mem_range'_1.1 hb).1
  have rJ:l∉HP:=fun hb=>by
   rcases HQ l hb with q|q
   .omega
   .exact pG q
  have P8:∀k∈HP,∀o,m1 k o=none:=fun k hk=>by
   rw[QT]at hk;simpa using(iZ.1 hk).2
  have Wp:Sat nt w2 ⟨m1,pE,[],nA.uL,false⟩ HP ZB pE m1 yY w2:=
   ⟨let ⟨ds,h1,h2,h3⟩:=nA.sM;⟨ds,h1,h2,fun D hD=>⟨.inr (in2 D (h3 D hD).1 (qL.1 (h3 D hD).2).1 (fun e=>by have:=(h3 D hD).2;rw[e,v2]at this;cases this) (fun o=>by
    cases hv:m1 D o with
    |none=>rfl
    |some v=>
     have:=nA.mem D o v hv
     simp[World.mem,World.cell?,(h3 D hD).2]at this)),(h3 D hD).2⟩⟩,nA.sz,nA.tm,nA.bx,nA.eA,nA.mem,nA.eQ,
    fun s b j k rr=>.inr (in2 _ (nA.fM s b j k rr) (nA.G8 k rr) (Ro s b j k rr) (nA.eQ s b j k rr)),cY.tS _ _,⟨Le.refl _,fun k hk=>P8 k hk⟩,fun b o v k=>.inl k,fun i=>rfl⟩
  have RN:Gq (some l) w2 HP:=fun l' e=>by cases e;exact⟨⟨_,v2⟩,rJ⟩
  have QH:=YO RN hm C.2 lb _ (fun e=>by cases e) Uu hb Wp;rw[<-u6]at QH;refine wpIn_mono (PI QH) ?_;have fin:∀(st:Option Code) (rA:Act) (w3:World),G6 nt w2 ⟨m1,pE,[],nA.uL,false⟩ HP (HJ C ps nt tm i R st) rA w3->∃v w',(Instr.endRound l st).run P w3=.ok v w'/\lI w m ρ B R (.returned v) w':=by
   rintro st rA w3 ⟨τ,UW,m3,⟨fz,outs,q1,o7,q2,q3⟩,Q5⟩;obtain⟨m4,hF⟩:=Q5.aY fz;obtain⟨bX,g1,g2,g3,g4⟩:=Nb hF q1 q2;have v3:w3.heap[l]?=some (.loop { r with state:=.busy }):=(hF.keep.block l (qL.1 v2).1 rJ).trans v2;have dG:=run_endRound (P:=P) st v3;obtain⟨w4,Bg⟩:∃w4,w4=w3.putObj l (.loop { { r with state:=.busy }with state:=if st.isNone then .ready else .done,pending:=st }):=⟨_,rfl⟩;rw[<-Bg]at dG;have v4:w4.heap[l]?=some (.loop { { r with state:=.busy }with state:=if st.isNone then .ready else .done,pending:=st }):=by rw[Bg];exact World.putObj_heap_same (qL.1 v3).1
   have S7:cY [l] w3 w4:=by rw[Bg];exact Jb _ _ _
   have J8:∀j,bX (.par j)=ρ (.par j):=fun j=>(g3 j).trans ((hF.par j).trans (wP.par j))
   have yQ:Le m m4:=wP.base.1.trans hF.base.1;have Sl:w.heap.size<=w2.heap.size:=nA.keep.size;have Rr:∀s b,(aY fz τ).b s=some b->¬fL UW w3 s b l:=fun s b k rr=>by
    rcases hF.fM s b l k rr with q|q
    .omega
    .exact rJ q
   have PR:∀s b,((aY fz τ).exp outs outs).lookup s=some b->¬fL bX w3 s b l:=fun s b k rr=>by
    obtain⟨s0,b0,e1,e2⟩:=g4 s b l k rr;exact Rr s0 b0 e1 e2
   have LZ:∀s b,((aY fz τ).exp outs outs).lookup s=some b->∀j,fL bX w3 s b j->w4.heap[j]?=w3.heap[j]?:=fun s b k j rr=>S7.block _ (by
    obtain⟨s0,b0,e1,e2⟩:=g4 s b j k rr;exact hF.G8 e1 e2) (by
    rw[sG];intro e;subst e;exact PR s b k rr)
   have zZ:∀s b,((aY fz τ).exp outs outs).lookup s=some b->∀j,fL bX w4 s b j->fL bX w3 s b j:=fun s b k j rr=>((g2.bx s b k).dS (fun r=>LZ s b k _ (xV r))).1 rr
   have Ch:∀o,m4 l o=none:=fun o=>by
    cases hv:m4 l o with
    |none=>rfl
    |some v=>
     have:=hF.mem l o v hv
     simp[World.mem,World.cell?,v3]at this
   refine⟨_,w4,dG,.bool st.isNone,.pv (.bool st.isNone),_,bX,m4,rfl,q3,?_,?_,?_,?_,?_,?_,.pv _ _ (.bool _),?_⟩
   .refine⟨fun s b k=>?_,fun s s' b b' j k k' rr MC=>?_,fun s b j k rr o=>?_⟩
    .by_cases hs:s=.par i
     .subst hs;rw[mX]at k;cases k;refine⟨by rw[J8];exact CY,{ { r with state:=.busy }with state:=if st.isNone then .ready else .done,pending:=st },by rw[J8,<-hl];exact v4,by cases st<;>rfl,rfl,u4,u5,u6,u7,fun t a k=>?_⟩;obtain⟨v,k1,k2⟩:=u8 t a k;obtain⟨j,hj⟩:=ZdS k;have k3:=k2.more yQ;have k4:=k3.map (g:=id) (bX:=bX) (q:=Site.x3) (fun s hs=>by
       cases s with
       |par i=>exact J8 i
       |_=>cases hs) (W4 AG hj)
      rw[Hd]at k4;exact⟨v,k1,k4⟩
     .rw[jJ hs]at k;exact(g2.bx s b k).more (Le.refl _) (LZ s b k)
    .by_cases hs:s=.par i<;>by_cases Z6:s'=.par i
     .rw[hs,Z6]
     .subst hs;rw[mX]at k;cases k;rw[jJ Z6]at k';have e:=(FD rfl rr).2;rw[J8,<-hl]at e;subst e;exact absurd (zZ s' b' k' _ MC) (PR s' b' k')
     .subst Z6;rw[mX]at k';cases k';rw[jJ hs]at k;have e:=(FD rfl MC).2;rw[J8,<-hl]at e;subst e;exact absurd (zZ s b k _ rr) (PR s b k)
     .rw[jJ hs]at k;rw[jJ Z6]at k';exact g2.eA s s' b b' j k k' (zZ s b k _ rr) (zZ s' b' k' _ MC)
    .by_cases hs:s=.par i
     .subst hs;rw[mX]at k;cases k;have e:=(FD rfl rr).2;rw[J8,<-hl]at e;subst e;exact Ch o
     .rw[jJ hs]at k;exact g2.eQ s b j k (zZ s b k _ rr) o
   .exact yQ
   .intro b o v hv;have h1:=hF.mem b o v hv;refine(World.cell?_of_block (a:=⟨b,o,none⟩) (S7.block b (BJ h1) ?_)).trans h1;rw[sG];intro e;have e':b=l:=e;subst e';rw[Ch o]at hv;cases hv
   .exact J8
   .intro s b j k rr;by_cases hs:s=.par i
    .subst hs;rw[mX]at k;cases k;have e:=(FD rfl rr).2;rw[J8,<-hl]at e;subst e;exact .inr Kr
    .rw[jJ hs]at k;obtain⟨s0,b0,e1,e2⟩:=g4 s b j k (zZ s b k _ rr);rcases hF.fM s0 b0 j e1 e2 with q|q
     .exact .inl (lM Sl q)
     .exact(HQ _ q).imp id (zP _)
   .intro b o v hv;rcases hF.qJ b o v hv with q|q|q
    .rcases nA.qJ b o v q with q|q|q
     .exact .inl q
     .exact .inr (.inl q)
     .rcases jT.1 q with q|q
      .subst q;exact .inr (.inr Kr)
      .exact .inr (.inr (zP _ q))
    .exact .inr (.inl (lM Sl q))
    .exact .inr ((HQ _ q).imp id (zP _))
   .have k1:=nA.keep;have k3:=hF.keep;refine⟨S7.os.trans (k3.os.trans k1.os),S7.tape.trans (k3.tape.trans k1.tape),S7.output.trans (k3.output.trans k1.output),lM Sl (lM k3.size S7.size),fun k hk hn=>?_⟩;have xO:k≠l:=fun e=>hn (e▸Kr)
    have iC:k∉CD:=fun q=>hn (zP _ q)
    have a1:=k1.block k hk (by simp[xO,iC]);have a2:=k3.block k (by omega) (fun q=>by
     rcases HQ k q with q|q
     .omega
     .exact iC q)
    have a3:=S7.block k (by have:=k3.size;omega) (by simpa using xO);exact a3.trans (a2.trans a1)
  intro e rA w3 VZ;cases e with
  |normal=>exact fin none rA w3 VZ
  |ret=>exact fin (some .ret) rA w3 VZ
  |exit id=>exact fin (some (.exit id)) rA w3 VZ
  |goto t=>exact VZ.elim
  |panic ch=>exact VZ.elim
  |outgrown=>exact VZ.elim
 |ret=>obtain⟨_,_,_,q,_⟩:=hq;exact q.elim
 |exit id=>obtain⟨_,_,_,q,_⟩:=hq;exact q.elim
 |goto t=>exact hq.elim
 |panic ch=>exact hq.elim
 |outgrown=>exact hq.elim
end
section
universe u
section
variable {α:Type u}
end
theorem ZrK (a b:Nat):Nat.beq a b=decide (a=b):=by
 cases h:Nat.beq a b with
 |true=>rw[Nat.eq_of_beq_eq_true h];simp
 |false=>
  have:a≠b:=fun e=>by subst e;rw[Nat.beq_refl]at h;cases h
  simp[this]
def Site.OK (d:Nat):Site->Bool
 |.loc e _=>Nat.beq d e
 |_=>false
theorem Site.ZwZ (d:Nat)(s:Site):s.OK d=s.fP d:=by
 cases s with
 |loc e j=>
  show Nat.beq d e=(d==e);rw[ZrK];rfl
 |_=>rfl
def Site.Ft:Site->Site->Bool
 |.par i,.par j=>Nat.beq i j
 |.loc a b,.loc c d=>Nat.beq a c&&Nat.beq b d
 |.ret i,.ret j=>Nat.beq i j
 |_,_=>false
theorem Site.ZxS (s t:Site):s.Ft t=decide (s=t):=by
 cases s<;>cases t<;>simp only[Site.Ft,ZrK]<;>simp
theorem Site.Zxf (s t:Site):s.Ft t=(s==t):=by rw[Site.ZxS];rfl
def AV.Ym (d:Nat)(a:AV):Bool:=match a with
 |.pv _=>false
 |.any=>false
 |.ptr s _=>s.OK d
 |.lG s _ _ _=>s.OK d
 |.vec s _ _ _=>s.OK d
 |.mp s=>s.OK d
 |.nQ s=>s.OK d
 |a=>a.has d
theorem AV.ZxP (d:Nat)(a:AV):a.Ym d=a.has d:=by cases a<;>simp[AV.Ym,AV.has,Site.ZwZ]
def AV.tU (d:Nat)(a:AV):AV:=match a.Ym d with
 |true=>.any
 |false=>a
theorem AV.x5 (d:Nat)(a:AV):a.tU d=a.bG d:=by
 unfold AV.tU AV.bG;rw[AV.ZxP];cases a.has d<;>rfl
def aJ.tU (d:Nat):aJ->aJ
 |.cells bU=>.cells (bU.map (AV.tU d))
 |.loop C ps nt tm st=>.loop C ps nt (tm.map fun p=>(p.1,p.2.tU d)) st
 |b=>b
theorem aJ.x5 (d:Nat)(b:aJ):b.tU d=b.bG d:=by
 have h:AV.tU d=AV.bG d:=funext (AV.x5 d);cases b<;>simp[aJ.tU,aJ.bG,h]
def AS.tU (d:Nat)(σ:AS):AS:=⟨σ.tm.map fun p=>(p.1,p.2.tU d),(σ.bx.filter fun p=>!p.1.OK d).map fun p=>(p.1,p.2.tU d)⟩
theorem AS.x5 (d:Nat)(σ:AS):σ.tU d=σ.bG d:=by
 have h:AV.tU d=AV.bG d:=funext (AV.x5 d);have h2:aJ.tU d=aJ.bG d:=funext (aJ.x5 d);have h3:Site.OK d=Site.fP d:=funext (Site.ZwZ d);simp only[AS.tU,AS.bG,h,h2,h3]
def X5 {β:Type}(s:Site):List (Site×β)->Option β
 |[]=>none
 |(a,b)::r=>match s.Ft a with
  |true=>some b
  |false=>X5 s r
theorem Zk5 {β:Type}(s:Site):∀l:List (Site×β),X5 s l=l.lookup s
 |[]=>rfl
 |(a,b)::r=>by
  unfold X5;rw[List.lookup,Site.Zxf,Zk5 s r];cases(s==a)<;>rfl
def AS.bF (σ:AS)(s:Site):Option aJ:=X5 s σ.bx
theorem AS.OL (σ:AS)(s:Site):σ.bF s=σ.b s:=Zk5 s σ.bx
def HW (s:Site):List Site->Bool
 |[]=>false
 |a::r=>match s.Ft a with
  |true=>true
  |false=>HW s r
theorem ZnZ (s:Site):∀l:List Site,HW s l=l.contains s
 |[]=>rfl
 |a::r=>by
  unfold HW;rw[List.contains_cons,Site.Zxf,ZnZ s r];cases(s==a)<;>rfl
end
def jO (z:Int):Option Nat:=match decide (0<=z)with
 |true=>some z.toNat
 |false=>none
theorem LC {z:Int}{n:Nat}:jO z=some n↔z=n:=by
 unfold jO;by_cases h:0<=z
 .simp[h];omega
 .simp[h];omega
def GV (n:Nat)(x:PV):Bool:=(x.cells.length==n)&&((AV.pv x).wide||(AV.pv x).one)
def HR (l:W6)(d:Nat)(σ:AS):Option (AV×AS):=
 match l with
 |.eqv neg kt x y=>match σ.o x,σ.o y with
  |.pv a,.pv b=>match kt.ok a&&kt.ok b with
   |true=>some (.pv (.bool (gV a b != neg)),σ)
   |false=>none
  |_,_=>none
 |.G7=>some (.mp (.loc d 0),(σ.tU d).add (.loc d 0) (.map []))
 |.look kt z ok x i=>match σ.o i with
  |.pv k=>match kt.ok k with
   |true=>match σ.o x with
    |.mp s=>match σ.bF s with
     |some (.map es)=>match A4 kt es with
      |true=>some (gK ok (fA k es) z,σ)
      |false=>none
     |_=>none
    |.pv .cV=>some (gK ok none z,σ)
    |_=>none
   |false=>none
  |_=>none
 |.iQ kt x i v=>match σ.o i with
  |.pv k=>match kt.ok k with
   |true=>match σ.o x with
    |.mp s=>match(σ.xD (σ.o v)).bF s,(σ.xD (σ.o v)).o v with
     |some (.map es),.pv val=>match A4 kt es with
      |true=>some (.any,(σ.xD (σ.o v)).set s (.map (mM k val es)))
      |false=>none
     |_,_=>none
    |_=>none
   |false=>none
  |_=>none
 |.CG x=>match σ.o x with
  |.mp s=>match σ.bF s with
   |some (.map es)=>some (.pv (.int .i64 es.length),σ)
   |_=>none
  |.pv .cV=>some (.pv (.int .i64 0),σ)
  |_=>none
 |.copy n x y=>match σ.cont (σ.o y) n with
  |some ys=>match σ.o x with
   |.pv (.emp _)=>some (.pv (.int .i64 0),σ)
   |.vec s n' lo len=>match σ.bF s with
    |some (.arr e eW xs)=>match(n'==n)&&(eW==n)&&Nat.ble (lo+len) xs.length with
     |true=>some (.pv (.int .i64 (ys.take len).length),σ.set s (.arr e n (aR xs lo (ys.take len))))
     |false=>none
    |_=>none
   |_=>none
  |none=>none
 |.clear n z x=>match σ.o x with
  |.pv (.emp _)=>some (.pv (.bN []),σ)
  |.vec s n' lo len=>match σ.bF s with
   |some (.arr e eW xs)=>match(n'==n)&&(eW==n)&&Nat.ble (lo+len) xs.length with
    |true=>some (.pv (.bN []),σ.set s (.arr e n (aR xs lo (List.replicate len z))))
    |false=>none
   |_=>none
  |_=>none
 |.FL n x hi=>match σ.o hi with
  |.pv (.int _ h)=>match jO h with
   |some k=>match σ.o x with
    |.ptr s off=>match σ.bF s with
     |some (.cells gG)=>match eD gG with
      |some xs=>match Nat.ble k n&&Nat.ble (off+n) xs.length with
       |true=>some (.pv (.aF false 1 ((xs.drop off).take k)),σ.cJ s)
       |false=>none
      |none=>none
     |_=>none
    |.pv (.ref xs)=>match Nat.ble k n&&Nat.ble n xs.length with
     |true=>some (.pv (.aF false 1 (xs.take k)),σ)
     |false=>none
    |_=>none
   |none=>none
  |_=>none
 |.ZM _ _ _ _=>none
 |.rP x=>match σ.o x with
  |.pv (.str s)=>some (.pv (.int .i64 s.size),σ)
  |_=>none
 |.B3 x i=>match σ.o x,σ.o i with
  |.pv (.str s),.pv (.int _ z)=>match BT s z with
   |some b=>some (.pv (.int .u8 b.toNat),σ)
   |none=>none
  |_,_=>none
 |.VB x lo hi=>match σ.o x with
  |.pv (.str s)=>match σ.ob lo 0,σ.ob hi s.size with
   |some l,some h=>match jO l,jO h with
    |some i,some j=>match Nat.ble i j&&Nat.ble j s.size with
     |true=>some (.pv (.str (s.extract i j)),σ)
     |false=>none
    |_,_=>none
   |_,_=>none
  |_=>none
 |.fT x y=>match σ.o x,σ.o y with
  |.pv (.str a),.pv (.str b)=>match Nat.ble (a.size+b.size) 9223372036854775807 with
   |true=>some (.pv (.str (a++b)),σ)
   |false=>none
  |_,_=>none
 |.BS _ x=>match σ.o x with
  |.pv (.str s)=>match Nat.ble s.size 1000000 with
   |true=>some (.pv (.aF false 1 (qN s)),σ)
   |false=>none
  |_=>none
 |.PK x=>match σ.cont (σ.o x) 1 with
  |some xs=>match BC xs with
   |some ns=>some (.pv (.str (KJ ns)),σ)
   |none=>none
  |none=>none
 |.sN t x=>match σ.o x with
  |.pv a=>some (.pv (.iface t a),σ)
  |_=>none
 |.MJ neg x=>match σ.o x with
  |.pv .eY=>some (.pv (.bool (!neg)),σ)
  |.pv (.iface _ _)=>some (.pv (.bool neg),σ)
  |_=>none
 |.LX t z x=>match σ.o x with
  |.pv .eY=>some (.pv (.bN [z,.bool false]),σ)
  |.pv (.iface u a)=>some (.pv (.bN (if u=t then[a,.bool true]else[z,.bool false])),σ)
  |_=>none
 |.B8 _=>none
 |.Fo _ _=>none
 |.WU e n bytes x y=>match σ.o y with
  |.pv (.str s0)=>match σ.o x with
   |.pv (.emp _)=>match Nat.ble (qN s0).length 1000000&&Nat.ble bytes 1000 with
    |true=>some (.vec (.loc d 0) n 0 (qN s0).length,(σ.tU d).add (.loc d 0) (.arr e n (qN s0)))
    |false=>none
   |.vec s n' lo len=>match σ.bF s with
    |some (.arr e' eW xs)=>match(e'==e)&&(n'==n)&&(eW==n)&&(lo+len==xs.length)&&Nat.ble (len+(qN s0).length) 1000000&&Nat.ble bytes 1000 with
     |true=>some (.vec (.loc d 0) n 0 (len+(qN s0).length),((σ.drop s).tU d).add (.loc d 0) (.arr e n (xs.drop lo++qN s0)))
     |false=>none
    |_=>none
   |_=>none
  |_=>none
theorem JO {a b:Nat}(h1:a<=1000000)(h2:b<=1000):a*b<=140737488355328/\a<=9223372036854775807:=
 ⟨lM (Nat.mul_le_mul h1 h2) (by decide),by omega⟩
theorem Zl0 {l:W6}{d:Nat}{σ τ:AS}{a:AV}{K:AV->AS->Prop}(h:HR l d σ=some (a,τ))(hK:K a τ):cI l d K σ:=by
 cases l
 all_goals
  simp only[HR,AS.x5,AS.OL]at h;simp only[cI]
  repeat' split at h
  all_goals first
   |(cases h;done)
   |(cases h;simp_all;done)
   |(cases h;simp_all;exact JO (by omega) (by omega))
   |(cases h;simp_all;omega)
   |(cases h;simp_all [LC];done)
   |(cases h;simp_all [LC];omega)
def FM (l:lY)(d:Nat)(σ:AS):Option (AV×AS):=
 match l with
 |.dU x=>some (σ.o x,σ)
 |.pick c a b=>match σ.o c with
  |.pv (.bool true)=>some (σ.o a,σ)
  |.pv (.bool false)=>some (σ.o b,σ)
  |_=>none
 |.bin bt op x y=>match σ.o x,σ.o y with
  |.pv (.int k a),.pv (.int k' b)=>match EJ op k k' a b with
   |some r=>some (.pv r,σ)
   |none=>none
  |.pv (.bool a),.pv (.bool b)=>match bt with
   |true=>match EK op a b with
    |some r=>some (.pv r,σ)
    |none=>none
   |false=>none
  |_,_=>none
 |.not x=>match σ.o x with
  |.pv (.bool a)=>some (.pv (.bool (!a)),σ)
  |_=>none
 |.neg x=>match σ.o x with
  |.pv (.int k a)=>some (.pv (.int k (k.wrap (0-a))),σ)
  |_=>none
 |.yJ k neg x=>match dI k (σ.o x)with
  |some b=>some (.pv (.bool (b != neg)),σ)
  |none=>none
 |.x y=>HR y d σ
 |.box n x=>let a:=(σ.tU d).o x
  match(a.cells.length==n)&&(a.wide||a.one)with
  |true=>some (.ptr (.loc d 0) 0,(σ.tU d).add (.loc d 0) (.cells a.cells))
  |false=>none
 |.alloc z=>some (.ptr (.loc d 0) 0,(σ.tU d).add (.loc d 0) (.cells (z.cells.map .pv)))
 |.build z ps=>match wQ σ (z.cells.map .pv) ps with
  |some l=>some (y0 l,σ)
  |none=>none
 |.aQ e n ps=>match(σ.EU ps).tY ps with
  |some []=>some (.pv (.emp (some false)),σ)
  |some (x::xs)=>match(x::xs).all (GV n)with
   |true=>some (.vec (.loc d 0) n 0 (x::xs).length,((σ.EU ps).tU d).add (.loc d 0) (.arr e n (x::xs)))
   |false=>none
  |none=>none
 |.load row n x=>match σ.o x with
  |.pv (.ref cs)=>match row with
   |true=>match Nat.ble n cs.length with
    |true=>some (.pv (.agg (cs.take n)),σ)
    |false=>none
   |false=>match cs with
    |c::_=>some (.pv c,σ)
    |[]=>none
  |.ptr s off=>match σ.bF s with
   |some (.cells bU)=>match row with
    |true=>match Nat.ble (off+n) bU.length with
     |true=>some (y0 ((bU.drop off).take n),σ)
     |false=>none
    |false=>match bU[off]? with
     |some a=>some (a,σ)
     |none=>none
   |_=>none
  |.lG s n' i off=>match σ.bF s with
   |some (.arr _ eW xs)=>match xs[i]? with
    |some x=>match n'==eW with
     |true=>match row with
      |true=>match Nat.ble (off+n) x.cells.length with
       |true=>some (.pv (.agg ((x.cells.drop off).take n)),σ)
       |false=>none
      |false=>match x.cells[off]? with
       |some c=>some (.pv c,σ)
       |none=>none
     |false=>none
    |none=>none
   |_=>none
  |_=>none
 |.store n x y=>match σ.o x with
  |.ptr s off=>match σ.bF s with
   |some (.cells bU)=>let a:=σ.o y
    match(a.cells.length==n)&&(a.wide||a.one)&&Nat.ble (off+n) bU.length with
    |true=>some (.any,σ.set s (.cells (aR bU off a.cells)))
    |false=>none
   |_=>none
  |.lG s n' i off=>match(σ.xD (σ.o y)).bF s,(σ.xD (σ.o y)).o y with
    |some (.arr e eW xs),.pv p=>match xs[i]? with
     |some x=>match(n'==eW)&&Nat.blt 0 n&&GV n p&&Nat.ble (off+n) x.cells.length with
      |true=>some (.any,(σ.xD (σ.o y)).set s (.arr e eW (xs.set i (setAt x off p))))
      |false=>none
     |none=>none
    |_,_=>none
  |_=>none
 |.fa off x=>match σ.o x with
  |.pv (.ref cs)=>match Nat.ble off cs.length with
   |true=>some (.pv (.ref (cs.drop off)),σ)
   |false=>none
  |.ptr s o=>some (.ptr s (o+off),σ)
  |.lG s n i o=>some (.lG s n i (o+off),σ)
  |_=>none
 |.NX row off n x=>let a:=σ.o x
  match a.wide with
  |true=>match row with
   |true=>match Nat.ble (off+n) a.cells.length with
    |true=>some (y0 ((a.cells.drop off).take n),σ)
    |false=>none
   |false=>match a.cells[off]? with
    |some c=>some (c,σ)
    |none=>none
  |false=>none
 |.ia n arr x i=>match σ.o i with
  |.pv (.int _ zi)=>match jO zi with
   |none=>none
   |some z=>match arr with
    |none=>match σ.o x with
     |.pv (.aF _ n' xs)=>match xs[z]? with
      |some y=>match n'==n with
       |true=>some (.pv (.ref y.cells),σ)
       |false=>none
      |none=>none
     |.vec s n' lo len=>match(n'==n)&&Nat.blt z len with
      |true=>some (.lG s n (lo+z) 0,σ)
      |false=>none
     |_=>none
    |some l=>match Nat.blt z l with
     |true=>match σ.o x with
      |.pv (.ref cs)=>match Nat.ble (z*n) cs.length with
       |true=>some (.pv (.ref (cs.drop (z*n))),σ)
       |false=>none
      |.ptr s o=>some (.ptr s (o+z*n),σ)
      |.lG s n' j o=>some (.lG s n' j (o+z*n),σ)
      |_=>none
     |false=>none
  |_=>none
 |.len arr x=>match arr with
  |some l=>some (.pv (.int .i64 l),σ)
  |none=>match σ.o x with
   |.pv (.aF _ _ xs)=>some (.pv (.int .i64 xs.length),σ)
   |.pv (.emp _)=>some (.pv (.int .i64 0),σ)
   |.vec _ _ _ len=>some (.pv (.int .i64 len),σ)
   |_=>none
 |.ext x i=>match σ.o x with
  |.pv (.bN vs)=>match vs[i]? with
   |some v=>some (.pv v,σ)
   |none=>none
  |.bN vs=>match vs[i]? with
   |some v=>some (v,σ)
   |none=>none
  |_=>none
 |.yK f fs cs=>match σ.tY fs,σ.tY cs with
  |some a,some b=>some (.pv (.fn f a b),σ)
  |_,_=>some (.fn f (fs.map σ.o) (cs.map σ.o),σ)
 |.vW x=>match σ.o x with
  |.pv (.ref cs)=>some (.pv (.ref cs),σ)
  |.ptr s o=>some (.ptr s o,σ)
  |.lG s n i o=>some (.lG s n i o,σ)
  |_=>none
 |.jC mx x y=>match σ.o x,σ.o y with
  |.pv (.int k a),.pv (.int _ b)=>some (.pv (.int k (if mx=true then(if b>a then b else a)else(if b<a then b else a))),σ)
  |_,_=>none
 |.conv k x=>match σ.o x with
  |.pv (.int _ a)=>some (.pv (.int k (k.wrap a)),σ)
  |_=>none
 |.app e n bytes x y=>match σ.cont (σ.o y) n with
  |some ys=>match σ.o x with
   |.pv (.emp _)=>match Nat.ble ys.length 1000000&&Nat.ble bytes 1000 with
    |true=>some (.vec (.loc d 0) n 0 ys.length,(σ.tU d).add (.loc d 0) (.arr e n ys))
    |false=>none
   |.vec s n' lo len=>match σ.bF s with
    |some (.arr e' eW xs)=>match(e'==e)&&(n'==n)&&(eW==n)&&(lo+len==xs.length)&&Nat.ble (len+ys.length) 1000000&&Nat.ble bytes 1000 with
     |true=>some (.vec (.loc d 0) n 0 (len+ys.length),((σ.drop s).tU d).add (.loc d 0) (.arr e n (xs.drop lo++ys)))
     |false=>none
    |_=>none
   |_=>none
  |none=>none
 |.iR e n bytes x y=>match σ.cont (σ.o y) n with
  |some ys=>match σ.o x with
   |.pv (.emp _)=>match Nat.ble ys.length 1000000&&Nat.ble bytes 1000 with
    |true=>some (.vec (.loc d 0) n 0 ys.length,(σ.tU d).add (.loc d 0) (.arr e n ys))
    |false=>none
   |_=>none
  |none=>none
 |.VH e n bytes z l c=>match σ.o l,σ.o c with
  |.pv (.int _ ai),.pv (.int _ bi)=>match jO ai,jO bi with
   |some a,some b=>match Nat.ble a b&&Nat.ble b 1000000&&Nat.ble bytes 1000 with
    |true=>some (.vec (.loc d 0) n 0 a,(σ.tU d).add (.loc d 0) (.arr e n (List.replicate a z)))
    |false=>none
   |_,_=>none
  |_,_=>none
 |.J4 n none x lo hi none=>match σ.ob lo 0 with
  |some li=>match jO li with
   |none=>none
   |some l=>match σ.o x with
    |.pv (.aF nn n' xs)=>match σ.ob hi xs.length with
     |some hh=>match jO hh with
      |some h=>match Nat.ble l h&&Nat.ble h xs.length&&(n'==n)with
       |true=>some (.pv (.aF nn n ((xs.take h).drop l)),σ)
       |false=>none
      |none=>none
     |none=>none
    |.pv (.emp nl)=>match σ.ob hi 0 with
     |some hh=>match jO hh with
      |some h=>match(l==0)&&(h==0)with
       |true=>some (.pv (.emp nl),σ)
       |false=>none
      |none=>none
     |none=>none
    |.vec s n' AE len=>match σ.ob hi len with
     |some hh=>match jO hh with
      |some h=>match Nat.ble l h&&Nat.ble h len&&(n'==n)with
       |true=>some (.vec s n (AE+l) (h-l),σ)
       |false=>none
      |none=>none
     |none=>none
    |_=>none
  |none=>none
 |_=>none
theorem ZnO {l:lY}{d:Nat}{σ τ:AS}{a:AV}{K:AV->AS->Prop}(h:FM l d σ=some (a,τ))(hK:K a τ):cC l d K σ:=by
 cases l
 case x y=>exact Zl0 h hK
 case aQ e n ps=>
  simp only[FM,AS.x5,AS.OL]at h;simp only[cC];cases hx:(σ.EU ps).tY ps with
  |none=>rw[hx]at h;cases h
  |some xs=>
   rw[hx]at h;cases xs with
   |nil=>cases h;exact hK
   |cons x r=>
    dsimp only at h ⊢;split at h
    .rename_i eV;cases h;refine⟨fun y hy=>?_,hK⟩
     have:=rM.1 eV y hy
     simpa[GV]using this
    .cases h
 case jC mx x y=>
  simp only[FM,AS.x5,AS.OL]at h;simp only[cC];split at h
  .rename_i e1 e2;cases h;rw[e1,e2];exact hK
  .cases h
 case store n x y=>
  simp only[FM,AS.x5,AS.OL]at h;simp only[cC];split at h
  .rename_i s off e1;rw[e1];dsimp only;split at h
   .rename_i bU hb;rw[hb];dsimp only;split at h
    .rename_i hc;cases h;simp only[dK,beq_iff_eq,sD,Nat.ble_eq]at hc;exact⟨hc.1.1,hc.1.2,hc.2,hK⟩
    .cases h
   .cases h
  .rename_i s n' i off e1;rw[e1];dsimp only;split at h
   .rename_i e eW xs p nS hp;rw[nS,hp];dsimp only;split at h
    .rename_i x hx;rw[hx];dsimp only;split at h
     .rename_i hc;cases h;simp only[dK,beq_iff_eq,Nat.ble_eq,GV,sD]at hc;exact⟨hc.1.1.1,tR hc.1.1.2,hc.1.2.1,hc.1.2.2,hc.2,hK⟩
     .cases h
    .cases h
   .cases h
  .cases h
 case app e n bytes x y=>
  simp only[FM,AS.x5,AS.OL]at h;simp only[cC]
  repeat' split at h
  all_goals first
   |contradiction
   |(cases h;done)
   |(cases h;simp_all [GV,LC];exact JO (by omega) (by omega))
   |(cases h;simp_all [GV,LC];exact .inl (JO (by omega) (by omega)))
 case yK f fs cs=>
  simp only[FM,AS.x5,AS.OL]at h;simp only[cC];cases h1:σ.tY fs<;>cases h2:σ.tY cs<;>(rw[h1,h2]at h;cases h;exact hK)
 all_goals
  simp only[FM,AS.x5,AS.OL]at h;simp only[cC]
  repeat' split at h
  all_goals first
   |contradiction
   |(cases h;done)
   |(cases h;simp_all [GV,LC];done)
   |(cases h;simp_all [GV,LC];omega)
   |(cases h;simp_all [GV,LC];exact JO (by omega) (by omega))
def EY:List Site->Bool
 |[]=>true
 |s::r=>!HW s r&&EY r
theorem UI:∀{l:List Site},EY l=true->l.Nodup
 |[],_=>List.nodup_nil
 |s::r,h=>by
  simp only[EY,dK,Bool.not_eq_true']at h;exact List.nodup_cons.2 ⟨by have:=h.1;rw[ZnZ]at this;simpa using this,UI h.2⟩
def mT:AV->Option (FuncId×List AV×List AV)
 |.fn g fs cs=>some (g,fs,cs)
 |.pv (.fn g fs cs)=>some (g,fs.map .pv,cs.map .pv)
 |_=>none
abbrev UR:=Nat->List Nat->Option (bH×bH×(Code×Code))
def fuel:Nat:=4000
mutual
def PV.beq:PV->PV->Bool
 |.int k a,.int k' b=>decide (k=k')&&decide (a=b)
 |.bool a,.bool b=>decide (a=b)
 |.str a,.str b=>decide (a.data.toList=b.data.toList)
 |.eX,.eX=>true
 |.dP,.dP=>true
 |.cV,.cV=>true
 |.eY,.eY=>true
 |.P6,.P6=>true
 |.emp a,.emp b=>decide (a=b)
 |.aF a n xs,.aF b m ys=>decide (a=b)&&decide (n=m)&&PV.ES xs ys
 |.ref xs,.ref ys=>PV.ES xs ys
 |.fn f a b,.fn g c d=>decide (f=g)&&PV.ES a c&&PV.ES b d
 |.agg xs,.agg ys=>PV.ES xs ys
 |.bN xs,.bN ys=>PV.ES xs ys
 |.iface t x,.iface u y=>decide (t=u)&&PV.beq x y
 |_,_=>false
def PV.ES:List PV->List PV->Bool
 |[],[]=>true
 |x::xs,y::ys=>PV.beq x y&&PV.ES xs ys
 |_,_=>false
end
def zH (P:Program)(TY:UR):bH->Prop
 |.seq a b=>zH P TY a/\zH P TY b
 |.cond _ a b=>zH P TY a/\zH P TY b
 |.block _ c=>zH P TY c
 |.loop c=>zH P TY c
 |.vM nt _ C la lb ps=>dQ P nt C.1=some la/\dQ P nt C.2=some lb/\TY nt ps=some (la,lb,C)/\zH P TY la/\zH P TY lb
 |_=>True
def kV (TY:UR):bH->Prop
 |.seq a b=>kV TY a/\kV TY b
 |.cond _ a b=>kV TY a/\kV TY b
 |.block _ c=>kV TY c
 |.loop c=>kV TY c
 |.vM nt _ C la lb ps=>TY nt ps=some (la,lb,C)/\kV TY la/\kV TY lb
 |_=>True
theorem Ztr {P:Program}{TY:UR}{N:Nat}:∀(c:Code) (l:bH),dQ P N c=some l->kV TY l->zH P TY l:=by
 intro c;induction c with
 |seq a b T0 r4=>
  intro l h ht;simp only[dQ]at h;split at h
  .rename_i x y h1 h2;cases h;exact⟨T0 _ h1 ht.1,r4 _ h2 ht.2⟩
  .cases h
 |cond c a b T0 r4=>
  intro l h ht;simp only[dQ]at h;split at h
  .rename_i c' x y h0 h1 h2;cases h;exact⟨T0 _ h1 ht.1,r4 _ h2 ht.2⟩
  .cases h
 |block id c ih=>
  intro l h ht;simp only[dQ,eB]at h;obtain⟨x,k1,rfl⟩:=h;exact ih x k1 ht
 |loop c ih=>
  intro l h ht;simp only[dQ,eB]at h;obtain⟨x,k1,rfl⟩:=h;exact ih x k1 ht
 |scope c ih=>intro l h ht;exact ih l h ht
 |rangeFunc g ps a b T0 r4=>
  intro l h ht;simp only[dQ]at h;split at h
  .rename_i g' x y h0 h1 h2;cases h;exact⟨h1,h2,ht.1,T0 _ h1 ht.2.1,r4 _ h2 ht.2.2⟩
  .cases h
 |region id ops draw=>
  intro l h ht;simp only[dQ]at h;split at h
  .cases h;trivial
  .split at h
   .simp only[eB]at h;obtain⟨x,_,rfl⟩:=h;trivial
   .cases h
 |_=>intro l h ht;simp[dQ]at h<;>subst h<;>trivial
section
variable {P:Program}{TY:UR}
theorem ZnN {l:lY}{d:Nat}{σ:AS}{K K':AV->AS->Prop}(hk:∀a τ,K a τ->K' a τ)(h:cC l d K σ):cC l d K' σ:=by
 cases l
 case x y=>
  simp only[cC]at h ⊢;cases y
  all_goals
   simp only[cI]at h ⊢
   repeat' split at h
   all_goals first
    |exact h.elim
    |exact hk _ _ h
    |exact⟨h.1,hk _ _ h.2⟩
    |exact⟨h.1,h.2.1,hk _ _ h.2.2⟩
    |(simp_all;done)
    |(simp_all<;>first|exact hk _ _ h.2|exact hk _ _ h|exact hk _ _ h.2.2)
 case jC mx x y=>
  simp only[cC]at h ⊢;split at h
  .exact hk _ _ h
  .exact h.elim
 case app e n bytes x y=>
  simp only[cC]at h ⊢;split at h
  .split at h
   .exact⟨h.1,h.2.1,hk _ _ h.2.2⟩
   .split at h
    .exact h.imp (fun h=>⟨h.1,h.2.1,h.2.2.1,hk _ _ h.2.2.2⟩) (fun h=>⟨h.1,h.2.1,h.2.2.1,hk _ _ h.2.2.2.1,hk _ _ h.2.2.2.2⟩)
    .exact h.elim
   .exact h.elim
  .exact h.elim
 all_goals
  simp only[cC]at h ⊢
  repeat' split at h
  all_goals first
   |exact h.elim
   |(simp_all;done)
   |(simp_all<;>first|exact hk _ _ h.2|exact hk _ _ h|exact hk _ _ h.2.2)
theorem Zj3 {f:bB}{args:List bB}{d:Nat}{σ:AS}{K K':AV->AS->Prop}(hk:∀a τ,K a τ->K' a τ)(h:zD P f args d K σ):zD P f args d K' σ:=by
 rcases h with⟨k,g,fs,xs,cs,h1,h2,h3⟩|⟨fz,g,fs,xs,cs,h1,h2,h3⟩
 .exact .inl ⟨k,g,fs,xs,cs,h1,h2,h3.mono (fun _ _ ⟨y,e1,e2,e3⟩=>⟨y,e1,e2,hk _ _ e3⟩)⟩
 .exact .inr ⟨fz,g,fs,xs,cs,h1,h2,h3.mono (fun _ _ ⟨e1,e2⟩=>⟨e1,hk _ _ e2⟩)⟩
theorem Zi3 {f:bB}{args:List bB}{σ:AS}{K K':AV->AS->Prop}(hk:∀a τ,K a τ->K' a τ)(h:GX P f args K σ):GX P f args K' σ:=by
 obtain⟨d,fz,aE,g,fs,cs,B,h1,h2,h3,h4,h5,h6⟩:=h;exact⟨d,fz,aE,g,fs,cs,B,h1,h2,h3,h4,h5,h6.mono (fun _ _ ⟨e1,e2,e3⟩=>⟨e1,e2,hk _ _ e3⟩)⟩
theorem Zi2 {f:bB}{args:List bB}{σ:AS}{K K':AV->AS->Prop}(hk:∀a τ,K a τ->K' a τ)(h:GY P f args K σ):GY P f args K' σ:=by
 obtain⟨d,fz,aE,s,i,B,h1,h2,h3,h4,h5,h6,h7⟩:=h;refine⟨d,fz,aE,s,i,B,h1,h2,h3,h4,h5,h6,fun w m ρ vs a1 a2 a3 a4=>?_⟩;obtain⟨r,k1,k2,k3⟩:=h7 w m ρ vs a1 a2 a3 a4;exact⟨r,k1,k2,k3.mono (fun e w' ⟨v,r,B',bX,m',q1,⟨e1,e2,e3⟩,q2⟩=>⟨v,r,B',bX,m',q1,⟨e1,e2,hk _ _ e3⟩,q2⟩)⟩
theorem Zgx {o:LO}{σ:AS}{K K':AV->AS->Prop}(hk:∀a τ,K a τ->K' a τ)(h:lZ P o K σ):lZ P o K' σ:=by
 unfold lZ at h ⊢;split at h
 .rcases h with h|⟨aI,h|h⟩
  .exact Or.inl (Zj3 hk h)
  .exact Or.inr ⟨aI,Or.inl (Zi3 hk h)⟩
  .exact Or.inr ⟨aI,Or.inr (Zi2 hk h)⟩
 .exact ZnN hk h
theorem PC {o:LO}{σ:AS}{K K':AS->Prop}(hk:∀τ,K τ->K' τ)(h:pS P o K σ):pS P o K' σ:=by
 unfold pS at h ⊢;split at h
 .exact Zgx (fun a τ q=>hk _ q) h
 .split at h
  .split at h
   .rename_i e;rw[if_pos e];exact Zgx (fun a τ q=>hk _ q) h
   .rename_i e;rw[if_neg e];exact hk _ h
  .exact hk _ h
  .exact h.elim
theorem ZgE:∀{l:List LO} {σ:AS} {K K':AS->Prop},(∀τ,K τ->K' τ)->oN P l K σ->oN P l K' σ
 |[],σ,K,K',hk,h=>hk _ h
 |o::r,σ,K,K',hk,h=>PC (fun τ q=>ZgE hk q) h
theorem Io:∀{l:LT} {σ:AS} {K K':AS->Prop},(∀τ,K τ->K' τ)->vS P l K σ->vS P l K' σ
 |.done,σ,K,K',hk,h=>hk _ h
 |.op o t,σ,K,K',hk,h=>PC (fun τ q=>Io hk q) h
 |.alt o t r,σ,K,K',hk,h=>⟨PC (fun τ q=>Io hk q) h.1,Io hk h.2⟩
 |.no,σ,K,K',hk,h=>trivial
 |.seq t r,σ,K,K',hk,⟨J,h1,h2⟩=>⟨J,h1,fun τ q=>Io hk (h2 τ q)⟩
theorem Zl5 {Q Q':sK->AS->Prop}(hk:∀e τ,Q e τ->Q' e τ):∀{st:Option Code} {σ:AS},lB Q st σ->lB Q' st σ:=by
 intro st σ h;cases st with
 |none=>exact hk _ _ h
 |some c=>cases c<;>first|exact hk _ _ h|exact h.elim
theorem KX:∀{c:bH} {σ:AS} {Q Q':sK->AS->Prop},uO P c Q σ->(∀e τ,Q e τ->Q' e τ)->uO P c Q' σ
 |.skip,σ,Q,Q',h,hk=>hk _ _ h
 |.region ops,σ,Q,Q',h,hk=>ZgE (fun τ q=>hk _ _ q) h
 |.jA t,σ,Q,Q',h,hk=>Io (fun τ q=>hk _ _ q) h
 |.seq a b,σ,Q,Q',h,hk=>KX (c:=a) h (fun e τ q=>by
   cases e with
   |normal=>exact KX (c:=b) q hk
   |exit id=>exact hk _ _ q
   |ret=>exact hk _ _ q)
 |.cond c a b,σ,Q,Q',h,hk=>by
   unfold uO at h ⊢;split at h
   .split at h
    .rename_i e;rw[if_pos e];exact KX h hk
    .rename_i e;rw[if_neg e];exact KX h hk
   .exact h.elim
 |.block id c,σ,Q,Q',h,hk=>KX (c:=c) h (fun e τ q=>by
   cases e with
   |normal=>exact hk _ _ q
   |exit MS=>
    by_cases e:MS=id
    .simp only[j9,e,if_true]at q ⊢;exact hk _ _ q
    .simp only[j9,e,if_false]at q ⊢;exact hk _ _ q
   |ret=>exact hk _ _ q)
 |.loop c,σ,Q,Q',⟨I,n,τ,h1,h2,h3⟩,hk=>⟨I,n,τ,h1,h2,fun n τ hI=>KX (c:=c) (h3 n τ hI) (fun e τ q=>by
   cases e with
   |normal=>exact q
   |exit id=>exact hk _ _ q
   |ret=>exact hk _ _ q)⟩
 |.exit id,σ,Q,Q',h,hk=>hk _ _ h
 |.ret,σ,Q,Q',h,hk=>hk _ _ h
 |.vM nt g C la lb ps,σ,Q,Q',⟨Qt,Bq,fz,aE,tm,lN,gf,fs,cs,B,h1,h2,h3,h4,h5,h6,h7,h8⟩,hk=>⟨Qt,Bq,fz,aE,tm,lN,gf,fs,cs,B,h1,h2,h3,h4,h5,h6,h7,h8.mono (fun r B' ⟨e1,e2,e3⟩=>⟨e1,e2,by
   revert e3;cases(((cT aE lN).bG (nt+1)).lX (fB aE (nt+1) B')).b (.loc nt 0)with
   |none=>exact fun h=>h.elim
   |some b=>cases b<;>first|exact fun h=>h.elim|exact fun h=>Zl5 hk h⟩)⟩
end
section
variable {P:Program}{TY:UR}
theorem GS.mono {i:Nat}{bU:List AV}{B:List (Site×aJ)}{oE P2:AV->List (Site×aJ)->Prop}(h:GS P i bU B oE)(hp:∀r B',oE r B'->P2 r B'):GS P i bU B P2:=
 fun w m ρ vs a1 a2 a3 a4=>let ⟨r,k1,k2,k3⟩:=h w m ρ vs a1 a2 a3 a4;⟨r,k1,k2,k3.mono (fun e w' ⟨v,r,B',bX,m',q1,q2,q3⟩=>⟨v,r,B',bX,m',q1,hp _ _ q2,q3⟩)⟩
mutual
theorem PV.beq_eq:∀(x y:PV),x.beq y=true->x=y
 |.int k a,y,h=>by cases y<;>simp[PV.beq]at h;rw[h.1,h.2]
 |.bool a,y,h=>by cases y<;>simp[PV.beq]at h;rw[h]
 |.str a,y,h=>by
  cases y<;>simp[PV.beq]at h;rename_i b;obtain⟨a⟩:=a;obtain⟨b⟩:=b
  have:a=b:=h
  rw[this]
 |.eX,y,h=>by cases y<;>simp[PV.beq]at h<;>rfl
 |.dP,y,h=>by cases y<;>simp[PV.beq]at h<;>rfl
 |.cV,y,h=>by cases y<;>simp[PV.beq]at h<;>rfl
 |.eY,y,h=>by cases y<;>simp[PV.beq]at h<;>rfl
 |.P6,y,h=>by cases y<;>simp[PV.beq]at h<;>rfl
 |.emp a,y,h=>by cases y<;>simp[PV.beq]at h;rw[h]
 |.aF a n xs,y,h=>by
  cases y<;>simp[PV.beq]at h;rw[h.1.1,h.1.2,PV.TP _ _ h.2]
 |.ref xs,y,h=>by cases y<;>simp[PV.beq]at h;rw[PV.TP _ _ h]
 |.fn f a b,y,h=>by
  cases y<;>simp[PV.beq]at h;rw[h.1.1,PV.TP _ _ h.1.2,PV.TP _ _ h.2]
 |.agg xs,y,h=>by cases y<;>simp[PV.beq]at h;rw[PV.TP _ _ h]
 |.bN xs,y,h=>by cases y<;>simp[PV.beq]at h;rw[PV.TP _ _ h]
 |.iface t x,y,h=>by
  cases y<;>simp[PV.beq]at h;rw[h.1,PV.beq_eq _ _ h.2]
theorem PV.TP:∀(x y:List PV),PV.ES x y=true->x=y
 |[],[],_=>rfl
 |[],_::_,h=>by simp[PV.ES]at h
 |_::_,[],h=>by simp[PV.ES]at h
 |x::xs,y::ys,h=>by
  simp only[PV.ES,dK]at h;rw[PV.beq_eq _ _ h.1,PV.TP _ _ h.2]
end
end
def HC:Code->List (Code×Code)
 |.seq a b=>HC a++HC b
 |.cond _ a b=>HC a++HC b
 |.block _ c=>HC c
 |.loop c=>HC c
 |.scope c=>HC c
 |.rangeFunc _ _ a b=>(a,b)::(HC a++HC b)
 |_=>[]
def fX (P:Program)(f:FuncId)(k:Nat):Code×Code:=match P.funcs[f]? with
 |some fn=>match fn.body with
  |some c=>(HC c).getD k (.skip,.skip)
  |none=>(.skip,.skip)
 |none=>(.skip,.skip)
def pM (l:List ((Nat×List Nat)×(bH×bH×(Code×Code)))):UR:=fun nt ps=>l.lookup (nt,ps)
theorem Hb {P:Program}{TY:UR}{f:FuncId}{F:aW}(h:fV P f=some F)(ht:kV TY F.code):zH P TY F.code:=by
 unfold fV at h;split at h
 .split at h
  .cases h
  .split at h
   .split at h
    .rename_i l r h1 h2;cases h;exact Ztr _ _ h1 ht
    .cases h
   .cases h
 .cases h
section
open Go.RowKit Go.ChangeShapes Go.WideShapes
theorem cY.but {w w':World}(h:cY [] w w')(may:MemPlace->Prop):w.keptBut w' may:=
 ⟨h.os,h.output,fun i hi=>by
  rw[h.block i hi (by simp)];cases w.heap[i]? with
  |none=>rfl
  |some o=>cases o<;>first|exact⟨rfl,rfl,rfl,fun _ _=>rfl⟩|exact .inr ⟨rfl,rfl⟩|rfl⟩
theorem ZnB {H:Type}{enc:TypeId×Value->H}{P:Program}{f:Func}{s:ChangeSpec}{apart fresh handsOn again:Bool}{W W':World}{args:Array Value}{v:Value}{ds gs:List (DataW H)}{before pa pv:List MemPlace}
  (hW:DataW.Whole enc P f.params.toList s.vars apart W args.toList ds gs before)
  (eR:∀(b:Nat) (sp:Nat->Bool) (hd:Bool),DataW.TrodAll enc P W' b sp hd f.resultTypes.toList (v.resultList f.resultTypes.size) (s.fn H (ds++gs)).results [])
  (fY:∀sp:Nat->Bool,(∀p∈before,sp p.block=true)->DataW.TrodAll enc P W' 0 sp true f.params.toList args.toList (s.fn H (ds++gs)).args pa)
  (K7:∀sp:Nat->Bool,(∀p∈before,sp p.block=true)->DataW.TrodVars enc P W' sp s.vars (s.fn H (ds++gs)).vars pv)
  (yM:before=pa++pv) (hk:cY [] W W')
  (dD:∀(j:Nat) (t:TypeId) (r:Value),f.resultTypes[j]?=some t->(v.resultList f.resultTypes.size)[j]?=some r->Value.okWide P W' .any 0 t r):
  s.post enc P f apart fresh handsOn again W args v W':=by
 have aI:=fun p hp=>hW.lt p hp
 have hold:∀p∈before,(fun b=>decide (b<W.heap.size)) p.block=true:=fun p hp=>by simpa using hW.lt p hp
 refine⟨ds,gs,before,[],pa,pv,hW,eR _ _ _,fY _ hold,K7 _ hold,World.keptBut_mono (fun p hp=>⟨hp,?_⟩) (hk.but (·∈before)),fun _=>?_⟩
 .rw[yM,sS]at hp;exact Or.inr hp
 .obtain⟨_,_,_,_,_,hz,hn⟩:=hW;refine⟨dD,_,_,([]++pa)++pv,⟨[]++pa,pv,trodAll_append (fY _ (fun _ _=>rfl)) (eR _ _ _),K7 _ (fun _ _=>rfl),rfl,?_,?_⟩,?_⟩
  .intro b off hp;have MY:MemPlace.cell b off∈before:=by rw[yM];simpa using hp
   have hb:b<W.heap.size:=aI _ MY
   have:=hz b off MY
   unfold World.frozen? at this ⊢;rw[hk.block b hb (by simp)];exact this
  .intro ha
   have:=hn ha
   rw[yM]at this;simpa using this
  .intro p hp _;rw[yM];simpa using hp
theorem Zme {P:Program}{f:FuncId}{xs:List PV}{b:Bool}(h:cU P f (xs.map .pv) [] (fun r _=>r=.pv (.bool b))){w:World}{vs:Array Value}(hl:vs.size=xs.length)(hv:∀(j:Nat) (v:Value) (x:PV),vs[j]?=some v->xs[j]?=some x->dH w.mem v x)(hg:nP w.mem w:=by exact trivial):
  Calls P f vs w fun e w'=>e=.returned (.bool b)/\cY [] w w':=by
 refine(h.2 w w.mem (fun _=>default) vs (vH.nil _ _ _) ⟨Le.refl _,hg,List.nodup_nil⟩ (by simpa using hl) (fun j d c h1 h2=>?_)).mono fun e w' ⟨v,r,B',bX,m',he,hr,_,_,_,_,_,_,lK,hk⟩=>?_
 .rw[bY]at h2;obtain⟨x,k1,rfl⟩:=eB.1 h2;exact .pv _ _ (hv j d x h1 k1)
 .subst hr;rw[lK.ON]at he;exact⟨he,hk⟩
end
section
open Go.RowKit Go.ChangeShapes Go.WideShapes Go.Deep
section
variable {H:Type}{enc:TypeId×Value->H}{P:Program}{w W W':World}{sp:Nat->Bool}{held:Bool}
theorem Zrj {b o n:Nat}{cs:List Value}(h:w.cells? 0 ⟨b,o,none⟩ n=some cs):At w.mem b o cs:=by
 obtain⟨_,h1,h2⟩:=World.cells?_some h;refine At.j8 fun j u hj=>?_
 have aI:=(cD.1 hj).1;have h3:=h2 j (by omega);rw[hj]at h3;have e:(⟨b,o,none⟩:Addr).add j=⟨b,o+j,none⟩:=by
  unfold Addr.add;split
  .rename_i h0;subst h0;rfl
  .rfl
 rw[e]at h3;exact h3
structure G5 (m:Mem)(n:Nat)(cs:List Value)(x:PV):Prop where
 l1:cs.length=n
 l2:x.cells.length=n
 one:∀d∈cs,d.oneCell'=true
 rd:∀(j:Nat) (d:Value) (c:PV),cs[j]?=some d->x.cells[j]?=some c->dH m d c
theorem ZjV {α β:Type}{p:Nat->α->β->Prop}:∀(l:List α),(∀(i:Nat) (a:α),l[i]?=some a->∃b,p i a b)->∃r:List β,r.length=l.length/\∀(i:Nat) (a:α) (b:β),l[i]?=some a->r[i]?=some b->p i a b:=by
 intro l;induction l generalizing p with
 |nil=>exact fun _=>⟨[],rfl,fun i a b h=>by simp at h⟩
 |cons x l ih=>
  intro h;obtain⟨b,hb⟩:=h 0 x rfl;obtain⟨r,h1,h2⟩:=ih (p:=fun i=>p (i+1)) (fun i a ha=>h (i+1) a (by simpa using ha));refine⟨b::r,by simp[h1],fun i a b' ha nT=>?_⟩;cases i with
  |zero=>simp at ha nT;subst ha nT;exact hb
  |succ i=>exact h2 i a b' (by simpa using ha) (by simpa using nT)
theorem ZpI {α:Type}{t e:TypeId}{n:Nat}(f:α->PV)(Q:α->Prop)(ht:P.underlying t=some (.slice e))(hn:P.cellsOf e=n){fuel:Nat}{v:Value}{x:DataW H×List MemPlace}(h:DataW.trod enc P w 0 sp held fuel t [v]=some x)
  (hs:∀a len cap,v=.slice (some a) len cap->a.spot=none) (he:∀(k:Nat) (cs:List Value) (y:DataW H×List MemPlace),DataW.trod enc P w 0 sp held k e cs=some y->cs.length=n->∃a:α,Q a/\G5 w.mem n cs (f a)):
  ∃l:List α,(∀a∈l,Q a)/\l.length<=9223372036854775807/\dH w.mem v (.aF false n (l.map f)):=by
 rcases open_slice ht h with⟨h0,_⟩|⟨a,len,cap,m,k,D,Pl,h0,_,hl,hc,hm,_,hx⟩
 .have:v=.slice none 0 0:=by simpa using h0
  subst this;refine⟨[],fun a ha=>by simp at ha,by simp,?_⟩;exact .aF none 0 false n [] (fun _=>[]) (by simp) (by simp) (fun _=>rfl) (fun A hA=>by cases hA) (fun hh=>by cases hh) (fun i x hx=>by simp at hx) (fun i x hx=>by simp at hx) (fun i x j d c hx=>by simp at hx)
 .have hv:v=.slice (some a) len cap:=by simpa using h0
  subst hv;have jP:=hs _ _ _ rfl;obtain⟨b,o,s⟩:=a;simp only at jP;subst jP;have T8:len<=m:=by rw[hm];split<;>omega
  have RV:∀(i:Nat) (u:Nat),(List.range len)[i]?=some u->∃z:List Value×α,Q z.2/\At w.mem b (o+i*n) z.1/\G5 w.mem n z.1 (f z.2):=by
   intro i u hu;have hi:i<len:=by have:=(cD.1 hu).1;simpa using this
   obtain⟨iM,h1,h2⟩:=hx i (by omega);rw[hn]at h1;obtain⟨_,hlen,_⟩:=World.cells?_some h1;obtain⟨z,X9,P8⟩:=he _ _ _ h2 hlen;refine⟨(iM,z),X9,?_,P8⟩;have e:(⟨b,o,none⟩:Addr).add (i*n)=⟨b,o+i*n,none⟩:=by
    unfold Addr.add;split
    .rename_i h0;rw[h0];rfl
    .rfl
   rw[e]at h1;exact Zrj h1
  obtain⟨r,D9,D8⟩:=ZjV (List.range len) RV;simp only[List.length_range]at D9;have Z7:∀(i:Nat) (z:List Value×α),r[i]?=some z->Q z.2/\At w.mem b (o+i*n) z.1/\G5 w.mem n z.1 (f z.2):=fun i z hz=>by
   have hi:i<len:=by have:=(cD.1 hz).1;omega
   exact D8 i i z (by simp[hi]) hz
  refine⟨r.map (·.2),fun a ha=>?_,?_,?_⟩
  .obtain⟨z,hz,rfl⟩:=iN.1 ha;obtain⟨i,hi⟩:=iO.1 hz;exact(Z7 i z hi).1
  .rw[fZ,D9];have:maxLen=9223372036854775807:=rfl;omega
  .have hlen:((r.map (·.2)).map f).length=len:=by simp[D9]
   have key:∀(i:Nat) (x:PV),((r.map (·.2)).map f)[i]?=some x->∃z,r[i]?=some z/\x=f z.2:=fun i x hx=>by
    rw[List.map_map,bY]at hx;obtain⟨z,h1,h2⟩:=eB.1 hx;exact⟨z,h1,h2.symm⟩
   have RY:∀(i:Nat) (z:List Value×α),r[i]?=some z->(r.getD i ([],z.2)).1=z.1:=fun i z hz=>by simp[List.getD_eq_getElem?_getD,hz]
   have uZ:∀(i:Nat) (z:List Value×α),r[i]?=some z->(match r[i]? with|some z=>z.1|none=>[])=z.1:=fun i z hz=>by rw[hz]
   rw[<-hlen];refine .aF (some ⟨b,o,none⟩) cap false n _ (fun i=>match r[i]? with|some z=>z.1|none=>[]) (by omega) (by have:maxLen=9223372036854775807:=rfl;omega) (fun hh=>by cases hh) (fun A hA=>by cases hA;rfl) (fun hh=>by cases hh) (fun i x hx=>?_) (fun i x hx=>?_) (fun i x j d c hx=>?_)
   .obtain⟨z,hz,rfl⟩:=key i x hx;refine⟨b,o,rfl,?_⟩;rw[uZ i z hz];exact(Z7 i z hz).2.1
   .obtain⟨z,hz,rfl⟩:=key i x hx;rw[uZ i z hz];exact⟨(Z7 i z hz).2.2.l1,(Z7 i z hz).2.2.l2,(Z7 i z hz).2.2.one⟩
   .obtain⟨z,hz,rfl⟩:=key i x hx;rw[uZ i z hz];exact(Z7 i z hz).2.2.rd j d c
theorem Zmo (hl:laidOutB P=true)(hm:mapsRowed P=true)(DL:((List.range P.types.size).all fun t=>match P.underlying t with|some (.slice e)=>decide (0<P.cellsOf e)|_=>true)=true){ts:List TypeId}(Kk:∀t∈ts,t<P.types.size)
  {vs:List Value} {ds:List (DataW H)} {p:List MemPlace} (h:DataW.TrodAll enc P W 0 (fun _=>true) true ts vs ds p) (hp:∀x∈p,sp x.block=true) (hk:cY [] W W'):DataW.TrodAll enc P W' 0 sp true ts vs ds p:=by
 have h1:=DataW.TrodAll.respare (kids_rows hl hm) (slices_full_of P DL) Kk h hp;clear h hp;induction ts generalizing vs ds p with
 |nil=>
  obtain⟨rfl,rfl,rfl⟩:=trodAll_nil h1;exact trodAll_mk0
 |cons t ts ih=>
  obtain⟨v,ZI,d,ds',a,b,rfl,rfl,rfl,⟨n,hn⟩,h2⟩:=trodAll_cons h1;refine⟨a,b,⟨n,DataW.trod_carry n _ _ _ hn fun x hx=>?_⟩,ih (fun t ht=>Kk t (by simp[ht])) h2,rfl⟩;have aI:=DataW.trod_lt n _ _ _ hn x hx;cases x with
  |cell b o=>
   show W'.cell? _=W.cell? _;unfold World.cell?;rw[hk.block b aI (by simp)]
  |map b=>
   show W'.heap[b]?=W.heap[b]?;rw[hk.block b aI (by simp)]
theorem ZpO {f:Func}{s:ChangeSpec}{args:Array Value}{ds gs:List (DataW H)}{before:List MemPlace}{tb:TypeId}(hl:laidOutB P=true)(hm:mapsRowed P=true)(DL:((List.range P.types.size).all fun t=>match P.underlying t with|some (.slice e)=>decide (0<P.cellsOf e)|_=>true)=true)
  (Kk:∀t∈f.params.toList,t<P.types.size) (K7:s.vars=[]) (hs:s.fn H (ds++gs)={ results:=[.lit (.bool true)],args:=ds }) (eR:f.resultTypes=#[tb]) (htb:P.underlying tb=some .bool)
  (hW:DataW.Whole enc P f.params.toList s.vars false W args.toList ds gs before) (hk:cY [] W W'):s.post enc P f false true false false W args (.bool true) W':=by
 have Wl:=hW;obtain⟨p,q,hA,hV,rfl,hfz,qE⟩:=hW;rw[K7]at hV;obtain⟨rfl,rfl⟩:=trodVars_none hV;refine ZnB (pa:=p) (pv:=[]) Wl (fun b sp hd=>?_) (fun sp jP=>?_) (fun sp jP=>?_) rfl hk ?_
 .rw[hs,eR];exact trodAll_cons_mk (shut_bool htb _) trodAll_mk0
 .rw[hs];exact Zmo hl hm DL Kk hA (fun x hx=>jP x (by simp[hx])) hk
 .rw[hs,K7];rfl
 .intro j t r h1 h2;rw[eR]at h1 h2;exact ok_one (f:=f) eR rfl (okWide_bool_mk htb _) j t r (by rw[eR];exact h1) (by rw[eR];exact h2)
end
end
section
open Go.RowKit Go.ChangeShapes Go.WideShapes Go.Deep
section
variable {H:Type}{enc:TypeId×Value->H}{P:Program}{w W W':World}{sp:Nat->Bool}{held:Bool}
theorem Znm {α:Type}{t e:TypeId}{n:Nat}(f:α->PV)(Q:α->Prop)(ht:P.underlying t=some (.slice e))(hn:P.cellsOf e=n)(xN:0<n){fuel:Nat}{v:Value}{x:DataW H×List MemPlace}(h:DataW.trod enc P w 0 sp held fuel t [v]=some x)
  (he:∀(k:Nat) (cs:List Value) (y:DataW H×List MemPlace),DataW.trod enc P w 0 sp held k e cs=some y->cs.length=n->∃a:α,Q a/\G5 w.mem n cs (f a)):
  ∃l:List α,(∀a∈l,Q a)/\l.length<=9223372036854775807/\dH w.mem v (.aF false n (l.map f)):=by
 by_cases hv:∃a cap,v=.slice (some a) 0 cap/\cap<=maxLen
 .obtain⟨a,cap,rfl,hc⟩:=hv;refine⟨[],fun a ha=>by simp at ha,by simp,?_⟩;have tD:cap<=9223372036854775807:=by have:maxLen=9223372036854775807:=rfl;omega
  exact .aF (some a) cap false n [] (fun _=>[]) (by simp) tD (fun e=>by cases e) (fun _ _=>rfl) (fun hh=>by cases hh) (fun i x hx=>by simp at hx) (fun i x hx=>by simp at hx) (fun i x j d c hx=>by simp at hx)
 .refine ZpI f Q ht hn h (fun a len cap e=>?_) he;subst e;rcases open_slice ht h with⟨h0,_⟩|⟨a',Sk,JS,m,k,D,Pl,h0,_,hl,hc,hm,_,hx⟩
  .simp at h0
  .simp at h0;obtain⟨rfl,rfl,rfl⟩:=h0;have hlen:0<len:=by
    rcases Nat.eq_zero_or_pos len with e|e
    .subst e;exact absurd ⟨a,cap,rfl,hc⟩ hv
    .exact e
   have T8:len<=m:=by rw[hm];split<;>omega
   obtain⟨cs,h1,_⟩:=hx 0 (by omega);obtain⟨_,h2,h3⟩:=World.cells?_some h1;have h4:=h3 0 (by omega);rw[bC (by omega)]at h4
   have:=World.cell?_spot h4
   simpa[Addr.add]using this
end
end
def aC (P:Program)(f:FuncId)(xs:List PV)(y:PV):Prop:=cU P f (xs.map .pv) [] (fun r B=>r=.pv y/\B=[])
def hold (K:AS->Prop):AS->Prop:=K
def B9 (r:Option (AV×AS))(l:lY)(d:Nat)(K:AV->AS->Prop)(σ:AS):Prop:=match r with
 |some (a,τ)=>K a τ
 |none=>cC l d K σ
def B4 (P:Program)(o:LO)(K:AV->AS->Prop)(σ:AS):Prop:=match o.op with
 |.call _ _=>lZ P o K σ
 |l=>B9 (FM l (o.dst.getD 0) σ) l (o.dst.getD 0) K σ
def F4 (P:Program)(a:Option AV)(want:Bool)(o:LO)(K:AS->Prop)(σ:AS):Prop:=match a with
 |some (.pv (.bool b))=>if b=want then B4 P o (fun a τ=>K (τ.pC o.dst a)) σ else K (σ.pC o.dst A8)
 |some (.pv (.bN []))=>K (σ.pC o.dst A8)
 |_=>False
def FN (P:Program)(o:LO)(K:AS->Prop)(σ:AS):Prop:=match o.g with
 |none=>B4 P o (fun a τ=>K (τ.pC o.dst a)) σ
 |some (t,want)=>F4 P (σ.t t) want o K σ
def C0 (P:Program):List LO->(AS->Prop)->AS->Prop
 |[],K,σ=>K σ
 |o::r,K,σ=>FN P o (hold (C0 P r K)) σ
def gN (P:Program):LT->(AS->Prop)->AS->Prop
 |.done,K,σ=>K σ
 |.op o t,K,σ=>FN P o (hold (gN P t K)) σ
 |.alt o t r,K,σ=>FN P o (hold (gN P t K)) σ/\gN P r K σ
 |.no,_,_=>True
 |.seq t r,K,σ=>∃J:AS->Prop,gN P t (fun zI=>∃τ,Sub τ zI/\J τ) σ/\∀τ,J τ->gN P r K τ
def v8 (a:AV)(A B:AS->Prop)(σ:AS):Prop:=match a with
 |.pv (.bool true)=>A σ
 |.pv (.bool false)=>B σ
 |_=>False
def eM (P:Program):bH->(sK->AS->Prop)->AS->Prop
 |.skip,Q,σ=>Q .normal σ
 |.region ops,Q,σ=>C0 P ops (Q .normal) σ
 |.jA t,Q,σ=>gN P t (Q .normal) σ
 |.seq a b,Q,σ=>eM P a (iV (hold (eM P b Q)) Q) σ
 |.cond c a b,Q,σ=>v8 (σ.o c) (hold (eM P a Q)) (hold (eM P b Q)) σ
 |.block id c,Q,σ=>eM P c (j9 id Q) σ
 |.loop c,Q,σ=>∃(I:Nat->AS->Prop) (n:Nat) (τ:AS),Sub τ σ/\I n τ/\∀n τ,I n τ->eM P c (iV (again I n) Q) τ
 |.exit id,Q,σ=>Q (.exit id) σ
 |.ret,Q,σ=>Q .ret σ
 |.vM nt g C _ _ ps,Q,σ=>J6 P nt g C ps Q σ
section
variable {P:Program}
theorem Zs6 {l:lY}{d:Nat}{K:AV->AS->Prop}{σ:AS}(h:B9 (FM l d σ) l d K σ):cC l d K σ:=by
 unfold B9 at h;split at h
 .rename_i e;exact ZnO e h
 .exact h
theorem Zm6 {o:LO}{K:AV->AS->Prop}{σ:AS}(h:B4 P o K σ):lZ P o K σ:=by
 unfold B4 at h;split at h
 .exact h
 .rename_i dA;unfold lZ;split
  .rename_i f args e;exact absurd e (dA f args)
  .exact Zs6 h
theorem Mk {o:LO}{K:AS->Prop}{σ:AS}(h:FN P o K σ):pS P o K σ:=by
 unfold FN at h;unfold pS;split at h
 .rename_i e;(try rw[e]);exact Zm6 h
 .rename_i t want e
  (try rw[e])
  (try dsimp only)
  unfold F4 at h;split at h
  .rename_i b hb
   (try rw[hb])
   (try dsimp only)
   split at h
   .rename_i e2;rw[if_pos e2];exact Zm6 h
   .rename_i e2;rw[if_neg e2];exact h
  .rename_i hb;(try rw[hb]);exact h
  .exact h.elim
theorem Mm:∀{l:List LO} {K:AS->Prop} {σ:AS},C0 P l K σ->oN P l K σ
 |[],K,σ,h=>h
 |o::r,K,σ,h=>PC (fun τ q=>Mm q) (Mk h)
theorem YC:∀{l:LT} {K:AS->Prop} {σ:AS},gN P l K σ->vS P l K σ
 |.done,K,σ,h=>h
 |.op o t,K,σ,h=>PC (fun τ q=>YC q) (Mk h)
 |.alt o t r,K,σ,h=>⟨PC (fun τ q=>YC q) (Mk h.1),YC h.2⟩
 |.no,K,σ,h=>trivial
 |.seq t r,K,σ,⟨J,h1,h2⟩=>⟨J,YC h1,fun τ hJ=>YC (h2 τ hJ)⟩
theorem J1:∀{c:bH} {Q:sK->AS->Prop} {σ:AS},eM P c Q σ->uO P c Q σ
 |.skip,Q,σ,h=>h
 |.region ops,Q,σ,h=>Mm h
 |.jA t,Q,σ,h=>YC h
 |.seq a b,Q,σ,h=>by
  have h':eM P a (iV (hold (eM P b Q)) Q) σ:=h;show uO P a (iV (uO P b Q) Q) σ;refine KX (J1 h') (fun e τ q=>?_);cases e with
  |normal=>
   have q':eM P b Q τ:=q;exact J1 q'
  |exit id=>exact q
  |ret=>exact q
 |.cond c a b,Q,σ,h=>by
  have h':v8 (σ.o c) (hold (eM P a Q)) (hold (eM P b Q)) σ:=h;unfold v8 at h';unfold uO;split at h'
  .rename_i e;rw[e];exact J1 (c:=a) h'
  .rename_i e;rw[e];exact J1 (c:=b) h'
  .exact h'.elim
 |.block id c,Q,σ,h=>J1 (c:=c) h
 |.loop c,Q,σ,⟨I,n,τ,h1,h2,h3⟩=>⟨I,n,τ,h1,h2,fun n τ hI=>J1 (c:=c) (h3 n τ hI)⟩
 |.exit id,Q,σ,h=>h
 |.ret,Q,σ,h=>h
 |.vM _ _ _ _ _ _,Q,σ,h=>h
theorem Qk {f:FuncId}{F:aW}{args:List AV}{B:List (Site×aJ)}{R:AV->List (Site×aJ)->Prop}(hm:P.follows .mixedOrders=true)(hf:fV P f=some F)(hn:args.length<=F.nt)
  (h:eM P F.code (lF (B6 F.res R)) ⟨eZ 0 args,B⟩):cU P f args B R:=ZiZ hm hf hn (J1 h)
theorem eP {c:bH}{Q:sK->AS->Prop}{σ:AS}(I:Nat->AS->Prop)(h0:∃n τ,Sub τ σ/\I n τ)(round:∀J:Nat->AS->Prop,(∀k τ,I k τ->J k τ)->∀n τ,I n τ->eM P c (iV (again J n) Q) τ):eM P (.loop c) Q σ:=
 let ⟨n,τ,h1,h2⟩:=h0;⟨I,n,τ,h1,h2,fun n τ h=>round I (fun _ _ h=>h) n τ h⟩
end
section
variable {P:Program}{σ:AS}{K:AS->Prop}{Q:sK->AS->Prop}{tm:List (Nat×AV)}{bx:List (Site×aJ)}
theorem ZtI:hold K ⟨tm,bx⟩=K ⟨tm,bx⟩:=propext ⟨fun h=>h,fun h=>h⟩
theorem ZuE {d:Nat}{a:AV}:AS.put d a ⟨tm,bx⟩=⟨(d,a)::tm,bx⟩:=rfl
theorem Zs2 {d:Nat}{a:AV}:AS.pC (some d) a ⟨tm,bx⟩=⟨(d,a)::tm,bx⟩:=rfl
theorem Znw {a:AV}:AS.pC none a ⟨tm,bx⟩=⟨tm,bx⟩:=rfl
theorem Zvp {s:Site}{b:aJ}:AS.add s b ⟨tm,bx⟩=⟨tm,(s,b)::bx⟩:=rfl
theorem Zuw {s:Site}{b:aJ}:AS.set s b ⟨tm,bx⟩=⟨tm,(s,b)::bx⟩:=rfl
theorem ZtT {s:Site}:AS.drop s ⟨tm,bx⟩=⟨tm,bx.filter fun p=>!decide (p.1=s)⟩:=rfl
theorem ZpL {d:Nat}:AS.bG d ⟨tm,bx⟩=⟨tm.map fun p=>(p.1,p.2.bG d),(bx.filter fun p=>!p.1.fP d).map fun p=>(p.1,p.2.bG d)⟩:=rfl
theorem ZpU:C0 P [] K σ=K σ:=propext ⟨fun h=>h,fun h=>h⟩
theorem ZnK {o:LO}{r:List LO}:C0 P (o::r) K σ=FN P o (hold (C0 P r K)) σ:=rfl
theorem Zqb:gN P .done K σ=K σ:=rfl
theorem ZuV {o:LO}{t:LT}:gN P (.op o t) K σ=FN P o (hold (gN P t K)) σ:=rfl
theorem Au {d:Option Nat}{op:lY}{lt:Bool}:FN P ⟨d,none,op,lt⟩ K σ=B4 P ⟨d,none,op,lt⟩ (fun a τ=>K (τ.pC d a)) σ:=rfl
theorem Av {d:Option Nat}{t:Nat}{want:Bool}{op:lY}{lt:Bool}:FN P ⟨d,some (t,want),op,lt⟩ K σ=F4 P (σ.t t) want ⟨d,some (t,want),op,lt⟩ K σ:=rfl
theorem Zu5 {b want:Bool}{o:LO}:F4 P (some (.pv (.bool b))) want o K σ=if b=want then B4 P o (fun a τ=>K (τ.pC o.dst a)) σ else K (σ.pC o.dst A8):=rfl
theorem ZtM {o:LO}:F4 P (some (.pv (.bool true))) true o K σ=B4 P o (fun a τ=>K (τ.pC o.dst a)) σ:=rfl
theorem ZtP {o:LO}:F4 P (some (.pv (.bool false))) false o K σ=B4 P o (fun a τ=>K (τ.pC o.dst a)) σ:=rfl
theorem ZtN {o:LO}:F4 P (some (.pv (.bool true))) false o K σ=K (σ.pC o.dst A8):=rfl
theorem ZtO {o:LO}:F4 P (some (.pv (.bool false))) true o K σ=K (σ.pC o.dst A8):=rfl
theorem Zu4 {want:Bool}{o:LO}:F4 P (some (.pv (.bN []))) want o K σ=K (σ.pC o.dst A8):=rfl
theorem ZnI {a:AV}{τ:AS}{l:lY}{d:Nat}{K:AV->AS->Prop}:B9 (some (a,τ)) l d K σ=K a τ:=rfl
theorem Zvd {A B:AS->Prop}:v8 (.pv (.bool true)) A B σ=A σ:=propext ⟨fun h=>h,fun h=>h⟩
theorem Zve {A B:AS->Prop}:v8 (.pv (.bool false)) A B σ=B σ:=propext ⟨fun h=>h,fun h=>h⟩
theorem ZoY:eM P .skip Q σ=Q .normal σ:=propext ⟨fun h=>h,fun h=>h⟩
theorem Zj7 {ops:List LO}:eM P (.region ops) Q σ=C0 P ops (Q .normal) σ:=rfl
theorem ZoZ {t:LT}:eM P (.jA t) Q σ=gN P t (Q .normal) σ:=rfl
theorem Zrf {a b:bH}:eM P (.seq a b) Q σ=eM P a (iV (hold (eM P b Q)) Q) σ:=rfl
theorem Zo1 {c:bB}{a b:bH}:eM P (.cond c a b) Q σ=v8 (σ.o c) (hold (eM P a Q)) (hold (eM P b Q)) σ:=rfl
theorem Zmn {id:Nat}{c:bH}:eM P (.block id c) Q σ=eM P c (j9 id Q) σ:=rfl
theorem Zo0 {id:Nat}:eM P (.exit id) Q σ=Q (.exit id) σ:=propext ⟨fun h=>h,fun h=>h⟩
theorem Zrg:eM P .ret Q σ=Q .ret σ:=propext ⟨fun h=>h,fun h=>h⟩
theorem Zsh:iV K Q .normal σ=K σ:=propext ⟨fun h=>h,fun h=>h⟩
theorem Zsi {i:Nat}:iV K Q (.exit i) σ=Q (.exit i) σ:=propext ⟨fun h=>h,fun h=>h⟩
theorem Zsg:iV K Q .ret σ=Q .ret σ:=propext ⟨fun h=>h,fun h=>h⟩
theorem Zq0 {i:Nat}:j9 i Q .normal σ=Q .normal σ:=propext ⟨fun h=>h,fun h=>h⟩
theorem ZqZ {i:Nat}:j9 i Q .ret σ=Q .ret σ:=propext ⟨fun h=>h,fun h=>h⟩
theorem Zq1 {i j:Nat}:j9 i Q (.exit j) σ=if j=i then Q .normal σ else Q (.exit j) σ:=propext ⟨fun h=>h,fun h=>h⟩
theorem Zu8 {F:AS->Prop}:lF F .normal σ=F σ:=propext ⟨fun h=>h,fun h=>h⟩
theorem Zu7 {F:AS->Prop}:lF F .ret σ=F σ:=propext ⟨fun h=>h,fun h=>h⟩
theorem gH {f:bB}{args:List bB}{d:Nat}{K:AV->AS->Prop}{k:Nat}{g:FuncId}{fs xs cs:List PV}{y:PV}(h1:(σ.o f).snap σ k=some (.fn g fs cs))(h2:jL (AV.snap σ k) (args.map σ.o)=some xs)
  (hc:aC P g (fs++xs++cs) y) (hy:y.flat=true) (hK:K (.pv y) σ) {X:Prop}:zD P f args d K σ\/X:=
 .inl (Zi1 h1 h2 (hc.mono (fun _ _ h=>h.1)) hy hK)
end
theorem gl0 {α:Type}{a:α}{l:List α}:(a::l)[0]?=some a:=rfl
theorem gl1 {α:Type}{a b:α}{l:List α}:(a::b::l)[1]?=some b:=rfl
theorem gl2 {α:Type}{a b c:α}{l:List α}:(a::b::c::l)[2]?=some c:=rfl
theorem gl3 {α:Type}{a b c d:α}{l:List α}:(a::b::c::d::l)[3]?=some d:=rfl
attribute [simp] gl0 gl1 gl2 gl3 List.getElem?_cons_succ
theorem Zhz {n:Nat}:jO (n:Int)=some n:=LC.2 rfl
theorem ZnY {n:Nat}:jO ((n:Int)+1)=some (n+1):=LC.2 (by omega)
theorem ZuU:jO 0=some 0:=rfl
theorem ZuT:jO 1=some 1:=rfl
theorem ZuS:jO 2=some 2:=rfl
attribute [simp] Zhz ZnY ZuU ZuT ZuS
theorem wrap64 {x:Int}(h:-9223372036854775808<=x/\x<=9223372036854775807):IntKind.i64.wrap x=x:=by rw[IntKind.wrap_i64];omega
theorem ZsL {a b c d:Nat}:(Site.loc a b==Site.loc c d)=(a==c&&b==d):=by rw[rB];simp
theorem ZsH {a c:Nat}:(Site.par a==Site.par c)=(a==c):=by rw[rB];simp
theorem ZsD {a c:Nat}:(Site.ret a==Site.ret c)=(a==c):=by rw[rB];simp
theorem ZsK {a b c:Nat}:(Site.loc a b==Site.par c)=false:=rfl
theorem ZsI {a b c:Nat}:(Site.par c==Site.loc a b)=false:=rfl
theorem ZsJ {a b c:Nat}:(Site.loc a b==Site.ret c)=false:=rfl
theorem ZsF {a b c:Nat}:(Site.ret c==Site.loc a b)=false:=rfl
theorem ZsG {a c:Nat}:(Site.par a==Site.ret c)=false:=rfl
theorem ZsE {a c:Nat}:(Site.ret a==Site.par c)=false:=rfl
attribute [simp] ZsL ZsH ZsD ZsK ZsI ZsJ ZsF ZsG ZsE
attribute [simp] ZtI ZuE Zs2 Znw Zvp Zuw ZtT ZpL ZpU ZnK Zqb ZuV Au Av ZtM ZtP ZtN ZtO Zu4 Zu5 ZnI Zvd Zve ZoY Zj7 ZoZ Zrf Zo1 Zmn Zo0 Zrg Zsh Zsi Zsg Zq0 ZqZ Zq1 Zu8 Zu7
attribute [simp] B4 lZ FM HR AS.x5 AS.OL AS.o AS.t AS.b AV.bG AV.has AV.rC AV.cells PV.cells AV.wide AV.one eZ List.lookup EJ EK B6 AS.GG AS.Lp rU y0 eD aR n7 S5 AS.cont AS.ob AS.tY AS.EU AS.xD AS.KB A8 GV wQ KT.ok bW CK.ok gV lT wR
section
attribute [local simp] aJ.bG Site.fP
section
variable {P:Program}{σ:AS}{K:AV->AS->Prop}
def rN (σ:AS):List Site->Prop
 |[]=>True
 |s::r=>(∃b,σ.b s=some b/\b.dC dO=true)/\rN σ r
theorem Zet:∀{l:List Site},rN σ l->∀s∈l,∀b,σ.b s=some b->b.dC dO=true
 |[],_,s,hs,_,_=>by cases hs
 |t::r,h,s,hs,b,hb=>by
  rcases jT.1 hs with rfl|hs
  .obtain⟨b',h1,h2⟩:=h.1;rw[hb]at h1;cases h1;exact h2
  .exact Zet h.2 s hs b hb
def aT (outs:List Site)(rs:List oF)(R:AV->List (Site×aJ)->Prop)(σ:AS):Prop:=
 ∃l,σ.GG rs=some l/\(rU l).dC dO=true/\outs.all dO=true/\rN σ outs/\R ((rU l).map (jY outs)) (σ.exp outs outs)
theorem Zjm {outs:List Site}{rs:List oF}{R:AV->List (Site×aJ)->Prop}{σ:AS}(h:aT outs rs R σ):rS rs R σ:=by
 obtain⟨l,h1,h2,h3,h4,h5⟩:=h;exact⟨[],outs,l,h1,h2,h3,fun s hs b hb=>Zet h4 s hs b hb,h5⟩
theorem Qj (outs:List Site){f:FuncId}{F:aW}{args:List AV}{B:List (Site×aJ)}{R:AV->List (Site×aJ)->Prop}(hm:P.follows .mixedOrders=true)(hf:fV P f=some F)(hn:args.length<=F.nt)
  (h:eM P F.code (lF (aT outs F.res R)) ⟨eZ 0 args,B⟩):cU P f args B R:=Jc hm hf hn (fun _ h=>Zjm h) (J1 h)
theorem xU (d:Nat)(aE:List Site){f:bB}{args:List bB}{d0:Nat}{g:FuncId}{fs cs:List AV}{B:List (Site×aJ)}{gG:List AV}{R:AV->List (Site×aJ)->Prop}(h1:mT (σ.o f)=some (g,fs,cs))(h2:EY aE=true)(h3:aE.all (fun s=>!s.fP d)=true)
  (hB:pD σ aE 0 aE=some B) (h4:AV.hZ (fun x=>aE.contains x) (fs++args.map σ.o++cs)=true) (ha:AV.iT (kF aE) (fs++args.map σ.o++cs)=gG) (hC:cU P g gG B R)
  (hK:∀r B',R r B'->r.dC (cA aE)=true/\(∀p∈B',cA aE p.1=true/\p.2.dC (cA aE)=true)/\K (r.map (gI aE d)) (((cT aE σ).bG d).lX (fB aE d B'))):
  zD P f args d0 K σ\/(GX P f args K σ\/GY P f args K σ):=by
 refine .inr (.inl ⟨d,[],aE,g,fs,cs,B,?_,UI h2,h3,hB,h4,?_⟩)
 .unfold mT at h1;split at h1
  .rename_i e;cases h1;exact .inl e
  .rename_i tP iM e;cases h1;exact .inr ⟨tP,iM,e,rfl,rfl⟩
  .cases h1
 .have:(fs++args.map (aL [] σ).o++cs)=fs++args.map σ.o++cs:=rfl
  rw[this,ha];exact hC.mono hK
theorem BI {f:bB}{args:List bB}{d:Nat}{K:AV->AS->Prop}{k:Nat}{g:FuncId}{fs xs cs:List PV}{y:PV}(h1:(σ.o f).snap σ k=some (.fn g fs cs))(h2:jL (AV.snap σ k) (args.map σ.o)=some xs)
  (hc:aC P g (fs++xs++cs) y) (hy:y.flat=true) (hK:K (.pv y) σ):zD P f args d K σ:=Zi1 h1 h2 (hc.mono (fun _ _ h=>h.1)) hy hK
end
end
section
attribute [local simp] aJ.bG Site.fP
def dM (n:Nat):List Site:=(List.range n).map .par
def laid:Nat->List aJ->List (Site×aJ)
 |_,[]=>[]
 |i,b::r=>(.par i,b)::laid (i+1) r
def Site.lt (n:Nat):Site->Bool
 |.par i=>decide (i<n)
 |_=>false
def FC (n:Nat)(L:List aJ):Prop:=∀b∈L,b.dC (Site.lt n)=true
theorem YJ {n:Nat}{s:Site}:s∈dM n↔s.lt n=true:=by
 unfold dM;rw[iN];constructor
 .rintro⟨i,hi,rfl⟩;simpa[Site.lt]using hi
 .intro h;cases s with
  |par i=>exact⟨i,by simpa[Site.lt]using h,rfl⟩
  |loc d j=>cases h
  |ret j=>cases h
theorem Zcc {n:Nat}{s:Site}:(dM n).contains s=s.lt n:=by
 rw[rB,jI];exact YJ
theorem Ip {n i:Nat}(h:i<n):(dM n)[i]?=some (.par i):=by simp[dM,h]
theorem Zjq {n:Nat}:(dM n).Nodup:=by
 unfold dM;rw[EO,List.pairwise_map];exact List.Pairwise.imp (fun h e=>h (by cases e;rfl)) (EO.1 List.nodup_range)
theorem ZnG {n i:Nat}(h:i<n):(dM n).findIdx? (fun x=>decide (x=.par i))=some i:=by
 obtain⟨j,h1,h2⟩:=Hf (aE:=dM n) (s:=.par i) (YJ.2 (by simpa[Site.lt]using h));rw[h1];have hj:j<n:=by
  have:=(cD.1 h2).1
  simpa[dM]using this
 rw[Ip hj]at h2;cases h2;rfl
theorem Zes {n:Nat}{s:Site}(h:s.lt n=false):(dM n).findIdx? (fun x=>decide (x=s))=none:=by
 rw[List.findIdx?_eq_none_iff];intro x hx;rw[YJ]at hx
 have:x≠s:=fun e=>by rw[e,h]at hx;cases hx
 simpa using this
theorem ZiH (n:Nat):kF (dM n)=id:=by
 funext s;unfold kF;cases hs:s.lt n with
 |true=>
  cases s with
  |par i=>rw[ZnG (by simpa[Site.lt]using hs)];rfl
  |loc d j=>cases hs
  |ret j=>cases hs
 |false=>rw[Zes hs];rfl
theorem Zeu {n d:Nat}{s:Site}(h:s.lt n=true):gI (dM n) d s=s:=by
 cases s with
 |par i=>show(dM n).getD i default=_;rw[List.getD_eq_getElem?_getD,Ip (by simpa[Site.lt]using h)];rfl
 |loc d j=>cases h
 |ret j=>cases h
theorem ZgY (n:Nat):jY (dM n)=id:=by
 funext s;unfold jY;cases s with
 |par i=>rfl
 |loc d j=>dsimp only;rw[Zes rfl];rfl
 |ret j=>dsimp only;rw[Zes rfl];rfl
mutual
theorem AV.Ys {g:Site->Site}{q:Site->Bool}(hg:∀s,q s=true->g s=s):∀a:AV,a.dC q=true->a.map g=a
 |.any,_=>rfl
 |.pv _,_=>rfl
 |.ptr _ _,h=>by simp only[AV.map];rw[hg _ h]
 |.lG _ _ _ _,h=>by simp only[AV.map];rw[hg _ h]
 |.vec _ _ _ _,h=>by simp only[AV.map];rw[hg _ h]
 |.mp _,h=>by simp only[AV.map];rw[hg _ h]
 |.nQ _,h=>by simp only[AV.map];rw[hg _ h]
 |.fn f fs cs,h=>by
  simp only[AV.dC,dK]at h;simp only[AV.map,AV.XF hg fs h.1,AV.XF hg cs h.2]
 |.agg cs,h=>by simp only[AV.map,AV.XF hg cs h]
 |.bN vs,h=>by simp only[AV.map,AV.XF hg vs h]
theorem AV.XF {g:Site->Site}{q:Site->Bool}(hg:∀s,q s=true->g s=s):∀l:List AV,AV.hZ q l=true->AV.iT g l=l
 |[],_=>rfl
 |a::r,h=>by
  simp only[AV.hZ,dK]at h;simp only[AV.iT,AV.Ys hg a h.1,AV.XF hg r h.2]
end
mutual
theorem AV.XE {q q':Site->Bool}(hq:∀s,q s=true->q' s=true):∀a:AV,a.dC q=true->a.dC q'=true
 |.any,_=>rfl
 |.pv _,_=>rfl
 |.ptr _ _,h=>hq _ h
 |.lG _ _ _ _,h=>hq _ h
 |.vec _ _ _ _,h=>hq _ h
 |.mp _,h=>hq _ h
 |.nQ _,h=>hq _ h
 |.fn f fs cs,h=>by
  simp only[AV.dC,dK]at h ⊢;exact⟨AV.OP hq fs h.1,AV.OP hq cs h.2⟩
 |.agg cs,h=>AV.OP hq cs h
 |.bN vs,h=>AV.OP hq vs h
theorem AV.OP {q q':Site->Bool}(hq:∀s,q s=true->q' s=true):∀l:List AV,AV.hZ q l=true->AV.hZ q' l=true
 |[],_=>rfl
 |a::r,h=>by
  simp only[AV.hZ,dK]at h ⊢;exact⟨AV.XE hq a h.1,AV.OP hq r h.2⟩
end
theorem aJ.XE {q q':Site->Bool}(hq:∀s,q s=true->q' s=true){b:aJ}(h:b.dC q=true):b.dC q'=true:=by
 cases b with
 |cells bU=>exact AV.OP hq bU h
 |loop C ps nt tm st=>exact AV.OP hq _ h
 |arr e n xs=>rfl
 |map es=>rfl
 |ext E=>rfl
theorem aJ.ZxK {g:Site->Site}{q:Site->Bool}(hg:∀s,q s=true->g s=s){b:aJ}(h:b.dC q=true):b.iX g=b:=by
 cases b with
 |cells bU=>simp only[aJ.iX];rw[AV.XF hg bU h]
 |loop C ps nt tm st=>
  simp only[aJ.iX];congr 1;have h':∀p∈tm,p.2.dC q=true:=fun p hp=>by
   obtain⟨i,hi⟩:=iO.1 hp;exact W4 (i:=i) h (by rw[bY,hi];rfl)
  clear h;induction tm with
  |nil=>rfl
  |cons p r ih=>
   simp only[iS];rw[AV.Ys hg p.2 (h' p (by simp)),ih (fun x hx=>h' x (by simp[hx]))]
 |arr e n xs=>rfl
 |map es=>rfl
 |ext E=>rfl
theorem aJ.Yk (b:aJ):b.iX id=b:=by
 cases b with
 |cells bU=>simp only[aJ.iX,TX]
 |loop C ps nt tm st=>
  simp only[aJ.iX,Hd];congr 1;exact List.map_id tm
 |arr e n xs=>rfl
 |map es=>rfl
 |ext E=>rfl
theorem ZhG {n:Nat}{s:Site}(h:s.lt n=true):cA (dM n) s=true:=by
 cases s with
 |par i=>simpa[cA,dM,Site.lt]using h
 |loc d j=>cases h
 |ret j=>rfl
theorem Zk2 {n:Nat}{s:Site}(h:s.lt n=true):dO s=true:=by
 cases s with
 |par i=>rfl
 |loc d j=>rfl
 |ret j=>cases h
theorem ZhJ:∀(L:List aJ) (i j:Nat),(laid i L).lookup (.par (i+j))=L[j]?
 |[],i,j=>by simp[laid]
 |b::r,i,0=>by simp[laid]
 |b::r,i,j+1=>by
  rw[laid,jJ (by simp),show i+(j+1)=(i+1)+j by omega,ZhJ r (i+1) j];rfl
theorem Zla:∀(L:List aJ) (i:Nat) (p:Site×aJ),p∈laid i L->∃j,L[j]?=some p.2/\p.1=.par (i+j)
 |[],i,p,h=>by simp[laid]at h
 |b::r,i,p,h=>by
  rcases jT.1 h with rfl|h
  .exact⟨0,rfl,rfl⟩
  .obtain⟨j,h1,h2⟩:=Zla r (i+1) p h;exact⟨j+1,h1,by rw[h2];congr 1;omega⟩
theorem ZrQ {n d:Nat}:∀{s:Site},s.lt n=true->s.fP d=false:=fun{s} h=>by
 cases s with
 |par i=>rfl
 |loc d j=>cases h
 |ret j=>cases h
mutual
theorem AV.Zxs {d:Nat}{q:Site->Bool}(hg:∀s,q s=true->s.fP d=false):∀a:AV,a.dC q=true->a.has d=false
 |.any,_=>rfl
 |.pv _,_=>rfl
 |.ptr _ _,h=>by simp only[AV.has];exact hg _ h
 |.lG _ _ _ _,h=>by simp only[AV.has];exact hg _ h
 |.vec _ _ _ _,h=>by simp only[AV.has];exact hg _ h
 |.mp _,h=>by simp only[AV.has];exact hg _ h
 |.nQ _,h=>by simp only[AV.has];exact hg _ h
 |.fn f fs cs,h=>by
  simp only[AV.dC,dK]at h;simp only[AV.has,AV.Fw hg fs h.1,AV.Fw hg cs h.2];rfl
 |.agg cs,h=>by simp only[AV.has];exact AV.Fw hg cs h
 |.bN vs,h=>by simp only[AV.has];exact AV.Fw hg vs h
theorem AV.Fw {d:Nat}{q:Site->Bool}(hg:∀s,q s=true->s.fP d=false):∀l:List AV,AV.hZ q l=true->AV.rC d l=false
 |[],_=>rfl
 |a::r,h=>by
  simp only[AV.hZ,dK]at h;simp only[AV.rC,AV.Zxs hg a h.1,AV.Fw hg r h.2];rfl
end
theorem AV.Lq {n d:Nat}{a:AV}(h:a.dC (Site.lt n)=true):a.bG d=a:=by
 unfold AV.bG;rw[AV.Zxs (fun s hs=>ZrQ hs) a h];rfl
theorem aJ.Lq {n d:Nat}{b:aJ}(h:b.dC (Site.lt n)=true):b.bG d=b:=by
 cases b with
 |cells bU=>
  simp only[aJ.bG];congr 1;have h':∀a∈bU,a.dC (Site.lt n)=true:=fun a ha=>by
   obtain⟨i,hi⟩:=iO.1 ha;exact W4 h hi
  clear h;induction bU with
  |nil=>rfl
  |cons a r ih=>rw[iS,AV.Lq (h' a (by simp)),ih (fun x hx=>h' x (by simp[hx]))]
 |loop C ps nt tm st=>
  simp only[aJ.bG];congr 1;have h':∀p∈tm,p.2.dC (Site.lt n)=true:=fun p hp=>by
   obtain⟨i,hi⟩:=iO.1 hp;exact W4 (i:=i) h (by rw[bY,hi];rfl)
  clear h;induction tm with
  |nil=>rfl
  |cons p r ih=>rw[iS,AV.Lq (h' p (by simp)),ih (fun x hx=>h' x (by simp[hx]))]
 |arr e n xs=>rfl
 |map es=>rfl
 |ext E=>rfl
theorem ZeF {n d:Nat}:∀{X:List aJ} {i:Nat},FC n X->((laid i X).filter fun p=>!p.1.fP d).map (fun p=>(p.1,p.2.bG d))=laid i X
 |[],i,h=>rfl
 |b::r,i,h=>by
  have hb:=h b (by simp);have hr:FC n r:=fun x hx=>h x (by simp[hx])
  rw[laid,List.filter_cons_of_pos (by rfl),iS,ZeF hr,aJ.Lq hb]
theorem ZjR {m:Nat}{tm:List (Nat×AV)}{bx:List (Site×aJ)}:cT (dM m) ⟨tm,bx⟩=⟨tm,bx.filter fun p=>!p.1.lt m⟩:=by
 have:∀(l:List Site) (bx:List (Site×aJ)),cT l ⟨tm,bx⟩=⟨tm,bx.filter fun p=>!l.contains p.1⟩:=by
  intro l;induction l with
  |nil=>intro bx;show(⟨tm,bx⟩:AS)=⟨tm,_⟩;rw[List.filter_eq_self.2];intro _ _;rfl
  |cons s r ih=>
   intro bx;rw[cT,AS.drop,ih,List.filter_filter];congr 1;apply List.filter_congr;intro p hp;rw[List.contains_cons];by_cases e:p.1=s
   .simp[e]
   .simp[e]
 rw[this];congr 1;apply List.filter_congr;intro p hp;rw[Zcc]
theorem ZfS {σ:AS}{n:Nat}:∀(r:List Site) (i:Nat) (L:List aJ),(∀j s,r[j]?=some s->s=Site.par (i+j))->r.length=L.length->(∀j b,L[j]?=some b->σ.b (.par (i+j))=some b)->FC n L->
  pD σ (dM n) i r=some (laid i L)
 |[],i,[],_,_,_,_=>rfl
 |[],i,b::L,_,h,_,_=>by simp at h
 |s::r,i,[],_,h,_,_=>by simp at h
 |s::r,i,b::L,hs,hl,hb,hc=>by
  have h0:s=.par i:=hs 0 s rfl;have h1:=ZfS r (i+1) L (fun j s' e=>by rw[hs (j+1) s' (by simpa using e)];congr 1;omega) (by simpa using hl) (fun j b' e=>by rw[show i+1+j=i+(j+1) by omega];exact hb (j+1) b' (by simpa using e)) (fun x hx=>hc x (by simp[hx]));subst h0;have h2:σ.b (.par i)=some b:=hb 0 b rfl;have h3:b.dC (fun x=>(dM n).contains x)=true:=aJ.XE (fun s hs=>by rw[Zcc];exact hs) (hc b (by simp));simp only[pD,h2,h1,h3,if_pos,ZiH,aJ.Yk,laid]
def yB (σ:AS)(L:List aJ):Prop:=∀j b,L[j]?=some b->σ.b (.par j)=some b
theorem Zjy {σ:AS}{n:Nat}{L:List aJ}(hl:L.length=n)(hs:yB σ L)(hc:FC n L):pD σ (dM n) 0 (dM n)=some (laid 0 L):=
 ZfS _ _ _ (fun j s e=>by
  have:j<n:=by have:=(cD.1 e).1;simpa[dM]using this
  rw[Ip this]at e;cases e;simp) (by simp[dM,hl]) (fun j b e=>by simpa using hs j b e) hc
theorem Zio {n d:Nat}:∀{L:List aJ} {i:Nat},i+L.length<=n->FC n L->fB (dM n) d (laid i L)=laid i L
 |[],i,_,_=>rfl
 |b::r,i,h,hc=>by
  rw[pI]at h;have h1:=Zio (L:=r) (i:=i+1) (d:=d) (by omega) (fun x hx=>hc x (by simp[hx]));unfold fB at h1 ⊢;rw[laid,iS,h1];rw[Zeu (by simp[Site.lt];omega),aJ.ZxK (fun s hs=>Zeu hs) (hc b (by simp))]
theorem XW {n:Nat}{L:List aJ}(h:L.length<=n)(hc:FC n L):∀p∈laid 0 L,cA (dM n) p.1=true/\p.2.dC (cA (dM n))=true:=fun p hp=>by
 obtain⟨j,h1,h2⟩:=Zla L 0 p hp;have hj:=(cD.1 h1).1;refine⟨ZhG (by rw[h2];simp[Site.lt];omega),aJ.XE (fun s hs=>ZhG hs) (hc _ (dL h1))⟩
theorem Zln {σ:AS}{n:Nat}:∀(r:List Site) (i:Nat) (L:List aJ),(∀j s,r[j]?=some s->s=Site.par (i+j))->r.length=L.length->(∀j b,L[j]?=some b->σ.b (.par (i+j))=some b)->σ.exp (dM n) r=laid i L
 |[],i,[],_,_,_=>rfl
 |[],i,b::L,_,h,_=>by simp at h
 |s::r,i,[],_,h,_=>by simp at h
 |s::r,i,b::L,hs,hl,hb=>by
  have h0:s=.par i:=hs 0 s rfl;have h1:=Zln (n:=n) r (i+1) L (fun j s' e=>by rw[hs (j+1) s' (by simpa using e)];congr 1;omega) (by simpa using hl) (fun j b' e=>by rw[show i+1+j=i+(j+1) by omega];exact hb (j+1) b' (by simpa using e));subst h0;have h2:σ.b (.par i)=some b:=hb 0 b rfl;simp only[AS.exp,h2,h1,ZgY,aJ.Yk,laid,id]
theorem Zqy {σ:AS}{n:Nat}{L:List aJ}(hl:L.length=n)(hs:yB σ L):σ.exp (dM n) (dM n)=laid 0 L:=
 Zln _ _ _ (fun j s e=>by
  have:j<n:=by have:=(cD.1 e).1;simpa[dM]using this
  rw[Ip this]at e;cases e;simp) (by simp[dM,hl]) (fun j b e=>by simpa using hs j b e)
theorem Ziv {σ:AS}:∀{l:List Site},(∀s∈l,∃b,σ.b s=some b/\b.dC dO=true)->rN σ l
 |[],_=>trivial
 |s::r,h=>⟨h s (by simp),Ziv (fun x hx=>h x (by simp[hx]))⟩
theorem Zjr {σ:AS}{n:Nat}{L:List aJ}(hl:L.length=n)(hs:yB σ L)(hc:FC n L):rN σ (dM n):=Ziv (fun s h=>by
 rw[YJ]at h;cases s with
 |par i=>
  have hi:i<L.length:=by rw[hl];simpa[Site.lt]using h
  exact⟨L[i],hs i _ (bC hi),aJ.XE (fun s hs=>Zk2 hs) (hc _ (A2 hi))⟩
 |loc d j=>cases h
 |ret j=>cases h)
theorem Zf0 {d e j:Nat}:Site.fP d (.loc e j)=(d==e):=rfl
theorem ZfZ {d j:Nat}:Site.fP d (.par j)=false:=rfl
theorem ZfY {d j:Nat}:Site.fP d (.ret j)=false:=rfl
theorem Zdv {d:Nat}{l:List AV}:aJ.bG d (.cells l)=.cells (l.map (AV.bG d)):=rfl
theorem Zfu {d:Nat}{l:List (PV×PV)}:aJ.bG d (.map l)=.map l:=rfl
theorem Zfv {d n:Nat}{e:TypeId}{l:List PV}:aJ.bG d (.arr e n l)=.arr e n l:=rfl
theorem Zer {d nt:Nat}{C:Code×Code}{ps:List Nat}{tm:List (Nat×AV)}{st:Option Code}:aJ.bG d (.loop C ps nt tm st)=.loop C ps nt (tm.map fun p=>(p.1,p.2.bG d)) st:=rfl
theorem UN {tm:List (Nat×AV)}{X:List aJ}{r:List (Site×aJ)}:yB ⟨tm,laid 0 X++r⟩ X:=fun j b h=>by
 have h1:(laid 0 X).lookup (.par j)=some b:=by have:=ZhJ X 0 j;rw[sF]at this;rw[this];exact h
 show(laid 0 X++r).lookup (.par j)=some b;clear h;generalize laid 0 X=l at h1;induction l with
 |nil=>cases h1
 |cons p l ih=>
  obtain⟨a,c⟩:=p;by_cases e:Site.par j=a
  .subst e;rw[mX]at h1;rw[List.cons_append,mX];exact h1
  .rw[jJ e]at h1;rw[List.cons_append,jJ e];exact ih h1
theorem YL {tm:List (Nat×AV)}{X:List aJ}{p:Site×aJ}{r:List (Site×aJ)}(hp:p.1.lt X.length=false)(h:yB ⟨tm,r⟩ X):yB ⟨tm,p::r⟩ X:=fun j b hj=>by
 have hl:=(cD.1 hj).1;obtain⟨a,c⟩:=p;have dA:Site.par j≠a:=fun e=>by subst e;simp[Site.lt]at hp;omega
 show((a,c)::r).lookup (.par j)=some b;rw[jJ dA];exact h j b hj
theorem gL {P:Program}{o:LO}{t r:LT}{K:AS->Prop}{σ:AS}:gN P (.alt o t r) K σ=(FN P o (hold (gN P t K)) σ/\hold (gN P r K) σ):=rfl
theorem gS {P:Program}{K:AS->Prop}{σ:AS}:gN P .no K σ=True:=rfl
theorem KP {P:Program}{t r:LT}{K:AS->Prop}{σ:AS}(τ:AS)(h1:gN P t (fun zI=>Sub τ zI) σ)(h2:gN P r K τ):gN P (.seq t r) K σ:=
 ⟨fun x=>x=τ,by
  have:(fun zI=>∃x,Sub x zI/\x=τ)=fun zI=>Sub τ zI:=by
   funext zI;exact propext ⟨fun⟨x,h,e⟩=>e▸h,fun h=>⟨τ,h,rfl⟩⟩
  rw[this];exact h1,fun x e=>by subst e;exact h2⟩
theorem Zid {σ:AS}:∀{X:List aJ} {i:Nat},(∀j b,X[j]?=some b->σ.b (.par (i+j))=some b)->S5 (laid i X) σ
 |[],i,h=>trivial
 |b::r,i,h=>⟨h 0 b rfl,Zid (fun j b' e=>by rw[show i+1+j=i+(j+1) by omega];exact h (j+1) b' (by simpa using e))⟩
theorem Iu {σ:AS}{X:List aJ}(h:yB σ X):S5 (laid 0 X) σ:=Zid (fun j b e=>by rw[sF];exact h j b e)
section
variable {P:Program}{σ:AS}{K:AV->AS->Prop}
theorem Zim {n:Nat}{rs:List oF}{R:AV->List (Site×aJ)->Prop}{L:List aJ}{l:List AV}(h:σ.GG rs=some l)(ho:(rU l).dC dO=true)(hl:L.length=n)(hs:yB σ L)(hc:FC n L)(hR:R (rU l) (laid 0 L)):aT (dM n) rs R σ:=by
 refine⟨l,h,ho,?_,Zjr hl hs hc,?_⟩
 .rw[rM];intro s hs;exact Zk2 (YJ.1 hs)
 .rw[Zqy hl hs,ZgY,Hd];exact hR
theorem ZlN (d m:Nat)(X:List aJ){f:bB}{args:List bB}{d0:Nat}{R:AV->List (Site×aJ)->Prop}(h1:σ.o f=.nQ (.par 0))(hm:0<m)(hl:X.length=m)(hs:yB σ X)(hc:FC m X)
  (h4:AV.hZ (Site.lt m) (args.map σ.o)=true) (hC:GS P 0 (args.map σ.o) (laid 0 X) R)
  (hK:∀r B',R r B'->∃L',B'=laid 0 L'/\L'.length=m/\FC m L'/\r.dC (Site.lt m)=true/\K r ((((⟨σ.tm,σ.bx.filter fun p=>!p.1.lt m⟩:AS).bG d)).lX (laid 0 L'))):
  zD P f args d0 K σ\/(GX P f args K σ\/GY P f args K σ):=by
 refine .inr (.inr ⟨d,[],dM m,.par 0,0,laid 0 X,h1,Ip hm,Zjq,?_,Zjy hl hs hc,?_,?_⟩)
 .rw[rM];intro s hs;rw[ZrQ (YJ.1 hs)];rfl
 .exact AV.OP (fun s hs=>by rw[Zcc];exact hs) _ h4
 .rw[ZiH,TX];refine hC.mono (fun r B' h=>?_);obtain⟨L',rfl,k1,k2,k3,k4⟩:=hK r B' h;refine⟨AV.XE (fun s hs=>ZhG hs) _ k3,XW (by omega) k2,?_⟩;rw[AV.Ys (fun s hs=>Zeu hs) _ k3,Zio (by omega) k2];cases σ;simp only[aL];rw[ZjR];exact k4
end
end
section
attribute [local simp] aJ.bG Site.fP
section
variable {P:Program}{σ:AS}{K:AV->AS->Prop}
end
end
section
attribute [local simp] aJ.bG Site.fP
theorem YW {P:Program}(hm:P.follows .mixedOrders=true){C:Code×Code}{ps:List Nat}{nt i:Nat}{tm:List (Nat×AV)}{la lb:bH}(Uv:dQ P nt C.1=some la)(Uu:dQ P nt C.2=some lb){gG:List AV}{B:List (Site×aJ)}
  {R:AV->List (Site×aJ)->Prop} (hB:B.lookup (.par i)=some (.loop C ps nt tm none)) (yM:ps.length=gG.length) (Q1:∀p∈ps,p<nt) (AG:AV.hZ Site.x3 (tm.map (·.2))=true)
  (h:eM P la (iV (hold (eM P lb (Zi C ps nt tm i R))) (fun _ _=>False)) ⟨qR ps gG tm,B.filter fun p=>!decide (p.1=.par i)⟩):GS P i gG B R:=by
 refine Zhb hm Uv Uu hB yM Q1 AG ?_;refine KX (J1 h) (fun e τ q=>?_);cases e with
 |normal=>
  have q':eM P lb (Zi C ps nt tm i R) τ:=q;exact J1 q'
 |exit id=>exact q
 |ret=>exact q
section
variable {P:Program}{σ:AS}
theorem YD (aE:List Site)(tm:List (Nat×AV)){nt:Nat}{g:bB}{C:Code×Code}{ps:List Nat}{la lb:bH}{Q:sK->AS->Prop}{gf:FuncId}{fs cs gG:List AV}{B:List (Site×aJ)}{R:AV->List (Site×aJ)->Prop}
  (h1:mT (((σ.bG nt).add (.loc nt 0) (.loop C ps nt tm none)).o g)=some (gf,fs,cs)) (AG:n7 tm (σ.bG nt)) (h2:EY aE=true) (h3:aE.all (fun s=>!s.fP (nt+1))=true)
  (hB:pD ((σ.bG nt).add (.loc nt 0) (.loop C ps nt tm none)) aE 0 aE=some B) (h4:AV.hZ (fun x=>aE.contains x) (fs++[.nQ (.loc nt 0)]++cs)=true) (ha:AV.iT (kF aE) (fs++[.nQ (.loc nt 0)]++cs)=gG) (hC:cU P gf gG B R)
  (hK:∀r B',R r B'->r.dC (cA aE)=true/\(∀p∈B',cA aE p.1=true/\p.2.dC (cA aE)=true)/\
   ∃C' Jy Ka Jr st,(((cT aE ((σ.bG nt).add (.loc nt 0) (.loop C ps nt tm none))).bG (nt+1)).lX (fB aE (nt+1) B')).b (.loc nt 0)=some (.loop C' Jy Ka Jr st)/\
    lB Q st ((((cT aE ((σ.bG nt).add (.loc nt 0) (.loop C ps nt tm none))).bG (nt+1)).lX (fB aE (nt+1) B')).drop (.loc nt 0))):
  eM P (.vM nt g C la lb ps) Q σ:=by
 show J6 P nt g C ps Q σ;refine⟨σ,Sub.Zx4 σ,[],aE,tm,_,gf,fs,cs,B,fun t a k=>Zfj AG t a k,rfl,?_,UI h2,h3,hB,h4,?_⟩
 .unfold mT at h1;split at h1
  .rename_i e;cases h1;exact .inl e
  .rename_i tP iM e;cases h1;exact .inr ⟨tP,iM,e,rfl,rfl⟩
  .cases h1
 .rw[ha];refine hC.mono (fun r B' h=>?_);obtain⟨k1,k2,C',Jy,Ka,Jr,st,k3,k4⟩:=hK r B' h;refine⟨k1,k2,?_⟩;have k3':(((cT aE ((((aL [] σ).bG nt).add (.loc nt 0) (.loop C ps nt tm none)))).bG (nt+1)).lX (fB aE (nt+1) B')).b (.loc nt 0)=some (.loop C' Jy Ka Jr st):=k3;rw[k3'];exact k4
theorem ZsS {nt:Nat}{g:bB}{C:Code×Code}{ps:List Nat}{la lb:bH}{Q:sK->AS->Prop}{τ:AS}(hs:Sub τ σ)(h:eM P (.vM nt g C la lb ps) Q τ):eM P (.vM nt g C la lb ps) Q σ:=by
 obtain⟨Qt,h1,h2⟩:J6 P nt g C ps Q τ:=h;exact⟨Qt,h1.trans' hs,h2⟩
end
end
section
attribute [local simp] aJ.bG Site.fP
def oL (fz:List Site)(rs:List oF)(R:AV->List (Site×aJ)->Prop)(σ:AS):Prop:=B6 rs R (aY fz σ)
theorem ZpB {fz:List Site}{rs:List oF}{R:AV->List (Site×aJ)->Prop}{σ:AS}(h:oL fz rs R σ):rS rs R σ:=by
 unfold oL B6 at h;split at h
 .rename_i l hl;split at h
  .rename_i x hx;exact⟨fz,[],l,hl,by rw[hx];rfl,rfl,(fun s hs=>by cases hs),by rw[hx];exact h⟩
  .exact h.elim
 .exact h.elim
theorem Qi {P:Program}(fz:List Site){f:FuncId}{F:aW}{args:List AV}{B:List (Site×aJ)}{R:AV->List (Site×aJ)->Prop}(hm:P.follows .mixedOrders=true)(hf:fV P f=some F)(hn:args.length<=F.nt)
  (h:eM P F.code (lF (oL fz F.res R)) ⟨eZ 0 args,B⟩):cU P f args B R:=Jc hm hf hn (fun _ h=>ZpB h) (J1 h)
theorem aN {a b:Nat}:Nat.ble a b=decide (a<=b):=by rw[rB,Nat.ble_eq];simp
theorem bV {a b:Nat}:Nat.blt a b=decide (a<b):=by rw[rB,Nat.blt_eq];simp
end
@[simp] def O (d:Nat)(x:lY):LO:=⟨some d,none,x,true⟩
@[simp] def Of (d:Nat)(x:lY):LO:=⟨some d,none,x,false⟩
@[simp] def N (x:lY):LO:=⟨none,none,x,true⟩
@[simp] def Nf (x:lY):LO:=⟨none,none,x,false⟩
@[simp] def G (d g:Nat)(b:Bool)(x:lY):LO:=⟨some d,some (g,b),x,true⟩
@[simp] def Gf (d g:Nat)(b:Bool)(x:lY):LO:=⟨some d,some (g,b),x,false⟩
@[simp] def Ng (g:Nat)(b:Bool)(x:lY):LO:=⟨none,some (g,b),x,true⟩
@[simp] def Nh (g:Nat)(b:Bool)(x:lY):LO:=⟨none,some (g,b),x,false⟩
@[simp] def I (n:Int):bB:=.c (.int .i64 n)
@[simp] def C (n:Nat):bB:=.c (.fn n [] [])
@[simp] def M (n:Nat):lY:=.dU (.t n)
@[simp] def Om (d s:Nat):LO:=⟨some d,none,.dU (.t s),true⟩
@[simp] def OM (d:Nat)(n:Int):LO:=⟨some d,none,.dU (.c (.int .i64 n)),true⟩
@[simp] def Ol (d n s:Nat):LO:=⟨some d,none,.load false n (.t s),true⟩
@[simp] def Ot (d n s:Nat):LO:=⟨some d,none,.load true n (.t s),true⟩
@[simp] def Oa (d n s:Nat):LO:=⟨some d,none,.fa n (.t s),true⟩
@[simp] def Oi (d n s i:Nat):LO:=⟨some d,none,.ia n none (.t s) (.t i),true⟩
@[simp] def Oe (d s i:Nat):LO:=⟨some d,none,.ext (.t s) i,true⟩
@[simp] def On (d s:Nat):LO:=⟨some d,none,.len none (.t s),true⟩
@[simp] def Oz (d s:Nat):LO:=⟨some d,none,.vW (.t s),true⟩
@[simp] def Oo (d s:Nat):LO:=⟨some d,none,.not (.t s),true⟩
@[simp] def Ox (d n s:Nat):LO:=⟨some d,none,.box n (.t s),true⟩
@[simp] def Ob (d:Nat)(o:BinOp)(a b:Nat):LO:=⟨some d,none,.bin false o (.t a) (.t b),true⟩
@[simp] def Oc (d:Nat)(o:BinOp)(a:Nat)(n:Int):LO:=⟨some d,none,.bin false o (.t a) (.c (.int .i64 n)),true⟩
@[simp] def Ns (n a b:Nat):LO:=⟨none,none,.store n (.t a) (.t b),true⟩
@[simp] def Ce (a n:Nat):bH:=.cond (.t a) .skip (.exit n)
@[simp] def Cd (a:Nat)(x y:bH):bH:=.cond (.t a) x y
@[simp] def Z0:PV:=.int .i64 0
@[simp] def E0:PV:=.emp (some true)
@[simp] def Bf:bB:=.c (.bool false)
@[simp] def Bt:bB:=.c (.bool true)
@[simp] def S (l:List LO)(c:bH):bH:=.seq (.region l) c
@[simp] def Ok (d n:Nat)(l:List bB):LO:=⟨some d,none,.call (.c (.fn n [] [])) l,true⟩
@[simp] def Pl (d n:Nat):LO:=⟨some d,none,.load false 1 (.t n),false⟩
@[simp] def Pa (d k n:Nat):LO:=⟨some d,none,.fa k (.t n),false⟩
@[simp] def Pg (d g n:Nat):LO:=⟨some d,some (g,true),.load false 1 (.t n),true⟩
@[simp] def Pi (d g n:Nat):LO:=⟨some d,some (g,true),.load false 1 (.t n),false⟩
@[simp] def Pm (d n:Nat):LO:=⟨some d,none,.dU (.t n),false⟩
@[simp] def Pp (d a b:Nat):LO:=⟨some d,none,.pick (.t a) (.t b) (.c (.bool false)),true⟩
@[simp] def Pq (d a b:Nat):LO:=⟨some d,none,.pick (.t a) (.c (.bool true)) (.t b),true⟩
@[simp] def Pf (d:Nat):LO:=⟨some d,none,.dU (.c (.bool false)),true⟩
@[simp] def Pe (d:Nat):LO:=⟨some d,none,.dU (.c (.emp (some true))),true⟩
@[simp] def Pt (d n m:Nat):LO:=⟨some d,none,.load true n (.t m),false⟩
@[simp] def Py (d a b c x y:Nat):LO:=⟨some d,none,.app a b c (.t x) (.t y),true⟩
@[simp] def Ph (d g k n:Nat):LO:=⟨some d,some (g,true),.fa k (.t n),true⟩
@[simp] def Pn (d g n:Nat):LO:=⟨some d,some (g,true),.dU (.t n),true⟩
@[simp] def Pj (d w n:Nat)(i:Int):LO:=⟨some d,none,.ia w none (.t n) (.c (.int .i64 i)),false⟩
@[simp] def Pz (d n:Nat):LO:=⟨some d,none,.vW (.t n),false⟩
@[simp] def Pb (d a b n:Nat):LO:=⟨some d,none,.aQ a b [.t n],true⟩
instance:Coe LO (List LO):=⟨fun x=>[x]⟩
@[simp] def aD (l:List (List LO))(c:bH):bH:=.seq (.region l.flatten) c
@[simp] def cN (l:List (List LO)):bH:=.region l.flatten
@[simp] def bD (d a b c:Nat):List LO:=[Oa d a b,Ol (d+1) c d]
@[simp] def rK (d a b c e f:Nat):List LO:=[G d a false (.fa b (.t c)),G (d+1) e false (.load false f (.t d))]
@[simp] def bM (d a b:Nat):List LO:=[Om d a,Om (d+1) b]
@[simp] def iK (d a b c:Nat):List LO:=[Om d a,Oc (d+1) .add d b,Om c (d+1)]
@[simp] def Lk (d a b:Nat)(c:Int)(e f g:Nat)(h:Int)(i:Int):List LO:=[G d a true (.bin false .eql (.t b) (I c)),Pp (d+1) e d,Om (d+2) (d+1),Pn (d+3) (d+2) f,G (d+4) (d+2) true (.ia g none (.t (d+3)) (I h)),Pg (d+5) (d+2) (d+4),G (d+6) (d+2) true (.bin false .eql (.t (d+5)) (I i)),Pp (d+7) (d+2) (d+6)]
@[simp] def WW (d a b c:Nat)(e:Int)(f g:Nat)(h:Int)(i:Int):List LO:=[Om d a,G (d+1) d false (M b),G (d+2) d false (.ia c none (.t (d+1)) (I e)),G (d+3) d false (.load false f (.t (d+2))),G (d+4) d false (.call (C g) [.t (d+3),I h,I i]),G (d+5) d false (.not (.t (d+4))),Pq (d+6) d (d+5)]
@[simp] def j4 (d a b:Nat):List LO:=[O d (.alloc (.agg [Z0,Z0,Z0,Z0,Z0,Z0,Z0])),Ns a d b]
@[simp] def WV (d a b c:Nat)(e:Int)(f:Nat)(g:Int)(h:Int):List LO:=[Om d a,Pn (d+1) d b,G (d+2) d true (.ia c none (.t (d+1)) (I e)),Pg (d+3) d (d+2),G (d+4) d true (.call (C f) [.t (d+3),I g,I h]),Pp (d+5) d (d+4)]
@[simp] def TI (d a b c e:Nat):List LO:=[Om d a,Pn (d+1) d b,Pn (d+2) d c,G (d+3) d true (.bin false .leq (.t (d+1)) (.t (d+2))),Pp (d+4) d (d+3),Om e (d+4)]
@[simp] def oD (d a b:Nat):List LO:=[On d a,Ob (d+1) .lss b d]
@[simp] def mG (d a b c e f:Nat):List LO:=[Om d a,Oe b d c,Oe e d f]
@[simp] def pY (d a b:Nat):List LO:=[Om d a,Ok (d+1) b [.t d]]
@[simp] def V6 (d a b:Nat)(c:Int)(e:Nat):List LO:=[O d (.ia a none (.t b) (I c)),Ol (d+1) e d]
@[simp] def V5 (d a b c:Nat):List LO:=[G d a false (.not (.t b)),Pq (d+1) c d]
@[simp] def F8 (d a b c:Nat):List LO:=[Om d a,Ph (d+1) d b c,Pg (d+2) d (d+1)]
@[simp] def zA (d a b:Nat):List LO:=[Pm d a,Pz (d+1) d,Pa (d+2) b (d+1)]
@[simp] def pX (d a b c:Nat):List LO:=[Oc d .add a b,Om c d]
@[simp] def yZ (d a b c:Nat):List LO:=[Om d a,Ok (d+1) b [.t c,.t d]]
@[simp] def JX (d a b c e:Nat):List LO:=[Of d (.ia a none (.t b) (.t c)),Pa (d+1) e d,Pl (d+2) (d+1)]
@[simp] def oC (d a b c:Nat):List LO:=[Om d a,Oi (d+1) b c d]
@[simp] def GF (d a b c e f:Nat):List LO:=[G d a true (.call (C b) [.t c,.t e]),Pp (d+1) f d]
@[simp] def AX (d a b c:Nat):List LO:=[Ot d a b,O (d+1) (.call (.t c) [.t d])]
@[simp] def OI (d a b:Nat):List LO:=[O d (.alloc (.agg [E0,E0,E0,E0,E0])),Ns a d b]
@[simp] def jZ (d a b:Nat):List LO:=[Om d a,Om b d]
@[simp] def ZzC (d a b c e f g h:Nat)(i:Int)(j k:Nat)(l:Int)(m n o:Nat):List LO:=[O d (.build (.agg [Z0,.bool false,Z0,Z0]) [(a,(b,Bt)),(c,(e,(.t f)))]),O (d+1) (.build (.agg [Z0,.bool false,Z0,Z0]) [(g,(h,(I i)))]),O (d+2) (.build (.agg [Z0,.bool false,Z0,Z0]) [(j,(k,(I l)))]),O (d+3) (.build (.agg [Z0,.bool false,Z0,Z0]) []),O (d+4) (.build (.agg [Z0,.bool false,Z0,Z0]) []),O (d+5) (.aQ m (d+1) [.t n,.t d,.t (d+1),.t (d+2),.t (d+3),.t (d+4)]),Om o (d+5)]
@[simp] def qK (d a b:Nat):List LO:=[Om d a,Pn (d+1) d b]
@[simp] def R0 (d a b:Nat):List LO:=[Om d a,Oz (d+1) d,Oa (d+2) b (d+1)]
@[simp] def KA (d a b:Nat):List LO:=[O d (.alloc (.agg [Z0,Z0,Z0])),Ns a d b]
@[simp] def pH (d a:Nat):List LO:=[Om d a,On (d+1) d]
@[simp] def rL (d a b c:Nat):List LO:=[Pm d a,Pj (d+1) b d c]
@[simp] def ZzI (d a b c e f g h i j:Nat)(k:Int)(l:Nat):List LO:=[G d a true (.load false b (.t c)),G (d+1) e true (.yJ .sl false (.t d)),G (d+2) f true (M (d+1)),G (d+3) (d+2) false (M g),G (d+4) (d+2) false (.load false h (.t i)),G (d+5) (d+2) false (.call (C j) [.t (d+3),.t (d+4)]),G (d+6) (d+2) false (.bin false .lss (.t (d+5)) (I k)),G (d+7) l true (.pick (.t (d+2)) Bt (.t (d+6)))]
@[simp] def TM (d a b c:Nat):List LO:=[Pm d a,Pm (d+1) b,Of (d+2) (.ia c none (.t d) (.t (d+1)))]
@[simp] def TK (d a:Nat):List LO:=[O d (.alloc (.agg [E0,E0,E0,E0,E0])),OM (d+1) a]
@[simp] def OH (d a b c:Nat):List LO:=[Om d a,G (d+1) d true (.load true b (.t c))]
@[simp] def O5 (d a b:Nat):List LO:=[Om d a,Oc (d+1) .neq d b]
@[simp] def Fp (d a:Nat)(b:Int):List LO:=[Om d a,O (d+1) (.bin false .shr (.t d) (.c (.int .u64 (b))))]
@[simp] def Q9 (d a b c e f g h i:Nat):List LO:=[Pb d a b c,Py (d+1) e f g h d,Om i (d+1)]
@[simp] def WY (d a b:Nat)(c:Int)(e:Nat):List LO:=[G d a true (.bin false .eql (.t b) (I c)),Pp (d+1) e d]
@[simp] def JZ (d a b c:Nat):List LO:=[G d a true (.not (.t b)),Pp (d+1) c d]
@[simp] def uP (d a b c e f g:Nat):List LO:=[Ot d a b,Ns c e d,OM f g]
@[simp] def Q8 (d a b c:Nat):List LO:=[Ot d a b,Ok (d+1) c [.t d]]
@[simp] def Yg (d a b:Nat):List LO:=[Om d a,O (d+1) (.x (.look ⟨false,[.int .i64]⟩ (.agg [Z0,Z0,Z0,Z0,Z0,Z0,Z0]) false (.t b) (.t d)))]
@[simp] def Lm (d a b c e f:Nat):List LO:=[Gf d a true (M b),Gf (d+1) c true (.vW (.t d)),Gf (d+2) e true (.fa f (.t (d+1)))]
@[simp] def OG (d a:Nat):List LO:=[Pl d a,Of (d+1) (.len none (.t d))]
@[simp] def Ll (d a b c:Nat):List LO:=[Of d (.load false a (.t b)),Of (d+1) (.vW (.t d)),Of (d+2) (.fa c (.t (d+1)))]
@[simp] def xB (d a b c e:Nat):List LO:=[Oi d a b c,Ol (d+1) e d]
@[simp] def TJ (d a b:Nat):List LO:=[O d (.alloc (.agg [Z0,Z0])),Ns a d b]
@[simp] def WX (d a b c e:Nat):List LO:=[G d a false (.pick (.t b) (.t c) Bf),Pq (d+1) e d]
@[simp] def TO (d a b c e:Nat):List LO:=[G d a true (.call (C b) [.t c]),Pp (d+1) e d]
@[simp] def EP (d a b c e:Nat):List LO:=[Ot d a b,Ok (d+1) c [.t e,.t d]]
@[simp] def Fq (d a b c e f:Nat):List LO:=[Oi d a b c,Ot (d+1) e d,O f (.alloc (.agg [Z0,Z0,Z0,Z0]))]
@[simp] def TN (d a b c e:Nat):List LO:=[Pl d a,Of b (.ia c none (.t d) (.t e))]
@[simp] def Yi (d a b c:Nat):List LO:=[Om d a,G (d+1) d false (M b),G (d+2) d false (M c),G (d+3) d false (.x (.B3 (.t (d+1)) (.t (d+2))))]
@[simp] def Zz5 (d a b c e f g:Nat):List LO:=[G d a true (.load true b (.t c)),G (d+1) e true (.x (.eqv true ⟨true,[.int .i64,.int .i64,.int .i64,.int .i64,.int .i64,.int .i64,.int .i64]⟩ (.t f) (.t d))),Pp (d+2) g (d+1)]
@[simp] def F9 (d a b c e:Nat):List LO:=[Ph d a b c,Pg (d+1) e d]
@[simp] def WZ (d a b c e:Nat):List LO:=[O d (.yK a [] [.t b]),Ok (d+1) c [.t e,.t d]]
@[simp] def Zz8 (d a b c:Nat):List LO:=[Pl d a,Of (d+1) (.x (.look ⟨false,[.int .i64]⟩ (.agg [Z0,Z0,Z0,Z0,Z0,Z0,Z0]) false (.t b) (.t d))),Of c (.alloc (.agg [Z0,Z0,Z0,Z0,Z0,Z0,Z0]))]
@[simp] def Yh (d a b c:Nat)(e:Int)(f:Nat):List LO:=[G d a false (.len none (.t b)),G (d+1) c false (.bin false .gtr (.t d) (I e)),Pq (d+2) f (d+1)]
@[simp] def ZAa (d a b c e f g h i j:Nat):List LO:=[Pa d a b,Pl (d+1) d,Of c (.call (C e) []),O (d+2) (.build (.agg [E0,E0]) [(f,(g,(.t h))),(i,(j,(.t (d+1))))])]
@[simp] def PF (d a b c e:Nat):List LO:=[Om d a,Ok (d+1) b [.t c,.t e,.t d]]
@[simp] def Qq (d:Nat):List LO:=[O d (.dU (.c .eX)),O (d+1) (.dU (.c .cV))]
@[simp] def LK (d a b:Nat):List LO:=[Pl d a,Pz (d+1) d,Pa (d+2) b (d+1)]
@[simp] def ZAe (d a b c e f g h i j k l m n o p q r s:Nat):List LO:=[Pm d a,Gf b d false (.fa c (.t e)),Gf f d false (M g),Gf (d+1) d false (.load true h (.t i)),Gf j d false (.load false k (.t l)),Gf m d false (.ia n none (.t o) (.t p)),Gf q d false (.load true r (.t s))]
@[simp] def Qo (d a b c e:Nat):List LO:=[G d a true (.bin false .lss (.t b) (.t c)),Pp (d+1) e d]
@[simp] def ZAg (d a b c e f g:Nat):List LO:=[Gf d a true (.x (.look ⟨false,[.int .i64]⟩ (.agg [Z0,Z0,Z0,Z0,Z0,Z0,Z0]) false (.t b) (.t c))),Gf (d+1) e true (.NX false f g (.t d))]
@[simp] def Qm (d a b c e:Nat):List LO:=[G d a true (.bin false .leq (.t b) (.t c)),Pp (d+1) e d]
@[simp] def Je (d a b c e f g:Nat):List LO:=[Pi d a b,Gf c e true (.ia f none (.t d) (.t g))]
@[simp] def Ql (d a b c e f:Nat):List LO:=[Of d (.load false a (.t b)),Of c (.load false e (.t f))]
@[simp] def YZ (d a b c e:Nat):List LO:=[Gf d a true (M b),Gf (d+1) c true (M e)]
@[simp] def YY (d a:Nat):List LO:=[O d (.dU (.c .eX)),OM (d+1) a]
@[simp] def ZAm (d a b:Nat)(c:Int)(e f:Nat)(g:Int)(h i:Nat)(j:Int)(k l:Nat)(m:Int)(n o:Nat)(p:Int)(q r:Nat)(s:Int)(t u v w x y z:Nat):List LO:=[O d (.build (.agg [Z0,Z0,Z0]) [(a,(b,(I c))),(e,(f,(I g))),(h,(i,(I j)))]),O (d+1) (.build (.agg [Z0,Z0,Z0]) [(k,(l,(I m))),(n,(o,(I p))),(q,(r,(I s)))]),O (d+2) (.aQ t u [.t d,.t (d+1)]),O (d+3) (.build (.agg [Z0,E0]) [(v,(w,(.t x))),(y,(z,(.t (d+2))))])]
@[simp] def ZAn (d a:Nat)(b:Int)(c:Nat):List LO:=[Om d a,O (d+1) (.bin false .and (.t d) (.c (.int .u64 (b)))),Om c (d+1)]
@[simp] def xY (d a b:Nat):List LO:=[On d a,OM (d+1) b]
@[simp] def LJ (d a b:Nat):List LO:=[Om d a,Oc (d+1) .eql d b]
@[simp] def ZAq (d a b:Nat)(c:Int)(e:Nat):List LO:=[Ob d .add a b,O (d+1) (.conv .u64 (.t d)),O (d+2) (.bin false .shr (.t (d+1)) (.c (.int .u64 (c)))),O (d+3) (.conv .i64 (.t (d+2))),Om e (d+3)]
@[simp] def tW (d a b:Nat):List LO:=[Ox d a b,Pf (d+1)]
@[simp] def YX (d a b c e f g h:Nat):List LO:=[Of d (.aQ a b [.t c]),Py (d+1) e f g h d]
@[simp] def Jd (d a:Nat):List LO:=[Om d a,O (d+1) (.x (.rP (.t d)))]
@[simp] def UQ (d a b:Nat)(c:Int)(e:Int):List LO:=[Ok d a [.t b,I c,I e],Oo (d+1) d]
@[simp] def ZAv (d a b c e:Nat):List LO:=[G d a false (.x (.look ⟨false,[.int .i64]⟩ (.bool false) false (.t b) (.t c))),O (d+1) (.pick (.t e) Bt (.t d))]
@[simp] def FG (d a b c:Nat):List LO:=[Ob d .add a b,Om c d]
@[simp] def nF (d a b c:Nat):List LO:=[Pl d a,Pl b c]
@[simp] def ZAy (d a:Nat)(b:Int):List LO:=[Om d a,O (d+1) (.bin false .neq (.t d) (.c (.int .u8 (b))))]
@[simp] def ZAz (d a b c e f g:Nat):List LO:=[G d a true (.load true b (.t c)),G (d+1) e true (.call (C f) [.t g,.t d])]
@[simp] def z7 (d a b:Nat):List LO:=[Oz d a,Oa (d+1) b d]
@[simp] def z6 (d a:Nat):List LO:=[Om d a,Oz (d+1) d]
@[simp] def Qr (d a b c e f:Nat):List LO:=[Pn d a b,G (d+1) c true (.ia e none (.t f) (.t d))]
@[simp] def ZAD (d a b c e f:Nat):List LO:=[Om d a,G (d+1) d false (.fa b (.t c)),G (d+2) d false (.load true e (.t (d+1))),G (d+3) d false (.call (C f) [.t (d+2)])]
@[simp] def ZAE (d a b:Nat):List LO:=[O d (.alloc (.agg [Z0,Z0,Z0,.bool false])),Ns a d b]
@[simp] def ZA (d a b:Nat):List LO:=[Om d a,G (d+1) d false (M b)]
noncomputable section
def L5:aW :=⟨108,S [Pf 0] (aD [Ok 11 11 [],O 12 (.aQ 9 1 [.c (.str ⟨#[116,101,115,116,32,55,32,51,32,50,48,32,54,48,48]⟩),.c (.str ⟨#[98,97,100,32,49]⟩),.c (.str ⟨#[116,101,115,116,32,55,32,50,32,50,48,32,54,48,48]⟩)]),Py 13 9 1 16 11 12,Ok 14 10 [.t 13],mG 10 14 15 0 16 1,Oe 17 10 2,OI 1 5 15,bM 2 16 17] (aD [Ok 19 11 [],Ok 20 12 [.t 19,I 1],mG 18 20 21 0 22 1,bM 4 21 22] (aD [Ok 24 11 [],Ok 25 6 [.t 24],mG 23 25 26 0 27 1,bM 6 26 27] (aD [O 29 (.aQ 9 1 [.c (.str ⟨#[97]⟩)]),Ok 30 13 [.t 29],mG 28 30 31 0 32 1,bM 8 31 32] (aD (.append [LJ 33 3 0,qK 35 34 2,G 37 35 true (.len none (.t 36)),Lk 38 35 37 7 35 2 1 0 0,qK 46 45 2,G 48 46 true (.ia 1 none (.t 47) (I 1)),Pg 49 46 48,Lk 50 46 49 0 46 2 1 2 0,qK 58 57 2,G 60 58 true (.ia 1 none (.t 59) (I 3)),Pg 61 58 60,Lk 62 58 61 0 58 2 1 4 10,qK 70 69 2,G 72 70 true (.ia 1 none (.t 71) (I 5)),Pg 73 70 72,Lk 74 70 73 0 70 2 1 6 10,qK 82 81 5,WY 84 82 83 0 82,qK 86 85 4,G 88 86 true (.aQ 3 1 [I 0,I 1]),GF 89 86 14 87 88 86,qK 91 90 7,WY 93 91 92 0 91,qK 95 94 6,G 97 95 true (.x (.eqv false ⟨false,[.str]⟩ (.t 96) (.c (.str ⟨#[108,111,116,32,55,32,116,101,115,116,115,32,50,32,111,112,101,110,10,99,101,114,116,115,32,49,32,104,101,108,100,32,49,32,98,97,100,32,48,10,101,110,100,32,48,10]⟩)))),Pp 98 95 97,qK 99 98 9,WY 101 99 100 0 99] [qK 103 102 8,G 105 103 true (.x (.PK (.t 104))),G 106 103 true (.x (.eqv false ⟨false,[.str]⟩ (.t 105) (.c (.str ⟨#[123,48,48,49,58,57,57,56,58,48,48,49,48,57,125,97,10]⟩)))),Pp 107 103 106,Om 0 107]) .ret))))),[.tm 0]⟩
def L11:aW :=⟨2,S [Pe 0] (S [O 1 (.aQ 9 1 [.c (.str ⟨#[99,101,114,116,32,49,32,50,32,48,32,49,48,32,49,48,48,32,45,49,32,49]⟩),.c (.str ⟨#[108,111,116,32,55,32,56,32,53,48,48]⟩),.c (.str ⟨#[116,101,115,116,32,55,32,50,32,50,48,32,53,49,49]⟩),.c (.str ⟨#[116,101,115,116,32,55,32,50,32,50,48,32,53,49,48]⟩)]),Om 0 1] .ret),[.tm 0]⟩
def L20:aW :=⟨27,S [Ox 2 2 0,Pe 4,OM 5 0] (aD [Ot 10 2 2,yZ 11 1 48 10,mG 9 12 13 0 14 1,bM 6 13 14] (.seq (aD [O5 15 7 0] (Cd 16 (S [Om 17 7,Pe 4,Om 5 17] .ret) .skip)) (aD [pY 18 6 49,O 8 (.alloc .cV),Ns 1 8 19] (aD [z6 20 6,bD 22 3 21 1,Ok 24 51 [.t 23],WZ 25 52 8 50 24,Om 4 26,OM 5 0] .ret)))),[.tm 4,.tm 5]⟩
def L21:aW :=⟨15,S [Ox 1 1 0,O 2 (.alloc (.agg [E0,E0]))] (aD [Ol 4 1 1,z7 5 4 0,bD 7 0 6 1,Ok 9 54 [.t 8],WZ 10 55 1 53 9,Om 3 11] (S [Ok 12 57 [],Om 13 3,O 14 (.build (.agg [E0,E0]) [(0,(1,(.t 12))),(1,(1,(.t 13)))]),Ns 2 2 14] .ret)),[.cell 2 true 2]⟩
def L22:aW :=⟨33,S [O 2 (.dU (.c (.str ⟨#[]⟩)))] (S [Pe 3] (.seq (aD [pH 8 0,OM 10 0] (.block 0 (.loop (S [Ob 11 .lss 10 9] (.seq (Ce 11 0) (.seq (.block 1 (aD [xB 12 1 8 10 1,Om 5 13] (S [Om 14 5] (.block 2 (S [O 15 (.x (.LX 3 Z0 (.t 14))),Oe 16 15 1,Oe 17 15 0] (Cd 16 (S [Om 6 17] (cN [bM 18 3 6,Ok 20 58 [.t 19],Q9 21 9 1 20 9 1 16 18 3])) (S [O 23 (.x (.LX 9 (.str ⟨#[]⟩) (.t 14))),Oe 24 23 1,Oe 25 23 0] (Cd 24 (S [Om 7 25] (cN [bM 26 3 7,Q9 28 9 1 27 9 1 16 26 3])) .skip)))))))) (cN [pX 30 10 1 10]))))))) (S [Om 31 3,O 32 (.call (C 59) [.t 31,.c (.str ⟨#[32]⟩)]),Om 2 32] .ret))),[.tm 2]⟩
def L27:aW :=⟨31,S [O 2 (.alloc (.agg [E0,E0,E0,E0,E0])),Pe 3] (S [O 4 (.alloc (.agg [E0,E0,E0,E0,E0]))] (S [Pe 5] (.seq (S [OM 6 0] (.block 0 (.loop (.seq (aD [bM 9 6 0,oD 11 10 9] (Ce 12 0)) (.seq (.block 1 (.seq (.jA (.op (Pm 17 0) (.op (Pm 18 6) (.op (Of 19 (.ia 1 none (.t 17) (.t 18))) (.op (Pt 16 5 4) (.op (Pl 20 19) (.seq (.alt (Ok 21 63 [.t 16,.t 20]) (.op (Om 15 21) (.op (Oe 22 15 0) (.op (Oe 23 15 1) (.alt (Of 7 (.alloc (.agg [E0,E0,E0,E0,E0]))) (.alt (Ns 5 7 22) .done .no) .no)))) (.alt (Of 7 (.alloc (.agg [E0,E0,E0,E0,E0]))) (.alt (Ok 21 63 [.t 16,.t 20]) (.op (Om 15 21) (.op (Oe 22 15 0) (.op (Oe 23 15 1) (.alt (Ns 5 7 22) .done .no)))) .no) .no)) (.op (Om 8 23) .done)))))))) (S [Ot 24 5 7,Ns 5 4 24] (cN [bM 25 5 8,Q9 27 3 1 26 3 1 8 25 5])))) (cN [iK 13 6 1 6])))))) (S [Ot 29 5 4,Om 30 5,Ns 5 2 29,Om 3 30] .ret)))),[.cell 2 true 5,.tm 3]⟩
def L45:aW :=⟨8,S [O 2 (.dU (.c (.str ⟨#[]⟩)))] (.seq (S [Om 3 0] (.block 0 (S [O 5 (.bin false .eql (.t 3) (.c (.int .u8 (1)))),Om 4 5] (Cd 4 (S [O 2 (.dU (.c (.str ⟨#[97,99,99,101,112,116,101,100]⟩)))] .ret) (S [O 7 (.bin false .eql (.t 3) (.c (.int .u8 (2)))),Om 6 7] (Cd 6 (S [O 2 (.dU (.c (.str ⟨#[114,101,106,101,99,116,101,100]⟩)))] .ret) .skip)))))) (S [O 2 (.dU (.c (.str ⟨#[111,112,101,110]⟩)))] .ret)),[.tm 2]⟩
def L60:aW :=⟨38,S [Ox 1 2 0,OM 2 0] (S [O 3 (.dU (C 95))] (S [O 4 (.dU (C 96))] (S [O 6 (.yK 99 [] [.t 1]),Om 5 6] (.seq (.block 0 (aD [bD 8 0 1 1,On 10 9,Oc 11 .gtr 10 4,Om 12 11,rK 13 12 1 1 12 1,Yh 15 12 14 12 6 12,Om 18 17,rK 19 18 0 1 18 1,G 21 18 false (M 3),G 22 18 false (.call (C 101) [.t 20,.t 21]),V5 23 18 22 18,Om 7 24] (Cd 7 (S [OM 2 3] .ret) (aD [bD 26 0 1 1,yZ 28 4 101 27,Oo 30 29,Om 31 30,rK 32 31 1 1 31 1,G 34 31 false (M 5),G 35 31 false (.call (C 102) [.t 33,.t 34]),V5 36 31 35 31,Om 25 37] (Cd 25 (S [OM 2 1] .ret) .skip))))) (S [OM 2 0] .ret))))),[.tm 2]⟩
def L63:aW :=⟨63,aD [Ox 2 5 0,TK 4 0] (aD [pY 10 1 106,mG 9 11 12 0 13 1,Oe 14 9 2,bM 6 12 13,Om 8 14] (.seq (S [Om 15 8,Oo 16 15] (Cd 16 (aD [uP 17 5 2 5 4 5 4] .ret) .skip)) (.seq (S [Om 18 6] (.block 0 (S [O 20 (.x (.eqv false ⟨false,[.str]⟩ (.t 18) (.c (.str ⟨#[99,101,114,116]⟩)))),Om 19 20] (Cd 19 (aD [Ot 21 5 2,yZ 22 7 107 21,Oe 24 23 0,Oe 25 23 1,Ns 5 4 24,Om 5 25] .ret) (S [O 27 (.x (.eqv false ⟨false,[.str]⟩ (.t 18) (.c (.str ⟨#[98,97,100]⟩)))),Om 26 27] (Cd 26 (aD [rL 29 7 1 0,Pt 28 5 2,Pl 31 30,Ok 32 108 [.t 28,.t 31],Oe 33 32 0,Oe 34 32 1,Ns 5 4 33,Om 5 34] .ret) (S [O 36 (.x (.eqv false ⟨false,[.str]⟩ (.t 18) (.c (.str ⟨#[108,111,116]⟩)))),Om 35 36] (Cd 35 (aD [Ot 37 5 2,yZ 38 7 109 37,Oe 40 39 0,Oe 41 39 1,Ns 5 4 40,Om 5 41] .ret) (S [O 43 (.x (.eqv false ⟨false,[.str]⟩ (.t 18) (.c (.str ⟨#[116,101,115,116]⟩)))),Om 42 43] (Cd 42 (aD [Ot 44 5 2,yZ 45 7 110 44,Oe 47 46 0,Oe 48 46 1,Ns 5 4 47,Om 5 48] .ret) (S [O 50 (.x (.eqv false ⟨false,[.str]⟩ (.t 18) (.c (.str ⟨#[112,97,115,115]⟩)))),Om 49 50] (Cd 49 (aD [rL 52 7 1 0,Pt 51 5 2,Pl 54 53,Ok 55 111 [.t 51,.t 54],Oe 56 55 0,Oe 57 55 1,Ns 5 4 56,Om 5 57] .ret) .skip)))))))))))) (aD [Ot 58 5 2,yZ 59 7 112 58,Oe 61 60 0,Oe 62 60 1,Ns 5 4 61,Om 5 62] .ret)))),[.cell 4 true 5,.tm 5]⟩
def L70:aW :=⟨18,S [Pf 4] (.seq (S [OM 5 0] (.block 0 (.loop (.seq (aD [bM 6 5 0,oD 8 7 6] (Ce 9 0)) (.seq (.block 1 (aD [bM 12 0 5,xB 14 1 12 13 1,Om 16 1,Ob 17 .eql 15 16] (Cd 17 (S [O 4 (.dU Bt)] .ret) .skip))) (cN [iK 10 5 1 5])))))) (S [Pf 4] .ret)),[.tm 4]⟩
def L81:aW :=⟨18,S [O 6 .other] (.block 0 (S [O 8 (.x (.MJ false (.t 6)))] (Cd 8 (.region [Om 3 6]) (S [O 9 (.x (.LX 177 (.agg [Z0]) (.t 6))),Oe 10 9 1,Oe 11 9 0] (Cd 10 (S [O 4 (.alloc (.agg [Z0])),Ns 1 4 11] (.jA (.op (Pa 14 0 4) (.op (Pl 12 1) (.op (Pt 13 5 0) (.op (Pz 16 12) (.op (Pa 17 0 16) (.seq (.alt (Pl 15 14) (.alt (Nf (.store 5 (.t 17) (.t 13))) .done .no) (.alt (Nf (.store 5 (.t 17) (.t 13))) (.op (Pl 15 14) .done) .no)) (.alt (Ns 1 2 15) .done .no))))))))) (S [Om 5 6] (.region [Om 7 5,N (.x (.B8 (.t 7)))]))))))),[]⟩
def L86:aW :=⟨9,S [Ox 1 4 0,O 2 (.alloc (.agg [Z0,E0]))] (aD [bD 3 1 1 1,ZAm 5 0 1 2 1 1 0 2 1 2 0 1 2 1 1 1 2 1 2 244 3 0 1 4 1 1,Ns 2 2 8] .ret),[.cell 2 true 2]⟩
def L100:aW :=⟨5,S [Pf 2] (S [Om 3 0,Ok 4 145 [.t 3,I 0,I 40],Om 2 4] .ret),[.tm 2]⟩
def L107:aW :=⟨59,aD [Ox 2 5 0,TK 4 0] (.seq (aD [rL 9 1 1 0,Pt 8 5 2,Pl 11 10,Ok 12 155 [.t 8,.t 11]] (Cd 12 (aD [uP 13 5 2 5 4 5 6] .ret) .skip)) (aD [Ot 14 5 2,OI 6 5 14] (.seq (.jA (.op (Pa 16 0 2) (.op (Pm 19 1) (.op (Pj 20 1 19 0) (.op (Pm 22 1) (.op (Pj 23 1 22 1) (.op (Pm 25 1) (.op (Pj 26 1 25 2) (.op (Pm 28 1) (.op (Pj 29 1 28 3) (.op (Pm 31 1) (.op (Pj 32 1 31 4) (.op (Pm 34 1) (.op (Pj 35 1 34 5) (.op (Pm 37 1) (.op (Pj 38 1 37 6) (.op (Pl 17 16) (.op (Pl 21 20) (.op (Pl 24 23) (.op (Pl 27 26) (.op (Pl 30 29) (.op (Pl 33 32) (.op (Pl 36 35) (.op (Pl 39 38) (.op (Of 40 (.build (.agg [Z0,Z0]) [(0,(1,(.t 36))),(1,(1,(.t 39)))])) (.op (Of 41 (.build (.agg [Z0,Z0,Z0,Z0,Z0,Z0,Z0]) [(0,(1,(.t 21))),(1,(1,(.t 24))),(2,(1,(.t 27))),(3,(1,(.t 30))),(4,(1,(.t 33))),(5,(2,(.t 40)))])) (.seq (.alt (Of 15 (.aQ 162 7 [])) (.alt (Of 18 (.iR 162 7 56 (.t 15) (.t 17))) (.alt (Of 42 (.aQ 162 7 [.t 41])) .done .no) (.alt (Of 42 (.aQ 162 7 [.t 41])) (.alt (Of 18 (.iR 162 7 56 (.t 15) (.t 17))) .done .no) .no)) (.alt (Of 42 (.aQ 162 7 [.t 41])) (.alt (Of 15 (.aQ 162 7 [])) (.alt (Of 18 (.iR 162 7 56 (.t 15) (.t 17))) .done .no) .no) .no)) (.alt (Py 43 162 7 56 18 42) (.op (Oa 44 0 6) (.alt (Ns 1 44 43) .done .no)) .no)))))))))))))))))))))))))))) (.seq (aD [ZAa 46 0 6 45 69 0 1 45 1 1,Ok 49 156 [.t 48],Om 7 49] (aD [O5 50 7 0] (Cd 51 (S [Ot 52 5 2,Om 53 7,Ns 5 4 52,Om 5 53] .ret) .skip))) (.seq (aD [Q8 54 5 6 33,Ok 56 157 [.t 55]] (Cd 56 (aD [uP 57 5 2 5 4 5 9] .ret) .skip)) (aD [uP 58 5 6 5 4 5 0] .ret)))))),[.cell 4 true 5,.tm 5]⟩
def L110:aW :=⟨118,aD [Ox 2 5 0,TK 4 0] (.seq (aD [Om 13 1,V6 14 1 13 1 1,UQ 16 158 15 2 5,WW 18 17 1 1 2 1 158 0 1000,WW 25 24 1 1 3 1 158 0 2000] (Cd 31 (aD [uP 32 5 2 5 4 5 2] .ret) .skip)) (aD [rL 34 1 1 0,Pt 33 5 2,Pl 36 35,Ok 37 159 [.t 33,.t 36],Om 6 37] (.seq (S [Om 38 6,Oc 39 .lss 38 0] (Cd 39 (aD [uP 40 5 2 5 4 5 7] .ret) .skip)) (.seq (aD [Pa 43 2 2,Pm 45 6,Pt 42 5 2,TN 44 43 46 4 45,Pt 47 4 46,Ok 48 29 [.t 42,.t 47],mG 41 48 49 0 50 1,bM 7 49 50] (aD [O5 51 7 3,Om 53 52,rK 54 53 2 2 53 1,G 56 53 false (M 6),G 57 53 false (.ia 4 none (.t 55) (.t 56)),rK 58 53 3 57 53 1,Pq 60 53 59] (Cd 60 (aD [uP 61 5 2 5 4 5 8] .ret) .skip))) (S [OM 9 0] (.seq (S [OM 10 0] (.block 0 (.loop (.seq (aD [Om 62 10,bD 63 3 2 1,oD 65 64 62] (Ce 66 0)) (.seq (.block 1 (aD [Pa 69 3 2,Pm 71 10,rL 75 1 1 0,Pl 70 69,JX 72 4 70 71 0,Pl 77 76,Ob 78 .eql 74 77] (Cd 78 (cN [iK 79 9 1 9]) .skip))) (cN [iK 67 10 1 10])))))) (.seq (aD [Om 81 9,bD 82 2 2 1,oC 84 6 4 83,bD 86 1 85 1,Ob 88 .geq 81 87] (Cd 88 (aD [uP 89 5 2 5 4 5 3] .ret) .skip)) (aD [rL 90 1 1 0,rL 93 1 1 1,rL 96 1 1 2,rL 99 1 1 3,nF 92 91 95 94,nF 98 97 101 100,O 102 (.build (.agg [Z0,Z0,Z0,Z0]) [(0,(1,(.t 92))),(1,(1,(.t 95))),(2,(1,(.t 98))),(3,(1,(.t 101)))]),Of 11 (.alloc (.agg [Z0,Z0,Z0,Z0])),Ns 4 11 102] (.seq (aD [Ot 103 5 2,EP 104 4 11 28 103,Oo 106 105] (Cd 106 (aD [uP 107 5 2 5 4 5 10] .ret) .skip)) (aD [Ot 108 5 2,OI 12 5 108] (.seq (.jA (.op (Pa 110 3 2) (.op (Pl 111 110) (.op (Pt 113 4 11) (.seq (.alt (Of 109 (.aQ 88 4 [])) (.alt (Of 112 (.iR 88 4 32 (.t 109) (.t 111))) (.alt (Of 114 (.aQ 88 4 [.t 113])) .done .no) (.alt (Of 114 (.aQ 88 4 [.t 113])) (.alt (Of 112 (.iR 88 4 32 (.t 109) (.t 111))) .done .no) .no)) (.alt (Of 114 (.aQ 88 4 [.t 113])) (.alt (Of 109 (.aQ 88 4 [])) (.alt (Of 112 (.iR 88 4 32 (.t 109) (.t 111))) .done .no) .no) .no)) (.alt (Py 115 88 4 32 112 114) (.op (Oa 116 3 12) (.alt (Ns 1 116 115) .done .no)) .no)))))) (aD [uP 117 5 12 5 4 5 0] .ret)))))))))))),[.cell 4 true 5,.tm 5]⟩
def L111:aW :=⟨52,aD [Ox 2 5 0,TK 4 0] (aD [Ot 10 5 2,yZ 11 1 159 10,Om 6 12] (.seq (S [Om 13 6,Oc 14 .lss 13 0] (Cd 14 (aD [uP 15 5 2 5 4 5 7] .ret) .skip)) (.seq (aD [bD 16 2 2 1,oC 18 6 4 17,bD 20 3 19 1] (Cd 21 (aD [uP 22 5 2 5 4 5 6] .ret) .skip)) (.seq (aD [Pa 25 2 2,Pm 27 6,Pt 24 5 2,TN 26 25 28 4 27,Pt 29 4 28,Ok 30 29 [.t 24,.t 29],mG 23 30 31 0 32 1,bM 7 31 32] (S [Om 33 7] (.block 0 (S [Oc 35 .eql 33 3,Om 34 35] (Cd 34 (aD [uP 36 5 2 5 4 5 8] .ret) (S [Oc 38 .eql 33 2,Om 37 38] (Cd 37 (aD [uP 39 5 2 5 4 5 11] .ret) .skip))))))) (aD [Ot 40 5 2,OI 9 5 40] (aD [O 41 (.aQ 86 4 []),bD 42 2 2 1,O 44 (.iR 86 4 32 (.t 41) (.t 43)),Oa 45 2 9,Ns 1 45 44] (aD [bD 46 2 9 1,oC 48 6 4 47,Oa 50 3 49,N (.store 1 (.t 50) Bt)] (aD [uP 51 5 9 5 4 5 0] .ret)))))))),[.cell 4 true 5,.tm 5]⟩
@[simp] def L112a:LT:=.alt (Of 36 (.iR 273 3 40 (.t 33) (.t 35))) (.alt (Of 53 (.aQ 273 3 [.t 52])) .done .no) (.alt (Of 53 (.aQ 273 3 [.t 52])) (.alt (Of 36 (.iR 273 3 40 (.t 33) (.t 35))) .done .no) .no)
def L112:aW :=⟨63,aD [Ox 2 5 0,TK 4 0] (.seq (aD [Om 7 1,V6 8 1 7 0 1,UQ 10 158 9 1 40,WW 12 11 1 1 1 1 158 0 40,WW 19 18 1 1 2 1 158 1 3] (Cd 25 (aD [uP 26 5 2 5 4 5 2] .ret) .skip)) (.seq (aD [bD 27 4 2 1,On 29 28,Oc 30 .geq 29 6] (Cd 30 (aD [uP 31 5 2 5 4 5 3] .ret) .skip)) (aD [Ot 32 5 2,OI 6 5 32] (.seq (.jA (.op (Pa 34 4 2) (.op (Pm 37 1) (.op (Pj 38 1 37 0) (.op (Pm 40 1) (.op (Pj 41 1 40 1) (.op (Pm 43 1) (.op (Pj 44 1 43 2) (.op (Pm 47 1) (.op (Pj 48 1 47 2) (.op (Pl 35 34) (.op (Pl 39 38) (.op (Pl 42 41) (.op (Pl 45 44) (.op (Of 46 (.bin false .neq (.t 45) (I 2))) (.op (Pl 49 48) (.op (Of 50 (.bin false .neq (.t 49) (I 1))) (.seq (.alt (Of 33 (.aQ 273 3 [])) (.alt (Of 36 (.iR 273 3 40 (.t 33) (.t 35))) (.alt (Of 51 (.aQ 4 1 [.t 46,.t 50])) (.op (Of 52 (.build (.agg [Z0,Z0,E0]) [(0,(1,(.t 39))),(1,(1,(.t 42))),(2,(1,(.t 51)))])) (.alt (Of 53 (.aQ 273 3 [.t 52])) .done .no)) .no) (.alt (Of 51 (.aQ 4 1 [.t 46,.t 50])) (.op (Of 52 (.build (.agg [Z0,Z0,E0]) [(0,(1,(.t 39))),(1,(1,(.t 42))),(2,(1,(.t 51)))])) L112a) .no)) (.alt (Of 51 (.aQ 4 1 [.t 46,.t 50])) (.op (Of 52 (.build (.agg [Z0,Z0,E0]) [(0,(1,(.t 39))),(1,(1,(.t 42))),(2,(1,(.t 51)))])) (.alt (Of 33 (.aQ 273 3 [])) L112a (.alt (Of 53 (.aQ 273 3 [.t 52])) (.alt (Of 33 (.aQ 273 3 [])) (.alt (Of 36 (.iR 273 3 40 (.t 33) (.t 35))) .done .no) .no) .no))) .no)) (.alt (Py 54 273 3 40 36 53) (.op (Oa 55 4 6) (.alt (Ns 1 55 54) .done .no)) .no))))))))))))))))))) (.seq (aD [bD 56 4 6 1,Ok 58 35 [.t 57],Ok 59 71 [.t 58,I 40],Oo 60 59] (Cd 60 (aD [uP 61 5 2 5 4 5 9] .ret) .skip)) (aD [uP 62 5 6 5 4 5 0] .ret)))))),[.cell 4 true 5,.tm 5]⟩
def L113:aW :=⟨14,S [Ox 2 7 0,Pf 4] (aD [Om 5 1,bD 6 3 2 1,bD 8 3 2 1,bD 10 4 2 1,Ob 12 .add 9 11,Ok 13 160 [.t 5,.t 7,.t 12],Om 4 13] .ret),[.tm 4]⟩
def L115:aW :=⟨72,S [Ox 1 2 0,O 2 (.dU (.c .eX))] (S [Ot 8 2 1,Ok 9 32 [.t 8,.c E0],O 10 (.build (.agg (List.replicate 2000 Z0 ++ [E0])) [(2000,(1,(.t 9)))]),Ox 11 2001 10,Om 3 11] (.seq (S [OM 4 0] (.block 0 (.loop (.seq (aD [bM 12 4 3,Oz 14 13,bD 15 2000 14 1,oD 17 16 12] (Ce 18 0)) (.seq (.block 1 (S [OM 5 0] (.block 2 (.loop (.seq (aD [Om 21 5,bD 22 1 1 1,oD 24 23 21] (Ce 25 2)) (.seq (.block 3 (aD [bD 28 1 1 1,oC 30 5 7 29,Ot 32 7 31,j4 6 7 32] (aD [Pa 33 0 6,zA 35 3 2000,Pm 39 4,Pl 34 33,TN 38 37 40 1 39,Pl 41 40,Ob 42 .eql 34 41] (Cd 42 (aD [Ot 43 2 1,Om 44 3,bD 45 2 6 1,bD 47 3 6 1,bD 49 0 6 1,Ok 51 114 [.t 43,.t 44,.t 46,.t 48,.t 50],TJ 7 2 51] (cN [Pm 52 3,Pa 53 0 6,Pa 55 0 7,Pa 57 5 6,Pa 58 0 57,Pa 61 1 7,Pa 63 5 6,Pa 64 1 63,Pz 68 52,Pa 69 0 68,nF 54 53 56 55,Pl 59 58,Of 60 (.bin false .add (.t 56) (.t 59)),nF 62 61 65 64,Of 66 (.bin false .add (.t 62) (.t 65)),Of 67 (.build (.agg [Z0,Z0]) [(0,(1,(.t 60))),(1,(1,(.t 66)))]),O 70 (.ia 2 (some 1000) (.t 69) (.t 54)),Ns 2 70 67])) .skip)))) (cN [iK 26 5 1 5]))))))) (cN [iK 19 4 1 4])))))) (aD [jZ 71 3 2] .ret))),[.tm 2]⟩
def Y120_0a:bH :=(cN [j4 13 7 49])
def Y120_0b:bH :=(.block 1 (cN [Ol 50 1 12,Om 51 50,G 52 51 false (.load false 1 (.t 11)),rK 53 51 0 13 51 1,ZAv 55 51 52 54 51,Ns 1 12 56]))
noncomputable def L120:aW :=⟨61,aD [Ox 3 2 0,Qq 6,OM 8 0] (aD [Q8 15 2 3 87,mG 14 16 17 0 18 1,bM 9 17 18] (.seq (aD [O5 19 10 0] (Cd 20 (aD [Om 21 10,Qq 6,Om 8 21] .ret) .skip)) (.seq (aD [R0 22 9 0,Ot 25 2 24,yZ 26 1 163 25,Oo 28 27,ZA 29 28 2,G 31 29 false (.call (C 164) [.t 30]),V5 32 29 31 29] (Cd 33 (aD [Qq 6,OM 8 2] .ret) .skip)) (aD [pY 34 9 49,O 11 (.alloc .cV),Ns 1 11 35] (aD [R0 36 9 0,bD 39 0 38 1,oC 41 1 4 40,bD 43 1 42 1,O 12 (.alloc (.bool false)),Ns 1 12 44] (.seq (aD [bM 45 9 1,Om 47 2,Ok 48 89 [.t 45,.t 46,.t 47,I 1000]] (.block 0 (.vM 61 (.t 48) (fX Tryz.prog 120 0) Y120_0a Y120_0b [49]))) (.seq (S [Ol 57 1 12,Oo 58 57] (Cd 58 (aD [Qq 6,OM 8 10] .ret) .skip)) (S [Pm 59 9,Pm 6 59,Pl 60 11,Om 7 60,OM 8 0] .ret)))))))),[.tm 6,.tm 7,.tm 8]⟩
theorem L120_ok:fV Tryz.prog 120=some L120:=by kernel_rfl
def L121:aW :=⟨8,aD [tW 2 7 0] (aD [Ol 4 1 1,bD 5 0 2 1,O 7 (.x (.look ⟨false,[.int .i64]⟩ (.bool false) false (.t 4) (.t 6))),Om 3 7] .ret),[.tm 3]⟩
def L123:aW :=⟨24,S [O 4 (.dU (.c (.str ⟨#[]⟩)))] (S [O 5 (.alloc (.agg [.int .u8 (0),.int .u8 (0),.int .u8 (0),.int .u8 (0),.int .u8 (0)]))] (.seq (S [Om 7 1,Oc 8 .sub 7 1,Om 6 8] (.block 0 (.loop (.seq (S [Om 9 6,Oc 10 .geq 9 0] (Ce 10 0)) (.seq (.block 1 (aD [bM 13 6 0,Oc 15 .rem 14 10,O 16 (.bin false .add (I 48) (.t 15)),O 17 (.conv .u8 (.t 16)),O 18 (.ia 1 (some 5) (.t 5) (.t 13)),Ns 1 18 17] (.region [Om 19 0,Oc 20 .quo 19 10,Om 0 20]))) (.region [Om 11 6,Oc 12 .sub 11 1,Om 6 12])))))) (S [Om 21 1,O 22 (.x (.FL 5 (.t 5) (.t 21))),O 23 (.x (.PK (.t 22))),Om 4 23] .ret))),[.tm 4]⟩
def L138:aW :=⟨45,aD [Ol 9 1 1,Oz 10 9,bD 11 3 10 1,xY 13 12 0] (.block 0 (.loop (S [Ob 15 .lss 14 13] (.seq (Ce 15 0) (.seq (.block 1 (aD [xB 16 1 12 14 1,Om 7 17] (aD [Ol 18 1 1,Oz 19 18,bD 20 2 19 1,Yg 22 7 21,j4 8 7 23] (aD [Om 24 7,Ol 25 1 2,Ob 26 .lss 24 25,F8 27 26 1 8,Pg 30 27 3,G 31 27 true (.bin false .eql (.t 29) (.t 30)),Pp 32 27 31,OH 33 32 7 8,Pg 35 33 4,GF 36 33 139 34 35 33,qK 38 37 0,G 40 38 true (.load true 7 (.t 8)),G 41 38 true (.call (.t 39) [.t 40]),JZ 42 38 41 38] (Cd 43 .ret .skip))))) (cN [pX 44 14 1 14])))))),[]⟩
theorem L138_ok:fV Tryz.prog 138=some L138:=by kernel_rfl
def L145:aW :=⟨15,S [Pf 6] (aD [bM 7 1 0,Ob 9 .leq 7 8,TI 10 9 0 2 6] .ret),[.tm 6]⟩
def L147:aW :=⟨8,S [Pf 3] (S [Ol 4 1 1,Om 5 0,O 6 (.call (.t 4) [.t 5]),Oo 7 6,Om 3 7] .ret),[.tm 3]⟩
def L152:aW :=⟨51,S [Ox 4 3 1] (.block 0 (.loop (.seq (S [Pm 8 2,Pt 7 3 4,Pt 9 3 4,Of 10 (.x (.look ⟨true,[.int .i64,.int .i64,.int .i64]⟩ (.agg [Z0,Z0,Z0]) false (.t 8) (.t 9))),O 11 (.x (.eqv true ⟨true,[.int .i64,.int .i64,.int .i64]⟩ (.t 7) (.t 10)))] (Ce 11 0)) (.block 1 (aD [Om 12 2,Ot 13 3 4,O 14 (.x (.look ⟨true,[.int .i64,.int .i64,.int .i64]⟩ (.agg [Z0,Z0,Z0]) false (.t 12) (.t 13))),KA 6 3 14] (.seq (.block 2 (aD [Q8 16 3 4 151,Oc 18 .eql 17 2,Om 15 18] (Cd 15 (cN [zA 19 0 2,Pa 23 2 4,Pa 25 1 4,Pa 27 0 6,nF 22 21 24 23,Of 29 (.ia 4 none (.t 22) (.t 24)),nF 26 25 28 27,O 30 (.ia 1 (some 4) (.t 29) (.t 26)),Ns 1 30 28]) (aD [Q8 32 3 4 151,Oc 34 .eql 33 1,OH 35 34 3 6,G 37 35 true (.call (C 151) [.t 36]),WY 38 35 37 2 35,Om 31 39] (Cd 31 (cN [zA 40 0 2,Pa 44 2 4,Pa 46 1 6,nF 43 42 45 44,Of 48 (.ia 4 none (.t 43) (.t 45)),Pl 47 46,O 49 (.ia 1 (some 4) (.t 48) (.t 47)),N (.store 1 (.t 49) (I (-1)))]) .skip))))) (.region [Ot 50 3 6,Ns 3 4 50]))))))),[]⟩
def L153:aW :=⟨5,S [Pe 0] (S [O 1 (.build (.agg [.dP]) [(0,(1,(C 198)))]),O 2 (.build (.agg [.dP]) [(0,(1,(C 199)))]),O 3 (.build (.agg [.dP]) [(0,(1,(C 200)))]),O 4 (.aQ 263 1 [.t 1,.t 2,.t 3]),Om 0 4] .ret),[.tm 0]⟩
def L155:aW :=⟨21,S [Ox 2 5 0,Pf 4] (.seq (S [OM 5 0] (.block 0 (.loop (.seq (aD [Om 6 5,bD 7 0 2 1,oD 9 8 6] (Ce 10 0)) (.seq (.block 1 (aD [bD 13 0 2 1,oC 15 5 7 14,bD 17 0 16 1,Om 19 1,Ob 20 .eql 18 19] (Cd 20 (S [O 4 (.dU Bt)] .ret) .skip))) (cN [iK 11 5 1 5])))))) (S [Pf 4] .ret)),[.tm 4]⟩
@[simp] def L156c:LT:=.alt (Nf (.store 7 (.t 9) (.t 146))) .done .no
@[simp] def L156a:LT:=.alt (Pt 151 7 150) L156c (.alt (Nf (.store 7 (.t 9) (.t 146))) (.op (Pt 151 7 150) .done) .no)
@[simp] def L156b:LT:=.alt (Pl 148 147) (.op (Of 150 (.ia 7 none (.t 148) (.t 149))) L156a) (.alt (Nf (.store 7 (.t 9) (.t 146))) (.op (Pl 148 147) (.op (Of 150 (.ia 7 none (.t 148) (.t 149))) (.op (Pt 151 7 150) .done))) .no)
@[simp] def L156d:LT:=.alt (Pt 151 7 150) (.alt (Of 10 (.alloc (.agg [Z0,Z0,Z0,Z0,Z0,Z0,Z0]))) L156c .no) (.alt (Of 10 (.alloc (.agg [Z0,Z0,Z0,Z0,Z0,Z0,Z0]))) L156a .no)
@[simp] def L156e:LT:=.alt (Pt 151 7 150) (.alt (Of 9 (.alloc (.agg [Z0,Z0,Z0,Z0,Z0,Z0,Z0]))) L156c .no) (.alt (Of 9 (.alloc (.agg [Z0,Z0,Z0,Z0,Z0,Z0,Z0]))) L156a .no)
def L156:aW :=⟨176,S [Ox 1 2 0,OM 2 0] (.seq (aD [bD 11 0 1 1,On 13 12,Oc 14 .gtr 13 8,Om 15 14,rK 16 15 1 1 15 1,Yh 18 15 17 15 24 15] (Cd 20 (S [OM 2 3] .ret) .skip)) (.seq (S [OM 3 0] (.block 0 (.loop (.seq (aD [Om 21 3,bD 22 0 1 1,oD 24 23 21] (Ce 25 0)) (.seq (.block 1 (aD [bD 28 0 1 1,oC 30 3 4 29,Ot 32 4 31,O 4 (.alloc (.agg [Z0,.bool false,Z0,Z0])),Ns 4 4 32] (aD [bD 33 0 4 1,UQ 35 160 34 0 100,ZAD 37 36 2 4 2 201,V5 41 37 40 37,Om 43 42,rK 44 43 1 4 43 1,G 46 43 false (.not (.t 45)),G 47 43 false (M 46),Ph 48 47 2 4,F9 49 47 0 48 47,G 51 47 true (.bin false .neq (.t 50) (I 0)),Pn 52 47 51,G 53 52 false (.fa 2 (.t 4)),rK 54 52 1 53 52 1,G 56 52 false (.bin false .neq (.t 55) (I 0)),G 57 47 true (.pick (.t 52) Bt (.t 56)),WX 58 43 47 57 43] (Cd 59 (S [OM 2 1] .ret) .skip)))) (cN [iK 26 3 1 3])))))) (.seq (S [OM 5 0] (.block 2 (.loop (.seq (aD [Om 60 5,bD 61 1 1 1,oD 63 62 60] (Ce 64 2)) (.seq (.block 3 (aD [bD 67 1 1 1,oC 69 5 7 68,Ot 71 7 70,j4 6 7 71] (.seq (aD [bD 72 0 6 1,UQ 74 160 73 1 999,Om 76 75,rK 77 76 1 6 76 1,rK 79 76 0 1 76 1,G 81 76 false (.len none (.t 80)),G 82 76 false (.bin false .sub (.t 81) (I 1)),G 83 76 false (.call (C 160) [.t 78,I 0,.t 82]),V5 84 76 83 76,Om 86 85,rK 87 86 2 6 86 1,rK 89 86 0 1 86 1,G 91 86 false (.len none (.t 90)),G 92 86 false (.bin false .sub (.t 91) (I 1)),G 93 86 false (.call (C 160) [.t 88,I 0,.t 92]),V5 94 86 93 86,Om 96 95,rK 97 96 2 6 96 1,rK 99 96 1 6 96 1,G 101 96 false (.bin false .eql (.t 98) (.t 100)),Pq 102 96 101,Om 103 102,rK 104 103 0 1 103 1,rK 106 103 1 6 103 1,G 108 103 false (.ia 4 none (.t 105) (.t 107)),rK 109 103 1 108 103 1,Pq 111 103 110] (Cd 111 (S [OM 2 1] .ret) .skip)) (aD [bD 112 3 6 1,UQ 114 160 113 0 1000,Om 116 115,rK 117 116 4 6 116 1,G 119 116 false (.call (C 160) [.t 118,I 0,I 1000]),V5 120 116 119 116,ZAD 122 121 5 6 2 201,V5 126 122 125 122] (Cd 127 (S [OM 2 1] .ret) .skip))))) (cN [iK 65 5 1 5])))))) (.seq (S [OM 7 0] (.block 4 (.loop (.seq (aD [Om 128 7,bD 129 1 1 1,oD 131 130 128] (Ce 132 4)) (.seq (.block 5 (S [OM 8 0] (.block 6 (.loop (.seq (aD [Om 135 8,bD 136 1 1 1,oD 138 137 135] (Ce 139 6)) (.seq (.block 7 (.seq (.jA (.op (Pa 142 1 1) (.op (Pm 144 7) (.op (Pa 147 1 1) (.op (Pm 149 8) (.op (Pl 143 142) (.op (Of 145 (.ia 7 none (.t 143) (.t 144))) (.op (Pt 146 7 145) (.seq (.alt (Pl 148 147) (.op (Of 150 (.ia 7 none (.t 148) (.t 149))) (.alt (Pt 151 7 150) (.alt (Of 9 (.alloc (.agg [Z0,Z0,Z0,Z0,Z0,Z0,Z0]))) (.alt (Of 10 (.alloc (.agg [Z0,Z0,Z0,Z0,Z0,Z0,Z0]))) L156c .no) (.alt (Of 10 (.alloc (.agg [Z0,Z0,Z0,Z0,Z0,Z0,Z0]))) (.alt (Of 9 (.alloc (.agg [Z0,Z0,Z0,Z0,Z0,Z0,Z0]))) L156c .no) .no)) (.alt (Of 9 (.alloc (.agg [Z0,Z0,Z0,Z0,Z0,Z0,Z0]))) L156d (.alt (Of 10 (.alloc (.agg [Z0,Z0,Z0,Z0,Z0,Z0,Z0]))) L156e .no)))) (.alt (Of 9 (.alloc (.agg [Z0,Z0,Z0,Z0,Z0,Z0,Z0]))) (.alt (Pl 148 147) (.op (Of 150 (.ia 7 none (.t 148) (.t 149))) L156d) (.alt (Of 10 (.alloc (.agg [Z0,Z0,Z0,Z0,Z0,Z0,Z0]))) L156b .no)) (.alt (Of 10 (.alloc (.agg [Z0,Z0,Z0,Z0,Z0,Z0,Z0]))) (.alt (Pl 148 147) (.op (Of 150 (.ia 7 none (.t 148) (.t 149))) L156e) (.alt (Of 9 (.alloc (.agg [Z0,Z0,Z0,Z0,Z0,Z0,Z0]))) L156b .no)) .no))) (.alt (Ns 7 10 151) .done .no)))))))))) (aD [bD 152 0 9 1,bD 154 0 10 1,Ob 156 .eql 153 155,OH 157 156 7 9,Zz5 159 157 7 10 157 158 157,Om 162 161,rK 163 162 0 9 162 1,rK 165 162 0 10 162 1,G 167 162 false (.bin false .gtr (.t 164) (.t 166)),G 168 162 false (M 167),F9 169 168 3 9 168,F9 171 168 3 10 168,G 173 168 true (.bin false .lss (.t 170) (.t 172)),WX 174 162 168 173 162] (Cd 175 (S [OM 2 6] .ret) .skip)))) (cN [iK 140 8 1 8]))))))) (cN [iK 133 7 1 7])))))) (S [OM 2 0] .ret))))),[.tm 2]⟩
def L177:aW :=⟨45,S [Pf 2] (.seq (aD [z6 7 0,bD 9 0 8 1,Oz 11 10,bD 12 3 11 1,xY 14 13 0] (.block 0 (.loop (S [Ob 16 .lss 15 14] (.seq (Ce 16 0) (.seq (.block 1 (aD [xB 17 1 13 15 1,Om 4 18] (aD [z6 19 0,bD 21 0 20 1,Oz 23 22,bD 24 2 23 1,Yg 26 4 25,j4 5 7 27] (aD [Om 28 0,bD 29 1 5 1,bD 31 3 5 1,Ok 33 178 [.t 28,.t 30,.t 32,I 1000],TJ 6 2 33] (aD [Om 34 0,EP 35 7 5 222 34,F8 37 36 0 6,F9 40 37 1 6 37,G 42 37 true (.bin false .gtr (.t 39) (.t 41)),Pp 43 37 42] (Cd 43 (S [O 2 (.dU Bt)] .ret) .skip)))))) (cN [pX 44 15 1 15]))))))) (S [Pf 2] .ret)),[.tm 2]⟩
def L183:aW :=⟨8,aD [tW 2 4 0] (aD [Ol 4 1 1,AX 5 4 2 4,Oo 7 6,Om 3 7] .ret),[.tm 3]⟩
def L184:aW :=⟨18,aD [tW 1 2 0] (aD [bD 3 0 1 1,Ok 5 230 [.t 4],F8 6 5 1 1,TO 9 6 230 8 6,F8 11 10 0 1,F9 14 11 1 1 11,Qm 16 11 13 15 11,Om 2 17] .ret),[.tm 2]⟩
def L198:aW :=⟨29,S [Ox 3 3 1,Pe 4] (.seq (aD [z6 6 0,bD 8 2 7 1,xY 10 9 0] (.block 0 (.loop (S [Ob 12 .lss 11 10] (.seq (Ce 12 0) (.seq (.block 1 (aD [jZ 13 11 5] (aD [Om 14 0,bD 15 0 3 1,PF 17 5 246 14 16,Oc 19 .eql 18 (-1)] (Cd 19 (cN [Om 20 4,bD 21 0 3 1,Om 23 5,O 24 (.build (.agg [Z0,Z0,Z0]) [(0,(1,(.t 22))),(1,(1,(I (-1)))),(2,(1,(.t 23)))]),Q9 25 256 3 24 256 3 24 20 4]) .skip)))) (cN [pX 27 11 1 11]))))))) (aD [jZ 28 4 4] .ret)),[.tm 4]⟩
def L201:aW :=⟨13,aD [tW 1 2 0] (aD [bD 3 0 1 1,bD 5 1 1 1,Ok 7 160 [.t 4,I (-100000),.t 6],F8 8 7 1 1,G 11 8 true (.bin false .leq (.t 10) (I 100000)),Pp 12 8 11,Om 2 12] .ret),[.tm 2]⟩
def L209:aW :=⟨10,S [O 2 (.alloc (.agg [E0,E0]))] (aD [zA 4 0 0,ZAa 7 0 6 3 57 0 1 3 1 1,Ns 2 2 9] .ret),[.cell 2 true 2]⟩
def L211:aW :=⟨54,S [OM 4 0,Pf 5] (aD [pH 10 0,Om 6 11] (S [Om 12 6,OM 7 0,Om 8 12] (.seq (.block 0 (.loop (.seq (aD [bM 13 7 8,Ob 15 .lss 13 14] (Ce 15 0)) (.block 1 (aD [bM 16 7 8,ZAq 18 16 17 1 9] (aD [bM 22 0 9,xB 24 1 22 23 1,yZ 26 1 237 25] (Cd 27 (cN [iK 28 9 1 7]) (cN [jZ 30 9 8])))))))) (aD [bM 31 7 7,Om 33 6,Ob 34 .lss 32 33,qK 35 34 0,Qr 37 35 7 35 1 36,Pg 39 35 38,Pn 40 35 1,G 41 35 true (.bin false .eql (.t 39) (.t 40)),Pn 42 35 41,G 43 42 false (M 0),G 44 42 false (M 7),G 45 42 false (.ia 1 none (.t 43) (.t 44)),G 46 42 false (.load false 1 (.t 45)),G 47 42 false (.call (C 255) [.t 46]),G 48 42 false (M 47),Pn 49 48 1,G 50 48 true (.call (C 255) [.t 49]),G 51 42 false (.pick (.t 48) (.t 50) Bf),G 52 35 true (.pick (.t 42) Bt (.t 51)),Pp 53 35 52,bM 4 31 53] .ret)))),[.tm 4,.tm 5]⟩
def L213:aW :=⟨15,S [Pf 6] (aD [bM 7 1 0,Ob 9 .leq 7 8,TI 10 9 0 2 6] .ret),[.tm 6]⟩
def L222:aW :=⟨12,aD [tW 3 7 1] (aD [zA 5 0 1,Pa 9 0 3,nF 8 7 10 9,Of 11 (.x (.look ⟨false,[.int .i64]⟩ (.bool false) false (.t 8) (.t 10))),Om 4 11] .ret),[.tm 4]⟩
def L225:aW :=⟨18,S [Ox 2 2 0,Ox 3 2 1,O 4 (.alloc (.agg [Z0,Z0]))] (.seq (.jA (.op (Pa 5 0 2) (.op (Pa 7 0 3) (.op (Pa 11 1 2) (.op (Pa 13 1 3) (.op (Pl 6 5) (.op (Pl 8 7) (.op (Pl 12 11) (.op (Pl 14 13) (.seq (.alt (Of 9 (.aQ 3 1 [.t 6,.t 8])) (.alt (Of 10 (.call (C 271) [.t 9])) (.alt (Of 15 (.aQ 3 1 [.t 12,.t 14])) .done .no) (.alt (Of 15 (.aQ 3 1 [.t 12,.t 14])) (.alt (Of 10 (.call (C 271) [.t 9])) .done .no) .no)) (.alt (Of 15 (.aQ 3 1 [.t 12,.t 14])) (.alt (Of 9 (.aQ 3 1 [.t 6,.t 8])) (.alt (Of 10 (.call (C 271) [.t 9])) .done .no) .no) .no)) (.alt (Ok 16 272 [.t 15]) (.op (O 17 (.build (.agg [Z0,Z0]) [(0,(1,(.t 10))),(1,(1,(.t 16)))])) (.alt (Ns 2 4 17) .done .no)) .no))))))))))) .ret),[.cell 4 true 2]⟩
def L246:aW :=⟨16,S [OM 6 0] (aD [z6 7 0,bD 9 2 8 1,oC 11 2 4 10,O 13 (.x (.FL 4 (.t 12) (I 4))),yZ 14 1 92 13,Om 6 15] .ret),[.tm 6]⟩
def L255:aW :=⟨6,S [Pf 2] (aD [bM 3 0 0,Ob 5 .neq 3 4,Om 2 5] .ret),[.tm 2]⟩
def L259:aW :=⟨9,S [Ox 2 4 0,OM 4 0] (aD [bD 5 0 2 1,Om 7 1,Ob 8 .sub 6 7,Om 4 8] .ret),[.tm 4]⟩
def L270:aW :=⟨5,S [Ox 1 2 0,OM 2 0] (aD [bD 3 1 1 1,Om 2 4] .ret),[.tm 2]⟩
def L281:aW :=⟨27,S [Ot 7 2 1,O 8 (.yK 282 [.t 7] []),Om 5 8] (aD [bD 9 0 1 1,xY 11 10 0] (.block 0 (.loop (S [Ob 13 .lss 12 11] (.seq (Ce 13 0) (.seq (.block 1 (aD [jZ 14 12 6] (aD [Om 15 5,Ol 16 1 2,Om 17 6,Ol 18 1 3,O 19 (.call (.t 15) [.t 16,.t 17,.t 18]),qK 20 19 0,Pn 22 20 6,G 23 20 true (.call (.t 21) [.t 22]),JZ 24 20 23 20] (Cd 25 .ret .skip)))) (cN [pX 26 12 1 12]))))))),[]⟩
def L294:aW :=⟨25,S [OM 2 0] (.seq (aD [pH 5 0,Oc 7 .lss 6 1] (Cd 7 (.region [O 8 (.x (.sN 9 (.c (.str ⟨#[115,108,105,99,101,115,46,77,105,110,58,32,101,109,112,116,121,32,108,105,115,116]⟩)))),N (.x (.B8 (.t 8)))]) .skip)) (aD [Om 9 0,V6 10 1 9 0 1,Om 3 11] (.seq (S [OM 4 1] (.block 0 (.loop (.seq (aD [bM 12 4 0,oD 14 13 12] (Ce 15 0)) (.seq (.block 1 (cN [bM 18 3 0,oC 20 4 1 19,Ol 22 1 21,O 23 (.jC false (.t 18) (.t 22)),Om 3 23])) (cN [iK 16 4 1 4])))))) (aD [jZ 24 3 2] .ret)))),[.tm 2]⟩
end
noncomputable section
def L4:aW :=⟨23,S [Pf 2] (.seq (S [OM 3 0] (.block 0 (.loop (.seq (aD [bM 4 3 0,oD 6 5 4,qK 8 7 3,G 10 8 true (.bin false .lss (.t 9) (I 56)),Pp 11 8 10] (Ce 11 0)) (.seq (.block 1 (aD [bM 14 0 3,xB 16 1 14 15 1,O 18 (.x (.rP (.t 17))),Oc 19 .gtr 18 210] (Cd 19 (S [Pf 2] .ret) .skip))) (cN [iK 12 3 1 3])))))) (aD [pH 20 0,Oc 22 .leq 21 55,Om 2 22] .ret)),[.tm 2]⟩
def L12:aW :=⟨70,S [Pe 4,OM 5 0] (.seq (aD [pY 13 0 15,Om 6 14] (aD [O5 15 6 0] (Cd 16 (S [Om 17 6,Pe 4,Om 5 17] .ret) .skip))) (aD [pY 19 0 16,mG 18 20 21 0 22 1,bM 7 21 22] (.seq (aD [bM 23 7 1,Ok 25 37 [.t 23,.t 24],Oo 26 25] (Cd 26 (S [Pe 4,OM 5 7] .ret) .skip)) (aD [R0 27 7 0,Ot 30 5 29,O 31 (.build (.agg [E0,E0,E0,E0,E0]) [(0,(5,(.t 30)))]),Ox 32 5 31,Om 9 32] (aD [bM 33 9 7,z7 35 34 0,bD 37 1 36 1,yZ 39 1 38 38,z7 41 33 0,Oa 43 1 42,Ns 1 43 40] (S [Pe 10] (.seq (aD [R0 44 7 0,bD 47 3 46 1,xY 49 48 0] (.block 0 (.loop (S [Ob 51 .lss 50 49] (.seq (Ce 51 0) (.seq (.block 1 (aD [Om 52 50,Fq 53 4 48 50 4 12,Om 11 52,Ns 4 12 54] (aD [Om 55 7,EP 56 4 12 39 55,qK 58 57 9,ZAz 60 58 4 12 58 39 59,JZ 62 58 61 58] (Cd 63 (cN [bM 64 10 11,Q9 66 3 1 65 3 1 8 64 10]) .skip)))) (cN [pX 68 50 1 50]))))))) (aD [jZ 69 10 4,OM 5 0] .ret)))))))),[.tm 4,.tm 5]⟩
def L14:aW :=⟨26,S [Pf 4] (.seq (aD [pH 6 0,pH 8 1,Ob 10 .neq 7 9] (Cd 10 (S [Pf 4] .ret) .skip)) (.seq (S [OM 5 0] (.block 0 (.loop (.seq (aD [bM 11 5 0,oD 13 12 11] (Ce 14 0)) (.seq (.block 1 (aD [TM 17 0 5 1,TM 21 1 5 1,nF 20 19 24 23,Ob 25 .neq 20 24] (Cd 25 (S [Pf 4] .ret) .skip))) (cN [iK 15 5 1 5])))))) (S [O 4 (.dU Bt)] .ret))),[.tm 4]⟩
def L26:aW :=⟨19,S [Pf 2] (.seq (S [OM 3 0] (.block 0 (.loop (.seq (aD [bM 4 3 0,oD 6 5 4] (Ce 7 0)) (.seq (.block 1 (aD [bM 10 0 3,xB 12 1 10 11 1,O 14 (.x (.rP (.t 13))),Oc 15 .gtr 14 200] (Cd 15 (S [Pf 2] .ret) .skip))) (cN [iK 8 3 1 3])))))) (aD [pH 16 0,Oc 18 .leq 17 50,Om 2 18] .ret)),[.tm 2]⟩
def L31:aW :=⟨19,aD [Ox 2 5 0,tW 3 4 1] (aD [Ot 8 5 2,EP 9 4 3 29 8,mG 7 10 11 0 12 1,bM 5 11 12] (aD [bD 13 3 3 1,qK 15 14 5,G 17 15 true (.bin false .neq (.t 16) (I 1)),Pp 18 15 17,Om 4 18] .ret)),[.tm 4]⟩
def L32:aW :=⟨48,S [Ox 2 2 0,Pe 4] (S [Pe 5] (.seq (S [OM 6 1] (.block 0 (.loop (.seq (S [Om 9 6,Oc 10 .leq 9 999] (Ce 10 0)) (.seq (.block 1 (S [Pf 7] (.seq (S [OM 8 0] (.block 2 (.loop (.seq (aD [Om 13 8,bD 14 1 2 1,oD 16 15 13] (Ce 17 2)) (.seq (.block 3 (cN [Pm 20 7,Pm 21 20,Gf 22 21 false (.fa 1 (.t 2)),Gf 24 21 false (M 8),Gf 28 21 false (M 6),Gf 23 21 false (.load false 1 (.t 22)),Gf 25 21 false (.ia 7 none (.t 23) (.t 24)),Gf 26 21 false (.fa 0 (.t 25)),Gf 27 21 false (.load false 1 (.t 26)),Gf 29 21 false (.bin false .eql (.t 27) (.t 28)),Gf 30 21 false (M 29),Gf 32 30 true (.fa 1 (.t 2)),Gf 34 30 true (M 8),YZ 37 30 1 30 5,Gf 31 30 true (.load true 2 (.t 2)),Je 33 30 32 35 30 7 34,Gf 36 30 true (.load true 7 (.t 35)),G 39 30 true (.call (C 68) [.t 31,.t 36,.t 37,.t 38]),WX 40 21 30 39 21,Om 7 41])) (cN [iK 18 8 1 8])))))) (S [Om 42 7] (Cd 42 (cN [bM 43 5 6,Q9 45 3 1 44 3 1 8 43 5]) .skip))))) (cN [iK 11 6 1 6])))))) (aD [jZ 47 5 4] .ret))),[.tm 4]⟩
def L33:aW :=⟨35,S [Ox 1 5 0,O 2 (.alloc (.agg [E0,E0]))] (S [Ok 5 69 [],O 6 (.build (.agg [E0,E0]) [(0,(1,(.t 5)))]),O 3 (.alloc (.agg [E0,E0])),Ns 2 3 6] (.seq (S [OM 4 0] (.block 0 (.loop (.seq (aD [Om 7 4,bD 8 0 1 1,oD 10 9 7] (Ce 11 0)) (.seq (.block 1 (aD [Pa 14 1 1,Pa 16 0 1,Pm 18 4,nF 15 14 17 16,JX 19 7 17 18 0,Ok 22 70 [.t 15,.t 21],Oo 23 22] (Cd 23 (cN [Pa 24 1 3,Pa 26 0 1,Pm 28 4,Pl 25 24,TN 27 26 29 7 28,Pt 30 7 29,YX 31 162 7 30 162 7 56 25,Oa 33 1 3,Ns 1 33 32]) .skip))) (cN [iK 12 4 1 4])))))) (S [Ot 34 2 3,Ns 2 2 34] .ret))),[.cell 2 true 2]⟩
def L34:aW :=⟨12,S [Ox 1 2 0,OM 2 0] (.seq (S [OM 3 0] (.block 0 (.loop (.seq (S [Om 4 3,Oc 5 .lss 4 40] (Ce 5 0)) (.seq (.block 1 (aD [Ot 8 2 1,yZ 9 3 71 8] (Cd 10 (aD [jZ 11 3 2] .ret) .skip))) (cN [iK 6 3 1 3])))))) (S [OM 2 40] .ret)),[.tm 2]⟩
def L38:aW :=⟨10,S [Pe 4] (aD [pY 5 0 51,Om 7 1,Pb 8 3 1 7,Py 9 3 1 8 6 8,Om 4 9] .ret),[.tm 4]⟩
def L39:aW :=⟨19,aD [tW 3 4 1] (.seq (.jA (.op (Pm 8 0) (.op (Pa 10 1 3) (.op (Pa 12 2 3) (.seq (.alt (Ok 9 21 [.t 8]) (.op (Pl 11 10) (.op (Pl 13 12) .done)) (.alt (Pl 11 10) (.alt (Ok 9 21 [.t 8]) (.op (Pl 13 12) .done) (.alt (Pl 13 12) (.alt (Ok 9 21 [.t 8]) .done .no) .no)) (.alt (Pl 13 12) (.alt (Ok 9 21 [.t 8]) (.op (Pl 11 10) .done) (.alt (Pl 11 10) (.alt (Ok 9 21 [.t 8]) .done .no) .no)) .no))) (.alt (Ok 14 77 [.t 9,.t 11,.t 13]) (.op (Om 7 14) (.op (Oe 15 7 0) (.op (Oe 16 7 1) (.op (Om 5 15) (.op (Om 6 16) .done))))) .no)))))) (aD [LJ 17 6 0,Om 4 18] .ret)),[.tm 4]⟩
def L43:aW :=⟨14,S [Ox 2 1 0,O 4 (.alloc Z0)] (aD [Ol 6 1 2,z7 7 6 0,Ot 9 5 8,O 5 (.alloc (.agg [E0,E0,E0,E0,E0])),Ns 5 5 9] (S [O 10 (.yK 81 [] [.t 5,.t 2,.t 4]),N .other] (aD [Ol 11 1 2,yZ 12 1 82 11] (S [N (.store 1 (.t 4) (I 0))] .ret)))),[.cell 4 false 1]⟩
def L46:aW :=⟨75,S [Ox 3 4 1,O 4 (.dU (.c (.int .u8 (0))))] (S [Pe 5] (S [Om 14 0,O 15 (.yK 39 [.t 14] []),Om 6 15] (S [O 7 (.dU (.c (.int .u8 (3))))] (S [O 16 (.x .G7),Om 8 16] (.seq (aD [R0 17 0 0,bD 20 3 19 1,xY 22 21 0] (.block 0 (.loop (S [Ob 24 .lss 23 22] (.seq (Ce 24 0) (.seq (.block 1 (aD [Fq 25 4 21 23 4 10,Ns 4 10 26] (.seq (aD [bD 27 0 10 1,bD 29 0 3 1,Ob 31 .neq 28 30] (Cd 31 (.exit 1) .skip)) (aD [bD 32 1 10 1,bD 34 2 10 1,O 36 (.build (.agg [Z0,Z0]) [(0,(1,(.t 33))),(1,(1,(.t 35)))]),TJ 11 2 36] (aD [Om 38 8,Ot 39 2 11,O 40 (.x (.look ⟨true,[.int .i64,.int .i64]⟩ (.bool false) true (.t 38) (.t 39))),mG 37 40 41 0 42 1,bM 12 41 42] (.seq (S [Om 43 13,Oo 44 43] (Cd 44 (aD [Om 45 6,AX 46 4 10 45,Om 12 47] (.region [Om 48 8,Ot 49 2 11,Om 50 12,N (.x (.iQ ⟨true,[.int .i64,.int .i64]⟩ (.t 48) (.t 49) (.t 50)))])) .skip)) (.seq (S [Om 51 12,Oo 52 51] (Cd 52 (.exit 1) .skip)) (aD [bM 53 5 0,Ot 55 4 10,bD 56 2 3 1,Ok 58 84 [.t 54,.t 55,.t 57],Oo 59 58,Q9 60 4 1 59 4 1 1 53 5] (aD [Q8 63 4 3 86,yZ 65 5 85 64,mG 62 66 67 0 68 1,Oe 69 62 2,Om 7 67] (aD [ZAy 70 7 3] (Cd 71 (aD [jZ 72 7 4] .ret) .skip))))))))))) (cN [pX 73 23 1 23]))))))) (aD [jZ 74 7 4] .ret)))))),[.tm 4]⟩
def Y49_0a:bH :=(cN [j4 8 7 42])
def Y49_0b:bH :=(.block 3 (cN [Ol 43 1 7,Om 44 43,G 45 44 false (.load false 1 (.t 3)),rK 46 44 0 8 44 1,ZAv 48 44 45 47 44,Ns 1 7 49]))
noncomputable def L49:aW :=⟨64,S [O 2 (.dU (.c .cV))] (S [O 9 (.x .G7),O 3 (.alloc .cV),Ns 1 3 9] (.seq (aD [z6 10 0,bD 12 3 11 1,xY 14 13 0] (.block 0 (.loop (S [Ob 16 .lss 15 14] (.seq (Ce 16 0) (.seq (.block 1 (aD [xB 17 1 13 15 1,Om 5 18] (aD [z6 19 0,bD 21 2 20 1,Yg 23 5 22,j4 6 7 24] (aD [zA 25 0 0,Pa 28 0 27,Pa 30 2 6,nF 29 28 31 30,JX 32 4 29 31 1,Of 7 (.alloc (.bool false)),Ns 1 7 34] (.seq (aD [Om 35 0,bD 36 2 6 1,bD 38 3 6 1,Om 40 5,Ok 41 89 [.t 35,.t 37,.t 39,.t 40]] (.block 2 (.vM 64 (.t 41) (fX Tryz.prog 49 0) Y49_0a Y49_0b [42]))) (cN [Pm 51 5,nF 50 3 52 7,Pm 53 52,YZ 54 53 0 53 5,Gf 56 53 true (.vW (.t 54)),Gf 57 53 true (.fa 4 (.t 56)),Gf 58 53 true (.ia 1 (some 1000) (.t 57) (.t 55)),Pi 59 53 58,Gf 60 53 true (.not (.t 59)),Of 61 (.pick (.t 53) (.t 60) Bf),N (.x (.iQ ⟨false,[.int .i64]⟩ (.t 50) (.t 51) (.t 61)))])))))) (cN [pX 62 15 1 15]))))))) (S [Ol 63 1 3,Om 2 63] .ret))),[.tm 2]⟩
theorem L49_ok:fV Tryz.prog 49=some L49:=by kernel_rfl
def L50:aW :=⟨42,S [Pe 4] (aD [bM 8 0 1,Ok 10 90 [.t 8,.t 9],Om 5 10] (.seq (S [Om 11 5,Oc 12 .eql 11 (-1)] (Cd 12 (aD [jZ 13 0 4] .ret) .skip)) (.seq (aD [iK 14 5 1 6] (.block 0 (.loop (.seq (aD [bM 16 6 0,oD 18 17 16] (Ce 19 0)) (.seq (.block 1 (aD [bM 22 0 6,xB 24 1 22 23 1,Om 7 25] (aD [bM 26 1 7,O 28 (.call (.t 26) [.t 27]),Oo 29 28] (Cd 29 (aD [bM 30 0 5,Om 32 7,Oi 33 1 30 31,Ns 1 33 32] (cN [iK 34 5 1 5])) .skip)))) (cN [iK 20 6 1 6])))))) (aD [bM 36 0 5,O 38 (.J4 1 none (.t 36) (some (.t 37)) none none),N (.x (.clear 1 Z0 (.t 38)))] (aD [bM 39 0 5,O 41 (.J4 1 none (.t 39) none (some (.t 40)) none),Om 4 41] .ret))))),[.tm 4]⟩
def L54:aW :=⟨8,S [Pe 2] (.seq (S [Om 3 0,O 4 (.yJ .sl false (.t 3))] (Cd 4 (S [Pe 2] .ret) .skip)) (S [O 5 (.aQ 131 7 []),Om 6 0,O 7 (.iR 131 7 56 (.t 5) (.t 6)),Om 2 7] .ret)),[.tm 2]⟩
def L55:aW :=⟨12,aD [tW 2 7 0] (aD [Pa 9 0 2,LK 4 1 0,Pa 7 1 6,nF 8 7 10 9,Ok 11 56 [.t 8,.t 10],Om 3 11] .ret),[.tm 3]⟩
def L56:aW :=⟨9,S [Pf 4] (aD [bM 5 0 1,Ok 7 92 [.t 5,.t 6],Oc 8 .geq 7 0,Om 4 8] .ret),[.tm 4]⟩
def L57:aW :=⟨9,S [Pe 0] (aD [O 1 (.build (.agg [Z0,.bool false,Z0,Z0]) [(1,(1,Bt))]),O 2 (.build (.agg [Z0,Z0]) [(0,(1,(I (-2)))),(1,(1,(I 2)))]),ZzC 3 1 1 2 2 2 0 1 1 0 1 1 193 1 0] .ret),[.tm 0]⟩
def L61:aW :=⟨51,S [Ox 1 2 0,O 2 (.dU (.c .eX)),Pf 3] (S [Ot 8 2 1,O 9 (.build (.agg [E0,E0,E0]) [(0,(2,(.t 8)))]),Ox 10 3 9,Om 4 10] (S [Pe 5] (.seq (aD [bD 11 1 1 1,xY 13 12 0] (.block 0 (.loop (S [Ob 15 .lss 14 13] (.seq (Ce 15 0) (.seq (.block 1 (S [Om 16 14,Oi 17 3 12 14,Ot 18 3 17,O 7 (.alloc (.agg [Z0,Z0,E0])),Om 6 16,Ns 3 7 18] (cN [bM 19 5 6,Pb 21 3 1 20,bD 22 0 7 1,Ok 24 103 [.t 21,.t 23],Py 25 3 1 8 19 24,Om 5 25]))) (cN [pX 26 14 1 14]))))))) (.seq (.block 2 (.loop (.seq (aD [pH 27 5,Oc 29 .gtr 28 0] (Ce 29 2)) (.block 3 (.seq (aD [z6 30 4,bD 32 2 31 1,On 34 33,Oc 35 .eql 34 40] (Cd 35 (S [O 2 (.dU (.c .eX)),Pf 3] .ret) .skip)) (aD [Pm 36 4,zA 37 4 2,Pl 40 39,Of 41 (.call (C 104) []),YX 42 146 4 41 146 4 32 40,z7 44 36 2,Ns 1 45 43] (cN [bM 46 5 4,O 48 (.yK 105 [.t 47] []),Ok 49 50 [.t 46,.t 48],Om 5 49]))))))) (aD [jZ 50 4 2,O 3 (.dU Bt)] .ret))))),[.tm 2,.tm 3]⟩
def L64:aW :=⟨45,S [Ox 3 2 0,Pf 6] (.seq (aD [bD 10 0 3 1,oC 12 1 4 11,bD 14 1 13 1] (Cd 15 (S [O 6 (.dU Bt)] .ret) .skip)) (S [Ot 16 2 3,Ok 17 32 [.t 16,.c E0],Om 7 17] (.seq (S [OM 8 0] (.block 0 (.loop (.seq (aD [Om 18 8,bD 19 1 3 1,oD 21 20 18] (Ce 22 0)) (.seq (.block 1 (aD [bD 25 1 3 1,oC 27 8 7 26,Ot 29 7 28,j4 9 7 29] (aD [bD 30 1 9 1,Om 32 1,Ob 33 .eql 31 32,OH 34 33 7 9,Pn 36 34 2,GF 37 34 113 35 36 34,qK 39 38 7,F9 41 39 0 9 39,GF 43 39 70 40 42 39] (Cd 44 (S [O 6 (.dU Bt)] .ret) .skip)))) (cN [iK 23 8 1 8])))))) (S [Pf 6] .ret)))),[.tm 6]⟩
def L67:aW :=⟨8,S [O 2 (.alloc (.agg [Z0,E0]))] (aD [Om 3 0,ZAm 4 0 1 2 1 1 0 2 1 2 0 1 2 1 1 1 2 1 2 221 3 0 1 3 1 1,Ns 2 2 7] .ret),[.cell 2 true 2]⟩
def L71:aW :=⟨29,S [Ox 2 2 0,Pf 4] (aD [Q8 7 2 2 117,Om 5 8] (.seq (S [OM 6 0] (.block 0 (.loop (.seq (aD [bM 9 6 5,oD 11 10 9] (Ce 12 0)) (.seq (.block 1 (aD [TM 16 5 6 1,TM 22 5 6 1,Pm 26 1,Pt 15 2 2,Pl 19 18,Pt 21 2 2,Pl 25 24,Of 20 (.call (C 118) [.t 15,.t 19]),Ok 27 119 [.t 21,.t 25,.t 26],Ob 28 .gtr 20 27] (Cd 28 (S [Pf 4] .ret) .skip))) (cN [iK 13 6 1 6])))))) (S [O 4 (.dU Bt)] .ret))),[.tm 4]⟩
def L76:aW :=⟨8,aD [tW 2 7 0] (aD [bD 4 0 2 1,Ol 6 1 1,Ob 7 .eql 5 6,Om 3 7] .ret),[.tm 3]⟩
def L85:aW :=⟨71,S [Ox 2 2 0,O 4 (.dU (.c (.int .u8 (0)))),OM 5 0,OM 6 0] (.seq (aD [Q8 14 2 2 130,Om 7 15] (aD [O5 16 7 0] (Cd 17 (S [Om 18 7,O 4 (.dU (.c (.int .u8 (0)))),OM 5 0,Om 6 18] .ret) .skip))) (S [OM 8 0,OM 9 0] (.seq .skip (.seq (aD [bD 19 1 2 1,xY 21 20 0] (.block 0 (.loop (S [Ob 23 .lss 22 21] (.seq (Ce 23 0) (.seq (.block 1 (aD [Oi 24 3 20 22,Ot 25 3 24,KA 11 3 25] (.seq (aD [pH 26 1,Om 28 8,bD 29 0 11 1,Ob 31 .add 28 30,Ob 32 .lss 27 31] (Cd 32 (S [Pm 33 8,Pa 34 0 11,Pm 37 1,Of 38 (.len none (.t 37)),Of 4 (.dU (.c (.int .u8 (3)))),Pl 35 34,Ob 36 .add 33 35,Ob 39 .sub 36 38,Om 5 39,OM 6 0] .ret) .skip)) (.seq (aD [bM 40 1 8,Om 42 8,bD 43 0 11 1,Ob 45 .add 42 44,O 46 (.J4 1 none (.t 40) (some (.t 41)) (some (.t 45)) none),xY 47 46 0] (.block 2 (.loop (S [Ob 49 .lss 48 47] (.seq (Ce 49 2) (.seq (.block 3 (aD [xB 50 1 46 48 1,Om 13 51] (S [Om 52 13] (Cd 52 (cN [iK 53 9 1 9]) .skip)))) (cN [pX 55 48 1 48]))))))) (aD [Om 56 8,bD 57 0 11 1,FG 59 56 58 8] (aD [Ot 60 3 11,yZ 61 9 131 60,Om 4 62] (aD [ZAy 63 4 3] (Cd 64 (.exit 0) .skip)))))))) (cN [pX 65 22 1 22]))))))) (.seq (aD [pH 66 1,Om 68 8,Ob 69 .gtr 67 68] (Cd 69 (S [O 4 (.dU (.c (.int .u8 (0)))),OM 5 0,OM 6 2] .ret) .skip)) (aD [jZ 70 4 4,OM 5 0,OM 6 0] .ret)))))),[.tm 4,.tm 5,.tm 6]⟩
def L87:aW :=⟨126,aD [Ox 1 2 0,YY 2 0] (.seq (.block 0 (aD [bD 12 0 1 1,On 14 13,Oc 15 .gtr 14 8,Om 16 15,rK 17 16 1 1 16 1,Yh 19 16 18 16 24 16,Om 11 21] (Cd 11 (S [O 2 (.dU (.c .eX)),OM 3 3] .ret) (aD [bD 23 0 1 1,Ok 25 132 [.t 24,C 133],Oo 26 25,Om 27 26,rK 28 27 1 1 27 1,G 30 27 false (.load true 2 (.t 1)),G 31 27 false (.yK 135 [.t 30] []),G 32 27 false (.call (C 134) [.t 29,.t 31]),V5 33 27 32 27,Om 22 34] (Cd 22 (aD [YY 2 1] .ret) .skip))))) (S [Ot 35 2 1,O 36 (.x .G7),O 37 (.build (.agg ([E0,E0,.cV,E0] ++ List.replicate 1000 (.bool false))) [(0,(2,(.t 35))),(2,(1,(.t 36)))]),Ox 38 1004 37,Om 4 38] (.seq (aD [bD 39 1 1 1,xY 41 40 0] (.block 1 (.loop (S [Ob 43 .lss 42 41] (.seq (Ce 43 1) (.seq (.block 2 (aD [Oi 44 7 40 42,Ot 45 7 44,j4 6 7 45] (aD [zA 47 4 2,Pa 51 0 6,nF 50 49 52 51,Of 53 (.x (.look ⟨false,[.int .i64]⟩ (.agg [Z0,Z0,Z0,Z0,Z0,Z0,Z0]) true (.t 50) (.t 52))),mG 46 53 54 0 55 1,Of 7 (.alloc (.agg [Z0,Z0,Z0,Z0,Z0,Z0,Z0])),Ns 7 7 54,Om 8 55] (.seq (aD [Om 56 8,OH 57 56 7 7,Zz5 59 57 7 6 57 58 57] (Cd 61 (aD [YY 2 6] .ret) .skip)) (S [Om 62 8,Oo 63 62] (Cd 63 (aD [zA 64 4 2,Pa 68 0 6,nF 67 66 69 68,Pt 70 7 6,N (.x (.iQ ⟨false,[.int .i64]⟩ (.t 67) (.t 69) (.t 70)))] (cN [Pm 71 4,zA 72 4 3,Pa 76 0 6,nF 75 74 77 76,YX 78 3 1 77 3 1 8 75,z7 80 71 3,Ns 1 81 79])) .skip)))))) (cN [pX 82 42 1 42]))))))) (aD [z6 83 4,bD 85 3 84 1,Ok 87 136 [.t 86]] (.seq (aD [z6 88 4,bD 90 3 89 1,xY 92 91 0] (.block 3 (.loop (S [Ob 94 .lss 93 92] (.seq (Ce 94 3) (.seq (.block 4 (aD [Om 95 93,xB 96 1 91 93 1,bM 9 95 97] (aD [Pm 98 9,Of 99 (.bin false .gtr (.t 98) (I 0)),Pm 100 99,Lm 101 100 4 100 100 2,Gf 105 100 true (M 10),Lm 108 100 4 100 100 2,Lm 112 100 4 100 100 3,Gf 116 100 true (M 9),Gf 117 100 true (.bin false .sub (.t 116) (I 1)),Pi 104 100 103,ZAg 106 100 104 105 100 3 1,Pi 111 100 110,Je 115 100 114 118 100 1 117,Pi 119 100 118,ZAg 120 100 111 119 100 3 1,Qo 122 100 107 121 100] (Cd 123 (aD [YY 2 6] .ret) .skip)))) (cN [pX 124 93 1 93]))))))) (aD [jZ 125 4 2,OM 3 0] .ret)))))),[.tm 2,.tm 3]⟩
def L88:aW :=⟨5,S [Pf 2] (S [Om 3 0,Ok 4 137 [.t 3,I 1,I 999],Om 2 4] .ret),[.tm 2]⟩
def L90:aW :=⟨19,S [OM 4 0] (.seq (aD [pH 6 0,OM 8 0] (.block 0 (.loop (S [Ob 9 .lss 8 7] (.seq (Ce 9 0) (.seq (.block 1 (aD [jZ 10 8 5] (aD [bM 11 1 0,oC 13 5 1 12,Ol 15 1 14,O 16 (.call (.t 11) [.t 15])] (Cd 16 (aD [jZ 17 5 4] .ret) .skip)))) (cN [pX 18 8 1 8]))))))) (S [OM 4 (-1)] .ret)),[.tm 4]⟩
def L95:aW :=⟨6,S [Pf 2] (aD [pH 3 0,Oc 5 .leq 4 6,Om 2 5] .ret),[.tm 2]⟩
def L99:aW :=⟨21,aD [tW 2 3 0] (aD [bD 4 0 2 1,Ok 6 100 [.t 5],F8 7 6 1 2,TO 10 7 100 9 7,F8 12 11 2 2,G 15 12 true (.len none (.t 14)),F9 16 12 0 1 12,G 18 12 true (.len none (.t 17)),G 19 12 true (.bin false .eql (.t 15) (.t 18)),Pp 20 12 19,Om 3 20] .ret),[.tm 3]⟩
def L103:aW :=⟨48,S [Pe 4] (.seq (S [Om 9 1,Oc 10 .lss 9 0] (Cd 10 (.region [O 11 (.x (.sN 9 (.c (.str ⟨#[99,97,110,110,111,116,32,98,101,32,110,101,103,97,116,105,118,101]⟩)))),N (.x (.B8 (.t 11)))]) .skip)) (aD [pH 13 0,O 15 (.conv .u64 (.t 14)),Om 16 1,O 17 (.conv .u64 (.t 16)),Ok 18 150 [.t 15,.t 17],mG 12 18 19 0 20 1,bM 5 19 20] (.seq (aD [Om 21 5,O 22 (.bin false .gtr (.t 21) (.c (.int .u64 (0)))),ZA 23 22 6,G 25 23 false (.bin false .gtr (.t 24) (.c (.int .u64 (9223372036854775807)))),Pq 26 23 25] (Cd 26 (.region [O 27 (.x (.sN 9 (.c (.str ⟨#[116,104,101,32,114,101,115,117,108,116,32,111,102,32,40,108,101,110,40,120,41,32,42,32,99,111,117,110,116,41,32,111,118,101,114,102,108,111,119,115]⟩)))),N (.x (.B8 (.t 27)))]) .skip)) (S [Om 28 6,O 29 (.conv .i64 (.t 28)),O 30 (.VH 3 1 8 Z0 (.t 29) (.t 29)),Om 7 30] (aD [bM 31 7 0,O 33 (.x (.copy 1 (.t 31) (.t 32))),Om 8 33] (.seq (.block 0 (.loop (.seq (aD [bM 34 8 7,oD 36 35 34] (Ce 37 0)) (.block 1 (cN [bM 38 8 7,Om 40 8,O 41 (.J4 1 none (.t 39) (some (.t 40)) none none),bM 42 7 8,O 44 (.J4 1 none (.t 42) none (some (.t 43)) none),O 45 (.x (.copy 1 (.t 41) (.t 44))),FG 46 38 45 8]))))) (aD [jZ 47 7 4] .ret))))))),[.tm 4]⟩
def L105:aW :=⟨80,S [Pf 4] (aD [Om 13 1,O 14 (.build (.agg [Z0,Z0,Z0]) [(0,(1,(.t 13))),(1,(1,(I (-1)))),(2,(1,(I (-1))))]),KA 5 3 14] (aD [O 15 (.x .G7),Ot 16 3 5,Ot 17 3 5,N (.x (.iQ ⟨true,[.int .i64,.int .i64,.int .i64]⟩ (.t 15) (.t 16) (.t 17))),jZ 18 15 6] (S [Ot 19 3 5,Pb 20 256 3 19,Om 7 20] (.seq (.block 0 (.loop (.seq (aD [pH 21 7,Oc 23 .gtr 22 0] (Ce 23 0)) (.block 1 (aD [Om 24 7,O 25 (.ia 3 none (.t 24) (I 0)),Ot 26 3 25,KA 8 3 26] (S [Om 27 7,O 28 (.J4 3 none (.t 27) (some (I 1)) none none),Om 7 28] (.seq (aD [Pt 29 3 8,Of 30 (.call (C 151) [.t 29]),Of 31 (.bin false .eql (.t 30) (I 2)),Pm 32 31,Lm 33 32 0 32 32 2,Gf 37 32 true (.fa 2 (.t 8)),Gf 39 32 true (.fa 1 (.t 8)),Pi 36 32 35,Pi 38 32 37,Gf 41 32 true (.ia 4 none (.t 36) (.t 38)),Pi 40 32 39,Gf 42 32 true (.ia 1 (some 4) (.t 41) (.t 40)),Pi 43 32 42,G 44 32 true (.bin false .eql (.t 43) (I (-1))),Pp 45 32 44] (Cd 45 (aD [Om 46 0,Ot 47 3 8,PF 48 6 152 46 47] (S [O 4 (.dU Bt)] .ret)) .skip)) (aD [Pm 56 0,Of 60 (.dU (I 0)),Pt 51 3 8,Pt 57 3 8,Of 50 (.call (C 153) []),Of 52 (.call (C 151) [.t 51]),JX 53 1 50 52 0,O 58 (.call (.t 55) [.t 56,.t 57]),On 59 58] (.block 2 (.loop (S [Ob 61 .lss 60 59] (.seq (Ce 61 2) (.seq (.block 3 (aD [Oi 62 3 58 60,Ot 63 3 62,KA 10 3 63] (aD [Om 65 6,Ot 66 3 10,O 67 (.x (.look ⟨true,[.int .i64,.int .i64,.int .i64]⟩ (.agg [Z0,Z0,Z0]) true (.t 65) (.t 66))),mG 64 67 68 0 69 1,KA 11 3 68,Om 12 69] (S [Om 70 12,Oo 71 70] (Cd 71 (S [Om 72 6,Ot 73 3 10,Ot 74 3 8,N (.x (.iQ ⟨true,[.int .i64,.int .i64,.int .i64]⟩ (.t 72) (.t 73) (.t 74)))] (cN [Om 75 7,Ot 76 3 10,Q9 77 256 3 76 256 3 24 75 7])) .skip))))) (cN [pX 79 60 1 60])))))))))))))) (S [Pf 4] .ret))))),[.tm 4]⟩
def L106:aW :=⟨80,S [O 2 (.dU (.c (.str ⟨#[]⟩))),Pe 3,Pf 4] (S [Pe 5] (S [OM 6 0] (.seq (S [OM 7 0] (.block 0 (.loop (.seq (aD [bM 13 7 0,O 15 (.x (.rP (.t 14))),Ob 16 .leq 13 15] (Ce 16 0)) (.seq (.block 1 (aD [bM 19 7 0,O 21 (.x (.rP (.t 20))),Ob 22 .eql 19 21,Yi 23 22 0 7,G 27 23 false (.bin false .eql (.t 26) (.c (.int .u8 (32)))),Pq 28 23 27] (Cd 28 (aD [bM 29 5 0,bM 31 6 7,O 33 (.x (.VB (.t 30) (some (.t 31)) (some (.t 32)))),Q9 34 9 1 33 9 1 16 29 5] (cN [iK 36 7 1 6])) .skip))) (cN [iK 17 7 1 7])))))) (S [OM 8 (-1)] (.seq (aD [Om 38 5,V6 39 1 38 0 1] (.block 2 (S [O 42 (.x (.eqv false ⟨false,[.str]⟩ (.t 40) (.c (.str ⟨#[99,101,114,116]⟩)))),Om 41 42] (Cd 41 (.region [OM 8 7]) (.seq (S [O 44 (.x (.eqv false ⟨false,[.str]⟩ (.t 40) (.c (.str ⟨#[98,97,100]⟩)))),Om 43 44] (Cd 43 .skip (.region [O 45 (.x (.eqv false ⟨false,[.str]⟩ (.t 40) (.c (.str ⟨#[112,97,115,115]⟩)))),Om 43 45]))) (Cd 43 (.region [OM 8 1]) (.seq (S [O 47 (.x (.eqv false ⟨false,[.str]⟩ (.t 40) (.c (.str ⟨#[108,111,116]⟩)))),Om 46 47] (Cd 46 .skip (.region [O 48 (.x (.eqv false ⟨false,[.str]⟩ (.t 40) (.c (.str ⟨#[114,117,110]⟩)))),Om 46 48]))) (Cd 46 (.region [OM 8 3]) (S [O 50 (.x (.eqv false ⟨false,[.str]⟩ (.t 40) (.c (.str ⟨#[116,101,115,116]⟩)))),Om 49 50] (Cd 49 (.region [OM 8 4]) .skip)))))))))) (.seq (aD [pH 51 5,Om 53 8,Oc 54 .add 53 1,Ob 55 .neq 52 54] (Cd 55 (S [O 2 (.dU (.c (.str ⟨#[]⟩))),Pe 3,Pf 4] .ret) .skip)) (S [Pe 9] (.seq (S [OM 10 1] (.block 3 (.loop (.seq (aD [bM 56 10 5,oD 58 57 56] (Ce 59 3)) (.seq (.block 4 (aD [bM 63 5 10,xB 65 1 63 64 1,Ok 67 154 [.t 66],mG 62 67 68 0 69 1,bM 11 68 69] (.seq (S [Om 70 12,Oo 71 70] (Cd 71 (S [O 2 (.dU (.c (.str ⟨#[]⟩))),Pe 3,Pf 4] .ret) .skip)) (cN [bM 72 9 11,Q9 74 3 1 73 3 1 8 72 9])))) (cN [iK 60 10 1 10])))))) (aD [Om 76 5,V6 77 1 76 0 1,Om 79 9,bM 2 78 79,O 4 (.dU Bt)] .ret))))))))),[.tm 2,.tm 3,.tm 4]⟩
def L119:aW :=⟨25,S [Ox 3 2 0,OM 6 0] (S [OM 7 0] (.seq (S [OM 8 0] (.block 0 (.loop (.seq (aD [bM 9 8 2,Ob 11 .lss 9 10] (Ce 11 0)) (.seq (.block 1 (cN [Pm 14 7,Pm 16 1,Pm 17 8,Pa 18 1 3,Pt 15 2 3,OG 19 18,Of 21 (.VH 4 1 1 (.bool false) (.t 20) (.t 20)),Ok 22 162 [.t 15,.t 16,.t 17,I 0,.t 21],FG 23 14 22 7])) (cN [iK 12 8 1 8])))))) (aD [jZ 24 7 6] .ret))),[.tm 6]⟩
def L126:aW :=⟨9,S [O 0 (.dU (.c .cV))] (aD [O 1 (.x .G7),O 2 (.build (.agg [Z0,.dP]) [(0,(1,(I 7))),(1,(1,(C 168)))]),N (.x (.iQ ⟨false,[.str]⟩ (.t 1) (.c (.str ⟨#[99,101,114,116]⟩)) (.t 2))),O 3 (.build (.agg [Z0,.dP]) [(0,(1,(I 1))),(1,(1,(C 169)))]),N (.x (.iQ ⟨false,[.str]⟩ (.t 1) (.c (.str ⟨#[98,97,100]⟩)) (.t 3))),O 4 (.build (.agg [Z0,.dP]) [(0,(1,(I 3))),(1,(1,(C 170)))]),N (.x (.iQ ⟨false,[.str]⟩ (.t 1) (.c (.str ⟨#[108,111,116]⟩)) (.t 4))),O 5 (.build (.agg [Z0,.dP]) [(0,(1,(I 4))),(1,(1,(C 171)))]),N (.x (.iQ ⟨false,[.str]⟩ (.t 1) (.c (.str ⟨#[116,101,115,116]⟩)) (.t 5))),O 6 (.build (.agg [Z0,.dP]) [(0,(1,(I 1))),(1,(1,(C 172)))]),N (.x (.iQ ⟨false,[.str]⟩ (.t 1) (.c (.str ⟨#[112,97,115,115]⟩)) (.t 6))),O 7 (.build (.agg [Z0,.dP]) [(0,(1,(I 3))),(1,(1,(C 173)))]),N (.x (.iQ ⟨false,[.str]⟩ (.t 1) (.c (.str ⟨#[114,117,110]⟩)) (.t 7))),jZ 8 1 0] .ret),[.tm 0]⟩
def L137:aW :=⟨15,S [Pf 6] (aD [bM 7 1 0,Ob 9 .leq 7 8,TI 10 9 0 2 6] .ret),[.tm 6]⟩
def L139:aW :=⟨14,S [Ox 2 7 0,Pf 4] (aD [Om 5 1,bD 6 3 2 1,bD 8 3 2 1,bD 10 4 2 1,Ob 12 .add 9 11,Ok 13 137 [.t 5,.t 7,.t 12],Om 4 13] .ret),[.tm 4]⟩
def L149:aW :=⟨8,aD [tW 2 3 0] (aD [Ol 4 1 1,AX 5 3 2 4,Oo 7 6,Om 3 7] .ret),[.tm 3]⟩
def L159:aW :=⟨22,S [Ox 2 5 0,OM 4 0] (.seq (S [OM 5 0] (.block 0 (.loop (.seq (aD [Om 6 5,bD 7 2 2 1,oD 9 8 6] (Ce 10 0)) (.seq (.block 1 (aD [bD 13 2 2 1,oC 15 5 4 14,bD 17 0 16 1,Om 19 1,Ob 20 .eql 18 19] (Cd 20 (aD [jZ 21 5 4] .ret) .skip))) (cN [iK 11 5 1 5])))))) (S [OM 4 (-1)] .ret)),[.tm 4]⟩
def L160:aW :=⟨15,S [Pf 6] (aD [bM 7 0 1,Ob 9 .geq 7 8,TI 10 9 0 2 6] .ret),[.tm 6]⟩
def L173:aW :=⟨68,aD [Om 7 1,V6 8 1 7 0 1,Ok 10 213 [.t 9,I 1,I 40],WV 11 10 1 1 1 213 0 40,WV 17 16 1 1 2 213 1 3,Ok 23 127 [.t 22,I 2]] (aD [R0 24 0 0,bD 27 4 26 1,On 29 28,Oc 30 .lss 29 6,Ok 31 127 [.t 30,I 3]] (aD [Pm 32 0,zA 33 0 0,Pa 36 4 35,rL 38 1 1 0,rL 41 1 1 1,rL 44 1 1 2,rL 48 1 1 2,nF 37 36 40 39,nF 43 42 46 45,Of 47 (.bin false .neq (.t 46) (I 2)),Pl 50 49,Of 51 (.bin false .neq (.t 50) (I 1)),Of 52 (.aQ 4 1 [.t 47,.t 51]),Of 53 (.build (.agg [Z0,Z0,E0]) [(0,(1,(.t 40))),(1,(1,(.t 43))),(2,(1,(.t 52)))]),Ok 54 217 [.t 37,.t 53],z7 55 32 0,Oa 57 4 56,Ns 1 57 54] (aD [pY 59 0 24,Ok 61 23 [.t 60],mG 58 61 62 0 63 1,Oe 64 58 2,bM 4 62 63,Om 6 64] (cN [LJ 65 6 0,Ok 67 127 [.t 66,I 9]])))),[]⟩
@[simp] def L176a:LT:=.op (O 9 (.build (.agg [.eX,.cV,.cV]) [(0,(1,(.t 5))),(1,(1,(.t 7))),(2,(1,(.t 8)))])) (.alt (Ox 10 3 9) .done .no)
@[simp] def L176b:LT:=.op (O 9 (.build (.agg [.eX,.cV,.cV]) [(0,(1,(.t 5))),(1,(1,(.t 7))),(2,(1,(.t 8)))])) (.alt (Ox 10 3 9) (.alt (Of 3 (.alloc .eX)) .done .no) (.alt (Of 3 (.alloc .eX)) (.alt (Ox 10 3 9) .done .no) .no))
@[simp] def L176c:LT:=.alt (Pl 5 1) (.alt (Ok 7 49 [.t 6]) L176a .no) (.alt (Ok 7 49 [.t 6]) (.op (Pl 5 1) L176a) .no)
@[simp] def L176d:LT:=.alt (Ok 7 49 [.t 6]) (.alt (Of 8 (.x .G7)) L176a .no) (.alt (Of 8 (.x .G7)) (.alt (Ok 7 49 [.t 6]) L176a .no) .no)
@[simp] def L176e:LT:=.alt (Ok 7 49 [.t 6]) L176b (.alt (Of 3 (.alloc .eX)) (.alt (Ok 7 49 [.t 6]) L176a .no) .no)
@[simp] def L176f:LT:=.alt (Of 8 (.x .G7)) L176b (.alt (Of 3 (.alloc .eX)) (.alt (Of 8 (.x .G7)) L176a .no) .no)
def L176:aW :=⟨19,S [Ox 1 1 0,O 2 (.dU (.c .eX))] (.seq (.jA (.op (Pl 6 1) (.seq (.alt (Pl 5 1) (.alt (Ok 7 49 [.t 6]) L176f (.alt (Of 8 (.x .G7)) L176e (.alt (Of 3 (.alloc .eX)) L176d .no))) (.alt (Ok 7 49 [.t 6]) (.op (Pl 5 1) L176f) (.alt (Of 8 (.x .G7)) (.alt (Pl 5 1) L176e (.alt (Ok 7 49 [.t 6]) (.op (Pl 5 1) L176b) (.alt (Of 3 (.alloc .eX)) L176c .no))) (.alt (Of 3 (.alloc .eX)) (.alt (Pl 5 1) L176d (.alt (Ok 7 49 [.t 6]) (.op (Pl 5 1) (.alt (Of 8 (.x .G7)) L176a .no)) (.alt (Of 8 (.x .G7)) L176c .no))) .no)))) (.alt (Ns 1 3 10) .done .no)))) (S [O 4 (.alloc .dP)] (S [O 11 (.yK 221 [] [.t 1,.t 3,.t 4]),Ns 1 4 11] (aD [Pl 12 4,LK 13 1 3,Pl 16 15,O 17 (.call (.t 12) [.t 16])] (S [Ol 18 1 3,Om 2 18] .ret))))),[.tm 2]⟩
def Y199_0a:bH :=(.region [Om 5 15])
def Y199_0b:bH :=(.block 1 (aD [Of 20 (.fa 2 (.t 3)),Of 22 (M 5),Of 26 (.fa 0 (.t 3)),Ll 16 1 2 2,Ql 19 1 18 21 1 20,Of 23 (.ia 4 none (.t 19) (.t 21)),Of 24 (.ia 1 (some 4) (.t 23) (.t 22)),Ql 25 1 24 27 1 26,Ob 28 .neq 25 27] (Cd 28 (cN [Ol 29 1 4,Om 30 5,bD 31 2 3 1,O 33 (.build (.agg [Z0,Z0,Z0]) [(0,(1,(I (-1)))),(1,(1,(.t 30))),(2,(1,(.t 32)))]),O 34 (.aQ 256 3 [.t 33]),O 35 (.app 256 3 24 (.t 29) (.t 34)),Ns 1 4 35]) .skip)))
noncomputable def L199:aW :=⟨50,S [Ox 2 1 0,Ox 3 3 1,O 4 (.alloc E0)] (.seq (aD [Pa 10 0 3,Pa 12 2 3,LK 6 2 0,Pt 9 2 8,nF 11 10 13 12,Ok 14 247 [.t 9,.t 11,.t 13]] (.block 0 (.vM 50 (.t 14) (fX Tryz.prog 199 0) Y199_0a Y199_0b [15]))) (.seq (aD [Ol 36 1 2,bD 37 0 3 1,bD 39 2 3 1,Ok 41 246 [.t 36,.t 38,.t 40],Oc 42 .neq 41 (-1)] (Cd 42 (cN [Ol 43 1 4,bD 44 0 3 1,O 46 (.build (.agg [Z0,Z0,Z0]) [(0,(1,(.t 45))),(1,(1,(I (-1)))),(2,(1,(I (-1))))]),Pb 47 256 3 46,Py 48 256 3 24 43 47,Ns 1 4 48]) .skip)) (S [Ol 49 1 4,Ns 1 4 49] .ret))),[.cell 4 false 1]⟩
theorem L199_ok:fV Tryz.prog 199=some L199:=by kernel_rfl
def L214:aW :=⟨15,S [OM 4 0,Pf 5] (aD [R0 6 0 0,bD 9 2 8 1,Om 11 1,Ok 12 258 [.t 10,.t 11,C 259],Oe 13 12 0,Oe 14 12 1,bM 4 13 14] .ret),[.tm 4,.tm 5]⟩
@[simp] def L221a:LT:=.alt (Of 36 (.call (C 223) [.t 33,.t 35])) .done .no
@[simp] def L221b:LT:=.alt (Pl 23 22) (.alt (Ok 33 178 [.t 26,.t 28,.t 30,.t 32]) L221a .no) (.alt (Ok 33 178 [.t 26,.t 28,.t 30,.t 32]) (.op (Pl 23 22) L221a) .no)
@[simp] def L221c:LT:=.alt (Pl 23 22) (.alt (Pl 25 24) (.alt (Ok 33 178 [.t 26,.t 28,.t 30,.t 32]) L221a .no) (.alt (Ok 33 178 [.t 26,.t 28,.t 30,.t 32]) (.op (Pl 25 24) L221a) .no)) (.alt (Pl 25 24) L221b (.alt (Ok 33 178 [.t 26,.t 28,.t 30,.t 32]) (.op (Pl 23 22) (.op (Pl 25 24) L221a)) .no))
@[simp] def L221d:LT:=.alt (Pl 23 22) (.alt (Ok 33 178 [.t 26,.t 28,.t 30,.t 32]) (.op (Pt 35 2 34) L221a) (.alt (Pt 35 2 34) (.alt (Ok 33 178 [.t 26,.t 28,.t 30,.t 32]) L221a .no) .no)) (.alt (Ok 33 178 [.t 26,.t 28,.t 30,.t 32]) (.op (Pl 23 22) (.op (Pt 35 2 34) L221a)) (.alt (Pt 35 2 34) L221b .no))
@[simp] def L221e:LT:=.alt (Pl 20 2) (.op (Pz 21 20) (.op (Pa 22 2 21) L221b)) (.alt (Ok 33 178 [.t 26,.t 28,.t 30,.t 32]) (.op (Pl 20 2) (.op (Pz 21 20) (.op (Pa 22 2 21) (.op (Pl 23 22) L221a)))) .no)
@[simp] def L221f:LT:=.op (Pl 25 24) (.op (Pt 35 2 34) L221a)
def L221:aW :=⟨41,.seq (aD [pH 6 0,Oc 8 .eql 7 0] (Cd 8 .ret .skip)) (.seq (aD [rL 13 0 1 0,LK 9 1 2,Pl 12 11,Zz8 15 14 12 5,Ns 7 5 16] (aD [Ol 17 1 2,EP 18 7 5 222 17] (Cd 19 (.jA (.op (Pa 24 0 5) (.op (Pa 27 2 5) (.op (Pa 29 3 5) (.op (Pa 31 0 5) (.op (Pa 34 5 5) (.op (Pl 26 2) (.op (Pl 28 27) (.op (Pl 30 29) (.op (Pl 32 31) (.seq (.alt (Pl 20 2) (.op (Pz 21 20) (.op (Pa 22 2 21) (.alt (Pl 23 22) (.alt (Pl 25 24) (.alt (Ok 33 178 [.t 26,.t 28,.t 30,.t 32]) (.op (Pt 35 2 34) L221a) (.alt (Pt 35 2 34) (.alt (Ok 33 178 [.t 26,.t 28,.t 30,.t 32]) L221a .no) .no)) (.alt (Ok 33 178 [.t 26,.t 28,.t 30,.t 32]) L221f (.alt (Pt 35 2 34) (.alt (Pl 25 24) (.alt (Ok 33 178 [.t 26,.t 28,.t 30,.t 32]) L221a .no) (.alt (Ok 33 178 [.t 26,.t 28,.t 30,.t 32]) (.op (Pl 25 24) L221a) .no)) .no))) (.alt (Pl 25 24) L221d (.alt (Ok 33 178 [.t 26,.t 28,.t 30,.t 32]) (.op (Pl 23 22) L221f) (.alt (Pt 35 2 34) L221c .no)))))) (.alt (Pl 25 24) (.alt (Pl 20 2) (.op (Pz 21 20) (.op (Pa 22 2 21) L221d)) (.alt (Ok 33 178 [.t 26,.t 28,.t 30,.t 32]) (.op (Pl 20 2) (.op (Pz 21 20) (.op (Pa 22 2 21) (.op (Pl 23 22) (.op (Pt 35 2 34) L221a))))) (.alt (Pt 35 2 34) L221e .no))) (.alt (Ok 33 178 [.t 26,.t 28,.t 30,.t 32]) (.op (Pl 20 2) (.op (Pz 21 20) (.op (Pa 22 2 21) (.op (Pl 23 22) L221f)))) (.alt (Pt 35 2 34) (.alt (Pl 20 2) (.op (Pz 21 20) (.op (Pa 22 2 21) L221c)) (.alt (Pl 25 24) L221e (.alt (Ok 33 178 [.t 26,.t 28,.t 30,.t 32]) (.op (Pl 20 2) (.op (Pz 21 20) (.op (Pa 22 2 21) (.op (Pl 23 22) (.op (Pl 25 24) L221a))))) .no))) .no)))) (.alt (N (.x (.iQ ⟨false,[.int .i64]⟩ (.t 23) (.t 25) (.t 36)))) .done .no)))))))))))) .skip))) (.region [Pm 38 0,Of 39 (.J4 1 none (.t 38) (some (I 1)) none none),Pl 37 3,O 40 (.call (.t 37) [.t 39])])),[]⟩
def L230:aW :=⟨5,S [Pf 2] (S [Om 3 0,Ok 4 137 [.t 3,I (-100000),I 100000],Om 2 4] .ret),[.tm 2]⟩
def L231:aW :=⟨49,aD [iK 8 1 1 6] (.block 0 (.loop (.seq (aD [bM 10 6 2,Ob 12 .lss 10 11] (Ce 12 0)) (.seq (.block 1 (aD [jZ 15 6 7] (.block 2 (.loop (.seq (aD [Pm 16 7,Pm 17 1,Of 18 (.bin false .gtr (.t 16) (.t 17)),Pm 19 18,YZ 20 19 0 19 7,Gf 22 19 true (.ia 1 none (.t 20) (.t 21)),YZ 24 19 0 19 7,Gf 26 19 true (.bin false .sub (.t 25) (I 1)),Gf 27 19 true (.ia 1 none (.t 24) (.t 26)),Pi 23 19 22,Pi 28 19 27,GF 29 19 237 23 28 19] (Ce 30 2)) (.seq (.block 3 (cN [Pm 33 0,Pm 34 7,Pm 35 0,Pm 36 7,Of 37 (.bin false .sub (.t 36) (I 1)),Pm 38 0,Pm 39 7,Of 40 (.bin false .sub (.t 39) (I 1)),Of 41 (.ia 1 none (.t 38) (.t 40)),TM 43 0 7 1,nF 42 41 46 45,Oi 47 1 33 34,Ns 1 47 42,Oi 48 1 35 37,Ns 1 48 46])) (.region [Om 31 7,Oc 32 .sub 31 1,Om 7 32]))))))) (cN [iK 13 6 1 6]))))),[]⟩
def L247:aW :=⟨8,S [Ox 3 2 0,Ox 4 1 1,Ox 5 1 2,O 6 (.dU (.c .dP))] (S [O 7 (.yK 281 [] [.t 3,.t 4,.t 5]),Om 6 7] .ret),[.tm 6]⟩
def L271:aW :=⟨5,S [OM 2 0] (aD [pY 3 0 293,Om 2 4] .ret),[.tm 2]⟩
def L272:aW :=⟨5,S [OM 2 0] (aD [pY 3 0 294,Om 2 4] .ret),[.tm 2]⟩
def L282:aW :=⟨38,aD [Ox 4 2 0,tW 7 1 3] (aD [bD 11 1 4 1,oC 13 1 3 12,Ot 15 3 14,O 9 (.alloc (.agg [Z0,Z0,E0])),Ns 3 9 15] (S [O 16 (.yK 296 [] [.t 7]),Om 10 16] (aD [bD 17 2 9 1,oC 19 2 1 18,Ol 21 1 20,F8 22 21 1 9,Pg 25 22 7,Qm 26 22 24 25 22,F8 28 27 0 4,Qr 31 28 2 28 1 30,Pg 33 28 32,Pn 34 28 10,G 35 28 true (.call (C 142) [.t 33,.t 34]),JZ 36 28 35 28,Om 8 37] .ret))),[.tm 8]⟩
end
end Go.Proofs.YthmbecacehfgfabGreatDoor
