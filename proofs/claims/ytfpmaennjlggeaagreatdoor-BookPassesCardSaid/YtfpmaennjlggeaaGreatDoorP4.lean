/- The registrar's book: what the statement needs, joined and shortened by program. -/
import Derived.Test.YtfpmaennjlggeaaGreatDoorP3
import Derived.Test.YtfpmaennjlggeaaGreatDoorP2
import Derived.Test.YtfpmaennjlggeaaGreatDoorRows
import Derived.Test.YtfpmaennjlggeaaGreatDoorP1
import Derived.WalkKit
import Derived.ProofKit
import Derived.OpenShut
import Derived.Handed
import Derived.Lay
import Derived.MakeChecks
import Derived.LaidLaws
import Derived.Lib.LaidTab
import Derived.Lib.LaidU8
import Derived.Shelf.Vars
import Derived.Test.YtfpmaennjlggeaaGreatDoorP0
import Derived.Test.YtfpmaennjlggeaaGreatDoorProg
import Derived.Shelf.Spec.SlicesInsertGrow
import Derived.StillTailTactics
import Derived.Deep.QuietTactic
import Derived.BigQuiet
import Derived.Lib.Builder
import Derived.Shelf.Strings.BuilderX
import Derived.Shelf.RegionOpenPlain
import Derived.Lib.Strings
import Derived.Lib.Walk
import Derived.Lib.AppendStr
import Derived.Lib.AppendZeros
import Derived.Lib.UnsafeStr
import Derived.Laws.Externs
import Derived.Lib.ItoaLen
import Derived.JoinedOf
import Derived.Test.YtfpmaennjlggeaaGreatDoorCards
import Derived.Test.YtfpmaennjlggeaaGreatDoorTie
import Derived.SevenTiedAt
import Derived.Lib.AtoiTie
set_option linter.unusedSimpArgs false
set_option linter.unusedVariables false
set_option maxHeartbeats 32000000
set_option maxRecDepth 10000
namespace Go.Proofs.YtfpmaennjlggeaaGreatDoor.Qn
open Go.RowKit
section
attribute [local simp] AS.exp expG Box.ren AV.map AV.Zu9 Zau noRet Site.Zu6 Box.Zu3 AV.Zu3 AV.Zu4 retB dropL AS.Zvd renL outG outOk Zas inG fnOf lookA Zyc
attribute [local simp] Box.Zu0 Site.Zu1
section
def natV (l:List Nat):List PV:=l.map fun r:Nat=>.int .i64 r
theorem Zho {l:List Nat}{i r:Nat}(h:l[i]?=some r):(natV l)[i]?=some (.int .i64 r):=by rw[natV,ZxM,h];rfl
theorem Zhn {l:List Nat}:(natV l).length=l.length:=by simp[natV]
def delB (q:Qu)(p:List (List Int))(l:List Nat):List Box:=.arr 3 1 (natV l)::layB q p 2
def ixI:Option (Nat×List (List Int))→Int
 |some s=>s.1
 |none=>-1
def ixQ (p:List (List Int)):Option (Nat×List (List Int))→List (List Int)
 |some s=>s.2
 |none=>p
def delF:AV:=.fn 67 [.ptr (.par 1) 0] []
theorem ix_c {F:Nat}(hF:407<F)(q:Qu)(hq:q.ok)(p:List (List Int))(hp:PW q p)(l:List Nat)(hl:l.length≤1000)(hin:∀r∈l,r<q.rs.length):
  Zai Tryz.prog 114 [.vec (.par 0) 1 0 l.length,delF] (laid 0 (delB q p l)) (fun x B=>x=.pv (.int .i64 (ixI (ixM F q p l)))∧B=laid 0 (delB q (ixQ p (ixM F q p l)) l)):=by
 refine cB [.par 0,.par 1,.par 2] L114 ?_;obtain⟨RES,hRES⟩:∃z,z=ixM F q p l:=⟨_,rfl⟩;rw[←hRES];generalize hR:(fun(x:AV) (B:List (Site×Box))=>x=.pv (.int .i64 (ixI RES))∧B=laid 0 (delB q (ixQ p RES) l))=R;simp[-getElem?_pos,L114,delB,delF,layB,laid];refine Zaf (fun n τ=>∃k:Nat,k≤l.length∧n=l.length-k∧(ixM F q p (l.drop k)).map (fun s=>(s.1+k,s.2))=RES∧τ=⟨[(0,.vec (.par 0) 1 0 l.length),(1,delF),(7,.pv (.int .i64 l.length)),(8,.pv (.int .i64 k))],laid 0 (delB q p l)⟩)
  ⟨l.length,⟨[(0,.vec (.par 0) 1 0 l.length),(1,delF),(7,.pv (.int .i64 l.length)),(8,.pv (.int .i64 0))],laid 0 (delB q p l)⟩,Sub.mk (by simp[delF]) (by simp[delB,layB,laid]),0,Zx0 _,rfl,by rw[hRES];simp,rfl⟩ ?_
 clear hRES;rintro J hJ n τ ⟨k,hk,rfl,hres,rfl⟩;by_cases hlt:k<l.length
 ·obtain⟨r,hx⟩:∃x,l[k]?=some x:=⟨l[k],ZxL hlt⟩;have hg:=Zho hx;have hln:=Zhn (l:=l);have hw:=wrapS (k:=k) (by omega);have hmeas:l.length-(k+1)<l.length-k:=by omega
  have hdr:l.drop k=r::l.drop (k+1):=by
   rw[ZyF hlt]
   have:l[k]=r:=by rw[ZxL hlt]at hx;exact Option.some.inj hx
   rw[this]
  have hC:=ZnQ hF q hq p hp r (hin r (ZxQ hx));rw[hdr]at hres;have e2:ixM F q p (r::l.drop (k+1))=match giveP F q p r with
   |some p'=>some (0,p')
   |none=>(ixM F q p (l.drop (k+1))).map fun s=>(s.1+1,s.2):=rfl
  rw[e2]at hres;clear e2 hdr;have hnext:giveP F q p r=none→J (l.length-(k+1)) _:=fun hn=>hJ _ _ ⟨k+1,hlt,rfl,by
   rw[hn]at hres;rw[←hres];cases ixM F q p (l.drop (k+1))with
   |none=>rfl
   |some s=>simp;omega,rfl⟩
  clear hJ;simp[-getElem?_pos,-List.getElem?_map,delB,delF,layB,laid,hlt,hg,hln,nblt,nble];refine Zac (as':=[.ptr (.par 0) 0,.pv (.int .i64 r)]) (B:=laid 0 (layB q p 1)) (fs:=[.ptr (.par 1) 0]) (cs:=[]) 16 [.par 1,.par 2] ?_ rfl rfl ?_ ?_ ?_ hC ?_
  ·rfl
  ·simp[layB,laid]
  ·rfl
  ·rfl
  rintro r0 B0 ⟨rfl,rfl⟩;refine⟨rfl,by simp[layB,laid],?_⟩;cases hgv:giveP F q p r with
  |none=>
   have hround:=hnext hgv;simp[-getElem?_pos,-List.getElem?_map,layB,laid,hw];refine⟨_,_,hmeas,Sub.mk ?_ ?_,hround⟩
   ·simp[delF]
   ·simp[delB,layB,laid]
  |some p'=>
   rw[hgv]at hres;simp only[Zyq,Zyj]at hres;subst hres;simp[-getElem?_pos,-List.getElem?_map,layB,laid];rw[←hR];simp[delB,layB,laid,ixI,ixQ]
 ·have he:k=l.length:=by omega
  subst he;rw[List.drop_length]at hres;have hno:RES=none:=by rw[←hres];rfl
  subst hno;simp[-getElem?_pos,-List.getElem?_map,delB,delF,layB,laid];rw[←hR];simp[delB,layB,laid,ixI,ixQ]
theorem ZrI {F:Nat}{q:Qu}(hq:q.ok){p:List (List Int)}(hp:PW q p):∀(l:List Nat),(∀r∈l,r<q.rs.length)→∀i p',ixM F q p l=some (i,p')→i<l.length∧PW q p'∧p'.length=p.length
 |[],_,i,p',h=>by cases h
 |r::l,hl,i,p',h=>by
  have e2:ixM F q p (r::l)=match giveP F q p r with
   |some p'=>some (0,p')
   |none=>(ixM F q p l).map fun s=>(s.1+1,s.2):=rfl
  rw[e2]at h;cases hg:giveP F q p r with
  |some p2=>
   rw[hg]at h;simp only[Option.some.injEq,Prod.mk.injEq]at h;obtain⟨rfl,rfl⟩:=h;obtain⟨h1,h2⟩:=ZhD hq hp (hl r (by simp)) hg;exact⟨by simp,h1,h2⟩
  |none=>
   rw[hg]at h;obtain⟨s,hs,he⟩:=ZxP.1 h;obtain⟨k,p3⟩:=s;simp only[Prod.mk.injEq]at he;obtain⟨rfl,rfl⟩:=he;obtain⟨h1,h2⟩:=ZrI hq hp l (fun x hx=>hl x (by simp[hx])) k p3 hs;exact⟨by simp;omega,h2⟩
def dlH (q:Qu)(p:List (List Int))(X:List Nat)(w j n:Nat):AS:=⟨[(0,.vec (.par 0) 1 0 n),(1,delF),(5,.pv (.int .i64 w)),(6,.pv (.int .i64 j))],laid 0 (delB q p X)⟩
theorem ZpW {X:List Nat}{w r:Nat}:(natV X).set w (.int .i64 r)=natV (X.set w r):=by rw[natV,natV,List.map_set]
theorem ZqA {F:Nat}(hF:407<F)(q:Qu)(hq:q.ok)(p:List (List Int))(hp:PW q p)(l:List Nat)(hl:l.length≤1000)(hin:∀r∈l,r<q.rs.length):
  Zai Tryz.prog 66 [.vec (.par 0) 1 0 l.length,delF] (laid 0 (delB q p l)) (fun x B=>x=.vec (.par 0) 1 0 (delM F q p l).2.length∧∃X:List Nat,X.take (delM F q p l).2.length=(delM F q p l).2∧B=laid 0 (delB q (delM F q p l).1 X)):=by
 obtain⟨RES,hRES⟩:∃z,z=delM F q p l:=⟨_,rfl⟩;rw[←hRES];have hC:=ix_c hF q hq p hp l hl hin;rw[Zoy]at hRES;refine cBR [.par 0,.par 1,.par 2] L66 ?_;intro R hR;have hixl:=ZrI (F:=F) hq hp l hin;simp[-getElem?_pos,L66,delB,layB,laid];refine Zac (as':=[.vec (.par 0) 1 0 l.length,delF]) (B:=laid 0 (delB q p l)) (fs:=[]) (cs:=[]) 10 [.par 0,.par 1,.par 2] ?_ rfl rfl ?_ ?_ ?_ hC ?_
 ·rfl
 ·simp[delB,layB,laid]
 ·simp[delF]
 ·simp[delF]
 rintro r0 B0 ⟨rfl,rfl⟩;refine⟨rfl,by simp[delB,layB,laid],?_⟩;cases hx:ixM F q p l with
 |none=>
  rw[hx]at hRES;simp only at hRES;subst hRES;simp[-getElem?_pos,delB,layB,laid,ixI,ixQ,delF];rw[←hR];exact⟨rfl,l,by simp,by simp[delB,layB,laid]⟩
 |some s=>
  obtain⟨i,p1⟩:=s;obtain⟨hi,hp1,_⟩:=hixl i p1 hx;rw[hx]at hRES;simp only at hRES;have hw1:=wrapS (k:=i) (by omega);have hni:¬((i:Int) = -1):=by omega
  clear hixl hC;simp[-getElem?_pos,delB,layB,laid,ixI,ixQ,delF,hw1,hni];refine Zaf (fun n τ=>∃(j:Nat) (X K:List Nat) (p2:List (List Int)),j≤l.length∧n=l.length-j∧X.length=l.length∧X.take K.length=K∧X.drop j=l.drop j∧K.length<j∧PW q p2∧(delM F q p2 (l.drop j)).1=RES.1∧K++(delM F q p2 (l.drop j)).2=RES.2∧τ=dlH q p2 X K.length j l.length)
   ⟨l.length-(i+1),dlH q p1 l i (i+1) l.length,Sub.mk (by simp[delF]) (by simp[delB,layB,laid]),i+1,l,l.take i,p1,by omega,rfl,rfl,by simp,rfl,by rw[ZxT];omega,hp1,by rw[hRES],by rw[hRES],by rw[ZxT,Nat.min_eq_left (by omega)]⟩ ?_
  clear hRES hp1 hx hw1 hni;rintro J hJ n τ ⟨j,X,K,p2,hj,rfl,hXl,hXt,hXd,hKj,hp2,hr1,hr2,rfl⟩;have hln:=Zhn (l:=X);by_cases hlt:j<l.length
  ·obtain⟨r,hxr⟩:∃x,l[j]?=some x:=⟨l[j],ZxL hlt⟩;have hXr:X[j]?=some r:=by
    have h1:(X.drop j)[0]?=(l.drop j)[0]?:=by rw[hXd]
    rw[Zx3,Zx3,Nat.add_zero]at h1;rw[h1];exact hxr
   have hg:=Zho hXr;have hw:=wrapS (k:=j) (by omega);have hw2:=wrapS (k:=K.length) (by omega);have hmeas:l.length-(j+1)<l.length-j:=by omega
   have hdr:l.drop j=r::l.drop (j+1):=by
    rw[ZyF hlt]
    have:l[j]=r:=by rw[ZxL hlt]at hxr;exact Option.some.inj hxr
    rw[this]
   have hC:=ZnQ hF q hq p2 hp2 r (hin r (ZxQ hxr));have hdn:X.drop (j+1)=l.drop (j+1):=by
    have:=congrArg List.tail hXd
    simpa[List.tail_drop]using this
   rw[hdr]at hr1 hr2;have e2:delM F q p2 (r::l.drop (j+1))=match giveP F q p2 r with
    |some p'=>delM F q p' (l.drop (j+1))
    |none=>((delM F q p2 (l.drop (j+1))).1,r::(delM F q p2 (l.drop (j+1))).2):=rfl
   rw[e2]at hr1 hr2;clear e2 hdr;have hKl:K.length<X.length:=by omega
   have hset:∀Y,Y=X.set K.length r→giveP F q p2 r=none→J (l.length-(j+1)) (dlH q p2 Y (K.length+1) (j+1) l.length):=fun Y hY hn=>hJ _ _ ⟨j+1,Y,K++[r],p2,hlt,rfl,by rw[hY,List.length_set];exact hXl,by
    rw[hY,ZxU];show List.take (K.length+1) _=_;rw[Zx6,ZyA hKl,List.take_set_of_le (ZxR _),hXt];rfl,by rw[hY,List.drop_set_of_lt (by omega)];exact hdn,by simp;omega,hp2,by rw[hn]at hr1;exact hr1,by rw[hn]at hr2;rw[List.append_assoc];exact hr2,by simp⟩
   have hgot:∀p3,giveP F q p2 r=some p3→J (l.length-(j+1)) (dlH q p3 X K.length (j+1) l.length):=fun p3 hn=>hJ _ _ ⟨j+1,X,K,p3,hlt,rfl,hXl,hXt,hdn,by omega,(ZhD hq hp2 (hin r (ZxQ hxr)) hn).1,by rw[hn]at hr1;exact hr1,by rw[hn]at hr2;exact hr2,rfl⟩
   clear hJ;have hlt2:j<X.length:=by omega
   have hKn:K.length<l.length:=by omega
   have hKx:(natV X)[K.length]?=some (.int .i64 (X[K.length]:Nat)):=Zho (ZxL hKl);have hst:=ZpW (X:=X) (w:=K.length) (r:=r);simp[-getElem?_pos,-List.getElem?_map,dlH,delB,delF,layB,laid,hlt,hg,hln,nblt,nble];refine Zac (as':=[.ptr (.par 0) 0,.pv (.int .i64 r)]) (B:=laid 0 (layB q p2 1)) (fs:=[.ptr (.par 1) 0]) (cs:=[]) 28 [.par 1,.par 2] ?_ rfl rfl ?_ ?_ ?_ hC ?_
   ·rfl
   ·simp[layB,laid]
   ·rfl
   ·rfl
   rintro r0 B0 ⟨rfl,rfl⟩;refine⟨rfl,by simp[layB,laid],?_⟩;cases hgv:giveP F q p2 r with
   |none=>
    have hround:=hset _ rfl hgv;simp[-getElem?_pos,-List.getElem?_map,layB,laid,hw,hw2,hKn,hKx,hst,nblt,nble,setAt];refine⟨_,_,hmeas,Sub.mk ?_ ?_,hround⟩
    ·simp[delF]
    ·simp[delB,layB,laid]
   |some p3=>
    have hround:=hgot p3 hgv;simp[-getElem?_pos,-List.getElem?_map,layB,laid,hw];refine⟨_,_,hmeas,Sub.mk ?_ ?_,hround⟩
    ·simp[delF]
    ·simp[delB,layB,laid]
  ·have he:j=l.length:=by omega
   subst he;rw[List.drop_length]at hr1 hr2;have hr1':p2=RES.1:=hr1;have hr2':K=RES.2:=by rw[←hr2];simp[delM]
   clear hJ hr1 hr2;have hK2:K.length≤l.length:=by omega
   have hKs:K.length+(l.length-K.length)=l.length:=by omega
   have hsp:splice (natV X) K.length (List.replicate (l.length-K.length) (PV.int .i64 0))=natV (K++List.replicate (l.length-K.length) 0):=by
    unfold splice natV;rw[List.length_replicate,hKs,List.drop_eq_nil_of_le (by simp;omega),Zx9,←List.map_take,hXt,Zyb,List.map_replicate];rfl
   simp[-getElem?_pos,-List.getElem?_map,-splice,dlH,delB,delF,layB,laid,nblt,nble,hK2,hKs,hln,hXl,hsp];rw[←hR,←hr1',←hr2'];exact⟨rfl,K++List.replicate (l.length-K.length) 0,by simp,by simp[delB,layB,laid]⟩
end
section
attribute [local simp] frzL AS.frz AV.frz AV.frzL Box.frz AS.tidy AS.ZvF
def Qu.ZvB (q:Qu)(k:Nat):List Nat:=((List.range q.rs.length).take k).flatMap fun i=>List.replicate (q.run i).hours.toNat i
theorem Qu.Zwa {q:Qu}{k:Nat}(hk:k<q.rs.length):q.ZvB (k+1)=q.ZvB k++List.replicate (q.run k).hours.toNat k:=by
 have:(List.range q.rs.length)[k]?=some k:=by rw[List.getElem?_range hk]
 unfold Qu.ZvB;rw[ZbX this,List.flatMap_append];simp
theorem Qu.Zwm {q:Qu}(hq:q.ok):∀k,k≤q.rs.length→(q.ZvB k).length≤40*k
 |0,_=>by simp[Qu.ZvB]
 |k+1,hk=>by
  have h1:=Qu.Zwm hq k (by omega);obtain⟨r,hr⟩:∃r,q.rs[k]?=some r:=⟨q.rs[k],ZxL (by omega)⟩;have h2:=hq.h r (ZxQ hr);have h3:q.run k=r:=by simp[Qu.run,hr]
  rw[Qu.Zwa (by omega),ZxU,List.length_replicate,h3];omega
theorem Qu.ZwI {q:Qu}:q.ZvB q.rs.length=q.Zwd:=by
 unfold Qu.ZvB Qu.Zwd;rw[ZxW (by simp)]
def ZjB (q:Qu):Option (List (List Int))→AV→List (Site×Box)→Prop
 |none,x,B=>x=.pv (.tup [.nilp,.bool false])∧B=[]
 |some p,x,B=>x=.tup [.ptr (.ret 0) 0,.pv (.bool true)]∧B=[(.ret 0,.cells [.pv (.lst false 1 (q.ms.map rgsP)),.pv (.lst false 3 (q.rs.map Rq.pv)),.vec (.ret 1) 4 0 p.length]),(.ret 1,.arr 88 4 (plP p))]
def layS (q:Qu)(p:List (List Int))(left:List Nat):AS:=⟨[(4,.ptr (.loc 10 0) 0),(5,.vec (.loc 25 0) 1 0 left.length)],[(.loc 25 0,.arr 3 1 (natV left)),(.loc 10 0,.cells [.pv (.lst false 1 (q.ms.map rgsP)),.pv (.lst false 3 (q.rs.map Rq.pv)),.vec (.loc 43 0) 4 0 p.length]),(.loc 43 0,.arr 88 4 (plP p))]⟩
theorem lay_c {F:Nat}(hF:407<F)(q:Qu)(hq:q.ok):Zai Tryz.prog 28 [.pv q.pv] [] (ZjB q (q.ZwE F)):=by
 have hqr:=hq.r;refine cE L28 ?_;obtain⟨RES,hRES⟩:∃z,z=q.ZwE F:=⟨_,rfl⟩;rw[←hRES];generalize hR:ZjB q RES=R;simp[-getElem?_pos,L28,Qu.pv];refine Zaf (fun n τ=>∃k:Nat,k≤q.rs.length∧n=q.rs.length-k∧τ=⟨[(4,.ptr (.loc 10 0) 0),(5,.vec (.loc 25 0) 1 0 (q.ZvB k).length),(12,.pv (.lst false 3 (q.rs.map Rq.pv))),(13,.pv (.int .i64 q.rs.length)),(14,.pv (.int .i64 k))],[(.loc 25 0,.arr 3 1 (natV (q.ZvB k))),(.loc 10 0,.cells [.pv (.lst false 1 (q.ms.map rgsP)),.pv (.lst false 3 (q.rs.map Rq.pv)),.pv (.emp (some true))])]⟩)
  ⟨q.rs.length,⟨[(4,.ptr (.loc 10 0) 0),(5,.vec (.loc 25 0) 1 0 0),(12,.pv (.lst false 3 (q.rs.map Rq.pv))),(13,.pv (.int .i64 q.rs.length)),(14,.pv (.int .i64 0))],[(.loc 25 0,.arr 3 1 []),(.loc 10 0,.cells [.pv (.lst false 1 (q.ms.map rgsP)),.pv (.lst false 3 (q.rs.map Rq.pv)),.pv (.emp (some true))])]⟩,Sub.trans' (Sub.mk (by simp[AS.vecT]) (by simp[AS.vecT])) (vecT 25 3 1 5 rfl (by decide)),0,Zx0 _,rfl,by simp[Qu.ZvB,natV]⟩ ?_
 rintro J hJ n τ ⟨k,hk,rfl,rfl⟩;have hul:=Qu.Zwm hq k hk;by_cases hlt:k<q.rs.length
 ·obtain⟨r,hr⟩:∃r,q.rs[k]?=some r:=⟨q.rs[k],ZxL hlt⟩;have hrun:q.run k=r:=by simp[Qu.run,hr]
  have hh:=hq.h r (ZxQ hr);have hg:(q.rs.map Rq.pv)[k]?=some (.agg [.int .i64 r.hours,.int .i64 r.ready,.lst false 1 (r.on.map PV.bool)]):=by rw[ZxM,hr];rfl
  have hw:=wrapS (k:=k) (by omega);have hmeas:q.rs.length-(k+1)<q.rs.length-k:=by omega
  have hround:=hJ _ _ ⟨k+1,hlt,rfl,rfl⟩;have hnx:=Qu.Zwa hlt;rw[hrun]at hnx;obtain⟨c,hc⟩:∃c:Nat,r.hours=c:=⟨r.hours.toNat,by omega⟩;rw[hc]at hnx hg;rw[Int.toNat_natCast]at hnx;have hrep:=Zpw k c (by omega);have hln:(natV (q.ZvB k)).length=(q.ZvB k).length:=Zhn;have hs6:(q.ZvB k).length+c≤1000000:=by omega
  have hnv:natV (q.ZvB k++List.replicate c k)=natV (q.ZvB k)++List.replicate c (.int .i64 k):=by simp[natV]
  clear hJ hRES;generalize q.ZvB (k+1)=U2 at *;subst hnx;generalize q.ZvB k=U1 at *;generalize hTV:natV U1=TV at *;simp[-getElem?_pos,-List.getElem?_map,hlt,hg];refine .inl (cP [.loc 21 0] [.lst false 1 [.int .i64 k],.int .i64 c] rfl ?_ hrep ?_)
  ·simp[frzsL]
  simp[-getElem?_pos,-List.getElem?_map,frzsL,nble,nblt,hs6,hln,hw,hTV];refine⟨_,_,hmeas,Sub.mk ?_ ?_,hround⟩
  ·simp
  ·simp[hnv,hTV]
 ·have he:k=q.rs.length:=by omega
  subst he;rw[Qu.ZwI]at hul ⊢;clear hJ;have hu:=units_lt (q:=q);have hRES':layM F q 41 [] q.Zwd=RES:=hRES.symm;clear hRES;generalize q.Zwd=U at *;simp[-getElem?_pos,-List.getElem?_map];refine Zaf (fun n τ=>∃(p:List (List Int)) (left:List Nat),PW q p∧left.length≤1000∧(∀r∈left,r<q.rs.length)∧n+p.length=41∧layM F q n p left=RES∧τ=layS q p left)
   ⟨41,layS q [] U,Sub.trans' (Sub.mk (by simp[AS.vecC]) (by simp[AS.vecC,plP])) (vecC 43 88 4 (s:=.loc 10 0) (cs:=[.pv (.lst false 1 (q.ms.map rgsP)),.pv (.lst false 3 (q.rs.map Rq.pv)),.pv (.emp (some true))]) 2 rfl rfl (by decide)),[],U,PW.nil,by omega,hu,rfl,hRES',rfl⟩ ?_
  clear hRES' hu hul;rintro J hJ n τ ⟨p,left,hp,hll,hin,hn,hres,rfl⟩;have hpl:=hp.l;cases left with
  |nil=>
   have hres':RES=some p:=by rw[←hres];cases n<;>rfl
   subst hres';simp[-getElem?_pos,-List.getElem?_map,layS];refine⟨[.loc 10 0,.loc 43 0],?_⟩;simp;rw[←hR];simp[ZjB]
  |cons r0 rest=>
   obtain⟨n',rfl⟩:∃n',n=n'+1:=⟨n-1,by omega⟩;have hL:layM F q (n'+1) p (r0::rest)=if p.length=40 then none else layM F q n' (delM F q (p++[idle4]) (r0::rest)).1 (delM F q (p++[idle4]) (r0::rest)).2:=rfl;rw[hL]at hres;clear hL;by_cases h40:p.length=40
   ·rw[if_pos h40]at hres;subst hres;simp[-getElem?_pos,-List.getElem?_map,layS,h40];refine⟨[],?_⟩;simp;rw[←hR];exact⟨rfl,rfl⟩
   ·rw[if_neg h40]at hres;have h40':¬((p.length:Int)=40):=by omega
    have hp1:=hp.more (q:=q) (by omega);have hdel:=ZqA hF q hq (p++[idle4]) hp1 (r0::rest) hll hin;obtain⟨k1,k2,k3,k4⟩:=ZhI (F:=F) hq (r0::rest) (p++[idle4]) hp1 hin;have hp6:p.length+1≤1000000:=by omega
    have hpv:plP (p++[idle4])=plP p++[.agg [.int .i64 (-1),.int .i64 (-1),.int .i64 (-1),.int .i64 (-1)]]:=by simp[plP,rowP,idle4]
    have hpln:(plP p).length=p.length:=by simp[plP]
    have hround:=hJ n' _ ⟨(delM F q (p++[idle4]) (r0::rest)).1,(delM F q (p++[idle4]) (r0::rest)).2,k1,by omega,fun r h=>hin r (k3 r h),by rw[k2];simp;omega,hres,rfl⟩;clear hJ hres k1 k2 k3 k4;generalize delM F q (p++[idle4]) (r0::rest)=D at *;obtain⟨p2,K⟩:=D;simp only at hround hdel;simp[-getElem?_pos,-List.getElem?_map,layS,h40,h40'];refine cQ [] [] Zuw ?_;simp[-getElem?_pos,-List.getElem?_map,frzsL,nble,nblt,hp6,hpln];refine Zac (as':=[.vec (.par 0) 1 0 (r0::rest).length,delF]) (B:=laid 0 (delB q (p++[idle4]) (r0::rest))) (fs:=[]) (cs:=[]) 49 [.loc 25 0,.loc 10 0,.loc 43 0] ?_ rfl rfl ?_ ?_ ?_ hdel ?_
    ·rfl
    ·simp[delB,layB,laid,hpv]
    ·rfl
    ·simp[delF]
    rintro x B0 ⟨rfl,X,hX,rfl⟩;refine⟨rfl,by simp[delB,layB,laid],?_⟩;have hXK:(natV X).take K.length=natV K:=by rw[natV,natV,←List.map_take,hX]
    simp[-getElem?_pos,-List.getElem?_map,delB,layB,laid];refine⟨_,_,Nat.lt_succ_self n',Sub.trans' (Sub.mk ?_ ?_) (cutW (.loc 25 0) (e:=3) (n:=1) (xs:=natV X) K.length (natV K) rfl hXK),hround⟩
    ·simp
    ·simp
end
section
attribute [local simp] retFz frzL AS.frz AV.frz AV.frzL Box.frz AS.tidy AS.ZvF
def Qu.ZvG (q:Qu)(p:List (List Int)):List (List Int):=p.map (·.take q.ms.length)
def Qu.ZvS (F:Nat)(q:Qu):PV:=if q.check≠0 then .tup [planP [],.int .i64 0,.int .i64 q.check]else match q.ZwE F with
 |none=>.tup [planP [],.int .i64 0,.int .i64 9]
 |some p=>.tup [planP (q.ZvG p),.int .i64 p.length,.int .i64 0]
theorem Zlj {m:Mem}{v:Value}{a b:PV}(h:RdP m v (.tup [.emp (some true),a,b])):RdP m v (.tup [planP [],a,b]):=by
 refine Zmz ?_ ?_ h
 ·rfl
 intro j c c' d h1 h2 hd
 match j with
 |0=>simp at h1 h2;subst h1 h2;exact Zbm hd
 |1=>simp at h1 h2;subst h1 h2;exact hd
 |2=>simp at h1 h2;subst h1 h2;exact hd
 |j+3=>simp at h1
theorem earliest_c {F:Nat}(hF:407<F)(q:Qu)(h1:q.ms.length≤1000000)(h2:q.rs.length≤1000000)(h3:∀l∈q.ms,l.length≤1000000):Gives Tryz.prog 12 [q.pv] (q.ZvS F):=by
 refine Zai.ZvA ?_;obtain⟨OUT,hOUT⟩:∃z,z=q.ZvS F:=⟨_,rfl⟩;rw[←hOUT];refine cFR [.loc 38 0] L12 ?_;intro R hR;simp[-getElem?_pos,L12,Qu.pv];refine cG [q.pv] (ZdB q h1 h2 h3) ?_;by_cases hc:q.check=0
 ·have hq:=Qu.Zxa hc;have hqm:=hq.m;have hlay:=lay_c hF q hq;have hO:OUT=match q.ZwE F with
   |none=>.tup [planP [],.int .i64 0,.int .i64 9]
   |some p=>.tup [planP (q.ZvG p),.int .i64 p.length,.int .i64 0]:=by rw[hOUT];unfold Qu.ZvS;rw[if_neg (by simpa using hc)]
  have hPW:∀p,q.ZwE F=some p→PW q p:=fun p hp=>layM_PW hq _ _ _ PW.nil (units_lt (q:=q)) p hp
  clear hOUT;generalize q.ZwE F=LAY at *;simp[-getElem?_pos,hc];refine cL [.pv q.pv] [] 17 [] rfl hlay ?_
  intro x B hx;cases LAY with
  |none=>
   obtain⟨rfl,rfl⟩:=hx;refine⟨rfl,by simp,?_⟩;simp[-getElem?_pos];rw[←hR];refine⟨_,rfl,rfl,fun m v h=>?_⟩;rw[hO];exact Zlj h
  |some p=>
   obtain⟨rfl,rfl⟩:=hx;refine⟨rfl,by simp,?_⟩;have hpw:=hPW p rfl;have hpl:=hpw.l;simp[-getElem?_pos];refine Zaf (fun n τ=>∃k:Nat,k≤p.length∧n=p.length-k∧τ=⟨[(1,.ptr (.loc 1 0) 0),(2,.vec (.loc 38 0) 1 0 k),(25,.vec (.loc 17 1) 4 0 p.length),(26,.pv (.int .i64 p.length)),(27,.pv (.int .i64 k))],[(.loc 38 0,.arr 26 1 ((q.ZvG p).take k |>.map intsP)),(.loc 1 0,.cells q.cells),(.loc 17 1,.arr 88 4 (plP p))]⟩)
    ⟨p.length,⟨[(1,.ptr (.loc 1 0) 0),(2,.vec (.loc 38 0) 1 0 0),(25,.vec (.loc 17 1) 4 0 p.length),(26,.pv (.int .i64 p.length)),(27,.pv (.int .i64 0))],[(.loc 38 0,.arr 26 1 []),(.loc 1 0,.cells q.cells),(.loc 17 1,.arr 88 4 (plP p))]⟩,Sub.trans' (Sub.mk (by simp[AS.vecT]) (by simp[AS.vecT,Qu.cells])) (vecT 38 26 1 2 rfl (by decide)),0,Zx0 _,rfl,by simp⟩ ?_
   rintro J hJ n τ ⟨k,hk,rfl,rfl⟩;by_cases hlt:k<p.length
   ·obtain⟨l,hl⟩:∃l,p[k]?=some l:=⟨p[k],ZxL hlt⟩;have h4:=hpw.f l (ZxQ hl);have hg:(plP p)[k]?=some (.agg (l.map (PV.int .i64))):=by rw[plP,ZxM,hl];rfl
    have hcl:(q.ZvG p)[k]?=some (l.take q.ms.length):=by rw[Qu.ZvG,ZxM,hl];rfl
    have hw:=wrapS (k:=k) (by omega);have hmeas:p.length-(k+1)<p.length-k:=by omega
    have hround:=hJ _ _ ⟨k+1,hlt,rfl,rfl⟩;have htk:((q.ZvG p).take (k+1)).map intsP=((q.ZvG p).take k).map intsP++[intsP (l.take q.ms.length)]:=by rw[ZbX hcl];simp
    have hk6:k+1≤1000000:=by omega
    have hk5:k≤999999:=by omega
    have htl:(((q.ZvG p).take k).map intsP).length=k:=by simp[Qu.ZvG];omega
    have hcn:=ZqL (l.take q.ms.length) (by rw[ZxT];omega);have hpn:(plP p).length=p.length:=by simp[plP]
    match l,h4 with
    |[a,b,c,d],_=>
    have hri:(([a,b,c,d]:List Int).map (PV.int .i64)).take q.ms.length=(([a,b,c,d]:List Int).take q.ms.length).map intP:=by rw[←List.map_take];rfl
    simp only[ZxZ,List.map_nil]at hri hg;clear hJ hPW hlay;generalize hTL:((q.ZvG p).take k).map intsP=TL at *;generalize hRW:([a,b,c,d]:List Int).take q.ms.length=RW at *;simp[-getElem?_pos,-List.getElem?_map,-List.map_take,Qu.cells,hlt,hg,nblt,nble,hqm,hri,hTL];refine .inl (cP [] [intsP RW] rfl ?_ hcn ?_)
    ·simp[frzsL,intsP]
    simp[-getElem?_pos,-List.getElem?_map,-List.map_take,frzsL,nblt,nble,hk6,hk5,htl,hw,intsP];refine⟨_,_,hmeas,Sub.mk ?_ ?_,hround⟩
    ·simp
    ·simp[-List.map_take,htk,Qu.cells,intsP]
   ·have he:k=p.length:=by omega
    subst he;have hmm:((q.ZvG p).take p.length).map intsP=(q.ZvG p).map intsP:=by rw[ZxW (by simp[Qu.ZvG])]
    have hm2:((q.ZvG p).map intsP).take p.length=(q.ZvG p).map intsP:=ZxW (by simp[Qu.ZvG]);have hcpl:(q.ZvG p).length=p.length:=by simp[Qu.ZvG]
    simp[-getElem?_pos,-List.getElem?_map,-List.map_take,hmm,hm2,hcpl];rw[←hR];refine⟨_,rfl,rfl,fun m v h=>?_⟩;rw[hO];exact h
 ·have hO:OUT=.tup [planP [],.int .i64 0,.int .i64 q.check]:=by rw[hOUT];unfold Qu.ZvS;rw[if_pos (by simpa using hc)]
  simp[-getElem?_pos,hc];rw[←hR];refine⟨_,rfl,rfl,fun m v h=>?_⟩;rw[hO];exact Zlj h
end
end
end Go.Proofs.YtfpmaennjlggeaaGreatDoor.Qn
namespace Go.Proofs.YtfpmaennjlggeaaGreatDoor
open Go.RowKit
section
attribute [local simp] AS.exp expG Box.ren AV.map AV.Zu9 Zau noRet Site.Zu6 Box.Zu3 AV.Zu3 AV.Zu4 retB dropL AS.Zvd renL outG outOk Zas inG fnOf lookA Zyc
attribute [local simp] Box.Zu0 Site.Zu1
section
attribute [local simp] frzsL retOk renB toLoc
def ZaJ (rs:List Qn.Rq):Qn.Qu:=⟨[[⟨10,13⟩],[]],rs⟩
def runsP (rs:List Qn.Rq):PV:=.lst false 3 (rs.map Qn.Rq.pv)
def earlE (F:Nat)(q:Qn.Qu):Int:=if q.check≠0 then q.check else match q.ZwE F with
 |none=>9
 |some _=>0
theorem Zoq (F:Nat)(q:Qn.Qu):∃x y,q.ZvS F=.tup [x,.int .i64 y,.int .i64 (earlE F q)]:=by
 unfold Qn.Qu.ZvS earlE;split
 ·exact⟨_,_,rfl⟩
 ·cases q.ZwE F with
  |none=>exact⟨_,_,rfl⟩
  |some p=>exact⟨_,_,rfl⟩
def newR (h r o:Int):Qn.Rq:=⟨h,r,[!decide (o=2),!decide (o=1)]⟩
def runM (F:Nat)(rs:List Qn.Rq)(h r o:Int):Except Int (List Qn.Rq):=
 if(decide (1≤h)&&decide (h≤40))=true∧(decide (0≤r)&&decide (r≤40))=true∧(decide (1≤o)&&decide (o≤3))=true then
  (if rs.length<6 then(if earlE F (ZaJ (rs++[newR h r o]))=0 then .ok (rs++[newR h r o])else .error 9)else .error 3)
 else .error 2
def rnQ (r:Except Int (List Qn.Rq))(ct bd ls ts:PV)(a b c d e:PV):Prop:=∃rs',r=.ok rs'∧a=ct∧b=bd∧c=ls∧d=ts∧e=runsP rs'
theorem run_x {F:Nat}(hF:407<F)(rs:List Qn.Rq)(ct bd ls ts:PV)(h r o:Int)(hr:rs.length≤900):
  ZaT Tryz.prog 192 [.ptr (.par 0) 0,.pv (.lst false 1 [iP h,iP r,iP o])] [(.par 0,wkX ct bd ls ts (runsP rs))] (okR (rnQ (runM F rs h r o) ct bd ls ts)) (noR (fun e=>runM F rs h r o=.error e)):=by
 have w1:=Zbo h 1 40;have w2:=Zbo r 0 40;have w3:=Zbo o 1 3;refine cX L192 ?_;generalize hE:(fun e=>runM F rs h r o=.error e)=E;generalize hQ:rnQ (runM F rs h r o) ct bd ls ts=Q;unfold runM at hE hQ;generalize(decide (1≤h)&&decide (h≤40))=c1 at w1 hE hQ;generalize(decide (0≤r)&&decide (r≤40))=c2 at w2 hE hQ;generalize(decide (1≤o)&&decide (o≤3))=c3 at w3 hE hQ;show awpX _ (.seq _ (.seq _ (.seq _ _))) _ _ _;by_cases hc:¬(c1=true∧c2=true∧c3=true)
 ·have hE2:E 2:=by rw[←hE,if_neg hc]
  refine Zap [_,_,_,_,_,_,_,_,_,_,_,_,_,_,_,_] ?_;simp[-getElem?_pos,hold,iP];refine cG [.int .i64 h,.int .i64 1,.int .i64 40] w1 ?_;cases c1 with
  |false=>
   simp[-getElem?_pos,hold];exact pF 2 hE2
  |true=>
  simp[-getElem?_pos,hold];refine cG [.int .i64 r,.int .i64 0,.int .i64 40] w2 ?_;cases c2 with
  |false=>
   simp[-getElem?_pos,hold];exact pF 2 hE2
  |true=>
  simp[-getElem?_pos,hold];refine cG [.int .i64 o,.int .i64 1,.int .i64 3] w3 ?_;cases c3 with
  |false=>
   simp[-getElem?_pos,hold];exact pF 2 hE2
  |true=>exact absurd ⟨rfl,rfl,rfl⟩ hc
 have hc:=Decidable.not_not.1 hc;rw[if_pos hc]at hE hQ;obtain⟨rfl,rfl,rfl⟩:=hc;refine Zan ?_;simp[-getElem?_pos,hold,iP];refine cG [.int .i64 h,.int .i64 1,.int .i64 40] w1 ?_;simp[-getElem?_pos,hold];refine cG [.int .i64 r,.int .i64 0,.int .i64 40] w2 ?_;simp[-getElem?_pos,hold];refine cG [.int .i64 o,.int .i64 1,.int .i64 3] w3 ?_;simp[-getElem?_pos,hold];refine cG [.bool true,.int .i64 2] (ask_t 2) ?_;simp[-getElem?_pos,hold];by_cases h6:¬rs.length<6
 ·rw[if_neg h6]at hE;have hE3:E 3:=by rw[←hE]
  have h6i:¬(rs.length:Int)<6:=by omega
  refine Zap [_,_,_,_,_,_,_] ?_;simp[-getElem?_pos,hold,wkX,runsP,h6i];exact pF 3 hE3
 have h6:=Decidable.not_not.1 h6;rw[if_pos h6]at hE hQ;have h6i:(rs.length:Int)<6:=by omega
 refine Zan ?_;simp[-getElem?_pos,hold,wkX,runsP,h6i];refine cG [.bool true,.int .i64 3] (ask_t 3) ?_;simp[-getElem?_pos,hold];refine Zan ?_;simp[-getElem?_pos,hold,setAt,nble];have hwr:=ZoM (rs.map Qn.Rq.pv) h r [.bool (!decide (o=2)),.bool (!decide (o=1))] (.lst false 1 [.bool (!decide (o=2)),.bool (!decide (o=1))]) rfl (by rw[ZxS];omega);refine .inl (cP [.loc 52 0] [.lst false 3 (rs.map Qn.Rq.pv),.agg [.int .i64 h,.int .i64 r,.lst false 1 [.bool (!decide (o=2)),.bool (!decide (o=1))]]] (by simp[AS.frz,AV.frz,AV.frzL,Box.frz,AS.tidy,AS.ZvF]) (by simp[AS.frz,AV.frz,AV.frzL,Box.frz,AS.tidy,AS.ZvF]) hwr ?_);have hap:rs.map Qn.Rq.pv++[.agg [.int .i64 h,.int .i64 r,.lst false 1 [.bool (!decide (o=2)),.bool (!decide (o=1))]]]=(rs++[newR h r o]).map Qn.Rq.pv:=by rw[Zyb];rfl
 rw[hap];have hLl:(rs++[newR h r o]).length≤7:=by rw[ZxU];simp;omega
 generalize rs++[newR h r o]=L at hE hQ hLl ⊢;clear hap hwr;simp[-getElem?_pos,hold,AS.frz,AV.frz,AV.frzL,Box.frz,AS.tidy,AS.ZvF];have hqc:=Zng (L.map Qn.Rq.pv) ct bd ls ts;have hec:=Qn.earliest_c hF (ZaJ L) (show(2:Nat)≤1000000 by decide) (show L.length≤1000000 by omega) (fun l hl=>by
  simp[ZaJ]at hl;rcases hl with rfl|rfl<;>decide)
 obtain⟨ex,ey,hee⟩:=Zoq F (ZaJ L);rw[hee]at hec;generalize earlE F (ZaJ L)=er at hE hQ hec;clear hee;refine Zan ?_;simp[-getElem?_pos,hold];refine cM [.ptr (.par 0) 0] [(.par 0,wkX ct bd ls ts (.lst false 3 (L.map Qn.Rq.pv)))] 60 [.par 0] (by simp[wkX]) hqc (by simp[wkX,ZgC]) ?_;simp[-getElem?_pos,hold,wkX];refine .inl (cQ [] [(ZaJ L).pv] hec ?_);simp[-getElem?_pos,hold];by_cases h0:¬er=0
 ·rw[if_neg h0]at hE;have hE9:E 9:=by rw[←hE]
  refine Zeb [_,_] ?_;simp[-getElem?_pos,hold,h0];exact pF 9 hE9
 have h0:=Decidable.not_not.1 h0;rw[if_pos h0]at hQ;refine ZbA ?_;simp[-getElem?_pos,hold,h0];refine cG [.bool true,.int .i64 9] (ask_t 9) ?_;simp[-getElem?_pos,hold];refine retW (a:=ct) (b:=bd) (c:=ls) (d:=ts) (e:=runsP L) [] ?_ ?_
 ·simp[frzL,wkX,runsP]
 ·rw[←hQ];exact⟨_,rfl,rfl,rfl,rfl,rfl,rfl⟩
end
end
section
section
attribute [local simp] Box.Zu0 Site.Zu1
theorem Zn2 (l:List PV)(g:FuncId)(fs cs:List PV)(q:PV→Bool)(hq:∀x∈l,Gives Tryz.prog g (fs++[x]++cs) (.bool (q x)))(hl:l.length≤1000000)(hc:∀x∈l,∃s,x=.str s):
  Gives Tryz.prog 159 [.lst false 1 l,.fn g fs cs] (.int .i64 (match l.findIdx? q with|some i=>i|none=>-1)):=by
 refine cS L159 ?_;simp[L159];refine Zaf (fun n τ=>∃k:Nat,k≤l.length∧n=l.length-k∧(∀j x,j<k→l[j]?=some x→q x=false)∧τ=⟨[(0,.pv (.lst false 1 l)),(1,.pv (.fn g fs cs)),(7,.pv (.int .i64 l.length)),(8,.pv (.int .i64 k))],[]⟩)
  ⟨l.length,_,Sub.mk (by simp) (by simp),0,by omega,rfl,(fun j x hj=>by omega),rfl⟩ ?_
 rintro J hJ n τ ⟨k,hk,rfl,hinv,rfl⟩;by_cases hlt:k<l.length
 ·have hx:l[k]?=some l[k]:=ZxL hlt;have hm:=Zyh hlt;generalize l[k]=x at hx hm;obtain⟨s,rfl⟩:=hc x hm;have hg:=hq _ hm;have hw:IntKind.i64.wrap ((k:Int)+1)=((k+1:Nat):Int):=by rw[wrap64 (by omega)];omega
  simp[-getElem?_pos,hlt,hx,nblt];refine Zaa (k:=0) rfl rfl hg rfl ?_;cases hb:q _
  ·simp[hw];exact⟨_,_,(by omega:l.length-(k+1)<l.length-k),Sub.mk (by simp) (by simp),hJ _ _ ⟨k+1,by omega,rfl,fun j x hj hjx=>by
    rcases ZyD.1 hj with h|h
    ·exact hinv j x h hjx
    ·subst h;rw[hx]at hjx;cases hjx;exact hb,rfl⟩⟩
  ·simp[ZcU hx hb hinv]
 ·have he:k=l.length:=by omega
  subst he;simp[ZbE hinv]
theorem ZtP (l:List PV)(g:FuncId)(fs cs:List PV)(q:PV→Bool)(hq:∀x∈l,Gives Tryz.prog g (fs++[x]++cs) (.bool (q x)))(hl:l.length≤1000000)(hc:∀x∈l,∃s,x=.str s):
  Gives Tryz.prog 118 [.lst false 1 l,.fn g fs cs] (.bool (l.any q)):=by
 refine cS L118 ?_;simp[L118];refine Zaa (k:=0) rfl rfl (Zn2 l g fs cs q hq hl hc) rfl ?_;cases hf:l.findIdx? q with
 |none=>
  have:l.any q=false:=by rw[List.any_eq_false];intro x hx;simpa using Zyz.1 hf x hx
  simp[this]
 |some i=>
  have:l.any q=true:=by
   obtain⟨hi,h1,_⟩:=Zyy.1 hf;exact Zya.2 ⟨_,Zyh hi,h1⟩
  simp[this]
theorem Zrm (x:PV)(g:FuncId)(fs cs:List PV)(b:Bool)(hx:∃s,x=.str s)(hq:Gives Tryz.prog g (fs++[x]++cs) (.bool b)):
  Gives Tryz.prog 119 [x,.ref [.fn g fs cs]] (.bool (!b)):=by
 obtain⟨s,rfl⟩:=hx;refine cS L119 ?_;simp[L119];refine Zaa (k:=0) rfl rfl hq rfl ?_;simp
theorem ZtT (l:List PV)(g:FuncId)(fs cs:List PV)(q:PV→Bool)(hq:∀x∈l,Gives Tryz.prog g (fs++[x]++cs) (.bool (q x)))(hl:l.length≤1000000)(hc:∀x∈l,∃s,x=.str s):
  Gives Tryz.prog 69 [.lst false 1 l,.fn g fs cs] (.bool (l.all q)):=by
 refine cS L69 ?_;simp[L69];refine Zaa (k:=4) rfl rfl (ZtP l 119 [] [.ref [.fn g fs cs]] (fun x=>!q x) (fun x hx=>Zrm x g fs cs (q x) (hc x hx) (hq x hx)) hl hc) rfl ?_;simp[List.not_any_eq_all_not]
end
attribute [local simp] AS.exp expG Box.ren AV.map AV.Zu9 Zau noRet Site.Zu6 Box.Zu3 AV.Zu3 AV.Zu4 retB dropL AS.Zvd renL outG outOk Zas inG fnOf lookA Zyc
attribute [local simp] Box.Zu0 Site.Zu1
attribute [local simp] frzsL retOk renB toLoc
theorem Zgi (l:List Ct)(bad:List Int)(ls:PV)(ts:List Tt)(rn:PV)(x:Lt)(hl:l.length≤1000)(hb:bad.length≤1000)(ht:ts.length≤900)(h4:4≤x.pieces)(h30:x.pieces≤30)(hfit:spFit l bad ts):
  Zai Tryz.prog 46 [.ptr (.par 0) 0,.pv x.pv] [(.par 0,wkX (ctsP l) (bdsP bad) ls (ttsP ts) rn)] (fun r B=>r=.pv (.bool (x.passed&&!decide (verdL l bad ts x=1)))∧B=[(.par 0,wkX (ctsP l) (bdsP bad) ls (ttsP ts) rn)]):=by
 have hvc:=ZdE l bad ls ts rn x hl hb ht h4 h30 hfit;have hvd:verdM (stM l bad) (gdM l bad x.limit) x.num ts []=verdL l bad ts x:=rfl;rw[hvd]at hvc;generalize verdL l bad ts x=v at hvc ⊢;rw[Lt.pv]at hvc;refine cB [.par 0] L46 ?_;cases hp:x.passed with
 |false=>simp[-getElem?_pos,L46,wkX,Lt.pv,hp]
 |true=>
  rw[hp]at hvc;simp[-getElem?_pos,L46,wkX,Lt.pv,hp];refine cM [.ptr (.par 0) 0,.pv (.agg [.int .i64 x.num,.int .i64 x.pieces,.int .i64 x.limit,.bool true])] [(.par 0,wkX (ctsP l) (bdsP bad) ls (ttsP ts) rn)] 10 [.par 0] (by simp[wkX]) hvc (by simp[wkX]) ?_;simp[-getElem?_pos,wkX,bdsP]
def saidB (v:Int):ByteArray:=if v=1 then⟨#[97,99,99,101,112,116,101,100]⟩else if v=2 then⟨#[114,101,106,101,99,116,101,100]⟩else⟨#[111,112,101,110]⟩
theorem Zry (v:Int):Gives Tryz.prog 95 [.int .u8 v] (.str (saidB v)):=by
 refine cS L95 ?_;unfold saidB;by_cases h1:v=1
 ·simp[-getElem?_pos,L95,h1]
 ·by_cases h2:v=2
  ·simp[-getElem?_pos,L95,h2]
  ·simp[-getElem?_pos,L95,h1,h2]
theorem ZsC (s:ByteArray):Gives Tryz.prog 68 [.str s] (.bool (decide (s.size≤200))):=by
 refine cS L68 ?_;by_cases h:s.size≤200
 ·have h':(s.size:Int)≤200:=by omega
  simp[-getElem?_pos,L68,h,h']
 ·have h':¬(s.size:Int)≤200:=by omega
  simp[-getElem?_pos,L68,h,h']
def strsP (l:List ByteArray):PV:=.lst false 1 (l.map .str)
def fitB (l:List ByteArray):Bool:=l.all fun s=>decide (s.size≤200)
def Za3 (l:List ByteArray):Int:=if 50<l.length then 3 else if fitB l=true then 0 else 3
theorem Zrq (l:List ByteArray)(hl:l.length≤1000000):Gives Tryz.prog 69 [strsP l,.fn 68 [] []] (.bool (fitB l)):=by
 have h:=ZtT (l.map .str) 68 [] [] (fun x=>match x with
  |.str s=>decide (s.size≤200)
  |_=>false) (fun x hx=>by
   obtain⟨s,_,rfl⟩:=ZxY.1 hx;exact ZsC s) (by rw[ZxS];exact hl) (fun x hx=>by
   obtain⟨s,_,rfl⟩:=ZxY.1 hx;exact⟨s,rfl⟩)
 rw[List.all_map]at h;exact h
theorem ZdB (l:List ByteArray)(hl:l.length≤1000000):Gives Tryz.prog 30 [strsP l] (.int .i64 (Za3 l)):=by
 have ha:=Zrq l hl;refine cS L30 ?_;unfold Za3;by_cases h:50<l.length
 ·have h':(50:Int)<(l.length:Int):=by omega
  simp[-getElem?_pos,L30,strsP,h,h']
 ·have h':¬(50:Int)<(l.length:Int):=by omega
  unfold strsP at ha;cases hf:fitB l with
  |true=>
   rw[hf]at ha;simp[-getElem?_pos,L30,strsP,h,h'];refine Zaa (k:=4) (fs:=[]) (xs:=[.lst false 1 (l.map .str),.fn 68 [] []]) (cs:=[]) rfl rfl ha rfl ?_;simp[-getElem?_pos]
  |false=>
   rw[hf]at ha;simp[-getElem?_pos,L30,strsP,h,h'];refine Zaa (k:=4) (fs:=[]) (xs:=[.lst false 1 (l.map .str),.fn 68 [] []]) (cs:=[]) rfl rfl ha rfl ?_;simp[-getElem?_pos]
end
section
attribute [local simp] AS.exp expG Box.ren AV.map AV.Zu9 Zau noRet Site.Zu6 Box.Zu3 AV.Zu3 AV.Zu4 retB dropL AS.Zvd renL outG outOk Zas inG fnOf lookA Zyc
attribute [local simp] Box.Zu0 Site.Zu1
section
def dg (n:Nat):Nat:=48+n%10
def dgS (many i:Int)(n:Nat)(c0 c1 c2 c3 c4:Nat):AS:=
 ⟨[(0,.pv (.int .i64 n)),(1,.pv (.int .i64 many)),(5,.ptr (.loc 5 0) 0),(6,.pv (.int .i64 i))],[(.loc 5 0,.cells [.pv (.int .u8 c0),.pv (.int .u8 c1),.pv (.int .u8 c2),.pv (.int .u8 c3),.pv (.int .u8 c4)])]⟩
attribute [local simp] wr0 wr1 wr2 wr3 wr4 wr5
theorem wrm1:IntKind.i64.wrap (-1) = -1:=by decide
theorem dq (n:Nat)(hn:n<1000000000000):IntKind.i64.wrap ((n:Int) / 10)=((n / 10:Nat):Int):=by rw[wrap64 (by omega)];omega
theorem dr (n:Nat):IntKind.u8.wrap (IntKind.i64.wrap (48+(n:Int).tmod 10))=((dg n:Nat):Int):=by
 have h:(n:Int).tmod 10=((n%10:Nat):Int):=by rw[Int.tmod_eq_emod_of_nonneg (by omega)];rfl
 rw[h,wrap64 (by omega),show IntKind.u8.wrap (48+((n%10:Nat):Int))=(48+((n%10:Nat):Int))%256 from rfl];unfold dg;omega
theorem ZiS (n:Nat)(hn:n<1000000):Gives Tryz.prog 150 [.int .i64 n,.int .i64 3] (.str ⟨#[.ofNat (dg (n / 10 / 10)),.ofNat (dg (n / 10)),.ofNat (dg n)]⟩):=by
 refine cS L150 ?_;simp[-getElem?_pos,L150];refine Zaf (fun m τ=>(m=3∧τ=dgS 3 2 n 0 0 0 0 0)∨(m=2∧τ=dgS 3 1 (n / 10) 0 0 (dg n) 0 0)∨(m=1∧τ=dgS 3 0 (n / 10 / 10) 0 (dg (n / 10)) (dg n) 0 0)∨(m=0∧τ=dgS 3 (-1) (n / 10 / 10 / 10) (dg (n / 10 / 10)) (dg (n / 10)) (dg n) 0 0)) ⟨3,dgS 3 2 n 0 0 0 0 0,Sub.mk (by simp[dgS]) (by simp[dgS]),.inl ⟨rfl,rfl⟩⟩ ?_;rintro J hJ m τ (⟨rfl,rfl⟩|⟨rfl,rfl⟩|⟨rfl,rfl⟩|⟨rfl,rfl⟩)
 ·have hj:=hJ 2 _ (.inr (.inl ⟨rfl,rfl⟩));have h1:=dq n (by omega);have h2:=dr n;simp[-getElem?_pos,dgS,setAt,nblt,nble,h1,h2];exact⟨_,_,by decide,Sub.mk (by simp[dgS]) (by simp[dgS]),hj⟩
 ·have hj:=hJ 1 _ (.inr (.inr (.inl ⟨rfl,rfl⟩)));have h1:=dq (n / 10) (by omega);have h2:=dr (n / 10);generalize n / 10=k at hj h1 h2 ⊢;simp[-getElem?_pos,dgS,setAt,nblt,nble,h1,h2];exact⟨_,_,by decide,Sub.mk (by simp[dgS]) (by simp[dgS]),hj⟩
 ·have hj:=hJ 0 _ (.inr (.inr (.inr ⟨rfl,rfl⟩)));have h1:=dq (n / 10 / 10) (by omega);have h2:=dr (n / 10 / 10);generalize n / 10 / 10=k at hj h1 h2 ⊢;simp[-getElem?_pos,dgS,setAt,nblt,nble,h1,h2,wrm1];exact⟨_,_,by decide,Sub.mk (by simp[dgS]) (by simp[dgS]),hj⟩
 ·simp[-getElem?_pos,dgS,setAt,nblt,nble,nI3,AS.frz,AV.frz,AV.frzL,Box.frz,Zc2,ZeN]
theorem Zow (n:Nat)(hn:n<1000000):Gives Tryz.prog 150 [.int .i64 n,.int .i64 5] (.str ⟨#[.ofNat (dg (n / 10 / 10 / 10 / 10)),.ofNat (dg (n / 10 / 10 / 10)),.ofNat (dg (n / 10 / 10)),.ofNat (dg (n / 10)),.ofNat (dg n)]⟩):=by
 refine cS L150 ?_;simp[-getElem?_pos,L150];refine Zaf (fun m τ=>(m=5∧τ=dgS 5 4 n 0 0 0 0 0)∨(m=4∧τ=dgS 5 3 (n / 10) 0 0 0 0 (dg n))∨(m=3∧τ=dgS 5 2 (n / 10 / 10) 0 0 0 (dg (n / 10)) (dg n))∨(m=2∧τ=dgS 5 1 (n / 10 / 10 / 10) 0 0 (dg (n / 10 / 10)) (dg (n / 10)) (dg n))∨(m=1∧τ=dgS 5 0 (n / 10 / 10 / 10 / 10) 0 (dg (n / 10 / 10 / 10)) (dg (n / 10 / 10)) (dg (n / 10)) (dg n))∨(m=0∧τ=dgS 5 (-1) (n / 10 / 10 / 10 / 10 / 10) (dg (n / 10 / 10 / 10 / 10)) (dg (n / 10 / 10 / 10)) (dg (n / 10 / 10)) (dg (n / 10)) (dg n))) ⟨5,dgS 5 4 n 0 0 0 0 0,Sub.mk (by simp[dgS]) (by simp[dgS]),.inl ⟨rfl,rfl⟩⟩ ?_;rintro J hJ m τ (⟨rfl,rfl⟩|⟨rfl,rfl⟩|⟨rfl,rfl⟩|⟨rfl,rfl⟩|⟨rfl,rfl⟩|⟨rfl,rfl⟩)
 ·have hj:=hJ 4 _ (.inr (.inl ⟨rfl,rfl⟩));have h1:=dq (n) (by omega);have h2:=dr (n);simp[-getElem?_pos,dgS,setAt,nblt,nble,h1,h2,nI3,nI4,wrm1];exact⟨_,_,by decide,Sub.mk (by simp[dgS]) (by simp[dgS]),hj⟩
 ·have hj:=hJ 3 _ (.inr (.inr (.inl ⟨rfl,rfl⟩)));have h1:=dq (n / 10) (by omega);have h2:=dr (n / 10);generalize n / 10=k at hj h1 h2 ⊢;simp[-getElem?_pos,dgS,setAt,nblt,nble,h1,h2,nI3,nI4,wrm1];exact⟨_,_,by decide,Sub.mk (by simp[dgS]) (by simp[dgS]),hj⟩
 ·have hj:=hJ 2 _ (.inr (.inr (.inr (.inl ⟨rfl,rfl⟩))));have h1:=dq (n / 10 / 10) (by omega);have h2:=dr (n / 10 / 10);generalize n / 10 / 10=k at hj h1 h2 ⊢;simp[-getElem?_pos,dgS,setAt,nblt,nble,h1,h2,nI3,nI4,wrm1];exact⟨_,_,by decide,Sub.mk (by simp[dgS]) (by simp[dgS]),hj⟩
 ·have hj:=hJ 1 _ (.inr (.inr (.inr (.inr (.inl ⟨rfl,rfl⟩)))));have h1:=dq (n / 10 / 10 / 10) (by omega);have h2:=dr (n / 10 / 10 / 10);generalize n / 10 / 10 / 10=k at hj h1 h2 ⊢;simp[-getElem?_pos,dgS,setAt,nblt,nble,h1,h2,nI3,nI4,wrm1];exact⟨_,_,by decide,Sub.mk (by simp[dgS]) (by simp[dgS]),hj⟩
 ·have hj:=hJ 0 _ (.inr (.inr (.inr (.inr (.inr (⟨rfl,rfl⟩))))));have h1:=dq (n / 10 / 10 / 10 / 10) (by omega);have h2:=dr (n / 10 / 10 / 10 / 10);generalize n / 10 / 10 / 10 / 10=k at hj h1 h2 ⊢;simp[-getElem?_pos,dgS,setAt,nblt,nble,h1,h2,nI3,nI4,wrm1];exact⟨_,_,by decide,Sub.mk (by simp[dgS]) (by simp[dgS]),hj⟩
 ·simp[-getElem?_pos,dgS,setAt,nblt,nble,nI5,AS.frz,AV.frz,AV.frzL,Box.frz,Zc2,ZeN]
end
section
def chkL:List UInt8→Nat→Nat
 |[],_=>0
 |b::r,j=>(j+1)*(b.toNat+1)+chkL r (j+1)
theorem ZiX {b:UInt8}:∀{l:List UInt8} {j:Nat},chkL (l++[b]) j=chkL l j+(j+l.length+1)*(b.toNat+1)
 |[],j=>by simp[chkL]
 |x::l,j=>by
  simp only[List.cons_append,chkL,Zyg];rw[ZiX (l:=l),show j+1+l.length+1=j+(l.length+1)+1 by omega];omega
theorem ZjW:∀{l:List UInt8} {j:Nat},chkL l j≤l.length*((j+l.length)*256)
 |[],j=>by simp[chkL]
 |x::l,j=>by
  have ih:=ZjW (l:=l) (j:=j+1);have hx:x.toNat+1≤256:=x.toNat_lt;simp only[chkL,Zyg];have h1:(j+1)*(x.toNat+1)≤(j+(l.length+1))*256:=Nat.mul_le_mul (by omega) hx;have h2:l.length*((j+1+l.length)*256)=l.length*((j+(l.length+1))*256):=by rw[show j+1+l.length=j+(l.length+1) by omega]
  have e:(l.length+1)*((j+(l.length+1))*256)=(j+(l.length+1))*256+l.length*((j+(l.length+1))*256):=by rw[Nat.succ_mul,Nat.add_comm]
  rw[e];exact Nat.add_le_add h1 (Zx5 ih (Nat.le_of_eq h2))
def chkB (s:ByteArray)(i:Nat):Nat:=11*(i+1)+chkL s.data.toList 0
def dig3 (n:Nat):ByteArray:=⟨#[.ofNat (dg (n / 10 / 10)),.ofNat (dg (n / 10)),.ofNat (dg n)]⟩
def dig5 (n:Nat):ByteArray:=⟨#[.ofNat (dg (n / 10 / 10 / 10 / 10)),.ofNat (dg (n / 10 / 10 / 10)),.ofNat (dg (n / 10 / 10)),.ofNat (dg (n / 10)),.ofNat (dg n)]⟩
def recB (s:ByteArray)(i:Nat):ByteArray:=⟨#[123]⟩++dig3 s.size++⟨#[58]⟩++dig3 (999-s.size)++⟨#[58]⟩++dig5 (chkB s i%99991)++⟨#[125]⟩++s++⟨#[10]⟩
def rcS (s:ByteArray)(i k:Nat):AS:=⟨[(0,.pv (.str s)),(5,.pv (.int .i64 ((11*(i+1)+chkL (s.data.toList.take k) 0:Nat):Int))),(12,.pv (.lst false 1 (ZaG s))),(13,.pv (.int .i64 s.size)),(14,.pv (.int .i64 (k:Int)))],[]⟩
theorem Zpy (s:ByteArray)(i:Nat)(hs:s.size≤999)(hi:i≤1000):Gives Tryz.prog 104 [.str s,.int .i64 i] (.str (recB s i)):=by
 refine cSR L104 ?_;intro R hR;have hsz:s.data.toList.length=s.size:=rfl;have hbl:(ZaG s).length=s.size:=by simp[ZaG]
 have hw0:IntKind.i64.wrap ((i:Int)+1)=(i:Int)+1:=wrap64 (by omega);have hw1:IntKind.i64.wrap (11*((i:Int)+1))=11*((i:Int)+1):=wrap64 (by omega);have hs6:s.size≤1000000:=by omega
 simp[-getElem?_pos,L104,hw0,hw1,hs6,hbl,nble];refine Zaf (fun m τ=>∃k:Nat,k≤s.size∧m=s.size-k∧τ=rcS s i k) ⟨s.size,rcS s i 0,Sub.mk (by simp[rcS,chkL]) (by simp[rcS]),0,Zx0 _,rfl,rfl⟩ ?_;rintro J hJ m τ ⟨k,hk,rfl,rfl⟩;by_cases hlt:k<s.size
 ·obtain⟨b,hx⟩:∃b,s.data.toList[k]?=some b:=⟨s.data.toList[k]'(by omega),ZxL _⟩;have hg:(ZaG s)[k]?=some (.int .u8 b.toNat):=by
   unfold ZaG;rw[ZxM,hx];rfl
  have hn:=hJ (s.size-(k+1)) _ ⟨k+1,hlt,rfl,rfl⟩;unfold rcS at hn;have htk:s.data.toList.take (k+1)=s.data.toList.take k++[b]:=by rw[Zx6,hx];rfl
  rw[htk,ZiX,ZxT,Nat.min_eq_left (by omega)]at hn;have hcl:=ZjW (l:=s.data.toList.take k) (j:=0);rw[ZxT,Nat.min_eq_left (by omega)]at hcl;have hb1:b.toNat+1≤256:=b.toNat_lt;have hkk:k*((0+k)*256)≤999*(999*256):=Nat.mul_le_mul (by omega) (by omega);have hpr:(0+k+1)*(b.toNat+1)≤1000*256:=Nat.mul_le_mul (by omega) hb1;unfold rcS;generalize chkL (s.data.toList.take k) 0=C at hn hcl ⊢;have hw2:=wrapK (k:=k) (by omega);have hw3:IntKind.i64.wrap ((b.toNat:Int)+1)=(b.toNat:Int)+1:=wrap64 (by omega);have hpe:((k:Int)+1)*((b.toNat:Int)+1)=(((0+k+1)*(b.toNat+1):Nat):Int):=by rw[Zyj];rfl
  have hwb:IntKind.i64.wrap (b.toNat:Int)=b.toNat:=wrap64 (by omega);generalize(0+k+1)*(b.toNat+1)=P at hn hpr hpe;have hw4:IntKind.i64.wrap (((k:Int)+1)*((b.toNat:Int)+1))=P:=by rw[hpe];exact wrap64 (by omega)
  have hw5:IntKind.i64.wrap (11*((i:Int)+1)+(C:Int)+(P:Int))=11*((i:Int)+1)+((C:Int)+(P:Int)):=by rw[wrap64 (by omega)];omega
  simp[-getElem?_pos,hlt,hg,nble,hw2,hw3,hw4,hw5,hwb];exact⟨_,_,(by omega:s.size-(k+1)<s.size-k),Sub.mk (by simp) (by simp),hn⟩
 ·have he:k=s.size:=by omega
  subst he;have hcl:=ZjW (l:=s.data.toList) (j:=0);rw[hsz]at hcl;have hkk:s.size*((0+s.size)*256)≤999*(999*256):=Nat.mul_le_mul (by omega) (by omega);unfold rcS;rw[ZxW (by omega)];have h1:Gives Tryz.prog 150 [.int .i64 s.size,.int .i64 3] (.str (dig3 s.size)):=ZiS s.size (by omega);have h2:Gives Tryz.prog 150 [.int .i64 ((999-s.size:Nat):Int),.int .i64 3] (.str (dig3 (999-s.size))):=ZiS (999-s.size) (by omega);have h3:Gives Tryz.prog 150 [.int .i64 ((chkB s i%99991:Nat):Int),.int .i64 5] (.str (dig5 (chkB s i%99991))):=Zow (chkB s i%99991) (by omega);have z1:(dig3 s.size).size=3:=rfl;have z2:(dig3 (999-s.size)).size=3:=rfl;have z3:(dig5 (chkB s i%99991)).size=5:=rfl;have hrec:recB s i=⟨#[123]⟩++dig3 s.size++⟨#[58]⟩++dig3 (999-s.size)++⟨#[58]⟩++dig5 (chkB s i%99991)++⟨#[125]⟩++s++⟨#[10]⟩:=rfl;have q1:(⟨#[123]⟩:ByteArray).size=1:=rfl;have q2:(⟨#[58]⟩:ByteArray).size=1:=rfl;have q3:(⟨#[125]⟩:ByteArray).size=1:=rfl;have q4:(⟨#[10]⟩:ByteArray).size=1:=rfl;rw[hrec]at hR;have hw6:IntKind.i64.wrap (999-(s.size:Int))=((999-s.size:Nat):Int):=by rw[wrap64 (by omega)];omega
  have hfold:(11*(i+1)+chkL s.data.toList 0:Nat)=chkB s i:=rfl;rw[hfold];have hcb:chkB s i≤1000000000:=by unfold chkB;omega
  have hmod:(chkB s i:Int).tmod 99991=((chkB s i%99991:Nat):Int):=by rw[Int.tmod_eq_emod_of_nonneg (by omega)];rfl
  clear hrec hfold;generalize dig5 (chkB s i%99991)=D5 at h3 z3 hR;generalize dig3 s.size=D1 at h1 z1 hR;generalize dig3 (999-s.size)=D2 at h2 z2 hR;generalize chkB s i=C at h3 hmod;simp[-getElem?_pos];refine cG [.int .i64 s.size,.int .i64 3] h1 ?_;simp[-getElem?_pos,ByteArray.size_append,z1,q1,q2,hw6,nble];refine cG [.int .i64 ((999-s.size:Nat):Int),.int .i64 3] h2 ?_;simp[-getElem?_pos,ByteArray.size_append,z1,z2,q1,q2,hmod,nble];refine cG [.int .i64 ((C%99991:Nat):Int),.int .i64 5] h3 ?_;have hbig:15+s.size≤9223372036854775807:=by omega
  have hbig1:15+s.size+1≤9223372036854775807:=by omega
  simp[-getElem?_pos,ByteArray.size_append,z1,z2,z3,q1,q2,q3,q4,nble,hbig,hbig1];rw[←hR];exact⟨rfl,rfl⟩
theorem ZuO (a b:ByteArray):(a++b).data.toList=a.data.toList++b.data.toList:=by
 rw[ByteArray.data_append,Array.toList_append]
def rcdL (s:ByteArray)(i:Nat):List UInt8:=(recB s i).data.toList
def hdL (s:ByteArray)(i:Nat):List UInt8:=58::((dig3 (999-s.size)).data.toList++58::((dig5 (chkB s i%99991)).data.toList++[125]))
theorem ZsI (s:ByteArray)(i:Nat):rcdL s i=123::((dig3 s.size).data.toList++(hdL s i++(s.data.toList++[10]))):=by
 unfold rcdL recB hdL;simp only[ZuO,List.append_assoc];rfl
theorem Ztk (s:ByteArray)(i:Nat):(hdL s i).length=11:=rfl
theorem ZkC (s:ByteArray)(i:Nat):(rcdL s i).length=16+s.size:=by
 rw[ZsI,Zyg,ZxU,ZxU,Ztk,ZxU];show 3+(11+(s.size+1))+1=16+s.size;omega
def fileL:List ByteArray→Nat→List UInt8
 |[],_=>[]
 |s::r,i=>rcdL s i++fileL r (i+1)
theorem ZgI {s:ByteArray}:∀{l:List ByteArray} {i:Nat},fileL (l++[s]) i=fileL l i++rcdL s (i+l.length)
 |[],i=>by simp[fileL]
 |x::l,i=>by
  simp only[List.cons_append,fileL,Zyg];rw[ZgI (l:=l),List.append_assoc,show i+1+l.length=i+(l.length+1) by omega]
structure Wk where
 certs:List Ct
 bad:List Int
 lots:List Lt
 tests:List Tt
 runs:List Qn.Rq
def Wk.box (w:Wk):Box:=wkX (ctsP w.certs) (bdsP w.bad) (lotsP w.lots) (ttsP w.tests) (runsP w.runs)
def wk0:Wk:=⟨[],[],[],[],[]⟩
def ZgX (I:Nat→Wk→Prop)(D:Wk→ByteArray→Wk×Int):Prop:=∀k st s,k<150→I k st→s.size≤200→I (k+1) (D st s).1∧Zai Tryz.prog 70 [.ptr (.par 0) 0,.pv (.str s)] [(.par 0,st.box)] (fun r B=>r=.pv (.int .i64 (D st s).2)∧B=[(.par 0,(D st s).1.box)])
def foldD (D:Wk→ByteArray→Wk×Int):Wk→List ByteArray→Wk×List Int
 |st,[]=>(st,[])
 |st,s::l=>((foldD D (D st s).1 l).1,(D st s).2::(foldD D (D st s).1 l).2)
theorem ZgG {D:Wk→ByteArray→Wk×Int}{s:ByteArray}:∀{l:List ByteArray} {st:Wk},foldD D st (l++[s])=((D (foldD D st l).1 s).1,(foldD D st l).2++[(D (foldD D st l).1 s).2])
 |[],st=>rfl
 |x::l,st=>by
  simp only[List.cons_append,foldD];rw[ZgG (l:=l)]
theorem ZcC {D:Wk→ByteArray→Wk×Int}:∀{l:List ByteArray} {st:Wk},(foldD D st l).2.length=l.length
 |[],st=>rfl
 |x::l,st=>by simp only[foldD,Zyg,ZcC (l:=l)]
theorem ZcD {D:Wk→ByteArray→Wk×Int}{I:Nat→Wk→Prop}(hN:ZgX I D):∀{l:List ByteArray} {k:Nat} {st:Wk},k+l.length≤150→I k st→(∀s∈l,s.size≤200)→I (k+l.length) (foldD D st l).1
 |[],k,st,_,h,_=>h
 |x::l,k,st,hk,h,hl=>by
  rw[Zyg]at hk
  have:=ZcD hN (l:=l) (k:=k+1) (by omega) (hN k st x (by omega) h (hl x (List.mem_cons_self ..))).1 (fun s hs=>hl s (List.mem_cons_of_mem _ hs))
  rw[show k+1+l.length=k+(x::l).length by rw[Zyg];omega]at this;exact this
def iE (n:Int):PV:=.int .i64 n
def plyS (L:List ByteArray)(W:Box)(es:List Int)(k:Nat):AS:=
 ⟨[(4,.ptr (.loc 9 0) 0),(5,.vec (.loc 21 0) 1 0 es.length),(10,.pv (.lst false 1 (L.map .str))),(11,.pv (.int .i64 L.length)),(12,.pv (.int .i64 (k:Int)))],
  [(.loc 9 0,W),(.loc 21 0,.arr 39 1 (es.map iE))]⟩
theorem ZhU (k:Nat):AV.Wk (.pv (.emp (some true))) (.pv (.lst false k [])):=wk_pv fun m v h=>Zbm h
theorem ZkI {I:Nat→Wk→Prop}{D:Wk→ByteArray→Wk×Int}(hN:ZgX I D)(h0:I 0 wk0)(L:List ByteArray)(hl:L.length≤150)(hs:∀s∈L,s.size≤200):
  Zai Tryz.prog 31 [.pv (strsP L)] [] (fun r B=>r=.tup [.ptr (.ret 0) 0,.vec (.ret 1) 1 0 L.length]∧B=[(.ret 0,(foldD D wk0 L).1.box),(.ret 1,.arr 39 1 ((foldD D wk0 L).2.map iE))]):=by
 refine cBR [.loc 9 0,.loc 21 0] L31 ?_;intro R hR;simp[-getElem?_pos,L31,strsP];refine Zaf (fun m τ=>∃k:Nat,k≤L.length∧m=L.length-k∧τ=plyS L (foldD D wk0 (L.take k)).1.box (foldD D wk0 (L.take k)).2 k) ⟨L.length,plyS L wk0.box [] 0,?_,0,Zx0 _,rfl,rfl⟩ ?_
 ·refine Sub.trans' ?_ (vecT 21 39 1 5 rfl (by decide));refine Sub.trans' ?_ (Sub.wkC (s:=.loc 9 0) (i:=0) _ rfl rfl (ZhU 7));refine Sub.trans' ?_ (Sub.wkC (s:=.loc 9 0) (i:=1) _ rfl rfl (ZhU 1));refine Sub.trans' ?_ (Sub.wkC (s:=.loc 9 0) (i:=2) _ rfl rfl (ZhU 4));refine Sub.trans' ?_ (Sub.wkC (s:=.loc 9 0) (i:=3) _ rfl rfl (ZhU 4));refine Sub.trans' ?_ (Sub.wkC (s:=.loc 9 0) (i:=4) _ rfl rfl (ZhU 3));exact Sub.mk (by simp[plyS,AS.vecT]) (by simp[plyS,AS.vecT,Wk.box,wk0,wkX,ctsP,bdsP,lotsP,ttsP,runsP])
 rintro J hJ m τ ⟨k,hk,rfl,rfl⟩;have hfl:=ZcC (D:=D) (l:=L.take k) (st:=wk0);rw[ZxT,Nat.min_eq_left hk]at hfl;by_cases hlt:k<L.length
 ·obtain⟨s,hx⟩:∃s,L[k]?=some s:=⟨L[k],ZxL hlt⟩;have hmem:s∈L:=ZxQ hx;have hg:(L.map PV.str)[k]?=some (.str s):=by rw[ZxM,hx];rfl
  have htk:L.take (k+1)=L.take k++[s]:=by rw[Zx6,hx];rfl
  have hinv:=ZcD hN (l:=L.take k) (st:=wk0) (by rw[ZxT];omega) h0 (fun s hs'=>hs s (List.mem_of_mem_take hs'));have hn:=hJ (L.length-(k+1)) _ ⟨k+1,hlt,rfl,rfl⟩;rw[htk,ZgG]at hn;have hc:=(hN _ _ s (by rw[ZxT];omega) hinv (hs s hmem)).2;have hw:=wrapK (k:=k) (by omega);have h1:(foldD D wk0 (L.take k)).2.length+1≤1000000:=by omega
  have hmeas:L.length-(k+1)<L.length-k:=by omega
  generalize foldD D wk0 (L.take k)=q at hn hc h1 ⊢;obtain⟨st,es⟩:=q;dsimp only at hn hc h1 ⊢;generalize D st s=q' at hn hc;obtain⟨st',e⟩:=q';dsimp only at hn hc;simp[-getElem?_pos,-List.getElem?_map,plyS,hlt,hg,Wk.box,wkX];refine cM [.ptr (.par 0) 0,.pv (.str s)] [(.par 0,st.box)] 19 [.loc 9 0] (by simp[Wk.box,wkX]) hc (by simp[Wk.box,wkX]) ?_;simp[-getElem?_pos,Wk.box,wkX,h1,nble,hw];exact⟨_,_,hmeas,Sub.mk (by simp[plyS]) (by simp[plyS,Wk.box,wkX,iE]),hn⟩
 ·have he:k=L.length:=by omega
  subst he;rw[Zye]at hfl ⊢;simp[-getElem?_pos,plyS,Wk.box,wkX,hfl];rw[←hR];exact⟨rfl,by simp[Wk.box,wkX]⟩
section
attribute [local simp] retFz frzL AS.frz AV.frz AV.frzL Box.frz AS.tidy AS.ZvF
theorem ZjN (l:List PV)(hl:l.length≤1000000):Gives Tryz.prog 29 [.lst false 1 l] (.lst false 1 l):=by
 cases l with
 |nil=>
  refine Zai.ZvA ?_;refine cF [.loc 7 0] L29 ?_;simp[-getElem?_pos,L29,nilOf,ZaB,nble,opWp,osel];exact fun m v h=>Zbm h
 |cons a l=>
  refine cF [.loc 7 0] L29 ?_;have h1:l.length+1≤1000000:=by simpa using hl
  have hm:List.take l.length l=l:=ZxW (ZxR _);simp[-getElem?_pos,L29,nilOf,nble,h1,hm]
theorem Zmc (l:List PV)(hl:l.length≤1000000):Gives Tryz.prog 42 [.lst false 7 l] (.lst false 7 l):=by
 cases l with
 |nil=>
  refine Zai.ZvA ?_;refine cF [.loc 7 0] L42 ?_;simp[-getElem?_pos,L42,nilOf,ZaB,nble,opWp,osel];exact fun m v h=>Zbm h
 |cons a l=>
  refine cF [.loc 7 0] L42 ?_;have h1:l.length+1≤1000000:=by simpa using hl
  have hm:List.take l.length l=l:=ZxW (ZxR _);simp[-getElem?_pos,L42,nilOf,nble,h1,hm]
theorem Zmb (l:List PV)(hl:l.length≤1000000):Gives Tryz.prog 74 [.lst false 4 l] (.lst false 4 l):=by
 cases l with
 |nil=>
  refine Zai.ZvA ?_;refine cF [.loc 7 0] L74 ?_;simp[-getElem?_pos,L74,nilOf,ZaB,nble,opWp,osel];exact fun m v h=>Zbm h
 |cons a l=>
  refine cF [.loc 7 0] L74 ?_;have h1:l.length+1≤1000000:=by simpa using hl
  have hm:List.take l.length l=l:=ZxW (ZxR _);simp[-getElem?_pos,L74,nilOf,nble,h1,hm]
theorem Zma (l:List PV)(hl:l.length≤1000000):Gives Tryz.prog 75 [.lst false 4 l] (.lst false 4 l):=by
 cases l with
 |nil=>
  refine Zai.ZvA ?_;refine cF [.loc 7 0] L75 ?_;simp[-getElem?_pos,L75,nilOf,ZaB,nble,opWp,osel];exact fun m v h=>Zbm h
 |cons a l=>
  refine cF [.loc 7 0] L75 ?_;have h1:l.length+1≤1000000:=by simpa using hl
  have hm:List.take l.length l=l:=ZxW (ZxR _);simp[-getElem?_pos,L75,nilOf,nble,h1,hm]
theorem Zmd (l:List PV)(hl:l.length≤1000000):Gives Tryz.prog 73 [.lst false 1 l] (.lst false 1 l):=by
 cases l with
 |nil=>
  refine Zai.ZvA ?_;refine cF [.loc 7 0] L73 ?_;simp[-getElem?_pos,L73,nilOf,ZaB,nble,opWp,osel];exact fun m v h=>Zbm h
 |cons a l=>
  refine cF [.loc 7 0] L73 ?_;have h1:l.length+1≤1000000:=by simpa using hl
  have hm:List.take l.length l=l:=ZxW (ZxR _);simp[-getElem?_pos,L73,nilOf,nble,h1,hm]
end
def Wk.pv (w:Wk):PV:=.agg [ctsP w.certs,bdsP w.bad,lotsP w.lots,ttsP w.tests,runsP w.runs]
def cpS (w:Wk)(k:Nat):AS:=
 ⟨[(1,.ptr (.loc 1 0) 0),(2,.ptr (.loc 2 0) 0),(3,.vec (.loc 23 0) 3 0 k),(7,.pv (.lst false 3 (w.runs.map Qn.Rq.pv))),(8,.pv (.int .i64 w.runs.length)),(9,.pv (.int .i64 (k:Int)))],
  [(.loc 1 0,.cells [.pv (ctsP w.certs),.pv (bdsP w.bad),.pv (lotsP w.lots),.pv (ttsP w.tests),.pv (runsP w.runs)]),(.loc 2 0,.cells [.pv (.emp (some true)),.pv (.emp (some true)),.pv (.emp (some true)),.pv (.emp (some true)),.pv (.emp (some true))]),(.loc 23 0,.arr 147 3 ((w.runs.take k).map Qn.Rq.pv))]⟩
theorem ZqF (w:Wk)(h1:w.certs.length≤1000)(h2:w.bad.length≤1000)(h3:w.lots.length≤1000)(h4:w.tests.length≤1000)(h5:w.runs.length≤1000)(h6:∀r∈w.runs,r.on.length≤1000):Gives Tryz.prog 35 [w.pv] w.pv:=by
 refine cFR [.loc 23 0] L35 ?_;intro R hR;simp[-getElem?_pos,L35,Wk.pv,runsP];refine Zaf (fun m τ=>∃k:Nat,k≤w.runs.length∧m=w.runs.length-k∧τ=cpS w k) ⟨w.runs.length,cpS w 0,Sub.trans' (Sub.mk (by simp[cpS,AS.vecT]) (by simp[cpS,AS.vecT,runsP])) (vecT 23 147 3 3 rfl (by decide)),0,Zx0 _,rfl,rfl⟩ ?_;rintro J hJ m τ ⟨k,hk,rfl,rfl⟩;by_cases hlt:k<w.runs.length
 ·obtain⟨r,hx⟩:∃r,w.runs[k]?=some r:=⟨w.runs[k],ZxL hlt⟩;have hg:(w.runs.map Qn.Rq.pv)[k]?=some r.pv:=by rw[ZxM,hx];rfl
  simp only[Qn.Rq.pv,Qn.onP]at hg;have hon:=h6 r (ZxQ hx);have hw:=wrapK (k:=k) (by omega);have hk1:k+1≤1000000:=by omega
  have hmn:min k w.runs.length=k:=Nat.min_eq_left (by omega);have hn:=hJ (w.runs.length-(k+1)) _ ⟨k+1,hlt,rfl,rfl⟩;unfold cpS at hn;rw[Zx6,hx,Zyb]at hn;simp[-getElem?_pos,-List.getElem?_map,cpS,hlt,hg,nblt,nble,setAt];refine cQ [] [.lst false 1 (r.on.map .bool)] (Zmd (r.on.map .bool) (by rw[ZxS];omega)) ?_;simp[-getElem?_pos,-List.map_take,frzsL,setAt,nble,hk1,hmn,hw];exact⟨_,_,(by omega:w.runs.length-(k+1)<w.runs.length-k),Sub.mk (by simp) (by simp[Qn.Rq.pv,Qn.onP]),hn⟩
 ·have he:k=w.runs.length:=by omega
  subst he;have htk:w.runs.take w.runs.length=w.runs:=Zye;simp[-getElem?_pos,cpS,htk,ctsP];refine cQ [] [.lst false 7 (w.certs.map Ct.pv)] (Zmc (w.certs.map Ct.pv) (by rw[ZxS];omega)) ?_;simp[-getElem?_pos,frzsL,bdsP];refine cQ [] [.lst false 1 (w.bad.map iP)] (ZjN (w.bad.map iP) (by rw[ZxS];omega)) ?_;simp[-getElem?_pos,frzsL,lotsP];refine cQ [] [.lst false 4 (w.lots.map Lt.pv)] (Zmb (w.lots.map Lt.pv) (by rw[ZxS];omega)) ?_;simp[-getElem?_pos,frzsL,ttsP];refine .inl (cP [.loc 23 0] [.lst false 4 (w.tests.map Tt.pv)] (by simp[frzsL,AS.frz,AV.frz,AV.frzL,Box.frz,AS.tidy,AS.ZvF]) (by simp[frzsL,AS.frz,AV.frz,AV.frzL,Box.frz,AS.tidy,AS.ZvF]) (Zma (w.tests.map Tt.pv) (by rw[ZxS];omega)) ?_);have htr:List.take w.runs.length (w.runs.map Qn.Rq.pv)=w.runs.map Qn.Rq.pv:=ZxW (by simp);simp[-getElem?_pos,-List.map_take,frzsL,AS.frz,AV.frz,AV.frzL,Box.frz,AS.tidy,AS.ZvF,setAt,htr,retFz,frzL];rw[←hR];exact⟨by simp[Wk.pv,ctsP,bdsP,lotsP,ttsP,runsP],by simp⟩
end
section
attribute [local simp] retFz frzL AS.frz AV.frz AV.frzL Box.frz AS.tidy AS.ZvF frzsL retOk renB toLoc
structure WkOk (w:Wk):Prop where
 c:w.certs.length≤1000
 b:w.bad.length≤1000
 l:w.lots.length≤900
 t:w.tests.length≤900
 r:w.runs.length≤1000
 lt:∀x∈w.lots,ltOk x
 fit:spFit w.certs w.bad w.tests
 on:∀r∈w.runs,r.on.length≤1000
theorem Zd9 {l:List ByteArray}(h:Za3 l=0):l.length≤50∧∀s∈l,s.size≤200:=by
 unfold Za3 at h;split at h
 ·cases h
 ·split at h
  ·rename_i h1 h2;refine⟨by omega,fun s hs=>?_⟩
   have:=Zx7.1 h2 s hs
   simpa using this
  ·cases h
theorem Zd8 {l:List ByteArray}(h:Za3 l≠0):Za3 l=3:=by
 unfold Za3 at h ⊢;split
 ·rfl
 ·split
  ·rename_i h1 h2;rw[if_neg h1,if_pos h2]at h;exact absurd rfl h
  ·rfl
def plyE (D:Wk→ByteArray→Wk×Int)(L:List ByteArray):PV:=if Za3 L=0 then .tup [(foldD D wk0 L).1.pv,.lst false 1 ((foldD D wk0 L).2.map iE),.int .i64 0]else .tup [wk0.pv,.lst false 1 [],.int .i64 3]
theorem ZuX {I:Nat→Wk→Prop}{D:Wk→ByteArray→Wk×Int}(hN:ZgX I D)(h0:I 0 wk0)(hI:∀k w,k≤50→I k w→WkOk w)(L:List ByteArray)(hl:L.length≤1000000):Gives Tryz.prog 15 [strsP L] (plyE D L):=by
 have hch:=ZdB L hl;refine Zai.ZvA ?_;refine cFR [.loc 15 1] L15 ?_;intro R hR;unfold plyE at hR;by_cases hc:Za3 L=0
 ·obtain⟨hl5,hs2⟩:=Zd9 hc;rw[hc]at hch;have hpc:=ZkI hN h0 L (by omega) hs2;have hok:=hI _ _ (by omega) (ZcD hN (l:=L) (by omega) h0 hs2);have hfl:=ZcC (D:=D) (l:=L) (st:=wk0);rw[if_pos hc]at hR;generalize foldD D wk0 L=q at hpc hok hfl hR;obtain⟨w,es⟩:=q;dsimp only at hpc hok hfl hR;have hcc:=ZqF w hok.c hok.b (by have:=hok.l;omega) (by have:=hok.t;omega) hok.r hok.on;simp[-getElem?_pos,L15];refine cG [strsP L] hch ?_;simp[-getElem?_pos];refine .inl (Za9 [] (fs:=[]) (xs:=[strsP L]) (cs:=[]) (d:=15) rfl rfl hpc ?_);rintro r B ⟨rfl,rfl⟩;refine⟨by simp[Wk.box,wkX],?_⟩;simp[-getElem?_pos,Wk.box,wkX];have hm:List.take L.length (es.map iE)=es.map iE:=ZxW (by rw[ZxS];omega);have hle:L.length≤es.length:=by omega
  refine .inl (cP [.loc 15 1] [w.pv] (by simp) (by simp[Wk.pv]) hcc ?_);simp[-getElem?_pos,Wk.pv,setAt,hm,hle];rw[←hR];exact⟨_,rfl,by simp,fun m v h=>h⟩
 ·have h3:=Zd8 hc;rw[h3]at hch;rw[if_neg hc]at hR;simp[-getElem?_pos,L15];refine cG [strsP L] hch ?_;simp[-getElem?_pos];rw[←hR];exact⟨_,rfl,rfl,Zbw 5 _ _ rfl⟩
def bP (l:List UInt8):List PV:=l.map fun b=>.int .u8 b.toNat
theorem Zi7 {l:List UInt8}:(bP l).length=l.length:=ZxS _
theorem ZuP {a b:List UInt8}:bP (a++b)=bP a++bP b:=Zyb
theorem Zlh:∀{l:List ByteArray} {i:Nat},(∀s∈l,s.size≤200)→(fileL l i).length≤216*l.length
 |[],i,_=>by simp[fileL]
 |s::l,i,h=>by
  have h1:=Zlh (l:=l) (i:=i+1) (fun s hs=>h s (List.mem_cons_of_mem _ hs));have h2:=h s (List.mem_cons_self ..);simp only[fileL,ZxU,ZkC,Zyg];omega
def flS (L:List ByteArray)(F:List UInt8)(k:Nat):AS:=
 ⟨[(3,.vec (.loc 17 0) 1 0 F.length),(6,.pv (.lst false 1 (L.map .str))),(7,.pv (.int .i64 L.length)),(8,.pv (.int .i64 (k:Int)))],[(.loc 17 0,.arr 5 1 (bP F))]⟩
theorem ZuC (L:List ByteArray)(hl:L.length≤1000)(hs:∀s∈L,s.size≤200):Gives Tryz.prog 55 [strsP L] (.lst false 1 (bP (fileL L 0))):=by
 refine cFR [.loc 17 0] L55 ?_;intro R hR;simp[-getElem?_pos,L55,strsP];refine Zaf (fun m τ=>∃k:Nat,k≤L.length∧m=L.length-k∧τ=flS L (fileL (L.take k) 0) k) ⟨L.length,flS L [] 0,Sub.trans' (Sub.mk (by simp[flS,AS.vecT]) (by simp[flS,AS.vecT,bP])) (vecT 17 5 1 3 rfl (by decide)),0,Zx0 _,rfl,rfl⟩ ?_;rintro J hJ m τ ⟨k,hk,rfl,rfl⟩;by_cases hlt:k<L.length
 ·obtain⟨s,hx⟩:∃s,L[k]?=some s:=⟨L[k],ZxL hlt⟩;have hsz:=hs s (ZxQ hx);have hg:(L.map PV.str)[k]?=some (.str s):=by rw[ZxM,hx];rfl
  have htk:L.take (k+1)=L.take k++[s]:=by rw[Zx6,hx];rfl
  have hn:=hJ (L.length-(k+1)) _ ⟨k+1,hlt,rfl,rfl⟩;have hfl:=Zlh (l:=L.take k) (i:=0) (fun s hs'=>hs s (List.mem_of_mem_take hs'));have hrc:=Zpy s k (by omega) (by omega);have hrs:=ZkC s k;rw[htk,ZgI,ZxT,Nat.min_eq_left hk,Zyj]at hn;rw[ZxT,Nat.min_eq_left hk]at hfl;unfold rcdL at hn hrs;unfold flS at hn;rw[ZuP,ZxU]at hn;have hbp:bP (recB s k).data.toList=ZaG (recB s k):=rfl;have hbl:(ZaG (recB s k)).length=(recB s k).data.toList.length:=Zi7;rw[hbp,←hbl]at hn;rw[←hbl]at hrs;generalize fileL (L.take k) 0=F at hn hfl ⊢;clear hbp hbl;generalize recB s k=R at hn hrs hrc;have hw:=wrapK (k:=k) (by omega);have hmeas:L.length-(k+1)<L.length-k:=by omega
  have h1:F.length+(ZaG R).length≤1000000:=by omega
  simp[-getElem?_pos,-List.getElem?_map,flS,hlt,hg,nblt,nble];refine cG [.str s,.int .i64 k] hrc ?_;simp[-getElem?_pos,Zi7,h1,hw,nble];exact⟨_,_,hmeas,Sub.mk (by simp[Zi7]) (by simp),hn⟩
 ·have he:k=L.length:=by omega
  subst he;rw[Zye];have hm:List.take (fileL L 0).length (bP (fileL L 0))=bP (fileL L 0):=ZxW (by rw[Zi7];exact ZxR _);simp[-getElem?_pos,flS,hm,Zi7];rw[←hR];exact⟨rfl,by simp⟩
def wrtE (L:List ByteArray):PV:=if Za3 L=0 then .tup [.lst false 1 (bP (fileL L 0)),.int .i64 0]else .tup [.lst false 1 [],.int .i64 3]
theorem ZtZ (L:List ByteArray)(hl:L.length≤1000000):Gives Tryz.prog 25 [strsP L] (wrtE L):=by
 have hch:=ZdB L hl;refine Zai.ZvA ?_;refine cFR [] L25 ?_;intro R hR;unfold wrtE at hR;by_cases hc:Za3 L=0
 ·obtain⟨hl5,hs2⟩:=Zd9 hc;rw[hc]at hch;rw[if_pos hc]at hR;have hf:=ZuC L (by omega) hs2;simp[-getElem?_pos,L25];refine cG [strsP L] hch ?_;simp[-getElem?_pos];refine .inl (cQ [] [strsP L] hf ?_);simp[-getElem?_pos];rw[←hR];exact⟨_,rfl,by simp,fun m v h=>h⟩
 ·have h3:=Zd8 hc;rw[h3]at hch;rw[if_neg hc]at hR;simp[-getElem?_pos,L25];refine cG [strsP L] hch ?_;simp[-getElem?_pos];rw[←hR];exact⟨_,rfl,rfl,Zbw 5 _ _ rfl⟩
end
end
section
open Go.RowKit Go.ChangeShapes Go.WideShapes Go.ChangeAt Go.Deep
set_option maxRecDepth 100000
section
variable {H:Type}{enc:TypeId×Value→H}{W:World}{sp:Nat→Bool}{held:Bool}{r:Reach}{base:Nat}
theorem cStr:Tryz.prog.cellsOf 9=1:=by kernel_rfl
theorem Zm9 {v:Value}{fuel:Nat}{x:DataW H×List MemPlace}(hok:Value.okWide Tryz.prog W r base 22 v)(h:DataW.trod enc Tryz.prog W 0 sp held fuel 22 v.cells.toList=some x):
  ∃L:List ByteArray,L.length≤9223372036854775807∧RdP W.mem v (strsP L):=by
 obtain⟨_,_,_,rfl⟩:=okWide_slice Tryz.underlying22 hok;obtain⟨l,_,h1,h2⟩:=Zna (n:=1) PV.str (fun _=>True) Tryz.underlying22 cStr (by omega) h (fun k cs y hy hl=>by
  obtain⟨s,rfl,_,_⟩:=DataW.trod_string Tryz.underlying9 hy;exact⟨s,trivial,rfl,rfl,fun d hd=>by simp at hd;subst hd;rfl,fun j d c h1 h2=>by
   match j,h1,h2 with
   |0,h1,h2=>cases h1;cases h2;exact .str _⟩)
 exact⟨l,h1,h2⟩
end
theorem ZhW {W:World}{n:String}{g:Nat}{d:DataW Unit}{s:String}{x:DataW Unit}(hg:Tryz.prog.globalNamed n=some g)(hy:(Tryz.prog.globals[g]?).map (·.type)=some 132)(hd:d=.iface s x)(h:Lib.VarReads Tryz.prog W n d):∃t p,W.mem g 0=some (.iface t p):=by
 subst hd;obtain⟨g',t,cs,fuel,p,hg',hty,hvar,hd⟩:=h;obtain rfl:=Option.some.inj (hg.symm.trans hg');obtain rfl:=Option.some.inj (hy.symm.trans hty);obtain⟨f1,u,v,hcs,_,_⟩:=iface_of_trod Tryz.underlying132 hd
 have:=World.var?_cell hg hvar 0
 rw[←Zyu,hcs]at this;exact⟨u,v,this⟩
theorem Zse {W : World} (h : Lib.VarReads Tryz.prog W "internal/strconv.uint64pow10" Rows.laid_internal_strconv_uint64pow10) : ∃ t fr, W.heap[0]? = some (.cells (Lib.pow10Tab.map (Value.int .u64)).toArray t fr) := by
 have e:(Rows.laid_internal_strconv_uint64pow10:DataW Unit)=Lib.tabData .u64 Lib.pow10Tab:=by rfl
 rw[e]at h;obtain⟨g,t,cs,fuel,p,hg,hty,hvar,hd⟩:=h;obtain rfl := Option.some.inj ((show Tryz.prog.globalNamed "internal/strconv.uint64pow10" = some 0 by kernel_rfl).symm.trans hg);obtain rfl:=Option.some.inj ((show(Tryz.prog.globals[0]?).map (·.type)=some 298 by kernel_rfl).symm.trans hty);have hcs:=Lib.cells_of_tab Tryz.underlying298 Tryz.underlying236 (by kernel_rfl) (by kernel_rfl) hd;unfold World.var? at hvar;rw[hg,Option.bind_some]at hvar;split at hvar
 ·rename_i cs' t fr hh;obtain rfl:=Option.some.inj hvar;exact⟨t,fr,by rw[hh,←hcs]⟩
 ·cases hvar
theorem Zod {W : World} (hs : W.ShapedOpen Tryz.prog) (h5 : Lib.VarReads Tryz.prog W "internal/strconv.uint64pow10" Rows.laid_internal_strconv_uint64pow10) (h1 : Lib.VarReads Tryz.prog W "strconv.ErrSyntax" Rows.laid_strconv_ErrSyntax) (h2 : Lib.VarReads Tryz.prog W "strconv.ErrRange" Rows.laid_strconv_ErrRange) : Glob W.mem W := by
 have h5:=Zse h5;refine⟨Proofs.cell_of_shapedOpen_int (zero:=#[.int .i64 0]) (t:=3) hs (of_decide_eq_true (by kernel_rfl)) (by kernel_rfl) rfl (by kernel_rfl) (by kernel_rfl) Tryz.underlying3,
  ZhW (n := "strconv.ErrSyntax") (by kernel_rfl) (by kernel_rfl) rfl h1,
  ZhW (n := "strconv.ErrRange") (by kernel_rfl) (by kernel_rfl) rfl h2, ?_, h5⟩
 obtain⟨t,fr,h⟩:=h5;exact⟨_,(cell_of_row W _ 0 _ _ _ h).trans rfl⟩
end
section
open Go.RowKit Go.ChangeShapes Go.WideShapes Go.ChangeAt Go.Deep
set_option maxRecDepth 100000
theorem own:ownKnob Tryz.prog.godebug=none:=by kernel_rfl
theorem laidP:laidOutB Tryz.prog=true:=by kernel_rfl
theorem Zkz:mapsRowed Tryz.prog=true:=by kernel_rfl
theorem fullP:((List.range Tryz.prog.types.size).all fun t=>match Tryz.prog.underlying t with|some (.slice e)=>decide (0<Tryz.prog.cellsOf e)|_=>true)=true:=by kernel_rfl
theorem ZfS {H:Type}{enc:TypeId×Value→H}{a:Assume}{C:Checked}{os:Os}{f:FuncId}{fn:Func}{s:ChangeSpec}{conds:List PathCond}{apart fresh handsOn again:Bool}{X:World→Array Value→Prop}
  (hX:∀(w w':World) (args:Array Value),w.heap=w'.heap→X w args→X w' args)
  (own:ownKnob C.prog.godebug=none) (started:os.Started) (noInit:C.prog.inits.idxOf? f=none) (hfn:C.prog.funcs[f]?=some fn)
  (witness:∃(w:World) (tape:Tape) (i:Input),w.os=os∧(w.forCall tape i).Shaped C.prog∧i.vars=[]∧Input.okWide C.prog (w.forCall tape i) .any w.heap.size f i∧
   ((s.pre enc C.prog fn conds apart (w.forCall tape i).memory i.args∧X (w.forCall tape i).memory i.args)∧sizedMet enc C.prog fn (OpenSpec.ofChange s) apart (w.forCall tape i).memory i.args)∧a.holds C.prog (lone (Frame.enter C.prog f i.args .normal) [] (w.forCall tape i)))
  (contract:∀(W:World) (base:Nat) (args:Array Value) (ds gs:List (DataW H)) (before:List MemPlace),
   (∀(j:Nat) t v,fn.params[j]?=some t→args[j]?=some v→Value.okWide C.prog W .any base t v)→
   DataW.Whole enc C.prog fn.params.toList s.vars apart W args.toList ds gs before→X W args→W.ShapedOpen C.prog→
   Calls C.prog f args W fun e W'=>∃v,e=.returned v∧s.post enc C.prog fn apart fresh handsOn again W args v W'):
  ReturnsInHanded a C os f .any (fun w args=>(s.pre enc C.prog fn conds apart w args∧X w args)∧sizedMet enc C.prog fn (OpenSpec.ofChange s) apart w args) (s.post enc C.prog fn apart fresh handsOn again):=by
 refine returnsInHanded_of_calls own started noInit witness ?_;intro w tape i _ hsh _ hok hpre _;obtain⟨_,_,_,fn',hfn',_,_,_,_,hval⟩:=hok;have e:fn'=fn:=Option.some.inj (hfn'.symm.trans hfn);subst e;obtain⟨⟨⟨ds,gs,before,hw,_⟩,hx⟩,_⟩:=hpre;have hw':=DataW.Whole.of_heap (w':=w.forCall tape i) (by rfl) hw;refine(contract (w.forCall tape i) w.heap.size i.args ds gs before hval hw' (hX _ _ _ (by rfl) hx) hsh).mono fun e W' ⟨v,he,hp⟩=>?_
 subst he;exact ChangeSpec.post_blind hp
end
section
theorem ZuF (u:Nat):u<10^(Lib.decDigits u).length:=by
 induction u using Nat.strongRecOn with
 |_ u ih=>
  unfold Lib.decDigits;split
  ·simp;omega
  ·have:=ih (u / 10) (by omega)
   rw[ZxU,List.length_singleton,Nat.pow_succ];omega
theorem Zlk (u:Nat):∀c∈Lib.decDigits u,c≠45:=by
 have hd:∀d:Fin 10,UInt8.ofNat (48+d.1)≠45:=by decide
 induction u using Nat.strongRecOn with
 |_ u ih=>
  intro c hc;unfold Lib.decDigits at hc;split at hc
  ·rename_i h;rw[Zyi]at hc;subst hc;exact hd ⟨u,h⟩
  ·rcases Zyp.1 hc with h|h
   ·exact ih (u / 10) (by omega) c h
   ·rw[Zyi]at h;subst h;exact hd ⟨u%10,by omega⟩
theorem ZiT (u:Nat)(h:(Lib.decDigits u).length≤9):u<1000000000:=
 Nat.lt_of_lt_of_le (ZuF u) (Nat.pow_le_pow_right (by decide) h)
theorem ZsV {s:ByteArray}{v:Int}(h:numB s=some v):-1000000000<v∧v<1000000000:=by
 unfold numB at h;split at h
 ·split at h
  ·rename_i u _ hc;cases h;obtain⟨h1,h2⟩:=hc;subst h1;have h3:(Lib.trimPrefix (Lib.itoa v) [45]).length≤9:=h2;by_cases hneg:v<0
   ·obtain⟨k,rfl⟩:∃k:Nat,v = -(k:Int):=⟨v.natAbs,by omega⟩;rw[Lib.itoa_neg k (by omega)]at h3;have h4:Lib.trimPrefix (45::Lib.decDigits k) [45]=Lib.decDigits k:=by simp[Lib.trimPrefix,Lib.hasPrefix]
    rw[h4]at h3
    have:=ZiT k h3
    omega
   ·obtain⟨k,rfl⟩:∃k:Nat,v=(k:Int):=⟨v.toNat,by omega⟩;rw[Lib.itoa_nonneg]at h3;have h4:Lib.trimPrefix (Lib.decDigits k) [45]=Lib.decDigits k:=by
     have hno:=Zlk k;cases hd:Lib.decDigits k with
     |nil=>rfl
     |cons c r=>
      have hc:c≠45:=hno c (by rw[hd];exact List.mem_cons_self ..);simp[Lib.trimPrefix,Lib.hasPrefix,hc]
      try exact fun e=>absurd e.symm hc
    rw[h4]at h3
    have:=ZiT k h3
    omega
  ·cases h
 ·cases h
end
section
attribute [local simp] AS.exp expG Box.ren AV.map AV.Zu9 Zau noRet Site.Zu6 Box.Zu3 AV.Zu3 AV.Zu4 retB dropL AS.Zvd renL outG outOk Zas inG fnOf lookA Zyc
attribute [local simp] Box.Zu0 Site.Zu1
section
attribute [local simp] retFz frzL AS.frz AV.frz AV.frzL Box.frz AS.tidy AS.ZvF frzsL retOk renB toLoc

def isWd (w:Wk)(n:Int)(t:Tt):Bool:=stM w.certs w.bad t.item t.day&&!stM w.certs (w.bad++[n]) t.item t.day
def wdL (w:Wk)(n:Int):Nat→List Int
 |0=>[]
 |k+1=>wdL w n k++(match w.tests[k]? with
  |some t=>if isWd w n t=true then[(k:Int)]else[]
  |none=>[])
theorem Zpd {w:Wk}{n:Int}{k:Nat}{t:Tt}(h:w.tests[k]?=some t):wdL w n (k+1)=wdL w n k++(if isWd w n t=true then[(k:Int)]else[]):=by
 rw[wdL,h]
theorem Zmt {w:Wk}{n:Int}:∀{k:Nat},(wdL w n k).length≤k
 |0=>ZxR _
 |k+1=>by
  have ih:=Zmt (w:=w) (n:=n) (k:=k);rw[wdL,ZxU];split
  ·split<;>simp<;>omega
  ·simp;omega
def kn (w:Wk)(n:Int):Bool:=w.certs.any fun x=>decide (x.num=n)
def wdrE (D:Wk→ByteArray→Wk×Int)(L:List ByteArray)(n:Int):PV:=if Za3 L=0 then(if kn (foldD D wk0 L).1 n=true then .tup [.lst false 1 ((wdL (foldD D wk0 L).1 n (foldD D wk0 L).1.tests.length).map iP),.int .i64 0]else .tup [.lst false 1 [],.int .i64 7])else .tup [.lst false 1 [],.int .i64 3]
def lsX (w:Wk)(n:Int):Box:=wkX (ctsP w.certs) (bdsP (w.bad++[n])) (lotsP w.lots) (ttsP w.tests) (runsP w.runs)
def wdS (w:Wk)(n:Int)(l:List Int)(k:Nat):AS:=
 ⟨[(7,.ptr (.loc 20 0) 0),(9,.ptr (.loc 32 0) 0),(10,.vec (.loc 67 0) 1 0 l.length),(48,.pv (.lst false 4 (w.tests.map Tt.pv))),(49,.pv (.int .i64 w.tests.length)),(50,.pv (.int .i64 (k:Int)))],
  [(.loc 20 0,w.box),(.loc 32 0,lsX w n),(.loc 67 0,.arr 3 1 (l.map iP))]⟩
theorem Zka {I:Nat→Wk→Prop}{D:Wk→ByteArray→Wk×Int}(hN:ZgX I D)(h0:I 0 wk0)(hI:∀k w,k≤50→I k w→WkOk w)(L:List ByteArray)(hl:L.length≤1000000)(n:Int)(hb9:∀k w,k≤50→I k w→w.bad.length≤900):Gives Tryz.prog 13 [strsP L,.int .i64 n] (wdrE D L n):=by
 have hch:=ZdB L hl;refine Zai.ZvA ?_;refine cFR [.loc 67 0] L13 ?_;intro R hR;unfold wdrE at hR;by_cases hc:Za3 L=0
 ·obtain⟨hl5,hs2⟩:=Zd9 hc;rw[hc]at hch;have hpc:=ZkI hN h0 L (by omega) hs2;have hin:=ZcD hN (l:=L) (by omega) h0 hs2;have hok:=hI _ _ (by omega) hin;have hbb:=hb9 _ _ (by omega) hin;clear hin;rw[if_pos hc]at hR;generalize foldD D wk0 L=q at hpc hok hR hbb;obtain⟨w,es⟩:=q;dsimp only at hpc hok hR hbb;have hto:=hok.t;have hkc:=ZjC w.certs n (bdsP w.bad) (lotsP w.lots) (ttsP w.tests) (runsP w.runs) hok.c;have hkn:(w.certs.any fun x=>decide (x.num=n))=kn w n:=rfl;rw[hkn]at hkc;clear hkn;simp[-getElem?_pos,L13];refine cG [strsP L] hch ?_;simp[-getElem?_pos];refine .inl (Za9 [] (fs:=[]) (xs:=[strsP L]) (cs:=[]) (d:=20) rfl rfl hpc ?_);rintro r B ⟨rfl,rfl⟩;refine⟨by simp[Wk.box,wkX],?_⟩;simp[-getElem?_pos,Wk.box,wkX];refine cM [.ptr (.par 0) 0,.pv (.int .i64 n)] [(.par 0,wkX (ctsP w.certs) (bdsP w.bad) (lotsP w.lots) (ttsP w.tests) (runsP w.runs))] 25 [.loc 20 0] (by simp[wkX]) hkc (by simp[wkX]) ?_;cases hkv:kn w n with
  |false=>
   rw[hkv,if_neg (by simp)]at hR;simp[-getElem?_pos,wkX];rw[←hR];exact⟨_,rfl,by simp,Zbw 5 _ _ rfl⟩
  |true=>
  rw[hkv,if_pos rfl]at hR;simp[-getElem?_pos,wkX,setAt,bdsP];refine .inl (cQ [] [.lst false 1 (w.bad.map iP),.int .i64 n] (Zmf (w.bad.map iP) n (by rw[ZxS];omega)) ?_);have hap:w.bad.map iP++[.int .i64 n]=(w.bad++[n]).map iP:=by rw[Zyb];rfl
  rw[hap];have hB2:(w.bad++[n]).length≤1000:=by rw[ZxU];simp;omega
  simp[-getElem?_pos,-List.map_append,ttsP];refine Zaf (fun m τ=>∃k:Nat,k≤w.tests.length∧m=w.tests.length-k∧τ=wdS w n (wdL w n k) k) ⟨w.tests.length,wdS w n [] 0,Sub.trans' (Sub.mk (by simp[wdS,AS.vecT]) (by simp[-List.map_append,wdS,lsX,AS.vecT,Wk.box,wkX,ttsP,bdsP,ctsP])) (vecT 67 3 1 10 rfl (by decide)),0,Zx0 _,rfl,rfl⟩ ?_;rintro J hJ m τ ⟨k,hk,rfl,rfl⟩;by_cases hlt:k<w.tests.length
  ·obtain⟨t,hx⟩:∃t,w.tests[k]?=some t:=⟨w.tests[k],ZxL hlt⟩;have hg:(w.tests.map Tt.pv)[k]?=some t.pv:=by rw[ZxM,hx];rfl
   simp only[Tt.pv]at hg;have hs1:=ZdG w.certs w.bad (lotsP w.lots) (ttsP w.tests) (runsP w.runs) hok.c hok.b t.lot t.item t.day t.rd;have hs2:=ZdG w.certs (w.bad++[n]) (lotsP w.lots) (ttsP w.tests) (runsP w.runs) hok.c hB2 t.lot t.item t.day t.rd;have e1:decide (((Zam w.certs w.bad).Zvq t.item t.day).2=0)=stM w.certs w.bad t.item t.day:=rfl;have e2:decide (((Zam w.certs (w.bad++[n])).Zvq t.item t.day).2=0)=stM w.certs (w.bad++[n]) t.item t.day:=rfl;rw[e1]at hs1;rw[e2]at hs2;have hw:=wrapK (k:=k) (by omega);have hrl:=Zmt (w:=w) (n:=n) (k:=k);have h1:(wdL w n k).length+1≤1000000:=by omega
   have hn:=hJ (w.tests.length-(k+1)) _ ⟨k+1,hlt,rfl,rfl⟩;rw[Zpd hx]at hn;unfold isWd at hn;have hmeas:w.tests.length-(k+1)<w.tests.length-k:=by omega
   clear e1 e2 hJ;generalize wdL w n k=RL at hn h1 ⊢;generalize stM w.certs w.bad t.item t.day=a1 at hn hs1;generalize stM w.certs (w.bad++[n]) t.item t.day=a2 at hn hs2;simp[-getElem?_pos,-List.getElem?_map,-List.map_append,wdS,lsX,Wk.box,wkX,ttsP,hlt,hg,nblt,nble,setAt];refine cM [.ptr (.par 0) 0,.pv (.agg [.int .i64 t.lot,.int .i64 t.item,.int .i64 t.day,.int .i64 t.rd])] [(.par 0,wkX (ctsP w.certs) (bdsP w.bad) (lotsP w.lots) (ttsP w.tests) (runsP w.runs))] 57 [.loc 20 0] (by simp[wkX,bdsP,ttsP]) hs1 (by simp[wkX]) ?_;cases a1 with
   |false=>
    rw[if_neg (by simp),Zx9]at hn;simp[-getElem?_pos,-List.map_append,wkX,nble,hw];exact⟨_,_,hmeas,Sub.mk (by simp[wdS]) (by simp[-List.map_append,wdS,lsX,Wk.box,wkX,ttsP,bdsP]),hn⟩
   |true=>
    simp[-getElem?_pos,-List.map_append,wkX];refine cM [.ptr (.par 0) 0,.pv (.agg [.int .i64 t.lot,.int .i64 t.item,.int .i64 t.day,.int .i64 t.rd])] [(.par 0,wkX (ctsP w.certs) (bdsP (w.bad++[n])) (lotsP w.lots) (ttsP w.tests) (runsP w.runs))] 61 [.loc 32 0] (by simp[-List.map_append,wkX,bdsP,ttsP]) hs2 (by simp[wkX]) ?_;cases a2 with
    |false=>
     rw[if_pos (by simp)]at hn;simp[-getElem?_pos,-List.map_append,wkX,h1,nble,hw];exact⟨_,_,hmeas,Sub.mk (by simp[wdS]) (by simp[-List.map_append,wdS,lsX,Wk.box,wkX,ttsP,bdsP];simp[iP]),hn⟩
    |true=>
     rw[if_neg (by simp),Zx9]at hn;simp[-getElem?_pos,-List.map_append,wkX,nble,hw];exact⟨_,_,hmeas,Sub.mk (by simp[wdS]) (by simp[-List.map_append,wdS,lsX,Wk.box,wkX,ttsP,bdsP]),hn⟩
  ·have he:k=w.tests.length:=by omega
   subst he;have hm:List.take (wdL w n w.tests.length).length ((wdL w n w.tests.length).map iP)=(wdL w n w.tests.length).map iP:=ZxW (by simp);simp[-getElem?_pos,-List.map_append,wdS,lsX,Wk.box,wkX,hm];rw[←hR];exact⟨_,rfl,by simp,fun m v h=>h⟩
 ·have h3:=Zd8 hc;rw[h3]at hch;rw[if_neg hc]at hR;simp[-getElem?_pos,L13];refine cG [strsP L] hch ?_;simp[-getElem?_pos];rw[←hR];exact⟨_,rfl,rfl,Zbw 5 _ _ rfl⟩
end
end
section
def Wk.next (st:Wk)(r:Except Int Wk):Wk×Int:=match r with
 |.ok w=>(w,0)
 |.error e=>(st,e)
def boxQ (r:Except Int Wk)(a b c d e:PV):Prop:=∃w,r=.ok w∧wkX a b c d e=w.box
theorem Zr0 {f:FuncId}{xs:List AV}{B:List (Site×Box)}{r:Except Int Wk}(h:ZaT Tryz.prog f xs B (okR (boxQ r)) (noR (fun e=>r=.error e))):
  Zai Tryz.prog f xs B (okR (boxQ r))∨ZcH Tryz.prog f xs B (noR (fun e=>r=.error e)):=by
 cases r with
 |ok w=>exact .inl (h.ret (fun x B' ⟨n,_,h1,_⟩=>by cases h1))
 |error e=>exact .inr (h.pan (fun r B' ⟨_,a,b,c,d,e',_,w,h1,_⟩=>by cases h1))
theorem Zui (st:Wk)(s:ByteArray)(r:Except Int Wk)(hl:ZaT Tryz.prog 121 [.ptr (.par 0) 0,.pv (.str s)] [(.par 0,st.box)] (okR (boxQ r)) (noR (fun e=>r=.error e))):
  Zai Tryz.prog 70 [.ptr (.par 0) 0,.pv (.str s)] [(.par 0,st.box)] (fun x B=>x=.pv (.int .i64 (st.next r).2)∧B=[(.par 0,(st.next r).1.box)]):=by
 cases r with
 |ok w=>
  refine ZsZ ((hl.ret (fun x B' ⟨n,_,h1,_⟩=>by cases h1)).mono ?_);rintro x B ⟨rfl,a,b,c,d,e,rfl,w',h1,h2⟩;cases h1;exact⟨rfl,by rw[h2];rfl⟩
 |error n=>
  refine Zs0 ((hl.pan (fun r B' ⟨_,a,b,c,d,e',_,w,h1,_⟩=>by cases h1)).mono ?_);rintro x B ⟨m,rfl,h1,a,b,c,d,e,rfl⟩;cases h1;exact⟨rfl,a,b,c,d,e,rfl⟩
def lineM (doW:FuncId→List Int→Except Int Wk)(s:ByteArray):Except Int Wk:=match ZaD s with
 |none=>.error 4
 |some (g,nums)=>doW g nums
theorem Zus (st:Wk)(doW:FuncId→List Int→Except Int Wk)(s:ByteArray)(hs:s.size≤1000)
  (hw:∀g nums,ZaD s=some (g,nums)→ZaT Tryz.prog g [.ptr (.par 0) 0,.pv (.lst false 1 (nums.map iP))] [(.par 0,st.box)] (okR (boxQ (doW g nums))) (noR (fun e=>doW g nums=.error e))):
  ZaT Tryz.prog 121 [.ptr (.par 0) 0,.pv (.str s)] [(.par 0,st.box)] (okR (boxQ (lineM doW s))) (noR (fun e=>lineM doW s=.error e)):=by
 refine Zur s hs (fun h=>?_) (fun g nums h=>?_)
 ·unfold lineM;rw[h]
 ·have e:lineM doW s=doW g nums:=by unfold lineM;rw[h]
  rw[e];exact Zr0 (hw g nums h)
theorem Zuc (st:Wk)(n:Int)(hn:-1000000000<n∧n<1000000000)(h:WkOk st)(hs:(st.lots.map Lt.num).Pairwise (·<·)):
  ZaT Tryz.prog 191 [.ptr (.par 0) 0,.pv (.lst false 1 [iP n])] [(.par 0,st.box)] (okR (boxQ ((passM (verdL st.certs st.bad st.tests) st.lots n).map fun l=>{ st with lots:=l }))) (noR (fun e=>(passM (verdL st.certs st.bad st.tests) st.lots n).map (fun l=>{ st with lots:=l })=.error e)):=by
 refine(Zub st.certs st.bad st.lots st.tests (runsP st.runs) n hn h.c h.b h.l h.t hs h.lt h.fit).mono ?_ ?_
 ·rintro r B ⟨rfl,a,b,c,d,e,rfl,l',h1,rfl,rfl,rfl,rfl,rfl⟩;exact⟨rfl,_,_,_,_,_,rfl,{ st with lots:=l' },by rw[h1];rfl,rfl⟩
 ·rintro x B ⟨m,rfl,h1,h2⟩;exact⟨m,rfl,by rw[h1];rfl,h2⟩
theorem Zt2 (st:Wk)(q:Tt)(hn:-1000000000<q.lot∧q.lot<1000000000)(h:WkOk st)(hs:(st.lots.map Lt.num).Pairwise (·<·)):
  ZaT Tryz.prog 190 [.ptr (.par 0) 0,.pv (.lst false 1 [iP q.lot,iP q.item,iP q.day,iP q.rd])] [(.par 0,st.box)] (okR (boxQ ((testM (stM st.certs st.bad) (verdL st.certs st.bad st.tests) st.lots st.tests q).map fun l=>{ st with tests:=l }))) (noR (fun e=>(testM (stM st.certs st.bad) (verdL st.certs st.bad st.tests) st.lots st.tests q).map (fun l=>{ st with tests:=l })=.error e)):=by
 refine(Zt1 st.certs st.bad st.lots st.tests (runsP st.runs) q hn h.c h.b h.l h.t hs h.lt h.fit).mono ?_ ?_
 ·rintro r B ⟨rfl,a,b,c,d,e,rfl,l',h1,rfl,rfl,rfl,rfl,rfl⟩;exact⟨rfl,_,_,_,_,_,rfl,{ st with tests:=l' },by rw[h1];rfl,rfl⟩
 ·rintro x B ⟨m,rfl,h1,h2⟩;exact⟨m,rfl,by rw[h1];rfl,h2⟩
theorem ZuJ (st:Wk)(x:Ct)(hl:st.certs.length≤900)(hb:st.bad.length≤1000):
  ZaT Tryz.prog 187 [.ptr (.par 0) 0,.pv (.lst false 1 [iP x.num,iP x.it,iP x.src,iP x.day,iP x.valid,iP x.diff.lo,iP x.diff.hi])] [(.par 0,st.box)] (okR (boxQ ((certM st.certs st.bad x).map fun l=>{ st with certs:=l }))) (noR (fun e=>(certM st.certs st.bad x).map (fun l=>{ st with certs:=l })=.error e)):=by
 refine(ZuI st.certs st.bad (lotsP st.lots) (ttsP st.tests) (runsP st.runs) x hl hb).mono ?_ ?_
 ·rintro r B ⟨rfl,a,b,c,d,e,rfl,l',h1,rfl,rfl,rfl,rfl,rfl⟩;exact⟨rfl,_,_,_,_,_,rfl,{ st with certs:=l' },by rw[h1];rfl,rfl⟩
 ·rintro x B ⟨m,rfl,h1,h2⟩;exact⟨m,rfl,by rw[h1];rfl,h2⟩
theorem run_w {F:Nat}(hF:407<F)(st:Wk)(h r o:Int)(hr:st.runs.length≤900):
  ZaT Tryz.prog 192 [.ptr (.par 0) 0,.pv (.lst false 1 [iP h,iP r,iP o])] [(.par 0,st.box)] (okR (boxQ ((runM F st.runs h r o).map fun l=>{ st with runs:=l }))) (noR (fun e=>(runM F st.runs h r o).map (fun l=>{ st with runs:=l })=.error e)):=by
 refine(run_x hF st.runs (ctsP st.certs) (bdsP st.bad) (lotsP st.lots) (ttsP st.tests) h r o hr).mono ?_ ?_
 ·rintro r' B ⟨rfl,a,b,c,d,e,rfl,l',h1,rfl,rfl,rfl,rfl,rfl⟩;exact⟨rfl,_,_,_,_,_,rfl,{ st with runs:=l' },by rw[h1];rfl,rfl⟩
 ·rintro x B ⟨m,rfl,h1,h2⟩;exact⟨m,rfl,by rw[h1];rfl,h2⟩
def ZdH (v:Int):Prop:=-1000000000<v∧v<1000000000
theorem Zhl:∀{r:List ByteArray} {l:List Int},numsB r=some l→l.length=r.length∧∀v∈l,ZdH v
 |[],l,h=>by cases h;exact⟨rfl,fun v hv=>by cases hv⟩
 |x::r,l,h=>by
  rw[Zde]at h;cases hx:numB x with
  |none=>rw[hx]at h;cases h
  |some n=>
   rw[hx]at h;obtain⟨l',h1,rfl⟩:=ZxP.1 h;obtain⟨h2,h3⟩:=Zhl h1;refine⟨by rw[Zyg,Zyg,h2],fun v hv=>?_⟩;rcases Zx2.1 hv with rfl|hv
   ·exact ZsV hx
   ·exact h3 v hv
theorem ZsN {s:ByteArray}{g:FuncId}{nums:List Int}(h:ZaD s=some (g,nums)):∃l0 k,wordB l0=some (k,g)∧nums.length=k∧∀v∈nums,ZdH v:=by
 unfold ZaD at h;split at h
 ·cases h
 ·rename_i l0 r _;split at h
  ·rename_i k g' hw;split at h
   ·rename_i hr;obtain⟨l,h1,h2⟩:=ZxP.1 h;cases h2;obtain⟨h3,h4⟩:=Zhl h1;exact⟨l0,k,hw,by omega,h4⟩
   ·cases h
  ·cases h
def badM (l:List Ct)(bad:List Int)(n:Int):Except Int (List Int):=
 if(l.any fun y=>decide (y.num=n))=true then(if n∈bad then .error 6 else .ok (bad.take (lowB bad n)++n::bad.drop (lowB bad n)))else .error 7
def lotM (ls:List Lt)(x:Lt):Except Int (List Lt):=
 if(decide (1≤x.num)&&decide (x.num≤99))=true∧(decide (4≤x.pieces)&&decide (x.pieces≤30))=true∧(decide (0≤x.limit)&&decide (x.limit≤1000))=true then
  (if x.num∈ls.map Lt.num then .error 6 else .ok (ls.take (lowB (ls.map Lt.num) x.num)++x::ls.drop (lowB (ls.map Lt.num) x.num)))
 else .error 2
def doW (F:Nat)(st:Wk)(g:FuncId)(nums:List Int):Except Int Wk:=
 if g=187 then(match nums with
  |[a,b,c,d,e,f,h]=>(certM st.certs st.bad { num:=a,it:=b,src:=c,day:=d,valid:=e,diff:=⟨f,h⟩}).map fun l=>{ st with certs:=l }
  |_=>.error 4)
 else if g=188 then(match nums with
  |[n]=>(badM st.certs st.bad n).map fun l=>{ st with bad:=l }
  |_=>.error 4)
 else if g=189 then(match nums with
  |[n,p,m]=>(lotM st.lots ⟨n,p,m,false⟩).map fun l=>{ st with lots:=l }
  |_=>.error 4)
 else if g=190 then(match nums with
  |[a,b,c,d]=>(testM (stM st.certs st.bad) (verdL st.certs st.bad st.tests) st.lots st.tests ⟨a,b,c,d⟩).map fun l=>{ st with tests:=l }
  |_=>.error 4)
 else if g=191 then(match nums with
  |[n]=>(passM (verdL st.certs st.bad st.tests) st.lots n).map fun l=>{ st with lots:=l }
  |_=>.error 4)
 else(match nums with
  |[h,r,o]=>(runM F st.runs h r o).map fun l=>{ st with runs:=l }
  |_=>.error 4)
def BadOk (st:Wk):Prop:=∀n,ZdH n→ZaT Tryz.prog 188 [.ptr (.par 0) 0,.pv (.lst false 1 [iP n])] [(.par 0,st.box)] (okR (boxQ ((badM st.certs st.bad n).map fun l=>{ st with bad:=l }))) (noR (fun e=>(badM st.certs st.bad n).map (fun l=>{ st with bad:=l })=.error e))
def LotOk (st:Wk):Prop:=∀n p m,ZdH n→ZdH p→ZdH m→ZaT Tryz.prog 189 [.ptr (.par 0) 0,.pv (.lst false 1 [iP n,iP p,iP m])] [(.par 0,st.box)] (okR (boxQ ((lotM st.lots ⟨n,p,m,false⟩).map fun l=>{ st with lots:=l }))) (noR (fun e=>(lotM st.lots ⟨n,p,m,false⟩).map (fun l=>{ st with lots:=l })=.error e))
theorem do_w {F:Nat}(hF:407<F)(st:Wk)(h:WkOk st)(hc:st.certs.length≤900)(hr:st.runs.length≤900)(hs:(st.lots.map Lt.num).Pairwise (·<·))(hB:BadOk st)(hL:LotOk st){l0:ByteArray}{k:Nat}{g:FuncId}{nums:List Int}(hw:wordB l0=some (k,g))(hk:nums.length=k)(hn:∀v∈nums,ZdH v):
  ZaT Tryz.prog g [.ptr (.par 0) 0,.pv (.lst false 1 (nums.map iP))] [(.par 0,st.box)] (okR (boxQ (doW F st g nums))) (noR (fun e=>doW F st g nums=.error e)):=by
 unfold wordB at hw;split at hw
 ·cases hw
  match nums,hk,hn with
  |[a,b,c,d,e,f,i],_,_=>exact ZuJ st { num:=a,it:=b,src:=c,day:=d,valid:=e,diff:=⟨f,i⟩} hc h.b
 split at hw
 ·cases hw
  match nums,hk,hn with
  |[n],_,hn=>exact hB n (hn n (by simp))
 split at hw
 ·cases hw
  match nums,hk,hn with
  |[n,p,m],_,hn=>exact hL n p m (hn n (by simp)) (hn p (by simp)) (hn m (by simp))
 split at hw
 ·cases hw
  match nums,hk,hn with
  |[a,b,c,d],_,hn=>exact Zt2 st ⟨a,b,c,d⟩ (hn a (by simp)) h hs
 split at hw
 ·cases hw
  match nums,hk,hn with
  |[n],_,hn=>exact Zuc st n (hn n (by simp)) h hs
 split at hw
 ·cases hw
  match nums,hk,hn with
  |[a,r,o],_,_=>exact run_w hF st a r o hr
 cases hw
def doB (F:Nat)(st:Wk)(s:ByteArray):Wk×Int:=st.next (lineM (doW F st) s)
theorem doB_c {F:Nat}(hF:407<F)(st:Wk)(s:ByteArray)(hz:s.size≤1000)(h:WkOk st)(hc:st.certs.length≤900)(hr:st.runs.length≤900)(hs:(st.lots.map Lt.num).Pairwise (·<·))(hB:BadOk st)(hL:LotOk st):
  Zai Tryz.prog 70 [.ptr (.par 0) 0,.pv (.str s)] [(.par 0,st.box)] (fun x B=>x=.pv (.int .i64 (doB F st s).2)∧B=[(.par 0,(doB F st s).1.box)]):=
 Zui st s _ (Zus st _ s hz fun g nums hp=>by
  obtain⟨l0,k,h1,h2,h3⟩:=ZsN hp;exact do_w hF st h hc hr hs hB hL h1 h2 h3)
end
section
attribute [local simp] Box.Zu0 Site.Zu1
attribute [local irreducible] Bk.held Bk.nums Bk.Zvi
set_option linter.unusedSimpArgs false
end
section
attribute [local simp] Box.Zu0 Site.Zu1
theorem ZiF {b:Bk}{bad:List Int}:∀k,(b.Zvi bad k).length≤k
 |0=>ZxR _
 |k+1=>by
  rw[Zex,ZxU]
  have:=ZiF (b:=b) (bad:=bad) k
  split<;>simp<;>omega
attribute [local irreducible] Bk.held Bk.nums Bk.Zvi
attribute [local simp] retFz frzL AS.frz AV.frz AV.frzL Box.frz AS.tidy AS.ZvF
end
section
attribute [local simp] Box.Zu0 Site.Zu1

attribute [local irreducible] Bk.held Bk.nums Bk.Zvi
set_option linter.unusedSimpArgs false
theorem Zqk {b:Bk}{bad:List Int}:(b.held bad).length≤1000:=by
 have:b.held bad=b.Zvi bad 1000:=by unfold Bk.held;rfl
 rw[this];exact ZiF 1000
section
attribute [local simp] retFz frzL AS.frz AV.frz AV.frzL Box.frz AS.tidy AS.ZvF
end
end
section
def szP (S:Int→Cr)(H:List Int)(i:Nat):PV:=if i<2000 then(.int .i64 (if i%2=0 then(S ((i / 2:Nat):Int)).lo else(S ((i / 2:Nat):Int)).hi))else .lst false 1 (H.map intP)
def szL (S:Int→Cr)(H:List Int):List AV:=(List.range 2001).map fun i:Nat=>.pv (szP S H i)
variable {S:Int→Cr}{H:List Int}
theorem Zjf:(szL S H).length=2001:=by unfold szL;simp
theorem Zsf {i:Nat}(h:i<2001):(szL S H)[i]?=some (.pv (szP S H i)):=by
 unfold szL;rw[ZxM,List.getElem?_range h];rfl
theorem Zg3:(szL S H)[2000]?=some (.pv (.lst false 1 (H.map intP))):=by
 rw[Zsf (by omega)];unfold szP;rw[if_neg (by omega)]
theorem Zjg (d:Nat):AV.ZvL d (szL S H)=false:=Zfx _
theorem Zjh (q:Site→Bool):AV.Zu4 q (szL S H)=true:=Zfy _
theorem Zfd (d:Nat):(szL S H).map (AV.Zu0 d)=szL S H:=Zfv _
theorem Zje (g:Site→Site):AV.Zu9 g (szL S H)=szL S H:=Zfw _
attribute [irreducible] szL
attribute [local irreducible] Bk.held Bk.nums Bk.Zvi Bk.span
attribute [local simp] AS.exp expG Box.ren AV.map AV.Zu9 Zau noRet Site.Zu6 Box.Zu3 AV.Zu3 AV.Zu4 retB dropL AS.Zvd renL outG outOk Zas inG fnOf lookA Zyc
attribute [local simp] Box.Zu0 Site.Zu1
attribute [local simp] Zjg Zjh Zfd Zje Zg3 Zjf
end
section
def Bk.spK (b:Bk)(k:Nat)(m:Int):Cr:=if((b.held []).take k).contains m=true then b.span (b.held []) m else⟨0,0⟩
attribute [local irreducible] Bk.held Bk.nums Bk.Zvi Bk.span
def Bk.spI (b:Bk)(k:Nat)(n:Int)(i:Nat):Int→Cr:=if((b.certs.take i).any fun c=>decide (c.num=n))=true then b.spK (k+1)else b.spK k
def szPs (S:Int→Cr)(H:List Int):List PV:=(List.range 2001).map (szP S H)
attribute [irreducible] szPs
attribute [local irreducible] Bk.spK Bk.spI
attribute [local simp] AS.exp expG Box.ren AV.map AV.Zu9 Zau noRet Site.Zu6 Box.Zu3 AV.Zu3 AV.Zu4 retB dropL AS.Zvd renL outG outOk Zas inG fnOf lookA Zyc
attribute [local simp] Box.Zu0 Site.Zu1
attribute [local simp] Zjg Zjh Zfd Zje Zg3 Zjf
end
section
attribute [local irreducible] Bk.held Bk.nums Bk.Zvi Bk.span
attribute [local simp] AS.exp expG Box.ren AV.map AV.Zu9 Zau noRet Site.Zu6 Box.Zu3 AV.Zu3 AV.Zu4 retB dropL AS.Zvd renL outG outOk Zas inG fnOf lookA Zyc
attribute [local simp] Box.Zu0 Site.Zu1
attribute [local simp] Zjg Zjh Zfd Zje Zg3 Zjf
end
section
attribute [local simp] AS.exp expG Box.ren AV.map AV.Zu9 Zau noRet Site.Zu6 Box.Zu3 AV.Zu3 AV.Zu4 retB dropL AS.Zvd renL outG outOk Zas inG fnOf lookA Zyc
attribute [local simp] Box.Zu0 Site.Zu1
section
attribute [local simp] retFz frzL AS.frz AV.frz AV.frzL Box.frz AS.tidy AS.ZvF


end
end
section
attribute [local irreducible] Bk.held Bk.nums Bk.Zvi Bk.span
attribute [local simp] AS.exp expG Box.ren AV.map AV.Zu9 Zau noRet Site.Zu6 Box.Zu3 AV.Zu3 AV.Zu4 retB dropL AS.Zvd renL outG outOk Zas inG fnOf lookA Zyc
attribute [local simp] Box.Zu0 Site.Zu1
end
section
section
attribute [local simp] Box.Zu0 Site.Zu1
attribute [local simp] retFz frzL AS.frz AV.frz AV.frzL Box.frz AS.tidy AS.ZvF
end
end
section

attribute [local irreducible] Bk.held Bk.nums Bk.Zvi Bk.span
section
variable {b b':Bk}{t:Int}
theorem Ztj (hb:b.ok){item day:Int}(h:b.Zva item day=true):(b.item item).std=true∨∃o∈b.certs,Bk.ofB item day 1000 o=true∧o.num∈b.held []:=by
 unfold Bk.Zva at h;rw[Zyk,Zo7 hb,Zya]at h;rcases h with h|⟨o,ho,h⟩
 ·exact .inl h
 ·rw[ZxO,Zx4]at h;exact .inr ⟨o,ho,h.1,h.2⟩
theorem Zrh {item day:Int}(h:b.Zv1 item day=0):b.Zva item day=true:=by
 unfold Bk.Zv1 at h;split at h
 ·split at h
  ·split at h
   ·assumption
   ·cases h
  ·cases h
 ·rename_i h0;exact absurd h h0
theorem Zrg {item day:Int}(h:b.Zv1 item day=0):0≤item∧item<b.items.length∧0≤day∧day≤1000:=by
 unfold Bk.Zv1 at h;split at h
 ·split at h
  ·rename_i h1;unfold Bk.Zvb inB at h1;simp only[ZxO,decide_eq_true_eq]at h1;omega
  ·cases h
 ·rename_i h0;exact absurd h h0
theorem ZmI (hb:b.ok)(item day:Int):(b.Zvf item day).1.bdd 1000000000:=by
 unfold Bk.Zvf;split
 ·rename_i h;split
  ·unfold Cr.bdd;simp only;omega
  ·obtain⟨h1,h2,_⟩:=Zrg h
   have:=Zhy hb (held:=b.held []) (S:=b.span (b.held [])) (item:=item) (day:=day) (below:=1000) (A:=300000*1000) h1 h2 (by omega) (by omega) (Ztj hb (Zrh h)) (fun o ho _ hox=>by
    have:=ZeQ hb o ho hox
    have:=(Za1 hb ho).2.1
    unfold Cr.bdd at *
    omega)
   show Cr.bdd (b.Zu2 (b.held []) (b.span (b.held [])) item day 1000) 1000000000;unfold Cr.bdd at *;omega
 ·unfold Cr.bdd;simp only;omega
end
end
section
section
attribute [local irreducible] Bk.Zvh earlE
theorem Zjx {y x:Int}{r:List Int}(h:y<x):lowB (y::r) x=lowB r x+1:=by
 unfold lowB;rw[Zyt,if_pos (by simpa using h)];rfl
theorem Zjy {y x:Int}{r:List Int}(hs:(y::r).Pairwise (·<·))(h:¬y<x):lowB (y::r) x=0:=by
 obtain⟨h1,_⟩:=List.pairwise_cons.1 hs;unfold lowB;rw[Zyt,if_neg (by simpa using h)];rw[List.length_eq_zero_iff,List.filter_eq_nil_iff];intro z hz
 have:=h1 z hz
 simp;omega
theorem Zgy {l:List Int}{x:Int}:lowB l x≤l.length:=ZyB _ _
def insB {α:Type}(l:List α)(i:Nat)(x:α):List α:=l.take i++x::l.drop i
theorem Zdh {α:Type}{l:List α}{i:Nat}{x z:α}:z∈insB l i x↔z=x∨z∈l:=by
 unfold insB;rw[Zyp,Zx2];constructor
 ·rintro(h|h|h)
  ·exact .inr (List.mem_of_mem_take h)
  ·exact .inl h
  ·exact .inr (List.mem_of_mem_drop h)
 ·rintro(h|h)
  ·exact .inr (.inl h)
  ·rw[←List.take_append_drop i l]at h;rcases Zyp.1 h with h|h
   ·exact .inl h
   ·exact .inr (.inr h)
theorem Zce {α:Type}{l:List α}{i:Nat}{x:α}(h:i≤l.length):(insB l i x).length=l.length+1:=by
 unfold insB;rw[ZxU,Zyg,ZxT,Zyn];omega
theorem ZhC {α β:Type}{f:α→β}{l:List α}{i:Nat}{x:α}:(insB l i x).map f=insB (l.map f) i (f x):=by
 unfold insB;rw[Zyb,ZxZ,List.map_take,List.map_drop]
theorem Zdz {x:Int}:∀{l:List Int},l.Pairwise (·<·)→x∉l→(insB l (lowB l x) x).Pairwise (·<·)
 |[],_,_=>by simp[insB,lowB]
 |y::r,hs,hn=>by
  obtain⟨h1,h2⟩:=List.pairwise_cons.1 hs;by_cases hy:y<x
  ·rw[Zjx hy];have ih:=Zdz h2 (fun h=>hn (List.mem_cons_of_mem _ h));show(y::insB r (lowB r x) x).Pairwise (·<·);refine List.pairwise_cons.2 ⟨fun z hz=>?_,ih⟩;rcases Zdh.1 hz with rfl|h
   ·exact hy
   ·exact h1 z h
  ·rw[Zjy hs hy];show(x::y::r).Pairwise (·<·);have hxy:x<y:=by
    have:x≠y:=fun e=>hn (by rw[e];exact List.mem_cons_self ..)
    omega
   refine List.pairwise_cons.2 ⟨fun z hz=>?_,hs⟩;rcases Zx2.1 hz with rfl|h
   ·exact hxy
   ·have:=h1 z h;omega
structure WkI (k:Nat)(st:Wk):Prop where
 c:st.certs.length≤k
 b:st.bad.length≤k
 l:st.lots.length≤k
 t:st.tests.length≤k
 r:st.runs.length≤k
 bk:Bk.ok ⟨Za0,st.certs⟩
 bs:st.bad.Pairwise (·<·)
 bn:∀n∈st.bad,∃y∈st.certs,y.num=n
 s:(st.lots.map Lt.num).Pairwise (·<·)
 lt:∀x∈st.lots,ltOk x∧0≤x.limit∧x.limit≤1000
 tt:∀t∈st.tests,2≤t.item∧t.item≤5∧0≤t.day∧t.day≤1000∧0≤t.rd∧t.rd≤2000∧∃x∈st.lots,x.num=t.lot
 on:∀r∈st.runs,∃h q o,r=newR h q o∧1≤h∧h≤40∧0≤q∧q≤40∧1≤o∧o≤3
 r6:st.runs.length≤6
theorem ZiB:Bk.ok ⟨Za0,[]⟩:=Bk.Zvx.1 (by decide)
theorem wk0_I:WkI 0 wk0:=⟨ZxR _,ZxR _,ZxR _,ZxR _,ZxR _,ZiB,.nil,fun n h=>(by cases h),.nil,fun x h=>(by cases h),fun t h=>(by cases h),fun r h=>(by cases h),by decide⟩
theorem WkI.mono {k k':Nat}{st:Wk}(h:WkI k st)(hk:k≤k'):WkI k' st:=
 ⟨Zx5 h.c hk,Zx5 h.b hk,Zx5 h.l hk,Zx5 h.t hk,Zx5 h.r hk,h.bk,h.bs,h.bn,h.s,h.lt,h.tt,h.on,h.r6⟩
theorem Zda {l:List Ct}{bad:List Int}(h:Bk.ok ⟨Za0,l⟩):(Zam l bad).ok:=
 ⟨h.i,Zx5 (ZyB _ _) h.c,h.it,fun x hx=>h.ct x (ZxX.1 hx).1,fun x hx y hy=>h.one x (ZxX.1 hx).1 y (ZxX.1 hy).1,fun x hx y hy=>h.day x (ZxX.1 hx).1 y (ZxX.1 hy).1⟩
theorem WkI.fit {k:Nat}{st:Wk}(h:WkI k st):spFit st.certs st.bad st.tests:=fun t ht=>by
 have h1:=ZmI (Zda (bad:=st.bad) h.bk) t.item t.day;obtain⟨_,_,_,_,h2,h3,_⟩:=h.tt t ht;unfold Cr.bdd at h1;exact wrap64 (by omega)
theorem WkI.ok {k:Nat}{st:Wk}(h:WkI k st)(hk:k≤150):WkOk st:=
 ⟨by have:=h.c;omega,by have:=h.b;omega,by have:=h.l;omega,by have:=h.t;omega,by have:=h.r;omega,fun x hx=>(h.lt x hx).1,h.fit,fun r hr=>by
  obtain⟨a,b,c,rfl,_⟩:=h.on r hr;show 2≤1000
  omega⟩
theorem ZaP {α β:Type}{r:Except Int α}{f:α→β}{w:β}(h:r.map f=.ok w):∃l,r=.ok l∧w=f l:=by
 cases r with
 |ok l=>cases h;exact⟨l,rfl,rfl⟩
 |error e=>cases h
theorem Zlp {l l':List Ct}{bad:List Int}{x:Ct}(h:certM l bad x=.ok l'):l'=l++[x]∧Bk.ok ⟨Za0,l++[x]⟩∧(Zam (l++[x]) bad).Zvh.2=7∧∀y∈l,y.num≠x.num:=by
 unfold certM at h;split at h
 ·cases h
 ·rename_i h0;split at h
  ·rename_i h1;split at h
   ·rename_i h2;cases h;refine⟨rfl,Bk.Zvx.1 h1,h2,fun y hy e=>h0 ?_⟩;exact Zya.2 ⟨y,hy,by simpa using e⟩
   ·cases h
  ·cases h
theorem ZoX {l:List Ct}{bad b':List Int}{n:Int}(h:badM l bad n=.ok b'):(∃y∈l,y.num=n)∧n∉bad∧b'=insB bad (lowB bad n) n:=by
 unfold badM at h;split at h
 ·rename_i h0;split at h
  ·cases h
  ·rename_i h1;cases h;obtain⟨y,hy,e⟩:=Zya.1 h0;exact⟨⟨y,hy,by simpa using e⟩,h1,rfl⟩
 ·cases h
theorem ZnN {ls l':List Lt}{x:Lt}(h:lotM ls x=.ok l'):(ltOk x∧0≤x.limit∧x.limit≤1000)∧x.num∉ls.map Lt.num∧l'=insB ls (lowB (ls.map Lt.num) x.num) x:=by
 unfold lotM at h;split at h
 ·rename_i h0;split at h
  ·cases h
  ·rename_i h1;cases h;simp only[ZxO,decide_eq_true_eq]at h0;exact⟨⟨⟨h0.1.1,h0.1.2,h0.2.1.1,h0.2.1.2⟩,h0.2.2⟩,h1,rfl⟩
 ·cases h
theorem Zkk {S:Int→Int→Bool}{v:Lt→Int}{ls:List Lt}{ts l':List Tt}{q:Tt}(h:testM S v ls ts q=.ok l'):l'=ts++[q]∧(2≤q.item∧q.item≤5∧0≤q.day∧q.day≤1000∧0≤q.rd∧q.rd≤2000)∧S q.item q.day=true∧∃x∈ls,x.num=q.lot∧x.passed=false∧v x=3∧(manyT ts q.lot:Int)<x.pieces:=by
 unfold testM at h;split at h
 ·rename_i h0;split at h
  ·rename_i x hx;split at h
   ·rename_i h1;split at h
    ·cases h
    ·rename_i h2;split at h
     ·rename_i h3;split at h
      ·rename_i h4;split at h
       ·rename_i h5;cases h;simp only[ZxO,decide_eq_true_eq]at h0;exact⟨rfl,⟨h0.1.1,h0.1.2,h0.2.1.1,h0.2.1.2,h0.2.2.1,h0.2.2.2⟩,h5,x,ZxQ hx,h1,by simpa using h2,h3,h4⟩
       ·cases h
      ·cases h
     ·cases h
   ·cases h
  ·cases h
 ·cases h
theorem Zhf {v:Lt→Int}{ls l':List Lt}{n:Int}(h:passM v ls n=.ok l'):∃i x,ls[i]?=some x∧x.num=n∧x.passed=false∧v x=1∧l'=ls.set i { x with passed:=true }:=by
 unfold passM at h;split at h
 ·rename_i x hx;split at h
  ·rename_i h1;split at h
   ·cases h
   ·rename_i h2;split at h
    ·cases h
    ·split at h
     ·rename_i h4;cases h;exact⟨_,x,hx,h1,by simpa using h2,h4,rfl⟩
     ·cases h
  ·cases h
 ·cases h
theorem Zjk {F:Nat}{rs l':List Qn.Rq}{a r o:Int}(h:runM F rs a r o=.ok l'):l'=rs++[newR a r o]∧(1≤a∧a≤40∧0≤r∧r≤40∧1≤o∧o≤3)∧rs.length<6∧earlE F (ZaJ (rs++[newR a r o]))=0:=by
 unfold runM at h;split at h
 ·rename_i h0;split at h
  ·rename_i h1;split at h
   ·rename_i h2;cases h;simp only[ZxO,decide_eq_true_eq]at h0;exact⟨rfl,⟨h0.1.1,h0.1.2,h0.2.1.1,h0.2.1.2,h0.2.2.1,h0.2.2.2⟩,h1,h2⟩
   ·cases h
  ·cases h
 ·cases h
theorem ZmW {ls:List Lt}{i:Nat}{x:Lt}(h:ls[i]?=some x):(ls.set i { x with passed:=true }).map Lt.num=ls.map Lt.num:=by
 rw[List.map_set];apply List.ext_getElem?;intro j;rw[List.getElem?_set];split
 ·rename_i e;subst e;obtain⟨hl,hx⟩:=ZxN.1 h;rw[ZxS,if_pos hl,ZxM,h];rfl
 ·rfl
theorem WkI.step {F:Nat}{k:Nat}{st w:Wk}{g:FuncId}{nums:List Int}(h:WkI k st)(hw:doW F st g nums=.ok w):WkI (k+1) w:=by
 have h':=h.mono (Nat.le_succ k);unfold doW at hw;split at hw
 ·split at hw
  ·obtain⟨l,h1,rfl⟩:=ZaP hw;obtain⟨rfl,h2,_,_⟩:=Zlp h1;exact⟨by rw[ZxU];exact Nat.succ_le_succ h.c,h'.b,h'.l,h'.t,h'.r,h2,h.bs,fun n hn=>by
    obtain⟨y,hy,e⟩:=h.bn n hn;exact⟨y,List.mem_append_left _ hy,e⟩,h.s,h.lt,h.tt,h.on,h.r6⟩
  ·cases hw
 split at hw
 ·split at hw
  ·obtain⟨l,h1,rfl⟩:=ZaP hw;obtain⟨h2,h3,rfl⟩:=ZoX h1;exact⟨h'.c,by rw[Zce Zgy];exact Nat.succ_le_succ h.b,h'.l,h'.t,h'.r,h.bk,Zdz h.bs h3,fun n hn=>by
    rcases Zdh.1 hn with rfl|hn
    ·exact h2
    ·exact h.bn n hn,h.s,h.lt,h.tt,h.on,h.r6⟩
  ·cases hw
 split at hw
 ·split at hw
  ·obtain⟨l,h1,rfl⟩:=ZaP hw;obtain⟨h2,h3,rfl⟩:=ZnN h1;have hle:∀x,lowB (st.lots.map Lt.num) x≤(st.lots.map Lt.num).length:=fun x=>Zgy
   simp only[ZxS]at hle;refine⟨h'.c,h'.b,by rw[Zce (hle _)];exact Nat.succ_le_succ h.l,h'.t,h'.r,h.bk,h.bs,h.bn,?_,fun x hx=>?_,fun t ht=>?_,h.on,h.r6⟩
   ·rw[ZhC];exact Zdz h.s h3
   ·rcases Zdh.1 hx with rfl|hx
    ·exact h2
    ·exact h.lt x hx
   ·obtain⟨a1,a2,a3,a4,a5,a6,y,hy,e⟩:=h.tt t ht;exact⟨a1,a2,a3,a4,a5,a6,y,Zdh.2 (.inr hy),e⟩
  ·cases hw
 split at hw
 ·split at hw
  ·obtain⟨l,h1,rfl⟩:=ZaP hw;obtain⟨rfl,h2,_,x,hx,h3,_⟩:=Zkk h1;refine⟨h'.c,h'.b,h'.l,by rw[ZxU];exact Nat.succ_le_succ h.t,h'.r,h.bk,h.bs,h.bn,h.s,h.lt,fun t ht=>?_,h.on,h.r6⟩;rcases Zyp.1 ht with ht|ht
   ·exact h.tt t ht
   ·rw[Zyi]at ht;subst ht;obtain⟨a1,a2,a3,a4,a5,a6⟩:=h2;exact⟨a1,a2,a3,a4,a5,a6,x,hx,h3⟩
  ·cases hw
 split at hw
 ·split at hw
  ·obtain⟨l,h1,rfl⟩:=ZaP hw;obtain⟨i,x,hx,h2,h3,_,rfl⟩:=Zhf h1;have hm:∀y∈st.lots.set i { x with passed:=true },∃z∈st.lots,y.num=z.num∧y.pieces=z.pieces∧y.limit=z.limit:=fun y hy=>by
    rcases List.mem_or_eq_of_mem_set hy with hy|rfl
    ·exact⟨y,hy,rfl,rfl,rfl⟩
    ·exact⟨x,ZxQ hx,rfl,rfl,rfl⟩
   refine⟨h'.c,h'.b,by rw[List.length_set];exact h'.l,h'.t,h'.r,h.bk,h.bs,h.bn,?_,fun y hy=>?_,fun t ht=>?_,h.on,h.r6⟩
   ·rw[ZmW hx];exact h.s
   ·obtain⟨z,hz,e1,e2,e3⟩:=hm y hy
    have:=h.lt z hz
    unfold ltOk at *;rw[e1,e2,e3];exact this
   ·obtain⟨a1,a2,a3,a4,a5,a6,y,hy,e⟩:=h.tt t ht;refine⟨a1,a2,a3,a4,a5,a6,?_⟩
    have:y.num∈(st.lots.set i { x with passed:=true }).map Lt.num:=by rw[ZmW hx];exact List.mem_map_of_mem hy
    obtain⟨z,hz,e'⟩:=ZxY.1 this;exact⟨z,hz,by rw[e',e]⟩
  ·cases hw
 ·split at hw
  ·obtain⟨l,h1,rfl⟩:=ZaP hw;obtain⟨rfl,h2,h3,_⟩:=Zjk h1;refine⟨h'.c,h'.b,h'.l,h'.t,by rw[ZxU];exact Nat.succ_le_succ h.r,h.bk,h.bs,h.bn,h.s,h.lt,h.tt,fun r hr=>?_,by rw[ZxU];exact h3⟩;rcases Zyp.1 hr with hr|hr
   ·exact h.on r hr
   ·rw[Zyi]at hr;subst hr;exact⟨_,_,_,rfl,h2⟩
  ·cases hw
theorem WkI.next {F:Nat}{k:Nat}{st:Wk}(h:WkI k st)(s:ByteArray):WkI (k+1) (doB F st s).1:=by
 unfold doB lineM;cases hp:ZaD s with
 |none=>exact h.mono (Nat.le_succ k)
 |some q=>
  obtain⟨g,nums⟩:=q;dsimp only;cases hd:doW F st g nums with
  |error e=>exact h.mono (Nat.le_succ k)
  |ok w=>exact h.step hd
end
end
section
open Go.RowKit Go.Shelf
theorem ZbF {P:Program}(w:World)(dT sT ty elem:TypeId){k:Nat}(g q dl dc sl sc:Nat)(a:Addr)(cs:Array Value)(T:TypeId)(ds:List Value)(hu:P.underlying dT=some (.slice elem))(hs:sizeT P elem=some k)
  (hg:w.heap[g]?=some (.cells cs T (0,0))) (hl:ds.length=Nat.min sl dl*k) (hsrc:∀j v,ds[j]?=some v→w.cell? (a.add j)=some v) (hfit:q+ds.length≤cs.size) (h1:∀v∈ds,v.oneCell'=true):
  (Builtin.copy_ #[dT,sT] ty #[.slice (some ⟨g,q,none⟩) dl dc,.slice (some a) sl sc]).run P w=.ok (goInt (Nat.min sl dl)) (w.setRow g (splice cs.toList q ds).toArray):=by
 have hld:=run_loadCells_list (P:=P) w a ds hsrc;have hst:=run_storeCells_at P g q T ds 0 cs w hg (by simpa using hfit) h1;simp only[Nat.add_zero]at hst;simp[Builtin.copy_,run_underlying hu,Builtin.lenOf,Builtin.firstCells,Go.Proofs.YtfpmaennjlggeaaGreatDoor.run_sizeOf hs,←hl,hld,hst,splice]
def Zbb (TE:TypeId)(k b n:Nat)(els:List Value)(w:World)(e:Ending)(w':World):Prop:=
 ∃b' o' c' cs',e=.returned (.slice (some ⟨b',o',none⟩) (n+1) c')∧w'.heap[b']?=some (.cells cs' TE (0,0))∧(∀j,j<(n+1)*k→cs'[o'+j]?=els[j]?)∧o'+c'*k≤cs'.size∧n+1≤c'∧c'≤maxLen∧(b'=b∨w.heap.size≤b')∧Keep [b] w w'
theorem nminL {a b:Nat}(h:a≤b):Nat.min a b=a:=Nat.min_eq_left h
theorem nminR {a b:Nat}(h:b≤a):Nat.min a b=b:=Nat.min_eq_right h
theorem Zdy (w:World)(bs:List Nat):Keep bs w w.drew:=⟨rfl,rfl,rfl,ZxR _,fun _ _ _=>rfl⟩
theorem size4:sizeT Tryz.prog 68=some 4:=by kernel_rfl
set_option maxRecDepth 100000 in
theorem ZhA (b o n c vb vo vc:Nat)(cb:Array Value)(olds news:List Value)(w:World)(hb:w.heap[b]?=some (.cells cb 68 (0,0)))(hroom:n+1≤c)(hfit:o+c*4≤cb.size)(hc63:c≤maxLen)
  (hol:olds.length=n*4) (hoc:∀j v,olds[j]?=some v→cb[o+j]?=some v) (hnl:news.length=4) (hnc:∀j v,news[j]?=some v→w.cell? ⟨vb,vo+j,none⟩=some v) (h1:∀v∈news,v.oneCell'=true):
  Calls Tryz.prog 221 #[.slice (some ⟨b,o,none⟩) n c,.int .i64 n,.slice (some ⟨vb,vo,none⟩) 1 vc] w (Zbb 68 4 b n (olds++news) w):=by
 have hc63':c≤9223372036854775807:=by unfold maxLen at hc63;omega
 obtain⟨i,z,hi,hz,hsz,hby,hzs⟩:∃i z,Tryz.prog.info? 68=some i∧i.zero=some z∧i.size=4∧i.bytes=32∧z.cells.size=4:=⟨_,_,rfl,rfl,rfl,rfl,rfl⟩;have hf:(Builtin.firstCells i.size 1 (.slice (some ⟨vb,vo,none⟩) 1 vc)).run Tryz.prog w=.ok news.toArray w:=by
  rw[hsz];exact run_firstCells_some (P:=Tryz.prog) w 4 1 ⟨vb,vo,none⟩ 1 vc news (by omega) (fun j u hj=>by rw[Addr.add_lit];exact hnc j u hj)
 have hrun:∀ty,(Builtin.append_ #[27,27] ty #[.slice (some ⟨b,o,none⟩) n c,.slice (some ⟨vb,vo,none⟩) 1 vc]).run Tryz.prog w=_:=fun ty=>
  Zdb (P:=Tryz.prog) (w:=w) (ty:=ty) Tryz.underlying27 hi b o n c cb hb (some ⟨vb,vo,none⟩) 1 vc news hf h1 hroom (by rw[hsz];omega)
 have hcl:cb.toList.length=cb.size:=Zyf;have fin:Zbb 68 4 b n (olds++news) w (.returned (.slice (some ⟨b,o,none⟩) (n+1) c)) (w.setRow b (splice cb.toList (o+n*4) news).toArray):=by
  refine⟨b,o,c,_,rfl,setRow_heap w b cb _ _ _ hb,fun j hj=>?_,?_,hroom,hc63,.inl rfl,Keep.setRow w _ _⟩
  ·rw[Zyo,Zao (by omega),Zyl,Zyu];split
   ·rename_i h;rw[if_pos (by omega)];have hv:=ZxL (show j<olds.length by omega);rw[hv];exact hoc j _ hv
   ·rename_i h;rw[if_pos (by omega),if_neg (by omega)];congr 1;omega
  ·rw[Zyd,Zat (by omega),hcl];exact hfit
 rw[hsz]at hrun;clear hf hoc hnc hcl;go_enter Tryz.func221,Tryz.ntmps221;go_wp2_with (at_builtin;refine Lib.wpList_append_run _ rfl _ _ _ _ rfl _ _ rfl rfl _ _ (hrun _) ?_)
 all_goals (go_ret;first|exact fin|(simp only[splice,List.append_assoc,hnl]at fin;exact fin)|(simp[splice,hnl]at fin;exact fin))
set_option maxRecDepth 100000 in
theorem ZdU (b:Nat)(base:Option Addr)(n c vb vo vc:Nat)(olds news:List Value)(w:World)(hroom:c<n+1)(hn:n≤1000000)(hnil:base=none→n=0∧c=0)(hcc:n≤c)
  (hol:olds.length=n*4) (hoc:∀j v,olds[j]?=some v→∃A,base=some A∧w.cell? (A.add j)=some v) (hnl:news.length=4) (hnc:∀j v,news[j]?=some v→w.cell? ⟨vb,vo+j,none⟩=some v):
  Calls Tryz.prog 221 #[.slice base n c,.int .i64 n,.slice (some ⟨vb,vo,none⟩) 1 vc] w (Zbb 68 4 b n (olds++news) w):=by
 obtain⟨i,z,hi,hz,hsz,hby,hzs⟩:∃i z,Tryz.prog.info? 68=some i∧i.zero=some z∧i.size=4∧i.bytes=32∧z.cells.size=4:=⟨_,_,rfl,rfl,rfl,rfl,rfl⟩;have hf:∀w',(∀A,w'.cell? A=w.cell? A)→(Builtin.firstCells i.size 1 (.slice (some ⟨vb,vo,none⟩) 1 vc)).run Tryz.prog w'=.ok news.toArray w':=fun w' hw=>by
  rw[hsz];exact run_firstCells_some (P:=Tryz.prog) w' 4 1 ⟨vb,vo,none⟩ 1 vc news (by omega) (fun j u hj=>by rw[Addr.add_lit,hw];exact hnc j u hj)
 have ho:∀w',(∀A,w'.cell? A=w.cell? A)→(Builtin.firstCells i.size n (.slice base n c)).run Tryz.prog w'=.ok olds.toArray w':=fun w' hw=>by
  rw[hsz];cases base with
  |none=>
   obtain⟨rfl,rfl⟩:=hnil rfl;rw[List.length_eq_zero_iff.1 hol];exact run_firstCells_none w' 4 0 0 0
  |some a=>exact run_firstCells_some (P:=Tryz.prog) w' 4 n a n c olds hol (fun j u hj=>by
    obtain⟨A,e,h⟩:=hoc j u hj;cases e;rw[hw];exact h)
 have hrun:∀ty,(Builtin.append_ #[27,27] ty #[.slice base n c,.slice (some ⟨vb,vo,none⟩) 1 vc]).run Tryz.prog w=_:=fun ty=>
  Zei (P:=Tryz.prog) (w:=w) (ty:=ty) Tryz.underlying27 hi hz base n c (some ⟨vb,vo,none⟩) 1 vc olds news ho hf (by omega) (by omega) (growslice_fits (by omega) (by rw[hby];omega))
 clear hf ho;have hge:=grownCap_ge w (n+1) c 68;have hle:=grownCap_le_maxLen w (n+1) c 68 (by unfold maxLen;omega);have fin:Zbb 68 4 b n (olds++news) w (.returned (.slice (some ⟨w.heap.size,0,none⟩) (n+1) (grownCap w (n+1) c 68))) (w.drew.alloc (.cells ((olds++news).toArray++Builtin.zeroCells z.cells (grownCap w (n+1) c 68-(n+1))) 68)):=by
  refine⟨w.heap.size,0,_,_,rfl,heap_alloc_new w.drew _,fun j hj=>?_,?_,hge,hle,.inr (ZxR _),(Zdy w _).trans (Keep.Zwb (Ext.al _ _) _)⟩
  ·rw[Zyj,Array.getElem?_append_left (by rw[Zyd,ZxU];omega),Zyo]
  ·rw[Array.size_append,Zyd,ZxU,size_zeroCells,hzs];omega
 generalize grownCap w (n+1) c 68=G at hrun fin;generalize(olds++news).toArray++Builtin.zeroCells z.cells (G-(n+1))=ROW at hrun fin;clear hz hzs hge hle hol hoc hnc hnl;cases base with
 |none=>
  obtain⟨rfl,rfl⟩:=hnil rfl;go_enter Tryz.func221,Tryz.ntmps221;go_wp2_with (at_builtin;refine Lib.wpList_append_run _ rfl _ _ _ _ rfl _ _ rfl rfl _ _ (hrun _) ?_)
  all_goals (go_ret;exact fin)
 |some a=>
  obtain⟨ab,ao,asp⟩:=a;go_enter Tryz.func221,Tryz.ntmps221;go_wp2_with (at_builtin;refine Lib.wpList_append_run _ rfl _ _ _ _ rfl _ _ rfl rfl _ _ (hrun _) ?_)
  all_goals (go_ret;exact fin)
set_option maxRecDepth 100000 in
theorem ZlZ (b o n c i vb vo vc:Nat)(cb cv:Array Value)(olds news:List Value)(w:World)(hb:w.heap[b]?=some (.cells cb 68 (0,0)))(hv:w.heap[vb]?=some (.cells cv 68 (0,0)))(hvb:vb≠b)(hi:i<n)(hroom:n+1≤c)(hfit:o+c*4≤cb.size)(hc63:c≤maxLen)
  (hol:olds.length=n*4) (hoc:∀j v,olds[j]?=some v→cb[o+j]?=some v) (hnl:news.length=4) (hnc:∀j v,news[j]?=some v→cv[vo+j]?=some v) (h1o:∀v∈olds,v.oneCell'=true) (h1:∀v∈news,v.oneCell'=true):
  Calls Tryz.prog 221 #[.slice (some ⟨b,o,none⟩) n c,.int .i64 i,.slice (some ⟨vb,vo,none⟩) 1 vc] w (Zbb 68 4 b n (olds.take (i*4)++news++olds.drop (i*4)) w):=by
 have hc63':c≤9223372036854775807:=by unfold maxLen at hc63;omega
 have hcl:cb.toList.length=cb.size:=Zyf;have hov:∀lb cc,(callFunc 242 #[.slice (some ⟨vb,vo,none⟩) 1 vc,.slice (some ⟨b,o+(i+1)*4,none⟩) lb cc]).run Tryz.prog w=.ok (.value (.bool false)) w:=fun lb cc=>by
  rw[run_callFunc_extern Tryz.func242 (by kernel_rfl) (by kernel_rfl) (by kernel_rfl) (e:=Extern.SlicesOverlaps.overlaps #[27,27] #[4]) (by kernel_rfl),
   Lib.run_overlaps_apart w 27 4 68 Tryz.underlying27 4 (Go.Proofs.YtfpmaennjlggeaaGreatDoor.run_sizeOf size4) ⟨vb,vo,none⟩ ⟨b,o+(i+1)*4,none⟩ 1 vc lb cc hvb 68 68 cv.size cb.size (by simp[World.shape?,hv]) (by simp[World.shape?,hb]) (by omega) (Lib.frozen_of_heap hv vo) (Lib.frozen_of_heap hv cv.size)]
  rfl
 obtain⟨C1,hC1⟩:∃C1,C1=(splice cb.toList (o+(i+1)*4) (olds.drop (i*4))).toArray:=⟨_,rfl⟩;obtain⟨C2,hC2⟩:∃C2,C2=(splice C1.toList (o+i*4) news).toArray:=⟨_,rfl⟩;have hdl:(olds.drop (i*4)).length=(n-i)*4:=by rw[Zyn,hol];omega
 have hC1l:C1.toList.length=cb.size:=by rw[hC1];show(splice _ _ _).length=_;rw[Zat (by omega),hcl]
 have hC2l:C2.size=cb.size:=by rw[hC2,Zyd,Zat (by omega),hC1l]
 have hcp1:∀ty q q' dl dc sl sc,q=o+(i+1)*4→q'=o+i*4→dl=n+1-(i+1)→sl=n+1-i→(Builtin.copy_ #[27,27] ty #[.slice (some ⟨b,q,none⟩) dl dc,.slice (some ⟨b,q',none⟩) sl sc]).run Tryz.prog w.drew=.ok (goInt ((n-i:Nat):Int)) (w.drew.setRow b C1):=fun ty q q' dl dc sl sc e1 e2 e3 e4=>by
  subst e1 e2 e3 e4;have h:=ZbF (P:=Tryz.prog) (ty:=ty) w.drew 27 27 68 b (o+(i+1)*4) (n+1-(i+1)) dc (n+1-i) sc ⟨b,o+i*4,none⟩ cb 68 (olds.drop (i*4)) Tryz.underlying27 size4 hb
   (by rw[hdl,nminR (by omega)];congr 1;omega) (fun j v hj=>by
    rw[Addr.add_lit];rw[Zx3]at hj
    have:=hoc _ v hj
    rw[←Nat.add_assoc]at this;exact(cell_of_row w.drew b _ cb _ _ hb).trans this) (by omega) (fun v hv=>h1o v (List.mem_of_mem_drop hv))
  rw[nminR (by omega),show n+1-(i+1)=n-i by omega,←hC1]at h;rw[show n+1-(i+1)=n-i by omega];exact h
 have hh1:(w.drew.setRow b C1).heap[b]?=some (.cells C1 68 (0,0)):=setRow_heap w.drew b cb _ _ _ hb;have hcp2:∀ty q dl dc,q=o+i*4→dl=n+1-i→(Builtin.copy_ #[27,27] ty #[.slice (some ⟨b,q,none⟩) dl dc,.slice (some ⟨vb,vo,none⟩) 1 vc]).run Tryz.prog (w.drew.setRow b C1)=.ok (goInt 1) ((w.drew.setRow b C1).setRow b C2):=fun ty q dl dc e1 e2=>by
  subst e1 e2;have h:=ZbF (P:=Tryz.prog) (ty:=ty) (w.drew.setRow b C1) 27 27 68 b (o+i*4) (n+1-i) dc 1 vc ⟨vb,vo,none⟩ C1 68 news Tryz.underlying27 size4 hh1
   (by rw[hnl,nminL (by omega)]) (fun j v hj=>by
    rw[Addr.add_lit,cell_setRow_other _ _ _ _ hvb];exact(cell_of_row w.drew vb _ cv _ _ hv).trans (hnc j v hj)) (by rw[←Zyf,hC1l];omega) h1
  rw[nminL (by omega),←hC2]at h;exact h
 have fin:Zbb 68 4 b n (olds.take (i*4)++news++olds.drop (i*4)) w (.returned (.slice (some ⟨b,o,none⟩) (n+1) c)) ((w.drew.setRow b C1).setRow b C2):=by
  refine⟨b,o,c,C2,rfl,setRow_heap _ b C1 _ _ _ hh1,fun j hj=>?_,by omega,hroom,hc63,.inl rfl,((Zdy w _).trans (Keep.setRow _ _ _)).trans (Keep.setRow _ _ _)⟩;have htl:(olds.take (i*4)).length=i*4:=by rw[ZxT];omega
  rw[hC2,Zyo,Zao (by omega),hC1,List.append_assoc,Zyl,Zyl,htl];by_cases q1:j<i*4
  ·rw[if_pos (by omega),if_pos q1,List.toList_toArray,Zao (by omega),if_pos (by omega),Zyu,Zx1,if_pos q1];have hv:=ZxL (show j<olds.length by omega);rw[hv];exact hoc j _ hv
  by_cases q2:j<(i+1)*4
  ·rw[if_neg (by omega),if_pos (by omega),if_neg q1,if_pos (by omega)];congr 1;omega
  ·rw[if_neg (by omega),if_neg (by omega),if_neg q1,if_neg (by omega),List.toList_toArray,Zao (by omega),if_neg (by omega),if_pos (by omega)];congr 1;omega
 generalize(w.drew.setRow b C1).setRow b C2=W2 at hcp2 fin;generalize w.drew.setRow b C1=W1 at hcp1 hcp2;have hz2:¬((i:Int)=(n:Int)):=by omega
 have mixed:Tryz.prog.follows .mixedOrders=true:=by kernel_rfl
 have hw1:IntKind.i64.wrap ((i:Int)+1)=(i:Int)+1:=by rw[IntKind.wrap_i64];omega
 have hb1:(0:Int)≤(i:Int)+1:=by omega
 have hin:i≤n:=by omega
 have htn:((i:Int)+1).toNat=i+1:=by omega
 have hb2:¬(c=i+1):=by omega
 have hb3:(i:Int)≤(n:Int)+1:=by omega
 have hb4:¬(c=i):=by omega
 clear hC1 hC2 hC1l hC2l hdl hoc hnc hh1 hcl;go_enter Tryz.func221,Tryz.ntmps221;go_wp2_with (simp only[hov]);go_region_law_o (refine step_copy_runI rfl _ _ 27 27 rfl _ _ (by simp[Act.eval,Act.put]) (by simp[Act.eval,Act.put]) (hcp1 _ _ _ _ _ _ _ (by omega) (by omega) (by omega) (by omega)) ?_);go_wp2_with (at_builtin;refine wpList_copy_runI _ rfl _ _ 27 27 rfl _ _ rfl rfl (hcp2 _ _ _ _ (by omega) (by omega)) ?_)
 all_goals (go_ret;exact fin)
set_option maxRecDepth 100000 in
theorem ZnZ (b o n c i vb vo vc:Nat)(cb cv:Array Value)(olds news:List Value)(w:World)(hb:w.heap[b]?=some (.cells cb 68 (0,0)))(hv:w.heap[vb]?=some (.cells cv 68 (0,0)))(hi:i<n)(hroom:c<n+1)(hcc:n≤c)(hn:n≤1000000)
  (hol:olds.length=n*4) (hoc:∀j v,olds[j]?=some v→cb[o+j]?=some v) (hnl:news.length=4) (hnc:∀j v,news[j]?=some v→cv[vo+j]?=some v) (h1o:∀v∈olds,v.oneCell'=true) (h1:∀v∈news,v.oneCell'=true):
  Calls Tryz.prog 221 #[.slice (some ⟨b,o,none⟩) n c,.int .i64 i,.slice (some ⟨vb,vo,none⟩) 1 vc] w (Zbb 68 4 b n (olds.take (i*4)++news++olds.drop (i*4)) w):=by
 obtain⟨ti,z,hti,hz,hsz,hby,hzs⟩:∃i z,Tryz.prog.info? 68=some i∧i.zero=some z∧i.size=4∧i.bytes=32∧z.cells.size=4:=⟨_,_,rfl,rfl,rfl,rfl,rfl⟩;have hbw:b<w.heap.size:=(Zx8.1 hb).1;have hvw:vb<w.heap.size:=(Zx8.1 hv).1;have htl:(olds.take (i*4)).length=i*4:=by rw[ZxT];omega
 have hdl:(olds.drop (i*4)).length=(n-i)*4:=by rw[Zyn,hol];omega
 have hold:(Builtin.firstCells ti.size i (.slice (some ⟨b,o,none⟩) i c)).run Tryz.prog w.drew=.ok (olds.take (i*4)).toArray w.drew:=by
  rw[hsz];exact run_firstCells_some (P:=Tryz.prog) w.drew 4 i ⟨b,o,none⟩ i c (olds.take (i*4)) htl (fun j u hj=>by
   rw[Addr.add_lit];rw[Zx1]at hj;split at hj
   ·exact(cell_of_row w.drew b _ cb _ _ hb).trans (hoc j u hj)
   ·cases hj)
 have hrz:∀ty (k:Int),k=((n+1-i:Nat):Int)→(Builtin.append_ #[27,3] ty #[.slice (some ⟨b,o,none⟩) i c,.int .i64 k]).run Tryz.prog w =
   .ok (.slice (some ⟨w.heap.size,0,none⟩) (n+1) (grownCap w (n+1) c 68)) (w.drew.alloc (.cells ((olds.take (i*4)).toArray++Builtin.zeroCells z.cells (n+1-i)++Builtin.zeroCells z.cells (grownCap w (n+1) c 68-(n+1))) 68)):=fun ty k hk=>by
  subst hk;have h:=Lib.run_append_grow_zeros w 27 3 ty 68 ti z .i64 .i64 Tryz.underlying27 Tryz.underlying3 hti hz (some ⟨b,o,none⟩) i c (olds.take (i*4)) hold (n+1-i) (by omega) (by omega) (by omega) (by omega) (by rw[hby];omega) (growslice_fits (by omega) (by rw[hby];omega));rw[show i+(n+1-i)=n+1 by omega]at h;exact h
 have hge:=grownCap_ge w (n+1) c 68;have hle:=grownCap_le_maxLen w (n+1) c 68 (by unfold maxLen;omega);generalize grownCap w (n+1) c 68=G at hrz hge hle;obtain⟨ROW,hROW⟩:∃ROW:Array Value,ROW=(olds.take (i*4)).toArray++Builtin.zeroCells z.cells (n+1-i)++Builtin.zeroCells z.cells (G-(n+1)):=⟨_,rfl⟩;rw[←hROW]at hrz;have hRl:ROW.size=G*4:=by
  rw[hROW,Array.size_append,Array.size_append,Zyd,size_zeroCells,size_zeroCells,hzs,htl];omega
 have hRt:∀j,j<i*4→ROW[j]?=olds[j]?:=fun j hj=>by
  rw[hROW,Array.append_assoc,Array.getElem?_append_left (by rw[Zyd];omega),Zyo,Zx1,if_pos hj]
 clear hROW hold;obtain⟨C2,hC2⟩:∃C2,C2=(splice ROW.toList (i*4) news).toArray:=⟨_,rfl⟩;obtain⟨C3,hC3⟩:∃C3,C3=(splice C2.toList ((i+1)*4) (olds.drop (i*4))).toArray:=⟨_,rfl⟩;have hRL:ROW.toList.length=G*4:=by rw[Zyf];exact hRl
 have hC2l:C2.toList.length=G*4:=by rw[hC2];show(splice _ _ _).length=_;rw[Zat (by omega),hRL]
 have hC3l:C3.size=G*4:=by rw[hC3,Zyd,Zat (by omega),hC2l]
 have hh1:(w.drew.alloc (.cells ROW 68)).heap[w.heap.size]?=some (.cells ROW 68 (0,0)):=heap_alloc_new w.drew _;have hh2:((w.drew.alloc (.cells ROW 68)).setRow w.heap.size C2).heap[w.heap.size]?=some (.cells C2 68 (0,0)):=setRow_heap _ _ ROW _ _ _ hh1;have hcpA:∀(W:World),W.heap=(w.drew.alloc (.cells ROW 68)).heap→∀ty q dl dc,q=i*4→dl=n+1-i→(Builtin.copy_ #[27,27] ty #[.slice (some ⟨w.heap.size,q,none⟩) dl dc,.slice (some ⟨vb,vo,none⟩) 1 vc]).run Tryz.prog W=.ok (goInt 1) (W.setRow w.heap.size C2):=fun W hW ty q dl dc e1 e2=>by
  subst e1 e2;have hv':W.heap[vb]?=some (.cells cv 68 (0,0)):=by rw[hW,heap_alloc_old w.drew _ hvw];exact hv
  have h:=ZbF (P:=Tryz.prog) (ty:=ty) W 27 27 68 w.heap.size (i*4) (n+1-i) dc 1 vc ⟨vb,vo,none⟩ ROW 68 news Tryz.underlying27 size4 (by rw[hW];exact hh1)
   (by rw[hnl,nminL (by omega)]) (fun j v hj=>by
    rw[Addr.add_lit];exact(cell_of_row W vb _ cv _ _ hv').trans (hnc j v hj)) (by omega) h1
  rw[nminL (by omega),←hC2]at h;exact h
 have hcpB:∀(W:World),W.heap=((w.drew.alloc (.cells ROW 68)).setRow w.heap.size C2).heap→∀ty q q' dl dc sl sc,q=(i+1)*4→q'=o+i*4→dl=n+1-(i+1)→sl=n-i→(Builtin.copy_ #[27,27] ty #[.slice (some ⟨w.heap.size,q,none⟩) dl dc,.slice (some ⟨b,q',none⟩) sl sc]).run Tryz.prog W=.ok (goInt ((n-i:Nat):Int)) (W.setRow w.heap.size C3):=fun W hW ty q q' dl dc sl sc e1 e2 e3 e4=>by
  subst e1 e2 e3 e4;have hb':W.heap[b]?=some (.cells cb 68 (0,0)):=by rw[hW,setRow_other _ _ _ _ (by omega),heap_alloc_old w.drew _ hbw];exact hb
  have h:=ZbF (P:=Tryz.prog) (ty:=ty) W 27 27 68 w.heap.size ((i+1)*4) (n+1-(i+1)) dc (n-i) sc ⟨b,o+i*4,none⟩ C2 68 (olds.drop (i*4)) Tryz.underlying27 size4 (by rw[hW];exact hh2)
   (by rw[hdl,nminL (by omega)]) (fun j v hj=>by
    rw[Addr.add_lit];rw[Zx3]at hj
    have:=hoc _ v hj
    rw[←Nat.add_assoc]at this;exact(cell_of_row W b _ cb _ _ hb').trans this) (by rw[←Zyf,hC2l];omega) (fun v hv=>h1o v (List.mem_of_mem_drop hv))
  rw[nminL (by omega),←hC3]at h;exact h
 have fin:∀W:World,W=(((w.drew.alloc (.cells ROW 68)).setRow w.heap.size C2).drew).setRow w.heap.size C3→Zbb 68 4 b n (olds.take (i*4)++news++olds.drop (i*4)) w (.returned (.slice (some ⟨w.heap.size,0,none⟩) (n+1) G)) W:=fun W hW=>by
  subst hW;refine⟨w.heap.size,0,G,C3,rfl,setRow_heap _ _ C2 _ _ _ hh2,fun j hj=>?_,by omega,hge,hle,.inr (ZxR _),?_⟩
  ·rw[Zyj,hC3,Zyo,Zao (by omega),hC2,List.append_assoc,Zyl,Zyl,htl];by_cases q1:j<i*4
   ·rw[if_pos (by omega),if_pos q1,List.toList_toArray,Zao (by omega),if_pos (by omega),Zyu,Zx1,if_pos q1];exact hRt j q1
   by_cases q2:j<(i+1)*4
   ·rw[if_pos (by omega),if_neg q1,if_pos (by omega),List.toList_toArray,Zao (by omega),if_neg (by omega),if_pos (by omega)]
   ·rw[if_neg (by omega),if_pos (by omega),if_neg q1,if_neg (by omega)];congr 1;omega
  ·refine⟨rfl,rfl,rfl,by simp,fun k hk _=>?_⟩;rw[setRow_other _ _ _ _ (by omega)];show((w.drew.alloc (.cells ROW 68)).setRow w.heap.size C2).heap[k]?=_;rw[setRow_other _ _ _ _ (by omega),heap_alloc_old w.drew _ hk];rfl
 have mixed:Tryz.prog.follows .mixedOrders=true:=by kernel_rfl
 have hz1:(c:Int)<(n:Int)+1:=by omega
 have hz2:¬((i:Int)=(n:Int)):=by omega
 have hw1:IntKind.i64.wrap ((i:Int)+1)=(i:Int)+1:=by rw[IntKind.wrap_i64];omega
 have hb1:(0:Int)≤(i:Int)+1:=by omega
 have hin:i≤n:=by omega
 have htn:((i:Int)+1).toNat=i+1:=by omega
 have hGi:¬(G=i):=by omega
 have hGim:¬(G=i+1):=by omega
 have hci:¬(c=i):=by omega
 have hG63:G≤9223372036854775807:=by unfold maxLen at hle;omega
 have hb3:(i:Int)≤(n:Int):=by omega
 clear hC2 hC3 hC2l hC3l hRL hRl hRt hdl htl hh1 hh2 hoc hnc hti hz hzs;go_enter Tryz.func221,Tryz.ntmps221;go_wp2_with (at_builtin;refine Lib.wpList_append_run _ rfl _ _ _ _ rfl _ _ rfl rfl _ _ (hrz _ _ (by omega)) ?_);rw[hcpA ((w.alloc (.cells ROW 68)).drew) rfl _ _ _ _ rfl rfl];simp only[Result.andThen];rw[Oper.upon_value];go_wp2;go_region_law_o (refine step_copy_runI rfl _ _ 27 27 rfl (.slice (some ⟨w.heap.size,(i+1)*4,none⟩) (n+1-(i+1)) (G-(i+1))) (.slice (some ⟨b,o+i*4,none⟩) (n-i) (c-i)) (by simp[Act.eval,Act.put]) (by simp[Act.eval,Act.put]) (hcpB _ (by rfl) 3 _ _ _ (G-(i+1)) _ (c-i) rfl rfl rfl rfl) ?_);go_wp2
 all_goals (go_ret;exact fin _ rfl)
theorem size1:sizeT Tryz.prog 3=some 1:=by kernel_rfl
set_option maxRecDepth 100000 in
theorem ZhB (b o n c vb vo vc:Nat)(cb:Array Value)(olds news:List Value)(w:World)(hb:w.heap[b]?=some (.cells cb 3 (0,0)))(hroom:n+1≤c)(hfit:o+c*1≤cb.size)(hc63:c≤maxLen)
  (hol:olds.length=n*1) (hoc:∀j v,olds[j]?=some v→cb[o+j]?=some v) (hnl:news.length=1) (hnc:∀j v,news[j]?=some v→w.cell? ⟨vb,vo+j,none⟩=some v) (h1:∀v∈news,v.oneCell'=true):
  Calls Tryz.prog 218 #[.slice (some ⟨b,o,none⟩) n c,.int .i64 n,.slice (some ⟨vb,vo,none⟩) 1 vc] w (Zbb 3 1 b n (olds++news) w):=by
 have hc63':c≤9223372036854775807:=by unfold maxLen at hc63;omega
 obtain⟨i,z,hi,hz,hsz,hby,hzs⟩:∃i z,Tryz.prog.info? 3=some i∧i.zero=some z∧i.size=1∧i.bytes=8∧z.cells.size=1:=⟨_,_,rfl,rfl,rfl,rfl,rfl⟩;have hf:(Builtin.firstCells i.size 1 (.slice (some ⟨vb,vo,none⟩) 1 vc)).run Tryz.prog w=.ok news.toArray w:=by
  rw[hsz];exact run_firstCells_some (P:=Tryz.prog) w 1 1 ⟨vb,vo,none⟩ 1 vc news (by omega) (fun j u hj=>by rw[Addr.add_lit];exact hnc j u hj)
 have hrun:∀ty,(Builtin.append_ #[26,26] ty #[.slice (some ⟨b,o,none⟩) n c,.slice (some ⟨vb,vo,none⟩) 1 vc]).run Tryz.prog w=_:=fun ty=>
  Zdb (P:=Tryz.prog) (w:=w) (ty:=ty) Tryz.underlying26 hi b o n c cb hb (some ⟨vb,vo,none⟩) 1 vc news hf h1 hroom (by rw[hsz];omega)
 have hcl:cb.toList.length=cb.size:=Zyf;have fin:Zbb 3 1 b n (olds++news) w (.returned (.slice (some ⟨b,o,none⟩) (n+1) c)) (w.setRow b (splice cb.toList (o+n*1) news).toArray):=by
  refine⟨b,o,c,_,rfl,setRow_heap w b cb _ _ _ hb,fun j hj=>?_,?_,hroom,hc63,.inl rfl,Keep.setRow w _ _⟩
  ·rw[Zyo,Zao (by omega),Zyl,Zyu];split
   ·rename_i h;rw[if_pos (by omega)];have hv:=ZxL (show j<olds.length by omega);rw[hv];exact hoc j _ hv
   ·rename_i h;rw[if_pos (by omega),if_neg (by omega)];congr 1;omega
  ·rw[Zyd,Zat (by omega),hcl];exact hfit
 rw[hsz]at hrun;simp only[Nat.mul_one]at hrun fin;clear hf hoc hnc hcl;go_enter Tryz.func218,Tryz.ntmps218;go_wp2_with (at_builtin;refine Lib.wpList_append_run _ rfl _ _ _ _ rfl _ _ rfl rfl _ _ (hrun _) ?_)
 all_goals (go_ret;first|exact fin|(simp only[splice,List.append_assoc,hnl]at fin;exact fin)|(simp[splice,hnl]at fin;exact fin))
set_option maxRecDepth 100000 in
theorem ZdV (b:Nat)(base:Option Addr)(n c vb vo vc:Nat)(olds news:List Value)(w:World)(hroom:c<n+1)(hn:n≤1000000)(hnil:base=none→n=0∧c=0)(hcc:n≤c)
  (hol:olds.length=n*1) (hoc:∀j v,olds[j]?=some v→∃A,base=some A∧w.cell? (A.add j)=some v) (hnl:news.length=1) (hnc:∀j v,news[j]?=some v→w.cell? ⟨vb,vo+j,none⟩=some v):
  Calls Tryz.prog 218 #[.slice base n c,.int .i64 n,.slice (some ⟨vb,vo,none⟩) 1 vc] w (Zbb 3 1 b n (olds++news) w):=by
 obtain⟨i,z,hi,hz,hsz,hby,hzs⟩:∃i z,Tryz.prog.info? 3=some i∧i.zero=some z∧i.size=1∧i.bytes=8∧z.cells.size=1:=⟨_,_,rfl,rfl,rfl,rfl,rfl⟩;have hf:∀w',(∀A,w'.cell? A=w.cell? A)→(Builtin.firstCells i.size 1 (.slice (some ⟨vb,vo,none⟩) 1 vc)).run Tryz.prog w'=.ok news.toArray w':=fun w' hw=>by
  rw[hsz];exact run_firstCells_some (P:=Tryz.prog) w' 1 1 ⟨vb,vo,none⟩ 1 vc news (by omega) (fun j u hj=>by rw[Addr.add_lit,hw];exact hnc j u hj)
 have ho:∀w',(∀A,w'.cell? A=w.cell? A)→(Builtin.firstCells i.size n (.slice base n c)).run Tryz.prog w'=.ok olds.toArray w':=fun w' hw=>by
  rw[hsz];cases base with
  |none=>
   obtain⟨rfl,rfl⟩:=hnil rfl;rw[List.length_eq_zero_iff.1 hol];exact run_firstCells_none w' 1 0 0 0
  |some a=>exact run_firstCells_some (P:=Tryz.prog) w' 1 n a n c olds hol (fun j u hj=>by
    obtain⟨A,e,h⟩:=hoc j u hj;cases e;rw[hw];exact h)
 have hrun:∀ty,(Builtin.append_ #[26,26] ty #[.slice base n c,.slice (some ⟨vb,vo,none⟩) 1 vc]).run Tryz.prog w=_:=fun ty=>
  Zei (P:=Tryz.prog) (w:=w) (ty:=ty) Tryz.underlying26 hi hz base n c (some ⟨vb,vo,none⟩) 1 vc olds news ho hf (by omega) (by omega) (growslice_fits (by omega) (by rw[hby];omega))
 clear hf ho;have hge:=grownCap_ge w (n+1) c 3;have hle:=grownCap_le_maxLen w (n+1) c 3 (by unfold maxLen;omega);have fin:Zbb 3 1 b n (olds++news) w (.returned (.slice (some ⟨w.heap.size,0,none⟩) (n+1) (grownCap w (n+1) c 3))) (w.drew.alloc (.cells ((olds++news).toArray++Builtin.zeroCells z.cells (grownCap w (n+1) c 3-(n+1))) 3)):=by
  refine⟨w.heap.size,0,_,_,rfl,heap_alloc_new w.drew _,fun j hj=>?_,?_,hge,hle,.inr (ZxR _),(Zdy w _).trans (Keep.Zwb (Ext.al _ _) _)⟩
  ·rw[Zyj,Array.getElem?_append_left (by rw[Zyd,ZxU];omega),Zyo]
  ·rw[Array.size_append,Zyd,ZxU,size_zeroCells,hzs];omega
 generalize grownCap w (n+1) c 3=G at hrun fin;generalize(olds++news).toArray++Builtin.zeroCells z.cells (G-(n+1))=ROW at hrun fin;clear hz hzs hge hle hol hoc hnc hnl;cases base with
 |none=>
  obtain⟨rfl,rfl⟩:=hnil rfl;go_enter Tryz.func218,Tryz.ntmps218;go_wp2_with (at_builtin;refine Lib.wpList_append_run _ rfl _ _ _ _ rfl _ _ rfl rfl _ _ (hrun _) ?_)
  all_goals (go_ret;exact fin)
 |some a=>
  obtain⟨ab,ao,asp⟩:=a;go_enter Tryz.func218,Tryz.ntmps218;go_wp2_with (at_builtin;refine Lib.wpList_append_run _ rfl _ _ _ _ rfl _ _ rfl rfl _ _ (hrun _) ?_)
  all_goals (go_ret;exact fin)
set_option maxRecDepth 100000 in
theorem Zl0 (b o n c i vb vo vc:Nat)(cb cv:Array Value)(olds news:List Value)(w:World)(hb:w.heap[b]?=some (.cells cb 3 (0,0)))(hv:w.heap[vb]?=some (.cells cv 3 (0,0)))(hvb:vb≠b)(hi:i<n)(hroom:n+1≤c)(hfit:o+c*1≤cb.size)(hc63:c≤maxLen)
  (hol:olds.length=n*1) (hoc:∀j v,olds[j]?=some v→cb[o+j]?=some v) (hnl:news.length=1) (hnc:∀j v,news[j]?=some v→cv[vo+j]?=some v) (h1o:∀v∈olds,v.oneCell'=true) (h1:∀v∈news,v.oneCell'=true):
  Calls Tryz.prog 218 #[.slice (some ⟨b,o,none⟩) n c,.int .i64 i,.slice (some ⟨vb,vo,none⟩) 1 vc] w (Zbb 3 1 b n (olds.take (i*1)++news++olds.drop (i*1)) w):=by
 have hc63':c≤9223372036854775807:=by unfold maxLen at hc63;omega
 have hcl:cb.toList.length=cb.size:=Zyf;have hov:∀lb cc,(callFunc 238 #[.slice (some ⟨vb,vo,none⟩) 1 vc,.slice (some ⟨b,o+(i+1),none⟩) lb cc]).run Tryz.prog w=.ok (.value (.bool false)) w:=fun lb cc=>by
  rw[run_callFunc_extern Tryz.func238 (by kernel_rfl) (by kernel_rfl) (by kernel_rfl) (e:=Extern.SlicesOverlaps.overlaps #[26,26] #[4]) (by kernel_rfl),
   Lib.run_overlaps_apart w 26 4 3 Tryz.underlying26 1 (Go.Proofs.YtfpmaennjlggeaaGreatDoor.run_sizeOf size1) ⟨vb,vo,none⟩ ⟨b,o+(i+1),none⟩ 1 vc lb cc hvb 3 3 cv.size cb.size (by simp[World.shape?,hv]) (by simp[World.shape?,hb]) (by omega) (Lib.frozen_of_heap hv vo) (Lib.frozen_of_heap hv cv.size)]
  rfl
 obtain⟨C1,hC1⟩:∃C1,C1=(splice cb.toList (o+(i+1)*1) (olds.drop (i*1))).toArray:=⟨_,rfl⟩;obtain⟨C2,hC2⟩:∃C2,C2=(splice C1.toList (o+i*1) news).toArray:=⟨_,rfl⟩;have hdl:(olds.drop (i*1)).length=(n-i)*1:=by rw[Zyn,hol];omega
 have hC1l:C1.toList.length=cb.size:=by rw[hC1];show(splice _ _ _).length=_;rw[Zat (by omega),hcl]
 have hC2l:C2.size=cb.size:=by rw[hC2,Zyd,Zat (by omega),hC1l]
 have hcp1:∀ty q q' dl dc sl sc,q=o+(i+1)*1→q'=o+i*1→dl=n+1-(i+1)→sl=n+1-i→(Builtin.copy_ #[26,26] ty #[.slice (some ⟨b,q,none⟩) dl dc,.slice (some ⟨b,q',none⟩) sl sc]).run Tryz.prog w.drew=.ok (goInt ((n-i:Nat):Int)) (w.drew.setRow b C1):=fun ty q q' dl dc sl sc e1 e2 e3 e4=>by
  subst e1 e2 e3 e4;have h:=ZbF (P:=Tryz.prog) (ty:=ty) w.drew 26 26 3 b (o+(i+1)*1) (n+1-(i+1)) dc (n+1-i) sc ⟨b,o+i*1,none⟩ cb 3 (olds.drop (i*1)) Tryz.underlying26 size1 hb
   (by rw[hdl,nminR (by omega)];congr 1;omega) (fun j v hj=>by
    rw[Addr.add_lit];rw[Zx3]at hj
    have:=hoc _ v hj
    rw[←Nat.add_assoc]at this;exact(cell_of_row w.drew b _ cb _ _ hb).trans this) (by omega) (fun v hv=>h1o v (List.mem_of_mem_drop hv))
  rw[nminR (by omega),show n+1-(i+1)=n-i by omega,←hC1]at h;rw[show n+1-(i+1)=n-i by omega];exact h
 have hh1:(w.drew.setRow b C1).heap[b]?=some (.cells C1 3 (0,0)):=setRow_heap w.drew b cb _ _ _ hb;have hcp2:∀ty q dl dc,q=o+i*1→dl=n+1-i→(Builtin.copy_ #[26,26] ty #[.slice (some ⟨b,q,none⟩) dl dc,.slice (some ⟨vb,vo,none⟩) 1 vc]).run Tryz.prog (w.drew.setRow b C1)=.ok (goInt 1) ((w.drew.setRow b C1).setRow b C2):=fun ty q dl dc e1 e2=>by
  subst e1 e2;have h:=ZbF (P:=Tryz.prog) (ty:=ty) (w.drew.setRow b C1) 26 26 3 b (o+i*1) (n+1-i) dc 1 vc ⟨vb,vo,none⟩ C1 3 news Tryz.underlying26 size1 hh1
   (by rw[hnl,nminL (by omega)]) (fun j v hj=>by
    rw[Addr.add_lit,cell_setRow_other _ _ _ _ hvb];exact(cell_of_row w.drew vb _ cv _ _ hv).trans (hnc j v hj)) (by rw[←Zyf,hC1l];omega) h1
  rw[nminL (by omega),←hC2]at h;exact h
 have fin:Zbb 3 1 b n (olds.take (i*1)++news++olds.drop (i*1)) w (.returned (.slice (some ⟨b,o,none⟩) (n+1) c)) ((w.drew.setRow b C1).setRow b C2):=by
  refine⟨b,o,c,C2,rfl,setRow_heap _ b C1 _ _ _ hh1,fun j hj=>?_,by omega,hroom,hc63,.inl rfl,((Zdy w _).trans (Keep.setRow _ _ _)).trans (Keep.setRow _ _ _)⟩;have htl:(olds.take (i*1)).length=i*1:=by rw[ZxT];omega
  rw[hC2,Zyo,Zao (by omega),hC1,List.append_assoc,Zyl,Zyl,htl];by_cases q1:j<i*1
  ·rw[if_pos (by omega),if_pos q1,List.toList_toArray,Zao (by omega),if_pos (by omega),Zyu,Zx1,if_pos q1];have hv:=ZxL (show j<olds.length by omega);rw[hv];exact hoc j _ hv
  by_cases q2:j<(i+1)*1
  ·rw[if_neg (by omega),if_pos (by omega),if_neg q1,if_pos (by omega)];congr 1;omega
  ·rw[if_neg (by omega),if_neg (by omega),if_neg q1,if_neg (by omega),List.toList_toArray,Zao (by omega),if_neg (by omega),if_pos (by omega)];congr 1;omega
 generalize(w.drew.setRow b C1).setRow b C2=W2 at hcp2 fin;generalize w.drew.setRow b C1=W1 at hcp1 hcp2;have hz2:¬((i:Int)=(n:Int)):=by omega
 have mixed:Tryz.prog.follows .mixedOrders=true:=by kernel_rfl
 have hw1:IntKind.i64.wrap ((i:Int)+1)=(i:Int)+1:=by rw[IntKind.wrap_i64];omega
 have hb1:(0:Int)≤(i:Int)+1:=by omega
 have hin:i≤n:=by omega
 have htn:((i:Int)+1).toNat=i+1:=by omega
 have hb2:¬(c=i+1):=by omega
 have hb3:(i:Int)≤(n:Int)+1:=by omega
 have hb4:¬(c=i):=by omega
 clear hC1 hC2 hC1l hC2l hdl hoc hnc hh1 hcl;go_enter Tryz.func218,Tryz.ntmps218;go_wp2_with (simp only[hov]);go_region_law_o (refine step_copy_runI rfl _ _ 26 26 rfl _ _ (by simp[Act.eval,Act.put]) (by simp[Act.eval,Act.put]) (hcp1 _ _ _ _ _ _ _ (by omega) (by omega) (by omega) (by omega)) ?_);go_wp2_with (at_builtin;refine wpList_copy_runI _ rfl _ _ 26 26 rfl _ _ rfl rfl (hcp2 _ _ _ _ (by omega) (by omega)) ?_)
 all_goals (go_ret;exact fin)
set_option maxRecDepth 100000 in
theorem Zn0 (b o n c i vb vo vc:Nat)(cb cv:Array Value)(olds news:List Value)(w:World)(hb:w.heap[b]?=some (.cells cb 3 (0,0)))(hv:w.heap[vb]?=some (.cells cv 3 (0,0)))(hi:i<n)(hroom:c<n+1)(hcc:n≤c)(hn:n≤1000000)
  (hol:olds.length=n*1) (hoc:∀j v,olds[j]?=some v→cb[o+j]?=some v) (hnl:news.length=1) (hnc:∀j v,news[j]?=some v→cv[vo+j]?=some v) (h1o:∀v∈olds,v.oneCell'=true) (h1:∀v∈news,v.oneCell'=true):
  Calls Tryz.prog 218 #[.slice (some ⟨b,o,none⟩) n c,.int .i64 i,.slice (some ⟨vb,vo,none⟩) 1 vc] w (Zbb 3 1 b n (olds.take (i*1)++news++olds.drop (i*1)) w):=by
 obtain⟨ti,z,hti,hz,hsz,hby,hzs⟩:∃i z,Tryz.prog.info? 3=some i∧i.zero=some z∧i.size=1∧i.bytes=8∧z.cells.size=1:=⟨_,_,rfl,rfl,rfl,rfl,rfl⟩;have hbw:b<w.heap.size:=(Zx8.1 hb).1;have hvw:vb<w.heap.size:=(Zx8.1 hv).1;have htl:(olds.take (i*1)).length=i*1:=by rw[ZxT];omega
 have hdl:(olds.drop (i*1)).length=(n-i)*1:=by rw[Zyn,hol];omega
 have hold:(Builtin.firstCells ti.size i (.slice (some ⟨b,o,none⟩) i c)).run Tryz.prog w.drew=.ok (olds.take (i*1)).toArray w.drew:=by
  rw[hsz];exact run_firstCells_some (P:=Tryz.prog) w.drew 1 i ⟨b,o,none⟩ i c (olds.take (i*1)) htl (fun j u hj=>by
   rw[Addr.add_lit];rw[Zx1]at hj;split at hj
   ·exact(cell_of_row w.drew b _ cb _ _ hb).trans (hoc j u hj)
   ·cases hj)
 have hrz:∀ty (k:Int),k=((n+1-i:Nat):Int)→(Builtin.append_ #[26,3] ty #[.slice (some ⟨b,o,none⟩) i c,.int .i64 k]).run Tryz.prog w =
   .ok (.slice (some ⟨w.heap.size,0,none⟩) (n+1) (grownCap w (n+1) c 3)) (w.drew.alloc (.cells ((olds.take (i*1)).toArray++Builtin.zeroCells z.cells (n+1-i)++Builtin.zeroCells z.cells (grownCap w (n+1) c 3-(n+1))) 3)):=fun ty k hk=>by
  subst hk;have h:=Lib.run_append_grow_zeros w 26 3 ty 3 ti z .i64 .i64 Tryz.underlying26 Tryz.underlying3 hti hz (some ⟨b,o,none⟩) i c (olds.take (i*1)) hold (n+1-i) (by omega) (by omega) (by omega) (by omega) (by rw[hby];omega) (growslice_fits (by omega) (by rw[hby];omega));rw[show i+(n+1-i)=n+1 by omega]at h;exact h
 have hge:=grownCap_ge w (n+1) c 3;have hle:=grownCap_le_maxLen w (n+1) c 3 (by unfold maxLen;omega);generalize grownCap w (n+1) c 3=G at hrz hge hle;obtain⟨ROW,hROW⟩:∃ROW:Array Value,ROW=(olds.take (i*1)).toArray++Builtin.zeroCells z.cells (n+1-i)++Builtin.zeroCells z.cells (G-(n+1)):=⟨_,rfl⟩;rw[←hROW]at hrz;have hRl:ROW.size=G*1:=by
  rw[hROW,Array.size_append,Array.size_append,Zyd,size_zeroCells,size_zeroCells,hzs,htl];omega
 have hRt:∀j,j<i*1→ROW[j]?=olds[j]?:=fun j hj=>by
  rw[hROW,Array.append_assoc,Array.getElem?_append_left (by rw[Zyd];omega),Zyo,Zx1,if_pos hj]
 clear hROW hold;obtain⟨C2,hC2⟩:∃C2,C2=(splice ROW.toList (i*1) news).toArray:=⟨_,rfl⟩;obtain⟨C3,hC3⟩:∃C3,C3=(splice C2.toList ((i+1)*1) (olds.drop (i*1))).toArray:=⟨_,rfl⟩;have hRL:ROW.toList.length=G*1:=by rw[Zyf];exact hRl
 have hC2l:C2.toList.length=G*1:=by rw[hC2];show(splice _ _ _).length=_;rw[Zat (by omega),hRL]
 have hC3l:C3.size=G*1:=by rw[hC3,Zyd,Zat (by omega),hC2l]
 have hh1:(w.drew.alloc (.cells ROW 3)).heap[w.heap.size]?=some (.cells ROW 3 (0,0)):=heap_alloc_new w.drew _;have hh2:((w.drew.alloc (.cells ROW 3)).setRow w.heap.size C2).heap[w.heap.size]?=some (.cells C2 3 (0,0)):=setRow_heap _ _ ROW _ _ _ hh1;have hcpA:∀(W:World),W.heap=(w.drew.alloc (.cells ROW 3)).heap→∀ty q dl dc,q=i*1→dl=n+1-i→(Builtin.copy_ #[26,26] ty #[.slice (some ⟨w.heap.size,q,none⟩) dl dc,.slice (some ⟨vb,vo,none⟩) 1 vc]).run Tryz.prog W=.ok (goInt 1) (W.setRow w.heap.size C2):=fun W hW ty q dl dc e1 e2=>by
  subst e1 e2;have hv':W.heap[vb]?=some (.cells cv 3 (0,0)):=by rw[hW,heap_alloc_old w.drew _ hvw];exact hv
  have h:=ZbF (P:=Tryz.prog) (ty:=ty) W 26 26 3 w.heap.size (i*1) (n+1-i) dc 1 vc ⟨vb,vo,none⟩ ROW 3 news Tryz.underlying26 size1 (by rw[hW];exact hh1)
   (by rw[hnl,nminL (by omega)]) (fun j v hj=>by
    rw[Addr.add_lit];exact(cell_of_row W vb _ cv _ _ hv').trans (hnc j v hj)) (by omega) h1
  rw[nminL (by omega),←hC2]at h;exact h
 have hcpB:∀(W:World),W.heap=((w.drew.alloc (.cells ROW 3)).setRow w.heap.size C2).heap→∀ty q q' dl dc sl sc,q=(i+1)*1→q'=o+i*1→dl=n+1-(i+1)→sl=n-i→(Builtin.copy_ #[26,26] ty #[.slice (some ⟨w.heap.size,q,none⟩) dl dc,.slice (some ⟨b,q',none⟩) sl sc]).run Tryz.prog W=.ok (goInt ((n-i:Nat):Int)) (W.setRow w.heap.size C3):=fun W hW ty q q' dl dc sl sc e1 e2 e3 e4=>by
  subst e1 e2 e3 e4;have hb':W.heap[b]?=some (.cells cb 3 (0,0)):=by rw[hW,setRow_other _ _ _ _ (by omega),heap_alloc_old w.drew _ hbw];exact hb
  have h:=ZbF (P:=Tryz.prog) (ty:=ty) W 26 26 3 w.heap.size ((i+1)*1) (n+1-(i+1)) dc (n-i) sc ⟨b,o+i*1,none⟩ C2 3 (olds.drop (i*1)) Tryz.underlying26 size1 (by rw[hW];exact hh2)
   (by rw[hdl,nminL (by omega)]) (fun j v hj=>by
    rw[Addr.add_lit];rw[Zx3]at hj
    have:=hoc _ v hj
    rw[←Nat.add_assoc]at this;exact(cell_of_row W b _ cb _ _ hb').trans this) (by rw[←Zyf,hC2l];omega) (fun v hv=>h1o v (List.mem_of_mem_drop hv))
  rw[nminL (by omega),←hC3]at h;exact h
 have fin:∀W:World,W=(((w.drew.alloc (.cells ROW 3)).setRow w.heap.size C2).drew).setRow w.heap.size C3→Zbb 3 1 b n (olds.take (i*1)++news++olds.drop (i*1)) w (.returned (.slice (some ⟨w.heap.size,0,none⟩) (n+1) G)) W:=fun W hW=>by
  subst hW;refine⟨w.heap.size,0,G,C3,rfl,setRow_heap _ _ C2 _ _ _ hh2,fun j hj=>?_,by omega,hge,hle,.inr (ZxR _),?_⟩
  ·rw[Zyj,hC3,Zyo,Zao (by omega),hC2,List.append_assoc,Zyl,Zyl,htl];by_cases q1:j<i*1
   ·rw[if_pos (by omega),if_pos q1,List.toList_toArray,Zao (by omega),if_pos (by omega),Zyu,Zx1,if_pos q1];exact hRt j q1
   by_cases q2:j<(i+1)*1
   ·rw[if_pos (by omega),if_neg q1,if_pos (by omega),List.toList_toArray,Zao (by omega),if_neg (by omega),if_pos (by omega)]
   ·rw[if_neg (by omega),if_pos (by omega),if_neg q1,if_neg (by omega)];congr 1;omega
  ·refine⟨rfl,rfl,rfl,by simp,fun k hk _=>?_⟩;rw[setRow_other _ _ _ _ (by omega)];show((w.drew.alloc (.cells ROW 3)).setRow w.heap.size C2).heap[k]?=_;rw[setRow_other _ _ _ _ (by omega),heap_alloc_old w.drew _ hk];rfl
 have mixed:Tryz.prog.follows .mixedOrders=true:=by kernel_rfl
 have hz1:(c:Int)<(n:Int)+1:=by omega
 have hz2:¬((i:Int)=(n:Int)):=by omega
 have hw1:IntKind.i64.wrap ((i:Int)+1)=(i:Int)+1:=by rw[IntKind.wrap_i64];omega
 have hb1:(0:Int)≤(i:Int)+1:=by omega
 have hin:i≤n:=by omega
 have htn:((i:Int)+1).toNat=i+1:=by omega
 have hGi:¬(G=i):=by omega
 have hGim:¬(G=i+1):=by omega
 have hci:¬(c=i):=by omega
 have hG63:G≤9223372036854775807:=by unfold maxLen at hle;omega
 have hb3:(i:Int)≤(n:Int):=by omega
 clear hC2 hC3 hC2l hC3l hRL hRl hRt hdl htl hh1 hh2 hoc hnc hti hz hzs;go_enter Tryz.func218,Tryz.ntmps218;go_wp2_with (at_builtin;refine Lib.wpList_append_run _ rfl _ _ _ _ rfl _ _ rfl rfl _ _ (hrz _ _ (by omega)) ?_);rw[hcpA ((w.alloc (.cells ROW 3)).drew) rfl _ _ _ _ (by omega) rfl];simp only[Result.andThen];rw[Oper.upon_value];go_wp2;go_region_law_o (refine step_copy_runI rfl _ _ 26 26 rfl (.slice (some ⟨w.heap.size,i+1,none⟩) (n+1-(i+1)) (G-(i+1))) (.slice (some ⟨b,o+i,none⟩) (n-i) (c-i)) (by simp[Act.eval,Act.put]) (by simp[Act.eval,Act.put]) (hcpB _ (by rfl) 3 _ _ _ (G-(i+1)) _ (c-i) (by omega) (by omega) rfl rfl) ?_);go_wp2
 all_goals (go_ret;exact fin _ rfl)
end
section
theorem Ze6 {ρ:Site→Loc}{m:Mem}{w:World}{s:Site}{e n:Nat}{xs:List PV}(h:RdB ρ m w s (.arr e n xs))(hr:(ρ s).real=true):
  ∃cs ds,w.heap[(ρ s).b]?=some (.cells cs e (0,0))∧(ρ s).o+(ρ s).cap*n≤cs.size∧xs.length≤(ρ s).cap∧(ρ s).cap≤maxLen∧Flat m ds n xs∧∀(j:Nat) v,ds[j]?=some v→cs[(ρ s).o+j]?=some v:=by
 obtain⟨hn,hB|⟨_,cs,g1,g2,g3,g4,g5⟩⟩:=h
 ·rw[hB.1]at hr;cases hr
 have hfit:(ρ s).o+xs.length*n≤cs.size:=by
  have:xs.length*n≤(ρ s).cap*n:=Zyx _ g3
  omega
 refine⟨cs,(cs.toList.drop (ρ s).o).take (xs.length*n),g1,g2,g3,g4,⟨by rw[ZcP hfit],fun u hu=>?_,fun i x hi=>?_⟩,fun j v hj=>?_⟩
 ·obtain⟨k,hk⟩:=ZxV.1 hu;rw[ZaO]at hk;split at hk
  ·rename_i hlt;obtain⟨h1,h2,h3⟩:=ZcF hlt hn;obtain⟨q1,q2⟩:=g5 _ _ (ZxL h1);obtain⟨u',q3,q4,_⟩:=q2 _ _ (ZxL (show k%n<(xs[k / n]).cells.length by omega));rw[show(ρ s).o+k / n*n+k%n=(ρ s).o+k by omega,hk]at q3;cases q3;exact q4
  ·cases hk
 ·obtain⟨q1,q2⟩:=g5 i x hi;refine⟨q1,fun j c hj=>?_⟩;obtain⟨u,q3,_,q5⟩:=q2 j c hj;have hjn:j<n:=by have:=(ZxN.1 hj).1;omega
  have:=ZaI (n:=n) (ZxN.1 hi).1
  exact⟨u,by rw[ZaO,if_pos (by omega)];rw[←q3];congr 1;omega,q5⟩
 ·rw[ZaO]at hj;split at hj
  ·exact hj
  ·cases hj
theorem Flat.Zxm {m:Mem}{ds:List Value}{n:Nat}{xs:List PV}(h:Flat m ds n xs)(i:Nat)(hi:i≤xs.length):Flat m (ds.take (i*n)) n (xs.take i):=by
 have hl:i*n≤xs.length*n:=Zyx _ hi;refine⟨by rw[ZxT,ZxT,h.len,Nat.min_eq_left hl,Nat.min_eq_left hi],fun u hu=>h.one u (List.mem_of_mem_take hu),fun k x hk=>?_⟩;rw[Zx1]at hk;split at hk
 ·rename_i hki;obtain⟨k1,k2⟩:=h.get k x hk;refine⟨k1,fun j c hj=>?_⟩;obtain⟨u,q1,q2⟩:=k2 j c hj;have hjn:j<n:=by have:=(ZxN.1 hj).1;omega
  have:=ZaI (n:=n) hki
  exact⟨u,by rw[Zx1,if_pos (by omega)];exact q1,q2⟩
 ·cases hk
theorem Flat.Zxw {m:Mem}{ds:List Value}{n:Nat}{xs:List PV}(h:Flat m ds n xs)(i:Nat):Flat m (ds.drop (i*n)) n (xs.drop i):=by
 refine⟨by rw[Zyn,Zyn,h.len,Nat.sub_mul],fun u hu=>h.one u (List.mem_of_mem_drop hu),fun k x hk=>?_⟩;rw[Zx3]at hk;obtain⟨k1,k2⟩:=h.get _ x hk;refine⟨k1,fun j c hj=>?_⟩;obtain⟨u,q1,q2⟩:=k2 j c hj;exact⟨u,by rw[Zx3,←q1];congr 1;rw[Nat.add_mul];omega,q2⟩
theorem ZeX {TE k b n:Nat}{els:List Value}{ys:List PV}{w w':World}{e:Ending}{m:Mem}{ρ:Site→Loc}{B:List (Site×Box)}(hk:0<k)(hE:Zbb TE k b n els w e w')(hF:Flat m els k ys)(hy:ys.length=n+1)
  (hm:Le m w.mem) (hbl:b∈lentB ρ w B∨w.heap.size≤b) (hoff:∀o,m b o=none):CPost w m ρ B (fun r B'=>r=.vec (.ret 0) k 0 (n+1)∧B'=[(.ret 0,.arr TE k ys)]) e w':=by
 obtain⟨b',o',c',cs',rfl,g1,g2,g3,g4,g5,g6,g7⟩:=hE;have hu:=ZaL ρ (.ret 0) ⟨b',o',c',true⟩;have hnew:∀b,w.heap.size≤b→∀o,m b o=none:=fun b hb o=>by
  cases hv:m b o with
  |none=>rfl
  |some v=>have:=ZaH (hm _ _ _ hv);omega
 have hoff':∀o,m b' o=none:=by
  rcases g6 with rfl|g6
  ·exact hoff
  ·exact hnew _ g6
 have look:∀s bx,List.lookup s [((.ret 0:Site),Box.arr TE k ys)]=some bx→s=.ret 0∧bx=.arr TE k ys:=fun s bx h=>by
  by_cases e:s=.ret 0
  ·subst e;rw[Zag]at h;cases h;exact⟨rfl,rfl⟩
  ·rw[Zad e]at h;cases h
 have hmw:Le m w'.mem:=fun a o v hv=>by
  have hw:=hm a o v hv;have hlt:=ZaH hw;have hne:a≠b:=fun e=>by subst e;rw[hoff o]at hv;cases hv
  exact(World.cell?_of_block (a:=⟨a,o,none⟩) (g7.block a hlt (by simpa using hne))).trans hw
 refine⟨_,.vec (.ret 0) k 0 (n+1),[(.ret 0,.arr TE k ys)],upd ρ (.ret 0) ⟨b',o',c',true⟩,m,rfl,⟨rfl,rfl⟩,⟨fun s bx h=>?_,fun s s' bx bx' i h h' _ _=>?_,fun s bx i h hb o=>?_⟩,Le.refl m,hmw,fun i=>ZcJ ρ _ (by simp),fun s bx i h hb=>?_,fun _ _ _ h=>.inl h,?_,?_⟩
 ·obtain⟨rfl,rfl⟩:=look s bx h;refine⟨hk,.inr ⟨by rw[hu],cs',by rw[hu];exact g1,by rw[hu];exact g3,by rw[hu,hy];exact g4,by rw[hu];exact g5,fun i x hx=>?_⟩⟩;obtain⟨k1,k2⟩:=hF.get i x hx;refine⟨k1,fun j c hj=>?_⟩;obtain⟨u,q1,q2⟩:=k2 j c hj;have hlt:=(ZxN.1 q1).1;rw[hF.len,hy]at hlt;exact⟨u,by rw[hu];show cs'[o'+i*k+j]?=_;rw[←q1,←g2 _ hlt,Nat.add_assoc],hF.one u (ZxQ q1),q2⟩
 ·rw[(look s bx h).1,(look s' bx' h').1]
 ·obtain⟨rfl,rfl⟩:=look s bx h;obtain⟨_,q⟩:=Za5 rfl hb;rw[hu]at q;rw[←q];exact hoff' o
 ·obtain⟨rfl,rfl⟩:=look s bx h;obtain⟨_,q⟩:=Za5 rfl hb;rw[hu]at q;rw[←q];show w.heap.size≤b'∨b'∈_;rcases g6 with rfl|g6
  ·exact hbl.symm
  ·exact .inl g6
 ·have:=RdA.vec (ρ:=upd ρ (.ret 0) ⟨b',o',c',true⟩) (m:=m) (.ret 0) k 0 (n+1) c' g4 (by rw[hu];simp) (by rw[hu])
  rw[hu]at this;simpa using this
 ·refine⟨g7.os,g7.tape,g7.output,g7.size,fun i hi hn=>g7.block i hi (fun h=>?_)⟩;rw[Zyi]at h;subst h;rcases hbl with h|h
  ·exact hn h
  ·omega
theorem arg3 {vs:Array Value}(h:vs.size=3):∃v u x,vs=#[v,u,x]:=by
 match vs,h with
 |⟨[v,u,x]⟩,_=>exact⟨v,u,x,rfl⟩
theorem Zuu (xs:List PV)(x:PV)(i:Nat)(hi:i≤xs.length)(hx:xs.length≤1000000):
  Zai Tryz.prog 221 [.vec (.par 0) 4 0 xs.length,.pv (.int .i64 i),.vec (.par 1) 4 0 1] [(.par 0,.arr 68 4 xs),(.par 1,.arr 68 4 [x])] (fun r B=>r=.vec (.ret 0) 4 0 (xs.length+1)∧B=[(.ret 0,.arr 68 4 (insB xs i x))]):=by
 refine⟨⟨_,_,Tryz.func221,by kernel_rfl,rfl⟩,fun w m ρ vs hB hmw hsz hrd=>?_⟩;obtain⟨v0,v1,v2,rfl⟩:=arg3 (by simpa using hsz);have h0:=hrd 0 v0 _ rfl rfl;have h1:=(hrd 1 v1 _ rfl rfl).Zu5;have h2:=hrd 2 v2 _ rfl rfl;have hv1:v1=.int .i64 i:=by cases h1;rfl
 subst hv1;have b0:=hB.bx (.par 0) _ rfl;have b1:=hB.bx (.par 1) _ rfl;rcases h2.Zve with⟨cap1,rfl,c0,c1,c2⟩|⟨a,_,c0,_⟩
 ·obtain⟨cv,ns,e1,_,_,_,eF,eN⟩:=Ze6 b1 c2;have hnl:ns.length=4:=by rw[eF.len];rfl
  have hvlt:(ρ (.par 1)).b<w.heap.size:=(Zx8.1 e1).1;rw[Nat.zero_mul,Nat.add_zero]at *;have hcv:∀(j:Nat) v,ns[j]?=some v→w.cell? ⟨(ρ (.par 1)).b,(ρ (.par 1)).o+j,none⟩=some v:=fun j v hj=>(cell_of_row w _ _ cv _ _ e1).trans (eN j v hj)
  rcases h0.Zve with⟨cap,rfl,d0,d1,d2⟩|⟨a,rfl,d0,_⟩
  ·obtain⟨cb,os,f1,f2,f3,f4,fF,fN⟩:=Ze6 b0 d2;rw[Nat.zero_mul,Nat.add_zero];have hne:(ρ (.par 1)).b≠(ρ (.par 0)).b:=fun e=>by
    have:=hB.inj (.par 1) (.par 0) _ _ rfl rfl c2 d2 e
    cases this
   have hol:os.length=xs.length*4:=fF.len;have hfit:(ρ (.par 0)).o+cap*4≤cb.size:=by
    have:cap*4≤(ρ (.par 0)).cap*4:=Zyx _ (by omega)
    omega
   have hFl:Flat m (os.take (i*4)++ns++os.drop (i*4)) 4 (insB xs i x):=by
    have:=((fF.Zxm i hi).app eF).app (fF.Zxw i)
    rw[List.append_assoc (xs.take i)]at this;exact this
   have hbl:(ρ (.par 0)).b∈lentB ρ w [(.par 0,.arr 68 4 xs),(.par 1,.arr 68 4 [x])]:=Zcb.2 ⟨_,List.mem_cons_self ..,ZaA d2⟩;have hoff:=hB.off (.par 0) _ rfl d2;have post:=fun e w' (h:Zbb 68 4 (ρ (.par 0)).b xs.length (os.take (i*4)++ns++os.drop (i*4)) w e w')=>ZeX (ρ:=ρ) (B:=[(.par 0,.arr 68 4 xs),(.par 1,.arr 68 4 [x])]) (by decide) h hFl (Zce hi) hmw.1 (.inl hbl) hoff
   by_cases hin:i<xs.length
   ·by_cases hr:xs.length+1≤cap
    ·exact(ZlZ _ _ _ _ _ _ _ _ cb cv os ns w f1 e1 hne hin hr hfit (by omega) hol fN hnl eN fF.one eF.one).mono post
    ·exact(ZnZ _ _ _ _ _ _ _ _ cb cv os ns w f1 e1 hin (by omega) d0 hx hol fN hnl eN fF.one eF.one).mono post
   ·have he:i=xs.length:=by omega
    subst he;have ht:os.take (xs.length*4)++ns++os.drop (xs.length*4)=os++ns:=by rw[ZxW (by omega),List.drop_eq_nil_of_le (by omega),Zx9]
    rw[ht]at post;by_cases hr:xs.length+1≤cap
    ·exact(ZhA _ _ _ _ _ _ _ cb os ns w f1 hr hfit (by omega) hol fN hnl hcv eF.one).mono post
    ·exact(ZdU (ρ (.par 0)).b _ _ _ _ _ _ os ns w (by omega) hx (fun h=>by cases h) d0 hol (fun j v hj=>⟨_,rfl,by rw[Addr.add_lit];exact(cell_of_row w _ _ cb _ _ f1).trans (fN j v hj)⟩) hnl hcv).mono post
  ·have hx0:xs=[]:=List.length_eq_zero_iff.1 d0;subst hx0;have hi0:i=0:=Nat.le_zero.1 hi;subst hi0;have post:=fun e w' (h:Zbb 68 4 w.heap.size 0 ([]++ns) w e w')=>ZeX (ρ:=ρ) (B:=[(.par 0,.arr 68 4 []),(.par 1,.arr 68 4 [x])]) (by decide) h (ys:=[x]) eF rfl hmw.1 (.inr (ZxR _)) (fun o=>by
    cases hv:m w.heap.size o with
    |none=>rfl
    |some v=>have:=ZaH (hmw.1 _ _ _ hv);omega)
   exact(ZdU w.heap.size _ 0 0 _ _ _ [] ns w (by omega) (by omega) (fun _=>⟨rfl,rfl⟩) (by omega) rfl (fun j v hj=>by simp at hj) hnl hcv).mono post
 ·cases c0
theorem Zuv (xs:List PV)(x:PV)(i:Nat)(hi:i≤xs.length)(hx:xs.length≤1000000):
  Zai Tryz.prog 218 [.vec (.par 0) 1 0 xs.length,.pv (.int .i64 i),.vec (.par 1) 1 0 1] [(.par 0,.arr 3 1 xs),(.par 1,.arr 3 1 [x])] (fun r B=>r=.vec (.ret 0) 1 0 (xs.length+1)∧B=[(.ret 0,.arr 3 1 (insB xs i x))]):=by
 refine⟨⟨_,_,Tryz.func218,by kernel_rfl,rfl⟩,fun w m ρ vs hB hmw hsz hrd=>?_⟩;obtain⟨v0,v1,v2,rfl⟩:=arg3 (by simpa using hsz);have h0:=hrd 0 v0 _ rfl rfl;have h1:=(hrd 1 v1 _ rfl rfl).Zu5;have h2:=hrd 2 v2 _ rfl rfl;have hv1:v1=.int .i64 i:=by cases h1;rfl
 subst hv1;have b0:=hB.bx (.par 0) _ rfl;have b1:=hB.bx (.par 1) _ rfl;rcases h2.Zve with⟨cap1,rfl,c0,c1,c2⟩|⟨a,_,c0,_⟩
 ·obtain⟨cv,ns,e1,_,_,_,eF,eN⟩:=Ze6 b1 c2;have hnl:ns.length=1:=by rw[eF.len];rfl
  have hvlt:(ρ (.par 1)).b<w.heap.size:=(Zx8.1 e1).1;rw[Nat.zero_mul,Nat.add_zero]at *;have hcv:∀(j:Nat) v,ns[j]?=some v→w.cell? ⟨(ρ (.par 1)).b,(ρ (.par 1)).o+j,none⟩=some v:=fun j v hj=>(cell_of_row w _ _ cv _ _ e1).trans (eN j v hj)
  rcases h0.Zve with⟨cap,rfl,d0,d1,d2⟩|⟨a,rfl,d0,_⟩
  ·obtain⟨cb,os,f1,f2,f3,f4,fF,fN⟩:=Ze6 b0 d2;rw[Nat.zero_mul,Nat.add_zero];have hne:(ρ (.par 1)).b≠(ρ (.par 0)).b:=fun e=>by
    have:=hB.inj (.par 1) (.par 0) _ _ rfl rfl c2 d2 e
    cases this
   have hol:os.length=xs.length*1:=fF.len;have hfit:(ρ (.par 0)).o+cap*1≤cb.size:=by
    have:cap*1≤(ρ (.par 0)).cap*1:=Zyx _ (by omega)
    omega
   have hFl:Flat m (os.take (i*1)++ns++os.drop (i*1)) 1 (insB xs i x):=by
    have:=((fF.Zxm i hi).app eF).app (fF.Zxw i)
    rw[List.append_assoc (xs.take i)]at this;exact this
   have hbl:(ρ (.par 0)).b∈lentB ρ w [(.par 0,.arr 3 1 xs),(.par 1,.arr 3 1 [x])]:=Zcb.2 ⟨_,List.mem_cons_self ..,ZaA d2⟩;have hoff:=hB.off (.par 0) _ rfl d2;have post:=fun e w' (h:Zbb 3 1 (ρ (.par 0)).b xs.length (os.take (i*1)++ns++os.drop (i*1)) w e w')=>ZeX (ρ:=ρ) (B:=[(.par 0,.arr 3 1 xs),(.par 1,.arr 3 1 [x])]) (by decide) h hFl (Zce hi) hmw.1 (.inl hbl) hoff
   by_cases hin:i<xs.length
   ·by_cases hr:xs.length+1≤cap
    ·exact(Zl0 _ _ _ _ _ _ _ _ cb cv os ns w f1 e1 hne hin hr hfit (by omega) hol fN hnl eN fF.one eF.one).mono post
    ·exact(Zn0 _ _ _ _ _ _ _ _ cb cv os ns w f1 e1 hin (by omega) d0 hx hol fN hnl eN fF.one eF.one).mono post
   ·have he:i=xs.length:=by omega
    subst he;have ht:os.take (xs.length*1)++ns++os.drop (xs.length*1)=os++ns:=by rw[ZxW (by omega),List.drop_eq_nil_of_le (by omega),Zx9]
    rw[ht]at post;by_cases hr:xs.length+1≤cap
    ·exact(ZhB _ _ _ _ _ _ _ cb os ns w f1 hr hfit (by omega) hol fN hnl hcv eF.one).mono post
    ·exact(ZdV (ρ (.par 0)).b _ _ _ _ _ _ os ns w (by omega) hx (fun h=>by cases h) d0 hol (fun j v hj=>⟨_,rfl,by rw[Addr.add_lit];exact(cell_of_row w _ _ cb _ _ f1).trans (fN j v hj)⟩) hnl hcv).mono post
  ·have hx0:xs=[]:=List.length_eq_zero_iff.1 d0;subst hx0;have hi0:i=0:=Nat.le_zero.1 hi;subst hi0;have post:=fun e w' (h:Zbb 3 1 w.heap.size 0 ([]++ns) w e w')=>ZeX (ρ:=ρ) (B:=[(.par 0,.arr 3 1 []),(.par 1,.arr 3 1 [x])]) (by decide) h (ys:=[x]) eF rfl hmw.1 (.inr (ZxR _)) (fun o=>by
    cases hv:m w.heap.size o with
    |none=>rfl
    |some v=>have:=ZaH (hmw.1 _ _ _ hv);omega)
   exact(ZdV w.heap.size _ 0 0 _ _ _ [] ns w (by omega) (by omega) (fun _=>⟨rfl,rfl⟩) (by omega) rfl (fun j v hj=>by simp at hj) hnl hcv).mono post
 ·cases c0
end
section
attribute [local simp] AS.exp expG Box.ren AV.map AV.Zu9 Zau noRet Site.Zu6 Box.Zu3 AV.Zu3 AV.Zu4 retB dropL AS.Zvd renL outG outOk Zas inG fnOf lookA Zyc
attribute [local simp] Box.Zu0 Site.Zu1
section
attribute [local simp] frzsL retOk renB toLoc
def bdQ (r:Except Int (List Int))(l:List Ct)(ls ts rn:PV)(a b c d e:PV):Prop:=∃l',r=.ok l'∧a=ctsP l∧b=bdsP l'∧c=ls∧d=ts∧e=rn
def bdJ (W:Box)(bad:List Int)(n:Int):AS:=⟨[(27,.ptr (.par 0) 0),(33,.vec (.loc 33 0) 1 0 bad.length),(34,.pv (.int .i64 (lowB bad n))),(38,.vec (.loc 38 0) 1 0 1)],[(.loc 33 0,.arr 3 1 (bad.map iP)),(.loc 38 0,.arr 3 1 [iP n]),(.par 0,W)]⟩
theorem bad_x (l:List Ct)(bad:List Int)(ls ts rn:PV)(n:Int)(hl:l.length≤1000)(hb:bad.length≤900)(hs:bad.Pairwise (·<·)):
  ZaT Tryz.prog 188 [.ptr (.par 0) 0,.pv (.lst false 1 [iP n])] [(.par 0,wkX (ctsP l) (bdsP bad) ls ts rn)] (okR (bdQ (badM l bad n) l ls ts rn)) (noR (fun e=>badM l bad n=.error e)):=by
 have hkc:=ZjC l n (bdsP bad) ls ts rn hl;have hsc:=ZoP bad n hs (by omega);have hic:=Zuv (bad.map iP) (iP n) (lowB bad n) (by rw[ZxS];exact Zgy) (by rw[ZxS];omega);rw[←ZhC (f:=iP),ZxS]at hic;refine cX L188 ?_;generalize hE:(fun e=>badM l bad n=.error e)=E;generalize hQ:bdQ (badM l bad n) l ls ts rn=Q;unfold badM at hE hQ;generalize(l.any fun y=>decide (y.num=n))=kn at hE hQ hkc;show awpX _ (.seq _ (.seq _ (.seq _ _))) _ _ _;cases kn with
 |false=>
  have hE7:E 7:=by rw[←hE];rfl
  refine Zap [_,_,_,_,_] ?_;simp[-getElem?_pos,hold,wkX,iP,ctsP];refine cM [.ptr (.par 0) 0,.pv (.int .i64 n)] [(.par 0,wkX (ctsP l) (bdsP bad) ls ts rn)] 10 [.par 0] (by simp[wkX,ctsP]) hkc (by simp[wkX]) ?_;simp[-getElem?_pos,hold,wkX];exact pF 7 hE7
 |true=>
 rw[if_pos rfl]at hE hQ;refine Zan ?_;simp[-getElem?_pos,hold,wkX,iP,ctsP];refine cM [.ptr (.par 0) 0,.pv (.int .i64 n)] [(.par 0,wkX (ctsP l) (bdsP bad) ls ts rn)] 10 [.par 0] (by simp[wkX,ctsP]) hkc (by simp[wkX]) ?_;simp[-getElem?_pos,hold,wkX];refine cG [.bool true,.int .i64 7] (ask_t 7) ?_;simp[-getElem?_pos,hold];refine Zan ?_;simp[-getElem?_pos,hold,bdsP,iP];refine cG [.lst false 1 (bad.map iP),.int .i64 n] hsc ?_;simp[-getElem?_pos,hold];by_cases hm:n∈bad
 ·rw[if_pos hm]at hE;have hE6:E 6:=by rw[←hE]
  refine Zap [_,_] ?_;simp[-getElem?_pos,hold,hm];exact pF 6 hE6
 rw[if_neg hm]at hQ;refine Zan ?_;simp[-getElem?_pos,hold,hm];refine cG [.bool true,.int .i64 6] (ask_t 6) ?_;simp[-getElem?_pos,hold];refine ZbA ?_;have hcl:=Zf6 (bad.map iP) (by rw[ZxS];omega);simp[-getElem?_pos,-List.map_cons,hold,bdsP,iP];refine ZbP (fun τ=>τ=bdJ (wkX (ctsP l) (bdsP bad) ls ts rn) bad n) ?_ ?_
 ·simp only[Zak,Zaq];refine⟨?_,?_⟩
  ·simp[-getElem?_pos,-List.map_cons,hold];refine Za9 [] (fs:=[]) (xs:=[.lst false 1 (bad.map iP)]) (cs:=[]) rfl rfl hcl ?_;rintro r B (⟨h,rfl,rfl⟩|⟨rfl,rfl⟩)
   ·rw[List.map_eq_nil_iff]at h;subst h;simp[-getElem?_pos,Zak,Zaq];exact Sub.trans' (Sub.mk (by simp[bdJ,AS.vecT]) (by simp[bdJ,AS.vecT,bdsP,wkX,iP,ctsP])) (vecT 33 3 1 33 rfl (by decide))
   ·simp[-getElem?_pos,Zak,Zaq];exact Sub.mk (by simp[bdJ]) (by simp[bdJ,bdsP,wkX,iP,ctsP])
  ·refine⟨?_,trivial⟩;simp[-getElem?_pos,-List.map_cons,Zak,Zaq,hold];refine Za9 [] (fs:=[]) (xs:=[.lst false 1 (bad.map iP)]) (cs:=[]) rfl rfl hcl ?_;rintro r B (⟨h,rfl,rfl⟩|⟨rfl,rfl⟩)
   ·rw[List.map_eq_nil_iff]at h;subst h;simp[-getElem?_pos,Zak,Zaq];exact Sub.trans' (Sub.mk (by simp[bdJ,AS.vecT]) (by simp[bdJ,AS.vecT,bdsP,wkX,iP,ctsP])) (vecT 33 3 1 33 rfl (by decide))
   ·simp[-getElem?_pos,Zak,Zaq];exact Sub.mk (by simp[bdJ]) (by simp[bdJ,bdsP,wkX,iP,ctsP])
 ·rintro τ rfl;simp[-getElem?_pos,bdJ,Zak,Zaq];refine cL [.vec (.par 0) 1 0 bad.length,.pv (.int .i64 (lowB bad n)),.vec (.par 1) 1 0 1] [(.par 0,.arr 3 1 (bad.map iP)),(.par 1,.arr 3 1 [iP n])] 39 [.loc 33 0,.loc 38 0] (by simp) hic ?_
  rintro r0 B0 ⟨rfl,rfl⟩;refine⟨by simp,by simp,?_⟩;have hle:bad.length+1≤(insB bad (lowB bad n) n).length:=by rw[Zce Zgy];exact ZxR _
  have htk:List.take (bad.length+1) ((insB bad (lowB bad n) n).map iP)=(insB bad (lowB bad n) n).map iP:=ZxW (by rw[ZxS,Zce Zgy];exact ZxR _);simp[-getElem?_pos,-List.map_cons,hold,wkX,Zak,Zaq];refine retW (a:=ctsP l) (b:=bdsP (insB bad (lowB bad n) n)) (c:=ls) (d:=ts) (e:=rn) [.loc 39 0] ?_ ?_
  ·simp[frzL,AS.frz,AV.frz,AV.frzL,Box.frz,AS.tidy,AS.ZvF,wkX,bdsP,htk,hle]
  ·rw[←hQ];exact⟨_,rfl,rfl,rfl,rfl,rfl,rfl⟩
def ltQ (r:Except Int (List Lt))(ct bd ts rn:PV)(a b c d e:PV):Prop:=∃l',r=.ok l'∧a=ct∧b=bd∧c=lotsP l'∧d=ts∧e=rn
def ltJ (W:Box)(ls:List Lt)(x:Lt):AS:=⟨[(34,.ptr (.par 0) 0),(40,.vec (.loc 40 0) 4 0 ls.length),(41,.pv (.int .i64 (lowB (ls.map Lt.num) x.num))),(52,.vec (.loc 52 0) 4 0 1)],[(.loc 40 0,.arr 68 4 (ls.map Lt.pv)),(.loc 52 0,.arr 68 4 [x.pv]),(.par 0,W)]⟩
theorem lot_x (ct bd ts rn:PV)(ls:List Lt)(n p q:Int)(hn:ZdH n)(hl:ls.length≤900)(hs:(ls.map Lt.num).Pairwise (·<·))(hok:∀y∈ls,ltOk y):
  ZaT Tryz.prog 189 [.ptr (.par 0) 0,.pv (.lst false 1 [iP n,iP p,iP q])] [(.par 0,wkX ct bd (lotsP ls) ts rn)] (okR (ltQ (lotM ls ⟨n,p,q,false⟩) ct bd ts rn)) (noR (fun e=>lotM ls ⟨n,p,q,false⟩=.error e)):=by
 have hfc:=Zoi ls n ct bd ts rn hs (by omega) (fun y hy=>by obtain⟨h1,h2,_⟩:=hok y hy;unfold ZdH at hn;exact wrap64 (by omega));have hlo:=Zgy (l:=ls.map Lt.num) (x:=n);rw[ZxS]at hlo;have hic:=Zuu (ls.map Lt.pv) (Lt.pv ⟨n,p,q,false⟩) (lowB (ls.map Lt.num) n) (by rw[ZxS];exact hlo) (by rw[ZxS];omega);rw[←ZhC (f:=Lt.pv),ZxS]at hic;have w1:=Zbo n 1 99;have w2:=Zbo p 4 30;have w3:=Zbo q 0 1000;refine cX L189 ?_;generalize hE:(fun e=>lotM ls ⟨n,p,q,false⟩=.error e)=E;generalize hQ:ltQ (lotM ls ⟨n,p,q,false⟩) ct bd ts rn=Q;unfold lotM at hE hQ;dsimp only at hE hQ;show awpX _ (.seq _ (.seq _ (.seq _ _))) _ _ _;generalize hc1:(decide (1≤n)&&decide (n≤99))=c1 at hE hQ w1;generalize hc2:(decide (4≤p)&&decide (p≤30))=c2 at hE hQ w2;generalize hc3:(decide (0≤q)&&decide (q≤1000))=c3 at hE hQ w3;by_cases hc:¬(c1=true∧c2=true∧c3=true)
 ·rw[if_neg hc]at hE;have hE2:E 2:=by rw[←hE]
  refine Zap [_,_,_,_,_,_,_,_,_,_,_,_,_,_,_,_] ?_;simp[-getElem?_pos,hold,iP];refine cG [.int .i64 n,.int .i64 1,.int .i64 99] w1 ?_;cases c1 with
  |false=>
   simp[-getElem?_pos,hold];exact pF 2 hE2
  |true=>
  simp[-getElem?_pos,hold];refine cG [.int .i64 p,.int .i64 4,.int .i64 30] w2 ?_;cases c2 with
  |false=>
   simp[-getElem?_pos,hold];exact pF 2 hE2
  |true=>
  simp[-getElem?_pos,hold];refine cG [.int .i64 q,.int .i64 0,.int .i64 1000] w3 ?_;cases c3 with
  |false=>
   simp[-getElem?_pos,hold];exact pF 2 hE2
  |true=>exact absurd ⟨rfl,rfl,rfl⟩ hc
 have hc:=Decidable.not_not.1 hc;rw[if_pos hc]at hE hQ;obtain⟨rfl,rfl,rfl⟩:=hc;refine Zan ?_;simp[-getElem?_pos,hold,iP];refine cG [.int .i64 n,.int .i64 1,.int .i64 99] w1 ?_;simp[-getElem?_pos,hold];refine cG [.int .i64 p,.int .i64 4,.int .i64 30] w2 ?_;simp[-getElem?_pos,hold];refine cG [.int .i64 q,.int .i64 0,.int .i64 1000] w3 ?_;simp[-getElem?_pos,hold];refine cG [.bool true,.int .i64 2] (ask_t 2) ?_;simp[-getElem?_pos,hold];refine Zan ?_;simp[-getElem?_pos,hold,wkX,lotsP];refine cM [.ptr (.par 0) 0,.pv (.int .i64 n)] [(.par 0,wkX ct bd (lotsP ls) ts rn)] 28 [.par 0] (by simp[wkX,lotsP]) hfc (by simp[wkX]) ?_;simp[-getElem?_pos,-List.mem_map,hold,wkX];by_cases hm:n∈ls.map Lt.num
 ·rw[if_pos hm]at hE;have hE6:E 6:=by rw[←hE]
  refine Zap [_,_] ?_;simp[-getElem?_pos,-List.mem_map,hold,hm];exact pF 6 hE6
 rw[if_neg hm]at hQ;refine Zan ?_;simp[-getElem?_pos,-List.mem_map,hold,hm];refine cG [.bool true,.int .i64 6] (ask_t 6) ?_;simp[-getElem?_pos,hold];refine ZbA ?_;have hcl:=ZgU (ls.map Lt.pv) (by rw[ZxS];omega);simp[-getElem?_pos,hold,lotsP,iP,setAt];refine ZbP (fun τ=>τ=ltJ (wkX ct bd (lotsP ls) ts rn) ls ⟨n,p,q,false⟩) ?_ ?_
 ·simp only[Zak,Zaq];refine⟨?_,?_⟩
  ·simp[-getElem?_pos,hold];refine Za9 [] (fs:=[]) (xs:=[.lst false 4 (ls.map Lt.pv)]) (cs:=[]) rfl rfl hcl ?_;rintro r B (⟨h,rfl,rfl⟩|⟨rfl,rfl⟩)
   ·rw[List.map_eq_nil_iff]at h;subst h;simp[-getElem?_pos,Zak,Zaq];exact Sub.trans' (Sub.mk (by simp[ltJ,AS.vecT]) (by simp[ltJ,AS.vecT,wkX,lotsP,Lt.pv])) (vecT 40 68 4 40 rfl (by decide))
   ·simp[-getElem?_pos,Zak,Zaq];exact Sub.mk (by simp[ltJ]) (by simp[ltJ,wkX,lotsP,Lt.pv])
  ·refine⟨?_,trivial⟩;simp[-getElem?_pos,Zak,Zaq,hold];refine Za9 [] (fs:=[]) (xs:=[.lst false 4 (ls.map Lt.pv)]) (cs:=[]) rfl rfl hcl ?_;rintro r B (⟨h,rfl,rfl⟩|⟨rfl,rfl⟩)
   ·rw[List.map_eq_nil_iff]at h;subst h;simp[-getElem?_pos,Zak,Zaq];exact Sub.trans' (Sub.mk (by simp[ltJ,AS.vecT]) (by simp[ltJ,AS.vecT,wkX,lotsP,Lt.pv])) (vecT 40 68 4 40 rfl (by decide))
   ·simp[-getElem?_pos,Zak,Zaq];exact Sub.mk (by simp[ltJ]) (by simp[ltJ,wkX,lotsP,Lt.pv])
 ·rintro τ rfl;simp[-getElem?_pos,ltJ,Zak,Zaq];refine cL [.vec (.par 0) 4 0 ls.length,.pv (.int .i64 (lowB (ls.map Lt.num) n)),.vec (.par 1) 4 0 1] [(.par 0,.arr 68 4 (ls.map Lt.pv)),(.par 1,.arr 68 4 [Lt.pv ⟨n,p,q,false⟩])] 53 [.loc 40 0,.loc 52 0] (by simp) hic ?_
  rintro r0 B0 ⟨rfl,rfl⟩;refine⟨by simp,by simp,?_⟩;have hle:ls.length+1≤(insB ls (lowB (ls.map Lt.num) n) ⟨n,p,q,false⟩).length:=by rw[Zce hlo];exact ZxR _
  have htk:List.take (ls.length+1) ((insB ls (lowB (ls.map Lt.num) n) ⟨n,p,q,false⟩).map Lt.pv)=(insB ls (lowB (ls.map Lt.num) n) ⟨n,p,q,false⟩).map Lt.pv:=ZxW (by rw[ZxS,Zce hlo];exact ZxR _);simp[-getElem?_pos,hold,wkX,Zak,Zaq];refine retW (a:=ct) (b:=bd) (c:=lotsP (insB ls (lowB (ls.map Lt.num) n) ⟨n,p,q,false⟩)) (d:=ts) (e:=rn) [.loc 53 0] ?_ ?_
  ·simp[frzL,AS.frz,AV.frz,AV.frzL,Box.frz,AS.tidy,AS.ZvF,wkX,lotsP,htk,hle]
  ·rw[←hQ];exact⟨_,rfl,rfl,rfl,rfl,rfl,rfl⟩
end
section
theorem ZuN (st:Wk)(hl:st.certs.length≤1000)(hb:st.bad.length≤900)(hs:st.bad.Pairwise (·<·)):BadOk st:=fun n _=>by
 refine(bad_x st.certs st.bad (lotsP st.lots) (ttsP st.tests) (runsP st.runs) n hl hb hs).mono ?_ ?_
 ·rintro r B ⟨rfl,a,b,c,d,e,rfl,l',h1,rfl,rfl,rfl,rfl,rfl⟩;exact⟨rfl,_,_,_,_,_,rfl,{ st with bad:=l' },by rw[h1];rfl,rfl⟩
 ·rintro x B ⟨m,rfl,h1,h2⟩;exact⟨m,rfl,by rw[h1];rfl,h2⟩
theorem Zup (st:Wk)(hl:st.lots.length≤900)(hs:(st.lots.map Lt.num).Pairwise (·<·))(hok:∀y∈st.lots,ltOk y):LotOk st:=fun n p m hn _ _=>by
 refine(lot_x (ctsP st.certs) (bdsP st.bad) (ttsP st.tests) (runsP st.runs) st.lots n p m hn hl hs hok).mono ?_ ?_
 ·rintro r B ⟨rfl,a,b,c,d,e,rfl,l',h1,rfl,rfl,rfl,rfl,rfl⟩;exact⟨rfl,_,_,_,_,_,rfl,{ st with lots:=l' },by rw[h1];rfl,rfl⟩
 ·rintro x B ⟨m,rfl,h1,h2⟩;exact⟨m,rfl,by rw[h1];rfl,h2⟩
theorem Zd6 {F:Nat}(hF:407<F):ZgX WkI (doB F):=fun k st s hk h hs=>
 ⟨h.next s,doB_c hF st s (by omega) (h.ok (by omega)) (by have:=h.c;omega) (by have:=h.r;omega) h.s (ZuN st (by have:=h.c;omega) (by have:=h.b;omega) h.bs) (Zup st (by have:=h.l;omega) h.s (fun x hx=>(h.lt x hx).1))⟩
theorem Zke (k:Nat)(w:Wk)(hk:k≤50)(h:WkI k w):WkOk w:=h.ok (by omega)
theorem Zlz {F:Nat}(hF:407<F)(L:List ByteArray)(hl:L.length≤1000000):Gives Tryz.prog 15 [strsP L] (plyE (doB F) L):=ZuX (Zd6 hF) wk0_I Zke L hl
theorem Zkb {F:Nat}(hF:407<F)(L:List ByteArray)(hl:L.length≤1000000)(n:Int):Gives Tryz.prog 13 [strsP L,.int .i64 n] (wdrE (doB F) L n):=Zka (Zd6 hF) wk0_I Zke L hl n (fun k w hk h=>by have:=h.b;omega)
end
end
section
open Go.RowKit Go.Shelf
theorem ZqY:(Tryz.prog.info? 130).map (·.size)=some 2:=by kernel_rfl
theorem Zlq:∃j,Tryz.prog.info? 130=some j∧j.size≠0:=by
 obtain⟨j,h1,h2⟩:=ZxP.1 ZqY;exact⟨j,h1,by rw[h2];decide⟩
theorem ZqZ:liesAt Tryz.prog Tryz.prog.depth 130 (2 / Tryz.prog.cellsOf 130) 0 130 1=true:=by kernel_rfl
set_option maxRecDepth 100000 in
theorem ZtB (b:Nat)(v:Value)(w:World)(hb:w.heap[b]?=some (.cells #[.pointer (some ⟨b,0,none⟩),v] 130 (0,0))):
  Calls Tryz.prog 94 #[.pointer (some ⟨b,0,none⟩)] w fun e w'=>e=.returned (.tuple #[])∧w'=w:=by
 have h0:w.cell? ⟨b,0,none⟩=some (.pointer (some ⟨b,0,none⟩)):=by rw[Lib.cell_of_heap hb];rfl
 obtain⟨j,hj,_⟩:=Zlq;go_enter Tryz.func94,Tryz.ntmps94;go_wp2;rw[Lib.run_neq_ptr_same w _ Tryz.underlying128 hj];go_wp2;go_end0;exact⟨rfl,rfl⟩
set_option maxRecDepth 100000 in
theorem ZqQ (b:Nat)(v:Value)(w:World)(hb:w.heap[b]?=some (.cells #[.pointer none,v] 130 (0,0))):
  Calls Tryz.prog 94 #[.pointer (some ⟨b,0,none⟩)] w fun e w'=>e=.returned (.tuple #[])∧w'=w.setCell ⟨b,0,none⟩ (.pointer (some ⟨b,0,none⟩)):=by
 have h0:w.cell? ⟨b,0,none⟩=some (.pointer none):=by rw[Lib.cell_of_heap hb];rfl
 have hfz:w.frozen? ⟨b,0,none⟩=false:=Lib.frozen_of_heap hb 0;have hsh:w.shape? b=some (130,2):=by simp[World.shape?,hb]
 obtain⟨j,hj,hjs⟩:=Zlq;go_enter Tryz.func94,Tryz.ntmps94;go_wp2;rw[Lib.run_to_unsafe w ⟨b,0,none⟩ Tryz.underlying128 Tryz.underlying225 hj hjs hsh (Nat.zero_lt_succ 1)];simp only[Result.andThen];rw[Oper.upon_value];go_wp2;rw[run_callFunc_extern Tryz.func146 (by kernel_rfl) (by kernel_rfl) (by kernel_rfl) (e:=Extern.AbiNoEscape.same) (by kernel_rfl)];rw[Lib.run_noEscape];simp only[Result.andThen];rw[Oper.upon_value];go_wp2;rw[Lib.run_from_unsafe w ⟨b,0,none⟩ Tryz.underlying225 Tryz.underlying128 hj hsh ZqZ];simp only[Result.andThen];rw[Oper.upon_value];go_wp2;go_end0;exact⟨rfl,rfl⟩
set_option maxRecDepth 100000 in
theorem Zjb (b n cap:Nat)(ad:Option Addr)(ad':Option Addr)(n' cap':Nat)(s:ByteArray)(w w1 w2:World)(hcc:Calls Tryz.prog 94 #[.pointer (some ⟨b,0,none⟩)] w fun e w'=>e=.returned (.tuple #[])∧w'=w1)
  (hb1:w1.heap[b]?=some (.cells #[.pointer (some ⟨b,0,none⟩),.slice ad n cap] 130 (0,0))) (happ:∀ty,(Builtin.append_ #[76,9] ty #[.slice ad n cap,.string s]).run Tryz.prog w1=.ok (.slice ad' n' cap') w2)
  (hb2:w2.heap[b]?=some (.cells #[.pointer (some ⟨b,0,none⟩),.slice ad n cap] 130 (0,0))):
  Calls Tryz.prog 48 #[.pointer (some ⟨b,0,none⟩),.string s] w fun e w'=>e=.returned (.tuple #[.int .i64 s.size,.nilIface])∧w'=w2.setCell ⟨b,1,none⟩ (.slice ad' n' cap'):=by
 have c0:w1.cell? ⟨b,0,none⟩=some (.pointer (some ⟨b,0,none⟩)):=by rw[Lib.cell_of_heap hb1];rfl
 have c1:w1.cell? ⟨b,1,none⟩=some (.slice ad n cap):=by rw[Lib.cell_of_heap hb1];rfl
 have d0:w2.cell? ⟨b,0,none⟩=some (.pointer (some ⟨b,0,none⟩)):=by rw[Lib.cell_of_heap hb2];rfl
 have d1:w2.cell? ⟨b,1,none⟩=some (.slice ad n cap):=by rw[Lib.cell_of_heap hb2];rfl
 have f1:w2.frozen? ⟨b,1,none⟩=false:=Lib.frozen_of_heap hb2 1;have e112:∀args w,(callFunc 94 args).run Tryz.prog w=.ok (.enter 94 args) w:=enters_of Tryz.func94 (by kernel_rfl) rfl;go_enter Tryz.func48,Tryz.ntmps48;go_wp2_with (go_at_fn 94;refine hcc.mono ?_);rintro e w' ⟨rfl,rfl⟩;go_wp2_with (at_builtin;refine Lib.wpList_append_run _ rfl _ _ _ _ rfl _ _ rfl rfl _ _ (happ _) ?_);go_ret2;exact⟨rfl,rfl⟩
end
section
theorem Keep.sub {bs cs:List Nat}{w w':World}(h:Keep bs w w')(hs:∀k∈bs,k∈cs):Keep cs w w':=⟨h.os,h.tape,h.output,h.size,fun k hk hn=>h.block k hk (fun hm=>hn (hs k hm))⟩
abbrev tBl:TypeId:=130
abbrev tU8:TypeId:=5
def ptrB (b:Nat):Value:=.pointer (some ⟨b,0,none⟩)
theorem Zj4 {q:Loc}{m:Mem}{w w2:World}{l:List UInt8}{v0:Value}{g n c:Nat}{cur:Array Value}(hb2:w2.heap[q.b]?=some (.cells #[ptrB q.b,v0] tBl (0,0)))(hg2:w2.heap[g]?=some (.cells cur tU8 (0,0)))(hgb:g≠q.b)(hn:n=l.length)(hc0:0<c)
  (hnc:n≤c) (hcs:c≤cur.size) (hcm:c≤maxLen) (hel:∀(i:Nat) (b:UInt8),l[i]?=some b→cur[i]?=some (.int .u8 b.toNat)) (hk:Keep (q.b::Zba q w) w w2) (hnew:g∈Zba q w∨w.heap.size≤g):
  bldRd tBl tU8 l q m (w2.setCell ⟨q.b,1,none⟩ (.slice (some ⟨g,0,none⟩) n c))∧Keep (q.b::Zba q w) w (w2.setCell ⟨q.b,1,none⟩ (.slice (some ⟨g,0,none⟩) n c))∧∀k∈Zba q (w2.setCell ⟨q.b,1,none⟩ (.slice (some ⟨g,0,none⟩) n c)),k∈Zba q w∨w.heap.size≤k:=by
 subst hn;obtain⟨c,rfl⟩:∃k,c=k+1:=⟨c-1,by omega⟩;rw[setCell_eq_setRow _ _ _ _ _ _ _ hb2];have h3:(w2.setRow q.b (#[ptrB q.b,v0].setIfInBounds 1 (.slice (some ⟨g,0,none⟩) l.length (c+1)))).heap[q.b]?=some (.cells #[ptrB q.b,.slice (some ⟨g,0,none⟩) l.length (c+1)] tBl (0,0)):=setRow_heap _ _ _ _ _ _ hb2;refine⟨⟨_,_,h3,.inr rfl,.inr ⟨g,c,cur,rfl,hgb,by rw[setRow_other _ _ _ _ hgb];exact hg2,hnc,hcs,hcm,hel⟩⟩,hk.trans ((Keep.setRow _ _ _).sub (fun k h=>by rw[Zyi]at h;subst h;exact List.mem_cons_self ..)),fun k h=>?_⟩;rw[Zc3 h3,Zyi]at h;subst h;exact hnew
theorem Zpc {q:Loc}{m:Mem}{w:World}{l:List UInt8}(s:ByteArray)(hs:0<s.size)(hl:l.length+s.size≤1000000)(h:bldRd tBl tU8 l q m w):
  Calls Tryz.prog 48 #[ptrB q.b,.string s] w fun e w'=>e=.returned (.tuple #[.int .i64 s.size,.nilIface])∧bldRd tBl tU8 (l++s.data.toList) q m w'∧Keep (q.b::Zba q w) w w'∧∀k∈Zba q w',k∈Zba q w∨w.heap.size≤k:=by
 obtain⟨p,v,hb,hp,hv⟩:=h;obtain⟨w1,hcc,hb1,hk1⟩:∃w1,(Calls Tryz.prog 94 #[ptrB q.b] w fun e w'=>e=.returned (.tuple #[])∧w'=w1)∧w1.heap[q.b]?=some (.cells #[ptrB q.b,v] tBl (0,0))∧Keep [q.b] w w1:=by
  rcases hp with rfl|rfl
  ·refine⟨_,ZqQ q.b v w hb,?_,?_⟩
   ·rw[setCell_eq_setRow _ _ _ _ _ _ _ hb];exact setRow_heap _ _ _ _ _ _ hb
   ·rw[setCell_eq_setRow _ _ _ _ _ _ _ hb];exact Keep.setRow _ _ _
  ·exact⟨w,ZtB q.b v w hb,hb,Keep.ZvU _ _⟩
 have hbl:q.b<w.heap.size:=(Zx8.1 hb).1;have hb1l:q.b<w1.heap.size:=(Zx8.1 hb1).1;have hsz:=hk1.size;have hk1':Keep (q.b::Zba q w) w w1:=hk1.sub (fun k h=>by rw[Zyi]at h;subst h;exact List.mem_cons_self ..);obtain⟨i,z,hi,hz,hz1,hz2,hz3⟩:∃i z,Tryz.prog.info? 5=some i∧i.zero=some z∧i.size=1∧i.bytes=1∧z.cells.size=1:=by
  have h:(Tryz.prog.info? 5).map (fun i=>(i.zero,i.size,i.bytes))=some (some (.int .u8 0),1,1):=by kernel_rfl
  cases h':Tryz.prog.info? 5 with
  |none=>rw[h']at h;simp at h
  |some i=>
   rw[h',Zyq,Option.some.injEq,Prod.mk.injEq,Prod.mk.injEq]at h;exact⟨i,_,rfl,h.1,h.2.1,h.2.2,rfl⟩
 have hstr:∀w',(Builtin.firstCells i.size s.size (.string s)).run Tryz.prog w'=.ok (Lib.strCells s).toArray w':=fun w'=>Lib.run_firstCells_string w' i.size s
 have hsl:=Lib.strCells_length s;have hdl:s.data.toList.length=s.size:=rfl;have hsg:∀(j:Nat) (b:UInt8),s.data.toList[j]?=some b→(Lib.strCells s)[j]?=some (.int .u8 b.toNat):=fun j b hj=>by
  unfold Lib.strCells;rw[ZxM,hj];rfl
 rcases hv with⟨rfl,rfl⟩|⟨g,c,cur,rfl,hgb,hg,h1,h2,h3,h4⟩
 ·have hrun:∀ty,(Builtin.append_ #[76,9] ty #[.slice none 0 0,.string s]).run Tryz.prog w1=_:=fun ty=>
   Zeh (P:=Tryz.prog) (w:=w1) (ty:=ty) Tryz.underlying76 Tryz.underlying9 hi hz none 0 0 s s.size rfl [] (Lib.strCells s) (fun w' _=>run_firstCells_none w' i.size 0 0 0) (fun w' _=>hstr w') (by omega) (by omega) (growslice_fits (by omega) (by rw[hz2];omega))
  have hge:=grownCap_ge w1 (0+s.size) 0 tU8;have hle:=grownCap_le_maxLen w1 (0+s.size) 0 tU8 (by unfold maxLen;omega);generalize grownCap w1 (0+s.size) 0 tU8=G at hrun hge hle;have hb2:(w1.drew.alloc (.cells (([]++Lib.strCells s).toArray++Builtin.zeroCells z.cells (G-(0+s.size))) tU8)).heap[q.b]?=some (.cells #[ptrB q.b,.slice none 0 0] tBl (0,0)):=by rw[heap_alloc_old w1.drew _ hb1l];exact hb1
  refine(Zjb q.b 0 0 none _ _ _ s w w1 _ hcc hb1 hrun hb2).mono ?_;rintro e w' ⟨rfl,rfl⟩;refine⟨rfl,Zj4 hb2 (heap_alloc_new w1.drew _) (by show w1.heap.size≠q.b;omega) ?_ (by omega) hge ?_ hle (fun j b hj=>?_) (hk1'.trans ((Zdy w1 _).trans (Keep.Zwb (Ext.al _ _) _))) (.inr hsz)⟩
  ·rw[ZxU,hdl];rfl
  ·rw[Array.size_append,Zyd,ZxU,size_zeroCells,hz3,hsl,List.length_nil];omega
  ·have hlt:=(ZxN.1 hj).1;rw[List.nil_append]at hj hlt ⊢;rw[Array.getElem?_append_left (by rw[Zyd,hsl];omega),Zyo];exact hsg j b hj
 ·have hgl:g<w.heap.size:=(Zx8.1 hg).1;have hg1:w1.heap[g]?=some (.cells cur tU8 (0,0)):=by rw[hk1.block g hgl (by simpa using hgb)];exact hg
  have hins:Zba q w=[g]:=Zc3 hb;by_cases hroom:l.length+s.size≤c+1
  ·have hrun:∀ty,(Builtin.append_ #[76,9] ty #[.slice (some ⟨g,0,none⟩) l.length (c+1),.string s]).run Tryz.prog w1=_:=fun ty=>
    Zgj (P:=Tryz.prog) (w:=w1) (ty:=ty) Tryz.underlying76 Tryz.underlying9 hi g 0 l.length (c+1) cur hg1 s s.size rfl (Lib.strCells s) (hstr w1) (Lib.strCells_oneCell s) hroom (by rw[hz1,hsl];omega)
   have hb2:(w1.setRow g (splice cur.toList (0+l.length*i.size) (Lib.strCells s)).toArray).heap[q.b]?=some (.cells #[ptrB q.b,.slice (some ⟨g,0,none⟩) l.length (c+1)] tBl (0,0)):=by rw[setRow_other _ _ _ _ (Ne.symm hgb)];exact hb1
   refine(Zjb q.b l.length (c+1) _ _ _ _ s w w1 _ hcc hb1 hrun hb2).mono ?_;rintro e w' ⟨rfl,rfl⟩;have hcl:cur.toList.length=cur.size:=Zyf;refine⟨rfl,Zj4 hb2 (setRow_heap _ _ cur _ _ _ hg1) hgb ?_ (by omega) hroom ?_ h3 (fun j b hj=>?_) (hk1'.trans ((Keep.setRow _ _ _).sub (fun k h=>by rw[Zyi]at h;subst h;rw[hins];simp))) (.inl (by rw[hins];simp))⟩
   ·rw[ZxU,hdl]
   ·rw[Zyd,Zat (by rw[hz1,hsl];omega),hcl];exact h2
   ·rw[Zyo,Zao (by rw[hz1,hsl];omega),hz1,Zyj,Nat.mul_one,hsl];rw[Zyl]at hj;split at hj
    ·rename_i hlt;rw[if_pos hlt,Zyu];exact h4 j b hj
    ·rename_i hlt
     have:=(ZxN.1 hj).1
     rw[if_neg hlt,if_pos (by omega)];exact hsg _ b hj
  ·have hof:∀w',(∀A,w'.cell? A=w1.cell? A)→(Builtin.firstCells i.size l.length (.slice (some ⟨g,0,none⟩) l.length (c+1))).run Tryz.prog w'=.ok (l.map fun b=>Value.int .u8 b.toNat).toArray w':=fun w' hw=>by
    rw[hz1];refine run_firstCells_some (P:=Tryz.prog) w' 1 l.length ⟨g,0,none⟩ l.length (c+1) _ (by rw[ZxS];omega) (fun j u hj=>?_);rw[ZxM]at hj;obtain⟨b,hb',rfl⟩:=ZxP.1 hj;rw[Addr.add_lit,hw,Zyj];exact(cell_of_row w1 g j cur _ _ hg1).trans (h4 j b hb')
   have hrun:∀ty,(Builtin.append_ #[76,9] ty #[.slice (some ⟨g,0,none⟩) l.length (c+1),.string s]).run Tryz.prog w1=_:=fun ty=>
    Zeh (P:=Tryz.prog) (w:=w1) (ty:=ty) Tryz.underlying76 Tryz.underlying9 hi hz (some ⟨g,0,none⟩) l.length (c+1) s s.size rfl (l.map fun b=>Value.int .u8 b.toNat) (Lib.strCells s) hof (fun w' _=>hstr w') (by omega) (by omega) (growslice_fits (by omega) (by rw[hz2];omega))
   have hge:=grownCap_ge w1 (l.length+s.size) (c+1) tU8;have hle:=grownCap_le_maxLen w1 (l.length+s.size) (c+1) tU8 (by unfold maxLen;omega);generalize grownCap w1 (l.length+s.size) (c+1) tU8=G at hrun hge hle;have hb2:(w1.drew.alloc (.cells (((l.map fun b=>Value.int .u8 b.toNat)++Lib.strCells s).toArray++Builtin.zeroCells z.cells (G-(l.length+s.size))) tU8)).heap[q.b]?=some (.cells #[ptrB q.b,.slice (some ⟨g,0,none⟩) l.length (c+1)] tBl (0,0)):=by rw[heap_alloc_old w1.drew _ hb1l];exact hb1
   refine(Zjb q.b l.length (c+1) _ _ _ _ s w w1 _ hcc hb1 hrun hb2).mono ?_;rintro e w' ⟨rfl,rfl⟩;refine⟨rfl,Zj4 hb2 (heap_alloc_new w1.drew _) (by show w1.heap.size≠q.b;omega) ?_ (by omega) hge ?_ hle (fun j b hj=>?_) (hk1'.trans ((Zdy w1 _).trans (Keep.Zwb (Ext.al _ _) _))) (.inr hsz)⟩
   ·rw[ZxU,hdl]
   ·rw[Array.size_append,Zyd,ZxU,ZxS,size_zeroCells,hz3,hsl];omega
   ·have hlt:=(ZxN.1 hj).1;rw[ZxU,hdl]at hlt;rw[Array.getElem?_append_left (by rw[Zyd,ZxU,ZxS,hsl];omega),Zyo];rw[Zyl]at hj ⊢;rw[ZxS];split at hj
    ·rename_i h;rw[if_pos h,ZxM,hj];rfl
    ·rename_i h;rw[if_neg h];exact hsg _ b hj
end
section
open Go.RowKit Go.Sort
theorem Zol {w w':World}(h:Below w.heap.size w w'):Ext w w':=⟨h.os,h.tape,h.output,h.size,h.block⟩
def joinB (xs:List ByteArray)(sep:ByteArray):ByteArray:=⟨(Lib.join (xs.map (·.data.toList)) sep.data.toList).toArray⟩
theorem Zut (xs:List ByteArray)(sep:ByteArray)(h1:xs.length≤1000000)(hlen:(Lib.join (xs.map (·.data.toList)) sep.data.toList).length≤140737488355328):Gives Tryz.prog 102 [strsP xs,.str sep] (.str (joinB xs sep)):=by
 refine Zdj ⟨_,_,Tryz.func102,by kernel_rfl,rfl⟩ fun w m vs hg hm hsz hrd=>?_
 obtain⟨v,u,rfl⟩:=arg2 hsz;obtain rfl:=ZdC (hrd 1 u _ rfl rfl);have hv:=hrd 0 v _ rfl rfl;unfold strsP at hv;generalize hX:xs.map PV.str=X at hv;cases hv with
 |lst a cap nn n ys ds l0 l1 l2 l3 l4 l5 l6 l7=>
 cases xs with
 |nil=>
  subst hX;exact(Tryz.strings_Join_none a cap sep w).mono fun e w' ⟨k1,k2⟩=>⟨_,k1,k2▸Ext.ZvU _,.str _⟩
 |cons x0 r=>
  have hl:X.length=(x0::r).length:=by rw[←hX,ZxS]
  obtain⟨b,o,rfl,_⟩:=l5 0 (.str x0) (by rw[←hX];rfl);have hc:∀(j:Nat) x,(x0::r)[j]?=some x→w.cell? ⟨b,o+j,none⟩=some (.string x):=fun j x hj=>by
   have hXj:X[j]?=some (.str x):=by rw[←hX,ZxM,hj];rfl
   obtain⟨b',o',e,hat⟩:=l5 j _ hXj;cases e;obtain⟨q1,q2,_⟩:=l6 j _ hXj;obtain⟨d,hd⟩:∃d,(ds j)[0]?=some d:=⟨(ds j)[0]'(by omega),ZxL _⟩;have hrd':=l7 j _ 0 d _ hXj hd rfl;obtain rfl:=ZdC hrd'
   have:=hm _ _ _ (hat.get 0 _ hd)
   rw[Nat.mul_one,Nat.add_zero]at this;exact this
  have hb0:=hc 0 x0 rfl;rw[hl];exact(Tryz.strings_Join b o cap (x0::r) sep w hc (ZaH hb0) (by omega) (by omega) hlen).mono fun e w' ⟨k1,k2⟩=>⟨_,k1,Zol k2,.str _⟩
end
section
attribute [local simp] AS.exp expG Box.ren AV.map AV.Zu9 Zau noRet Site.Zu6 Box.Zu3 AV.Zu3 AV.Zu4 retB dropL AS.Zvd renL outG outOk Zas inG fnOf lookA Zyc
attribute [local simp] Box.Zu0 Site.Zu1
section
attribute [local simp] retFz frzL AS.frz AV.frz AV.frzL Box.frz AS.tidy AS.ZvF frzsL retOk renB toLoc
inductive Wd where
 |num (n:Int)
 |txt (s:ByteArray)
def Wd.pv:Wd→PV
 |.num n=>.iface 3 (.int .i64 n)
 |.txt s=>.iface 9 (.str s)
def Wd.b:Wd→ByteArray
 |.num n=>itoaB n
 |.txt s=>s
def Wd.ok:Wd→Prop
 |.num n=>-9223372036854775808≤n∧n≤9223372036854775807
 |.txt _=>True
def jnS (ws:List Wd)(k:Nat):AS:=
 ⟨[(3,.vec (.loc 22 0) 1 0 k),(8,.pv (.lst false 1 (ws.map Wd.pv))),(9,.pv (.int .i64 ws.length)),(10,.pv (.int .i64 (k:Int)))],[(.loc 22 0,.arr 9 1 (((ws.take k).map Wd.b).map .str))]⟩
theorem ZdT (ws:List Wd)(hl:ws.length≤1000)(hw:∀x∈ws,x.ok)(hlen:(Lib.join ((ws.map Wd.b).map (·.data.toList)) blank.data.toList).length≤140737488355328):Gives Tryz.prog 52 [.lst false 1 (ws.map Wd.pv)] (.str (joinB (ws.map Wd.b) blank)):=by
 have hjc:=Zut (ws.map Wd.b) blank (by rw[ZxS];omega) hlen;refine cFR [] L52 ?_;intro R hR;simp[-getElem?_pos,L52];refine Zaf (fun m τ=>∃k:Nat,k≤ws.length∧m=ws.length-k∧τ=jnS ws k) ⟨ws.length,jnS ws 0,Sub.trans' (Sub.mk (by simp[jnS,AS.vecT]) (by simp[jnS,AS.vecT])) (vecT 22 9 1 3 rfl (by decide)),0,Zx0 _,rfl,rfl⟩ ?_;rintro J hJ m τ ⟨k,hk,rfl,rfl⟩;by_cases hlt:k<ws.length
 ·obtain⟨x,hx⟩:∃x,ws[k]?=some x:=⟨ws[k],ZxL hlt⟩;have hg:(ws.map Wd.pv)[k]?=some x.pv:=by rw[ZxM,hx];rfl
  have hxo:=hw x (ZxQ hx);have hwk:=wrapK (k:=k) (by omega);have hk1:k+1≤1000000:=by omega
  have hmn:min k ws.length=k:=Nat.min_eq_left (by omega);have hn:=hJ (ws.length-(k+1)) _ ⟨k+1,hlt,rfl,rfl⟩;unfold jnS at hn;rw[Zx6,hx,Zyb,Zyb]at hn;have hmeas:ws.length-(k+1)<ws.length-k:=by omega
  have hll:(((ws.take k).map Wd.b).map PV.str).length=k:=by rw[ZxS,ZxS,ZxT];omega
  unfold jnS;generalize((ws.take k).map Wd.b).map PV.str=T at hn hll ⊢;cases x with
  |num n=>
   simp only[Wd.pv]at hg;simp[-getElem?_pos,-List.getElem?_map,hlt,hg,nblt,nble];refine cG [.int .i64 n] (ZnW n hxo) ?_;simp[-getElem?_pos,nble,hk1,hll,hwk];exact⟨_,_,hmeas,Sub.mk (by simp) (by simp[Wd.b]),hn⟩
  |txt s=>
   simp only[Wd.pv]at hg;simp[-getElem?_pos,-List.getElem?_map,hlt,hg,nblt,nble,hk1,hwk,hll];refine⟨_,_,hmeas,Sub.trans' (Sub.mk ?_ ?_) (mvV 22 3 (T++[.str s]) (s:=.loc 29 0) (e:=9) rfl rfl ?_ rfl),hn⟩
   ·simp[AS.mvV]
   ·simp[AS.mvV,Wd.b]
   ·simp[hll]
 ·have he:k=ws.length:=by omega
  subst he;have htk:ws.take ws.length=ws:=Zye;unfold jnS;rw[htk];have hm:List.take ws.length ((ws.map Wd.b).map PV.str)=(ws.map Wd.b).map PV.str:=ZxW (by simp);simp[-getElem?_pos,-List.map_map];refine .inl (cP [.loc 22 0] [strsP (ws.map Wd.b),.str blank] (by simp) (by simp[-List.map_map,strsP,blank,hm]) hjc ?_);simp[-getElem?_pos];rw[←hR];exact⟨rfl,rfl⟩
def manyS (S:Int→Int→Bool)(ts:List Tt)(n:Int):Nat:=(ts.filter fun t=>decide (t.lot=n)&&S t.item t.day).length
theorem ZlS {S:Int→Int→Bool}{ts:List Tt}{n:Int}{k:Nat}{t:Tt}(h:ts[k]?=some t):manyS S (ts.take (k+1)) n=manyS S (ts.take k) n+(if(decide (t.lot=n)&&S t.item t.day)=true then 1 else 0):=by
 unfold manyS;rw[Zx6,h,Zyw,ZxU];congr 1;simp only[Option.toList,Zyt,List.filter_nil];cases(decide (t.lot=n)&&S t.item t.day)<;>simp
theorem Zhr {S:Int→Int→Bool}{ts:List Tt}{n:Int}:manyS S ts n≤ts.length:=ZyB _ _
def tLot:ByteArray:=⟨#[108,111,116]⟩
def Zkm:ByteArray:=⟨#[116,101,115,116,115]⟩
def Zcg:ByteArray:=⟨#[112,97,115,115,101,100]⟩
def ZbY:ByteArray:=⟨#[114,101,99,97,108,108,101,100]⟩
def joinW (ws:List Wd):ByteArray:=joinB (ws.map Wd.b) blank
def ZcA (ws:List Wd):Prop:=(Lib.join ((ws.map Wd.b).map (·.data.toList)) blank.data.toList).length≤140737488355328
def lw0 (x:Lt)(many:Nat)(v:Int):List Wd:=[.txt tLot,.num x.num,.txt Zkm,.num many,.txt (saidB v)]
def lw1 (x:Lt)(many:Nat)(v:Int):ByteArray:=if x.passed=true then joinW [.txt (joinW (lw0 x many v)),.txt Zcg]else joinW (lw0 x many v)
def Zdu (x:Lt)(many:Nat)(v:Int):ByteArray:=if(x.passed&&!decide (v=1))=true then joinW [.txt (lw1 x many v),.txt ZbY]else lw1 x many v
def ldS (W:Box)(x:Lt)(S:Int→Int→Bool)(ts:List Tt)(k:Nat):AS:=
 ⟨[(0,.ptr (.par 0) 0),(3,.ptr (.loc 3 0) 0),(5,.pv (.int .i64 ((manyS S (ts.take k) x.num:Nat):Int))),(13,.pv (.lst false 4 (ts.map Tt.pv))),(14,.pv (.int .i64 ts.length)),(15,.pv (.int .i64 (k:Int)))],
  [(.loc 3 0,.cells [.pv (.int .i64 x.num),.pv (.int .i64 x.pieces),.pv (.int .i64 x.limit),.pv (.bool x.passed)]),(.par 0,W)]⟩
theorem Zp6 (l:List Ct)(bad:List Int)(ls:PV)(ts:List Tt)(rn:PV)(x:Lt)(hl:l.length≤1000)(hb:bad.length≤1000)(ht:ts.length≤900)(hx:ltOk x)(hfit:spFit l bad ts)
  (j0:ZcA (lw0 x (manyS (stM l bad) ts x.num) (verdL l bad ts x))) (j1:ZcA [.txt (joinW (lw0 x (manyS (stM l bad) ts x.num) (verdL l bad ts x))),.txt Zcg]) (j2:ZcA [.txt (lw1 x (manyS (stM l bad) ts x.num) (verdL l bad ts x)),.txt ZbY]):
  Zai Tryz.prog 49 [.ptr (.par 0) 0,.pv x.pv] [(.par 0,wkX (ctsP l) (bdsP bad) ls (ttsP ts) rn)] (fun r B=>r=.pv (.str (Zdu x (manyS (stM l bad) ts x.num) (verdL l bad ts x)))∧B=[(.par 0,wkX (ctsP l) (bdsP bad) ls (ttsP ts) rn)]):=by
 have hvc:=ZdE l bad ls ts rn x hl hb ht hx.2.2.1 hx.2.2.2 hfit;have hvd:verdM (stM l bad) (gdM l bad x.limit) x.num ts []=verdL l bad ts x:=rfl;rw[hvd]at hvc;have hrc:=Zgi l bad ls ts rn x hl hb ht hx.2.2.1 hx.2.2.2 hfit;rw[Lt.pv]at hvc hrc;refine cBR [.par 0] L49 ?_;intro R hR;simp[-getElem?_pos,L49,wkX,Lt.pv,ttsP];refine Zaf (fun m τ=>∃k:Nat,k≤ts.length∧m=ts.length-k∧τ=ldS (wkX (ctsP l) (bdsP bad) ls (ttsP ts) rn) x (stM l bad) ts k) ⟨ts.length,ldS (wkX (ctsP l) (bdsP bad) ls (ttsP ts) rn) x (stM l bad) ts 0,Sub.mk (by simp[ldS,manyS]) (by simp[ldS,wkX,ttsP]),0,Zx0 _,rfl,rfl⟩ ?_;rintro J hJ m τ ⟨k,hk,rfl,rfl⟩;by_cases hlt:k<ts.length
 ·obtain⟨t,hxt⟩:∃t,ts[k]?=some t:=⟨ts[k],ZxL hlt⟩;have hg:(ts.map Tt.pv)[k]?=some t.pv:=by rw[ZxM,hxt];rfl
  simp only[Tt.pv]at hg;have hw:=wrapK (k:=k) (by omega);have hm1:=Zhr (S:=stM l bad) (ts:=ts.take k) (n:=x.num);rw[ZxT]at hm1;have hw2:=wrapK (k:=manyS (stM l bad) (ts.take k) x.num) (by omega);have hmeas:ts.length-(k+1)<ts.length-k:=by omega
  have hn:=hJ (ts.length-(k+1)) _ ⟨k+1,hlt,rfl,rfl⟩;unfold ldS at hn;rw[ZlS hxt]at hn;have hsc:=ZdG l bad ls (ttsP ts) rn hl hb x.num t.item t.day t.rd;have e1:decide (((Zam l bad).Zvq t.item t.day).2=0)=stM l bad t.item t.day:=rfl;rw[e1]at hsc;clear e1;by_cases htl:t.lot=x.num
  ·rw[decide_eq_true htl,Bool.true_and]at hn;simp[-getElem?_pos,-List.getElem?_map,ldS,wkX,ttsP,hlt,hg,nblt,nble,setAt,htl];refine cM [.ptr (.par 0) 0,.pv (.agg [.int .i64 x.num,.int .i64 t.item,.int .i64 t.day,.int .i64 t.rd])] [(.par 0,wkX (ctsP l) (bdsP bad) ls (ttsP ts) rn)] 27 [.par 0] (by simp[wkX,bdsP,ttsP]) hsc (by simp[wkX]) ?_;cases hsv:stM l bad t.item t.day with
   |true=>
    rw[hsv,if_pos rfl]at hn;simp[-getElem?_pos,wkX,hw,hw2];exact⟨_,_,hmeas,Sub.mk (by simp) (by simp[wkX,ttsP,bdsP]),hn⟩
   |false=>
    rw[hsv,if_neg (by simp)]at hn;simp[-getElem?_pos,wkX,hw];exact⟨_,_,hmeas,Sub.mk (by simp) (by simp[wkX,ttsP,bdsP]),hn⟩
  ·rw[decide_eq_false htl,Bool.false_and,if_neg (by simp)]at hn;simp[-getElem?_pos,-List.getElem?_map,ldS,wkX,ttsP,hlt,hg,nblt,nble,setAt,htl,hw];exact⟨_,_,hmeas,Sub.mk (by simp) (by simp[wkX,ttsP,bdsP]),hn⟩
 have he:k=ts.length:=by omega
 subst he;unfold ldS;rw[Zye];have hml:=Zhr (S:=stM l bad) (ts:=ts) (n:=x.num);generalize manyS (stM l bad) ts x.num=many at hml j0 j1 j2 hR ⊢;generalize verdL l bad ts x=v at hvc hrc j0 j1 j2 hR;simp[-getElem?_pos,wkX];refine ZbP (fun τ=>τ=⟨[(0,.ptr (.par 0) 0),(3,.ptr (.loc 3 0) 0),(32,.pv (.iface 9 (.str tLot))),(35,.pv (.iface 3 (.int .i64 x.num))),(36,.pv (.iface 9 (.str Zkm))),(38,.pv (.iface 3 (.int .i64 many))),(43,.pv (.iface 9 (.str (saidB v))))],[(.loc 3 0,.cells [.pv (.int .i64 x.num),.pv (.int .i64 x.pieces),.pv (.int .i64 x.limit),.pv (.bool x.passed)]),(.par 0,wkX (ctsP l) (bdsP bad) ls (ttsP ts) rn)]⟩) ?_ ?_
 ·simp[-getElem?_pos,Zak,Zaq]
  repeat' apply And.intro
  all_goals
   refine cM [.ptr (.par 0) 0,.pv (.agg [.int .i64 x.num,.int .i64 x.pieces,.int .i64 x.limit,.bool x.passed])] [(.par 0,wkX (ctsP l) (bdsP bad) ls (ttsP ts) rn)] 41 [.par 0] (by simp[wkX,bdsP,ttsP]) hvc (by simp[wkX]) ?_;simp[-getElem?_pos,wkX,Zak,Zaq]
   repeat' apply And.intro
   all_goals
    first
     |refine .inl (cQ [] [.int .u8 v] (Zry v) ?_)
     |refine cQ [] [.int .u8 v] (Zry v) ?_
    simp[-getElem?_pos,Zak,Zaq]
    repeat' apply And.intro
    all_goals exact Sub.mk (by simp[tLot,Zkm]) (by simp[wkX,bdsP,ttsP])
 ·rintro τ rfl;simp[-getElem?_pos,Zak,Zaq,wkX];have w0:=ZdT (lw0 x many v) (show(5:Nat)≤1000 by decide) (fun y hy=>by
   simp[lw0]at hy;rcases hy with rfl|rfl|rfl|rfl|rfl
   ·trivial
   ·have h1:=hx.1;have h2:=hx.2.1;exact⟨by omega,by omega⟩
   ·trivial
   ·exact⟨by omega,by omega⟩
   ·trivial) j0
  refine .inl (cP [.loc 44 0] [.lst false 1 ((lw0 x many v).map Wd.pv)] (by simp) (by simp[lw0,Wd.pv]) w0 ?_);have e0:joinB ((lw0 x many v).map Wd.b) blank=joinW (lw0 x many v):=rfl;rw[e0];unfold Zdu lw1 at hR;unfold lw1 at j2;cases hp:x.passed with
  |false=>
   rw[hp]at hR hrc;rw[Bool.false_and]at hR hrc;rw[if_neg (by simp),if_neg (by simp)]at hR;generalize joinW (lw0 x many v)=s0 at hR;simp[-getElem?_pos];refine cM [.ptr (.par 0) 0,.pv (.agg [.int .i64 x.num,.int .i64 x.pieces,.int .i64 x.limit,.bool false])] [(.par 0,wkX (ctsP l) (bdsP bad) ls (ttsP ts) rn)] 55 [.par 0] (by simp[wkX,bdsP,ttsP]) hrc (by simp[wkX]) ?_;simp[-getElem?_pos,wkX];rw[←hR];exact⟨rfl,by simp[wkX,bdsP,ttsP]⟩
  |true=>
   rw[hp]at hR hrc j2;rw[Bool.true_and]at hR hrc;rw[if_pos rfl]at hR j2;generalize joinW (lw0 x many v)=s0 at hR j1 j2;have w1:=ZdT [.txt s0,.txt Zcg] (show(2:Nat)≤1000 by decide) (fun y hy=>by
    simp at hy;rcases hy with rfl|rfl<;>trivial) j1
   simp[-getElem?_pos];refine .inl (cP [.loc 51 0] [.lst false 1 ([Wd.txt s0,.txt Zcg].map Wd.pv)] (by simp) (by simp[Wd.pv,Zcg]) w1 ?_);have e1:joinB ([Wd.txt s0,.txt Zcg].map Wd.b) blank=joinW [.txt s0,.txt Zcg]:=rfl;rw[e1];generalize joinW [.txt s0,.txt Zcg]=s1 at hR j2;have w2:=ZdT [.txt s1,.txt ZbY] (show(2:Nat)≤1000 by decide) (fun y hy=>by
    simp at hy;rcases hy with rfl|rfl<;>trivial) j2
   simp[-getElem?_pos];refine cM [.ptr (.par 0) 0,.pv (.agg [.int .i64 x.num,.int .i64 x.pieces,.int .i64 x.limit,.bool true])] [(.par 0,wkX (ctsP l) (bdsP bad) ls (ttsP ts) rn)] 55 [.par 0] (by simp[wkX,bdsP,ttsP]) hrc (by simp[wkX]) ?_;by_cases hv1:v=1
   ·rw[if_neg (by simp[hv1])]at hR;simp[-getElem?_pos,wkX,hv1];rw[←hR];exact⟨rfl,by simp[wkX,bdsP,ttsP]⟩
   ·rw[if_pos (by simp[hv1])]at hR;simp[-getElem?_pos,wkX,hv1];refine .inl (cP [.loc 59 0] [.lst false 1 ([Wd.txt s1,.txt ZbY].map Wd.pv)] (by simp) (by simp[Wd.pv,ZbY]) w2 ?_);simp[-getElem?_pos];rw[←hR];exact⟨rfl,by simp[wkX,bdsP,ttsP]⟩
end
end
section
open Go.RowKit Go.Shelf
abbrev bldX (l:List UInt8):Box:=.ext (bldE tBl tU8 l)
theorem ws_c (l:List UInt8)(s:ByteArray)(hs:0<s.size)(hl:l.length+s.size≤1000000):
  Zai Tryz.prog 48 [.ptr (.par 0) 0,.pv (.str s)] [(.par 0,bldX l)] (fun r B=>r=.pv (.tup [.int .i64 s.size,.nilif])∧B=[(.par 0,bldX (l++s.data.toList))]):=by
 refine⟨⟨_,_,Tryz.func48,by kernel_rfl,rfl⟩,fun w m ρ vs hB hmw hsz hrd=>?_⟩;obtain⟨v0,v1,rfl⟩:=arg2 (by simpa using hsz);have h0:=hrd 0 v0 _ rfl rfl;have h1:=(hrd 1 v1 _ rfl rfl).Zu5;have hv0:v0=ptrB (ρ (.par 0)).b:=by cases h0;rfl
 have hv1:v1=.string s:=by cases h1;rfl
 subst hv0 hv1;obtain⟨hr,hbx⟩:=hB.bx (.par 0) _ rfl;have hlent:lentB ρ w [(.par 0,bldX l)]=(ρ (.par 0)).b::Zba (ρ (.par 0)) w:=by simp[lentB,hr,ins,bldE]
 have look:∀s' bx,List.lookup s' [((.par 0:Site),bldX (l++s.data.toList))]=some bx→s'=.par 0∧bx=bldX (l++s.data.toList):=fun s' bx h=>by
  by_cases e:s'=.par 0
  ·subst e;rw[Zag]at h;cases h;exact⟨rfl,rfl⟩
  ·rw[Zad e]at h;cases h
 have hfree:=hB.free (by simp);rw[hlent]at hfree;refine(Zpc (m:=m) s hs hl hbx).mono ?_;rintro e w' ⟨rfl,k1,k2,k3⟩;have hmw':Le m w'.mem:=fun a o v hv=>by
  have hw:=hmw.1 a o v hv;exact(World.cell?_of_block (a:=⟨a,o,none⟩) (k2.block a (ZaH hw) (fun h=>by rw[hfree a h o]at hv;cases hv))).trans hw
 have hblk:∀k,blk ρ w' (.par 0) (bldX (l++s.data.toList)) k→k∈(ρ (.par 0)).b::Zba (ρ (.par 0)) w∨w.heap.size≤k:=fun k h=>by
  rcases h with⟨_,rfl⟩|h
  ·exact .inl (List.mem_cons_self ..)
  ·rcases k3 k h with h|h
   ·exact .inl (List.mem_cons_of_mem _ h)
   ·exact .inr h
 refine⟨_,.pv (.tup [.int .i64 s.size,.nilif]),[(.par 0,bldX (l++s.data.toList))],ρ,m,rfl,⟨rfl,rfl⟩,⟨fun s' bx h=>?_,fun s' s'' bx bx' i h h' _ _=>?_,fun s' bx i h hb o=>?_⟩,Le.refl m,hmw',fun _=>rfl,fun s' bx i h hb=>?_,fun _ _ _ h=>.inl h,?_,?_⟩
 ·obtain⟨rfl,rfl⟩:=look s' bx h;exact⟨hr,k1⟩
 ·rw[(look s' bx h).1,(look s'' bx' h').1]
 ·obtain⟨rfl,rfl⟩:=look s' bx h;rcases hblk i hb with h|h
  ·exact hfree i h o
  ·cases hv:m i o with
   |none=>rfl
   |some v=>have:=ZaH (hmw.1 _ _ _ hv);omega
 ·obtain⟨rfl,rfl⟩:=look s' bx h;rw[hlent];exact(hblk i hb).symm
 ·refine .pv _ _ (.tup _ _ rfl (fun j d c h h'=>?_))
  match j,h,h' with
  |0,h,h'=>cases h;cases h';exact .int _ _
  |1,h,h'=>cases h;cases h';exact .nilif
 ·rw[hlent];exact k2
set_option maxRecDepth 100000 in
theorem Zpf (b g c:Nat)(p:Value)(cur:Array Value)(l:List UInt8)(w:World)(hbk:w.heap[b]?=some (.cells #[p,.slice (some ⟨g,0,none⟩) l.length (c+1)] 130 (0,0)))(h0:l≠[])
  (hg:w.heap[g]?=some (.cells cur 5 (0,0))) (hnc:l.length≤cur.size) (hcm:l.length≤maxLen) (hel:∀(i:Nat) (b:UInt8),l[i]?=some b→cur[i]?=some (.int .u8 b.toNat)):
  Calls Tryz.prog 54 #[.pointer (some ⟨b,0,none⟩)] w fun e w'=>e=.returned (.string ⟨l.toArray⟩)∧w'=w.drew.freeze ⟨g,0,none⟩ l.length:=by
 have c1:w.drew.cell? ⟨b,1,none⟩=some (.slice (some ⟨g,0,none⟩) l.length (c+1)):=by
  have:w.drew.heap[b]?=some (.cells #[p,.slice (some ⟨g,0,none⟩) l.length (c+1)] 130 (0,0)):=hbk
  rw[Lib.cell_of_heap this];rfl
 have hSD:∀ts ty,(Builtin.unsafeSliceData_ ts ty #[.slice (some ⟨g,0,none⟩) l.length (c+1)]).run Tryz.prog w.drew=.ok (.pointer (some ⟨g,0,none⟩)) w.drew:=fun ts ty=>
  Lib.run_unsafeSliceData_row _ _ _ _ _ _ (by omega)
 have hUS:∀ty,(Builtin.unsafeString_ #[189,3] ty #[.pointer (some ⟨g,0,none⟩),.int .i64 l.length]).run Tryz.prog w.drew=.ok (.string ⟨l.toArray⟩) (w.drew.freeze ⟨g,0,none⟩ l.length):=fun ty=>by
  refine Lib.run_unsafeString_row w.drew 189 3 ty 5 Tryz.underlying189 (by kernel_rfl) g cur.size (by have hg':w.drew.heap[g]?=some (.cells cur 5 (0,0)):=hg;simp[World.shape?,hg']) l h0 hnc (by unfold maxLen at hcm;omega) ?_;intro j x hx;rw[Addr.add_lit,Zyj];exact(cell_of_row w.drew g j cur _ _ hg).trans (hel j x hx)
 have mixed:=mixed;go_enter Tryz.func54,Tryz.ntmps54;go_wp2;go_region_o
 all_goals (go_wp2;go_ret;exact⟨rfl,rfl⟩)
theorem str_c (l:List UInt8)(h0:l≠[]):
  Zai Tryz.prog 54 [.ptr (.par 0) 0] [(.par 0,bldX l)] (fun r B=>r=.pv (.str ⟨l.toArray⟩)∧B=[]):=by
 refine⟨⟨_,_,Tryz.func54,by kernel_rfl,rfl⟩,fun w m ρ vs hB hmw hsz hrd=>?_⟩;obtain⟨v0,rfl⟩:=arg1 (by simpa using hsz);have h0':=hrd 0 v0 _ rfl rfl;have hv0:v0=.pointer (some ⟨(ρ (.par 0)).b,0,none⟩):=by cases h0';rfl
 subst hv0;obtain⟨hr,hbx⟩:=hB.bx (.par 0) _ rfl;have hlent:lentB ρ w [(.par 0,bldX l)]=(ρ (.par 0)).b::Zba (ρ (.par 0)) w:=by simp[lentB,hr,ins,bldE]
 have hfree:=hB.free (by simp);rw[hlent]at hfree;obtain⟨p,v,hb,_,⟨_,h⟩|⟨g,c,cur,rfl,hgb,hg,h1,h2,h3,h4⟩⟩:=hbx
 ·exact absurd h h0
 have hins:Zba (ρ (.par 0)) w=[g]:=Zc3 hb;rw[hins]at hlent hfree;refine(Zpf (ρ (.par 0)).b g c p cur l w hb h0 hg (by omega) (by omega) h4).mono ?_;rintro e w' ⟨rfl,rfl⟩;have hk:Keep [g] w (w.drew.freeze ⟨g,0,none⟩ l.length):=by
  unfold World.freeze;split
  ·exact Zdy w _
  ·exact⟨rfl,rfl,rfl,by rw[Array.size_modify];exact ZxR _,fun k hk hn=>by
    have hne:g≠k:=fun e=>hn (by simp[e])
    simp only[Array.getElem?_modify];rw[if_neg hne];rfl⟩
 refine⟨_,.pv (.str ⟨l.toArray⟩),[],ρ,m,rfl,⟨rfl,rfl⟩,Bxs.nil _ _ _,Le.refl m,fun a o v hv=>?_,fun _=>rfl,fun s' bx i h hb=>by simp[List.lookup]at h,fun _ _ _ h=>.inl h,.pv _ _ (.str _),?_⟩
 ·have hw:=hmw.1 a o v hv;exact(World.cell?_of_block (a:=⟨a,o,none⟩) (hk.block a (ZaH hw) (fun h=>by rw[hfree a (List.mem_cons_of_mem _ h) o]at hv;cases hv))).trans hw
 ·rw[hlent];exact hk.sub (fun k h=>List.mem_cons_of_mem _ h)
end
section
def ZmA:ByteArray:=⟨#[99,101,114,116,115]⟩
def tHeld:ByteArray:=⟨#[104,101,108,100]⟩
def tBad:ByteArray:=⟨#[98,97,100]⟩
def tEnd:ByteArray:=⟨#[101,110,100]⟩
def lineB (w:Wk)(x:Lt):ByteArray:=Zdu x (manyS (stM w.certs w.bad) w.tests x.num) (verdL w.certs w.bad w.tests x)
def repT (w:Wk)(k:Nat):List UInt8:=(w.lots.take k).flatMap fun x=>(lineB w x).data.toList++[10]
def heldN (w:Wk):Nat:=((Zam w.certs w.bad).Zwl []).1.length
def endN (F:Nat)(w:Wk):Int:=match(ZaJ w.runs).ZvS F with
 |.tup [_,.int _ y,_]=>y
 |_=>0
def ctW (w:Wk):List Wd:=[.txt ZmA,.num w.certs.length,.txt tHeld,.num (heldN w),.txt tBad,.num w.bad.length]
def repL (F:Nat)(w:Wk):List UInt8:=repT w w.lots.length++((joinW (ctW w)).data.toList++[10])++((joinW [.txt tEnd,.num (endN F w)]).data.toList++[10])
def rptE (F:Nat)(L:List ByteArray):PV:=if Za3 L=0 then .tup [.str ⟨(repL F (foldD (doB F) wk0 L).1).toArray⟩,.int .i64 0]else .tup [.str ⟨#[]⟩,.int .i64 3]
theorem Zh9 {w:Wk}{k:Nat}{x:Lt}(h:w.lots[k]?=some x):repT w (k+1)=repT w k++((lineB w x).data.toList++[10]):=by
 unfold repT;rw[Zx6,h,List.flatMap_append];simp
theorem ZfL (x:Wd)(r:List Wd):(Lib.join (((x::r).map Wd.b).map (·.data.toList)) blank.data.toList).length=r.length+(x.b.size+(r.map fun y=>y.b.size).sum):=by
 rw[ZxZ,ZxZ,Lib.join_length]
 have:∀l:List Wd,Lib.lens ((l.map Wd.b).map (·.data.toList))=(l.map fun y=>y.b.size).sum:=fun l=>by
  unfold Lib.lens;rw[List.map_map,List.map_map];rfl
 have h2:=this (x::r);rw[ZxZ,ZxZ]at h2;rw[h2,ZxS,ZxS];simp[blank]
theorem Zcz (x:Wd)(r:List Wd):(joinW (x::r)).size=r.length+(x.b.size+(r.map fun y=>y.b.size).sum):=by
 rw[←ZfL];rfl
theorem ZbU (n:Int)(h0:-9223372036854775808≤n)(h1:n≤9223372036854775807):(itoaB n).size≤21:=Lib.itoa_length_le n h0 h1
theorem ZlJ (v:Int):(saidB v).size≤8:=by
 unfold saidB;split
 ·exact ZxR 8
 ·split
  ·exact ZxR 8
  ·exact ZxK rfl
theorem Zp2 (x:Lt)(hx:ltOk x)(many:Nat)(hm:many≤1000)(v:Int):(joinW (lw0 x many v)).size≤62:=by
 unfold lw0;rw[Zcz];have h1:=ZbU x.num (by have:=hx.1;omega) (by have:=hx.2.1;omega);have h2:=ZbU many (by omega) (by omega);have h3:=ZlJ v;have e1:tLot.size=3:=rfl;have e2:Zkm.size=5:=rfl;simp[Wd.b];omega
theorem Ziq (x:Lt)(hx:ltOk x)(many:Nat)(hm:many≤1000)(v:Int):
  ZcA (lw0 x many v)∧ZcA [.txt (joinW (lw0 x many v)),.txt Zcg]∧ZcA [.txt (lw1 x many v),.txt ZbY]∧(Zdu x many v).size≤100:=by
 have h0:=Zp2 x hx many hm v;have e1:Zcg.size=6:=rfl;have e2:ZbY.size=8:=rfl;have h1:(lw1 x many v).size≤70:=by
  unfold lw1;split
  ·rw[Zcz];simp[Wd.b];omega
  ·omega
 refine⟨?_,?_,?_,?_⟩
 ·have:(Lib.join (((lw0 x many v).map Wd.b).map (·.data.toList)) blank.data.toList).length=(joinW (lw0 x many v)).size:=rfl
  unfold ZcA;omega
 ·unfold ZcA;rw[ZfL];simp[Wd.b];omega
 ·unfold ZcA;rw[ZfL];simp[Wd.b];omega
 ·unfold Zdu;split
  ·rw[Zcz];simp[Wd.b];omega
  ·omega
theorem Zgx (S:Int→Int→Bool)(ts:List Tt)(n:Int)(h:ts.length≤900):manyS S ts n≤1000:=by
 have:=Zhr (S:=S) (ts:=ts) (n:=n)
 omega
theorem Zhb {w:Wk}(hok:WkOk w):∀k,(repT w k).length≤k*101
 |0=>ZxR 0
 |k+1=>by
  have ih:=Zhb hok k;cases h:w.lots[k]? with
  |none=>unfold repT at ih ⊢;rw[Zx6,h];simp at ih ⊢;omega
  |some x=>
   rw[Zh9 h,ZxU,ZxU];have h2:=(Ziq x (hok.lt x (ZxQ h)) _ (Zgx (stM w.certs w.bad) w.tests x.num hok.t) (verdL w.certs w.bad w.tests x)).2.2.2
   have:(lineB w x).data.toList.length=(lineB w x).size:=rfl
   have e:(lineB w x).size≤100:=h2;simp only[Zyg,List.length_nil];omega
theorem ZqD (w:Wk)(h1:w.certs.length≤1000)(h2:w.bad.length≤1000)(h3:heldN w≤1000000):ZcA (ctW w)∧(joinW (ctW w)).size≤90:=by
 have a1:=ZbU w.certs.length (by omega) (by omega);have a2:=ZbU w.bad.length (by omega) (by omega);have a3:=ZbU (heldN w) (by omega) (by omega);have e1:ZmA.size=5:=rfl;have e2:tHeld.size=4:=rfl;have e3:tBad.size=3:=rfl;have h:(joinW (ctW w)).size≤90:=by
  unfold ctW;rw[Zcz];simp[Wd.b];omega
 refine⟨?_,h⟩
 have:(Lib.join (((ctW w).map Wd.b).map (·.data.toList)) blank.data.toList).length=(joinW (ctW w)).size:=rfl
 unfold ZcA;omega
theorem Zqw (n:Int)(h0:-9223372036854775808≤n)(h1:n≤9223372036854775807):ZcA [.txt tEnd,.num n]∧(joinW [.txt tEnd,.num n]).size≤30:=by
 have a1:=ZbU n h0 h1;have e1:tEnd.size=3:=rfl;have h:(joinW [.txt tEnd,.num n]).size≤30:=by
  rw[Zcz];simp[Wd.b];omega
 refine⟨?_,h⟩
 have:(Lib.join (([Wd.txt tEnd,.num n].map Wd.b).map (·.data.toList)) blank.data.toList).length=(joinW [.txt tEnd,.num n]).size:=rfl
 unfold ZcA;omega
end
section
attribute [local simp] AS.exp expG Box.ren AV.map AV.Zu9 Zau noRet Site.Zu6 Box.Zu3 AV.Zu3 AV.Zu4 retB dropL AS.Zvd renL outG outOk Zas inG fnOf lookA Zyc
attribute [local simp] Box.Zu0 Site.Zu1
section
attribute [local simp] retFz frzL AS.frz AV.frz AV.frzL Box.frz AS.tidy AS.ZvF frzsL retOk renB toLoc
theorem ZsD (x:ByteArray):(x++(⟨#[10]⟩:ByteArray)).data.toList=x.data.toList++[10]:=by
 rw[ByteArray.data_append,Array.toList_append]
theorem put_c (l:List UInt8)(x:ByteArray)(hl:l.length+(x.size+1)≤1000000):
  Zai Tryz.prog 47 [.pv (.str x),.ptr (.par 0) 0] [(.par 0,bldX l)] (fun r B=>r=.pv (.tup [])∧B=[(.par 0,bldX (l++(x.data.toList++[10])))]):=by
 have hsz:(x++(⟨#[10]⟩:ByteArray)).size=x.size+1:=by rw[ByteArray.size_append];rfl
 have hw:=ws_c l (x++⟨#[10]⟩) (by omega) (by omega);rw[ZsD]at hw;refine cB [.par 0] L47 ?_;have hble:(x.size+ByteArray.size ⟨#[10]⟩).ble 9223372036854775807=true:=by
  rw[Nat.ble_eq]
  have:ByteArray.size ⟨#[10]⟩=1:=rfl
  omega
 simp[-getElem?_pos,L47,hble];generalize x++(⟨#[10]⟩:ByteArray)=y at hw ⊢;refine cM [.ptr (.par 0) 0,.pv (.str y)] [(.par 0,bldX l)] 5 [.par 0] (by simp) hw (by simp) ?_;simp[-getElem?_pos]
theorem Ztp {F:Nat}(w:Wk):0≤endN F w∧endN F w≤40:=by
 unfold endN Qn.Qu.ZvS;by_cases hc:(ZaJ w.runs).check≠0
 ·rw[if_pos hc];exact⟨Int.le_refl 0,show(0:Int)≤40 by decide⟩
 ·rw[if_neg hc];cases hl:(ZaJ w.runs).ZwE F with
  |none=>exact⟨Int.le_refl 0,show(0:Int)≤40 by decide⟩
  |some p=>
   have:=(Qn.layM_PW (Qn.Qu.Zxa (Decidable.not_not.1 hc)) _ _ _ Qn.PW.nil (Qn.units_lt (q:=ZaJ w.runs)) p hl).l
   exact⟨by simp,by simp;omega⟩
theorem Zlb (w:Wk):heldN w≤1000000:=by
 have h:=Zqk (b:=Zam w.certs w.bad) (bad:=[]);unfold heldN Bk.Zwl;split
 ·split
  ·exact Zx5 h (by decide)
  ·exact Zx0 _
 ·exact Zx0 _
def rpS (w:Wk)(k:Nat):AS:=
 ⟨[(5,.ptr (.loc 23 0) 0),(7,.ptr (.loc 7 0) 0),(8,.fn 47 [] [.ptr (.loc 7 0) 0]),(31,.pv (lotsP w.lots)),(32,.pv (.int .i64 w.lots.length)),(33,.pv (.int .i64 (k:Int)))],
  [(.loc 23 0,w.box),(.loc 7 0,bldX (repT w k))]⟩
theorem Zrs {F:Nat}(hF:407<F)(L:List ByteArray)(hl:L.length≤1000000):Gives Tryz.prog 24 [strsP L] (rptE F L):=by
 have hch:=ZdB L hl;refine cSR L24 ?_;intro R hR;unfold rptE at hR;by_cases hc:Za3 L=0
 ·obtain⟨hl5,hs2⟩:=Zd9 hc;rw[hc]at hch;have hpc:=ZkI (Zd6 hF) wk0_I L (by omega) hs2;have hok:=Zke _ _ (by omega) (ZcD (Zd6 hF) (l:=L) (by omega) wk0_I hs2);rw[if_pos hc]at hR;generalize foldD (doB F) wk0 L=q at hpc hok hR;obtain⟨w,es⟩:=q;dsimp only at hpc hok hR;have hlo:=hok.l;simp[-getElem?_pos,L24];refine cG [strsP L] hch ?_;simp[-getElem?_pos];refine .inl (Za9 [] (fs:=[]) (xs:=[strsP L]) (cs:=[]) (d:=23) rfl rfl hpc ?_);rintro r B ⟨rfl,rfl⟩;refine⟨by simp[Wk.box,wkX],?_⟩;simp[-getElem?_pos,Wk.box,wkX,lotsP];refine Zaf (fun m τ=>∃k:Nat,k≤w.lots.length∧m=w.lots.length-k∧τ=rpS w k) ⟨w.lots.length,rpS w 0,Sub.mk (by simp[rpS,lotsP]) (by simp[rpS,Wk.box,wkX,lotsP];simp[repT]),0,Zx0 _,rfl,rfl⟩ ?_;rintro J hJ m τ ⟨k,hk,rfl,rfl⟩;by_cases hlt:k<w.lots.length
  ·obtain⟨x,hx⟩:∃x,w.lots[k]?=some x:=⟨w.lots[k],ZxL hlt⟩;have hg:(w.lots.map Lt.pv)[k]?=some x.pv:=by rw[ZxM,hx];rfl
   have hxo:=hok.lt x (ZxQ hx);obtain⟨j0,j1,j2,hsz⟩:=Ziq x hxo _ (Zgx (stM w.certs w.bad) w.tests x.num hok.t) (verdL w.certs w.bad w.tests x);have hrc:=Zp6 w.certs w.bad (lotsP w.lots) w.tests (runsP w.runs) x hok.c hok.b hok.t hxo hok.fit j0 j1 j2;have hrl:=Zhb hok k;have hpt:=put_c (repT w k) (lineB w x) (by unfold lineB;omega);rw[←Zh9 hx]at hpt;unfold lineB at hpt;simp only[Lt.pv]at hg;rw[Lt.pv]at hrc;have hw:=wrapK (k:=k) (by omega);have hn:=hJ (w.lots.length-(k+1)) _ ⟨k+1,hlt,rfl,rfl⟩;have hmeas:w.lots.length-(k+1)<w.lots.length-k:=by omega
   generalize Zdu x (manyS (stM w.certs w.bad) w.tests x.num) (verdL w.certs w.bad w.tests x)=s at hrc hpt;simp[-getElem?_pos,-List.getElem?_map,rpS,Wk.box,wkX,lotsP,hlt,hg,nblt,nble,setAt];refine cM [.ptr (.par 0) 0,.pv (.agg [.int .i64 x.num,.int .i64 x.pieces,.int .i64 x.limit,.bool x.passed])] [(.par 0,wkX (ctsP w.certs) (bdsP w.bad) (lotsP w.lots) (ttsP w.tests) (runsP w.runs))] 40 [.loc 23 0] (by simp[wkX,lotsP]) hrc (by simp[wkX]) ?_;simp[-getElem?_pos,wkX];refine cM [.pv (.str s),.ptr (.par 0) 0] [(.par 0,bldX (repT w k))] 41 [.loc 7 0] (by simp) hpt (by simp) ?_;simp[-getElem?_pos,nble,hw];exact⟨_,_,hmeas,Sub.mk (by simp[rpS,lotsP]) (by simp[rpS,Wk.box,wkX,lotsP]),hn⟩
  ·have he:k=w.lots.length:=by omega
   subst he;have hrl:=Zhb hok w.lots.length;have hri:=Zha w.certs w.bad (lotsP w.lots) (ttsP w.tests) (runsP w.runs) hok.c hok.b;have hhe:Zai Tryz.prog 50 ([(Zam w.certs w.bad).pv,.emp (some true)].map .pv) [] (fun r B=>r=.pv (lstE ((Zam w.certs w.bad).Zwl []))∧B=[]):=by
    refine Zai.Zwz (xs:=[(Zam w.certs w.bad).pv,.emp (some true)]) (ys:=[(Zam w.certs w.bad).pv,.lst false 1 ([].map intP)]) (ZuY (Zam w.certs w.bad) (show Za0.length≤1000 by decide) (Zx5 (ZyB _ _) hok.c) [] (Zx0 _)) rfl ?_;intro j x y m v h1 h2 hr
    match j with
    |0=>simp at h1 h2;subst h1 h2;exact hr
    |1=>simp at h1 h2;subst h1 h2;exact Zbm hr
    |j+2=>simp at h1
   have hjc:=ZqD w hok.c hok.b (Zlb w);have hct:=ZdT (ctW w) (show(6:Nat)≤1000 by decide) (fun y hy=>by
    have h1:=hok.c;have h2:=hok.b;have h3:=Zlb w;simp[ctW]at hy;rcases hy with rfl|rfl|rfl|rfl|rfl|rfl
    ·trivial
    ·exact⟨by omega,by omega⟩
    ·trivial
    ·exact⟨by omega,by omega⟩
    ·trivial
    ·exact⟨by omega,by omega⟩) hjc.1
   have ebd:=Ztp (F:=F) w;have hje:=Zqw (endN F w) (by omega) (by omega);have hed:=ZdT [.txt tEnd,.num (endN F w)] (show(2:Nat)≤1000 by decide) (fun y hy=>by
    simp at hy;rcases hy with rfl|rfl
    ·trivial
    ·exact⟨by omega,by omega⟩) hje.1
   have eC:joinB ((ctW w).map Wd.b) blank=joinW (ctW w):=rfl;have eE:joinB ([Wd.txt tEnd,.num (endN F w)].map Wd.b) blank=joinW [.txt tEnd,.num (endN F w)]:=rfl;rw[eC]at hct;rw[eE]at hed;have p1:=put_c (repT w w.lots.length) (joinW (ctW w)) (by omega);have p2:=put_c (repT w w.lots.length++((joinW (ctW w)).data.toList++[10])) (joinW [.txt tEnd,.num (endN F w)]) (by
    have:(joinW (ctW w)).data.toList.length=(joinW (ctW w)).size:=rfl
    simp only[ZxU,Zyg,List.length_nil];omega)
   have hst:=str_c (repL F w) (by unfold repL;simp);have hqc:=Zng (w.runs.map Qn.Rq.pv) (ctsP w.certs) (bdsP w.bad) (lotsP w.lots) (ttsP w.tests);have hec:=Qn.earliest_c hF (ZaJ w.runs) (show(2:Nat)≤1000000 by decide) (show w.runs.length≤1000000 by have:=hok.r;omega) (fun l hl=>by
    simp[ZaJ]at hl;rcases hl with rfl|rfl<;>decide)
   obtain⟨ex,ee,hee⟩:∃x e,(ZaJ w.runs).ZvS F=.tup [x,.int .i64 (endN F w),.int .i64 e]:=by
    obtain⟨x,y,h⟩:=Zoq F (ZaJ w.runs);exact⟨x,_,by rw[h];unfold endN;rw[h]⟩
   rw[hee]at hec;clear hee hrl hjc hje eC eE;unfold repL at hst hR;generalize hCW:joinW (ctW w)=cw at *;generalize hEW:joinW [.txt tEnd,.num (endN F w)]=ew at *;generalize hRT:repT w w.lots.length=rt at *;simp[-getElem?_pos,rpS,Wk.box,wkX,hRT];refine cM [.ptr (.par 0) 0] [(.par 0,wkX (ctsP w.certs) (bdsP w.bad) (lotsP w.lots) (ttsP w.tests) (runsP w.runs))] 45 [.loc 23 0] (by simp[wkX,bdsP]) hri (by simp[wkX]) ?_;simp[-getElem?_pos,wkX];refine .inl (cQ [] [(Zam w.certs w.bad).pv,.emp (some true)] hhe ?_);simp[-getElem?_pos,lstE,ctsP];refine .inl (cP [.loc 70 0] [.lst false 1 ((ctW w).map Wd.pv)] (by simp) (by simp[ctW,Wd.pv,ZmA,tHeld,tBad,heldN]) hct ?_);simp[-getElem?_pos];refine cM [.pv (.str cw),.ptr (.par 0) 0] [(.par 0,bldX rt)] 72 [.loc 7 0] (by simp) p1 (by simp) ?_;simp[-getElem?_pos];refine cM [.ptr (.par 0) 0] [(.par 0,wkX (ctsP w.certs) (bdsP w.bad) (lotsP w.lots) (ttsP w.tests) (.lst false 3 (w.runs.map Qn.Rq.pv)))] 75 [.loc 23 0] (by simp[wkX,bdsP,runsP,ctsP]) hqc (by simp[wkX,ZgC]) ?_;simp[-getElem?_pos,wkX];refine .inl (cQ [] [(ZaJ w.runs).pv] hec ?_);simp[-getElem?_pos];refine .inl (cP [.loc 84 0] [.lst false 1 ([Wd.txt tEnd,.num (endN F w)].map Wd.pv)] (by simp) (by simp[Wd.pv,tEnd]) hed ?_);simp[-getElem?_pos];refine cM [.pv (.str ew),.ptr (.par 0) 0] [(.par 0,bldX (rt++(cw.data.toList++[10])))] 86 [.loc 7 0] (by simp) p2 (by simp) ?_;simp[-getElem?_pos];refine cM [.ptr (.par 0) 0] [(.par 0,bldX (rt++(cw.data.toList++[10])++(ew.data.toList++[10])))] 87 [.loc 7 0] (by simp) hst (by simp) ?_;simp[-getElem?_pos];rw[←hR];exact⟨by simp,rfl⟩
 ·have h3:=Zd8 hc;rw[h3]at hch;rw[if_neg hc]at hR;simp[-getElem?_pos,L24];refine cG [strsP L] hch ?_;simp[-getElem?_pos];rw[←hR];exact⟨rfl,rfl⟩
end
section

end
section
attribute [local simp] retFz frzL AS.frz AV.frz AV.frzL Box.frz AS.tidy AS.ZvF frzsL retOk renB toLoc

def Zbq (L:List ByteArray):Bool:=L.all (fun s=>decide (s.size≤200))&&decide (L.length≤50)
theorem Zkl {α:Type}{l:List α}{p:α→Bool}{k:Nat}{x:α}(h:l[k]?=some x):(l.take (k+1)).all p=((l.take k).all p&&p x):=by
 rw[Zx6,h,List.all_append];simp
theorem Zi9 {α:Type}{l:List α}{p:α→Bool}{x:α}(h:x∈l)(hp:p x=false):l.all p=false:=by
 rw[List.all_eq_false];exact⟨x,h,by simp[hp]⟩
theorem Zky (L:List ByteArray)(hl:L.length≤1000000):Gives Tryz.prog 9 [strsP L] (.bool (Zbq L)):=by
 refine cSR L9 ?_;intro R hR;simp[-getElem?_pos,L9,strsP];refine Zaf (fun m τ=>∃k:Nat,k≤L.length∧m=L.length-k∧(L.take k).all (fun s=>decide (s.size≤200))=true∧τ=⟨[(0,.pv (.lst false 1 (L.map .str))),(3,.pv (.int .i64 (k:Int)))],[]⟩)
  ⟨L.length,⟨[(0,.pv (.lst false 1 (L.map .str))),(3,.pv (.int .i64 ((0:Nat):Int)))],[]⟩,Sub.mk (by simp) (by simp),0,Zx0 _,rfl,rfl,rfl⟩ ?_
 rintro J hJ m τ ⟨k,hk,rfl,hall,rfl⟩;by_cases hlt:k<L.length
 ·obtain⟨s,hx⟩:∃s,L[k]?=some s:=⟨L[k],ZxL hlt⟩;have hg:(L.map PV.str)[k]?=some (.str s):=by rw[ZxM,hx];rfl
  have hw:=wrapK (k:=k) (by omega);have hmeas:L.length-(k+1)<L.length-k:=by omega
  by_cases h2:200<s.size
  ·have hf:Zbq L=false:=by unfold Zbq;rw[Zi9 (ZxQ hx) (by simpa using h2)];rfl
   have h2':(200:Int)<(s.size:Int):=by omega
   rw[hf]at hR;simp[-getElem?_pos,-List.getElem?_map,hlt,hg,nblt,nble,h2,h2'];rw[←hR];exact⟨rfl,by simp⟩
  ·have hn:=hJ (L.length-(k+1)) _ ⟨k+1,hlt,rfl,by rw[Zkl hx,hall];simp;omega,rfl⟩;have h2':¬(200:Int)<(s.size:Int):=by omega
   simp[-getElem?_pos,-List.getElem?_map,hlt,hg,nblt,nble,h2,h2',hw];exact⟨_,_,hmeas,Sub.mk (by simp) (by simp),hn⟩
 ·have he:k=L.length:=by omega
  subst he;rw[Zye]at hall;have hf:Zbq L=decide (L.length≤50):=by unfold Zbq;rw[hall,Bool.true_and]
  rw[hf]at hR;simp[-getElem?_pos,nble];rw[←hR];exact⟨by simp;try omega,by simp⟩
def thinB (L:List ByteArray):Bool:=(L.take 56).all (fun s=>decide (s.size≤210))&&decide (L.length≤55)
theorem ZoO (L:List ByteArray)(hl:L.length≤9223372036854775807):Gives Tryz.prog 8 [strsP L] (.bool (thinB L)):=by
 refine cSR L8 ?_;intro R hR;simp[-getElem?_pos,L8,strsP];refine Zaf (fun m τ=>∃k:Nat,k≤L.length∧k≤56∧m=L.length-k∧(L.take k).all (fun s=>decide (s.size≤210))=true∧τ=⟨[(0,.pv (.lst false 1 (L.map .str))),(3,.pv (.int .i64 (k:Int)))],[]⟩)
  ⟨L.length,⟨[(0,.pv (.lst false 1 (L.map .str))),(3,.pv (.int .i64 ((0:Nat):Int)))],[]⟩,Sub.mk (by simp) (by simp),0,Zx0 _,Zx0 _,rfl,rfl,rfl⟩ ?_
 rintro J hJ m τ ⟨k,hk,hk6,rfl,hall,rfl⟩;by_cases hlt:k<L.length
 ·have hlt':((k:Int)<(L.length:Int)):=by omega
  by_cases h6:k<56
  ·obtain⟨s,hx⟩:∃s,L[k]?=some s:=⟨L[k],ZxL hlt⟩;have hg:(L.map PV.str)[k]?=some (.str s):=by rw[ZxM,hx];rfl
   have hw:=wrapK (k:=k) (by omega);have hmeas:L.length-(k+1)<L.length-k:=by omega
   have h6':((k:Int)<56):=by omega
   by_cases h2:210<s.size
   ·have hm:s∈L.take 56:=ZxQ (i:=k) (by rw[Zx1,if_pos h6];exact hx);have hf:thinB L=false:=by unfold thinB;rw[Zi9 hm (by simpa using h2)];rfl
    rw[hf]at hR;have h2':(210:Int)<(s.size:Int):=by omega
    simp[-getElem?_pos,-List.getElem?_map,hlt,hlt',h6,h6',hg,nblt,nble,h2,h2'];rw[←hR];exact⟨rfl,by simp⟩
   ·have hn:=hJ (L.length-(k+1)) _ ⟨k+1,hlt,h6,rfl,by rw[Zkl hx,hall];simp;omega,rfl⟩;have h2':¬(210:Int)<(s.size:Int):=by omega
    simp[-getElem?_pos,-List.getElem?_map,hlt,hlt',h6,h6',hg,nblt,nble,h2,h2',hw];exact⟨_,_,hmeas,Sub.mk (by simp) (by simp),hn⟩
  ·have he:k=56:=by omega
   subst he;have hf:thinB L=false:=by unfold thinB;rw[hall,decide_eq_false (by omega)];rfl
   rw[hf]at hR;have h55:¬(L.length:Int)≤55:=by omega
   have hl6:(56:Int)<(L.length:Int):=by omega
   clear hlt hlt' h6;simp[-getElem?_pos,nble,hl6,h55];rw[←hR];exact⟨rfl,by simp⟩
 ·have he:k=L.length:=by omega
  subst he;rw[Zye]at hall;have hf:thinB L=decide (L.length≤55):=by unfold thinB;rw[ZxW hk6,hall,Bool.true_and]
  rw[hf]at hR;simp[-getElem?_pos,nble];rw[←hR];exact⟨by simp;try omega,by simp⟩
theorem Zj3 (L:List ByteArray)(hl:L.length≤1000000):Gives Tryz.prog 14 [strsP L] (strsP L):=by
 refine Zai.ZvA ?_;refine cF [.loc 5 0] L14 ?_;have h4:List.take L.length (L.map PV.str)=L.map PV.str:=ZxW (by rw[ZxS];exact ZxR _);simp[-getElem?_pos,L14,strsP,nble,hl,h4]
def ZaR:List ByteArray:=[⟨#[99,101,114,116,32,49,32,50,32,48,32,49,48,32,49,48,48,32,45,49,32,49]⟩,⟨#[108,111,116,32,55,32,56,32,53,48,48]⟩,⟨#[116,101,115,116,32,55,32,50,32,50,48,32,53,49,49]⟩,⟨#[116,101,115,116,32,55,32,50,32,50,48,32,53,49,48]⟩]
def moreL:List ByteArray:=[⟨#[116,101,115,116,32,55,32,51,32,50,48,32,54,48,48]⟩,⟨#[98,97,100,32,49]⟩,⟨#[116,101,115,116,32,55,32,50,32,50,48,32,54,48,48]⟩]
def Zjm:ByteArray:=⟨#[108,111,116,32,55,32,116,101,115,116,115,32,50,32,111,112,101,110,10,99,101,114,116,115,32,49,32,104,101,108,100,32,49,32,98,97,100,32,48,10,101,110,100,32,48,10]⟩
def Ze8:ByteArray:=⟨#[123,48,48,49,58,57,57,56,58,48,48,49,48,57,125,97,10]⟩
theorem ZjK:Zai Tryz.prog 23 [] [] (fun r B=>r=.vec (.ret 0) 1 0 4∧B=[(.ret 0,.arr 9 1 (ZaR.map .str))]):=by
 refine cB [.loc 1 0] L23 ?_;simp[-getElem?_pos,L23,ZaR,nble]
theorem ZtE (A B:List Int)(hA:A.length≤1000000):Gives Tryz.prog 26 [.lst false 1 (A.map iP),.lst false 1 (B.map iP)] (.bool (decide (A=B))):=by
 refine cSR L26 ?_;intro R hR;by_cases hl:A.length=B.length
 ·have hl':((A.length:Int)=(B.length:Int)):=by omega
  simp[-getElem?_pos,L26,hl,hl'];refine Zaf (fun m τ=>∃k:Nat,k≤A.length∧m=A.length-k∧A.take k=B.take k∧τ=⟨[(0,.pv (.lst false 1 (A.map iP))),(1,.pv (.lst false 1 (B.map iP))),(5,.pv (.int .i64 (k:Int)))],[]⟩)
   ⟨A.length,⟨[(0,.pv (.lst false 1 (A.map iP))),(1,.pv (.lst false 1 (B.map iP))),(5,.pv (.int .i64 ((0:Nat):Int)))],[]⟩,Sub.mk (by simp) (by simp),0,Zx0 _,rfl,rfl,rfl⟩ ?_
  rintro J hJ m τ ⟨k,hk,rfl,hsame,rfl⟩;by_cases hlt:k<A.length
  ·obtain⟨s,hx⟩:∃s,A[k]?=some s:=⟨A[k],ZxL hlt⟩;obtain⟨t,hy⟩:∃t,B[k]?=some t:=⟨B[k]'(by omega),ZxL (by omega)⟩;have hg:(A.map iP)[k]?=some (.int .i64 s):=by rw[ZxM,hx];rfl
   have hg2:(B.map iP)[k]?=some (.int .i64 t):=by rw[ZxM,hy];rfl
   have hlt2:k<B.length:=by omega
   have hw:=wrapK (k:=k) (by omega);have hmeas:A.length-(k+1)<A.length-k:=by omega
   by_cases h2:s=t
   ·have hn:=hJ (A.length-(k+1)) _ ⟨k+1,hlt,rfl,by rw[Zx6,Zx6,hx,hy,hsame,h2],rfl⟩;simp[-getElem?_pos,-List.getElem?_map,hlt,hlt2,hg,hg2,nblt,nble,h2,hw];exact⟨_,_,hmeas,Sub.mk (by simp) (by simp),hn⟩
   ·have hf:decide (A=B)=false:=by
     rw[decide_eq_false_iff_not];intro e;rw[e,hy]at hx;cases hx;exact h2 rfl
    rw[hf]at hR;simp[-getElem?_pos,-List.getElem?_map,hlt,hlt2,hg,hg2,nblt,nble,h2];rw[←hR];exact⟨rfl,by simp⟩
  ·have he:k=A.length:=by omega
   subst he;rw[Zye,hl,Zye]at hsame;have hf:decide (A=B)=true:=by rw[decide_eq_true_eq];exact hsame
   rw[hf]at hR;simp[-getElem?_pos];rw[←hR];exact⟨rfl,by simp⟩
 ·have hl':¬((A.length:Int)=(B.length:Int)):=by omega
  have hf:decide (A=B)=false:=by
   rw[decide_eq_false_iff_not];intro e;exact hl (by rw[e])
  rw[hf]at hR;simp[-getElem?_pos,L26,hl,hl'];rw[←hR];exact⟨rfl,by simp⟩
theorem Zr3:plyE (doB 408) (ZaR++moreL)=.tup [(foldD (doB 408) wk0 (ZaR++moreL)).1.pv,.lst false 1 ([0,0,0,0,10,0,10].map iE),.int .i64 0]:=by
 unfold plyE;have h1:Za3 (ZaR++moreL)=0:=by decide +kernel
 have h2:(foldD (doB 408) wk0 (ZaR++moreL)).2=[0,0,0,0,10,0,10]:=by decide +kernel
 rw[if_pos h1,h2]
theorem Zbt {L:List ByteArray}(h:Zbq L=true):L.length≤50∧∀s∈L,s.size≤200:=by
 unfold Zbq at h;rw[ZxO,decide_eq_true_eq,Zx7]at h;exact⟨h.2,fun s hs=>by simpa using h.1 s hs⟩
theorem Zby {L:List ByteArray}(h:Zbq L=true):Za3 L=0:=by
 obtain⟨h1,h2⟩:=Zbt h;have hf:fitB L=true:=by
  show L.all (fun s=>decide (s.size≤200))=true;rw[Zx7];exact fun s hs=>by simpa using h2 s hs
 unfold Za3;rw[hf];have h3:¬50<L.length:=by omega
 simp[h3]
def Wk.cells (w:Wk):List AV:=[.pv (.lst false 7 (w.certs.map Ct.pv)),.pv (.lst false 1 (w.bad.map iP)),.pv (.lst false 4 (w.lots.map Lt.pv)),.pv (.lst false 4 (w.tests.map Tt.pv)),.pv (.lst false 3 (w.runs.map Qn.Rq.pv))]
section
variable {D:Wk→ByteArray→Wk×Int}
def keepD (D:Wk→ByteArray→Wk×Int):Wk→List ByteArray→List ByteArray
 |_,[]=>[]
 |st,s::l=>if(D st s).2=0 then s::keepD D (D st s).1 l else keepD D (D st s).1 l
theorem ZfV {s:ByteArray}:∀{L:List ByteArray} {st:Wk} {k:Nat},L[k]?=some s→(foldD D st L).2[k]?=some (D (foldD D st (L.take k)).1 s).2
 |[],_,k,h=>by simp at h
 |x::L,st,0,h=>by
  simp only[List.getElem?_cons_zero,Option.some.injEq]at h;subst h;rfl
 |x::L,st,k+1,h=>by
  simp only[List.getElem?_cons_succ]at h;simp only[foldD,List.take_succ_cons,List.getElem?_cons_succ];exact ZfV h
end
end
section
attribute [local simp] retFz frzL AS.frz AV.frz AV.frzL Box.frz AS.tidy AS.ZvF frzsL retOk renB toLoc
theorem Zr2:wdrE (doB 408) ZaR 1=.tup [.lst false 1 ([0,1].map iP),.int .i64 0]:=by
 unfold wdrE;have h1:Za3 ZaR=0:=by decide +kernel
 have h2:kn (foldD (doB 408) wk0 ZaR).1 1=true:=by decide +kernel
 have h3:wdL (foldD (doB 408) wk0 ZaR).1 1 (foldD (doB 408) wk0 ZaR).1.tests.length=[0,1]:=by decide +kernel
 rw[if_pos h1,if_pos h2,h3]
theorem Zt0:rptE 408 ZaR=.tup [.str Zjm,.int .i64 0]:=by
 unfold rptE;have h1:Za3 ZaR=0:=by decide +kernel
 have h2:repL 408 (foldD (doB 408) wk0 ZaR).1=Zjm.data.toList:=by decide +kernel
 rw[if_pos h1,h2]
theorem wk_wr:wrtE [⟨#[97]⟩]=.tup [.lst false 1 (bP Ze8.data.toList),.int .i64 0]:=by
 unfold wrtE;have h1:Za3 [⟨#[97]⟩]=0:=by decide +kernel
 have h2:fileL [⟨#[97]⟩] 0=Ze8.data.toList:=by decide +kernel
 rw[if_pos h1,h2]
theorem ZbW:Gives Tryz.prog 10 [] (.bool true):=by
 have hF:407<408:=by decide
 have c1:=Zlz hF (ZaR++moreL) (by decide);rw[Zr3]at c1;have c2:=Zkb hF ZaR (by decide) 1;rw[Zr2]at c2;have c3:=Zrs hF ZaR (by decide);rw[Zt0]at c3;have c4:=ZtZ [⟨#[97]⟩] (by decide);rw[wk_wr]at c4;have c5:=ZtE [0,1] [0,1] (by decide);generalize hw:(foldD (doB 408) wk0 (ZaR++moreL)).1=w at c1;refine cSR L10 ?_;intro R hR;simp[-getElem?_pos,L10];refine .inl (Za9 [] (fs:=[]) (xs:=[]) (cs:=[]) (d:=11) rfl rfl ZjK ?_);rintro r B ⟨rfl,rfl⟩;refine⟨by simp,?_⟩;simp[-getElem?_pos,ZaR,nble];refine .inl (cP [.loc 13 0] [strsP (ZaR++moreL)] (by simp) (by simp[strsP,ZaR,moreL]) c1 ?_);simp[-getElem?_pos,Wk.pv];refine .inl (Za9 [] (fs:=[]) (xs:=[]) (cs:=[]) (d:=19) rfl rfl ZjK ?_);rintro r B ⟨rfl,rfl⟩;refine⟨by simp,?_⟩;simp[-getElem?_pos,ZaR,nble];refine .inl (cP [.loc 19 0] [strsP ZaR,.int .i64 1] (by simp) (by simp[strsP,ZaR]) c2 ?_);simp[-getElem?_pos];refine .inl (Za9 [] (fs:=[]) (xs:=[]) (cs:=[]) (d:=24) rfl rfl ZjK ?_);rintro r B ⟨rfl,rfl⟩;refine⟨by simp,?_⟩;simp[-getElem?_pos,ZaR,nble];refine .inl (cP [.loc 24 0] [strsP ZaR] (by simp) (by simp[strsP,ZaR]) c3 ?_);simp[-getElem?_pos];refine .inl (cP [.loc 29 0] [strsP [⟨#[97]⟩]] (by simp) (by simp[strsP]) c4 ?_);simp[-getElem?_pos,iE,iP];refine .inl (cP [.loc 88 0] [.lst false 1 ([0,1].map iP),.lst false 1 ([0,1].map iP)] (by simp) (by simp[iP]) c5 ?_);have hs:Zc2 (bP Ze8.data.toList)=some ((Ze8.data.toList).map fun b=>(b.toNat:Int)):=by decide +kernel
 have hs2:ZeN ((Ze8.data.toList).map fun b=>(b.toNat:Int))=Ze8:=by decide +kernel
 have hr:Zjm.toList=[108,111,116,32,55,32,116,101,115,116,115,32,50,32,111,112,101,110,10,99,101,114,116,115,32,49,32,104,101,108,100,32,49,32,98,97,100,32,48,10,101,110,100,32,48,10]:=by rw[Lib.toList_data];rfl
 have hr2:Ze8.toList=[123,48,48,49,58,57,57,56,58,48,48,49,48,57,125,97,10]:=by rw[Lib.toList_data];rfl
 simp[-getElem?_pos,hs,hs2,hr,hr2];rw[←hR];exact⟨by simp,by simp⟩

end
section

attribute [local irreducible] Bk.held Bk.nums Bk.Zvi Bk.span
section
variable {b b':Bk}
structure More (b b':Bk):Prop where
 i:b'.items=b.items
 c:∀c∈b.certs,c∈b'.certs
theorem More.item (h:More b b')(i:Int):b'.item i=b.item i:=by unfold Bk.item;rw[h.i]
theorem More.held (hb:b.ok)(hb':b'.ok)(h:More b b'){x:Int}(hx:x∈b.held []):x∈b'.held []:=ZiE hb hb' (fun c _=>h.item _) h.c (fun _ h=>h) hx
theorem More.Zw6 (hb:b.ok)(hb':b'.ok)(h:More b b')(item day below:Int):(b'.Zu2 (b'.held []) (b'.span (b'.held [])) item day below).sub (b.Zu2 (b.held []) (b.span (b.held [])) item day below):=
 Ziw (h.item _) h.c (fun x hx=>h.held hb hb' hx) fun c hc _ hx=>ZmG hb hb' (fun c _=>h.item _) h.c c hc hx
theorem More.contra (hb:b.ok)(hb':b'.ok)(h:More b b')(hc:b.contra=true):b'.contra=true:=by
 unfold Bk.contra at hc ⊢;rw[Zya]at hc ⊢;obtain⟨c,hc,e⟩:=hc;rw[ZxO,Zx4,decide_eq_true_eq]at e;refine⟨c,h.c c hc,?_⟩;have hs:=h.Zw6 hb hb' c.it c.day 1000;unfold Cr.sub at hs;rw[ZxO,Zx4,decide_eq_true_eq];exact⟨h.held hb hb' e.1,by omega⟩
end
end
section
section
attribute [local irreducible] Bk.Zvh earlE Bk.contra Bk.held Bk.span Bk.nums
theorem Ze5 {bad:List Int}{x:Ct}:badP bad x=true↔x.num∈bad:=by
 unfold badP;simp
theorem Zlc {l:List Ct}{bad:List Int}{x:Ct}:x∈goodC l bad↔x∈l∧x.num∉bad:=by
 unfold goodC;rw[ZxX];constructor
 ·rintro⟨h1,h2⟩;refine⟨h1,fun h=>?_⟩;rw[Ze5.2 h]at h2;cases h2
 ·rintro⟨h1,h2⟩;refine⟨h1,?_⟩;cases hb:badP bad x with
  |false=>rfl
  |true=>exact absurd (Ze5.1 hb) h2
theorem Zoc {l:List Ct}{bad bad':List Int}(h:∀n∈bad,n∈bad'):More (Zam l bad') (Zam l bad):=
 ⟨rfl,fun c hc=>by
  obtain⟨h1,h2⟩:=Zlc.1 hc;exact Zlc.2 ⟨h1,fun hh=>h2 (h _ hh)⟩⟩
theorem Zmi {l:List Ct}{bad bad':List Int}(hl:Bk.ok ⟨Za0,l⟩)(h:∀n∈bad,n∈bad')(hc:(Zam l bad).contra=false):(Zam l bad').contra=false:=by
 cases hx:(Zam l bad').contra with
 |false=>rfl
 |true=>rw[(Zoc h).contra (Zda hl) (Zda hl) hx]at hc;cases hc
end
section
attribute [local irreducible] earlE Bk.contra Bk.held Bk.span Bk.nums Bk.fault
theorem ZhX {b:Bk}(hb:b.ok)(h:b.Zvh.2=7):b.contra=false:=by
 have hf:=Bk.Zvx.2 hb;unfold Bk.Zvh at h;rw[if_pos hf]at h;cases hc:b.contra with
 |false=>rfl
 |true=>rw[hc,if_pos rfl]at h;cases h
structure WkJ (st:Wk):Prop where
 nc:(Zam st.certs st.bad).contra=false
 q:earlE 408 (ZaJ st.runs)=0
theorem wk0_J:WkJ wk0:=⟨ZhX (b:=Zam [] []) (Zda ZiB) (by decide +kernel),by decide +kernel⟩
theorem WkJ.step {k:Nat}{st w:Wk}{g:FuncId}{nums:List Int}(h:WkI k st)(j:WkJ st)(hw:doW 408 st g nums=.ok w):WkJ w:=by
 unfold doW at hw;split at hw
 ·split at hw
  ·obtain⟨l,h1,rfl⟩:=ZaP hw;obtain⟨rfl,h2,h3,_⟩:=Zlp h1;exact⟨ZhX (Zda h2) h3,j.q⟩
  ·cases hw
 split at hw
 ·split at hw
  ·obtain⟨l,h1,rfl⟩:=ZaP hw;obtain⟨h2,h3,rfl⟩:=ZoX h1;exact⟨Zmi h.bk (fun n hn=>Zdh.2 (.inr hn)) j.nc,j.q⟩
  ·cases hw
 split at hw
 ·split at hw
  ·obtain⟨l,h1,rfl⟩:=ZaP hw;exact⟨j.nc,j.q⟩
  ·cases hw
 split at hw
 ·split at hw
  ·obtain⟨l,h1,rfl⟩:=ZaP hw;exact⟨j.nc,j.q⟩
  ·cases hw
 split at hw
 ·split at hw
  ·obtain⟨l,h1,rfl⟩:=ZaP hw;exact⟨j.nc,j.q⟩
  ·cases hw
 ·split at hw
  ·obtain⟨l,h1,rfl⟩:=ZaP hw;obtain⟨rfl,_,_,h4⟩:=Zjk h1;exact⟨j.nc,h4⟩
  ·cases hw
theorem WkJ.next {k:Nat}{st:Wk}(h:WkI k st)(j:WkJ st)(s:ByteArray):WkJ (doB 408 st s).1:=by
 unfold doB lineM;cases hp:ZaD s with
 |none=>exact j
 |some q=>
  obtain⟨g,nums⟩:=q;dsimp only;cases hd:doW 408 st g nums with
  |error e=>exact j
  |ok w=>exact j.step h hd
theorem ZfU:∀{l:List ByteArray} {k:Nat} {st:Wk},WkI k st→WkJ st→WkI (k+l.length) (foldD (doB 408) st l).1∧WkJ (foldD (doB 408) st l).1
 |[],k,st,h,j=>⟨h,j⟩
 |x::l,k,st,h,j=>by
  have:=ZfU (l:=l) (h.next (F:=408) x) (j.next h x)
  rw[show k+1+l.length=k+(x::l).length by rw[Zyg];omega]at this;exact this
end
end
end
end Go.Proofs.YtfpmaennjlggeaaGreatDoor
namespace Go.Proofs.YtfpmaennjlggeaaGreatDoor.Qn
open Go.RowKit
section





def busy (x:Int):Bool:=decide (x≠-1)



end
end Go.Proofs.YtfpmaennjlggeaaGreatDoor.Qn
namespace Go.Proofs.YtfpmaennjlggeaaGreatDoor
open Go.RowKit
section

end
section
attribute [local simp] AS.exp expG Box.ren AV.map AV.Zu9 Zau noRet Site.Zu6 Box.Zu3 AV.Zu3 AV.Zu4 retB dropL AS.Zvd renL outG outOk Zas inG fnOf lookA Zyc
attribute [local simp] Box.Zu0 Site.Zu1
section
attribute [local simp] retFz frzL AS.frz AV.frz AV.frzL Box.frz AS.tidy AS.ZvF frzsL retOk renB toLoc

end
section
open Go.ChangeShapes Go.WideShapes Go.ChangeAt Go.RowKit
set_option maxRecDepth 100000

end
end
section
theorem ZeK {P:Program}{f:FuncId}{fn:Func}{s:ChangeSpec}{c:OpenClaim}(k0:(c.wf (OpenSpec.ofChange s))=true)(k1:(laidOutB P)=true)(k2:(mapsRowed P)=true)(k3:(fn.params.all (P.readableRec ·))=true)(k4:(namedTie P c.named s.vars)=true)(k5:((c.stops==[]))=true)(k6:((P.stops==[]))=true)(k7:((c.knobs==[]))=true)(k8:((P.stopKnobs==[]))=true)(k9:((c.inPlace==P.inPlace f))=true)(k10:((c.unfollowed==P.unfollowed f))=true)(k11:((c.recurses==P.recurses f))=true)(k12:((c.named==P.varsNamed f))=true)(k13:((c.maps==(fn.params.toList++s.plain.varTypes P).any (P.mapsRec ·)))=true)(k14:((c.ifaces==(fn.params.toList++s.plain.varTypes P).any (P.ifacesRec ·)))=true)(k15:((c.mapsOut==P.mapsAmong fn.resultTypes.toList))=true)(k16:((c.loops==(fn.params.toList++s.plain.varTypes P).any (P.loopsFrom ·)))=true)(k17:((c.wideKeys==(fn.params.toList++s.plain.varTypes P++fn.resultTypes.toList).any (P.wideKeysFrom ·)))=true)(k18:(s.vars.all (P.varReadable ·))=true)(k19:(fn.resultTypes.all (fun t=>P.readableRec t&&decide (t<P.types.size)))=true)(k20:((c.ifacesOut==fn.resultTypes.toList.any (P.ifacesRec ·)))=true)(k21:((c.loopsOut==fn.resultTypes.toList.any (P.loopsFrom ·)))=true)(k22:((c.plainKeys==P.plainKeys))=true)(k23:(c.shortTexts.isNone)=true)(k24:(P.stopsHeard)=true)(k25:(P.mayEnter)=true)(k26:((c.lifted==P.liftsFinal))=true)(k27:((P.make==some c.make))=true)(k28:((c.kinds==(if c.domain.isEmpty then[]else fn.params.toList.map fun t=>match P.underlying t with|some (.int k)=>some k|_=>none)))=true)(k29:((c.pinned==c.pinnedBy))=true)(k30:((c.veiled==(fn.params.toList++s.plain.varTypes P++fn.resultTypes.toList).any (P.veiledRec ·)))=true)(k31:(c.veiledFits P fn.params.toList (fn.params.toList++s.plain.varTypes P++fn.resultTypes.toList))=true):joinedFacts P f fn s c=true:=by
 unfold joinedFacts;simp only[ZxO];exact⟨⟨⟨⟨⟨⟨⟨⟨⟨⟨⟨⟨⟨⟨⟨⟨⟨⟨⟨⟨⟨⟨⟨⟨⟨⟨⟨⟨⟨⟨⟨k0,k1⟩,k2⟩,k3⟩,k4⟩,k5⟩,k6⟩,k7⟩,k8⟩,k9⟩,k10⟩,k11⟩,k12⟩,k13⟩,k14⟩,k15⟩,k16⟩,k17⟩,k18⟩,k19⟩,k20⟩,k21⟩,k22⟩,k23⟩,k24⟩,k25⟩,k26⟩,k27⟩,k28⟩,k29⟩,k30⟩,k31⟩
end
section
set_option maxRecDepth 100000

end
section
open Go.ChangeShapes Go.WideShapes Go.ChangeAt Go.RowKit
set_option maxRecDepth 100000

end
section
attribute [local simp] AS.exp expG Box.ren AV.map AV.Zu9 Zau noRet Site.Zu6 Box.Zu3 AV.Zu3 AV.Zu4 retB dropL AS.Zvd renL outG outOk Zas inG fnOf lookA Zyc
attribute [local simp] Box.Zu0 Site.Zu1
section
attribute [local simp] retFz frzL AS.frz AV.frz AV.frzL Box.frz AS.tidy AS.ZvF frzsL retOk renB toLoc
section
variable {P:Program}{K:AS→Prop}{Q:AEx→AS→Prop}{σ:AS}
end
end
section
section
attribute [local irreducible] Bk.Zvh earlE Bk.contra Bk.held Bk.span Bk.nums Bk.Zva
end
end
section



attribute [local irreducible] Bk.Zvh earlE Bk.contra Bk.held Bk.span Bk.nums Bk.Zva stM verdM
end
section
attribute [local irreducible] Bk.Zvh earlE Bk.contra Bk.held Bk.span Bk.nums Bk.Zva stM verdM
end
section
attribute [local simp] retFz frzL AS.frz AV.frz AV.frzL Box.frz AS.tidy AS.ZvF frzsL retOk renB toLoc



end
section
open Go.ChangeShapes Go.WideShapes Go.ChangeAt Go.RowKit
set_option maxRecDepth 100000

end
section
set_option maxRecDepth 100000

end
section
open Go.ChangeShapes Go.WideShapes Go.ChangeAt Go.RowKit
set_option maxRecDepth 100000

end
section
attribute [local simp] retFz frzL AS.frz AV.frz AV.frzL Box.frz AS.tidy AS.ZvF frzsL retOk renB toLoc


end
section

end
section
attribute [local simp] retFz frzL AS.frz AV.frz AV.frzL Box.frz AS.tidy AS.ZvF frzsL retOk renB toLoc

attribute [local irreducible] Bk.Zvh earlE Bk.contra Bk.held Bk.span Bk.nums Bk.Zva stM verdM doB foldD ZaD wordB
end
section
open Go.ChangeShapes Go.WideShapes Go.ChangeAt Go.RowKit
set_option maxRecDepth 100000

end
section
set_option maxRecDepth 100000

end
section
open Go.ChangeShapes Go.WideShapes Go.ChangeAt Go.RowKit
set_option maxRecDepth 100000

end
section
attribute [local simp] retFz frzL AS.frz AV.frz AV.frzL Box.frz AS.tidy AS.ZvF frzsL retOk renB toLoc

attribute [local irreducible] Bk.Zvh earlE Bk.contra Bk.held Bk.span Bk.nums Bk.Zva stM verdM doB foldD
end
section
open Go.ChangeShapes Go.WideShapes Go.ChangeAt Go.RowKit
set_option maxRecDepth 100000

end
section
set_option maxRecDepth 100000

end
section
open Go.ChangeShapes Go.WideShapes Go.ChangeAt Go.RowKit
set_option maxRecDepth 100000

end
section
attribute [local irreducible] Bk.Zvh earlE Bk.contra Bk.held Bk.span Bk.nums Bk.Zva stM verdM
end
section
attribute [local simp] retFz frzL AS.frz AV.frz AV.frzL Box.frz AS.tidy AS.ZvF frzsL retOk renB toLoc
attribute [local irreducible] Bk.Zvh earlE Bk.contra Bk.held Bk.span Bk.nums Bk.Zva stM verdM doB foldD ZaD wordB
end
section
open Go.ChangeShapes Go.WideShapes Go.ChangeAt Go.RowKit
set_option maxRecDepth 100000

end
section
set_option maxRecDepth 100000

end
section
open Go.ChangeShapes Go.WideShapes Go.ChangeAt Go.RowKit
set_option maxRecDepth 100000

end
end
end Go.Proofs.YtfpmaennjlggeaaGreatDoor

