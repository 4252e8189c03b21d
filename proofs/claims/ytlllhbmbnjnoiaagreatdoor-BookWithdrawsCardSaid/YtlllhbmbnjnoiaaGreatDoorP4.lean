/- The registrar's book: what the statement needs, joined and shortened by program. -/
import Derived.Test.YtlllhbmbnjnoiaaGreatDoorP3
import Derived.Test.YtlllhbmbnjnoiaaGreatDoorP2
import Derived.Test.YtlllhbmbnjnoiaaGreatDoorRows
import Derived.Test.YtlllhbmbnjnoiaaGreatDoorP1
import Derived.WalkKit
import Derived.ProofKit
import Derived.OpenShut
import Derived.Handed
import Derived.Lay
import Derived.MakeChecks
import Derived.LaidLaws
import Derived.Lib.LaidTab
import Derived.Lib.LaidU8
import Derived.Shelf.Vars
import Derived.Lib.AtoiTie
import Derived.Test.YtlllhbmbnjnoiaaGreatDoorP0
import Derived.Test.YtlllhbmbnjnoiaaGreatDoorProg
import Derived.Shelf.Spec.SlicesInsertGrow
import Derived.StillTailTactics
import Derived.Deep.QuietTactic
import Derived.BigQuiet
import Derived.Lib.Builder
import Derived.Shelf.Strings.BuilderX
import Derived.Shelf.RegionOpenPlain
import Derived.Lib.Strings
import Derived.Lib.Walk
import Derived.Lib.AppendStr
import Derived.Lib.AppendZeros
import Derived.Lib.UnsafeStr
import Derived.Laws.Externs
import Derived.Lib.ItoaLen
set_option linter.unusedSimpArgs false
set_option linter.unusedVariables false
set_option maxHeartbeats 32000000
set_option maxRecDepth 100000
namespace Go.Proofs.YtlllhbmbnjnoiaaGreatDoor.Qn
open Go.RowKit
open Go.Proofs.Tryz Go.Proofs.YtlllhbmbnjnoiaaGreatDoor.Tryz
def Qu.I5 (q:Qu)(p:List (List Int)):List (List Int):=p.map (·.take q.ms.length)
def Qu.JN (F:Nat)(q:Qu):PV:=if q.check≠0 then .bM [eG [],.i 0,.i q.check]else match q.DX F with
 |none=>.bM [eG [],.i 0,.i 9]
 |some p=>.bM [eG (q.I5 p),.i p.length,.i 0]
theorem Zlh {m:Mem}{v:Value}{a b:PV}(h:dH m v (.bM [.emp (some true),a,b])):dH m v (.bM [eG [],a,b]):=by
 refine Yx ?_ ?_ h
 .rfl
 intro j c c' d h1 h2 hd
 match j with
 |0=>simp at h1 h2;subst h1 h2;exact AK hd
 |1=>simp at h1 h2;subst h1 h2;exact hd
 |2=>simp at h1 h2;subst h1 h2;exact hd
 |j+3=>simp at h1
theorem wR {F:Nat}(hF:407<F)(q:Qu)(h1:q.ms.length<=1000000)(h2:q.rs.length<=1000000)(h3:∀l∈q.ms,l.length<=1000000):aD prog 45 [q.pv] (q.JN F):=by
 refine cN.i7 ?_;obtain⟨OUT,IP⟩:∃z,z=q.JN F:=⟨_,rfl⟩;rw[<-IP];refine Q4 [.loc 38 0] L45 ?_;intro R hR;simp[L45,Qu.pv];refine cG [q.pv] (WY q h1 h2 h3) ?_;by_cases hc:q.check=0
 .have hq:=Qu.Kv hc;have Ax:=hq.m;have Bm:=ZX hF q hq;have hO:OUT=match q.DX F with
   |none=>.bM [eG [],.i 0,.i 9]
   |some p=>.bM [eG (q.I5 p),.i p.length,.i 0]:=by rw[IP];unfold Qu.JN;rw[if_neg (by simpa using hc)]
  have hPW:∀p,q.DX F=some p->PW q p:=fun p hp=>C5 hq _ _ _ PW.nil (oE (q:=q)) p hp
  clear IP;generalize q.DX F=LAY at *;simp[hc];refine cL [.pv q.pv] [] 17 [] rfl Bm ?_
  intro x B hx;cases LAY with
  |none=>
   obtain⟨rfl,rfl⟩:=hx;refine⟨rfl,by simp,?_⟩;simp;rw[<-hR];refine⟨_,rfl,rfl,fun m v h=>?_⟩;rw[hO];exact Zlh h
  |some p=>
   obtain⟨rfl,rfl⟩:=hx;refine⟨rfl,by simp,?_⟩;have hpw:=hPW p rfl;have lZ:=hpw.l;simp;refine eP (fun n τ=>∃k:Nat,k<=p.length/\n=p.length-k/\τ=⟨[(1,.ptr (.loc 1 0) 0),(2,.vec (.loc 38 0) 1 0 k),(25,.vec (.loc 17 1) 4 0 p.length),(26,.pv (.i p.length)),(27,.pv (.i k))],[(.loc 38 0,.arr 26 1 ((q.I5 p).take k |>.map bS)),(.loc 1 0,.cells q.cells),(.loc 17 1,.arr 180 4 (jQ p))]⟩)
    ⟨p.length,⟨[(1,.ptr (.loc 1 0) 0),(2,.vec (.loc 38 0) 1 0 0),(25,.vec (.loc 17 1) 4 0 p.length),(26,.pv (.i p.length)),(27,.pv (.i 0))],[(.loc 38 0,.arr 26 1 []),(.loc 1 0,.cells q.cells),(.loc 17 1,.arr 180 4 (jQ p))]⟩,Sub.trans' (Sub.mk (by simp[AS.cR]) (by simp[AS.cR,Qu.cells])) (cR 38 26 1 2 rfl (by decide)),0,gY _,rfl,by simp⟩ ?_
   rintro J hJ n τ ⟨k,hk,rfl,rfl⟩;by_cases aJ:k<p.length
   .obtain⟨l,hl⟩:∃l,p[k]?=some l:=⟨p[k],bC aJ⟩;have h4:=hpw.f l (dL hl);have hg:(jQ p)[k]?=some (.agg (l.map (PV.int .i64))):=by rw[jQ,bX,hl];rfl
    have gO:(q.I5 p)[k]?=some (l.take q.ms.length):=by rw[Qu.I5,bX,hl];rfl
    have hw:=jE (k:=k) (by omega);have aG:p.length-(k+1)<p.length-k:=by omega
    have aB:=hJ _ _ ⟨k+1,aJ,rfl,rfl⟩;have jT:((q.I5 p).take (k+1)).map bS=((q.I5 p).take k).map bS++[bS (l.take q.ms.length)]:=by rw[OD gO];simp
    have D7:k+1<=1000000:=by omega
    have hk5:k<=999999:=by omega
    have nT:(((q.I5 p).take k).map bS).length=k:=by simp[Qu.I5];omega
    have nU:=ZqI (l.take q.ms.length) (by rw[gN];omega);have P8:(jQ p).length=p.length:=by simp[jQ]
    match l,h4 with
    |[a,b,c,d],_=>
    have UZ:(([a,b,c,d]:List Int).map (PV.int .i64)).take q.ms.length=(([a,b,c,d]:List Int).take q.ms.length).map aO:=by rw[<-List.map_take];rfl
    simp only[iN,List.map_nil]at UZ hg;clear hJ hPW Bm;generalize RF:((q.I5 p).take k).map bS=TL at *;generalize hRW:([a,b,c,d]:List Int).take q.ms.length=RW at *;simp[-List.map_take,Qu.cells,aJ,↓hg,cU,aP,Ax,UZ];refine .inl (cP [] [bS RW] rfl ?_ nU ?_)
    .simp[aM,bS]
    simp[-List.map_take,aM,aP,D7,nT,hw,bS];refine⟨_,_,aG,Sub.mk ?_ ?_,aB⟩
    .simp
    .simp[-List.map_take,jT,Qu.cells,bS]
   .have he:k=p.length:=by omega
    subst he;have EX:((q.I5 p).take p.length).map bS=(q.I5 p).map bS:=by rw[fP (by simp[Qu.I5])]
    have nF:((q.I5 p).map bS).take p.length=(q.I5 p).map bS:=fP (by simp[Qu.I5]);have Vb:(q.I5 p).length=p.length:=by simp[Qu.I5]
    simp[-List.map_take,EX,nF,Vb];rw[<-hR];refine⟨_,rfl,rfl,fun m v h=>?_⟩;rw[hO];exact h
 .have hO:OUT=.bM [eG [],.i 0,.i q.check]:=by rw[IP];unfold Qu.JN;rw[if_pos (by simpa using hc)]
  simp[hc];rw[<-hR];refine⟨_,rfl,rfl,fun m v h=>?_⟩;rw[hO];exact Zlh h
end Go.Proofs.YtlllhbmbnjnoiaaGreatDoor.Qn
namespace Go.Proofs.YtlllhbmbnjnoiaaGreatDoor
open Go.RowKit
open Go.Proofs.Tryz Go.Proofs.YtlllhbmbnjnoiaaGreatDoor.Tryz
def uK (rs:List Qn.Rq):Qn.Qu:=⟨[[⟨10,13⟩],[]],rs⟩
def dU (rs:List Qn.Rq):PV:=.aE false 3 (rs.map Qn.Rq.pv)
def eR (F:Nat)(q:Qn.Qu):Int:=if q.check≠0 then q.check else match q.DX F with
 |none=>9
 |some _=>0
theorem Zon (F:Nat)(q:Qn.Qu):∃x y,q.JN F=.bM [x,.i y,.i (eR F q)]:=by
 unfold Qn.Qu.JN eR;split
 .exact⟨_,_,rfl⟩
 .cases q.DX F with
  |none=>exact⟨_,_,rfl⟩
  |some p=>exact⟨_,_,rfl⟩
def pJ (h r o:Int):Qn.Rq:=⟨h,r,[!decide (o=2),!decide (o=1)]⟩
def runM (F:Nat)(rs:List Qn.Rq)(h r o:Int):Except Int (List Qn.Rq):=
 if(decide (1<=h)&&decide (h<=40))=true/\(decide (0<=r)&&decide (r<=40))=true/\(decide (1<=o)&&decide (o<=3))=true then
  (if rs.length<6 then(if eR F (uK (rs++[pJ h r o]))=0 then .ok (rs++[pJ h r o])else .error 9)else .error 3)
 else .error 2
def rnQ (r:Except Int (List Qn.Rq))(ct bd ls ts:PV)(a b c d e:PV):Prop:=∃xY,r=.ok xY/\a=ct/\b=bd/\c=ls/\d=ts/\e=dU xY
theorem YT {F:Nat}(hF:407<F)(rs:List Qn.Rq)(ct bd ls ts:PV)(h r o:Int)(hr:rs.length<=900):
  sY prog 192 [.ptr (.par 0) 0,.pv (.aE false 1 [iP h,iP r,iP o])] [(.par 0,aQ ct bd ls ts (dU rs))] (yB (rnQ (runM F rs h r o) ct bd ls ts)) (uR (fun e=>runM F rs h r o=.error e)):=by
 have w1:=KA h 1 40;have w2:=KA r 0 40;have w3:=KA o 1 3;refine cX L192 ?_;generalize hE:(fun e=>runM F rs h r o=.error e)=E;generalize hQ:rnQ (runM F rs h r o) ct bd ls ts=Q;unfold runM at hE hQ;generalize(decide (1<=h)&&decide (h<=40))=c1 at w1 hE hQ;generalize(decide (0<=r)&&decide (r<=40))=c2 at w2 hE hQ;generalize(decide (1<=o)&&decide (o<=3))=c3 at w3 hE hQ;show fO _ (.seq _ (.seq _ (.seq _ _))) _ _ _;by_cases hc:¬(c1=true/\c2=true/\c3=true)
 .have z7:E 2:=by rw[<-hE,if_neg hc]
  refine xD [_,_,_,_,_,_,_,_,_,_,_,_,_,_,_,_] ?_;simp[hold,iP];refine cG [.i h,.i 1,.i 40] w1 ?_;cases c1 with
  |false=>
   simp[hold];exact pF 2 z7
  |true=>
  simp[hold];refine cG [.i r,.i 0,.i 40] w2 ?_;cases c2 with
  |false=>
   simp[hold];exact pF 2 z7
  |true=>
  simp[hold];refine cG [.i o,.i 1,.i 3] w3 ?_;cases c3 with
  |false=>
   simp;exact pF 2 z7
  |true=>exact absurd ⟨rfl,rfl,rfl⟩ hc
 have hc:=Decidable.not_not.1 hc;rw[if_pos hc]at hE hQ;obtain⟨rfl,rfl,rfl⟩:=hc;refine mF ?_;simp[hold,iP];refine cG [.i h,.i 1,.i 40] w1 ?_;simp[hold];refine cG [.i r,.i 0,.i 40] w2 ?_;simp[hold];refine cG [.i o,.i 1,.i 3] w3 ?_;simp;refine cG [.bool true,.i 2] (gM 2) ?_;simp[hold];by_cases h6:¬rs.length<6
 .rw[if_neg h6]at hE;have Vx:E 3:=by rw[<-hE]
  have Wg:¬(rs.length:Int)<6:=by omega
  refine xD [_,_,_,_,_,_,_] ?_;simp[hold,aQ,dU,Wg];exact pF 3 Vx
 have h6:=Decidable.not_not.1 h6;rw[if_pos h6]at hE hQ;have Wg:(rs.length:Int)<6:=by omega
 refine mF ?_;simp[hold,aQ,dU,Wg];refine cG [.bool true,.i 3] (gM 3) ?_;simp;refine mF ?_;simp[hold,setAt,aP];have EU:=ZoG (rs.map Qn.Rq.pv) h r [.bool (!decide (o=2)),.bool (!decide (o=1))] (.aE false 1 [.bool (!decide (o=2)),.bool (!decide (o=1))]) rfl (by rw[fZ];omega);refine .inl (cP [.loc 52 0] [.aE false 3 (rs.map Qn.Rq.pv),.agg [.i h,.i r,.aE false 1 [.bool (!decide (o=2)),.bool (!decide (o=1))]]] (by simp) (by simp[AS.cH,AV.cH,AV.aY,aK.cH]) EU ?_);have H4:rs.map Qn.Rq.pv++[.agg [.i h,.i r,.aE false 1 [.bool (!decide (o=2)),.bool (!decide (o=1))]]]=(rs++[pJ h r o]).map Qn.Rq.pv:=by rw[mH];rfl
 rw[H4];have RI:(rs++[pJ h r o]).length<=7:=by rw[gD];simp;omega
 generalize rs++[pJ h r o]=L at hE hQ RI ⊢;clear H4 EU;simp[AS.cH,AV.cH,AV.aY,aK.cH,AS.tidy];have VB:=Znk (L.map Qn.Rq.pv) ct bd ls ts;have VM:=Qn.wR hF (uK L) (show(2:Nat)<=1000000 by decide) (show L.length<=1000000 by omega) (fun l hl=>by
  simp[uK]at hl;rcases hl with rfl|rfl<;>decide)
 obtain⟨ex,ey,Ci⟩:=Zon F (uK L);rw[Ci]at VM;generalize eR F (uK L)=er at hE hQ VM;clear Ci;refine mF ?_;simp[hold];refine cM [.ptr (.par 0) 0] [(.par 0,aQ ct bd ls ts (.aE false 3 (L.map Qn.Rq.pv)))] 60 [.par 0] (by simp[aQ]) VB (by simp[aQ]) ?_;simp[aQ];refine .inl (cQ [] [(uK L).pv] VM ?_);simp;by_cases h0:¬er=0
 .rw[if_neg h0]at hE;have Vw:E 9:=by rw[<-hE]
  refine Gk [_,_] ?_;simp[hold,h0];exact pF 9 Vw
 have h0:=Decidable.not_not.1 h0;rw[if_pos h0]at hQ;refine GB ?_;simp[hold,h0];refine cG [.bool true,.i 9] (gM 9) ?_;simp[hold];refine l8 (a:=ct) (b:=bd) (c:=ls) (d:=ts) (e:=dU L) [] ?_ ?_
 .simp[aY,aQ,dU]
 .rw[<-hQ];exact⟨_,rfl,rfl,rfl,rfl,rfl,rfl⟩
theorem Zt5 (l:List PV)(g:FuncId)(fs cs:List PV)(q:PV->Bool)(hq:∀x∈l,aD prog g (fs++[x]++cs) (.bool (q x)))(hl:l.length<=1000000)(hc:∀x∈l,∃s,x=.str s):
  aD prog 109 [.aE false 1 l,.fn g fs cs] (.bool (l.any q)):=
 wX 152 (TB (row:=false) hq hl (fun x hx=>by obtain⟨s,rfl⟩:=hc x hx;exact⟨rfl,by simp⟩))
theorem Zrj (x:PV)(g:FuncId)(fs cs:List PV)(b:Bool)(hx:∃s,x=.str s)(hq:aD prog g (fs++[x]++cs) (.bool b)):
  aD prog 110 [x,.ref [.fn g fs cs]] (.bool (!b)):=by
 obtain⟨s,rfl⟩:=hx;refine cS L110 ?_;simp[L110];refine gG (k:=0) rfl rfl hq rfl ?_;simp
theorem Zt9 (l:List PV)(g:FuncId)(fs cs:List PV)(q:PV->Bool)(hq:∀x∈l,aD prog g (fs++[x]++cs) (.bool (q x)))(hl:l.length<=1000000)(hc:∀x∈l,∃s,x=.str s):
  aD prog 66 [.aE false 1 l,.fn g fs cs] (.bool (l.all q)):=by
 refine cS L66 ?_;simp[L66];refine gG (k:=4) rfl rfl (Zt5 l 110 [] [.ref [.fn g fs cs]] (fun x=>!q x) (fun x hx=>Zrj x g fs cs (q x) (hc x hx) (hq x hx)) hl hc) rfl ?_;simp[List.not_any_eq_all_not]
theorem ZlP (l:List Ct)(bad:List Int)(ls:PV)(ts:List Tt)(rn:PV)(x:Lt)(hl:l.length<=1000)(hb:bad.length<=1000)(ht:ts.length<=900)(h4:4<=x.pieces)(RY:x.pieces<=30)(dF:zG l bad ts):
  cN prog 53 [.ptr (.par 0) 0,.pv x.pv] [(.par 0,aQ (aL l) (bJ bad) ls (bI ts) rn)] (fun r B=>r=.pv (.bool (x.passed&&!decide (cW l bad ts x=1)))/\B=[(.par 0,aQ (aL l) (bJ bad) ls (bI ts) rn)]):=by
 have qN:=Og l bad ls ts rn x hl hb ht h4 RY dF;have HL:iB (stM l bad) (nV l bad x.limit) x.num ts []=cW l bad ts x:=rfl;rw[HL]at qN;generalize cW l bad ts x=v at qN ⊢;rw[Lt.pv]at qN;refine cB [.par 0] L53 ?_;cases hp:x.passed with
 |false=>simp[L53,aQ,Lt.pv,hp]
 |true=>
  rw[hp]at qN;simp[L53,aQ,Lt.pv,hp];refine cM [.ptr (.par 0) 0,.pv (.agg [.i x.num,.i x.pieces,.i x.limit,.bool true])] [(.par 0,aQ (aL l) (bJ bad) ls (bI ts) rn)] 10 [.par 0] (by simp[aQ]) qN (by simp[aQ]) ?_;simp[aQ,bJ]
def zI (v:Int):ByteArray:=if v=1 then⟨#[97,99,99,101,112,116,101,100]⟩else if v=2 then⟨#[114,101,106,101,99,116,101,100]⟩else⟨#[111,112,101,110]⟩
theorem Zrw (v:Int):aD prog 79 [.int .u8 v] (.str (zI v)):=by
 refine cS L79 ?_;unfold zI;by_cases h1:v=1
 .simp[L79,h1]
 .by_cases h2:v=2
  .simp[L79,h2]
  .simp[L79,h1,h2]
theorem ZsE (s:ByteArray):aD prog 65 [.str s] (.bool (decide (s.size<=200))):=by
 refine cS L65 ?_;by_cases h:s.size<=200
 .have h':(s.size:Int)<=200:=by omega
  simp[L65,h,h']
 .have h':¬(s.size:Int)<=200:=by omega
  simp[L65,h,h']
def bO (l:List ByteArray):PV:=.aE false 1 (l.map .str)
def IW (l:List ByteArray):Bool:=l.all fun s=>decide (s.size<=200)
def zC (l:List ByteArray):Int:=if 50<l.length then 3 else if IW l=true then 0 else 3
theorem Zrn (l:List ByteArray)(hl:l.length<=1000000):aD prog 66 [bO l,.fn 65 [] []] (.bool (IW l)):=by
 have h:=Zt9 (l.map .str) 65 [] [] (fun x=>match x with
  |.str s=>decide (s.size<=200)
  |_=>false) (fun x hx=>by
   obtain⟨s,_,rfl⟩:=iJ.1 hx;exact ZsE s) (by rw[fZ];exact hl) (fun x hx=>by
   obtain⟨s,_,rfl⟩:=iJ.1 hx;exact⟨s,rfl⟩)
 rw[List.all_map]at h;exact h
theorem WY (l:List ByteArray)(hl:l.length<=1000000):aD prog 30 [bO l] (.i (zC l)):=by
 have ha:=Zrn l hl;refine cS L30 ?_;unfold zC;by_cases h:50<l.length
 .have h':(50:Int)<(l.length:Int):=by omega
  simp[L30,bO,h,h']
 .have h':¬(50:Int)<(l.length:Int):=by omega
  unfold bO at ha;cases hf:IW l with
  |true=>
   rw[hf]at ha;simp[L30,bO,h,h'];refine gG (k:=4) (fs:=[]) (xs:=[.aE false 1 (l.map .str),.fn 65 [] []]) (cs:=[]) rfl rfl ha rfl ?_;simp
  |false=>
   rw[hf]at ha;simp[L30,bO,h,h'];refine gG (k:=4) (fs:=[]) (xs:=[.aE false 1 (l.map .str),.fn 65 [] []]) (cs:=[]) rfl rfl ha rfl ?_;simp
section
def dg (n:Nat):Nat:=48+n%10
def mW (many i:Int)(n:Nat)(c0 c1 c2 c3 c4:Nat):AS:=
 ⟨[(0,.pv (.i n)),(1,.pv (.i many)),(5,.ptr (.loc 5 0) 0),(6,.pv (.i i))],[(.loc 5 0,.cells [.pv (.int .u8 c0),.pv (.int .u8 c1),.pv (.int .u8 c2),.pv (.int .u8 c3),.pv (.int .u8 c4)])]⟩
attribute [local simp] Pw wr1 Ir wr3 Iq Ip
theorem j6:IntKind.i64.wrap (-1) = -1:=by decide
theorem dq (n:Nat)(hn:n<1000000000000):IntKind.i64.wrap ((n:Int) / 10)=((n / 10:Nat):Int):=by rw[wrap64 (by omega)];omega
theorem dr (n:Nat):IntKind.u8.wrap (IntKind.i64.wrap (48+(n:Int).tmod 10))=((dg n:Nat):Int):=by
 have h:(n:Int).tmod 10=((n%10:Nat):Int):=by rw[Int.tmod_eq_emod_of_nonneg (by omega)];rfl
 rw[h,wrap64 (by omega),show IntKind.u8.wrap (48+((n%10:Nat):Int))=(48+((n%10:Nat):Int))%256 from rfl];unfold dg;omega
theorem ZiK (n:Nat)(hn:n<1000000):aD prog 150 [.i n,.i 3] (.str ⟨#[.ofNat (dg (n / 10 / 10)),.ofNat (dg (n / 10)),.ofNat (dg n)]⟩):=by
 refine cS L150 ?_;simp[L150];refine eP (fun m τ=>(m=3/\τ=mW 3 2 n 0 0 0 0 0)\/(m=2/\τ=mW 3 1 (n / 10) 0 0 (dg n) 0 0)\/(m=1/\τ=mW 3 0 (n / 10 / 10) 0 (dg (n / 10)) (dg n) 0 0)\/(m=0/\τ=mW 3 (-1) (n / 10 / 10 / 10) (dg (n / 10 / 10)) (dg (n / 10)) (dg n) 0 0)) ⟨3,mW 3 2 n 0 0 0 0 0,Sub.mk (by simp[mW]) (by simp[mW]),.inl ⟨rfl,rfl⟩⟩ ?_;rintro J hJ m τ (⟨rfl,rfl⟩|⟨rfl,rfl⟩|⟨rfl,rfl⟩|⟨rfl,rfl⟩)
 .have hj:=hJ 2 _ (.inr (.inl ⟨rfl,rfl⟩));have h1:=dq n (by omega);have h2:=dr n;simp[mW,cU,aP,h1,h2];exact⟨_,_,by decide,Sub.mk (by simp) (by simp),hj⟩
 .have hj:=hJ 1 _ (.inr (.inr (.inl ⟨rfl,rfl⟩)));have h1:=dq (n / 10) (by omega);have h2:=dr (n / 10);generalize n / 10=k at hj h1 h2 ⊢;simp[mW,setAt,cU,aP,h1,h2];exact⟨_,_,by decide,Sub.mk (by simp[mW]) (by simp[mW]),hj⟩
 .have hj:=hJ 0 _ (.inr (.inr (.inr ⟨rfl,rfl⟩)));have h1:=dq (n / 10 / 10) (by omega);have h2:=dr (n / 10 / 10);generalize n / 10 / 10=k at hj h1 h2 ⊢;simp[mW,setAt,cU,aP,h1,h2,j6];exact⟨_,_,by decide,Sub.mk (by simp[mW]) (by simp[mW]),hj⟩
 .simp[mW,setAt,cU,aP,OY,AS.cH,AV.cH,AV.aY,aK.cH,EC,NW]
theorem Zos (n:Nat)(hn:n<1000000):aD prog 150 [.i n,.i 5] (.str ⟨#[.ofNat (dg (n / 10 / 10 / 10 / 10)),.ofNat (dg (n / 10 / 10 / 10)),.ofNat (dg (n / 10 / 10)),.ofNat (dg (n / 10)),.ofNat (dg n)]⟩):=by
 refine cS L150 ?_;simp[L150];refine eP (fun m τ=>(m=5/\τ=mW 5 4 n 0 0 0 0 0)\/(m=4/\τ=mW 5 3 (n / 10) 0 0 0 0 (dg n))\/(m=3/\τ=mW 5 2 (n / 10 / 10) 0 0 0 (dg (n / 10)) (dg n))\/(m=2/\τ=mW 5 1 (n / 10 / 10 / 10) 0 0 (dg (n / 10 / 10)) (dg (n / 10)) (dg n))\/(m=1/\τ=mW 5 0 (n / 10 / 10 / 10 / 10) 0 (dg (n / 10 / 10 / 10)) (dg (n / 10 / 10)) (dg (n / 10)) (dg n))\/(m=0/\τ=mW 5 (-1) (n / 10 / 10 / 10 / 10 / 10) (dg (n / 10 / 10 / 10 / 10)) (dg (n / 10 / 10 / 10)) (dg (n / 10 / 10)) (dg (n / 10)) (dg n))) ⟨5,mW 5 4 n 0 0 0 0 0,Sub.mk (by simp[mW]) (by simp[mW]),.inl ⟨rfl,rfl⟩⟩ ?_;rintro J hJ m τ (⟨rfl,rfl⟩|⟨rfl,rfl⟩|⟨rfl,rfl⟩|⟨rfl,rfl⟩|⟨rfl,rfl⟩|⟨rfl,rfl⟩)
 .have hj:=hJ 4 _ (.inr (.inl ⟨rfl,rfl⟩));have h1:=dq (n) (by omega);have h2:=dr (n);simp[mW,setAt,cU,aP,h1,h2,OY,UJ,j6];exact⟨_,_,by decide,Sub.mk (by simp[mW]) (by simp[mW]),hj⟩
 .have hj:=hJ 3 _ (.inr (.inr (.inl ⟨rfl,rfl⟩)));have h1:=dq (n / 10) (by omega);have h2:=dr (n / 10);generalize n / 10=k at hj h1 h2 ⊢;simp[mW,setAt,cU,aP,h1,h2,OY,UJ,j6];exact⟨_,_,by decide,Sub.mk (by simp[mW]) (by simp[mW]),hj⟩
 .have hj:=hJ 2 _ (.inr (.inr (.inr (.inl ⟨rfl,rfl⟩))));have h1:=dq (n / 10 / 10) (by omega);have h2:=dr (n / 10 / 10);generalize n / 10 / 10=k at hj h1 h2 ⊢;simp[mW,setAt,cU,aP,h1,h2,OY,UJ,j6];exact⟨_,_,by decide,Sub.mk (by simp[mW]) (by simp[mW]),hj⟩
 .have hj:=hJ 1 _ (.inr (.inr (.inr (.inr (.inl ⟨rfl,rfl⟩)))));have h1:=dq (n / 10 / 10 / 10) (by omega);have h2:=dr (n / 10 / 10 / 10);generalize n / 10 / 10 / 10=k at hj h1 h2 ⊢;simp[mW,setAt,cU,aP,h1,h2,OY,UJ,j6];exact⟨_,_,by decide,Sub.mk (by simp[mW]) (by simp[mW]),hj⟩
 .have hj:=hJ 0 _ (.inr (.inr (.inr (.inr (.inr (⟨rfl,rfl⟩))))));have h1:=dq (n / 10 / 10 / 10 / 10) (by omega);have h2:=dr (n / 10 / 10 / 10 / 10);generalize n / 10 / 10 / 10 / 10=k at hj h1 h2 ⊢;simp[mW,setAt,cU,aP,h1,h2,OY,UJ,j6];exact⟨_,_,by decide,Sub.mk (by simp[mW]) (by simp[mW]),hj⟩
 .simp[mW,setAt,cU,aP,nI5,AS.cH,AV.cH,AV.aY,aK.cH,EC,NW]
end
def sX:List UInt8->Nat->Nat
 |[],_=>0
 |b::r,j=>(j+1)*(b.toNat+1)+sX r (j+1)
theorem ZiO {b:UInt8}:∀{l:List UInt8} {j:Nat},sX (l++[b]) j=sX l j+(j+l.length+1)*(b.toNat+1)
 |[],j=>by simp[sX]
 |x::l,j=>by
  simp only[List.cons_append,sX,pA];rw[ZiO (l:=l),show j+1+l.length+1=j+(l.length+1)+1 by omega];omega
theorem Zt:∀{l:List UInt8} {j:Nat},sX l j<=l.length*((j+l.length)*256)
 |[],j=>by simp[sX]
 |x::l,j=>by
  have ih:=Zt (l:=l) (j:=j+1);have hx:x.toNat+1<=256:=x.toNat_lt;simp only[sX,pA];have h1:(j+1)*(x.toNat+1)<=(j+(l.length+1))*256:=Nat.mul_le_mul (by omega) hx;have h2:l.length*((j+1+l.length)*256)=l.length*((j+(l.length+1))*256):=by rw[show j+1+l.length=j+(l.length+1) by omega]
  have e:(l.length+1)*((j+(l.length+1))*256)=(j+(l.length+1))*256+l.length*((j+(l.length+1))*256):=by rw[Nat.succ_mul,Nat.add_comm]
  rw[e];exact Nat.add_le_add h1 (lJ ih (Nat.le_of_eq h2))
def rS (s:ByteArray)(i:Nat):Nat:=11*(i+1)+sX s.data.toList 0
def uC (n:Nat):ByteArray:=⟨#[.ofNat (dg (n / 10 / 10)),.ofNat (dg (n / 10)),.ofNat (dg n)]⟩
def r8 (n:Nat):ByteArray:=⟨#[.ofNat (dg (n / 10 / 10 / 10 / 10)),.ofNat (dg (n / 10 / 10 / 10)),.ofNat (dg (n / 10 / 10)),.ofNat (dg (n / 10)),.ofNat (dg n)]⟩
def B5 (s:ByteArray)(i:Nat):ByteArray:=⟨#[123]⟩++uC s.size++⟨#[58]⟩++uC (999-s.size)++⟨#[58]⟩++r8 (rS s i%99991)++⟨#[125]⟩++s++⟨#[10]⟩
def ZA (s:ByteArray)(i k:Nat):AS:=⟨[(0,.pv (.str s)),(5,.pv (.i ((11*(i+1)+sX (s.data.toList.take k) 0:Nat):Int))),(12,.pv (.aE false 1 (qH s))),(13,.pv (.i s.size)),(14,.pv (.i (k:Int)))],[]⟩
theorem ZpB (s:ByteArray)(i:Nat)(hs:s.size<=999)(hi:i<=1000):aD prog 102 [.str s,.i i] (.str (B5 s i)):=by
 refine b8 L102 ?_;intro R hR;have fI:s.data.toList.length=s.size:=rfl;have wL:(qH s).length=s.size:=by simp[qH]
 have G6:IntKind.i64.wrap ((i:Int)+1)=(i:Int)+1:=wrap64 (by omega);have pY:IntKind.i64.wrap (11*((i:Int)+1))=11*((i:Int)+1):=wrap64 (by omega);have PS:s.size<=1000000:=by omega
 simp[L102,G6,pY,PS,wL,aP];refine eP (fun m τ=>∃k:Nat,k<=s.size/\m=s.size-k/\τ=ZA s i k) ⟨s.size,ZA s i 0,Sub.mk (by simp[sX]) (by simp),0,gY _,rfl,rfl⟩ ?_;rintro J hJ m τ ⟨k,hk,rfl,rfl⟩;by_cases aJ:k<s.size
 .obtain⟨b,hx⟩:∃b,s.data.toList[k]?=some b:=⟨s.data.toList[k]'(by omega),bC _⟩;have hg:(qH s)[k]?=some (.int .u8 b.toNat):=by
   unfold qH;rw[bX,hx];rfl
  have hn:=hJ (s.size-(k+1)) _ ⟨k+1,aJ,rfl,rfl⟩;unfold ZA at hn;have jT:s.data.toList.take (k+1)=s.data.toList.take k++[b]:=by rw[mR,hx];rfl
  rw[jT,ZiO,gN,Nat.min_eq_left (by omega)]at hn;have gO:=Zt (l:=s.data.toList.take k) (j:=0);rw[gN,Nat.min_eq_left (by omega)]at gO;have sU:b.toNat+1<=256:=b.toNat_lt;have QI:k*((0+k)*256)<=999*(999*256):=Nat.mul_le_mul (by omega) (by omega);have VD:(0+k+1)*(b.toNat+1)<=1000*256:=Nat.mul_le_mul (by omega) sU;unfold ZA;generalize sX (s.data.toList.take k) 0=C at hn gO ⊢;have sN:=bN (k:=k) (by omega);have hw3:IntKind.i64.wrap ((b.toNat:Int)+1)=(b.toNat:Int)+1:=wrap64 (by omega);have T3:((k:Int)+1)*((b.toNat:Int)+1)=(((0+k+1)*(b.toNat+1):Nat):Int):=by rw[rV];rfl
  have PK:IntKind.i64.wrap (b.toNat:Int)=b.toNat:=wrap64 (by omega);generalize(0+k+1)*(b.toNat+1)=P at hn VD T3;have Ah:IntKind.i64.wrap (((k:Int)+1)*((b.toNat:Int)+1))=P:=by rw[T3];exact wrap64 (by omega)
  have hw5:IntKind.i64.wrap (11*((i:Int)+1)+(C:Int)+(P:Int))=11*((i:Int)+1)+((C:Int)+(P:Int)):=by rw[wrap64 (by omega)];omega
  simp[aJ,↓hg,sN,hw3,Ah,hw5,PK];exact⟨_,_,(by omega:s.size-(k+1)<s.size-k),Sub.mk (by simp) (by simp),hn⟩
 .have he:k=s.size:=by omega
  subst he;have gO:=Zt (l:=s.data.toList) (j:=0);rw[fI]at gO;have QI:s.size*((0+s.size)*256)<=999*(999*256):=Nat.mul_le_mul (by omega) (by omega);unfold ZA;rw[fP (by omega)];have h1:aD prog 150 [.i s.size,.i 3] (.str (uC s.size)):=ZiK s.size (by omega);have h2:aD prog 150 [.i ((999-s.size:Nat):Int),.i 3] (.str (uC (999-s.size))):=ZiK (999-s.size) (by omega);have h3:aD prog 150 [.i ((rS s i%99991:Nat):Int),.i 5] (.str (r8 (rS s i%99991))):=Zos (rS s i%99991) (by omega);have z1:(uC s.size).size=3:=rfl;have z2:(uC (999-s.size)).size=3:=rfl;have z3:(r8 (rS s i%99991)).size=5:=rfl;have nD:B5 s i=⟨#[123]⟩++uC s.size++⟨#[58]⟩++uC (999-s.size)++⟨#[58]⟩++r8 (rS s i%99991)++⟨#[125]⟩++s++⟨#[10]⟩:=rfl;have q1:(⟨#[123]⟩:ByteArray).size=1:=rfl;have q2:(⟨#[58]⟩:ByteArray).size=1:=rfl;have q3:(⟨#[125]⟩:ByteArray).size=1:=rfl;have q4:(⟨#[10]⟩:ByteArray).size=1:=rfl;rw[nD]at hR;have hw6:IntKind.i64.wrap (999-(s.size:Int))=((999-s.size:Nat):Int):=by rw[wrap64 (by omega)];omega
  have tD:(11*(i+1)+sX s.data.toList 0:Nat)=rS s i:=rfl;rw[tD];have IG:rS s i<=1000000000:=by unfold rS;omega
  have yL:(rS s i:Int).tmod 99991=((rS s i%99991:Nat):Int):=by rw[Int.tmod_eq_emod_of_nonneg (by omega)];rfl
  clear nD tD;generalize r8 (rS s i%99991)=D5 at h3 z3 hR;generalize uC s.size=D1 at h1 z1 hR;generalize uC (999-s.size)=D2 at h2 z2 hR;generalize rS s i=C at h3 yL;simp;refine cG [.i s.size,.i 3] h1 ?_;simp[ByteArray.size_append,z1,q1,q2,hw6,aP];refine cG [.i ((999-s.size:Nat):Int),.i 3] h2 ?_;simp[ByteArray.size_append,z1,z2,q1,q2,yL,aP];refine cG [.i ((C%99991:Nat):Int),.i 5] h3 ?_;have qQ:15+s.size<=9223372036854775807:=by omega
  have Cs:15+s.size+1<=9223372036854775807:=by omega
  simp[ByteArray.size_append,z1,z2,z3,q1,q2,q3,q4,aP,qQ,Cs];rw[<-hR];exact⟨rfl,rfl⟩
theorem Zu9 (a b:ByteArray):(a++b).data.toList=a.data.toList++b.data.toList:=by
 rw[ByteArray.data_append,Array.toList_append]
def l9 (s:ByteArray)(i:Nat):List UInt8:=(B5 s i).data.toList
def Uy (s:ByteArray)(i:Nat):List UInt8:=58::((uC (999-s.size)).data.toList++58::((r8 (rS s i%99991)).data.toList++[125]))
theorem ZsS (s:ByteArray)(i:Nat):l9 s i=123::((uC s.size).data.toList++(Uy s i++(s.data.toList++[10]))):=by
 unfold l9 B5 Uy;simp only[Zu9,I2];rfl
theorem ZtC (s:ByteArray)(i:Nat):(Uy s i).length=11:=rfl
theorem ZkA (s:ByteArray)(i:Nat):(l9 s i).length=16+s.size:=by
 rw[ZsS,pA,gD,gD,ZtC,gD];show 3+(11+(s.size+1))+1=16+s.size;omega
def kB:List ByteArray->Nat->List UInt8
 |[],_=>[]
 |s::r,i=>l9 s i++kB r (i+1)
theorem ZgO {s:ByteArray}:∀{l:List ByteArray} {i:Nat},kB (l++[s]) i=kB l i++l9 s (i+l.length)
 |[],i=>by simp[kB]
 |x::l,i=>by
  simp only[List.cons_append,kB,pA];rw[ZgO (l:=l),I2,show i+1+l.length=i+(l.length+1) by omega]
structure Wk where
 aA:List Ct
 bad:List Int
 aN:List Lt
 aH:List Tt
 runs:List Qn.Rq
def Wk.box (w:Wk):aK:=aQ (aL w.aA) (bJ w.bad) (aW w.aN) (bI w.aH) (dU w.runs)
def lD:Wk:=⟨[],[],[],[],[]⟩
def Fs (I:Nat->Wk->Prop)(D:Wk->ByteArray->Wk×Int):Prop:=∀k st s,k<150->I k st->s.size<=200->I (k+1) (D st s).1/\cN prog 55 [.ptr (.par 0) 0,.pv (.str s)] [(.par 0,st.box)] (fun r B=>r=.pv (.i (D st s).2)/\B=[(.par 0,(D st s).1.box)])
def dA (D:Wk->ByteArray->Wk×Int):Wk->List ByteArray->Wk×List Int
 |st,[]=>(st,[])
 |st,s::l=>((dA D (D st s).1 l).1,(D st s).2::(dA D (D st s).1 l).2)
theorem ZeH {D:Wk->ByteArray->Wk×Int}{s:ByteArray}:∀{l:List ByteArray} {st:Wk},dA D st (l++[s])=((D (dA D st l).1 s).1,(dA D st l).2++[(D (dA D st l).1 s).2])
 |[],st=>rfl
 |x::l,st=>by
  simp only[List.cons_append,dA];rw[ZeH (l:=l)]
theorem Oj {D:Wk->ByteArray->Wk×Int}:∀{l:List ByteArray} {st:Wk},(dA D st l).2.length=l.length
 |[],st=>rfl
 |x::l,st=>by simp only[dA,pA,Oj (l:=l)]
theorem Hq {D:Wk->ByteArray->Wk×Int}{I:Nat->Wk->Prop}(hN:Fs I D):∀{l:List ByteArray} {k:Nat} {st:Wk},k+l.length<=150->I k st->(∀s∈l,s.size<=200)->I (k+l.length) (dA D st l).1
 |[],k,st,_,h,_=>h
 |x::l,k,st,hk,h,hl=>by
  rw[pA]at hk
  have:=Hq hN (l:=l) (k:=k+1) (by omega) (hN k st x (by omega) h (hl x (List.mem_cons_self ..))).1 (fun s hs=>hl s (List.mem_cons_of_mem _ hs))
  rw[show k+1+l.length=k+(x::l).length by rw[pA];omega]at this;exact this
def iE (n:Int):PV:=.i n
def GV (L:List ByteArray)(W:aK)(es:List Int)(k:Nat):AS:=
 ⟨[(4,.ptr (.loc 9 0) 0),(5,.vec (.loc 21 0) 1 0 es.length),(10,.pv (.aE false 1 (L.map .str))),(11,.pv (.i L.length)),(12,.pv (.i (k:Int)))],
  [(.loc 9 0,W),(.loc 21 0,.arr 33 1 (es.map iE))]⟩
theorem FT (k:Nat):AV.Wk (.pv (.emp (some true))) (.pv (.aE false k [])):=KU fun m v h=>AK h
theorem Yj {I:Nat->Wk->Prop}{D:Wk->ByteArray->Wk×Int}(hN:Fs I D)(h0:I 0 lD)(L:List ByteArray)(hl:L.length<=150)(hs:∀s∈L,s.size<=200):
  cN prog 31 [.pv (bO L)] [] (fun r B=>r=.bM [.ptr (.ret 0) 0,.vec (.ret 1) 1 0 L.length]/\B=[(.ret 0,(dA D lD L).1.box),(.ret 1,.arr 33 1 ((dA D lD L).2.map iE))]):=by
 refine N9 [.loc 9 0,.loc 21 0] L31 ?_;intro R hR;simp[L31,bO];refine eP (fun m τ=>∃k:Nat,k<=L.length/\m=L.length-k/\τ=GV L (dA D lD (L.take k)).1.box (dA D lD (L.take k)).2 k) ⟨L.length,GV L lD.box [] 0,?_,0,gY _,rfl,rfl⟩ ?_
 .refine Sub.trans' ?_ (cR 21 33 1 5 rfl (by decide));refine Sub.trans' ?_ (Sub.aX (s:=.loc 9 0) (i:=0) _ rfl rfl (FT 7));refine Sub.trans' ?_ (Sub.aX (s:=.loc 9 0) (i:=1) _ rfl rfl (FT 1));refine Sub.trans' ?_ (Sub.aX (s:=.loc 9 0) (i:=2) _ rfl rfl (FT 4));refine Sub.trans' ?_ (Sub.aX (s:=.loc 9 0) (i:=3) _ rfl rfl (FT 4));refine Sub.trans' ?_ (Sub.aX (s:=.loc 9 0) (i:=4) _ rfl rfl (FT 3));exact Sub.mk (by simp[AS.cR]) (by simp[AS.cR,Wk.box,lD,aQ,aL,bJ,aW,bI,dU])
 rintro J hJ m τ ⟨k,hk,rfl,rfl⟩;have pN:=Oj (D:=D) (l:=L.take k) (st:=lD);rw[gN,Nat.min_eq_left hk]at pN;by_cases aJ:k<L.length
 .obtain⟨s,hx⟩:∃s,L[k]?=some s:=⟨L[k],bC aJ⟩;have gR:s∈L:=dL hx;have hg:(L.map PV.str)[k]?=some (.str s):=by rw[bX,hx];rfl
  have jT:L.take (k+1)=L.take k++[s]:=by rw[mR,hx];rfl
  have hinv:=Hq hN (l:=L.take k) (st:=lD) (by rw[gN];omega) h0 (fun s X9=>hs s (List.mem_of_mem_take X9));have hn:=hJ (L.length-(k+1)) _ ⟨k+1,aJ,rfl,rfl⟩;rw[jT,ZeH]at hn;have hc:=(hN _ _ s (by rw[gN];omega) hinv (hs s gR)).2;have hw:=bN (k:=k) (by omega);have h1:(dA D lD (L.take k)).2.length+1<=1000000:=by omega
  have aG:L.length-(k+1)<L.length-k:=by omega
  generalize dA D lD (L.take k)=q at hn hc h1 ⊢;obtain⟨st,es⟩:=q;dsimp only at hn hc h1 ⊢;generalize D st s=q' at hn hc;obtain⟨st',e⟩:=q';dsimp only at hn hc;simp[GV,aJ,↓hg,Wk.box,aQ];refine cM [.ptr (.par 0) 0,.pv (.str s)] [(.par 0,st.box)] 19 [.loc 9 0] (by simp[Wk.box,aQ]) hc (by simp[Wk.box,aQ]) ?_;simp[Wk.box,aQ,h1,aP,hw];exact⟨_,_,aG,Sub.mk (by simp) (by simp[Wk.box,aQ,iE]),hn⟩
 .have he:k=L.length:=by omega
  subst he;rw[mX]at pN ⊢;simp[GV,Wk.box,aQ,pN];rw[<-hR];exact⟨rfl,by simp[Wk.box,aQ]⟩
theorem Ha {f:FuncId}{n:Nat}(e b:Nat)(l:List PV)(hl:l.length<=1000000)(hL:fV prog f=some (UP e n b):=by kernel_rfl)(hb:b<=1000:=by decide)(hn:0<n:=by decide):aD prog f [.aE false n l] (.aE false n l):=by
 cases l with
 |nil=>
  refine cN.i7 ?_;refine Oy [.loc 7 0] mixed hL (tH rfl) ?_;simp[UP,dI,w8,aP,bZ,B7,hn,hb];exact fun m v h=>AK h
 |cons a l=>
  refine Oy [.loc 7 0] mixed hL (tH rfl) ?_;have h1:l.length+1<=1000000:=by simpa using hl
  have h2:l.length<=999999:=by omega
  have hm:List.take l.length l=l:=fP (fH _);simp[UP,dI,aP,h2,hm,hn,hb]
theorem ZjG (l:List PV)(hl:l.length<=1000000):aD prog 69 [.aE false 1 l] (.aE false 1 l):=Ha 3 8 l hl
theorem Zl4 (l:List PV)(hl:l.length<=1000000):aD prog 68 [.aE false 7 l] (.aE false 7 l):=Ha 88 56 l hl
theorem Zl3 (l:List PV)(hl:l.length<=1000000):aD prog 70 [.aE false 4 l] (.aE false 4 l):=Ha 89 32 l hl
theorem Zl2 (l:List PV)(hl:l.length<=1000000):aD prog 71 [.aE false 4 l] (.aE false 4 l):=Ha 90 32 l hl
theorem Zl5 (l:List PV)(hl:l.length<=1000000):aD prog 67 [.aE false 1 l] (.aE false 1 l):=Ha 4 1 l hl
def Wk.pv (w:Wk):PV:=.agg [aL w.aA,bJ w.bad,aW w.aN,bI w.aH,dU w.runs]
def Ee (w:Wk)(k:Nat):AS:=
 ⟨[(1,.ptr (.loc 1 0) 0),(2,.ptr (.loc 2 0) 0),(3,.vec (.loc 23 0) 3 0 k),(7,.pv (.aE false 3 (w.runs.map Qn.Rq.pv))),(8,.pv (.i w.runs.length)),(9,.pv (.i (k:Int)))],
  [(.loc 1 0,.cells [.pv (aL w.aA),.pv (bJ w.bad),.pv (aW w.aN),.pv (bI w.aH),.pv (dU w.runs)]),(.loc 2 0,.cells [.pv (.emp (some true)),.pv (.emp (some true)),.pv (.emp (some true)),.pv (.emp (some true)),.pv (.emp (some true))]),(.loc 23 0,.arr 91 3 ((w.runs.take k).map Qn.Rq.pv))]⟩
theorem ZqC (w:Wk)(h1:w.aA.length<=1000)(h2:w.bad.length<=1000)(h3:w.aN.length<=1000)(h4:w.aH.length<=1000)(h5:w.runs.length<=1000)(h6:∀r∈w.runs,r.on.length<=1000):aD prog 32 [w.pv] w.pv:=by
 refine Q4 [.loc 23 0] L32 ?_;intro R hR;simp[L32,Wk.pv,dU];refine eP (fun m τ=>∃k:Nat,k<=w.runs.length/\m=w.runs.length-k/\τ=Ee w k) ⟨w.runs.length,Ee w 0,Sub.trans' (Sub.mk (by simp[AS.cR]) (by simp[AS.cR,dU])) (cR 23 91 3 3 rfl (by decide)),0,gY _,rfl,rfl⟩ ?_;rintro J hJ m τ ⟨k,hk,rfl,rfl⟩;by_cases aJ:k<w.runs.length
 .obtain⟨r,hx⟩:∃r,w.runs[k]?=some r:=⟨w.runs[k],bC aJ⟩;have hg:(w.runs.map Qn.Rq.pv)[k]?=some r.pv:=by rw[bX,hx];rfl
  simp only[Qn.Rq.pv,Qn.OS]at hg;have Z2:=h6 r (dL hx);have hw:=bN (k:=k) (by omega);have hZ:k+1<=1000000:=by omega
  have QE:min k w.runs.length=k:=Nat.min_eq_left (by omega);have hn:=hJ (w.runs.length-(k+1)) _ ⟨k+1,aJ,rfl,rfl⟩;unfold Ee at hn;rw[mR,hx,mH]at hn;simp[Ee,aJ,↓hg,aP];refine cQ [] [.aE false 1 (r.on.map .bool)] (Zl5 (r.on.map .bool) (by rw[fZ];omega)) ?_;simp[-List.map_take,aM,aP,hZ,QE,hw];exact⟨_,_,(by omega:w.runs.length-(k+1)<w.runs.length-k),Sub.mk (by simp) (by simp[Qn.Rq.pv,Qn.OS]),hn⟩
 .have he:k=w.runs.length:=by omega
  subst he;have jT:w.runs.take w.runs.length=w.runs:=mX;simp[Ee,jT,aL];refine cQ [] [.aE false 7 (w.aA.map Ct.pv)] (Zl4 (w.aA.map Ct.pv) (by rw[fZ];omega)) ?_;simp[aM,bJ];refine cQ [] [.aE false 1 (w.bad.map iP)] (ZjG (w.bad.map iP) (by rw[fZ];omega)) ?_;simp[aM,aW];refine cQ [] [.aE false 4 (w.aN.map Lt.pv)] (Zl3 (w.aN.map Lt.pv) (by rw[fZ];omega)) ?_;simp[aM,bI];refine .inl (cP [.loc 23 0] [.aE false 4 (w.aH.map Tt.pv)] (by simp) (by simp[aM,AS.cH,AV.cH,AV.aY,aK.cH]) (Zl2 (w.aH.map Tt.pv) (by rw[fZ];omega)) ?_);have htr:List.take w.runs.length (w.runs.map Qn.Rq.pv)=w.runs.map Qn.Rq.pv:=fP (by simp);simp[-List.map_take,aM,AS.cH,AV.cH,AV.aY,aK.cH,AS.tidy,htr,oG,aY];rw[<-hR];exact⟨by simp[Wk.pv,aL,bJ,aW,bI,dU],by simp⟩
structure F6 (w:Wk):Prop where
 c:w.aA.length<=1000
 b:w.bad.length<=1000
 l:w.aN.length<=900
 t:w.aH.length<=900
 r:w.runs.length<=1000
 lt:∀x∈w.aN,vU x
 fit:zG w.aA w.bad w.aH
 on:∀r∈w.runs,r.on.length<=1000
theorem Nc {l:List ByteArray}(h:zC l=0):l.length<=50/\∀s∈l,s.size<=200:=by
 unfold zC at h;split at h
 .cases h
 .split at h
  .rename_i h1 h2;refine⟨by omega,fun s hs=>?_⟩
   have:=rA.1 h2 s hs
   simpa using this
  .cases h
theorem Ni {l:List ByteArray}(h:zC l≠0):zC l=3:=by
 unfold zC at h ⊢;split
 .rfl
 .split
  .rename_i h1 h2;rw[if_neg h1,if_pos h2]at h;exact absurd rfl h
  .rfl
def BF (D:Wk->ByteArray->Wk×Int)(L:List ByteArray):PV:=if zC L=0 then .bM [(dA D lD L).1.pv,.aE false 1 ((dA D lD L).2.map iE),.i 0]else .bM [lD.pv,.aE false 1 [],.i 3]
theorem Zvg {I:Nat->Wk->Prop}{D:Wk->ByteArray->Wk×Int}(hN:Fs I D)(h0:I 0 lD)(hI:∀k w,k<=50->I k w->F6 w)(L:List ByteArray)(hl:L.length<=1000000):aD prog 10 [bO L] (BF D L):=by
 have tW:=WY L hl;refine cN.i7 ?_;refine Q4 [.loc 15 1] L10 ?_;intro R hR;unfold BF at hR;by_cases hc:zC L=0
 .obtain⟨Jw,oK⟩:=Nc hc;rw[hc]at tW;have P9:=Yj hN h0 L (by omega) oK;have dD:=hI _ _ (by omega) (Hq hN (l:=L) (by omega) h0 oK);have pN:=Oj (D:=D) (l:=L) (st:=lD);rw[if_pos hc]at hR;generalize dA D lD L=q at P9 dD pN hR;obtain⟨w,es⟩:=q;dsimp only at P9 dD pN hR;have mB:=ZqC w dD.c dD.b (by have:=dD.l;omega) (by have:=dD.t;omega) dD.r dD.on;simp[L10];refine cG [bO L] tW ?_;simp;refine .inl (R4 [] (fs:=[]) (xs:=[bO L]) (cs:=[]) (d:=15) rfl rfl P9 ?_);rintro r B ⟨rfl,rfl⟩;refine⟨by simp[Wk.box,aQ],?_⟩;simp[Wk.box,aQ];have hm:List.take L.length (es.map iE)=es.map iE:=fP (by rw[fZ];omega);have hle:L.length<=es.length:=by omega
  refine .inl (cP [.loc 15 1] [w.pv] (by simp) (by simp[Wk.pv]) mB ?_);simp[Wk.pv,hm,hle];rw[<-hR];exact⟨_,rfl,by simp,fun m v h=>h⟩
 .have h3:=Ni hc;rw[h3]at tW;rw[if_neg hc]at hR;simp[L10];refine cG [bO L] tW ?_;simp;rw[<-hR];exact⟨_,rfl,rfl,KM 5 _ _ rfl⟩
def bP (l:List UInt8):List PV:=l.map fun b=>.int .u8 b.toNat
theorem Lf {l:List UInt8}:(bP l).length=l.length:=fZ _
theorem Zvb {a b:List UInt8}:bP (a++b)=bP a++bP b:=mH
theorem Zlf:∀{l:List ByteArray} {i:Nat},(∀s∈l,s.size<=200)->(kB l i).length<=216*l.length
 |[],i,_=>by simp[kB]
 |s::l,i,h=>by
  have h1:=Zlf (l:=l) (i:=i+1) (fun s hs=>h s (List.mem_cons_of_mem _ hs));have h2:=h s (List.mem_cons_self ..);simp only[kB,gD,ZkA,pA];omega
def Dt (L:List ByteArray)(F:List UInt8)(k:Nat):AS:=
 ⟨[(3,.vec (.loc 17 0) 1 0 F.length),(6,.pv (.aE false 1 (L.map .str))),(7,.pv (.i L.length)),(8,.pv (.i (k:Int)))],[(.loc 17 0,.arr 5 1 (bP F))]⟩
theorem ZuY (L:List ByteArray)(hl:L.length<=1000)(hs:∀s∈L,s.size<=200):aD prog 56 [bO L] (.aE false 1 (bP (kB L 0))):=by
 refine Q4 [.loc 17 0] L56 ?_;intro R hR;simp[L56,bO];refine eP (fun m τ=>∃k:Nat,k<=L.length/\m=L.length-k/\τ=Dt L (kB (L.take k) 0) k) ⟨L.length,Dt L [] 0,Sub.trans' (Sub.mk (by simp[AS.cR]) (by simp[AS.cR,bP])) (cR 17 5 1 3 rfl (by decide)),0,gY _,rfl,rfl⟩ ?_;rintro J hJ m τ ⟨k,hk,rfl,rfl⟩;by_cases aJ:k<L.length
 .obtain⟨s,hx⟩:∃s,L[k]?=some s:=⟨L[k],bC aJ⟩;have fI:=hs s (dL hx);have hg:(L.map PV.str)[k]?=some (.str s):=by rw[bX,hx];rfl
  have jT:L.take (k+1)=L.take k++[s]:=by rw[mR,hx];rfl
  have hn:=hJ (L.length-(k+1)) _ ⟨k+1,aJ,rfl,rfl⟩;have pN:=Zlf (l:=L.take k) (i:=0) (fun s X9=>hs s (List.mem_of_mem_take X9));have nY:=ZpB s k (by omega) (by omega);have tT:=ZkA s k;rw[jT,ZgO,gN,Nat.min_eq_left hk,rV]at hn;rw[gN,Nat.min_eq_left hk]at pN;unfold l9 at hn tT;unfold Dt at hn;rw[Zvb,gD]at hn;have Cp:bP (B5 s k).data.toList=qH (B5 s k):=rfl;have wL:(qH (B5 s k)).length=(B5 s k).data.toList.length:=Lf;rw[Cp,<-wL]at hn;rw[<-wL]at tT;generalize kB (L.take k) 0=F at hn pN ⊢;clear Cp wL;generalize B5 s k=R at hn tT nY;have hw:=bN (k:=k) (by omega);have aG:L.length-(k+1)<L.length-k:=by omega
  have h1:F.length+(qH R).length<=1000000:=by omega
  simp[Dt,aJ,↓hg];refine cG [.str s,.i k] nY ?_;simp[Lf,h1,hw,aP];exact⟨_,_,aG,Sub.mk (by simp) (by simp),hn⟩
 .have he:k=L.length:=by omega
  subst he;rw[mX];have hm:List.take (kB L 0).length (bP (kB L 0))=bP (kB L 0):=fP (by rw[Lf];exact fH _);simp[Dt,hm,Lf];rw[<-hR];exact⟨rfl,by simp⟩
def GJ (L:List ByteArray):PV:=if zC L=0 then .bM [.aE false 1 (bP (kB L 0)),.i 0]else .bM [.aE false 1 [],.i 3]
theorem Zuf (L:List ByteArray)(hl:L.length<=1000000):aD prog 29 [bO L] (GJ L):=by
 have tW:=WY L hl;refine cN.i7 ?_;refine Q4 [] L29 ?_;intro R hR;unfold GJ at hR;by_cases hc:zC L=0
 .obtain⟨Jw,oK⟩:=Nc hc;rw[hc]at tW;rw[if_pos hc]at hR;have hf:=ZuY L (by omega) oK;simp[L29];refine cG [bO L] tW ?_;simp;refine .inl (cQ [] [bO L] hf ?_);simp;rw[<-hR];exact⟨_,rfl,by simp,fun m v h=>h⟩
 .have h3:=Ni hc;rw[h3]at tW;rw[if_neg hc]at hR;simp[L29];refine cG [bO L] tW ?_;simp;rw[<-hR];exact⟨_,rfl,rfl,KM 5 _ _ rfl⟩
section
open Go.RowKit Go.ChangeShapes Go.WideShapes Go.ChangeAt Go.Deep
section
variable {H:Type}{enc:TypeId×Value->H}{W:World}{sp:Nat->Bool}{held:Bool}{r:Reach}{base:Nat}
theorem Wv:prog.cellsOf 9=1:=by kernel_rfl
theorem ZsQ {v:Value}{fuel:Nat}{x:DataW H×List MemPlace}(dD:Value.okWide prog W r base 22 v)(h:DataW.trod enc prog W 0 sp held fuel 22 v.cells.toList=some x):
  ∃L:List ByteArray,L.length<=9223372036854775807/\dH W.mem v (bO L):=by
 obtain⟨_,_,_,rfl⟩:=okWide_slice underlying22 dD;obtain⟨l,_,h1,h2⟩:=Znd (n:=1) PV.str (fun _=>True) underlying22 Wv (by omega) h (fun k cs y hy hl=>by
  obtain⟨s,rfl,_,_⟩:=DataW.trod_string underlying9 hy;exact⟨s,trivial,rfl,rfl,fun d hd=>by simp at hd;subst hd;rfl,fun j d c h1 h2=>by
   match j,h1,h2 with
   |0,h1,h2=>cases h1;cases h2;exact .str _⟩)
 exact⟨l,h1,h2⟩
end
theorem Zh0 {W:World}{n:String}{g:Nat}{d:DataW Unit}{s:String}{x:DataW Unit}(hg:prog.globalNamed n=some g)(hy:(prog.globals[g]?).map (·.type)=some 104)(hd:d=.iface s x)(h:Lib.VarReads prog W n d):∃t p,W.mem g 0=some (.iface t p):=by
 subst hd;obtain⟨g',t,cs,fuel,p,Ur,Sj,T1,hd⟩:=h;obtain rfl:=Option.some.inj (hg.symm.trans Ur);obtain rfl:=Option.some.inj (hy.symm.trans Sj);obtain⟨f1,u,v,FA,_,_⟩:=iface_of_trod underlying104 hd
 have:=World.var?_cell hg T1 0
 rw[<-O5,FA]at this;exact⟨u,v,this⟩
theorem Zsd {W : World} (h : Lib.VarReads prog W "internal/strconv.uint64pow10" Rows.laid_internal_strconv_uint64pow10) : ∃ t fr, W.heap[0]? = some (.cells (Lib.pow10Tab.map (Value.int .u64)).toArray t fr) := by
 have e:(Rows.laid_internal_strconv_uint64pow10:DataW Unit)=Lib.tabData .u64 Lib.pow10Tab:=by rfl
 rw[e]at h;obtain⟨g,t,cs,fuel,p,hg,Sj,T1,hd⟩:=h;obtain rfl := Option.some.inj ((show prog.globalNamed "internal/strconv.uint64pow10" = some 0 by kernel_rfl).symm.trans hg);obtain rfl:=Option.some.inj ((show(prog.globals[0]?).map (·.type)=some 358 by kernel_rfl).symm.trans Sj);have FA:=Lib.cells_of_tab underlying358 underlying307 (by kernel_rfl) (by kernel_rfl) hd;unfold World.var? at T1;rw[hg,Option.bind_some]at T1;split at T1
 .rename_i iI t fr hh;obtain rfl:=Option.some.inj T1;exact⟨t,fr,by rw[hh,<-FA]⟩
 .cases T1
theorem ZtH {W : World} (hs : W.ShapedOpen prog) (h5 : Lib.VarReads prog W "internal/strconv.uint64pow10" Rows.laid_internal_strconv_uint64pow10) (h1 : Lib.VarReads prog W "strconv.ErrSyntax" Rows.laid_strconv_ErrSyntax) (h2 : Lib.VarReads prog W "strconv.ErrRange" Rows.laid_strconv_ErrRange) : nJ W.mem W := by
 have h5:=Zsd h5;refine⟨Proofs.cell_of_shapedOpen_int (zero:=#[.i 0]) (t:=3) hs (of_decide_eq_true (by kernel_rfl)) (by kernel_rfl) rfl (by kernel_rfl) (by kernel_rfl) underlying3,
  Zh0 (n := "strconv.ErrSyntax") (by kernel_rfl) (by kernel_rfl) rfl h1,
  Zh0 (n := "strconv.ErrRange") (by kernel_rfl) (by kernel_rfl) rfl h2, ?_, h5⟩
 obtain⟨t,fr,h⟩:=h5;exact⟨_,(cell_of_row W _ 0 _ _ _ h).trans rfl⟩
end
section
open Go.RowKit Go.ChangeShapes Go.WideShapes Go.ChangeAt Go.Deep
theorem own:ownKnob prog.godebug=none:=by kernel_rfl
theorem LW:laidOutB prog=true:=by kernel_rfl
theorem Zrx:mapsRowed prog=true:=by kernel_rfl
theorem Ds:((List.range prog.types.size).all fun t=>match prog.underlying t with|some (.slice e)=>decide (0<prog.cellsOf e)|_=>true)=true:=by kernel_rfl
theorem ZjA {H:Type}{enc:TypeId×Value->H}{a:Assume}{C:Checked}{os:Os}{f:FuncId}{fn:Func}{s:ChangeSpec}{conds:List PathCond}{apart fresh handsOn again:Bool}{X:World->Array Value->Prop}
  (hX:∀(w w':World) (args:Array Value),w.heap=w'.heap->X w args->X w' args)
  (own:ownKnob C.prog.godebug=none) (started:os.Started) (OW:C.prog.inits.idxOf? f=none) (qC:C.prog.funcs[f]?=some fn)
  (witness:∃(w:World) (tape:Tape) (i:Input),w.os=os/\(w.forCall tape i).Shaped C.prog/\i.vars=[]/\Input.okWide C.prog (w.forCall tape i) .any w.heap.size f i/\
   ((s.pre enc C.prog fn conds apart (w.forCall tape i).memory i.args/\X (w.forCall tape i).memory i.args)/\sizedMet enc C.prog fn (OpenSpec.ofChange s) apart (w.forCall tape i).memory i.args)/\a.holds C.prog (lone (Frame.enter C.prog f i.args .normal) [] (w.forCall tape i)))
  (DK:∀(W:World) (base:Nat) (args:Array Value) (ds gs:List (DataW H)) (before:List MemPlace),
   (∀(j:Nat) t v,fn.params[j]?=some t->args[j]?=some v->Value.okWide C.prog W .any base t v)->
   DataW.Whole enc C.prog fn.params.toList s.vars apart W args.toList ds gs before->X W args->W.ShapedOpen C.prog->
   Calls C.prog f args W fun e W'=>∃v,e=.returned v/\s.post enc C.prog fn apart fresh handsOn again W args v W'):
  ReturnsInHanded a C os f .any (fun w args=>(s.pre enc C.prog fn conds apart w args/\X w args)/\sizedMet enc C.prog fn (OpenSpec.ofChange s) apart w args) (s.post enc C.prog fn apart fresh handsOn again):=by
 refine returnsInHanded_of_calls own started OW witness ?_;intro w tape i _ HQ _ dD Ta _;obtain⟨_,_,_,fn',Ut,_,_,_,_,nC⟩:=dD;have e:fn'=fn:=Option.some.inj (Ut.symm.trans qC);subst e;obtain⟨⟨⟨ds,gs,before,hw,_⟩,hx⟩,_⟩:=Ta;have HK:=DataW.Whole.of_heap (w':=w.forCall tape i) (by rfl) hw;refine(DK (w.forCall tape i) w.heap.size i.args ds gs before nC HK (hX _ _ _ (by rfl) hx) HQ).mono fun e W' ⟨v,he,hp⟩=>?_
 subst he;exact ChangeSpec.post_blind hp
end
theorem Zu0 (u:Nat):u<10^(Lib.decDigits u).length:=by
 induction u using Nat.strongRecOn with
 |_ u ih=>
  unfold Lib.decDigits;split
  .simp;omega
  .have:=ih (u / 10) (by omega)
   rw[gD,List.length_singleton,Nat.pow_succ];omega
theorem Lg (u:Nat):∀c∈Lib.decDigits u,c≠45:=by
 have hd:∀d:Fin 10,UInt8.ofNat (48+d.1)≠45:=by decide
 induction u using Nat.strongRecOn with
 |_ u ih=>
  intro c hc;unfold Lib.decDigits at hc;split at hc
  .rename_i h;rw[rW]at hc;subst hc;exact hd ⟨u,h⟩
  .rcases sG.1 hc with h|h
   .exact ih (u / 10) (by omega) c h
   .rw[rW]at h;subst h;exact hd ⟨u%10,by omega⟩
theorem ZiL (u:Nat)(h:(Lib.decDigits u).length<=9):u<1000000000:=
 Nat.lt_of_lt_of_le (Zu0 u) (Nat.pow_le_pow_right (by decide) h)
theorem Zs4 {s:ByteArray}{v:Int}(h:lL s=some v):-1000000000<v/\v<1000000000:=by
 unfold lL at h;split at h
 .split at h
  .rename_i u _ hc;cases h;obtain⟨h1,h2⟩:=hc;subst h1;have h3:(Lib.trimPrefix (Lib.itoa v) [45]).length<=9:=h2;by_cases Tl:v<0
   .obtain⟨k,rfl⟩:∃k:Nat,v = -(k:Int):=⟨v.natAbs,by omega⟩;rw[Lib.itoa_neg k (by omega)]at h3;have h4:Lib.trimPrefix (45::Lib.decDigits k) [45]=Lib.decDigits k:=by simp[Lib.trimPrefix,Lib.hasPrefix]
    rw[h4]at h3
    have:=ZiL k h3
    omega
   .obtain⟨k,rfl⟩:∃k:Nat,v=(k:Int):=⟨v.toNat,by omega⟩;rw[Lib.itoa_nonneg]at h3;have h4:Lib.trimPrefix (Lib.decDigits k) [45]=Lib.decDigits k:=by
     have mK:=Lg k;cases hd:Lib.decDigits k with
     |nil=>rfl
     |cons c r=>
      have hc:c≠45:=mK c (by rw[hd];exact List.mem_cons_self ..);simp[Lib.trimPrefix,Lib.hasPrefix]
      try exact fun e=>absurd e.symm hc
    rw[h4]at h3
    have:=ZiL k h3
    omega
  .cases h
 .cases h

def HG (w:Wk)(n:Int)(t:Tt):Bool:=stM w.aA w.bad t.item t.day&&!stM w.aA (w.bad++[n]) t.item t.day
def J1 (w:Wk)(n:Int):Nat->List Int
 |0=>[]
 |k+1=>J1 w n k++(match w.aH[k]? with
  |some t=>if HG w n t=true then[(k:Int)]else[]
  |none=>[])
theorem Zka {w:Wk}{n:Int}{k:Nat}{t:Tt}(h:w.aH[k]?=some t):J1 w n (k+1)=J1 w n k++(if HG w n t=true then[(k:Int)]else[]):=by
 rw[J1,h]
theorem Zi6 {w:Wk}{n:Int}:∀{k:Nat},(J1 w n k).length<=k
 |0=>fH _
 |k+1=>by
  have ih:=Zi6 (w:=w) (n:=n) (k:=k);rw[J1,gD];split
  .split<;>simp<;>omega
  .simp;omega
def kn (w:Wk)(n:Int):Bool:=w.aA.any fun x=>decide (x.num=n)
def j7 (D:Wk->ByteArray->Wk×Int)(L:List ByteArray)(n:Int):PV:=if zC L=0 then(if kn (dA D lD L).1 n=true then .bM [.aE false 1 ((J1 (dA D lD L).1 n (dA D lD L).1.aH.length).map iP),.i 0]else .bM [.aE false 1 [],.i 7])else .bM [.aE false 1 [],.i 3]
def OZ (w:Wk)(n:Int):aK:=aQ (aL w.aA) (bJ (w.bad++[n])) (aW w.aN) (bI w.aH) (dU w.runs)
def Iv (w:Wk)(n:Int)(l:List Int)(k:Nat):AS:=
 ⟨[(7,.ptr (.loc 20 0) 0),(9,.ptr (.loc 32 0) 0),(10,.vec (.loc 67 0) 1 0 l.length),(48,.pv (.aE false 4 (w.aH.map Tt.pv))),(49,.pv (.i w.aH.length)),(50,.pv (.i (k:Int)))],
  [(.loc 20 0,w.box),(.loc 32 0,OZ w n),(.loc 67 0,.arr 3 1 (l.map iP))]⟩
theorem Zj5 {I:Nat->Wk->Prop}{D:Wk->ByteArray->Wk×Int}(hN:Fs I D)(h0:I 0 lD)(hI:∀k w,k<=50->I k w->F6 w)(L:List ByteArray)(hl:L.length<=1000000)(n:Int)(hb9:∀k w,k<=50->I k w->w.bad.length<=900):aD prog 16 [bO L,.i n] (j7 D L n):=by
 have tW:=WY L hl;refine cN.i7 ?_;refine Q4 [.loc 67 0] L16 ?_;intro R hR;unfold j7 at hR;by_cases hc:zC L=0
 .obtain⟨Jw,oK⟩:=Nc hc;rw[hc]at tW;have P9:=Yj hN h0 L (by omega) oK;have fW:=Hq hN (l:=L) (by omega) h0 oK;have dD:=hI _ _ (by omega) fW;have Vh:=hb9 _ _ (by omega) fW;clear fW;rw[if_pos hc]at hR;generalize dA D lD L=q at P9 dD hR Vh;obtain⟨w,es⟩:=q;dsimp only at P9 dD hR Vh;have hto:=dD.t;have uS:=Zf w.aA n (bJ w.bad) (aW w.aN) (bI w.aH) (dU w.runs) dD.c;have mA:(w.aA.any fun x=>decide (x.num=n))=kn w n:=rfl;rw[mA]at uS;clear mA;simp[L16];refine cG [bO L] tW ?_;simp;refine .inl (R4 [] (fs:=[]) (xs:=[bO L]) (cs:=[]) (d:=20) rfl rfl P9 ?_);rintro r B ⟨rfl,rfl⟩;refine⟨by simp[Wk.box,aQ],?_⟩;simp[Wk.box,aQ];refine cM [.ptr (.par 0) 0,.pv (.i n)] [(.par 0,aQ (aL w.aA) (bJ w.bad) (aW w.aN) (bI w.aH) (dU w.runs))] 25 [.loc 20 0] (by simp[aQ]) uS (by simp[aQ]) ?_;cases hkv:kn w n with
  |false=>
   rw[hkv,if_neg (by simp)]at hR;simp[aQ];rw[<-hR];exact⟨_,rfl,by simp,KM 5 _ _ rfl⟩
  |true=>
  rw[hkv,if_pos rfl]at hR;simp[aQ,bJ];refine .inl (cQ [] [.aE false 1 (w.bad.map iP),.i n] (Zl8 (w.bad.map iP) n (by rw[fZ];omega)) ?_);have H4:w.bad.map iP++[.i n]=(w.bad++[n]).map iP:=by rw[mH];rfl
  rw[H4];have DG:(w.bad++[n]).length<=1000:=by rw[gD];simp;omega
  simp[-List.map_append,bI];refine eP (fun m τ=>∃k:Nat,k<=w.aH.length/\m=w.aH.length-k/\τ=Iv w n (J1 w n k) k) ⟨w.aH.length,Iv w n [] 0,Sub.trans' (Sub.mk (by simp[AS.cR]) (by simp[-List.map_append,OZ,AS.cR,Wk.box,aQ,bI,bJ,aL])) (cR 67 3 1 10 rfl (by decide)),0,gY _,rfl,rfl⟩ ?_;rintro J hJ m τ ⟨k,hk,rfl,rfl⟩;by_cases aJ:k<w.aH.length
  .obtain⟨t,hx⟩:∃t,w.aH[k]?=some t:=⟨w.aH[k],bC aJ⟩;have hg:(w.aH.map Tt.pv)[k]?=some t.pv:=by rw[bX,hx];rfl
   simp only[Tt.pv]at hg;have G7:=Gy w.aA w.bad (aW w.aN) (bI w.aH) (dU w.runs) dD.c dD.b t.fU t.item t.day t.rd;have oK:=Gy w.aA (w.bad++[n]) (aW w.aN) (bI w.aH) (dU w.runs) dD.c DG t.fU t.item t.day t.rd;have e1:decide (((fD w.aA w.bad).j3 t.item t.day).2=0)=stM w.aA w.bad t.item t.day:=rfl;have e2:decide (((fD w.aA (w.bad++[n])).j3 t.item t.day).2=0)=stM w.aA (w.bad++[n]) t.item t.day:=rfl;rw[e1]at G7;rw[e2]at oK;have hw:=bN (k:=k) (by omega);have y2:=Zi6 (w:=w) (n:=n) (k:=k);have h1:(J1 w n k).length+1<=1000000:=by omega
   have hn:=hJ (w.aH.length-(k+1)) _ ⟨k+1,aJ,rfl,rfl⟩;rw[Zka hx]at hn;unfold HG at hn;have aG:w.aH.length-(k+1)<w.aH.length-k:=by omega
   clear e1 e2 hJ;generalize J1 w n k=RL at hn h1 ⊢;generalize stM w.aA w.bad t.item t.day=a1 at hn G7;generalize stM w.aA (w.bad++[n]) t.item t.day=a2 at hn oK;simp[-List.map_append,Iv,OZ,Wk.box,aQ,bI,aJ,↓hg,aP];refine cM [.ptr (.par 0) 0,.pv (.agg [.i t.fU,.i t.item,.i t.day,.i t.rd])] [(.par 0,aQ (aL w.aA) (bJ w.bad) (aW w.aN) (bI w.aH) (dU w.runs))] 57 [.loc 20 0] (by simp[aQ,bJ,bI]) G7 (by simp[aQ]) ?_;cases a1 with
   |false=>
    rw[if_neg (by simp),tG]at hn;simp[-List.map_append,aQ,hw];exact⟨_,_,aG,Sub.mk (by simp) (by simp[-List.map_append,OZ,Wk.box,aQ,bI,bJ]),hn⟩
   |true=>
    simp[-List.map_append,aQ];refine cM [.ptr (.par 0) 0,.pv (.agg [.i t.fU,.i t.item,.i t.day,.i t.rd])] [(.par 0,aQ (aL w.aA) (bJ (w.bad++[n])) (aW w.aN) (bI w.aH) (dU w.runs))] 61 [.loc 32 0] (by simp[-List.map_append,aQ,bJ,bI]) oK (by simp[aQ]) ?_;cases a2 with
    |false=>
     rw[if_pos (by simp)]at hn;simp[-List.map_append,aQ,h1,aP,hw];exact⟨_,_,aG,Sub.mk (by simp) (by simp[-List.map_append,OZ,Wk.box,aQ,bI,bJ];simp[iP]),hn⟩
    |true=>
     rw[if_neg (by simp),tG]at hn;simp[-List.map_append,aQ,hw];exact⟨_,_,aG,Sub.mk (by simp) (by simp[-List.map_append,OZ,Wk.box,aQ,bI,bJ]),hn⟩
  .have he:k=w.aH.length:=by omega
   subst he;have hm:List.take (J1 w n w.aH.length).length ((J1 w n w.aH.length).map iP)=(J1 w n w.aH.length).map iP:=fP (by simp);simp[-List.map_append,Iv,OZ,Wk.box,aQ,hm];rw[<-hR];exact⟨_,rfl,by simp,fun m v h=>h⟩
 .have h3:=Ni hc;rw[h3]at tW;rw[if_neg hc]at hR;simp[L16];refine cG [bO L] tW ?_;simp;rw[<-hR];exact⟨_,rfl,rfl,KM 5 _ _ rfl⟩
def Wk.next (st:Wk)(r:Except Int Wk):Wk×Int:=match r with
 |.ok w=>(w,0)
 |.error e=>(st,e)
def uD (r:Except Int Wk)(a b c d e:PV):Prop:=∃w,r=.ok w/\aQ a b c d e=w.box
theorem ZrZ {f:FuncId}{xs:List AV}{B:List (Site×aK)}{r:Except Int Wk}(h:sY prog f xs B (yB (uD r)) (uR (fun e=>r=.error e))):
  cN prog f xs B (yB (uD r))\/u9 prog f xs B (uR (fun e=>r=.error e)):=by
 cases r with
 |ok w=>exact .inl (h.ret (fun x B' ⟨n,_,h1,_⟩=>by cases h1))
 |error e=>exact .inr (h.B6 (fun r B' ⟨_,a,b,c,d,e',_,w,h1,_⟩=>by cases h1))
theorem ZuG (st:Wk)(s:ByteArray)(r:Except Int Wk)(hl:sY prog 101 [.ptr (.par 0) 0,.pv (.str s)] [(.par 0,st.box)] (yB (uD r)) (uR (fun e=>r=.error e))):
  cN prog 55 [.ptr (.par 0) 0,.pv (.str s)] [(.par 0,st.box)] (fun x B=>x=.pv (.i (st.next r).2)/\B=[(.par 0,(st.next r).1.box)]):=by
 cases r with
 |ok w=>
  refine Zs7 ((hl.ret (fun x B' ⟨n,_,h1,_⟩=>by cases h1)).mono ?_);rintro x B ⟨rfl,a,b,c,d,e,rfl,w',h1,h2⟩;cases h1;exact⟨rfl,by rw[h2];rfl⟩
 |error n=>
  refine Zs8 ((hl.B6 (fun r B' ⟨_,a,b,c,d,e',_,w,h1,_⟩=>by cases h1)).mono ?_);rintro x B ⟨m,rfl,h1,a,b,c,d,e,rfl⟩;cases h1;exact⟨rfl,a,b,c,d,e,rfl⟩
def pW (tF:FuncId->List Int->Except Int Wk)(s:ByteArray):Except Int Wk:=match O8 s with
 |none=>.error 4
 |some (g,nums)=>tF g nums
theorem ZuO (st:Wk)(tF:FuncId->List Int->Except Int Wk)(s:ByteArray)(hs:s.size<=1000)
  (hw:∀g nums,O8 s=some (g,nums)->sY prog g [.ptr (.par 0) 0,.pv (.aE false 1 (nums.map iP))] [(.par 0,st.box)] (yB (uD (tF g nums))) (uR (fun e=>tF g nums=.error e))):
  sY prog 101 [.ptr (.par 0) 0,.pv (.str s)] [(.par 0,st.box)] (yB (uD (pW tF s))) (uR (fun e=>pW tF s=.error e)):=by
 refine ZuN s hs (fun h=>?_) (fun g nums h=>?_)
 .unfold pW;rw[h]
 .have e:pW tF s=tF g nums:=by unfold pW;rw[h]
  rw[e];exact ZrZ (hw g nums h)
theorem ZuA (st:Wk)(n:Int)(hn:-1000000000<n/\n<1000000000)(h:F6 st)(hs:(st.aN.map Lt.num).Pairwise (·<·)):
  sY prog 191 [.ptr (.par 0) 0,.pv (.aE false 1 [iP n])] [(.par 0,st.box)] (yB (uD ((jI (cW st.aA st.bad st.aH) st.aN n).map fun l=>{ st with aN:=l }))) (uR (fun e=>(jI (cW st.aA st.bad st.aH) st.aN n).map (fun l=>{ st with aN:=l })=.error e)):=by
 refine(Zuz st.aA st.bad st.aN st.aH (dU st.runs) n hn h.c h.b h.l h.t hs h.lt h.fit).mono ?_ ?_
 .rintro r B ⟨rfl,a,b,c,d,e,rfl,l',h1,rfl,rfl,rfl,rfl,rfl⟩;exact⟨rfl,_,_,_,_,_,rfl,{ st with aN:=l' },by rw[h1];rfl,rfl⟩
 .rintro x B ⟨m,rfl,h1,h2⟩;exact⟨m,rfl,by rw[h1];rfl,h2⟩
theorem Zui (st:Wk)(q:Tt)(hn:-1000000000<q.fU/\q.fU<1000000000)(h:F6 st)(hs:(st.aN.map Lt.num).Pairwise (·<·)):
  sY prog 190 [.ptr (.par 0) 0,.pv (.aE false 1 [iP q.fU,iP q.item,iP q.day,iP q.rd])] [(.par 0,st.box)] (yB (uD ((kO (stM st.aA st.bad) (cW st.aA st.bad st.aH) st.aN st.aH q).map fun l=>{ st with aH:=l }))) (uR (fun e=>(kO (stM st.aA st.bad) (cW st.aA st.bad st.aH) st.aN st.aH q).map (fun l=>{ st with aH:=l })=.error e)):=by
 refine(Zuh st.aA st.bad st.aN st.aH (dU st.runs) q hn h.c h.b h.l h.t hs h.lt h.fit).mono ?_ ?_
 .rintro r B ⟨rfl,a,b,c,d,e,rfl,l',h1,rfl,rfl,rfl,rfl,rfl⟩;exact⟨rfl,_,_,_,_,_,rfl,{ st with aH:=l' },by rw[h1];rfl,rfl⟩
 .rintro x B ⟨m,rfl,h1,h2⟩;exact⟨m,rfl,by rw[h1];rfl,h2⟩
theorem Zu4 (st:Wk)(x:Ct)(hl:st.aA.length<=900)(hb:st.bad.length<=1000):
  sY prog 187 [.ptr (.par 0) 0,.pv (.aE false 1 [iP x.num,iP x.it,iP x.src,iP x.day,iP x.valid,iP x.diff.lo,iP x.diff.hi])] [(.par 0,st.box)] (yB (uD ((lX st.aA st.bad x).map fun l=>{ st with aA:=l }))) (uR (fun e=>(lX st.aA st.bad x).map (fun l=>{ st with aA:=l })=.error e)):=by
 refine(Zu3 st.aA st.bad (aW st.aN) (bI st.aH) (dU st.runs) x hl hb).mono ?_ ?_
 .rintro r B ⟨rfl,a,b,c,d,e,rfl,l',h1,rfl,rfl,rfl,rfl,rfl⟩;exact⟨rfl,_,_,_,_,_,rfl,{ st with aA:=l' },by rw[h1];rfl,rfl⟩
 .rintro x B ⟨m,rfl,h1,h2⟩;exact⟨m,rfl,by rw[h1];rfl,h2⟩
theorem YU {F:Nat}(hF:407<F)(st:Wk)(h r o:Int)(hr:st.runs.length<=900):
  sY prog 192 [.ptr (.par 0) 0,.pv (.aE false 1 [iP h,iP r,iP o])] [(.par 0,st.box)] (yB (uD ((runM F st.runs h r o).map fun l=>{ st with runs:=l }))) (uR (fun e=>(runM F st.runs h r o).map (fun l=>{ st with runs:=l })=.error e)):=by
 refine(YT hF st.runs (aL st.aA) (bJ st.bad) (aW st.aN) (bI st.aH) h r o hr).mono ?_ ?_
 .rintro r' B ⟨rfl,a,b,c,d,e,rfl,l',h1,rfl,rfl,rfl,rfl,rfl⟩;exact⟨rfl,_,_,_,_,_,rfl,{ st with runs:=l' },by rw[h1];rfl,rfl⟩
 .rintro x B ⟨m,rfl,h1,h2⟩;exact⟨m,rfl,by rw[h1];rfl,h2⟩
def JV (v:Int):Prop:=-1000000000<v/\v<1000000000
theorem Zhm:∀{r:List ByteArray} {l:List Int},mJ r=some l->l.length=r.length/\∀v∈l,JV v
 |[],l,h=>by cases h;exact⟨rfl,fun v hv=>by cases hv⟩
 |x::r,l,h=>by
  rw[Nu]at h;cases hx:lL x with
  |none=>rw[hx]at h;cases h
  |some n=>
   rw[hx]at h;obtain⟨l',h1,rfl⟩:=eA.1 h;obtain⟨h2,h3⟩:=Zhm h1;refine⟨by rw[pA,pA,h2],fun v hv=>?_⟩;rcases jO.1 hv with rfl|hv
   .exact Zs4 hx
   .exact h3 v hv
theorem ZsW {s:ByteArray}{g:FuncId}{nums:List Int}(h:O8 s=some (g,nums)):∃l0 k,gU l0=some (k,g)/\nums.length=k/\∀v∈nums,JV v:=by
 unfold O8 at h;split at h
 .cases h
 .rename_i l0 r _;split at h
  .rename_i k g' hw;split at h
   .rename_i hr;obtain⟨l,h1,h2⟩:=eA.1 h;cases h2;obtain⟨h3,h4⟩:=Zhm h1;exact⟨l0,k,hw,by omega,h4⟩
   .cases h
  .cases h
def pR (l:List Ct)(bad:List Int)(n:Int):Except Int (List Int):=
 if(l.any fun y=>decide (y.num=n))=true then(if n∈bad then .error 6 else .ok (bad.take (dJ bad n)++n::bad.drop (dJ bad n)))else .error 7
def pK (ls:List Lt)(x:Lt):Except Int (List Lt):=
 if(decide (1<=x.num)&&decide (x.num<=99))=true/\(decide (4<=x.pieces)&&decide (x.pieces<=30))=true/\(decide (0<=x.limit)&&decide (x.limit<=1000))=true then
  (if x.num∈ls.map Lt.num then .error 6 else .ok (ls.take (dJ (ls.map Lt.num) x.num)++x::ls.drop (dJ (ls.map Lt.num) x.num)))
 else .error 2
def tF (F:Nat)(st:Wk)(g:FuncId)(nums:List Int):Except Int Wk:=
 if g=187 then(match nums with
  |[a,b,c,d,e,f,h]=>(lX st.aA st.bad { num:=a,it:=b,src:=c,day:=d,valid:=e,diff:=⟨f,h⟩}).map fun l=>{ st with aA:=l }
  |_=>.error 4)
 else if g=188 then(match nums with
  |[n]=>(pR st.aA st.bad n).map fun l=>{ st with bad:=l }
  |_=>.error 4)
 else if g=189 then(match nums with
  |[n,p,m]=>(pK st.aN ⟨n,p,m,false⟩).map fun l=>{ st with aN:=l }
  |_=>.error 4)
 else if g=190 then(match nums with
  |[a,b,c,d]=>(kO (stM st.aA st.bad) (cW st.aA st.bad st.aH) st.aN st.aH ⟨a,b,c,d⟩).map fun l=>{ st with aH:=l }
  |_=>.error 4)
 else if g=191 then(match nums with
  |[n]=>(jI (cW st.aA st.bad st.aH) st.aN n).map fun l=>{ st with aN:=l }
  |_=>.error 4)
 else(match nums with
  |[h,r,o]=>(runM F st.runs h r o).map fun l=>{ st with runs:=l }
  |_=>.error 4)
def EL (st:Wk):Prop:=∀n,JV n->sY prog 188 [.ptr (.par 0) 0,.pv (.aE false 1 [iP n])] [(.par 0,st.box)] (yB (uD ((pR st.aA st.bad n).map fun l=>{ st with bad:=l }))) (uR (fun e=>(pR st.aA st.bad n).map (fun l=>{ st with bad:=l })=.error e))
def EK (st:Wk):Prop:=∀n p m,JV n->JV p->JV m->sY prog 189 [.ptr (.par 0) 0,.pv (.aE false 1 [iP n,iP p,iP m])] [(.par 0,st.box)] (yB (uD ((pK st.aN ⟨n,p,m,false⟩).map fun l=>{ st with aN:=l }))) (uR (fun e=>(pK st.aN ⟨n,p,m,false⟩).map (fun l=>{ st with aN:=l })=.error e))
theorem Wr {F:Nat}(hF:407<F)(st:Wk)(h:F6 st)(hc:st.aA.length<=900)(hr:st.runs.length<=900)(hs:(st.aN.map Lt.num).Pairwise (·<·))(hB:EL st)(hL:EK st){l0:ByteArray}{k:Nat}{g:FuncId}{nums:List Int}(hw:gU l0=some (k,g))(hk:nums.length=k)(hn:∀v∈nums,JV v):
  sY prog g [.ptr (.par 0) 0,.pv (.aE false 1 (nums.map iP))] [(.par 0,st.box)] (yB (uD (tF F st g nums))) (uR (fun e=>tF F st g nums=.error e)):=by
 unfold gU at hw;split at hw
 .cases hw
  match nums,hk,hn with
  |[a,b,c,d,e,f,i],_,_=>exact Zu4 st { num:=a,it:=b,src:=c,day:=d,valid:=e,diff:=⟨f,i⟩} hc h.b
 split at hw
 .cases hw
  match nums,hk,hn with
  |[n],_,hn=>exact hB n (hn n (by simp))
 split at hw
 .cases hw
  match nums,hk,hn with
  |[n,p,m],_,hn=>exact hL n p m (hn n (by simp)) (hn p (by simp)) (hn m (by simp))
 split at hw
 .cases hw
  match nums,hk,hn with
  |[a,b,c,d],_,hn=>exact Zui st ⟨a,b,c,d⟩ (hn a (by simp)) h hs
 split at hw
 .cases hw
  match nums,hk,hn with
  |[n],_,hn=>exact ZuA st n (hn n (by simp)) h hs
 split at hw
 .cases hw
  match nums,hk,hn with
  |[a,r,o],_,_=>exact YU hF st a r o hr
 cases hw
def lI (F:Nat)(st:Wk)(s:ByteArray):Wk×Int:=st.next (pW (tF F st) s)
theorem Dx {F:Nat}(hF:407<F)(st:Wk)(s:ByteArray)(hz:s.size<=1000)(h:F6 st)(hc:st.aA.length<=900)(hr:st.runs.length<=900)(hs:(st.aN.map Lt.num).Pairwise (·<·))(hB:EL st)(hL:EK st):
  cN prog 55 [.ptr (.par 0) 0,.pv (.str s)] [(.par 0,st.box)] (fun x B=>x=.pv (.i (lI F st s).2)/\B=[(.par 0,(lI F st s).1.box)]):=
 ZuG st s _ (ZuO st _ s hz fun g nums hp=>by
  obtain⟨l0,k,h1,h2,h3⟩:=ZsW hp;exact Wr hF st h hc hr hs hB hL h1 h2 h3)
section
attribute [local irreducible] Bk.held Bk.nums Bk.iA
set_option linter.unusedSimpArgs false
theorem Zty (b:Bk)(hb:b.ok)(c:Ct)(hc:c∈b.aA)(bad held:List Int)(h1:bad.length<=1000000)(h2:held.length<=1000000):aD prog 97 [b.pv,c.pv,.aE false 1 (bad.map aO),.aE false 1 (held.map aO)] (.bool (b.Q9 bad held c)):=by
 obtain⟨_,_,_,_,_,s0,s1,_⟩:=xC hb hc;obtain⟨j,hj,xL,z,hz,E7,qA⟩:=Mk s0 s1;have gO:=hb.c;obtain⟨P,hP⟩:∃P:Ct->Bool,P=fun o=>zD c o&&held.contains o.num:=⟨_,rfl⟩
 have hT:b.Q9 bad held c=((z.gV||(b.aA.take b.aA.length).any P)&&!bad.contains c.num):=by
  rw[mX,hP,<-E7];rfl
 rw[hT];clear hT;refine cS L97 ?_;simp[-getElem?_pos,-List.getElem?_map,-List.take_length,L97,Bk.pv,aT,aL,Ct.pv,hj,xL,qA];refine eP (fun n τ=>∃k:Nat,k<=b.aA.length/\n=b.aA.length-k/\τ=⟨[(2,.pv (.aE false 1 (bad.map aO))),(3,.pv (.aE false 1 (held.map aO))),(4,.ptr (.loc 4 0) 0),(5,.ptr (.loc 5 0) 0),(9,.pv (.bool (z.gV||(b.aA.take k).any P))),(10,.pv (.i k))],[(.loc 4 0,.cells b.cells),(.loc 5 0,.cells c.cells)]⟩)
  ⟨b.aA.length,⟨[(2,.pv (.aE false 1 (bad.map aO))),(3,.pv (.aE false 1 (held.map aO))),(4,.ptr (.loc 4 0) 0),(5,.ptr (.loc 5 0) 0),(9,.pv (.bool (z.gV||(b.aA.take 0).any P))),(10,.pv (.i 0))],[(.loc 4 0,.cells b.cells),(.loc 5 0,.cells c.cells)]⟩,Sub.mk (by simp) (by simp[Bk.cells,aT,aL,Ct.cells,hj]),0,by omega,rfl,rfl⟩ ?_
 rintro J hJ n τ ⟨k,hk,rfl,rfl⟩;by_cases aJ:k<b.aA.length
 .obtain⟨o,ho,M4,qB⟩:=zV aJ;have hw:=bN (k:=k) (by omega);have aB:=hJ _ _ ⟨k+1,aJ,rfl,rfl⟩;rw[XD ho,<-Bool.or_assoc]at aB;have aG:b.aA.length-(k+1)<b.aA.length-k:=by omega
  have hr:=ZsP c o (Zei hb M4);have hh:=wN held o.num h2;have H6:P o=(zD c o&&held.contains o.num):=by rw[hP]
  clear hJ hP;generalize(z.gV||(b.aA.take k).any P)=A at *;cases A
  case true=>
   simp[Bk.cells,aT,aL,Ct.cells,aJ,qB,hw];exact⟨_,_,aG,Sub.mk (by simp) (by simp[Bk.cells,aT,aL,Ct.cells]),aB⟩
  case false=>
  simp[-getElem?_pos,-List.getElem?_map,Bk.cells,aT,aL,Ct.cells,aJ,qB,hw];refine AN (k:=0) (fs:=[]) (xs:=[c.pv,o.pv]) (cs:=[]) rfl rfl hr rfl ?_;cases e1:zD c o
  .rw[e1,Bool.false_and]at H6;rw[H6]at aB;simp[Bk.cells,aT,aL,Ct.cells,aJ,qB,hw];exact⟨_,_,aG,Sub.mk (by simp) (by simp[Bk.cells,aT,aL,Ct.cells]),aB⟩
  rw[e1,Bool.true_and]at H6;rw[H6]at aB;simp[-getElem?_pos,-List.getElem?_map,Bk.cells,aT,aL,Ct.cells,aJ,qB,hw];refine cG [.aE false 1 (held.map aO),.i o.num] hh ?_;simp[Bk.cells,aT,aL,Ct.cells,aJ,qB,hw];exact⟨_,_,aG,Sub.mk (by simp) (by simp[Bk.cells,aT,aL,Ct.cells]),aB⟩
 have he:k=b.aA.length:=by omega
 subst he;clear hJ;have hh:=wN bad c.num h1;generalize(z.gV||(b.aA.take b.aA.length).any P)=A at *;cases A
 .simp[Bk.cells,aT,aL,Ct.cells]
 simp[Bk.cells,aT,aL,Ct.cells];refine cG [.aE false 1 (bad.map aO),.i c.num] hh ?_;simp
end
section
theorem ZfY {b:Bk}{bad:List Int}:∀k,(b.iA bad k).length<=k
 |0=>fH _
 |k+1=>by
  rw[Hf,gD]
  have:=ZfY (b:=b) (bad:=bad) k
  split<;>simp<;>omega
theorem ZiE {b:Bk}(hb:b.ok){bad:List Int}:b.iA bad 1=[]:=by
 have h0:b.iA bad 0=[]:=rfl;rw[Hf,h0,if_neg]
 .rfl
 rw[Bool.not_eq_true,List.any_eq_false];intro c hc
 have:=(xC hb hc).1
 simp;omega
attribute [local irreducible] Bk.held Bk.nums Bk.iA
def nB (b:Bk)(bad:List Int)(n:Nat):AS:=⟨[(1,.pv (.aE false 1 (bad.map aO))),(2,.ptr (.loc 2 0) 0),(5,.vec (.loc 46 0) 1 0 (b.iA bad n).length),(6,.pv (.i n))],[(.loc 46 0,.arr 3 1 ((b.iA bad n).map aO)),(.loc 2 0,.cells b.cells)]⟩
def B3 (b:Bk)(bad:List Int)(n:Nat)(is:Bool)(i:Nat):AS:=⟨(7,.pv (.bool is))::(8,.pv (.i i))::(nB b bad n).tm,(nB b bad n).bx⟩
theorem ZsL (b:Bk)(hb:b.ok)(bad:List Int)(h1:bad.length<=1000000):cN prog 50 ([b.pv,.aE false 1 (bad.map aO)].map .pv) [] (fun r B=>r=.pv (.aE false 1 ((b.held bad).map aO))/\B=[]):=by
 have gO:=hb.c;refine cF [.loc 46 0] L50 ?_;have hHB:b.held bad=b.iA bad 1000:=by unfold Bk.held;rfl
 rw[hHB];generalize hR:(fun(r:AV) (B:List (Site×aK))=>r=.pv (.aE false 1 ((b.iA bad 1000).map aO))/\B=[])=R;simp[L50,Bk.pv];refine eP (fun m τ=>∃n:Nat,n<=1000/\m=1000-n/\τ=nB b bad n) ⟨999,nB b bad 1,Sub.trans' (Sub.mk (by simp[AS.cR,ZiE hb]) (by simp[AS.cR,Bk.cells,ZiE hb])) (cR 46 3 1 5 rfl (by decide)),1,by omega,rfl,rfl⟩ ?_;rintro J hJ m τ ⟨n,hn,rfl,rfl⟩;have HU:=ZfY (b:=b) (bad:=bad) n;by_cases aJ:n<1000
 .have hw:IntKind.i64.wrap ((n:Int)+1)=((n+1:Nat):Int):=bN (by omega);have hle:decide ((n:Int)<=999)=true:=by simp;omega
  have aB:=hJ _ _ ⟨n+1,aJ,rfl,rfl⟩;have aG:1000-(n+1)<1000-n:=by omega
  obtain⟨P,hP⟩:∃P:Ct->Bool,P=fun o=>decide (o.num=(n:Int))&&b.Q9 bad (b.iA bad n) o:=⟨_,rfl⟩
  have eK:b.iA bad (n+1)=b.iA bad n++(if(b.aA.take b.aA.length).any P=true then[(n:Int)]else[]):=by
   rw[Hf,mX,hP]
  clear hJ;simp[-List.take_length,-decide_eq_true_eq,-decide_eq_false_iff_not,nB,Bk.cells,hle];refine eP (fun m τ=>∃i:Nat,i<=b.aA.length/\m=b.aA.length-i/\τ=B3 b bad n ((b.aA.take i).any P) i) ⟨b.aA.length,B3 b bad n ((b.aA.take 0).any P) 0,Sub.mk (by simp[nB]) (by simp[nB,Bk.cells]),0,by omega,rfl,rfl⟩ ?_;rintro J2 uT m τ ⟨i,hi,rfl,rfl⟩;by_cases kH:i<b.aA.length
  .obtain⟨o,ho,M4,qB⟩:=zV kH;have CA:=bN (k:=i) (by omega);have cC:=uT _ _ ⟨i+1,kH,rfl,rfl⟩;rw[XD ho]at cC;have iH:b.aA.length-(i+1)<b.aA.length-i:=by omega
   have hh:=Zty b hb o M4 bad (b.iA bad n) h1 (by omega);have H6:P o=(decide (o.num=(n:Int))&&b.Q9 bad (b.iA bad n) o):=by rw[hP]
   clear uT hP aB eK;generalize hA:(b.aA.take i).any P=A at *;have hU:((b.iA bad n).map aO).take (b.iA bad n).length=(b.iA bad n).map aO:=fP (by simp);cases A
   case true=>
    simp[B3,nB,Bk.cells,aT,aL,kH,CA];exact⟨_,_,iH,Sub.mk (by simp[nB]) (by simp[nB,Bk.cells,aT,aL]),cC⟩
   case false=>
   cases e1:decide (o.num=(n:Int))
   .rw[e1,Bool.false_and]at H6;rw[H6]at cC;simp[-getElem?_pos,-List.getElem?_map,-decide_eq_true_eq,-decide_eq_false_iff_not,B3,nB,Bk.cells,aT,aL,kH,qB,CA,e1];exact⟨_,_,iH,Sub.mk (by simp[B3,nB]) (by simp[B3,nB,Bk.cells,aT,aL]),cC⟩
   rw[e1,Bool.true_and]at H6;rw[H6]at cC;simp[-getElem?_pos,-List.getElem?_map,-decide_eq_true_eq,-decide_eq_false_iff_not,B3,nB,Bk.cells,aT,aL,kH,qB,e1];refine gG (k:=0) (fs:=[]) (xs:=[b.pv,o.pv,.aE false 1 (bad.map aO),.aE false 1 ((b.iA bad n).map aO)]) (cs:=[]) rfl (by simp[jF,AV.snap,AV.FM,Bk.pv,aT,aL,Ct.pv,hU]) hh rfl ?_;simp[CA];exact⟨_,_,iH,Sub.mk (by simp[nB]) (by simp[nB,Bk.cells,aT,aL]),cC⟩
  have he:i=b.aA.length:=by omega
  subst he;clear uT hP;generalize(b.aA.take b.aA.length).any P=A at *;cases A
  .rw[if_neg (by simp),tG]at eK;simp[B3,nB,Bk.cells,aT,aL,hw];exact⟨_,_,aG,Sub.mk (by simp[eK]) (by simp[Bk.cells,aT,aL,eK]),aB⟩
  .rw[if_pos rfl]at eK;have D7:(b.iA bad n).length<=999999:=by omega
   have hU:((b.iA bad n).map aO).take (b.iA bad n).length=(b.iA bad n).map aO:=fP (by simp);simp[B3,nB,Bk.cells,aT,aL,hw,aP,D7];refine⟨_,_,aG,Sub.mk ?_ ?_,aB⟩
   .simp[eK]
   .simp[Bk.cells,aT,aL,eK,aO]
 have he:n=1000:=by omega
 subst he;clear hJ;have hU:((b.iA bad 1000).map aO).take (b.iA bad 1000).length=(b.iA bad 1000).map aO:=fP (by simp);simp[nB,Bk.cells,hU];rw[<-hR];simp
end
section
theorem Zku (r:Cr):(iZ r.lo (-100000) r.hi&&decide (r.hi<=100000))=r.okB:=by
 unfold Cr.okB A4 iZ;rw[qT];simp;omega
def It.dJ (x:It):Bool:=iZ x.dR 0 100&&x.val.okB&&(x.gV||(decide (x.val.lo=0)&&decide (x.val.hi=0)))
theorem It.ZxM (x:It):x.okB=x.dJ:=by
 unfold It.okB It.dJ;congr 2;obtain⟨d,s,⟨lo,hi⟩⟩:=x;rw[qT];simp
def jY (x y:Ct):Bool:=(decide (x.num=y.num)&&decide (x≠y))||(decide (y.num<x.num)&&decide (x.day<y.day))
theorem Zms {b:Bk}:b.A0=!(b.aA.all fun x=>b.aA.all fun y=>!jY x y):=by
 have e:b.A0=b.aA.any fun x=>b.aA.any fun y=>jY x y:=rfl
 rw[e,qT];simp
theorem Zpu (b:Bk)(h1:b.items.length<=1000)(h2:b.aA.length<=1000):aD prog 105 [b.pv] (.i b.fault):=by
 have qQ:b.xN=(decide (8<b.items.length)||decide (24<b.aA.length)):=rfl;have lP:b.bad=(!(b.items.all It.okB)||!(b.aA.all b.uZ)):=rfl;obtain⟨F,hF⟩:∃F,b.fault=F:=⟨_,rfl⟩;have f3:b.xN=true->F=3:=fun h=>by rw[<-hF,Zf6 h]
 have f1:b.xN=false->b.bad=true->F=1:=fun h h'=>by rw[<-hF,Zf7 h h']
 have f6:b.xN=false->b.bad=false->b.A0=true->F=6:=fun h h' Wl=>by rw[<-hF,Zf5 h h' Wl]
 have f0:b.xN=false->b.bad=false->b.A0=false->F=0:=fun h h' Wl=>by rw[<-hF,Gz h h' Wl]
 rw[hF];clear hF;refine cS L105 ?_;by_cases c1:8<b.items.length
 .have k1:(8:Int)<(b.items.length:Int):=by omega
  have C6:¬((b.items.length:Int)<=8):=by omega
  simp[L105,Bk.pv,aT,aL,k1,f3 (by rw[qQ];simp[c1])]
 have d1:decide ((8:Int)<(b.items.length:Int))=false:=by simp;omega
 by_cases c2:24<b.aA.length
 .have d2:decide ((24:Int)<(b.aA.length:Int))=true:=by simp;omega
  simp[-decide_eq_true_eq,-decide_eq_false_iff_not,L105,Bk.pv,aT,aL,d1,d2,f3 (by rw[qQ];simp[c2])]
 have d2:decide ((24:Int)<(b.aA.length:Int))=false:=by simp;omega
 have HE:b.xN=false:=by rw[qQ];simp[c1,c2]
 have f1:=f1 HE;have f6:=f6 HE;have f0:=f0 HE;clear f3 qQ HE;simp[-decide_eq_true_eq,-decide_eq_false_iff_not,L105,Bk.pv,aT,aL,d1,d2];refine eP (fun n τ=>∃k:Nat,k<=b.items.length/\n=b.items.length-k/\(∀(j:Nat) (x:It),j<k->b.items[j]?=some x->x.okB=true)/\τ=⟨[(1,.ptr (.loc 1 0) 0),(3,.pv (.i k))],[(.loc 1 0,.cells b.cells)]⟩)
  ⟨b.items.length,⟨[(1,.ptr (.loc 1 0) 0),(3,.pv (.i 0))],[(.loc 1 0,.cells b.cells)]⟩,Sub.mk (by simp) (by simp[Bk.cells,aT,aL]),0,by omega,rfl,(fun j x hj=>by omega),rfl⟩ ?_
 rintro J hJ n τ ⟨k,hk,rfl,hinv,rfl⟩;by_cases aJ:k<b.items.length
 .obtain⟨z,hz⟩:∃z,b.items[k]?=some z:=⟨b.items[k],bC aJ⟩;have qA:(b.items.map It.pv)[k]?=some (.agg [.i z.dR,.bool z.gV,.i z.val.lo,.i z.val.hi]):=by rw[bX,hz];rfl
  have hw:=bN (k:=k) (by omega);have dD:=It.ZxM z;unfold It.dJ at dD;have jL:z.okB=false->F=1:=fun h=>f1 (by rw[lP,Lj hz h];rfl)
  have aB:=fun h:z.okB=true=>hJ _ _ ⟨k+1,aJ,rfl,Mw hinv hz h,rfl⟩
  have fW:=yH z.dR 0 100;have jJ:=Zm2 z.val;rw[Zku]at jJ;have aG:b.items.length-(k+1)<b.items.length-k:=by omega
  clear hJ;simp[-decide_eq_true_eq,-decide_eq_false_iff_not,Bk.cells,aT,aL,aJ,↓qA];refine cG [.i z.dR,.i 0,.i 100] fW ?_;cases e1:iZ z.dR 0 100
  .rw[e1]at dD;simp[jL dD]
  simp[-decide_eq_true_eq,-decide_eq_false_iff_not];refine cG [z.val.pv] jJ ?_;cases e2:z.val.okB
  .rw[e1,e2]at dD;simp[jL dD]
  rw[e1,e2]at dD;cases e3:z.gV
  .cases e4:decide (z.val.lo=0)
   .rw[e3,e4]at dD;simp[-decide_eq_true_eq,-decide_eq_false_iff_not,e4,jL dD]
   .cases e5:decide (z.val.hi=0)
    .rw[e3,e4,e5]at dD;simp[-decide_eq_true_eq,-decide_eq_false_iff_not,e4,e5,jL dD]
    .rw[e3,e4,e5]at dD;have aB:=aB dD;simp[-decide_eq_true_eq,-decide_eq_false_iff_not,e4,e5,hw];exact⟨_,_,aG,Sub.mk (by simp) (by simp[Bk.cells,aT,aL]),aB⟩
  .rw[e3]at dD;have aB:=aB dD;simp[-decide_eq_true_eq,-decide_eq_false_iff_not,hw];exact⟨_,_,aG,Sub.mk (by simp) (by simp[Bk.cells,aT,aL]),aB⟩
 have he:k=b.items.length:=by omega
 subst he;have eU:=Me hinv;rw[eU]at lP;clear hJ hinv;have HX:∀i:Int,b.uJ i=true->∃j:Nat,i=j/\j<b.items.length/\∃z,b.items[j]?=some z/\b.item i=z:=fun i hi=>by
  unfold Bk.uJ iZ at hi;simp only[dK,decide_eq_true_eq]at hi;refine⟨i.toNat,by omega,by omega,b.items[i.toNat]'(by omega),bC _,?_⟩;unfold Bk.item;rw[bC (by omega)];rfl
 have Ju:IntKind.i64.wrap ((b.items.length:Int)-1)=(b.items.length:Int)-1:=wrap64 (by omega);simp[Bk.cells,aT,aL];refine eP (fun n τ=>∃k:Nat,k<=b.aA.length/\n=b.aA.length-k/\(∀(j:Nat) (x:Ct),j<k->b.aA[j]?=some x->b.uZ x=true)/\τ=⟨[(1,.ptr (.loc 1 0) 0),(5,.pv (.i k))],[(.loc 1 0,.cells b.cells)]⟩)
  ⟨b.aA.length,⟨[(1,.ptr (.loc 1 0) 0),(5,.pv (.i 0))],[(.loc 1 0,.cells b.cells)]⟩,Sub.mk (by simp) (by simp[Bk.cells,aT,aL]),0,by omega,rfl,(fun j x hj=>by omega),rfl⟩ ?_
 rintro J hJ n τ ⟨k,hk,rfl,hinv,rfl⟩;by_cases aJ:k<b.aA.length
 .obtain⟨c,hc⟩:∃c,b.aA[k]?=some c:=⟨b.aA[k],bC aJ⟩;have y6:(b.aA.map Ct.pv)[k]?=some (.agg [.i c.num,.i c.it,.i c.src,.i c.day,.i c.valid,.i c.diff.lo,.i c.diff.hi]):=by rw[bX,hc];rfl
  have hw:=bN (k:=k) (by omega);have dD:b.uZ c=(iZ c.num 1 999&&b.uJ c.it&&!(b.item c.it).gV&&b.uJ c.src&&decide (c.src≠c.it)&&iZ c.day 0 1000&&iZ c.valid 0 1000&&c.diff.okB):=rfl;have jL:b.uZ c=false->F=1:=fun h=>f1 (by rw[lP,Lj hc h];rfl)
  have aB:=fun h:b.uZ c=true=>hJ _ _ ⟨k+1,aJ,rfl,Mw hinv hc h,rfl⟩
  have QR:=yH c.num 1 999;have QQ:aD prog 116 [.i c.it,.i 0,.i ((b.items.length:Int)-1)] (.bool (b.uJ c.it)):=yH c.it 0 _;have Uj:aD prog 116 [.i c.src,.i 0,.i ((b.items.length:Int)-1)] (.bool (b.uJ c.src)):=yH c.src 0 _;have Ui:=yH c.day 0 1000;have Uh:=yH c.valid 0 1000;have jJ:=Zm2 c.diff;rw[Zku]at jJ;have hi4:=HX c.it;have aG:b.aA.length-(k+1)<b.aA.length-k:=by omega
  clear hJ;simp[-decide_eq_true_eq,-decide_eq_false_iff_not,Bk.cells,aT,aL,aJ,↓y6];refine cG [.i c.num,.i 1,.i 999] QR ?_;cases e1:iZ c.num 1 999
  .rw[e1]at dD;simp[jL (by rw[dD];simp)]
  simp[-decide_eq_true_eq,-decide_eq_false_iff_not,Ju];refine cG [.i c.it,.i 0,.i ((b.items.length:Int)-1)] QQ ?_;cases e2:b.uJ c.it
  .rw[e2]at dD;simp[jL (by rw[dD];simp)]
  obtain⟨j,hj,xL,z,hz,E7⟩:=hi4 e2;have qA:(b.items.map It.pv)[j]?=some (.agg [.i z.dR,.bool z.gV,.i z.val.lo,.i z.val.hi]):=by rw[bX,hz];rfl
  simp[-decide_eq_true_eq,-decide_eq_false_iff_not,Ju];refine cG [.i c.src,.i 0,.i ((b.items.length:Int)-1)] Uj ?_;cases e3:b.uJ c.src
  .rw[e3]at dD;simp[jL (by rw[dD];simp)]
  cases e4:decide (c.src=c.it)
  case true=>
   have Wp:decide (c.src≠c.it)=false:=by simpa using e4
   simp[-decide_eq_true_eq,-decide_eq_false_iff_not,e4,jL (by rw[dD,Wp];simp)]
  case false=>
  have Wp:decide (c.src≠c.it)=true:=by simpa using e4
  rw[e1,e2,e3,Wp,E7]at dD;have e4j:decide (c.src=(j:Int))=false:=by rw[<-hj];exact e4
  cases e5:z.gV
  case true=>
   rw[e5]at dD qA;simp[-decide_eq_true_eq,-decide_eq_false_iff_not,e4j,hj,↓qA,jL (by rw[dD];simp)]
  case false=>
  rw[e5]at dD qA;simp[-decide_eq_true_eq,-decide_eq_false_iff_not,e4j,hj,↓qA];refine cG [.i c.day,.i 0,.i 1000] Ui ?_;cases e6:iZ c.day 0 1000
  .rw[e6]at dD;simp[jL (by rw[dD];simp)]
  simp[-decide_eq_true_eq,-decide_eq_false_iff_not];refine cG [.i c.valid,.i 0,.i 1000] Uh ?_;cases e7:iZ c.valid 0 1000
  .rw[e7]at dD;simp[jL (by rw[dD];simp)]
  simp[-decide_eq_true_eq,-decide_eq_false_iff_not];refine cG [c.diff.pv] jJ ?_;cases e8:c.diff.okB
  .rw[e8]at dD;simp[jL (by rw[dD];simp)]
  rw[e6,e7,e8]at dD;have aB:=aB (by rw[dD];rfl);simp[-decide_eq_true_eq,-decide_eq_false_iff_not,hw];exact⟨_,_,aG,Sub.mk (by simp) (by simp[Bk.cells,aT,aL]),aB⟩
 have he:k=b.aA.length:=by omega
 subst he;have eU:=Me hinv;rw[eU]at lP;clear hJ hinv;have f6:=f6 lP;have f0:=f0 lP;clear f1;have X6:=Zms (b:=b);simp[Bk.cells,aT,aL];refine eP (fun n τ=>∃k:Nat,k<=b.aA.length/\n=b.aA.length-k/\(∀(j:Nat) (x:Ct),j<k->b.aA[j]?=some x->(b.aA.all fun y=>!jY x y)=true)/\τ=⟨[(1,.ptr (.loc 1 0) 0),(7,.pv (.i k))],[(.loc 1 0,.cells b.cells)]⟩)
  ⟨b.aA.length,⟨[(1,.ptr (.loc 1 0) 0),(7,.pv (.i 0))],[(.loc 1 0,.cells b.cells)]⟩,Sub.mk (by simp) (by simp[Bk.cells,aT,aL]),0,by omega,rfl,(fun j x hj=>by omega),rfl⟩ ?_
 rintro J hJ n τ ⟨k,hk,rfl,hinv,rfl⟩;by_cases aJ:k<b.aA.length
 .obtain⟨c,hc⟩:∃c,b.aA[k]?=some c:=⟨b.aA[k],bC aJ⟩;have y6:(b.aA.map Ct.pv)[k]?=some (.agg [.i c.num,.i c.it,.i c.src,.i c.day,.i c.valid,.i c.diff.lo,.i c.diff.hi]):=by rw[bX,hc];rfl
  have hw:=bN (k:=k) (by omega);have aB:=fun h:(b.aA.all fun y=>!jY c y)=true=>hJ _ _ ⟨k+1,aJ,rfl,Mw (p:=fun x=>b.aA.all fun y=>!jY x y) hinv hc h,rfl⟩
  have mK:(b.aA.all fun y=>!jY c y)=false->F=6:=fun h=>f6 (by rw[X6,Lj (p:=fun x=>b.aA.all fun y=>!jY x y) hc h];rfl)
  have aG:b.aA.length-(k+1)<b.aA.length-k:=by omega
  clear hJ;simp[Bk.cells,aT,aL,aJ];refine eP (fun n τ=>∃i:Nat,i<=b.aA.length/\n=b.aA.length-i/\(∀(j:Nat) (x:Ct),j<i->b.aA[j]?=some x->(!jY c x)=true)/\τ=⟨[(1,.ptr (.loc 1 0) 0),(7,.pv (.i k)),(8,.pv (.i i))],[(.loc 1 0,.cells b.cells)]⟩)
   ⟨b.aA.length,⟨[(1,.ptr (.loc 1 0) 0),(7,.pv (.i k)),(8,.pv (.i 0))],[(.loc 1 0,.cells b.cells)]⟩,Sub.mk (by simp) (by simp[Bk.cells,aT,aL]),0,by omega,rfl,(fun j x hj=>by omega),rfl⟩ ?_
  rintro J2 uT n τ ⟨i,hi,rfl,MJ,rfl⟩;by_cases kH:i<b.aA.length
  .obtain⟨y,hy⟩:∃c,b.aA[i]?=some c:=⟨b.aA[i],bC kH⟩;have IB:(b.aA.map Ct.pv)[i]?=some (.agg [.i y.num,.i y.it,.i y.src,.i y.day,.i y.valid,.i y.diff.lo,.i y.diff.hi]):=by rw[bX,hy];rfl
   have CA:=bN (k:=i) (by omega);have cC:=fun h:(!jY c y)=true=>uT _ _ ⟨i+1,kH,rfl,Mw (p:=fun x=>!jY c x) MJ hy h,rfl⟩
   have QC:(!jY c y)=false->F=6:=fun h=>mK (Lj (p:=fun x=>!jY c x) hy h)
   have hP:jY c y=((decide (c.num=y.num)&&!decide (c=y))||(decide (y.num<c.num)&&decide (c.day<y.day))):=by simp[jY]
   have heq:gS (.agg [.i c.num,.i c.it,.i c.src,.i c.day,.i c.valid,.i c.diff.lo,.i c.diff.hi]) (.agg [.i y.num,.i y.it,.i y.src,.i y.day,.i y.valid,.i y.diff.lo,.i y.diff.hi])=decide (c=y):=ZrO;have iH:b.aA.length-(i+1)<b.aA.length-i:=by omega
   clear uT;simp[-decide_eq_true_eq,-decide_eq_false_iff_not,Bk.cells,aT,aL,kH,↓y6];refine JX ⟨[(1,.ptr (.loc 1 0) 0),(7,.pv (.i k)),(8,.pv (.i i)),(9,.ptr (.loc 9 0) 0),(10,.ptr (.loc 10 0) 0),(151,.pv y.pv)],[(.loc 1 0,.cells b.cells),(.loc 9 0,.cells c.cells),(.loc 10 0,.cells (List.replicate 7 (.pv (.i 0))))]⟩ ?_ ?_
   .simp[gP,gZ,↓IB]
    repeat' (with_reducible refine And.intro ?_ ?_)
    all_goals
     refine Sub.mk ?_ ?_
     .simp[Ct.pv]
     .simp[Ct.cells,Bk.cells,aT,aL]
   .cases a1:decide (c.num=y.num)
    .simp[-decide_eq_true_eq,-decide_eq_false_iff_not,gP,gZ,Ct.pv,Ct.cells,Bk.cells,List.replicate,-gS,a1];trace_state;cases a3:decide (y.num<c.num)
     .have cC:=cC (by rw[hP,a1,a3];rfl);simp[-decide_eq_true_eq,-decide_eq_false_iff_not,aT,aL,-gS,CA];exact⟨_,_,iH,Sub.mk (by simp) (by simp[Bk.cells,aT,aL]),cC⟩
     .cases a4:decide (c.day<y.day)
      .have cC:=cC (by rw[hP,a1,a3,a4];rfl);simp[-decide_eq_true_eq,-decide_eq_false_iff_not,aT,aL,-gS,CA];exact⟨_,_,iH,Sub.mk (by simp) (by simp[Bk.cells,aT,aL]),cC⟩
      .have hF:=QC (by rw[hP,a1,a3,a4];rfl);simp[-decide_eq_true_eq,-decide_eq_false_iff_not,aT,aL,-gS,hF]
    .cases a2:decide (c=y)
     .have hF:=QC (by rw[hP,a1,a2];rfl);simp[-decide_eq_true_eq,-decide_eq_false_iff_not,gP,gZ,Ct.pv,Ct.cells,Bk.cells,List.replicate,heq,-gS,a1,a2,hF]
     .simp[-decide_eq_true_eq,-decide_eq_false_iff_not,gP,gZ,Ct.pv,Ct.cells,Bk.cells,List.replicate,heq,-gS,a1,a2];cases a3:decide (y.num<c.num)
      .have cC:=cC (by rw[hP,a1,a2,a3];rfl);simp[-decide_eq_true_eq,-decide_eq_false_iff_not,aT,aL,-gS,CA];exact⟨_,_,iH,Sub.mk (by simp) (by simp[Bk.cells,aT,aL,Ct.cells]),cC⟩
      .cases a4:decide (c.day<y.day)
       .have cC:=cC (by rw[hP,a1,a2,a3,a4];rfl);simp[-decide_eq_true_eq,-decide_eq_false_iff_not,aT,aL,-gS,CA];exact⟨_,_,iH,Sub.mk (by simp) (by simp[Bk.cells,aT,aL]),cC⟩
       .have hF:=QC (by rw[hP,a1,a2,a3,a4];rfl);simp[-decide_eq_true_eq,-decide_eq_false_iff_not,aT,aL,-gS,hF]
  .have he:i=b.aA.length:=by omega
   subst he;have aB:=aB (Me (p:=fun x=>!jY c x) MJ);simp[Bk.cells,aT,aL,hw];exact⟨_,_,aG,Sub.mk (by simp) (by simp[Bk.cells,aT,aL]),aB⟩
 have he:k=b.aA.length:=by omega
 subst he;have hF:=f0 (by rw[X6,Me (p:=fun x=>b.aA.all fun y=>!jY x y) hinv];rfl);simp[Bk.cells,aT,aL,hF]
attribute [local irreducible] Bk.held Bk.nums Bk.iA
set_option linter.unusedSimpArgs false
theorem Zkz (b:Bk)(hb:b.ok):cN prog 50 ([b.pv,.emp (some true)].map .pv) [] (fun r B=>r=.pv (.aE false 1 ((b.held []).map aO))/\B=[]):=by
 have h:=ZsL b hb [] (gY _);refine cN.Xs (xs:=[b.pv,.emp (some true)]) (ys:=[b.pv,.aE false 1 []]) h rfl ?_;intro j x y m v h1 h2 hr
 match j with
 |0=>simp at h1 h2;subst h1 h2;exact hr
 |1=>simp at h1 h2;subst h1 h2;exact AK hr
 |j+2=>simp at h1
theorem Gq {b:Bk}{bad:List Int}:(b.held bad).length<=1000:=by
 have:b.held bad=b.iA bad 1000:=by unfold Bk.held;rfl
 rw[this];exact ZfY 1000
theorem Zm9 (b:Bk)(hb:b.ok)(item day:Int)(h0:0<=item)(h1:item<b.items.length):aD prog 37 [b.pv,.i item,.i day] (.bool (b.pU item day)):=by
 obtain⟨j,hj,xL,z,hz,E7,qA⟩:=Mk h0 h1;have gO:=hb.c;obtain⟨P,hP⟩:∃P:Ct->Bool,P=fun o=>decide (o.it=item)&&o.on day&&(b.held []).contains o.num:=⟨_,rfl⟩
 have hT:b.pU item day=(z.gV||(b.aA.take b.aA.length).any P):=by
  rw[mX,<-E7];unfold Bk.pU;rw[Zj2 hb];congr 1;rw[qT,oU,oU];constructor
  .rintro⟨o,ho,h⟩;refine⟨o,ho,?_⟩;rw[hP];simp only[Bk.pV,dK]at h ⊢;exact⟨h.1.2,h.2⟩
  .rintro⟨o,ho,h⟩;refine⟨o,ho,?_⟩;rw[hP]at h;have pO:=(xC hb ho).2.1;simp only[Bk.pV,dK,decide_eq_true_eq]at h ⊢;exact⟨⟨by omega,h.1⟩,h.2⟩
 rw[hT];clear hT;have hlen:=Gq (b:=b) (bad:=[]);have N5:=Zkz b hb;refine cS L37 ?_;cases hs:z.gV
 case true=>
  rw[hs]at qA;simp[L37,Bk.pv,aT,aL,hj,qA]
 case false=>
 rw[hs]at qA;simp[-List.take_length,L37,Bk.pv,aT,aL,hj,qA];refine .inl (cQ [] [b.pv,.emp (some true)] N5 ?_);generalize b.held []=H at *;simp[-List.take_length,aM];subst hj;refine eP (fun n τ=>∃k:Nat,k<=b.aA.length/\n=b.aA.length-k/\(b.aA.take k).any P=false/\τ=⟨[(1,.pv (.i j)),(2,.pv (.i day)),(3,.ptr (.loc 3 0) 0),(7,.pv (.aE false 1 (H.map aO))),(8,.pv (.i k))],[(.loc 3 0,.cells b.cells)]⟩)
  ⟨b.aA.length,⟨[(1,.pv (.i j)),(2,.pv (.i day)),(3,.ptr (.loc 3 0) 0),(7,.pv (.aE false 1 (H.map aO))),(8,.pv (.i 0))],[(.loc 3 0,.cells b.cells)]⟩,Sub.mk (by simp) (by simp[Bk.cells,aT,aL]),0,by omega,rfl,rfl,rfl⟩ ?_
 rintro J hJ n τ ⟨k,hk,rfl,hinv,rfl⟩;by_cases aJ:k<b.aA.length
 .obtain⟨o,ho,M4,qB⟩:=zV aJ;have hw:=bN (k:=k) (by omega);have aB:=fun h:P o=false=>hJ _ _ ⟨k+1,aJ,rfl,(by rw[XD ho,hinv,h];rfl),rfl⟩
  have PH:P o=true->(b.aA.take b.aA.length).any P=true:=fun h=>by
   rw[mX,oU];exact⟨o,M4,h⟩
  have aG:b.aA.length-(k+1)<b.aA.length-k:=by omega
  have hv:=Zfm o day (Zei hb M4);have hh:=wN H o.num (by omega);have H6:P o=(decide (o.it=(j:Int))&&o.on day&&H.contains o.num):=by rw[hP]
  generalize(b.aA.take b.aA.length).any P=T at *;clear hJ hP;cases e1:decide (o.it=(j:Int))
  .have aB:=aB (by rw[H6,e1];rfl);simp[-getElem?_pos,-List.getElem?_map,-decide_eq_true_eq,-decide_eq_false_iff_not,Bk.cells,aT,aL,aJ,qB,hw,e1];exact⟨_,_,aG,Sub.mk (by simp) (by simp[Bk.cells,aT,aL]),aB⟩
  simp[-getElem?_pos,-List.getElem?_map,-decide_eq_true_eq,-decide_eq_false_iff_not,Bk.cells,aT,aL,aJ,qB,e1];refine cG [o.pv,.i day] hv ?_;cases e2:o.on day
  .have aB:=aB (by rw[H6,e1,e2];rfl);simp[-decide_eq_true_eq,-decide_eq_false_iff_not,hw];exact⟨_,_,aG,Sub.mk (by simp) (by simp[Bk.cells,aT,aL]),aB⟩
  simp[-decide_eq_true_eq,-decide_eq_false_iff_not,Bk.cells,aT,aL,aJ,qB,hw,e1];refine cG [.aE false 1 (H.map aO),.i o.num] hh ?_;cases e3:H.contains o.num
  .have aB:=aB (by rw[H6,e1,e2,e3];rfl);simp[-decide_eq_true_eq,-decide_eq_false_iff_not,Bk.cells,aT,aL,aJ,qB,hw,e1];exact⟨_,_,aG,Sub.mk (by simp) (by simp[Bk.cells,aT,aL]),aB⟩
  have hT:=PH (by rw[H6,e1,e2,e3];rfl);subst hT;simp[-decide_eq_true_eq,-decide_eq_false_iff_not]
 have he:k=b.aA.length:=by omega
 subst he;rw[hinv];simp[Bk.cells,aT,aL]
end
section
theorem Ztp {a b:Int}:(if a<b then b else a)=max a b:=by
 rw[Int.max_def];split<;>split<;>omega
theorem Zto {a b:Int}:(if b<a then b else a)=min a b:=by
 rw[Int.min_def];split<;>split<;>omega
def x8 (S:Int->Cr)(H:List Int)(i:Nat):PV:=if i<2000 then(.i (if i%2=0 then(S ((i / 2:Nat):Int)).lo else(S ((i / 2:Nat):Int)).hi))else .aE false 1 (H.map aO)
def sB (S:Int->Cr)(H:List Int):List AV:=(List.range 2001).map fun i:Nat=>.pv (x8 S H i)
variable {S:Int->Cr}{H:List Int}
theorem Hy:(sB S H).length=2001:=by unfold sB;simp
theorem JY {i:Nat}(h:i<2001):(sB S H)[i]?=some (.pv (x8 S H i)):=by
 unfold sB;rw[bX,List.getElem?_range h];rfl
theorem Zc6:(sB S H)[2000]?=some (.pv (.aE false 1 (H.map aO))):=by
 rw[JY (by omega)];unfold x8;rw[if_neg (by omega)]
theorem Zuj {n:Nat}(h:n<1000):x8 S H (n*2)=.i (S n).lo:=by
 unfold x8;rw[if_pos (by omega),if_pos (by omega),show n*2 / 2=n by omega]
theorem Zuk {n:Nat}(h:n<1000):x8 S H (n*2+1)=.i (S n).hi:=by
 unfold x8;rw[if_pos (by omega),if_neg (by omega),show(n*2+1) / 2=n by omega]
theorem Zsf {n:Nat}(h:n<1000):((sB S H).drop (n*2)).take 2=[.pv (.i (S n).lo),.pv (.i (S n).hi)]:=by
 apply List.ext_getElem?;intro k;rw[mE]
 match k with
 |0=>rw[if_pos (by omega),mS,Nat.add_zero,JY (by omega),Zuj h];rfl
 |1=>rw[if_pos (by omega),mS,JY (by omega),Zuk h];rfl
 |k+2=>rw[if_neg (by omega)];rfl
theorem Zse {n:Nat}(h:n<1000){a:Cr}:aS (sB S H) (n*2) [.pv (.i a.lo),.pv (.i a.hi)]=sB (fun m=>if m=(n:Int)then a else S m) H:=by
 unfold aS;apply List.ext_getElem?;intro k;have hl:((sB S H).take (n*2)).length=n*2:=by rw[gN,Hy];omega
 have qY:([AV.pv (.i a.lo),AV.pv (.i a.hi)]:List AV).length=2:=rfl;by_cases h1:k<n*2
 .rw[I2,List.getElem?_append_left (by omega),mE,if_pos h1,JY (by omega),JY (by omega)];unfold x8;simp only;rw[if_neg (by omega:¬(((k / 2:Nat):Int)=(n:Int)))]
 .by_cases h2:k<n*2+2
  .rw[List.getElem?_append_left (by rw[gD,hl,qY];omega),List.getElem?_append_right (by omega),hl,JY (by omega)];unfold x8;simp only;rw[if_pos (by omega:k<2000),if_pos (by omega:((k / 2:Nat):Int)=(n:Int))];rcases(by omega:k=n*2\/k=n*2+1)with rfl|rfl
   .rw[Nat.sub_self,if_pos (by omega)];rfl
   .rw[show n*2+1-n*2=1 by omega,if_neg (by omega)];rfl
  .rw[List.getElem?_append_right (by rw[gD,hl,qY];omega),gD,hl,qY,mS,show n*2+2+(k-(n*2+2))=k by omega];by_cases h3:k<2001
   .rw[JY h3,JY h3];unfold x8;simp only;rw[if_neg (by omega:¬(((k / 2:Nat):Int)=(n:Int)))]
   .rw[List.getElem?_eq_none (by rw[Hy];omega),List.getElem?_eq_none (by rw[Hy];omega)]
theorem Zfd (d:Nat):AV.qU d (sB S H)=false:=ZfD _
theorem Zfe (q:Site->Bool):AV.gW q (sB S H)=true:=ZfE _
theorem ZcJ (d:Nat):(sB S H).map (AV.bG d)=sB S H:=ZfB _
theorem Zfc (g:Site->Site):AV.iO g (sB S H)=sB S H:=ZfC _
attribute [irreducible] sB
attribute [local irreducible] Bk.held Bk.nums Bk.iA Bk.span
attribute [simp] Zfd Zfe ZcJ Zfc Zc6 Hy
def P3 (S:Int->Cr)(H:List Int):List aK:=[.cells (sB S H)]
def BC (b:Bk)(item day below:Int)(z:It)(S:Int->Cr)(H:List Int)(r:Cr)(k:Nat):AS:=⟨[(1,.ptr (.par 0) 0),(2,.pv (.i item)),(3,.pv (.i day)),(4,.pv (.i below)),(5,.ptr (.loc 5 0) 0),(10,.ptr (.loc 10 0) 0),(11,.ptr (.loc 11 0) 0),(12,.ptr (.loc 12 0) 0),(13,.pv (.i k))],
 [(.loc 12 0,.cells [.pv (.i r.lo),.pv (.i r.hi)]),(.loc 11 0,.cells [.pv (.i z.dR),.pv (.bool false),.pv (.i z.val.lo),.pv (.i z.val.hi)]),(.loc 10 0,.cells [.pv (.i 0),.pv (.i 0)]),(.loc 5 0,.cells b.cells),(.par 0,.cells (sB S H))]⟩
theorem Zo (b:Bk)(hb:b.ok)(S:Int->Cr)(H:List Int)(hH:H.length<=1000)(item day below:Int)(h0:0<=item)(h1:item<b.items.length)(hd:0<=day/\day<=1000)(hS:∀c∈b.aA,c.num∈H->(S c.num).lT 1000000000000):
  cN prog 138 [.pv b.pv,.ptr (.par 0) 0,.pv (.i item),.pv (.i day),.pv (.i below)] (laid 0 (P3 S H)) (fun r B=>r=.pv (b.kD H S item day below).pv/\B=laid 0 (P3 S H)):=by
 obtain⟨j,hj,xL,z,hz,E7,qA⟩:=Mk h0 h1;have gO:=hb.c;obtain⟨d0,d1,_,_⟩:=ZhC hb h0 h1;rw[E7]at d0 d1;obtain⟨R,hR⟩:∃R,b.kD H S item day below=R:=⟨_,rfl⟩;rw[hR];refine cB [.par 0] L138 ?_;cases hs:z.gV
 case true=>
  have hv:R=z.val:=by rw[<-hR];unfold Bk.kD;rw[E7,if_pos hs]
  rw[hs]at qA;subst hj;simp[L138,Bk.pv,aT,aL,laid,P3,qA];rw[hv];rfl
 case false=>
 rw[hs]at qA;obtain⟨Q,hQ⟩:∃Q:Ct->Bool,Q=fun c=>Bk.pV item day below c&&H.contains c.num:=⟨_,rfl⟩
 obtain⟨F,hF⟩:∃F:Cr->Ct->Cr,F=fun r c=>r.cut ((S c.num).wider (z.dR*(day-c.day))):=⟨_,rfl⟩
 have Kb:R=((b.aA.take b.aA.length).filter Q).foldl F I6:=by
  rw[<-hR,Ia (by rw[E7];exact hs),mX,hQ,hF,E7]
 clear hR;subst Kb;obtain⟨E,hE⟩:∃E:Nat->Cr,E=fun k=>((b.aA.take k).filter Q).foldl F I6:=⟨_,rfl⟩
 have hEe:((b.aA.take b.aA.length).filter Q).foldl F I6=E b.aA.length:=by rw[hE]
 rw[hEe];have hE0:E 0=I6:=by rw[hE];rfl
 have Vv:∀(k:Nat) (o:Ct),b.aA[k]?=some o->E (k+1)=if Q o=true then F (E k) o else E k:=fun k o ho=>by
  rw[hE];simp only;rw[mR,ho,I1,List.foldl_append];cases hq:Q o<;>simp[hq]
 clear hE hEe;subst hj;simp[L138,Bk.pv,aT,aL,laid,P3,qA,-aU];refine eP (fun n τ=>∃k:Nat,k<=b.aA.length/\n=b.aA.length-k/\τ=BC b j day below z S H (E k) k) ⟨b.aA.length,BC b j day below z S H (E 0) 0,Sub.mk (by simp) (by simp[Bk.cells,aT,aL,hE0,I6]),0,by omega,rfl,rfl⟩ ?_;rintro J hJ n τ ⟨k,hk,rfl,rfl⟩;by_cases aJ:k<b.aA.length
 .obtain⟨o,ho,M4,qB⟩:=zV aJ;have hw:=bN (k:=k) (by omega);have aB:=hJ _ _ ⟨k+1,aJ,rfl,rfl⟩;rw[Vv k o ho]at aB;have aG:b.aA.length-(k+1)<b.aA.length-k:=by omega
  have hv:=Zfm o day (Zei hb M4);have hh:=wN H o.num (by omega);have VQ:Q o=(decide (o.num<below)&&(decide (o.it=(j:Int))&&o.on day)&&H.contains o.num):=by rw[hQ];rfl
  have hSo:=hS o M4;have jL:=xC hb M4;have hFo:F (E k) o=(E k).cut ((S o.num).wider (z.dR*(day-o.day))):=by rw[hF]
  have CV:=Yh hb M4 (day:=day);generalize E k=R at *;clear hJ hQ hF Vv hS;obtain⟨on,oi,os,od,ov,⟨ol,oh⟩⟩:=o;simp only at jL qB VQ CV hSo hFo;have FG:decide (below<=on)=!(decide (on<below)):=by
   rw[qT];simp
  cases e1:decide (oi=(j:Int))
  .have hq:¬(Q ⟨on,oi,os,od,ov,⟨ol,oh⟩⟩=true):=by rw[VQ,e1];simp
   rw[if_neg hq]at aB;simp[-getElem?_pos,-List.getElem?_map,-decide_eq_true_eq,-decide_eq_false_iff_not,BC,Bk.cells,aT,aL,aJ,qB,hw,e1,-aU];exact⟨_,_,aG,Sub.mk (by simp) (by simp[Bk.cells,aT,aL]),aB⟩
  cases e2:decide (on<below)
  .have hq:¬(Q ⟨on,oi,os,od,ov,⟨ol,oh⟩⟩=true):=by rw[VQ,e2];simp
   rw[if_neg hq]at aB;rw[e2]at FG;simp[-getElem?_pos,-List.getElem?_map,-decide_eq_true_eq,-decide_eq_false_iff_not,BC,Bk.cells,aT,aL,aJ,qB,hw,e1,FG,-aU];exact⟨_,_,aG,Sub.mk (by simp[BC]) (by simp[BC,Bk.cells,aT,aL]),aB⟩
  rw[e2]at FG;simp[-getElem?_pos,-List.getElem?_map,-decide_eq_true_eq,-decide_eq_false_iff_not,BC,Bk.cells,aT,aL,aJ,qB,e1,FG,-aU];refine AN (k:=0) (fs:=[]) (xs:=[Ct.pv ⟨on,oi,os,od,ov,⟨ol,oh⟩⟩,.i day]) (cs:=[]) rfl rfl hv rfl ?_;cases e3:Ct.on ⟨on,oi,os,od,ov,⟨ol,oh⟩⟩ day
  .have hq:¬(Q ⟨on,oi,os,od,ov,⟨ol,oh⟩⟩=true):=by rw[VQ,e3];simp
   rw[if_neg hq]at aB;simp[-decide_eq_true_eq,-decide_eq_false_iff_not,hw,-aU];exact⟨_,_,aG,Sub.mk (by simp) (by simp[Bk.cells,aT,aL]),aB⟩
  simp[-getElem?_pos,-List.getElem?_map,-decide_eq_true_eq,-decide_eq_false_iff_not,-aU];refine cG [.aE false 1 (H.map aO),.i on] hh ?_;cases e4:H.contains on
  .have hq:¬(Q ⟨on,oi,os,od,ov,⟨ol,oh⟩⟩=true):=by rw[VQ,e4];simp
   rw[if_neg hq]at aB;simp[-decide_eq_true_eq,-decide_eq_false_iff_not,BC,Bk.cells,aT,aL,aJ,qB,hw,-aU];exact⟨_,_,aG,Sub.mk (by simp[BC]) (by simp[BC,Bk.cells,aT,aL]),aB⟩
  have hq:Q ⟨on,oi,os,od,ov,⟨ol,oh⟩⟩=true:=by rw[VQ,e1,e2,e3,e4];rfl
  rw[if_pos hq,hFo]at aB;have o9:=hSo (jC.1 e4);have D8:=CV e3;rw[of_decide_eq_true e1,E7]at D8;unfold Cr.lT at o9;have w1:IntKind.i64.wrap (day-od)=day-od:=wrap64 (by omega);obtain⟨far,MM⟩:∃far,z.dR*(day-od)=far:=⟨_,rfl⟩;rw[MM]at aB D8;have w2:IntKind.i64.wrap (z.dR*(day-od))=far:=by rw[MM];exact wrap64 (by omega)
  obtain⟨nn,rfl⟩:∃nn:Nat,on=nn:=⟨on.toNat,by omega⟩;have M5:nn<1000:=by omega
  have Sp:=Zsf (S:=S) (H:=H) M5;have sQ:nn*2<=1999:=by omega
  have w3:IntKind.i64.wrap ((S nn).lo-far)=(S nn).lo-far:=wrap64 (by omega);have w4:IntKind.i64.wrap ((S nn).hi+far)=(S nn).hi+far:=wrap64 (by omega);unfold Cr.cut Cr.wider Cr.plus at aB;simp only[<-Int.sub_eq_add_neg]at aB;clear o9 D8 MM hq e1 e2 e3 e4;simp[-decide_eq_true_eq,-decide_eq_false_iff_not,hw,w1,w2,w3,w4,Sp,sQ,M5,cU,aP,-aU];exact⟨_,_,aG,Sub.mk (by simp) (by simp[Bk.cells,aT,aL,Ztp,Zto]),aB⟩
 have he:k=b.aA.length:=by omega
 subst he;clear hJ Vv hF hQ;generalize E b.aA.length=R at *;simp[BC,Bk.cells,aT,aL,-aU];simp[Cr.pv]
end
section
def Bk.xV (b:Bk)(k:Nat)(m:Int):Cr:=if((b.held []).take k).contains m=true then b.span (b.held []) m else⟨0,0⟩
theorem ZmA {b:Bk}{held:List Int}{m:Int}(h:held.contains m=false):b.span held m=⟨0,0⟩:=by
 have key:∀k,b.FN held k m=⟨0,0⟩:=fun k=>by
  induction k with
  |zero=>rfl
  |succ k ih=>
   rw[Zeo];split
   .rw[if_neg (by rw[h];simp)]
   .exact ih
 exact key 1000
theorem Zjx {b:Bk}{bad:List Int}:(b.held bad).Pairwise (·<·):=(ZcR 1000).1
attribute [local irreducible] Bk.held Bk.nums Bk.iA Bk.span
theorem Zi8 {l:List Int}(hs:l.Pairwise (·<·)){k:Nat}{n x:Int}(h:l[k]?=some n):x∈l.take k↔x∈l/\x<n:=by
 obtain⟨h2,e2⟩:=cA.1 h;have hs:=Q8.1 hs;constructor
 .intro hx;obtain⟨i,hi⟩:=iK.1 hx;rw[mE]at hi;split at hi
  .rename_i qP;obtain⟨h1,e1⟩:=cA.1 hi
   have:=hs i k h1 h2 qP
   rw[e1,e2]at this;exact⟨dL hi,this⟩
  .cases hi
 .rintro⟨hx,aJ⟩;obtain⟨i,hi⟩:=iK.1 hx;obtain⟨h1,e1⟩:=cA.1 hi;rw[iK];refine⟨i,?_⟩;rw[mE,if_pos,hi];rcases Nat.lt_trichotomy i k with qP|qP|qP
  .exact qP
  .subst qP;rw[e1]at e2;omega
  .have:=hs k i h2 h1 qP
   rw[e1,e2]at this;omega
theorem Zh7 {b:Bk}{k:Nat}{n:Int}(h:(b.held [])[k]?=some n){m:Int}(hm:m<n):b.xV k m=b.span (b.held []) m:=by
 unfold Bk.xV;split
 .rfl
 .rename_i hc;rw[ZmA];cases hx:(b.held []).contains m
  .rfl
  .exact absurd (jC.2 ((Zi8 Zjx h).2 ⟨jC.1 hx,hm⟩)) hc
theorem Zpb {b:Bk}:b.xV (b.held []).length=b.span (b.held []):=by
 funext m;unfold Bk.xV;rw[mX];split
 .rfl
 .rename_i hc;rw[ZmA (by simpa using hc)]
theorem Zpa {b:Bk}:b.xV 0=fun _=>⟨0,0⟩:=by
 funext m;unfold Bk.xV;rw[if_neg (by simp)]
theorem Zg8 {b:Bk}{k:Nat}{n:Int}(h:(b.held [])[k]?=some n):(fun m=>if m=n then b.span (b.held []) n else b.xV k m)=b.xV (k+1):=by
 funext m;unfold Bk.xV;rw[mR,h];by_cases e:m=n
 .subst e;rw[if_pos rfl,if_pos (by simp)]
 .rw[if_neg e]
  have:(((b.held []).take k++(some n).toList).contains m)=((b.held []).take k).contains m:=by
   rw[qT,jC,jC,sG];simp[e]
  rw[this]
theorem ZmF {b:Bk}{k:Nat}{n:Int}(h:(b.held [])[k]?=some n):(fun m=>if m=n then b.span (b.held []) n else b.xV (k+1) m)=b.xV (k+1):=by
 rw[<-Zg8 h];funext m;by_cases e:m=n
 .simp only[if_pos e]
 .simp only[if_neg e]
theorem ZmE {b:Bk}(hb:b.ok){k:Nat}{c:Ct}(hc:c∈b.aA):(b.xV k c.num).lT 1000000000000:=by
 unfold Bk.xV;split
 .rename_i h;have hx:c.num∈b.held []:=List.mem_of_mem_take (jC.1 h);have k1:=XT hb c hc hx;have k2:=xC hb hc;unfold Cr.lT at k1 ⊢;omega
 .unfold Cr.lT;simp only;omega
def Bk.uP (b:Bk)(k:Nat)(n:Int)(i:Nat):Int->Cr:=if((b.aA.take i).any fun c=>decide (c.num=n))=true then b.xV (k+1)else b.xV k
theorem ZmG {b:Bk}{k:Nat}{n:Int}{i:Nat}(h:(b.held [])[k]?=some n){m:Int}(hm:m<n):b.uP k n i m=b.span (b.held []) m:=by
 unfold Bk.uP;split
 .rw[<-Zg8 h];simp only;rw[if_neg (by omega),Zh7 h hm]
 .exact Zh7 h hm
theorem Zpd {b:Bk}{k:Nat}{n:Int}{i:Nat}{c:Ct}(hc:b.aA[i]?=some c)(h:decide (c.num=n)=false):b.uP k n (i+1)=b.uP k n i:=by
 unfold Bk.uP;rw[XD hc,h,Bool.or_false]
theorem Zsm {b:Bk}{k:Nat}{n:Int}{i:Nat}{c:Ct}(hk:(b.held [])[k]?=some n)(hc:b.aA[i]?=some c)(h:c.num=n):(fun m=>if m=n then b.span (b.held []) n else b.uP k n i m)=b.uP k n (i+1):=by
 have:b.uP k n (i+1)=b.xV (k+1):=by
  unfold Bk.uP;rw[XD hc,decide_eq_true h,Bool.or_true,if_pos rfl]
 rw[this];unfold Bk.uP;split
 .exact ZmF hk
 .exact Zg8 hk
theorem Zsn {b:Bk}(hb:b.ok){k:Nat}{n:Int}{i:Nat}{c:Ct}(hc:c∈b.aA):(b.uP k n i c.num).lT 1000000000000:=by
 unfold Bk.uP;split
 .exact ZmE hb hc
 .exact ZmE hb hc
theorem Zpf {b:Bk}(hb:b.ok){k:Nat}{n:Int}(hk:(b.held [])[k]?=some n):b.uP k n b.aA.length=b.xV (k+1):=by
 unfold Bk.uP;rw[if_pos];rw[mX,oU];obtain⟨c,hc,e,_⟩:=(KH hb).1 (dL hk);exact⟨c,hc,by simp[e]⟩
theorem Zpc {b:Bk}{k:Nat}{n:Int}:b.uP k n 0=b.xV k:=by
 unfold Bk.uP;rw[if_neg (by simp)]
theorem Zpe {b:Bk}(hb:b.ok){k:Nat}{n:Int}{i:Nat}{c:Ct}(hk:(b.held [])[k]?=some n)(hc:c∈b.aA)(h:c.num=n):(b.kD (b.held []) (b.uP k n i) c.src c.day c.num).plus c.diff=b.span (b.held []) n/\(b.kD (b.held []) (b.uP k n i) c.src c.day c.num).lT 2000000000:=by
 have hx:(b.held []).contains n=true:=jC.2 (dL hk);have hg:b.get n=c:=by rw[<-h];exact s9 hb hc
 obtain⟨g1,g2⟩:=Zkj hb ((w9 hb).2 ⟨c,hc,h⟩) hx;rw[hg]at g1 g2;have e:b.kD (b.held []) (b.uP k n i) c.src c.day c.num=b.kD (b.held []) (b.span (b.held [])) c.src c.day n:=by
  rw[h];exact Zdo fun m hm=>ZmG hk hm
 rw[e];exact⟨g1.symm,g2⟩
theorem Zo6 {H:List Int}:List.replicate 2000 (AV.pv (.i 0))++[.pv (.aE false 1 (H.map aO))]=sB (fun _=>⟨0,0⟩) H:=by
 apply List.ext_getElem?;intro k;by_cases h:k<2000
 .rw[List.getElem?_append_left (by rw[List.length_replicate];exact h),List.getElem?_replicate,if_pos h,JY (by omega)];unfold x8;rw[if_pos h];simp
 .by_cases h2:k=2000
  .subst h2;rw[Zc6];rfl
  .rw[List.getElem?_eq_none (by simp;omega),List.getElem?_eq_none (by rw[Hy];omega)]
def AX (S:Int->Cr)(H:List Int):List PV:=(List.range 2001).map (x8 S H)
theorem Zh1 {α:Type}{f:α->PV}:∀l:List α,eB (l.map fun x=>.pv (f x))=some (l.map f)
 |[]=>rfl
 |x::l=>by simp only[iN,eB,Zh1 l]
theorem Zo7 {S:Int->Cr}{H:List Int}:eB (sB S H)=some (AX S H):=by
 unfold sB AX;exact Zh1 _
theorem Zo5 {S:Int->Cr}{H:List Int}:(AX S H).map AV.pv=sB S H:=by
 unfold sB AX;rw[List.map_map];rfl
theorem Zpz {a b:AV}:List.drop 2001 (List.replicate 2000 a++[b])=[]:=List.drop_of_length_le (by simp)
attribute [irreducible] AX
attribute [local irreducible] Bk.xV Bk.uP
def R8 (b:Bk)(S:Int->Cr)(k:Nat):AS:=⟨[(1,.ptr (.loc 1 0) 0),(3,.ptr (.loc 11 0) 0),(4,.pv (.i k))],[(.loc 11 0,.cells (sB S (b.held []))),(.loc 1 0,.cells b.cells)]⟩
def YH (b:Bk)(S:Int->Cr)(k i:Nat):AS:=⟨(5,.pv (.i i))::(R8 b S k).tm,(R8 b S k).bx⟩
theorem Zrq (b:Bk)(hb:b.ok):cN prog 139 [.pv b.pv] [] (fun r B=>r=.ptr (.ret 0) 0/\B=[(.ret 0,.cells (sB (b.span (b.held [])) (b.held [])))]):=by
 have hlen:=Gq (b:=b) (bad:=[]);have gO:=hb.c;have N5:=Zkz b hb;refine cE L139 ?_;generalize hR:(fun(r:AV) (B:List (Site×aK))=>r=.ptr (.ret 0) 0/\B=[(.ret 0,.cells (sB (b.span (b.held [])) (b.held [])))])=R;simp[-List.reduceReplicate,L139,Bk.pv,-aU];refine .inl (cQ [] [b.pv,.emp (some true)] N5 ?_);have hz:=Zo6 (H:=b.held []);simp[-List.take_length,-List.reduceReplicate,aM,hz,Zpz,Zo7,Zo5,-aU];refine eP (fun m τ=>∃k:Nat,k<=(b.held []).length/\m=(b.held []).length-k/\τ=R8 b (b.xV k) k) ⟨(b.held []).length,R8 b (b.xV 0) 0,Sub.mk (by simp) (by simp[Bk.cells,Zpa]),0,by omega,rfl,rfl⟩ ?_;rintro J hJ m τ ⟨k,hk,rfl,rfl⟩;by_cases aJ:k<(b.held []).length
 .obtain⟨n,hn⟩:∃n,(b.held [])[k]?=some n:=⟨_,bC aJ⟩;have Ka:((b.held []).map aO)[k]?=some (.i n):=by rw[bX,hn];rfl
  have hw:=bN (k:=k) (by omega);have aB:=hJ _ _ ⟨k+1,aJ,rfl,rfl⟩;have aG:(b.held []).length-(k+1)<(b.held []).length-k:=by omega
  clear hJ;simp[-getElem?_pos,-List.getElem?_map,R8,Bk.cells,aJ,-aU];refine eP (fun m τ=>∃i:Nat,i<=b.aA.length/\m=b.aA.length-i/\τ=YH b (b.uP k n i) k i) ⟨b.aA.length,YH b (b.uP k n 0) k 0,Sub.mk (by simp[R8]) (by simp[R8,Bk.cells,Zpc]),0,by omega,rfl,rfl⟩ ?_;rintro J2 uT m τ ⟨i,hi,rfl,rfl⟩;by_cases kH:i<b.aA.length
  .obtain⟨o,ho,M4,qB⟩:=zV kH;have CA:=bN (k:=i) (by omega);have cC:=uT _ _ ⟨i+1,kH,rfl,rfl⟩;have iH:b.aA.length-(i+1)<b.aA.length-i:=by omega
   clear uT aB;cases e1:decide (o.num=n)
   .rw[Zpd ho e1]at cC;simp[-getElem?_pos,-List.getElem?_map,-decide_eq_true_eq,-decide_eq_false_iff_not,YH,R8,Bk.cells,aT,aL,kH,qB,Ka,CA,e1,-aU];exact⟨_,_,iH,Sub.mk (by simp[R8]) (by simp[R8,Bk.cells,aT,aL]),cC⟩
   have Kj:o.num=n:=of_decide_eq_true e1;have jL:=xC hb M4;obtain⟨g1,g2⟩:=Zpe (i:=i) hb hn M4 Kj;have nE:=Zsm (i:=i) hn ho Kj;have mN:=Zo b hb (b.uP k n i) (b.held []) (by omega) o.src o.day o.num jL.2.2.2.2.2.1 jL.2.2.2.2.2.2.1 ⟨jL.2.2.2.2.2.2.2.2.1,jL.2.2.2.2.2.2.2.2.2.1⟩ (fun c hc _=>Zsn hb hc);obtain⟨nn,Ti⟩:∃nn:Nat,n=nn:=⟨n.toNat,by omega⟩;have M5:nn<1000:=by omega
   rw[<-nE]at cC;generalize b.uP k n i=S at *;generalize b.span (b.held []) n=T at *;obtain⟨R,Kb⟩:∃R,b.kD (b.held []) S o.src o.day o.num=R:=⟨_,rfl⟩;rw[Kb]at g1 g2 mN;clear Kb nE;have Cu:=jL.2.2.2.2.2.2.2.2.2.2.2.2.1;unfold Cr.lT at Cu g2;have w1:IntKind.i64.wrap (R.lo+o.diff.lo)=T.lo:=by rw[<-g1];exact wrap64 (by omega)
   have w2:IntKind.i64.wrap (R.hi+o.diff.hi)=T.hi:=by rw[<-g1];exact wrap64 (by omega)
   clear jL Cu g1 g2;subst Ti;have jK:=Zse (S:=S) (H:=b.held []) M5 (a:=T);have sQ:nn*2<=1999:=by omega
   simp[-getElem?_pos,-List.getElem?_map,-decide_eq_true_eq,-decide_eq_false_iff_not,YH,R8,Bk.cells,aT,aL,kH,qB,Ka,Kj,-aU];refine xQ (gF:=[.pv b.pv,.ptr (.par 0) 0,.pv (.i o.src),.pv (.i o.day),.pv (.i nn)]) (B:=laid 0 (P3 S (b.held []))) (fs:=[]) (cs:=[]) 51 [.loc 11 0] ?_ rfl rfl ?_ ?_ ?_ (by rw[Kj]at mN;exact mN) ?_
   .simp
   .simp[laid,P3]
   .rfl
   .rfl
   rintro r0 B0 ⟨rfl,rfl⟩;refine⟨rfl,by simp[laid,P3],?_⟩;simp[-decide_eq_true_eq,-decide_eq_false_iff_not,laid,P3,Cr.pv,w1,w2,M5,cU,aP,sQ,CA,-aU];exact⟨_,_,iH,Sub.mk (by simp[R8]) (by simp[R8,Bk.cells,aT,aL];rw[<-jK];simp[aS]),cC⟩
  have he:i=b.aA.length:=by omega
  subst he;clear uT;rw[Zpf hb hn];simp[YH,R8,Bk.cells,aT,aL,hw,-aU];exact⟨_,_,aG,Sub.mk (by simp) (by simp[Bk.cells,aT,aL]),aB⟩
 have he:k=(b.held []).length:=by omega
 subst he;clear hJ;rw[Zpb];simp[-getElem?_pos,-List.getElem?_map,R8,Bk.cells,-aU];refine⟨[.loc 11 0],?_⟩;simp;rw[<-hR];exact⟨rfl,rfl⟩
end
section
attribute [local irreducible] Bk.held Bk.nums Bk.iA Bk.span
theorem Zh6 {b:Bk}(hb:b.ok){c:Ct}(hc:c∈b.aA)(h:c.num∈b.held []):(b.span (b.held []) c.num).lT 1000000000000:=by
 have k1:=XT hb c hc h;have k2:=xC hb hc;unfold Cr.lT at k1 ⊢;omega
theorem Zne (b:Bk)(hb:b.ok):aD prog 106 [b.pv] (.bool b.contra):=by
 have hlen:=Gq (b:=b) (bad:=[]);have gO:=hb.c;have K5:=Zrq b hb;obtain⟨P,hP⟩:∃P:Ct->Bool,P=fun c=>(b.held []).contains c.num&&decide ((b.kD (b.held []) (b.span (b.held [])) c.it c.day 1000).hi<(b.kD (b.held []) (b.span (b.held [])) c.it c.day 1000).lo):=⟨_,rfl⟩
 have hT:b.contra=(b.aA.take b.aA.length).any P:=by
  rw[mX,hP];rfl
 rw[hT];clear hT;obtain⟨T,hT⟩:∃T,(b.aA.take b.aA.length).any P=T:=⟨_,rfl⟩;rw[hT];refine cS L106 ?_;simp[L106,Bk.pv];refine xQ (gF:=[.pv b.pv]) (B:=[]) (fs:=[]) (cs:=[]) 8 [] ?_ rfl rfl rfl ?_ ?_ K5 ?_
 .simp
 .rfl
 .rfl
 rintro r0 B0 ⟨rfl,rfl⟩;refine⟨rfl,by simp,?_⟩;simp;refine eP (fun m τ=>∃k:Nat,k<=b.aA.length/\m=b.aA.length-k/\(b.aA.take k).any P=false/\τ=⟨[(1,.ptr (.loc 1 0) 0),(3,.ptr (.loc 8 0) 0),(4,.pv (.i k))],[(.loc 8 0,.cells (sB (b.span (b.held [])) (b.held []))),(.loc 1 0,.cells b.cells)]⟩)
  ⟨b.aA.length,⟨[(1,.ptr (.loc 1 0) 0),(3,.ptr (.loc 8 0) 0),(4,.pv (.i 0))],[(.loc 8 0,.cells (sB (b.span (b.held [])) (b.held []))),(.loc 1 0,.cells b.cells)]⟩,Sub.mk (by simp) (by simp[Bk.cells]),0,by omega,rfl,rfl,rfl⟩ ?_
 rintro J hJ m τ ⟨k,hk,rfl,hinv,rfl⟩;by_cases aJ:k<b.aA.length
 .obtain⟨o,ho,M4,qB⟩:=zV aJ;have hw:=bN (k:=k) (by omega);have aB:=fun h:P o=false=>hJ _ _ ⟨k+1,aJ,rfl,(by rw[XD ho,hinv,h];rfl),rfl⟩
  have PH:P o=true->T=true:=fun h=>by
   rw[<-hT,mX,oU];exact⟨o,M4,h⟩
  have aG:b.aA.length-(k+1)<b.aA.length-k:=by omega
  have jL:=xC hb M4;have hh:=wN (b.held []) o.num (by omega);have H6:P o=((b.held []).contains o.num&&decide ((b.kD (b.held []) (b.span (b.held [])) o.it o.day 1000).hi<(b.kD (b.held []) (b.span (b.held [])) o.it o.day 1000).lo)):=by rw[hP]
  have mN:=Zo b hb (b.span (b.held [])) (b.held []) (by omega) o.it o.day 1000 jL.2.2.1 jL.2.2.2.1 ⟨jL.2.2.2.2.2.2.2.2.1,jL.2.2.2.2.2.2.2.2.2.1⟩ (fun c hc h=>Zh6 hb hc h);generalize b.span (b.held [])=S at *;generalize b.kD (b.held []) S o.it o.day 1000=R at *;clear hJ hP jL;simp[-getElem?_pos,-List.getElem?_map,-decide_eq_true_eq,-decide_eq_false_iff_not,Bk.cells,aT,aL,aJ,qB];refine xQ (gF:=[.pv b.pv,.ptr (.par 0) 0,.pv (.i o.it),.pv (.i o.day),.pv (.i 1000)]) (B:=laid 0 (P3 S (b.held []))) (fs:=[]) (cs:=[]) 27 [.loc 8 0] ?_ rfl rfl ?_ ?_ ?_ mN ?_
  .simp
  .simp[laid,P3]
  .rfl
  .rfl
  rintro r0 B0 ⟨rfl,rfl⟩;refine⟨rfl,by simp[laid,P3],?_⟩;simp[-getElem?_pos,-List.getElem?_map,-decide_eq_true_eq,-decide_eq_false_iff_not,laid,P3,Cr.pv];refine AN (k:=0) (fs:=[]) (xs:=[.aE false 1 ((b.held []).map aO),.i o.num]) (cs:=[]) rfl rfl hh rfl ?_;cases e1:(b.held []).contains o.num
  .have aB:=aB (by rw[H6,e1];rfl);simp[-decide_eq_true_eq,-decide_eq_false_iff_not,hw];exact⟨_,_,aG,Sub.mk (by simp) (by simp[Bk.cells,aT,aL]),aB⟩
  cases e2:decide (R.hi<R.lo)
  .have aB:=aB (by rw[H6,e1,e2];rfl);simp[-decide_eq_true_eq,-decide_eq_false_iff_not,hw,e2];exact⟨_,_,aG,Sub.mk (by simp) (by simp[Bk.cells,aT,aL]),aB⟩
  have De:=PH (by rw[H6,e1,e2];rfl);subst De;simp[-decide_eq_true_eq,-decide_eq_false_iff_not,e2]
 have he:k=b.aA.length:=by omega
 subst he;rw[hinv]at hT;subst hT;simp[Bk.cells,aT,aL]
end


section
attribute [local irreducible] Bk.held Bk.nums Bk.iA Bk.span
end
section

attribute [local irreducible] Bk.held Bk.nums Bk.iA Bk.span
section
variable {b b':Bk}{t:Int}
theorem ZtB (hb:b.ok){item day:Int}(h:b.pU item day=true):(b.item item).gV=true\/∃o∈b.aA,Bk.pV item day 1000 o=true/\o.num∈b.held []:=by
 unfold Bk.pU at h;rw[rT,Zj2 hb,oU]at h;rcases h with h|⟨o,ho,h⟩
 .exact .inl h
 .rw[dK,jC]at h;exact .inr ⟨o,ho,h.1,h.2⟩
theorem Zre {item day:Int}(h:b.uY item day=0):b.pU item day=true:=by
 unfold Bk.uY at h;split at h
 .split at h
  .split at h
   .assumption
   .cases h
  .cases h
 .rename_i h0;exact absurd h h0
theorem Zrd {item day:Int}(h:b.uY item day=0):0<=item/\item<b.items.length/\0<=day/\day<=1000:=by
 unfold Bk.uY at h;split at h
 .split at h
  .rename_i h1;unfold Bk.uJ iZ at h1;simp only[dK,decide_eq_true_eq]at h1;omega
  .cases h
 .rename_i h0;exact absurd h h0
theorem ZmD (hb:b.ok)(item day:Int):(b.vA item day).1.lT 1000000000:=by
 unfold Bk.vA;split
 .rename_i h;split
  .unfold Cr.lT;simp only;omega
  .obtain⟨h1,h2,_⟩:=Zrd h
   have:=ZhD hb (held:=b.held []) (S:=b.span (b.held [])) (item:=item) (day:=day) (below:=1000) (A:=300000*1000) h1 h2 (by omega) (by omega) (ZtB hb (Zre h)) (fun o ho _ PZ=>by
    have:=XT hb o ho PZ
    have:=(xC hb ho).2.1
    unfold Cr.lT at *
    omega)
   show Cr.lT (b.kD (b.held []) (b.span (b.held [])) item day 1000) 1000000000;unfold Cr.lT at *;omega
 .unfold Cr.lT;simp only;omega
end
end
section
attribute [local irreducible] Bk.qG eR
theorem Zjo {y x:Int}{r:List Int}(h:y<x):dJ (y::r) x=dJ r x+1:=by
 unfold dJ;rw[xP,if_pos (by simpa using h)];rfl
theorem Zjp {y x:Int}{r:List Int}(hs:(y::r).Pairwise (·<·))(h:¬y<x):dJ (y::r) x=0:=by
 obtain⟨h1,_⟩:=I0.1 hs;unfold dJ;rw[xP,if_neg (by simpa using h)];rw[List.length_eq_zero_iff,List.filter_eq_nil_iff];intro z hz
 have:=h1 z hz
 simp;omega
theorem WS {l:List Int}{x:Int}:dJ l x<=l.length:=Q7 _ _
def lN {α:Type}(l:List α)(i:Nat)(x:α):List α:=l.take i++x::l.drop i
theorem Gr {α:Type}{l:List α}{i:Nat}{x z:α}:z∈lN l i x↔z=x\/z∈l:=by
 unfold lN;rw[sG,jO];constructor
 .rintro(h|h|h)
  .exact .inr (List.mem_of_mem_take h)
  .exact .inl h
  .exact .inr (List.mem_of_mem_drop h)
 .rintro(h|h)
  .exact .inr (.inl h)
  .rw[<-List.take_append_drop i l]at h;rcases sG.1 h with h|h
   .exact .inl h
   .exact .inr (.inr h)
theorem TC {α:Type}{l:List α}{i:Nat}{x:α}(h:i<=l.length):(lN l i x).length=l.length+1:=by
 unfold lN;rw[gD,pA,gN,uG];omega
theorem ZhF {α β:Type}{f:α->β}{l:List α}{i:Nat}{x:α}:(lN l i x).map f=lN (l.map f) i (f x):=by
 unfold lN;rw[mH,iN,List.map_take,List.map_drop]
theorem Zdz {x:Int}:∀{l:List Int},l.Pairwise (·<·)->x∉l->(lN l (dJ l x) x).Pairwise (·<·)
 |[],_,_=>by simp[lN,dJ]
 |y::r,hs,hn=>by
  obtain⟨h1,h2⟩:=I0.1 hs;by_cases hy:y<x
  .rw[Zjo hy];have ih:=Zdz h2 (fun h=>hn (List.mem_cons_of_mem _ h));show(y::lN r (dJ r x) x).Pairwise (·<·);refine I0.2 ⟨fun z hz=>?_,ih⟩;rcases Gr.1 hz with rfl|h
   .exact hy
   .exact h1 z h
  .rw[Zjp hs hy];show(x::y::r).Pairwise (·<·);have Af:x<y:=by
    have:x≠y:=fun e=>hn (by rw[e];exact List.mem_cons_self ..)
    omega
   refine I0.2 ⟨fun z hz=>?_,hs⟩;rcases jO.1 hz with rfl|h
   .exact Af
   .have:=h1 z h;omega
structure sI (k:Nat)(st:Wk):Prop where
 c:st.aA.length<=k
 b:st.bad.length<=k
 l:st.aN.length<=k
 t:st.aH.length<=k
 r:st.runs.length<=k
 bk:Bk.ok ⟨qV,st.aA⟩
 bs:st.bad.Pairwise (·<·)
 bn:∀n∈st.bad,∃y∈st.aA,y.num=n
 s:(st.aN.map Lt.num).Pairwise (·<·)
 lt:∀x∈st.aN,vU x/\0<=x.limit/\x.limit<=1000
 tt:∀t∈st.aH,2<=t.item/\t.item<=5/\0<=t.day/\t.day<=1000/\0<=t.rd/\t.rd<=2000/\∃x∈st.aN,x.num=t.fU
 on:∀r∈st.runs,∃h q o,r=pJ h q o/\1<=h/\h<=40/\0<=q/\q<=40/\1<=o/\o<=3
 r6:st.runs.length<=6
theorem ZiA:Bk.ok ⟨qV,[]⟩:=Bk.V3.1 (by decide)
theorem vD:sI 0 lD:=⟨fH _,fH _,fH _,fH _,fH _,ZiA,.nil,fun n h=>(by cases h),.nil,fun x h=>(by cases h),fun t h=>(by cases h),fun r h=>(by cases h),by decide⟩
theorem sI.mono {k k':Nat}{st:Wk}(h:sI k st)(hk:k<=k'):sI k' st:=
 ⟨lJ h.c hk,lJ h.b hk,lJ h.l hk,lJ h.t hk,lJ h.r hk,h.bk,h.bs,h.bn,h.s,h.lt,h.tt,h.on,h.r6⟩
theorem GF {l:List Ct}{bad:List Int}(h:Bk.ok ⟨qV,l⟩):(fD l bad).ok:=
 ⟨h.i,lJ (Q7 _ _) h.c,h.it,fun x hx=>h.ct x (iV.1 hx).1,fun x hx y hy=>h.one x (iV.1 hx).1 y (iV.1 hy).1,fun x hx y hy=>h.day x (iV.1 hx).1 y (iV.1 hy).1⟩
theorem sI.fit {k:Nat}{st:Wk}(h:sI k st):zG st.aA st.bad st.aH:=fun t ht=>by
 have h1:=ZmD (GF (bad:=st.bad) h.bk) t.item t.day;obtain⟨_,_,_,_,h2,h3,_⟩:=h.tt t ht;unfold Cr.lT at h1;exact wrap64 (by omega)
theorem sI.ok {k:Nat}{st:Wk}(h:sI k st)(hk:k<=150):F6 st:=
 ⟨by have:=h.c;omega,by have:=h.b;omega,by have:=h.l;omega,by have:=h.t;omega,by have:=h.r;omega,fun x hx=>(h.lt x hx).1,h.fit,fun r hr=>by
  obtain⟨a,b,c,rfl,_⟩:=h.on r hr;show 2<=1000
  omega⟩
theorem AJ {α β:Type}{r:Except Int α}{f:α->β}{w:β}(h:r.map f=.ok w):∃l,r=.ok l/\w=f l:=by
 cases r with
 |ok l=>cases h;exact⟨l,rfl,rfl⟩
 |error e=>cases h
theorem Zlm {l l':List Ct}{bad:List Int}{x:Ct}(h:lX l bad x=.ok l'):l'=l++[x]/\Bk.ok ⟨qV,l++[x]⟩/\(fD (l++[x]) bad).qG.2=7/\∀y∈l,y.num≠x.num:=by
 unfold lX at h;split at h
 .cases h
 .rename_i h0;split at h
  .rename_i h1;split at h
   .rename_i h2;cases h;refine⟨rfl,Bk.V3.1 h1,h2,fun y hy e=>h0 ?_⟩;exact oU.2 ⟨y,hy,by simpa using e⟩
   .cases h
  .cases h
theorem ZoO {l:List Ct}{bad b':List Int}{n:Int}(h:pR l bad n=.ok b'):(∃y∈l,y.num=n)/\n∉bad/\b'=lN bad (dJ bad n) n:=by
 unfold pR at h;split at h
 .rename_i h0;split at h
  .cases h
  .rename_i h1;cases h;obtain⟨y,hy,e⟩:=oU.1 h0;exact⟨⟨y,hy,by simpa using e⟩,h1,rfl⟩
 .cases h
theorem Zth {ls l':List Lt}{x:Lt}(h:pK ls x=.ok l'):(vU x/\0<=x.limit/\x.limit<=1000)/\x.num∉ls.map Lt.num/\l'=lN ls (dJ (ls.map Lt.num) x.num) x:=by
 unfold pK at h;split at h
 .rename_i h0;split at h
  .cases h
  .rename_i h1;cases h;simp only[dK,decide_eq_true_eq]at h0;exact⟨⟨⟨h0.1.1,h0.1.2,h0.2.1.1,h0.2.1.2⟩,h0.2.2⟩,h1,rfl⟩
 .cases h
theorem Zo4 {S:Int->Int->Bool}{v:Lt->Int}{ls:List Lt}{ts l':List Tt}{q:Tt}(h:kO S v ls ts q=.ok l'):l'=ts++[q]/\(2<=q.item/\q.item<=5/\0<=q.day/\q.day<=1000/\0<=q.rd/\q.rd<=2000)/\S q.item q.day=true/\∃x∈ls,x.num=q.fU/\x.passed=false/\v x=3/\(kR ts q.fU:Int)<x.pieces:=by
 unfold kO at h;split at h
 .rename_i h0;split at h
  .rename_i x hx;split at h
   .rename_i h1;split at h
    .cases h
    .rename_i h2;split at h
     .rename_i h3;split at h
      .rename_i h4;split at h
       .rename_i h5;cases h;simp only[dK,decide_eq_true_eq]at h0;exact⟨rfl,⟨h0.1.1,h0.1.2,h0.2.1.1,h0.2.1.2,h0.2.2.1,h0.2.2.2⟩,h5,x,dL hx,h1,by simpa using h2,h3,h4⟩
       .cases h
      .cases h
     .cases h
   .cases h
  .cases h
 .cases h
theorem ZpK {v:Lt->Int}{ls l':List Lt}{n:Int}(h:jI v ls n=.ok l'):∃i x,ls[i]?=some x/\x.num=n/\x.passed=false/\v x=1/\l'=ls.set i { x with passed:=true }:=by
 unfold jI at h;split at h
 .rename_i x hx;split at h
  .rename_i h1;split at h
   .cases h
   .rename_i h2;split at h
    .cases h
    .split at h
     .rename_i h4;cases h;exact⟨_,x,hx,h1,by simpa using h2,h4,rfl⟩
     .cases h
  .cases h
 .cases h
theorem Zm0 {F:Nat}{rs l':List Qn.Rq}{a r o:Int}(h:runM F rs a r o=.ok l'):l'=rs++[pJ a r o]/\(1<=a/\a<=40/\0<=r/\r<=40/\1<=o/\o<=3)/\rs.length<6/\eR F (uK (rs++[pJ a r o]))=0:=by
 unfold runM at h;split at h
 .rename_i h0;split at h
  .rename_i h1;split at h
   .rename_i h2;cases h;simp only[dK,decide_eq_true_eq]at h0;exact⟨rfl,⟨h0.1.1,h0.1.2,h0.2.1.1,h0.2.1.2,h0.2.2.1,h0.2.2.2⟩,h1,h2⟩
   .cases h
  .cases h
 .cases h
theorem ZmU {ls:List Lt}{i:Nat}{x:Lt}(h:ls[i]?=some x):(ls.set i { x with passed:=true }).map Lt.num=ls.map Lt.num:=by
 rw[List.map_set];apply List.ext_getElem?;intro j;rw[List.getElem?_set];split
 .rename_i e;subst e;obtain⟨hl,hx⟩:=cA.1 h;rw[fZ,if_pos hl,bX,h];rfl
 .rfl
theorem sI.step {F:Nat}{k:Nat}{st w:Wk}{g:FuncId}{nums:List Int}(h:sI k st)(hw:tF F st g nums=.ok w):sI (k+1) w:=by
 have h':=h.mono (Nat.le_succ k);unfold tF at hw;split at hw
 .split at hw
  .obtain⟨l,h1,rfl⟩:=AJ hw;obtain⟨rfl,h2,_,_⟩:=Zlm h1;exact⟨by rw[gD];exact Nat.succ_le_succ h.c,h'.b,h'.l,h'.t,h'.r,h2,h.bs,fun n hn=>by
    obtain⟨y,hy,e⟩:=h.bn n hn;exact⟨y,List.mem_append_left _ hy,e⟩,h.s,h.lt,h.tt,h.on,h.r6⟩
  .cases hw
 split at hw
 .split at hw
  .obtain⟨l,h1,rfl⟩:=AJ hw;obtain⟨h2,h3,rfl⟩:=ZoO h1;exact⟨h'.c,by rw[TC WS];exact Nat.succ_le_succ h.b,h'.l,h'.t,h'.r,h.bk,Zdz h.bs h3,fun n hn=>by
    rcases Gr.1 hn with rfl|hn
    .exact h2
    .exact h.bn n hn,h.s,h.lt,h.tt,h.on,h.r6⟩
  .cases hw
 split at hw
 .split at hw
  .obtain⟨l,h1,rfl⟩:=AJ hw;obtain⟨h2,h3,rfl⟩:=Zth h1;have hle:∀x,dJ (st.aN.map Lt.num) x<=(st.aN.map Lt.num).length:=fun x=>WS
   simp only[fZ]at hle;refine⟨h'.c,h'.b,by rw[TC (hle _)];exact Nat.succ_le_succ h.l,h'.t,h'.r,h.bk,h.bs,h.bn,?_,fun x hx=>?_,fun t ht=>?_,h.on,h.r6⟩
   .rw[ZhF];exact Zdz h.s h3
   .rcases Gr.1 hx with rfl|hx
    .exact h2
    .exact h.lt x hx
   .obtain⟨a1,a2,a3,a4,a5,a6,y,hy,e⟩:=h.tt t ht;exact⟨a1,a2,a3,a4,a5,a6,y,Gr.2 (.inr hy),e⟩
  .cases hw
 split at hw
 .split at hw
  .obtain⟨l,h1,rfl⟩:=AJ hw;obtain⟨rfl,h2,_,x,hx,h3,_⟩:=Zo4 h1;refine⟨h'.c,h'.b,h'.l,by rw[gD];exact Nat.succ_le_succ h.t,h'.r,h.bk,h.bs,h.bn,h.s,h.lt,fun t ht=>?_,h.on,h.r6⟩;rcases sG.1 ht with ht|ht
   .exact h.tt t ht
   .rw[rW]at ht;subst ht;obtain⟨a1,a2,a3,a4,a5,a6⟩:=h2;exact⟨a1,a2,a3,a4,a5,a6,x,hx,h3⟩
  .cases hw
 split at hw
 .split at hw
  .obtain⟨l,h1,rfl⟩:=AJ hw;obtain⟨i,x,hx,h2,h3,_,rfl⟩:=ZpK h1;have hm:∀y∈st.aN.set i { x with passed:=true },∃z∈st.aN,y.num=z.num/\y.pieces=z.pieces/\y.limit=z.limit:=fun y hy=>by
    rcases List.mem_or_eq_of_mem_set hy with hy|rfl
    .exact⟨y,hy,rfl,rfl,rfl⟩
    .exact⟨x,dL hx,rfl,rfl,rfl⟩
   refine⟨h'.c,h'.b,by rw[List.length_set];exact h'.l,h'.t,h'.r,h.bk,h.bs,h.bn,?_,fun y hy=>?_,fun t ht=>?_,h.on,h.r6⟩
   .rw[ZmU hx];exact h.s
   .obtain⟨z,hz,e1,e2,e3⟩:=hm y hy
    have:=h.lt z hz
    unfold vU at *;rw[e1,e2,e3];exact this
   .obtain⟨a1,a2,a3,a4,a5,a6,y,hy,e⟩:=h.tt t ht;refine⟨a1,a2,a3,a4,a5,a6,?_⟩
    have:y.num∈(st.aN.set i { x with passed:=true }).map Lt.num:=by rw[ZmU hx];exact List.mem_map_of_mem hy
    obtain⟨z,hz,e'⟩:=iJ.1 this;exact⟨z,hz,by rw[e',e]⟩
  .cases hw
 .split at hw
  .obtain⟨l,h1,rfl⟩:=AJ hw;obtain⟨rfl,h2,h3,_⟩:=Zm0 h1;refine⟨h'.c,h'.b,h'.l,h'.t,by rw[gD];exact Nat.succ_le_succ h.r,h.bk,h.bs,h.bn,h.s,h.lt,h.tt,fun r hr=>?_,by rw[gD];exact h3⟩;rcases sG.1 hr with hr|hr
   .exact h.on r hr
   .rw[rW]at hr;subst hr;exact⟨_,_,_,rfl,h2⟩
  .cases hw
theorem sI.next {F:Nat}{k:Nat}{st:Wk}(h:sI k st)(s:ByteArray):sI (k+1) (lI F st s).1:=by
 unfold lI pW;cases hp:O8 s with
 |none=>exact h.mono (Nat.le_succ k)
 |some q=>
  obtain⟨g,nums⟩:=q;dsimp only;cases hd:tF F st g nums with
  |error e=>exact h.mono (Nat.le_succ k)
  |ok w=>exact h.step hd
end
section

theorem Zvc {b:Bk}(hb:b.ok){item day:Int}(h0:0<=item)(h1:item<b.items.length)(h2:0<=day)(h3:day<=1000):b.uY item day=if b.pU item day=true then 0 else 10:=by
 unfold Bk.uY Bk.uJ iZ;rw[Bk.V3.2 hb,decide_eq_true h0,decide_eq_true (show item<=(b.items.length:Int)-1 by omega),decide_eq_true h2,decide_eq_true h3];rfl
attribute [local irreducible] Bk.held Bk.nums Bk.iA Bk.span
section
variable {b b':Bk}
structure F9 (b b':Bk):Prop where
 i:b'.items=b.items
 c:∀c∈b.aA,c∈b'.aA
theorem F9.item (h:F9 b b')(i:Int):b'.item i=b.item i:=by unfold Bk.item;rw[h.i]
theorem F9.held (hb:b.ok)(nM:b'.ok)(h:F9 b b'){x:Int}(hx:x∈b.held []):x∈b'.held []:=ZiD hb nM (fun c _=>h.item _) h.c (fun _ h=>h) hx
theorem F9.Zxv (hb:b.ok)(nM:b'.ok)(h:F9 b b')(item day below:Int):(b'.kD (b'.held []) (b'.span (b'.held [])) item day below).sub (b.kD (b.held []) (b.span (b.held [])) item day below):=
 Ziy (h.item _) h.c (fun x hx=>h.held hb nM hx) fun c hc _ hx=>ZmB hb nM (fun c _=>h.item _) h.c c hc hx
theorem F9.contra (hb:b.ok)(nM:b'.ok)(h:F9 b b')(hc:b.contra=true):b'.contra=true:=by
 unfold Bk.contra at hc ⊢;rw[oU]at hc ⊢;obtain⟨c,hc,e⟩:=hc;rw[dK,jC,decide_eq_true_eq]at e;refine⟨c,h.c c hc,?_⟩;have hs:=h.Zxv hb nM c.it c.day 1000;unfold Cr.sub at hs;rw[dK,jC,decide_eq_true_eq];exact⟨h.held hb nM e.1,by omega⟩
end
end
section
attribute [local irreducible] Bk.qG eR Bk.contra Bk.held Bk.span Bk.nums
theorem ZhT {bad:List Int}{x:Ct}:wW bad x=true↔x.num∈bad:=by
 unfold wW;simp
theorem Zla {l:List Ct}{bad:List Int}{x:Ct}:x∈fS l bad↔x∈l/\x.num∉bad:=by
 unfold fS;rw[iV];constructor
 .rintro⟨h1,h2⟩;refine⟨h1,fun h=>?_⟩;rw[ZhT.2 h]at h2;cases h2
 .rintro⟨h1,h2⟩;refine⟨h1,?_⟩;cases hb:wW bad x with
  |false=>rfl
  |true=>exact absurd (ZhT.1 hb) h2
theorem Zn9 {l:List Ct}{bad yS:List Int}(h:∀n∈bad,n∈yS):F9 (fD l yS) (fD l bad):=
 ⟨rfl,fun c hc=>by
  obtain⟨h1,h2⟩:=Zla.1 hc;exact Zla.2 ⟨h1,fun hh=>h2 (h _ hh)⟩⟩
theorem Zmd {l:List Ct}{bad yS:List Int}(hl:Bk.ok ⟨qV,l⟩)(h:∀n∈bad,n∈yS)(hc:(fD l bad).contra=false):(fD l yS).contra=false:=by
 cases hx:(fD l yS).contra with
 |false=>rfl
 |true=>rw[(Zn9 h).contra (GF hl) (GF hl) hx]at hc;cases hc
end
section
attribute [local irreducible] eR Bk.contra Bk.held Bk.span Bk.nums Bk.fault
theorem Zff {b:Bk}(hb:b.ok)(h:b.qG.2=7):b.contra=false:=by
 have hf:=Bk.V3.2 hb;unfold Bk.qG at h;rw[if_pos hf]at h;cases hc:b.contra with
 |false=>rfl
 |true=>rw[hc,if_pos rfl]at h;cases h
theorem Zsg {b:Bk}(hb:b.ok)(h:b.contra=false):b.qG=([],7):=by
 have hf:=Bk.V3.2 hb;unfold Bk.qG;rw[if_pos hf,h,if_neg (by decide)]
structure AP (st:Wk):Prop where
 nc:(fD st.aA st.bad).contra=false
 q:eR 408 (uK st.runs)=0
theorem AR:AP lD:=⟨Zff (b:=fD [] []) (GF ZiA) (by decide +kernel),by decide +kernel⟩
theorem AP.step {k:Nat}{st w:Wk}{g:FuncId}{nums:List Int}(h:sI k st)(j:AP st)(hw:tF 408 st g nums=.ok w):AP w:=by
 unfold tF at hw;split at hw
 .split at hw
  .obtain⟨l,h1,rfl⟩:=AJ hw;obtain⟨rfl,h2,h3,_⟩:=Zlm h1;exact⟨Zff (GF h2) h3,j.q⟩
  .cases hw
 split at hw
 .split at hw
  .obtain⟨l,h1,rfl⟩:=AJ hw;obtain⟨h2,h3,rfl⟩:=ZoO h1;exact⟨Zmd h.bk (fun n hn=>Gr.2 (.inr hn)) j.nc,j.q⟩
  .cases hw
 split at hw
 .split at hw
  .obtain⟨l,h1,rfl⟩:=AJ hw;exact⟨j.nc,j.q⟩
  .cases hw
 split at hw
 .split at hw
  .obtain⟨l,h1,rfl⟩:=AJ hw;exact⟨j.nc,j.q⟩
  .cases hw
 split at hw
 .split at hw
  .obtain⟨l,h1,rfl⟩:=AJ hw;exact⟨j.nc,j.q⟩
  .cases hw
 .split at hw
  .obtain⟨l,h1,rfl⟩:=AJ hw;obtain⟨rfl,_,_,h4⟩:=Zm0 h1;exact⟨j.nc,h4⟩
  .cases hw
theorem AP.next {k:Nat}{st:Wk}(h:sI k st)(j:AP st)(s:ByteArray):AP (lI 408 st s).1:=by
 unfold lI pW;cases hp:O8 s with
 |none=>exact j
 |some q=>
  obtain⟨g,nums⟩:=q;dsimp only;cases hd:tF 408 st g nums with
  |error e=>exact j
  |ok w=>exact j.step h hd
theorem Lh:∀{l:List ByteArray} {k:Nat} {st:Wk},sI k st->AP st->sI (k+l.length) (dA (lI 408) st l).1/\AP (dA (lI 408) st l).1
 |[],k,st,h,j=>⟨h,j⟩
 |x::l,k,st,h,j=>by
  have:=Lh (l:=l) (h.next (F:=408) x) (j.next h x)
  rw[show k+1+l.length=k+(x::l).length by rw[pA];omega]at this;exact this
end
section
attribute [local irreducible] Bk.qG eR Bk.contra Bk.held Bk.span Bk.nums Bk.pU
theorem Zlp {b:Bk}{i d:Int}:(b.j3 i d).2=b.uY i d:=by
 unfold Bk.j3;split
 .rename_i h;rw[h]
  split<;>rfl
 .rfl
end
def rM (S:Int->Int->Bool)(G:Tt->Bool)(num:Int):List Tt->List Bool->Int×Nat
 |[],rs=>(3,rs.length)
 |t::l,rs=>if t.fU=num/\S t.item t.day=true then(if(cY (rs++[!G t])).1=3 then rM S G num l (rs++[!G t])else((cY (rs++[!G t])).1,(rs++[!G t]).length))else rM S G num l rs
theorem Ztf {S:Int->Int->Bool}{G:Tt->Bool}{num:Int}{rs:List Bool}:rM S G num [] rs=(3,rs.length):=rfl
theorem Zhx {S:Int->Int->Bool}{G:Tt->Bool}{num:Int}{t:Tt}{l:List Tt}{rs:List Bool}:rM S G num (t::l) rs=if t.fU=num/\S t.item t.day=true then(if(cY (rs++[!G t])).1=3 then rM S G num l (rs++[!G t])else((cY (rs++[!G t])).1,(rs++[!G t]).length))else rM S G num l rs:=rfl
theorem Lu {S:Int->Int->Bool}{G:Tt->Bool}{num:Int}:∀{l:List Tt} {rs:List Bool},(rM S G num l rs).1=iB S G num l rs
 |[],rs=>rfl
 |t::l,rs=>by
  rw[Zhx,Zgn];split
  .split
   .exact Lu
   .rfl
  .exact Lu
def lB (rs:List Bool):Prop:=rs.length<2\/(rs.length<4/\eD (dE (rs.take 2)) 0 2=3)
theorem ZkH:lB []:=.inl (by decide)
theorem lB.len {rs:List Bool}(h:lB rs):rs.length<=3:=by
 rcases h with h|⟨h,_⟩<;>omega
theorem lB.step {rs:List Bool}(h:lB rs)(b:Bool):(cY (rs++[b])).2.2=0/\((cY (rs++[b])).1=3->lB (rs++[b])):=by
 have hl:(rs++[b]).length=rs.length+1:=by rw[gD];rfl
 rcases h with h|⟨h4,hs⟩
 .by_cases h1:rs.length+1<2
  .unfold cY lB;rw[hl,if_pos h1];exact⟨rfl,fun _=>.inl h1⟩
  .have h2:rs.length+1=2:=by omega
   unfold cY lB;rw[hl,if_neg h1,h2];by_cases h3:eD (dE ((rs++[b]).take 2)) 0 2=3
   .rw[if_pos h3,if_pos (by decide)];exact⟨rfl,fun _=>.inr ⟨by decide,h3⟩⟩
   .rw[if_neg h3,if_neg (by decide)];exact⟨rfl,fun h=>absurd h h3⟩
 .by_cases h1:rs.length<2
  .by_cases H7:rs.length+1<2
   .unfold cY lB;rw[hl,if_pos H7];exact⟨rfl,fun _=>.inl H7⟩
   .have h2:rs.length+1=2:=by omega
    unfold cY lB;rw[hl,if_neg H7,h2];by_cases h3:eD (dE ((rs++[b]).take 2)) 0 2=3
    .rw[if_pos h3,if_pos (by decide)];exact⟨rfl,fun _=>.inr ⟨by decide,h3⟩⟩
    .rw[if_neg h3,if_neg (by decide)];exact⟨rfl,fun h=>absurd h h3⟩
  .have ht:(rs++[b]).take 2=rs.take 2:=List.take_append_of_le_length (by omega);unfold cY lB;rw[hl,if_neg (by omega),ht,if_pos hs];by_cases h3:rs.length+1<4
   .rw[if_pos h3];exact⟨rfl,fun _=>.inr ⟨h3,hs⟩⟩
   .rw[if_neg h3,if_neg (by omega)];refine⟨rfl,fun h=>?_⟩;exfalso;revert h;show eD _ 1 2≠3;unfold eD;split
    .decide
    .split
     .decide
     .omega
def tQ (len:Nat)(ds:List UInt8):Option Nat:=if ds.length=0\/9<ds.length\/(ds.head?=some 48/\1<len)then none else Lib.decFrom 0 ds
def yD (s:ByteArray):Option Int:=match s.data.toList with
 |45::r=>(tQ (r.length+1) r).map fun(n:Nat)=>-(n:Int)
 |l=>(tQ l.length l).map fun(n:Nat)=>(n:Int)
theorem Oq {b:UInt8}:∀{l:List UInt8} {acc:Nat},Lib.decFrom acc (l++[b])=(Lib.decFrom acc l).bind fun n=>(Lib.digitVal b).map fun d=>n*10+d
 |[],acc=>by
  simp only[List.nil_append,Lib.decFrom,Option.bind_some];cases Lib.digitVal b<;>rfl
 |x::l,acc=>by
  simp only[List.cons_append,Lib.decFrom];cases Lib.digitVal x with
  |none=>rfl
  |some d=>exact Oq (l:=l)
theorem Yg {d:Nat}(h:d<10):Lib.digitVal (UInt8.ofNat (48+d))=some d:=by
 unfold Lib.digitVal;have e:(UInt8.ofNat (48+d)).toNat=48+d:=by rw[UInt8.toNat_ofNat'];omega
 rw[e,if_pos (by omega)];congr 1;omega
theorem ZrD {b:UInt8}{d:Nat}(h:Lib.digitVal b=some d):d<10/\b=UInt8.ofNat (48+d):=by
 unfold Lib.digitVal at h;split at h
 .rename_i hb;cases h;refine⟨by omega,UInt8.toNat_inj.1 ?_⟩;rw[UInt8.toNat_ofNat'];omega
 .cases h
theorem TA {u:Nat}(h:u<10):Lib.decDigits u=[UInt8.ofNat (48+u)]:=Lib.decDigits_one h
theorem Fy {u:Nat}(h:¬u<10):Lib.decDigits u=Lib.decDigits (u / 10)++[UInt8.ofNat (48+u%10)]:=by
 conv=>lhs;rw[Lib.decDigits,dif_neg h]
theorem ZhM (u:Nat):Lib.decFrom 0 (Lib.decDigits u)=some u:=by
 induction u using Nat.strongRecOn with
 |_ u ih=>
  by_cases h:u<10
  .rw[TA h];simp only[Lib.decFrom,Yg h];congr 1;omega
  .rw[Fy h,Oq,ih (u / 10) (by omega),Option.bind_some,Yg (Nat.mod_lt _ (by decide)),uW];congr 1;omega
theorem SV (u:Nat):Lib.decDigits u≠[]:=by
 by_cases h:u<10
 .rw[TA h];simp
 .rw[Fy h];simp
theorem Zqy (u:Nat):(Lib.decDigits u).head?=some 48->u=0:=by
 induction u using Nat.strongRecOn with
 |_ u ih=>
  intro hh;by_cases h:u<10
  .rw[TA h]at hh;simp only[List.head?_cons,Option.some.injEq]at hh
   have:=congrArg UInt8.toNat hh
   rw[UInt8.toNat_ofNat']at this;have e:(48:UInt8).toNat=48:=rfl;omega
  .rw[Fy h]at hh;have h2:(Lib.decDigits (u / 10)++[UInt8.ofNat (48+u%10)]).head?=(Lib.decDigits (u / 10)).head?:=by
    cases hd:Lib.decDigits (u / 10)with
    |nil=>exact absurd hd (SV _)
    |cons c t=>rfl
   rw[h2]at hh
   have:=ih (u / 10) (by omega) hh
   omega
theorem canon:∀(k:Nat) (ds:List UInt8) (n:Nat),ds.length<=k->Lib.decFrom 0 ds=some n->ds≠[]->(ds.head?=some 48->ds.length=1)->ds=Lib.decDigits n
 |0,ds,n,hk,_,cZ,_=>absurd (List.length_eq_zero_iff.1 (by omega)) cZ
 |k+1,ds,n,hk,hf,cZ,hh=>by
  obtain⟨l,b,rfl⟩:∃l b,ds=l++[b]:=⟨ds.dropLast,ds.getLast cZ,(List.dropLast_concat_getLast cZ).symm⟩;rw[Oq]at hf;rw[gD,List.length_singleton]at hk;cases hl:Lib.decFrom 0 l with
  |none=>rw[hl]at hf;cases hf
  |some v=>
   rw[hl,Option.bind_some]at hf;obtain⟨d,hd,rfl⟩:=eA.1 hf;obtain⟨tV,rfl⟩:=ZrD hd;by_cases qO:l=[]
   .subst qO;cases hl;rw[Nat.zero_mul,rV,TA tV];rfl
   .have Un:l.head?≠some 48:=fun e=>by
     have h1:(l++[UInt8.ofNat (48+d)]).head?=some 48:=by
      cases l with
      |nil=>exact absurd rfl qO
      |cons c t=>exact e
     have h2:=hh h1;rw[gD,List.length_singleton]at h2;exact qO (List.length_eq_zero_iff.1 (by omega))
    have gO:=canon k l v (by omega) hl qO (fun e=>absurd e Un);have hv:v≠0:=fun e=>by
     subst e;rw[gO]at Un;exact Un (by rw[TA (by decide)];rfl)
    rw[Fy (by omega),show(v*10+d) / 10=v by omega,show(v*10+d)%10=d by omega,<-gO]
theorem ZkT {len:Nat}{ds:List UInt8}{n:Nat}(hlen:ds.length<=len)(h:tQ len ds=some n):ds=Lib.decDigits n/\ds.length<=9/\(1<len->ds.head?≠some 48):=by
 unfold tQ at h;split at h
 .cases h
 .rename_i hc;have h1:ds.length≠0:=fun e=>hc (.inl e)
  have h2:ds.length<=9:=Nat.le_of_not_lt fun e=>hc (.inr (.inl e))
  have h3:1<len->ds.head?≠some 48:=fun hl e=>hc (.inr (.inr ⟨e,hl⟩))
  refine⟨canon ds.length ds n (fH _) h (fun e=>h1 (by rw[e];rfl)) (fun e=>?_),h2,h3⟩;by_cases hl:1<len
  .exact absurd e (h3 hl)
  .omega
theorem ZnR {len u:Nat}(hlen:len=1->u<10)(h:(Lib.decDigits u).length<=9)(h0:1<len->u≠0\/len=(Lib.decDigits u).length):tQ len (Lib.decDigits u)=some u:=by
 unfold tQ;rw[if_neg,ZhM];rintro(e|e|⟨e1,e2⟩)
 .exact SV u (List.length_eq_zero_iff.1 e)
 .omega
 .have:=Zqy u e1
  subst this;rcases h0 e2 with h|h
  .exact h rfl
  .rw[h,TA (by decide)]at e2;exact absurd e2 (by decide)
theorem Zrb (k:Nat)(h:(Lib.decDigits k).length<=9):Lib.atoiAll (Lib.decDigits k)=.ok (k:Int):=by
 rw[Lib.atoiAll_short _ (by omega)];have mK:=Lg k;have hf:=ZhM k;have cZ:=SV k;cases hd:Lib.decDigits k with
 |nil=>exact absurd hd cZ
 |cons c r=>
  rw[hd]at hf;have h45:c≠45:=mK c (by rw[hd];exact List.mem_cons_self ..);have h43:c≠43:=fun e=>by
   subst e;simp only[Lib.decFrom]at hf
   have:Lib.digitVal 43=none:=by decide
   rw[this]at hf;cases hf
  have e45:(c==45)=false:=by simpa using h45
  have e43:(c==43)=false:=by simpa using h43
  simp only[Lib.atoi,e45,e43,Lib.decNat,List.isEmpty_cons,Bool.false_eq_true,if_false,hf,uW];rfl
theorem Zra (k:Nat)(h:(Lib.decDigits k).length<=9):Lib.atoiAll (45::Lib.decDigits k)=.ok (-(k:Int)):=by
 rw[Lib.atoiAll_short _ (by rw[pA];omega)];have hf:=ZhM k;have cZ:=SV k;have he:(Lib.decDigits k).isEmpty=false:=by
  cases hd:Lib.decDigits k with
  |nil=>exact absurd hd cZ
  |cons c r=>rfl
 simp only[Lib.atoi,Lib.decNat,he,Bool.false_eq_true,if_false,hf,uW];rfl
theorem Zkd (k:Nat):Lib.trimPrefix (Lib.decDigits k) [45]=Lib.decDigits k:=by
 have mK:=Lg k;cases hd:Lib.decDigits k with
 |nil=>rfl
 |cons c r=>
  have hc:c≠45:=mK c (by rw[hd];exact List.mem_cons_self ..);simp[Lib.trimPrefix,Lib.hasPrefix]
  try exact fun e=>absurd e.symm hc
theorem Zkc (l:List UInt8):Lib.trimPrefix (45::l) [45]=l:=by simp[Lib.trimPrefix,Lib.hasPrefix]
theorem ZnI {s:ByteArray}{v:Int}(h1:s.data.toList=Lib.itoa v)(h2:Lib.atoiAll (Lib.itoa v)=.ok v)(h3:(Lib.trimPrefix (Lib.itoa v) [45]).length<=9):lL s=some v:=by
 unfold lL;rw[h1,h2];have e:wA v=s:=by
  unfold wA;rw[<-h1]
 have e2:(trimB s ⟨#[45]⟩).size<=9:=by
  show(Lib.trimPrefix s.data.toList [45]).length<=9;rw[h1];exact h3
 exact if_pos ⟨e,e2⟩
theorem ZuE {s:ByteArray}{v:Int}(h:yD s=some v):lL s=some v:=by
 unfold yD at h;split at h
 .rename_i r hr;obtain⟨n,hn,rfl⟩:=eA.1 h;obtain⟨g1,g2,g3⟩:=ZkT (Nat.le_succ _) hn;have xJ:n≠0:=fun e=>by
   subst e
   have:r.length≠0:=fun e=>by
    unfold tQ at hn;rw[if_pos (.inl e)]at hn;cases hn
   exact g3 (by omega) (by rw[g1,TA (by decide)];rfl)
  have hi:Lib.itoa (-(n:Int))=45::Lib.decDigits n:=Lib.itoa_neg n (by omega);rw[g1]at g2;exact ZnI (by rw[hi,hr,g1]) (by rw[hi];exact Zra n g2) (by rw[hi,Zkc];exact g2)
 .rename_i l hl;obtain⟨n,hn,rfl⟩:=eA.1 h;obtain⟨g1,g2,_⟩:=ZkT (fH _) hn;have hi:Lib.itoa (n:Int)=Lib.decDigits n:=Lib.itoa_nonneg n;have FD:=g2;rw[g1]at FD;exact ZnI (by rw[hi,<-g1]) (by rw[hi];exact Zrb n FD) (by rw[hi,Zkd];exact FD)
theorem ZuF {s:ByteArray}{v:Int}(h:lL s=some v):yD s=some v:=by
 unfold lL at h;split at h
 .split at h
  .rename_i u _ hc;cases h;obtain⟨h1,h2⟩:=hc;have hs:s.data.toList=Lib.itoa v:=by rw[<-h1];rfl
   have h3:(Lib.trimPrefix s.data.toList [45]).length<=9:=h2;rw[hs]at h3;unfold yD;rw[hs];by_cases Tl:v<0
   .obtain⟨k,rfl⟩:∃k:Nat,v = -(k:Int):=⟨v.natAbs,by omega⟩;rw[Lib.itoa_neg k (by omega)]at h3 ⊢;rw[Zkc]at h3;show(tQ ((Lib.decDigits k).length+1) (Lib.decDigits k)).map (fun(n:Nat)=>-(n:Int))=_;rw[ZnR (fun e=>absurd e (by have:=List.length_pos_iff.2 (SV k);omega)) h3 (fun _=>.inl (by omega))];rfl
   .obtain⟨k,rfl⟩:∃k:Nat,v=(k:Int):=⟨v.toNat,by omega⟩;rw[Lib.itoa_nonneg]at h3 ⊢;rw[Zkd]at h3;have hm:=ZnR (len:=(Lib.decDigits k).length) (u:=k) (fun e=>by
     by_cases hk:k<10
     .exact hk
     .rw[Fy hk,gD,List.length_singleton]at e
      have:=List.length_pos_iff.2 (SV (k / 10))
      omega) h3 (fun _=>.inr rfl)
    have mK:=Lg k;cases hd:Lib.decDigits k with
    |nil=>exact absurd hd (SV k)
    |cons c r=>
     rw[hd]at hm;have hc:c≠45:=mK c (by rw[hd];exact List.mem_cons_self ..);split
     .rename_i r' e;exact absurd (List.cons.inj e).1 hc
     .rw[hm];rfl
  .cases h
 .cases h
theorem ZuD (s:ByteArray):yD s=lL s:=by
 cases h:yD s with
 |some v=>exact(ZuE h).symm
 |none=>
  cases h2:lL s with
  |none=>rfl
  |some v=>rw[ZuF h2]at h;cases h
def I7:List UInt8->List (List UInt8)
 |[]=>[[]]
 |c::r=>if c=32 then[]::I7 r else match I7 r with
  |h::t=>(c::h)::t
  |[]=>[[c]]
theorem Ib (c:UInt8)(r:List UInt8):I7 (c::r)=if c=32 then[]::I7 r else match I7 r with
  |h::t=>(c::h)::t
  |[]=>[[c]]:=rfl
theorem Zk5:∀l:List UInt8,(Lib.index l [32] = -1/\I7 l=[l])\/∃i:Nat,Lib.index l [32]=(i:Int)/\i<l.length/\I7 l=l.take i::I7 (l.drop (i+1))
 |[]=>.inl ⟨by decide,rfl⟩
 |c::r=>by
  by_cases hc:c=32
  .subst hc;refine .inr ⟨0,?_,by simp,?_⟩
   .simp[Lib.index]
   .simp[I7]
  .have hp:([32]:List UInt8).isPrefixOf (c::r)=false:=by
    simp[List.isPrefixOf];exact fun e=>absurd e.symm hc
   rcases Zk5 r with⟨h1,h2⟩|⟨i,h1,h2,h3⟩
   .refine .inl ⟨?_,?_⟩
    .unfold Lib.index;rw[hp,h1];rfl
    .rw[Ib,if_neg hc,h2]
   .refine .inr ⟨i+1,?_,by rw[pA];omega,?_⟩
    .unfold Lib.index;rw[hp,h1]
     have:((i:Int)==-1)=false:=by
      rw[beq_eq_false_iff_ne];omega
     rw[this];simp
    .rw[Ib,if_neg hc,h3];rfl
theorem Zki:∀(k:Nat) (l:List UInt8),Lib.count l [32]=k->Lib.splitK [32] 0 k l=I7 l
 |k,l,hk=>by
  rcases Zk5 l with⟨h1,h2⟩|⟨i,h1,h2,h3⟩
  .have h0:k=0:=by rw[<-hk];exact Lib.count_miss h1
   subst h0;rw[h2];rfl
  .have hc:=Lib.count_hit (s:=l) (sub:=[32]) (by simp) h1;rw[hk]at hc;cases k with
   |zero=>omega
   |succ k=>
    have VJ:Lib.count (l.drop (i+[32].length)) [32]=k:=by omega
    have ih:=Zki k (l.drop (i+1)) VJ;unfold Lib.splitK;rw[h1]
    have:((i:Int)==-1)=false:=by
     rw[beq_eq_false_iff_ne];omega
    rw[this,h3];simp only[Bool.false_eq_true,if_false,Nat.add_zero,List.length_singleton,H9];rw[ih]
termination_by k=>k
theorem Zo9 (s:ByteArray):(xT s blank).map (·.data.toList)=I7 s.data.toList:=by
 unfold xT;rw[Lib.splitB_data];exact Zki _ _ rfl
section

theorem Zfh:∀{l r:List UInt8},(∀c∈l,c≠32)->I7 (l++32::r)=l::I7 r
 |[],r,_=>by
  rw[List.nil_append,Ib,if_pos rfl]
 |c::l,r,h=>by
  rw[List.cons_append,Ib,if_neg (h c (List.mem_cons_self ..)),Zfh (fun x hx=>h x (List.mem_cons_of_mem _ hx))]
theorem Zfi:∀{l:List UInt8},(∀c∈l,c≠32)->I7 l=[l]
 |[],_=>rfl
 |c::l,h=>by
  rw[Ib,if_neg (h c (List.mem_cons_self ..)),Zfi (fun x hx=>h x (List.mem_cons_of_mem _ hx))]
theorem Zme {a b:ByteArray}(h:a.data.toList=b.data.toList):a=b:=ByteArray.ext (yZ.1 h)
theorem ZeQ:∀{l m:List ByteArray},l.map (·.data.toList)=m.map (·.data.toList)->l=m
 |[],[],_=>rfl
 |[],b::m,h=>by cases h
 |a::l,[],h=>by cases h
 |a::l,b::m,h=>by
  simp only[iN,List.cons.injEq]at h;rw[Zme h.1,ZeQ h.2]
attribute [local irreducible] Bk.qG eR Bk.contra Bk.held Bk.span Bk.nums Bk.pU stM iB
end
section
open Go.RowKit Go.Shelf
theorem Ms {P:Program}(w:World)(dT sT ty elem:TypeId){k:Nat}(g q dl dc sl sc:Nat)(a:Addr)(cs:Array Value)(T:TypeId)(ds:List Value)(hu:P.underlying dT=some (.slice elem))(hs:eI P elem=some k)
  (hg:w.heap[g]?=some (.cells cs T (0,0))) (hl:ds.length=Nat.min sl dl*k) (Sl:∀j v,ds[j]?=some v->w.cell? (a.add j)=some v) (dF:q+ds.length<=cs.size) (h1:∀v∈ds,v.oneCell'=true):
  (Builtin.copy_ #[dT,sT] ty #[.slice (some ⟨g,q,none⟩) dl dc,.slice (some a) sl sc]).run P w=.ok (goInt (Nat.min sl dl)) (w.setRow g (aS cs.toList q ds).toArray):=by
 have HV:=run_loadCells_list (P:=P) w a ds Sl;have bU:=run_storeCells_at P g q T ds 0 cs w hg (by simpa using dF) h1;simp only[Nat.add_zero]at bU;simp[Builtin.copy_,run_underlying hu,Builtin.lenOf,Builtin.firstCells,Go.Proofs.YtlllhbmbnjnoiaaGreatDoor.run_sizeOf hs,<-hl,HV,bU,aS]
def EB (TE:TypeId)(k b n:Nat)(Ki:List Value)(w:World)(e:Ending)(w':World):Prop:=
 ∃b' o' c' iI,e=.returned (.slice (some ⟨b',o',none⟩) (n+1) c')/\w'.heap[b']?=some (.cells iI TE (0,0))/\(∀j,j<(n+1)*k->iI[o'+j]?=Ki[j]?)/\o'+c'*k<=iI.size/\n+1<=c'/\c'<=maxLen/\(b'=b\/w.heap.size<=b')/\cV [b] w w'
theorem zL {a b:Nat}(h:a<=b):Nat.min a b=a:=Nat.min_eq_left h
theorem LK {a b:Nat}(h:b<=a):Nat.min a b=b:=Nat.min_eq_right h
theorem Gd (w:World)(bs:List Nat):cV bs w w.drew:=⟨rfl,rfl,rfl,fH _,fun _ _ _=>rfl⟩
structure W4 (f:FuncId)(S T:TypeId)(k:Nat):Prop where
 pos:0<k
 A6:prog.underlying S=some (.slice T)
 Iz:eI prog T=some k
 inf:∃i z,prog.info? T=some i/\i.zero=some z/\i.size=k/\(i.bytes=8\/i.bytes=32)/\z.cells.size=k
 last:∀(base:Option Addr) (n c vb vo vc:Nat) (w W2:World) (R:Value) (E:Ending->World->Prop),n<=c->c<=maxLen->(base=none->n=0/\c=0)->(∀ty,(Builtin.append_ #[S,S] ty #[.slice base n c,.slice (some ⟨vb,vo,none⟩) 1 vc]).run prog w=.ok R W2)->E (.returned R) W2->
  Calls prog f #[.slice base n c,.i n,.slice (some ⟨vb,vo,none⟩) 1 vc] w E
 shift:∀(b o n c i vb vo vc:Nat) (cb cv:Array Value) (w W1 W2:World) (E:Ending->World->Prop),w.heap[b]?=some (.cells cb T (0,0))->w.heap[vb]?=some (.cells cv T (0,0))->vb≠b->i<n->n+1<=c->o+c*k<=cb.size->c<=maxLen->
  (∀ty q q' dl dc sl sc,q=o+(i+1)*k->q'=o+i*k->dl=n+1-(i+1)->sl=n+1-i->(Builtin.copy_ #[S,S] ty #[.slice (some ⟨b,q,none⟩) dl dc,.slice (some ⟨b,q',none⟩) sl sc]).run prog w.drew=.ok (goInt ((n-i:Nat):Int)) W1)->
  (∀ty q dl dc,q=o+i*k->dl=n+1-i->(Builtin.copy_ #[S,S] ty #[.slice (some ⟨b,q,none⟩) dl dc,.slice (some ⟨vb,vo,none⟩) 1 vc]).run prog W1=.ok (goInt 1) W2)->E (.returned (.slice (some ⟨b,o,none⟩) (n+1) c)) W2->
  Calls prog f #[.slice (some ⟨b,o,none⟩) n c,.i i,.slice (some ⟨vb,vo,none⟩) 1 vc] w E
 grow:∀(b o n c i vb vo vc G:Nat) (uN C2 C3:Array Value) (w:World) (E:Ending->World->Prop),i<n->c<n+1->n<=c->n<=1000000->n+1<=G->G<=maxLen->
  (∀ty (j:Int),j=((n+1-i:Nat):Int)->(Builtin.append_ #[S,3] ty #[.slice (some ⟨b,o,none⟩) i c,.i j]).run prog w=.ok (.slice (some ⟨w.heap.size,0,none⟩) (n+1) G) (w.drew.alloc (.cells uN T)))->
  (∀(W:World),W.heap=(w.drew.alloc (.cells uN T)).heap->∀ty q dl dc,q=i*k->dl=n+1-i->(Builtin.copy_ #[S,S] ty #[.slice (some ⟨w.heap.size,q,none⟩) dl dc,.slice (some ⟨vb,vo,none⟩) 1 vc]).run prog W=.ok (goInt 1) (W.setRow w.heap.size C2))->
  (∀(W:World),W.heap=((w.drew.alloc (.cells uN T)).setRow w.heap.size C2).heap->∀ty q q' dl dc sl sc,q=(i+1)*k->q'=o+i*k->dl=n+1-(i+1)->sl=n-i->
   (Builtin.copy_ #[S,S] ty #[.slice (some ⟨w.heap.size,q,none⟩) dl dc,.slice (some ⟨b,q',none⟩) sl sc]).run prog W=.ok (goInt ((n-i:Nat):Int)) (W.setRow w.heap.size C3))->
  E (.returned (.slice (some ⟨w.heap.size,0,none⟩) (n+1) G)) ((((w.drew.alloc (.cells uN T)).setRow w.heap.size C2).drew).setRow w.heap.size C3)->
  Calls prog f #[.slice (some ⟨b,o,none⟩) n c,.i i,.slice (some ⟨vb,vo,none⟩) 1 vc] w E
theorem Zts {f:FuncId}{S T:TypeId}{k:Nat}(F:W4 f S T k)(b o n c vb vo vc:Nat)(cb:Array Value)(dV news:List Value)(w:World)(hb:w.heap[b]?=some (.cells cb T (0,0)))(eQ:n+1<=c)(dF:o+c*k<=cb.size)(E6:c<=maxLen)
  (p5:dV.length=n*k) (G8:∀j v,dV[j]?=some v->cb[o+j]?=some v) (sR:news.length=k) (G9:∀j v,news[j]?=some v->w.cell? ⟨vb,vo+j,none⟩=some v) (h1:∀v∈news,v.oneCell'=true):
  Calls prog f #[.slice (some ⟨b,o,none⟩) n c,.i n,.slice (some ⟨vb,vo,none⟩) 1 vc] w (EB T k b n (dV++news) w):=by
 have hk:=F.pos;have E1:=Nat.add_one_mul n k;have E4:=I4 k eQ;have DC:c<=9223372036854775807:=by unfold maxLen at E6;omega
 obtain⟨i,z,hi,hz,fI,Z7,tS⟩:=F.inf;have hf:(Builtin.firstCells i.size 1 (.slice (some ⟨vb,vo,none⟩) 1 vc)).run prog w=.ok news.toArray w:=by
  rw[fI];exact run_firstCells_some (P:=prog) w k 1 ⟨vb,vo,none⟩ 1 vc news (by omega) (fun j u hj=>by rw[Addr.add_lit];exact G9 j u hj)
 have dG:∀ty,(Builtin.append_ #[S,S] ty #[.slice (some ⟨b,o,none⟩) n c,.slice (some ⟨vb,vo,none⟩) 1 vc]).run prog w=_:=fun ty=>
  Zgr (P:=prog) (w:=w) (ty:=ty) F.A6 hi b o n c cb hb (some ⟨vb,vo,none⟩) 1 vc news hf h1 eQ (by rw[fI];omega)
 have gO:cb.toList.length=cb.size:=uX;have fin:EB T k b n (dV++news) w (.returned (.slice (some ⟨b,o,none⟩) (n+1) c)) (w.setRow b (aS cb.toList (o+n*k) news).toArray):=by
  refine⟨b,o,c,_,rfl,setRow_heap w b cb _ _ _ hb,fun j hj=>?_,?_,eQ,E6,.inl rfl,cV.setRow w _ _⟩
  .rw[I3,A2 (by omega),yX,O5];split
   .rename_i h;rw[if_pos (by omega)];have hv:=bC (show j<dV.length by omega);rw[hv];exact G8 j _ hv
   .rename_i h;rw[if_pos (by omega),if_neg (by omega)];congr 1;omega
  .rw[yY,V6 (by omega),gO];exact dF
 rw[fI]at dG;exact F.last _ _ _ _ _ _ _ _ _ _ (by omega) E6 (fun h=>by cases h) dG fin
theorem Zn5 {f:FuncId}{S T:TypeId}{k:Nat}(F:W4 f S T k)(b:Nat)(base:Option Addr)(n c vb vo vc:Nat)(dV news:List Value)(w:World)(eQ:c<n+1)(hn:n<=1000000)(qO:base=none->n=0/\c=0)(mB:n<=c)
  (p5:dV.length=n*k) (G8:∀j v,dV[j]?=some v->∃A,base=some A/\w.cell? (A.add j)=some v) (sR:news.length=k) (G9:∀j v,news[j]?=some v->w.cell? ⟨vb,vo+j,none⟩=some v):
  Calls prog f #[.slice base n c,.i n,.slice (some ⟨vb,vo,none⟩) 1 vc] w (EB T k b n (dV++news) w):=by
 have hk:=F.pos;have E1:=Nat.add_one_mul n k;obtain⟨i,z,hi,hz,fI,Z7,tS⟩:=F.inf;have hf:∀w',(∀A,w'.cell? A=w.cell? A)->(Builtin.firstCells i.size 1 (.slice (some ⟨vb,vo,none⟩) 1 vc)).run prog w'=.ok news.toArray w':=fun w' hw=>by
  rw[fI];exact run_firstCells_some (P:=prog) w' k 1 ⟨vb,vo,none⟩ 1 vc news (by omega) (fun j u hj=>by rw[Addr.add_lit,hw];exact G9 j u hj)
 have ho:∀w',(∀A,w'.cell? A=w.cell? A)->(Builtin.firstCells i.size n (.slice base n c)).run prog w'=.ok dV.toArray w':=fun w' hw=>by
  rw[fI];cases base with
  |none=>
   obtain⟨rfl,rfl⟩:=qO rfl;rw[List.length_eq_zero_iff.1 (p5.trans (Nat.zero_mul _))];exact run_firstCells_none w' k 0 0 0
  |some a=>exact run_firstCells_some (P:=prog) w' k n a n c dV p5 (fun j u hj=>by
    obtain⟨A,e,h⟩:=G8 j u hj;cases e;rw[hw];exact h)
 have dG:∀ty,(Builtin.append_ #[S,S] ty #[.slice base n c,.slice (some ⟨vb,vo,none⟩) 1 vc]).run prog w=_:=fun ty=>
  Zgs (P:=prog) (w:=w) (ty:=ty) F.A6 hi hz base n c (some ⟨vb,vo,none⟩) 1 vc dV news ho hf (by omega) (by omega) (growslice_fits (by omega) (by rcases Z7 with h|h<;>rw[h]<;>omega))
 have yQ:=grownCap_ge w (n+1) c T;have hle:=grownCap_le_maxLen w (n+1) c T (by unfold maxLen;omega);have fin:EB T k b n (dV++news) w (.returned (.slice (some ⟨w.heap.size,0,none⟩) (n+1) (grownCap w (n+1) c T))) (w.drew.alloc (.cells ((dV++news).toArray++Builtin.zeroCells z.cells (grownCap w (n+1) c T-(n+1))) T)):=by
  refine⟨w.heap.size,0,_,_,rfl,heap_alloc_new w.drew _,fun j hj=>?_,?_,yQ,hle,.inr (fH _),(Gd w _).trans (cV.Fe (Ext.al _ _) _)⟩
  .rw[rV,Array.getElem?_append_left (by rw[yY,gD];omega),I3]
  .rw[Array.size_append,yY,gD,size_zeroCells,tS,p5,sR,rV,<-E1,<-Nat.add_mul];exact Nat.le_of_eq (congrArg (·*k) (by omega))
 exact F.last _ _ _ _ _ _ _ _ _ _ mB (by unfold maxLen;omega) qO dG fin
theorem Zqh {f:FuncId}{S T:TypeId}{k:Nat}(F:W4 f S T k)(b o n c i vb vo vc:Nat)(cb cv:Array Value)(dV news:List Value)(w:World)(hb:w.heap[b]?=some (.cells cb T (0,0)))(hv:w.heap[vb]?=some (.cells cv T (0,0)))(UW:vb≠b)(hi:i<n)(eQ:n+1<=c)(dF:o+c*k<=cb.size)(E6:c<=maxLen)
  (p5:dV.length=n*k) (G8:∀j v,dV[j]?=some v->cb[o+j]?=some v) (sR:news.length=k) (G9:∀j v,news[j]?=some v->cv[vo+j]?=some v) (Wj:∀v∈dV,v.oneCell'=true) (h1:∀v∈news,v.oneCell'=true):
  Calls prog f #[.slice (some ⟨b,o,none⟩) n c,.i i,.slice (some ⟨vb,vo,none⟩) 1 vc] w (EB T k b n (dV.take (i*k)++news++dV.drop (i*k)) w):=by
 have hk:=F.pos;have E1:=Nat.add_one_mul n k;have E2:=Nat.add_one_mul i k;have E3:n*k=i*k+(n-i)*k:=by rw[<-Nat.add_mul];congr 1;omega
 have E4:=I4 k eQ;have DC:c<=9223372036854775807:=by unfold maxLen at E6;omega
 have gO:cb.toList.length=cb.size:=uX;obtain⟨C1,Wb⟩:∃C1,C1=(aS cb.toList (o+(i+1)*k) (dV.drop (i*k))).toArray:=⟨_,rfl⟩;obtain⟨C2,RP⟩:∃C2,C2=(aS C1.toList (o+i*k) news).toArray:=⟨_,rfl⟩;have nG:(dV.drop (i*k)).length=(n-i)*k:=by rw[uG,p5];omega
 have Dk:C1.toList.length=cb.size:=by rw[Wb];show(aS _ _ _).length=_;rw[V6 (by omega),gO]
 have RO:C2.size=cb.size:=by rw[RP,yY,V6 (by omega),Dk]
 have DA:∀ty q q' dl dc sl sc,q=o+(i+1)*k->q'=o+i*k->dl=n+1-(i+1)->sl=n+1-i->(Builtin.copy_ #[S,S] ty #[.slice (some ⟨b,q,none⟩) dl dc,.slice (some ⟨b,q',none⟩) sl sc]).run prog w.drew=.ok (goInt ((n-i:Nat):Int)) (w.drew.setRow b C1):=fun ty q q' dl dc sl sc e1 e2 e3 e4=>by
  subst e1 e2 e3 e4;have h:=Ms (P:=prog) (ty:=ty) w.drew S S T b (o+(i+1)*k) (n+1-(i+1)) dc (n+1-i) sc ⟨b,o+i*k,none⟩ cb T (dV.drop (i*k)) F.A6 F.Iz hb
   (by rw[nG,LK (by omega)];congr 1;omega) (fun j v hj=>by
    rw[Addr.add_lit];rw[mS]at hj
    have:=G8 _ v hj
    rw[<-Nat.add_assoc]at this;exact(cell_of_row w.drew b _ cb _ _ hb).trans this) (by omega) (fun v hv=>Wj v (List.mem_of_mem_drop hv))
  rw[LK (by omega),show n+1-(i+1)=n-i by omega,<-Wb]at h;rw[show n+1-(i+1)=n-i by omega];exact h
 have Bw:(w.drew.setRow b C1).heap[b]?=some (.cells C1 T (0,0)):=setRow_heap w.drew b cb _ _ _ hb;have CZ:∀ty q dl dc,q=o+i*k->dl=n+1-i->(Builtin.copy_ #[S,S] ty #[.slice (some ⟨b,q,none⟩) dl dc,.slice (some ⟨vb,vo,none⟩) 1 vc]).run prog (w.drew.setRow b C1)=.ok (goInt 1) ((w.drew.setRow b C1).setRow b C2):=fun ty q dl dc e1 e2=>by
  subst e1 e2;have h:=Ms (P:=prog) (ty:=ty) (w.drew.setRow b C1) S S T b (o+i*k) (n+1-i) dc 1 vc ⟨vb,vo,none⟩ C1 T news F.A6 F.Iz Bw
   (by rw[sR,zL (by omega),Nat.one_mul]) (fun j v hj=>by
    rw[Addr.add_lit,cell_setRow_other _ _ _ _ UW];exact(cell_of_row w.drew vb _ cv _ _ hv).trans (G9 j v hj)) (by rw[<-uX,Dk];omega) h1
  rw[zL (by omega),<-RP]at h;exact h
 have fin:EB T k b n (dV.take (i*k)++news++dV.drop (i*k)) w (.returned (.slice (some ⟨b,o,none⟩) (n+1) c)) ((w.drew.setRow b C1).setRow b C2):=by
  refine⟨b,o,c,C2,rfl,setRow_heap _ b C1 _ _ _ Bw,fun j hj=>?_,by omega,eQ,E6,.inl rfl,((Gd w _).trans (cV.setRow _ _ _)).trans (cV.setRow _ _ _)⟩;have nT:(dV.take (i*k)).length=i*k:=by rw[gN];omega
  rw[RP,I3,A2 (by omega),Wb,I2,yX,yX,nT];by_cases q1:j<i*k
  .rw[if_pos (by omega),if_pos q1,List.toList_toArray,A2 (by omega),if_pos (by omega),O5,mE,if_pos q1];have hv:=bC (show j<dV.length by omega);rw[hv];exact G8 j _ hv
  by_cases q2:j<(i+1)*k
  .rw[if_neg (by omega),if_pos (by omega),if_neg q1,if_pos (by omega)];congr 1;omega
  .rw[if_neg (by omega),if_neg (by omega),if_neg q1,if_neg (by omega),List.toList_toArray,A2 (by omega),if_neg (by omega),if_pos (by omega)];congr 1;omega
 exact F.shift _ _ _ _ _ _ _ _ cb cv _ _ _ _ hb hv UW hi eQ dF E6 DA CZ fin
theorem Ztt {f:FuncId}{S T:TypeId}{k:Nat}(F:W4 f S T k)(b o n c i vb vo vc:Nat)(cb cv:Array Value)(dV news:List Value)(w:World)(hb:w.heap[b]?=some (.cells cb T (0,0)))(hv:w.heap[vb]?=some (.cells cv T (0,0)))(hi:i<n)(eQ:c<n+1)(mB:n<=c)(hn:n<=1000000)
  (p5:dV.length=n*k) (G8:∀j v,dV[j]?=some v->cb[o+j]?=some v) (sR:news.length=k) (G9:∀j v,news[j]?=some v->cv[vo+j]?=some v) (Wj:∀v∈dV,v.oneCell'=true) (h1:∀v∈news,v.oneCell'=true):
  Calls prog f #[.slice (some ⟨b,o,none⟩) n c,.i i,.slice (some ⟨vb,vo,none⟩) 1 vc] w (EB T k b n (dV.take (i*k)++news++dV.drop (i*k)) w):=by
 have hk:=F.pos;have E1:=Nat.add_one_mul n k;have E2:=Nat.add_one_mul i k;have E3:n*k=i*k+(n-i)*k:=by rw[<-Nat.add_mul];congr 1;omega
 have E5:(n+1-i)*k=(n-i)*k+k:=by rw[<-Nat.add_one_mul];congr 1;omega
 obtain⟨ti,z,PM,hz,fI,Z7,tS⟩:=F.inf;have Co:b<w.heap.size:=(qF.1 hb).1;have hvw:vb<w.heap.size:=(qF.1 hv).1;have nT:(dV.take (i*k)).length=i*k:=by rw[gN];omega
 have nG:(dV.drop (i*k)).length=(n-i)*k:=by rw[uG,p5];omega
 have hold:(Builtin.firstCells ti.size i (.slice (some ⟨b,o,none⟩) i c)).run prog w.drew=.ok (dV.take (i*k)).toArray w.drew:=by
  rw[fI];exact run_firstCells_some (P:=prog) w.drew k i ⟨b,o,none⟩ i c (dV.take (i*k)) nT (fun j u hj=>by
   rw[Addr.add_lit];rw[mE]at hj;split at hj
   .exact(cell_of_row w.drew b _ cb _ _ hb).trans (G8 j u hj)
   .cases hj)
 have PT:∀ty (q:Int),q=((n+1-i:Nat):Int)->(Builtin.append_ #[S,3] ty #[.slice (some ⟨b,o,none⟩) i c,.i q]).run prog w =
   .ok (.slice (some ⟨w.heap.size,0,none⟩) (n+1) (grownCap w (n+1) c T)) (w.drew.alloc (.cells ((dV.take (i*k)).toArray++Builtin.zeroCells z.cells (n+1-i)++Builtin.zeroCells z.cells (grownCap w (n+1) c T-(n+1))) T)):=fun ty q hq=>by
  subst hq;have h:=Lib.run_append_grow_zeros w S 3 ty T ti z .i64 .i64 F.A6 underlying3 PM hz (some ⟨b,o,none⟩) i c (dV.take (i*k)) hold (n+1-i) (by omega) (by omega) (by omega) (by omega) (by rcases Z7 with h|h<;>rw[h]<;>omega) (growslice_fits (by omega) (by rcases Z7 with h|h<;>rw[h]<;>omega));rw[show i+(n+1-i)=n+1 by omega]at h;exact h
 have yQ:=grownCap_ge w (n+1) c T;have hle:=grownCap_le_maxLen w (n+1) c T (by unfold maxLen;omega);generalize grownCap w (n+1) c T=G at PT yQ hle;obtain⟨uN,RH⟩:∃uN:Array Value,uN=(dV.take (i*k)).toArray++Builtin.zeroCells z.cells (n+1-i)++Builtin.zeroCells z.cells (G-(n+1)):=⟨_,rfl⟩;rw[<-RH]at PT;have E8:G*k=(n+1)*k+(G-(n+1))*k:=by rw[<-Nat.add_mul];congr 1;omega
 have hRl:uN.size=G*k:=by
  rw[RH,Array.size_append,Array.size_append,yY,size_zeroCells,size_zeroCells,tS,nT];omega
 have hRt:∀j,j<i*k->uN[j]?=dV[j]?:=fun j hj=>by
  rw[RH,Array.append_assoc,Array.getElem?_append_left (by rw[yY];omega),I3,mE,if_pos hj]
 obtain⟨C2,RP⟩:∃C2,C2=(aS uN.toList (i*k) news).toArray:=⟨_,rfl⟩;obtain⟨C3,Wa⟩:∃C3,C3=(aS C2.toList ((i+1)*k) (dV.drop (i*k))).toArray:=⟨_,rfl⟩;have hRL:uN.toList.length=G*k:=by rw[uX];exact hRl
 have RO:C2.toList.length=G*k:=by rw[RP];show(aS _ _ _).length=_;rw[V6 (by omega),hRL]
 have hC3l:C3.size=G*k:=by rw[Wa,yY,V6 (by omega),RO]
 have Bw:(w.drew.alloc (.cells uN T)).heap[w.heap.size]?=some (.cells uN T (0,0)):=heap_alloc_new w.drew _;have hh2:((w.drew.alloc (.cells uN T)).setRow w.heap.size C2).heap[w.heap.size]?=some (.cells C2 T (0,0)):=setRow_heap _ _ uN _ _ _ Bw;have CY:∀(W:World),W.heap=(w.drew.alloc (.cells uN T)).heap->∀ty q dl dc,q=i*k->dl=n+1-i->(Builtin.copy_ #[S,S] ty #[.slice (some ⟨w.heap.size,q,none⟩) dl dc,.slice (some ⟨vb,vo,none⟩) 1 vc]).run prog W=.ok (goInt 1) (W.setRow w.heap.size C2):=fun W hW ty q dl dc e1 e2=>by
  subst e1 e2;have rO:W.heap[vb]?=some (.cells cv T (0,0)):=by rw[hW,heap_alloc_old w.drew _ hvw];exact hv
  have h:=Ms (P:=prog) (ty:=ty) W S S T w.heap.size (i*k) (n+1-i) dc 1 vc ⟨vb,vo,none⟩ uN T news F.A6 F.Iz (by rw[hW];exact Bw)
   (by rw[sR,zL (by omega),Nat.one_mul]) (fun j v hj=>by
    rw[Addr.add_lit];exact(cell_of_row W vb _ cv _ _ rO).trans (G9 j v hj)) (by omega) h1
  rw[zL (by omega),<-RP]at h;exact h
 have CX:∀(W:World),W.heap=((w.drew.alloc (.cells uN T)).setRow w.heap.size C2).heap->∀ty q q' dl dc sl sc,q=(i+1)*k->q'=o+i*k->dl=n+1-(i+1)->sl=n-i->(Builtin.copy_ #[S,S] ty #[.slice (some ⟨w.heap.size,q,none⟩) dl dc,.slice (some ⟨b,q',none⟩) sl sc]).run prog W=.ok (goInt ((n-i:Nat):Int)) (W.setRow w.heap.size C3):=fun W hW ty q q' dl dc sl sc e1 e2 e3 e4=>by
  subst e1 e2 e3 e4;have nM:W.heap[b]?=some (.cells cb T (0,0)):=by rw[hW,setRow_other _ _ _ _ (by omega),heap_alloc_old w.drew _ Co];exact hb
  have h:=Ms (P:=prog) (ty:=ty) W S S T w.heap.size ((i+1)*k) (n+1-(i+1)) dc (n-i) sc ⟨b,o+i*k,none⟩ C2 T (dV.drop (i*k)) F.A6 F.Iz (by rw[hW];exact hh2)
   (by rw[nG,zL (by omega)]) (fun j v hj=>by
    rw[Addr.add_lit];rw[mS]at hj
    have:=G8 _ v hj
    rw[<-Nat.add_assoc]at this;exact(cell_of_row W b _ cb _ _ nM).trans this) (by rw[<-uX,RO];omega) (fun v hv=>Wj v (List.mem_of_mem_drop hv))
  rw[zL (by omega),<-Wa]at h;exact h
 have fin:∀W:World,W=(((w.drew.alloc (.cells uN T)).setRow w.heap.size C2).drew).setRow w.heap.size C3->EB T k b n (dV.take (i*k)++news++dV.drop (i*k)) w (.returned (.slice (some ⟨w.heap.size,0,none⟩) (n+1) G)) W:=fun W hW=>by
  subst hW;refine⟨w.heap.size,0,G,C3,rfl,setRow_heap _ _ C2 _ _ _ hh2,fun j hj=>?_,by omega,yQ,hle,.inr (fH _),?_⟩
  .rw[rV,Wa,I3,A2 (by omega),RP,I2,yX,yX,nT];by_cases q1:j<i*k
   .rw[if_pos (by omega),if_pos q1,List.toList_toArray,A2 (by omega),if_pos (by omega),O5,mE,if_pos q1];exact hRt j q1
   by_cases q2:j<(i+1)*k
   .rw[if_pos (by omega),if_neg q1,if_pos (by omega),List.toList_toArray,A2 (by omega),if_neg (by omega),if_pos (by omega)]
   .rw[if_neg (by omega),if_pos (by omega),if_neg q1,if_neg (by omega)];congr 1;omega
  .refine⟨rfl,rfl,rfl,by simp,fun k hk _=>?_⟩;rw[setRow_other _ _ _ _ (by omega)];show((w.drew.alloc (.cells uN T)).setRow w.heap.size C2).heap[k]?=_;rw[setRow_other _ _ _ _ (by omega),heap_alloc_old w.drew _ hk];rfl
 exact F.grow _ _ _ _ _ _ _ _ _ uN C2 C3 _ _ hi eQ mB hn yQ hle PT CY CX (fin _ rfl)
theorem ZuQ:W4 237 27 89 4:=by
 refine⟨by decide,underlying27,by kernel_rfl,⟨_,_,rfl,rfl,rfl,by decide,rfl⟩,?_,?_,?_⟩
 .intro base n c vb vo vc w W2 R E G9 hc qO dG fin;have E6:c<=9223372036854775807:=by unfold maxLen at hc;omega
  cases base with
  |none=>
   obtain⟨rfl,rfl⟩:=qO rfl;go_enter func237,ntmps237;go_wp2_with (at_builtin;refine Lib.wpList_append_run _ rfl _ _ _ _ rfl _ _ rfl rfl _ _ (dG _) ?_)
   all_goals exact fin
  |some a=>
   obtain⟨ab,ao,asp⟩:=a;go_enter func237,ntmps237;go_wp2_with (at_builtin;refine Lib.wpList_append_run _ rfl _ _ _ _ rfl _ _ rfl rfl _ _ (dG _) ?_)
   all_goals exact fin
 .intro b o n c i vb vo vc cb cv w W1 W2 E hb hv UW hi eQ dF hc DA CZ fin;have DC:c<=9223372036854775807:=by unfold maxLen at hc;omega
  have Te:∀lb cc,(callFunc 283 #[.slice (some ⟨vb,vo,none⟩) 1 vc,.slice (some ⟨b,o+(i+1)*4,none⟩) lb cc]).run prog w=.ok (.value (.bool false)) w:=fun lb cc=>by
   rw[run_callFunc_extern func283 (by kernel_rfl) (by kernel_rfl) (by kernel_rfl) (e:=Extern.SlicesOverlaps.overlaps #[27,27] #[4]) (by kernel_rfl),
    Lib.run_overlaps_apart w 27 4 89 underlying27 4 (Go.Proofs.YtlllhbmbnjnoiaaGreatDoor.run_sizeOf (by kernel_rfl)) ⟨vb,vo,none⟩ ⟨b,o+(i+1)*4,none⟩ 1 vc lb cc UW 89 89 cv.size cb.size (by simp[World.shape?,hv]) (by simp[World.shape?,hb]) (by omega) (Lib.frozen_of_heap hv vo) (Lib.frozen_of_heap hv cv.size)]
   rfl
  have P6:¬((i:Int)=(n:Int)):=by omega
  have mixed:prog.follows .mixedOrders=true:=by kernel_rfl
  have pY:IntKind.i64.wrap ((i:Int)+1)=(i:Int)+1:=by rw[IntKind.wrap_i64];omega
  have sU:(0:Int)<=(i:Int)+1:=by omega
  have fW:i<=n:=by omega
  have HM:((i:Int)+1).toNat=i+1:=by omega
  have pO:¬(c=i+1):=by omega
  have RB:(i:Int)<=(n:Int)+1:=by omega
  have MU:¬(c=i):=by omega
  go_enter func237,ntmps237;go_wp2_with (simp only[Te]);go_region_law_o (refine step_copy_runI rfl _ _ 27 27 rfl _ _ (by simp[Act.eval,Act.put]) (by simp[Act.eval,Act.put]) (DA _ _ _ _ _ _ _ (by omega) (by omega) (by omega) (by omega)) ?_);go_wp2_with (at_builtin;refine wpList_copy_runI _ rfl _ _ 27 27 rfl _ _ rfl rfl (CZ _ _ _ _ (by omega) (by omega)) ?_)
  all_goals exact fin
 .intro b o n c i vb vo vc G uN C2 C3 w E hi eQ mB hn yQ hle PT CY CX fin;have mixed:prog.follows .mixedOrders=true:=by kernel_rfl
  have X3:(c:Int)<(n:Int)+1:=by omega
  have P6:¬((i:Int)=(n:Int)):=by omega
  have pY:IntKind.i64.wrap ((i:Int)+1)=(i:Int)+1:=by rw[IntKind.wrap_i64];omega
  have sU:(0:Int)<=(i:Int)+1:=by omega
  have fW:i<=n:=by omega
  have HM:((i:Int)+1).toNat=i+1:=by omega
  have hGi:¬(G=i):=by omega
  have Vt:¬(G=i+1):=by omega
  have hci:¬(c=i):=by omega
  have Vu:G<=9223372036854775807:=by unfold maxLen at hle;omega
  have RB:(i:Int)<=(n:Int):=by omega
  go_enter func237,ntmps237;go_wp2_with (at_builtin;refine Lib.wpList_append_run _ rfl _ _ _ _ rfl _ _ rfl rfl _ _ (PT _ _ (by omega)) ?_);rw[CY ((w.alloc (.cells uN 89)).drew) rfl _ _ _ _ rfl rfl];simp only[Result.andThen];rw[Oper.upon_value];go_wp2;go_region_law_o (refine step_copy_runI rfl _ _ 27 27 rfl (.slice (some ⟨w.heap.size,(i+1)*4,none⟩) (n+1-(i+1)) (G-(i+1))) (.slice (some ⟨b,o+i*4,none⟩) (n-i) (c-i)) (by simp[Act.eval,Act.put]) (by simp[Act.eval,Act.put]) (CX _ (by rfl) 3 _ _ _ (G-(i+1)) _ (c-i) rfl rfl rfl rfl) ?_);go_wp2
  all_goals exact fin
theorem ZuR:W4 234 26 3 1:=by
 refine⟨by decide,underlying26,by kernel_rfl,⟨_,_,rfl,rfl,rfl,by decide,rfl⟩,?_,?_,?_⟩
 .intro base n c vb vo vc w W2 R E G9 hc qO dG fin;have E6:c<=9223372036854775807:=by unfold maxLen at hc;omega
  cases base with
  |none=>
   obtain⟨rfl,rfl⟩:=qO rfl;go_enter func234,ntmps234;go_wp2_with (at_builtin;refine Lib.wpList_append_run _ rfl _ _ _ _ rfl _ _ rfl rfl _ _ (dG _) ?_)
   all_goals exact fin
  |some a=>
   obtain⟨ab,ao,asp⟩:=a;go_enter func234,ntmps234;go_wp2_with (at_builtin;refine Lib.wpList_append_run _ rfl _ _ _ _ rfl _ _ rfl rfl _ _ (dG _) ?_)
   all_goals exact fin
 .intro b o n c i vb vo vc cb cv w W1 W2 E hb hv UW hi eQ dF hc DA CZ fin;have DC:c<=9223372036854775807:=by unfold maxLen at hc;omega
  have Te:∀lb cc,(callFunc 279 #[.slice (some ⟨vb,vo,none⟩) 1 vc,.slice (some ⟨b,o+(i+1),none⟩) lb cc]).run prog w=.ok (.value (.bool false)) w:=fun lb cc=>by
   rw[run_callFunc_extern func279 (by kernel_rfl) (by kernel_rfl) (by kernel_rfl) (e:=Extern.SlicesOverlaps.overlaps #[26,26] #[4]) (by kernel_rfl),
    Lib.run_overlaps_apart w 26 4 3 underlying26 1 (Go.Proofs.YtlllhbmbnjnoiaaGreatDoor.run_sizeOf (by kernel_rfl)) ⟨vb,vo,none⟩ ⟨b,o+(i+1),none⟩ 1 vc lb cc UW 3 3 cv.size cb.size (by simp[World.shape?,hv]) (by simp[World.shape?,hb]) (by omega) (Lib.frozen_of_heap hv vo) (Lib.frozen_of_heap hv cv.size)]
   rfl
  have P6:¬((i:Int)=(n:Int)):=by omega
  have mixed:prog.follows .mixedOrders=true:=by kernel_rfl
  have pY:IntKind.i64.wrap ((i:Int)+1)=(i:Int)+1:=by rw[IntKind.wrap_i64];omega
  have sU:(0:Int)<=(i:Int)+1:=by omega
  have fW:i<=n:=by omega
  have HM:((i:Int)+1).toNat=i+1:=by omega
  have pO:¬(c=i+1):=by omega
  have RB:(i:Int)<=(n:Int)+1:=by omega
  have MU:¬(c=i):=by omega
  go_enter func234,ntmps234;go_wp2_with (simp only[Te]);go_region_law_o (refine step_copy_runI rfl _ _ 26 26 rfl _ _ (by simp[Act.eval,Act.put]) (by simp[Act.eval,Act.put]) (DA _ _ _ _ _ _ _ (by omega) (by omega) (by omega) (by omega)) ?_);go_wp2_with (at_builtin;refine wpList_copy_runI _ rfl _ _ 26 26 rfl _ _ rfl rfl (CZ _ _ _ _ (by omega) (by omega)) ?_)
  all_goals exact fin
 .intro b o n c i vb vo vc G uN C2 C3 w E hi eQ mB hn yQ hle PT CY CX fin;have mixed:prog.follows .mixedOrders=true:=by kernel_rfl
  have X3:(c:Int)<(n:Int)+1:=by omega
  have P6:¬((i:Int)=(n:Int)):=by omega
  have pY:IntKind.i64.wrap ((i:Int)+1)=(i:Int)+1:=by rw[IntKind.wrap_i64];omega
  have sU:(0:Int)<=(i:Int)+1:=by omega
  have fW:i<=n:=by omega
  have HM:((i:Int)+1).toNat=i+1:=by omega
  have hGi:¬(G=i):=by omega
  have Vt:¬(G=i+1):=by omega
  have hci:¬(c=i):=by omega
  have Vu:G<=9223372036854775807:=by unfold maxLen at hle;omega
  have RB:(i:Int)<=(n:Int):=by omega
  go_enter func234,ntmps234;go_wp2_with (at_builtin;refine Lib.wpList_append_run _ rfl _ _ _ _ rfl _ _ rfl rfl _ _ (PT _ _ (by omega)) ?_);rw[CY ((w.alloc (.cells uN 3)).drew) rfl _ _ _ _ (by omega) rfl];simp only[Result.andThen];rw[Oper.upon_value];go_wp2;go_region_law_o (refine step_copy_runI rfl _ _ 26 26 rfl (.slice (some ⟨w.heap.size,i+1,none⟩) (n+1-(i+1)) (G-(i+1))) (.slice (some ⟨b,o+i,none⟩) (n-i) (c-i)) (by simp[Act.eval,Act.put]) (by simp[Act.eval,Act.put]) (CX _ (by rfl) 3 _ _ _ (G-(i+1)) _ (c-i) (by omega) (by omega) rfl rfl) ?_);go_wp2
  all_goals exact fin
end
theorem Zlx {ρ:Site->Loc}{m:Mem}{w:World}{s:Site}{e n:Nat}{xs:List PV}(h:kN ρ m w s (.arr e n xs))(hr:(ρ s).real=true):
  ∃cs ds,w.heap[(ρ s).b]?=some (.cells cs e (0,0))/\(ρ s).o+(ρ s).cap*n<=cs.size/\xs.length<=(ρ s).cap/\(ρ s).cap<=maxLen/\Flat m ds n xs/\∀(j:Nat) v,ds[j]?=some v->cs[(ρ s).o+j]?=some v:=by
 obtain⟨hn,hB|⟨_,cs,g1,g2,g3,g4,g5⟩⟩:=h
 .rw[hB.1]at hr;cases hr
 have dF:(ρ s).o+xs.length*n<=cs.size:=by
  have:xs.length*n<=(ρ s).cap*n:=I4 _ g3
  omega
 refine⟨cs,(cs.toList.drop (ρ s).o).take (xs.length*n),g1,g2,g3,g4,⟨by rw[Hu dF],fun u hu=>?_,fun i x hi=>?_⟩,fun j v hj=>?_⟩
 .obtain⟨k,hk⟩:=iK.1 hu;rw[j5]at hk;split at hk
  .rename_i aJ;obtain⟨h1,h2,h3⟩:=He aJ hn;obtain⟨q1,q2⟩:=g5 _ _ (bC h1);obtain⟨u',q3,q4,_⟩:=q2 _ _ (bC (show k%n<(xs[k / n]).cells.length by omega));rw[show(ρ s).o+k / n*n+k%n=(ρ s).o+k by omega,hk]at q3;cases q3;exact q4
  .cases hk
 .obtain⟨q1,q2⟩:=g5 i x hi;refine⟨q1,fun j c hj=>?_⟩;obtain⟨u,q3,_,q5⟩:=q2 j c hj;have rQ:j<n:=by have:=(cA.1 hj).1;omega
  have:=V9 (n:=n) (cA.1 hi).1
  exact⟨u,by rw[j5,if_pos (by omega)];rw[<-q3];congr 1;omega,q5⟩
 .rw[j5]at hj;split at hj
  .exact hj
  .cases hj
theorem Flat.ZxR {m:Mem}{ds:List Value}{n:Nat}{xs:List PV}(h:Flat m ds n xs)(i:Nat)(hi:i<=xs.length):Flat m (ds.take (i*n)) n (xs.take i):=by
 have hl:i*n<=xs.length*n:=I4 _ hi;refine⟨by rw[gN,gN,h.len,Nat.min_eq_left hl,Nat.min_eq_left hi],fun u hu=>h.one u (List.mem_of_mem_take hu),fun k x hk=>?_⟩;rw[mE]at hk;split at hk
 .rename_i y5;obtain⟨k1,k2⟩:=h.get k x hk;refine⟨k1,fun j c hj=>?_⟩;obtain⟨u,q1,q2⟩:=k2 j c hj;have rQ:j<n:=by have:=(cA.1 hj).1;omega
  have:=V9 (n:=n) y5
  exact⟨u,by rw[mE,if_pos (by omega)];exact q1,q2⟩
 .cases hk
theorem Flat.ZxX {m:Mem}{ds:List Value}{n:Nat}{xs:List PV}(h:Flat m ds n xs)(i:Nat):Flat m (ds.drop (i*n)) n (xs.drop i):=by
 refine⟨by rw[uG,uG,h.len,Nat.sub_mul],fun u hu=>h.one u (List.mem_of_mem_drop hu),fun k x hk=>?_⟩;rw[mS]at hk;obtain⟨k1,k2⟩:=h.get _ x hk;refine⟨k1,fun j c hj=>?_⟩;obtain⟨u,q1,q2⟩:=k2 j c hj;exact⟨u,by rw[mS,<-q1];congr 1;rw[Nat.add_mul];omega,q2⟩
theorem Zk4 {TE k b n:Nat}{Ki:List Value}{ys:List PV}{w w':World}{e:Ending}{m:Mem}{ρ:Site->Loc}{B:List (Site×aK)}(hk:0<k)(hE:EB TE k b n Ki w e w')(hF:Flat m Ki k ys)(hy:ys.length=n+1)
  (hm:Le m w.mem) (wL:b∈cI ρ w B\/w.heap.size<=b) (sQ:∀o,m b o=none):lC w m ρ B (fun r B'=>r=.vec (.ret 0) k 0 (n+1)/\B'=[(.ret 0,.arr TE k ys)]) e w':=by
 obtain⟨b',o',c',iI,rfl,g1,g2,g3,g4,g5,g6,g7⟩:=hE;have hu:=R6 ρ (.ret 0) ⟨b',o',c',true⟩;have M7:∀b,w.heap.size<=b->∀o,m b o=none:=fun b hb o=>by
  cases hv:m b o with
  |none=>rfl
  |some v=>have:=AO (hm _ _ _ hv);omega
 have Bc:∀o,m b' o=none:=by
  rcases g6 with rfl|g6
  .exact sQ
  .exact M7 _ g6
 have look:∀s bx,List.lookup s [((.ret 0:Site),aK.arr TE k ys)]=some bx->s=.ret 0/\bx=.arr TE k ys:=fun s bx h=>by
  by_cases e:s=.ret 0
  .subst e;rw[mT]at h;cases h;exact⟨rfl,rfl⟩
  .rw[jD e]at h;cases h
 have mL:Le m w'.mem:=fun a o v hv=>by
  have hw:=hm a o v hv;have aJ:=AO hw;have cZ:a≠b:=fun e=>by subst e;rw[sQ o]at hv;cases hv
  exact(World.cell?_of_block (a:=⟨a,o,none⟩) (g7.block a aJ (by simpa using cZ))).trans hw
 refine⟨_,.vec (.ret 0) k 0 (n+1),[(.ret 0,.arr TE k ys)],iL ρ (.ret 0) ⟨b',o',c',true⟩,m,rfl,⟨rfl,rfl⟩,⟨fun s bx h=>?_,fun s s' bx Wx i h h' _ _=>?_,fun s bx i h hb o=>?_⟩,Le.refl m,mL,fun i=>AH ρ _ (by simp),fun s bx i h hb=>?_,fun _ _ _ h=>.inl h,?_,?_⟩
 .obtain⟨rfl,rfl⟩:=look s bx h;refine⟨hk,.inr ⟨by rw[hu],iI,by rw[hu];exact g1,by rw[hu];exact g3,by rw[hu,hy];exact g4,by rw[hu];exact g5,fun i x hx=>?_⟩⟩;obtain⟨k1,k2⟩:=hF.get i x hx;refine⟨k1,fun j c hj=>?_⟩;obtain⟨u,q1,q2⟩:=k2 j c hj;have aJ:=(cA.1 q1).1;rw[hF.len,hy]at aJ;exact⟨u,by rw[hu];show iI[o'+i*k+j]?=_;rw[<-q1,<-g2 _ aJ,Nat.add_assoc],hF.one u (dL q1),q2⟩
 .rw[(look s bx h).1,(look s' Wx h').1]
 .obtain⟨rfl,rfl⟩:=look s bx h;obtain⟨_,q⟩:=EF rfl hb;rw[hu]at q;rw[<-q];exact Bc o
 .obtain⟨rfl,rfl⟩:=look s bx h;obtain⟨_,q⟩:=EF rfl hb;rw[hu]at q;rw[<-q];show w.heap.size<=b'\/b'∈_;rcases g6 with rfl|g6
  .exact wL.symm
  .exact .inl g6
 .have:=bQ.vec (ρ:=iL ρ (.ret 0) ⟨b',o',c',true⟩) (m:=m) (.ret 0) k 0 (n+1) c' g4 (by rw[hu];simp) (by rw[hu])
  rw[hu]at this;simpa using this
 .refine⟨g7.os,g7.tape,g7.output,g7.size,fun i hi hn=>g7.block i hi (fun h=>?_)⟩;rw[rW]at h;subst h;rcases wL with h|h
  .exact hn h
  .omega
theorem Xj {vs:Array Value}(h:vs.size=3):∃v u x,vs=#[v,u,x]:=by
 match vs,h with
 |⟨[v,u,x]⟩,_=>exact⟨v,u,x,rfl⟩
theorem LX {f:FuncId}{S T:TypeId}{k:Nat}(F:W4 f S T k)(hf:jM prog f)(xs:List PV)(x:PV)(i:Nat)(hi:i<=xs.length)(hx:xs.length<=1000000):
  cN prog f [.vec (.par 0) k 0 xs.length,.pv (.i i),.vec (.par 1) k 0 1] [(.par 0,.arr T k xs),(.par 1,.arr T k [x])] (fun r B=>r=.vec (.ret 0) k 0 (xs.length+1)/\B=[(.ret 0,.arr T k (lN xs i x))]):=by
 refine⟨hf,fun w m ρ vs hB mL fI lF=>?_⟩;obtain⟨v0,v1,v2,rfl⟩:=Xj (by simpa using fI);have h0:=lF 0 v0 _ rfl rfl;have h1:=(lF 1 v1 _ rfl rfl).nH;have h2:=lF 2 v2 _ rfl rfl;have wD:v1=.i i:=by cases h1;rfl
 subst wD;have b0:=hB.bx (.par 0) _ rfl;have b1:=hB.bx (.par 1) _ rfl;rcases h2.DZ with⟨cap1,rfl,c0,c1,c2⟩|⟨a,_,c0,_⟩
 .obtain⟨cv,ns,e1,_,_,_,eF,eN⟩:=Zlx b1 c2;have sR:ns.length=k:=by rw[eF.len];exact Nat.one_mul k
  have hvlt:(ρ (.par 1)).b<w.heap.size:=(qF.1 e1).1;rw[Nat.zero_mul,Nat.add_zero]at *;have CW:∀(j:Nat) v,ns[j]?=some v->w.cell? ⟨(ρ (.par 1)).b,(ρ (.par 1)).o+j,none⟩=some v:=fun j v hj=>(cell_of_row w _ _ cv _ _ e1).trans (eN j v hj)
  rcases h0.DZ with⟨cap,rfl,d0,d1,d2⟩|⟨a,rfl,d0,_⟩
  .obtain⟨cb,os,f1,f2,f3,f4,fF,fN⟩:=Zlx b0 d2;rw[Nat.zero_mul,Nat.add_zero];have cZ:(ρ (.par 1)).b≠(ρ (.par 0)).b:=fun e=>by
    have:=hB.inj (.par 1) (.par 0) _ _ rfl rfl c2 d2 e
    cases this
   have p5:os.length=xs.length*k:=fF.len;have dF:(ρ (.par 0)).o+cap*k<=cb.size:=by
    have:cap*k<=(ρ (.par 0)).cap*k:=I4 _ (by omega)
    omega
   have hFl:Flat m (os.take (i*k)++ns++os.drop (i*k)) k (lN xs i x):=by
    have:=((fF.ZxR i hi).app eF).app (fF.ZxX i)
    rw[I2 (xs.take i)]at this;exact this
   have wL:(ρ (.par 0)).b∈cI ρ w [(.par 0,.arr T k xs),(.par 1,.arr T k [x])]:=TD.2 ⟨_,List.mem_cons_self ..,xR d2⟩;have sQ:=hB.off (.par 0) _ rfl d2;have post:=fun e w' (h:EB T k (ρ (.par 0)).b xs.length (os.take (i*k)++ns++os.drop (i*k)) w e w')=>Zk4 (ρ:=ρ) (B:=[(.par 0,.arr T k xs),(.par 1,.arr T k [x])]) F.pos h hFl (TC hi) mL.1 (.inl wL) sQ
   by_cases fW:i<xs.length
   .by_cases hr:xs.length+1<=cap
    .exact(Zqh F _ _ _ _ _ _ _ _ cb cv os ns w f1 e1 cZ fW hr dF (by omega) p5 fN sR eN fF.one eF.one).mono post
    .exact(Ztt F _ _ _ _ _ _ _ _ cb cv os ns w f1 e1 fW (by omega) d0 hx p5 fN sR eN fF.one eF.one).mono post
   .have he:i=xs.length:=by omega
    subst he;have ht:os.take (xs.length*k)++ns++os.drop (xs.length*k)=os++ns:=by rw[fP (by omega),List.drop_eq_nil_of_le (by omega),tG]
    rw[ht]at post;by_cases hr:xs.length+1<=cap
    .exact(Zts F _ _ _ _ _ _ _ cb os ns w f1 hr dF (by omega) p5 fN sR CW eF.one).mono post
    .exact(Zn5 F (ρ (.par 0)).b _ _ _ _ _ _ os ns w (by omega) hx (fun h=>by cases h) d0 p5 (fun j v hj=>⟨_,rfl,by rw[Addr.add_lit];exact(cell_of_row w _ _ cb _ _ f1).trans (fN j v hj)⟩) sR CW).mono post
  .have BV:xs=[]:=List.length_eq_zero_iff.1 d0;subst BV;have H2:i=0:=Nat.le_zero.1 hi;subst H2;have post:=fun e w' (h:EB T k w.heap.size 0 ([]++ns) w e w')=>Zk4 (ρ:=ρ) (B:=[(.par 0,.arr T k []),(.par 1,.arr T k [x])]) F.pos h (ys:=[x]) eF rfl mL.1 (.inr (fH _)) (fun o=>by
    cases hv:m w.heap.size o with
    |none=>rfl
    |some v=>have:=AO (mL.1 _ _ _ hv);omega)
   exact(Zn5 F w.heap.size _ 0 0 _ _ _ [] ns w (by omega) (by omega) (fun _=>⟨rfl,rfl⟩) (by omega) (Nat.zero_mul k).symm (fun j v hj=>by simp at hj) sR CW).mono post
 .cases c0
def bdQ (r:Except Int (List Int))(l:List Ct)(ls ts rn:PV)(a b c d e:PV):Prop:=∃l',r=.ok l'/\a=aL l/\b=bJ l'/\c=ls/\d=ts/\e=rn
def VW (W:aK)(bad:List Int)(n:Int):AS:=⟨[(27,.ptr (.par 0) 0),(33,.vec (.loc 33 0) 1 0 bad.length),(34,.pv (.i (dJ bad n))),(38,.vec (.loc 38 0) 1 0 1)],[(.loc 33 0,.arr 3 1 (bad.map iP)),(.loc 38 0,.arr 3 1 [iP n]),(.par 0,W)]⟩
theorem En (l:List Ct)(bad:List Int)(ls ts rn:PV)(n:Int)(hl:l.length<=1000)(hb:bad.length<=900)(hs:bad.Pairwise (·<·)):
  sY prog 188 [.ptr (.par 0) 0,.pv (.aE false 1 [iP n])] [(.par 0,aQ (aL l) (bJ bad) ls ts rn)] (yB (bdQ (pR l bad n) l ls ts rn)) (uR (fun e=>pR l bad n=.error e)):=by
 have uS:=Zf l n (bJ bad) ls ts rn hl;have wE:=ZoI bad n hs (by omega);have IA:=LX ZuR ⟨_,_,func234,by kernel_rfl,rfl⟩ (bad.map iP) (iP n) (dJ bad n) (by rw[fZ];exact WS) (by rw[fZ];omega);rw[<-ZhF (f:=iP),fZ]at IA;refine cX L188 ?_;generalize hE:(fun e=>pR l bad n=.error e)=E;generalize hQ:bdQ (pR l bad n) l ls ts rn=Q;unfold pR at hE hQ;generalize(l.any fun y=>decide (y.num=n))=kn at hE hQ uS;show fO _ (.seq _ (.seq _ (.seq _ _))) _ _ _;cases kn with
 |false=>
  have VR:E 7:=by rw[<-hE];rfl
  refine xD [_,_,_,_,_] ?_;simp[hold,aQ,iP,aL];refine cM [.ptr (.par 0) 0,.pv (.i n)] [(.par 0,aQ (aL l) (bJ bad) ls ts rn)] 10 [.par 0] (by simp[aQ,aL]) uS (by simp[aQ]) ?_;simp[aQ];exact pF 7 VR
 |true=>
 rw[if_pos rfl]at hE hQ;refine mF ?_;simp[hold,aQ,iP,aL];refine cM [.ptr (.par 0) 0,.pv (.i n)] [(.par 0,aQ (aL l) (bJ bad) ls ts rn)] 10 [.par 0] (by simp[aQ,aL]) uS (by simp[aQ]) ?_;simp[aQ];refine cG [.bool true,.i 7] (gM 7) ?_;simp;refine mF ?_;simp[hold,bJ];refine cG [.aE false 1 (bad.map iP),.i n] wE ?_;simp[hold];by_cases hm:n∈bad
 .rw[if_pos hm]at hE;have IU:E 6:=by rw[<-hE]
  refine xD [_,_] ?_;simp[hold,hm];exact pF 6 IU
 rw[if_neg hm]at hQ;refine mF ?_;simp[hold,hm];refine cG [.bool true,.i 6] (gM 6) ?_;simp;refine GB ?_;have gO:=Zgh (bad.map iP) (by rw[fZ];omega);simp[-List.map_cons,hold];refine ED (fun τ=>τ=VW (aQ (aL l) (bJ bad) ls ts rn) bad n) ?_ ?_
 .simp only[gP];refine⟨?_,?_⟩
  .simp[-List.map_cons,hold];refine R4 [] (fs:=[]) (xs:=[.aE false 1 (bad.map iP)]) (cs:=[]) rfl rfl gO ?_;rintro r B (⟨h,rfl,rfl⟩|⟨rfl,rfl⟩)
   .rw[List.map_eq_nil_iff]at h;subst h;simp[gP,gZ];exact Sub.trans' (Sub.mk (by simp[AS.cR]) (by simp[AS.cR,bJ,aQ,iP,aL])) (cR 33 3 1 33 rfl (by decide))
   .simp[gP,gZ];exact Sub.mk (by simp) (by simp[bJ,aQ,iP,aL])
  .refine⟨?_,trivial⟩;simp[-List.map_cons,gP,gZ,hold];refine R4 [] (fs:=[]) (xs:=[.aE false 1 (bad.map iP)]) (cs:=[]) rfl rfl gO ?_;rintro r B (⟨h,rfl,rfl⟩|⟨rfl,rfl⟩)
   .rw[List.map_eq_nil_iff]at h;subst h;simp;exact Sub.trans' (Sub.mk (by simp[VW,AS.cR]) (by simp[VW,AS.cR,bJ,aQ,iP,aL])) (cR 33 3 1 33 rfl (by decide))
   .simp;exact Sub.mk (by simp[VW]) (by simp[VW,bJ,aQ,iP,aL])
 .rintro τ rfl;simp[VW,gP,gZ];refine cL [.vec (.par 0) 1 0 bad.length,.pv (.i (dJ bad n)),.vec (.par 1) 1 0 1] [(.par 0,.arr 3 1 (bad.map iP)),(.par 1,.arr 3 1 [iP n])] 39 [.loc 33 0,.loc 38 0] (by simp) IA ?_
  rintro r0 B0 ⟨rfl,rfl⟩;refine⟨by simp,by simp,?_⟩;have hle:bad.length+1<=(lN bad (dJ bad n) n).length:=by rw[TC WS];exact fH _
  have jT:List.take (bad.length+1) ((lN bad (dJ bad n) n).map iP)=(lN bad (dJ bad n) n).map iP:=fP (by rw[fZ,TC WS];exact fH _);simp[-List.map_cons,hold,aQ,gP,gZ];refine l8 (a:=aL l) (b:=bJ (lN bad (dJ bad n) n)) (c:=ls) (d:=ts) (e:=rn) [.loc 39 0] ?_ ?_
  .simp[aY,AS.cH,AV.cH,AV.aY,aK.cH,aQ,bJ,jT,hle]
  .rw[<-hQ];exact⟨_,rfl,rfl,rfl,rfl,rfl,rfl⟩
def ltQ (r:Except Int (List Lt))(ct bd ts rn:PV)(a b c d e:PV):Prop:=∃l',r=.ok l'/\a=ct/\b=bd/\c=aW l'/\d=ts/\e=rn
def UL (W:aK)(ls:List Lt)(x:Lt):AS:=⟨[(34,.ptr (.par 0) 0),(40,.vec (.loc 40 0) 4 0 ls.length),(41,.pv (.i (dJ (ls.map Lt.num) x.num))),(52,.vec (.loc 52 0) 4 0 1)],[(.loc 40 0,.arr 89 4 (ls.map Lt.pv)),(.loc 52 0,.arr 89 4 [x.pv]),(.par 0,W)]⟩
theorem ZU (ct bd ts rn:PV)(ls:List Lt)(n p q:Int)(hn:JV n)(hl:ls.length<=900)(hs:(ls.map Lt.num).Pairwise (·<·))(dD:∀y∈ls,vU y):
  sY prog 189 [.ptr (.par 0) 0,.pv (.aE false 1 [iP n,iP p,iP q])] [(.par 0,aQ ct bd (aW ls) ts rn)] (yB (ltQ (pK ls ⟨n,p,q,false⟩) ct bd ts rn)) (uR (fun e=>pK ls ⟨n,p,q,false⟩=.error e)):=by
 have D9:=Yi ls n ct bd ts rn hs (by omega) (fun y hy=>by obtain⟨h1,h2,_⟩:=dD y hy;unfold JV at hn;exact wrap64 (by omega));have lG:=WS (l:=ls.map Lt.num) (x:=n);rw[fZ]at lG;have IA:=LX ZuQ ⟨_,_,func237,by kernel_rfl,rfl⟩ (ls.map Lt.pv) (Lt.pv ⟨n,p,q,false⟩) (dJ (ls.map Lt.num) n) (by rw[fZ];exact lG) (by rw[fZ];omega);rw[<-ZhF (f:=Lt.pv),fZ]at IA;have w1:=KA n 1 99;have w2:=KA p 4 30;have w3:=KA q 0 1000;refine cX L189 ?_;generalize hE:(fun e=>pK ls ⟨n,p,q,false⟩=.error e)=E;generalize hQ:ltQ (pK ls ⟨n,p,q,false⟩) ct bd ts rn=Q;unfold pK at hE hQ;dsimp only at hE hQ;show fO _ (.seq _ (.seq _ (.seq _ _))) _ _ _;generalize MO:(decide (1<=n)&&decide (n<=99))=c1 at hE hQ w1;generalize FB:(decide (4<=p)&&decide (p<=30))=c2 at hE hQ w2;generalize Cn:(decide (0<=q)&&decide (q<=1000))=c3 at hE hQ w3;by_cases hc:¬(c1=true/\c2=true/\c3=true)
 .rw[if_neg hc]at hE;have z7:E 2:=by rw[<-hE]
  refine xD [_,_,_,_,_,_,_,_,_,_,_,_,_,_,_,_] ?_;simp[hold,iP];refine cG [.i n,.i 1,.i 99] w1 ?_;cases c1 with
  |false=>
   simp[hold];exact pF 2 z7
  |true=>
  simp[hold];refine cG [.i p,.i 4,.i 30] w2 ?_;cases c2 with
  |false=>
   simp[hold];exact pF 2 z7
  |true=>
  simp[hold];refine cG [.i q,.i 0,.i 1000] w3 ?_;cases c3 with
  |false=>
   simp;exact pF 2 z7
  |true=>exact absurd ⟨rfl,rfl,rfl⟩ hc
 have hc:=Decidable.not_not.1 hc;rw[if_pos hc]at hE hQ;obtain⟨rfl,rfl,rfl⟩:=hc;refine mF ?_;simp[hold,iP];refine cG [.i n,.i 1,.i 99] w1 ?_;simp[hold];refine cG [.i p,.i 4,.i 30] w2 ?_;simp[hold];refine cG [.i q,.i 0,.i 1000] w3 ?_;simp;refine cG [.bool true,.i 2] (gM 2) ?_;simp[hold];refine mF ?_;simp[hold,aQ,aW];refine cM [.ptr (.par 0) 0,.pv (.i n)] [(.par 0,aQ ct bd (aW ls) ts rn)] 28 [.par 0] (by simp[aQ,aW]) D9 (by simp[aQ]) ?_;simp[-List.mem_map,aQ];by_cases hm:n∈ls.map Lt.num
 .rw[if_pos hm]at hE;have IU:E 6:=by rw[<-hE]
  refine xD [_,_] ?_;simp[-List.mem_map,hold,hm];exact pF 6 IU
 rw[if_neg hm]at hQ;refine mF ?_;simp[-List.mem_map,hold,hm];refine cG [.bool true,.i 6] (gM 6) ?_;simp;refine GB ?_;have gO:=ZgX (ls.map Lt.pv) (by rw[fZ];omega);simp[hold];refine ED (fun τ=>τ=UL (aQ ct bd (aW ls) ts rn) ls ⟨n,p,q,false⟩) ?_ ?_
 .simp only[gP];refine⟨?_,?_⟩
  .simp[hold];refine R4 [] (fs:=[]) (xs:=[.aE false 4 (ls.map Lt.pv)]) (cs:=[]) rfl rfl gO ?_;rintro r B (⟨h,rfl,rfl⟩|⟨rfl,rfl⟩)
   .rw[List.map_eq_nil_iff]at h;subst h;simp[gP,gZ];exact Sub.trans' (Sub.mk (by simp[AS.cR]) (by simp[AS.cR,aQ,aW,Lt.pv])) (cR 40 89 4 40 rfl (by decide))
   .simp[gP,gZ];exact Sub.mk (by simp) (by simp[aQ,aW,Lt.pv])
  .refine⟨?_,trivial⟩;simp[gP,gZ,hold];refine R4 [] (fs:=[]) (xs:=[.aE false 4 (ls.map Lt.pv)]) (cs:=[]) rfl rfl gO ?_;rintro r B (⟨h,rfl,rfl⟩|⟨rfl,rfl⟩)
   .rw[List.map_eq_nil_iff]at h;subst h;simp;exact Sub.trans' (Sub.mk (by simp[UL,AS.cR]) (by simp[UL,AS.cR,aQ,aW,Lt.pv])) (cR 40 89 4 40 rfl (by decide))
   .simp;exact Sub.mk (by simp[UL]) (by simp[UL,aQ,aW,Lt.pv])
 .rintro τ rfl;simp[UL,gP,gZ];refine cL [.vec (.par 0) 4 0 ls.length,.pv (.i (dJ (ls.map Lt.num) n)),.vec (.par 1) 4 0 1] [(.par 0,.arr 89 4 (ls.map Lt.pv)),(.par 1,.arr 89 4 [Lt.pv ⟨n,p,q,false⟩])] 53 [.loc 40 0,.loc 52 0] (by simp) IA ?_
  rintro r0 B0 ⟨rfl,rfl⟩;refine⟨by simp,by simp,?_⟩;have hle:ls.length+1<=(lN ls (dJ (ls.map Lt.num) n) ⟨n,p,q,false⟩).length:=by rw[TC lG];exact fH _
  have jT:List.take (ls.length+1) ((lN ls (dJ (ls.map Lt.num) n) ⟨n,p,q,false⟩).map Lt.pv)=(lN ls (dJ (ls.map Lt.num) n) ⟨n,p,q,false⟩).map Lt.pv:=fP (by rw[fZ,TC lG];exact fH _);simp[hold,aQ,gP,gZ];refine l8 (a:=ct) (b:=bd) (c:=aW (lN ls (dJ (ls.map Lt.num) n) ⟨n,p,q,false⟩)) (d:=ts) (e:=rn) [.loc 53 0] ?_ ?_
  .simp[aY,AS.cH,AV.cH,AV.aY,aK.cH,aQ,aW,jT,hle]
  .rw[<-hQ];exact⟨_,rfl,rfl,rfl,rfl,rfl,rfl⟩
theorem Zu8 (st:Wk)(hl:st.aA.length<=1000)(hb:st.bad.length<=900)(hs:st.bad.Pairwise (·<·)):EL st:=fun n _=>by
 refine(En st.aA st.bad (aW st.aN) (bI st.aH) (dU st.runs) n hl hb hs).mono ?_ ?_
 .rintro r B ⟨rfl,a,b,c,d,e,rfl,l',h1,rfl,rfl,rfl,rfl,rfl⟩;exact⟨rfl,_,_,_,_,_,rfl,{ st with bad:=l' },by rw[h1];rfl,rfl⟩
 .rintro x B ⟨m,rfl,h1,h2⟩;exact⟨m,rfl,by rw[h1];rfl,h2⟩
theorem ZuM (st:Wk)(hl:st.aN.length<=900)(hs:(st.aN.map Lt.num).Pairwise (·<·))(dD:∀y∈st.aN,vU y):EK st:=fun n p m hn _ _=>by
 refine(ZU (aL st.aA) (bJ st.bad) (bI st.aH) (dU st.runs) st.aN n p m hn hl hs dD).mono ?_ ?_
 .rintro r B ⟨rfl,a,b,c,d,e,rfl,l',h1,rfl,rfl,rfl,rfl,rfl⟩;exact⟨rfl,_,_,_,_,_,rfl,{ st with aN:=l' },by rw[h1];rfl,rfl⟩
 .rintro x B ⟨m,rfl,h1,h2⟩;exact⟨m,rfl,by rw[h1];rfl,h2⟩
theorem Nn {F:Nat}(hF:407<F):Fs sI (lI F):=fun k st s hk h hs=>
 ⟨h.next s,Dx hF st s (by omega) (h.ok (by omega)) (by have:=h.c;omega) (by have:=h.r;omega) h.s (Zu8 st (by have:=h.c;omega) (by have:=h.b;omega) h.bs) (ZuM st (by have:=h.l;omega) h.s (fun x hx=>(h.lt x hx).1))⟩
theorem Ls (k:Nat)(w:Wk)(hk:k<=50)(h:sI k w):F6 w:=h.ok (by omega)
theorem Zvh {F:Nat}(hF:407<F)(L:List ByteArray)(hl:L.length<=1000000):aD prog 10 [bO L] (BF (lI F) L):=Zvg (Nn hF) vD Ls L hl
theorem Zgi {F:Nat}(hF:407<F)(L:List ByteArray)(hl:L.length<=1000000)(n:Int):aD prog 16 [bO L,.i n] (j7 (lI F) L n):=Zj5 (Nn hF) vD Ls L hl n (fun k w hk h=>by have:=h.b;omega)
section
open Go.RowKit Go.Shelf
theorem ZqV:(prog.info? 102).map (·.size)=some 2:=by kernel_rfl
theorem Zlo:∃j,prog.info? 102=some j/\j.size≠0:=by
 obtain⟨j,h1,h2⟩:=eA.1 ZqV;exact⟨j,h1,by rw[h2];decide⟩
theorem ZqW:liesAt prog prog.depth 102 (2 / prog.cellsOf 102) 0 102 1=true:=by kernel_rfl
theorem ZtS (b:Nat)(v:Value)(w:World)(hb:w.heap[b]?=some (.cells #[.pointer (some ⟨b,0,none⟩),v] 102 (0,0))):
  Calls prog 78 #[.pointer (some ⟨b,0,none⟩)] w fun e w'=>e=.returned (.tuple #[])/\w'=w:=by
 have h0:w.cell? ⟨b,0,none⟩=some (.pointer (some ⟨b,0,none⟩)):=by rw[Lib.cell_of_heap hb];rfl
 obtain⟨j,hj,_⟩:=Zlo;go_enter func78,ntmps78;go_wp2;rw[Lib.run_neq_ptr_same w _ underlying100 hj];go_wp2;go_end0;exact⟨rfl,rfl⟩
theorem ZqN (b:Nat)(v:Value)(w:World)(hb:w.heap[b]?=some (.cells #[.pointer none,v] 102 (0,0))):
  Calls prog 78 #[.pointer (some ⟨b,0,none⟩)] w fun e w'=>e=.returned (.tuple #[])/\w'=w.setCell ⟨b,0,none⟩ (.pointer (some ⟨b,0,none⟩)):=by
 have h0:w.cell? ⟨b,0,none⟩=some (.pointer none):=by rw[Lib.cell_of_heap hb];rfl
 have hfz:w.frozen? ⟨b,0,none⟩=false:=Lib.frozen_of_heap hb 0;have HQ:w.shape? b=some (102,2):=by simp[World.shape?,hb]
 obtain⟨j,hj,hjs⟩:=Zlo;go_enter func78,ntmps78;go_wp2;rw[Lib.run_to_unsafe w ⟨b,0,none⟩ underlying100 underlying216 hj hjs HQ (Nat.zero_lt_succ 1)];simp only[Result.andThen];rw[Oper.upon_value];go_wp2;rw[run_callFunc_extern func117 (by kernel_rfl) (by kernel_rfl) (by kernel_rfl) (e:=Extern.AbiNoEscape.same) (by kernel_rfl)];rw[Lib.run_noEscape];simp only[Result.andThen];rw[Oper.upon_value];go_wp2;rw[Lib.run_from_unsafe w ⟨b,0,none⟩ underlying216 underlying100 hj HQ ZqW];simp only[Result.andThen];rw[Oper.upon_value];go_wp2;go_end0;exact⟨rfl,rfl⟩
theorem Zi3 (b n cap:Nat)(ad:Option Addr)(ad':Option Addr)(n' JB:Nat)(s:ByteArray)(w w1 w2:World)(mB:Calls prog 78 #[.pointer (some ⟨b,0,none⟩)] w fun e w'=>e=.returned (.tuple #[])/\w'=w1)
  (sU:w1.heap[b]?=some (.cells #[.pointer (some ⟨b,0,none⟩),.slice ad n cap] 102 (0,0))) (Vi:∀ty,(Builtin.append_ #[63,9] ty #[.slice ad n cap,.string s]).run prog w1=.ok (.slice ad' n' JB) w2)
  (pO:w2.heap[b]?=some (.cells #[.pointer (some ⟨b,0,none⟩),.slice ad n cap] 102 (0,0))):
  Calls prog 40 #[.pointer (some ⟨b,0,none⟩),.string s] w fun e w'=>e=.returned (.tuple #[.i s.size,.nilIface])/\w'=w2.setCell ⟨b,1,none⟩ (.slice ad' n' JB):=by
 have c0:w1.cell? ⟨b,0,none⟩=some (.pointer (some ⟨b,0,none⟩)):=by rw[Lib.cell_of_heap sU];rfl
 have c1:w1.cell? ⟨b,1,none⟩=some (.slice ad n cap):=by rw[Lib.cell_of_heap sU];rfl
 have d0:w2.cell? ⟨b,0,none⟩=some (.pointer (some ⟨b,0,none⟩)):=by rw[Lib.cell_of_heap pO];rfl
 have d1:w2.cell? ⟨b,1,none⟩=some (.slice ad n cap):=by rw[Lib.cell_of_heap pO];rfl
 have f1:w2.frozen? ⟨b,1,none⟩=false:=Lib.frozen_of_heap pO 1;have e112:∀args w,(callFunc 78 args).run prog w=.ok (.enter 78 args) w:=enters_of func78 (by kernel_rfl) rfl;go_enter func40,ntmps40;go_wp2_with (go_at_fn 78;refine mB.mono ?_);rintro e w' ⟨rfl,rfl⟩;go_wp2_with (at_builtin;refine Lib.wpList_append_run _ rfl _ _ _ _ rfl _ _ rfl rfl _ _ (Vi _) ?_);go_ret2;exact⟨rfl,rfl⟩
end
theorem cV.sub {bs cs:List Nat}{w w':World}(h:cV bs w w')(hs:∀k∈bs,k∈cs):cV cs w w':=⟨h.os,h.tape,h.output,h.size,fun k hk hn=>h.block k hk (fun hm=>hn (hs k hm))⟩
abbrev EM:TypeId:=102
abbrev W5:TypeId:=5
def yA (b:Nat):Value:=.pointer (some ⟨b,0,none⟩)
theorem Zq {q:Loc}{m:Mem}{w w2:World}{l:List UInt8}{v0:Value}{g n c:Nat}{cur:Array Value}(pO:w2.heap[q.b]?=some (.cells #[yA q.b,v0] EM (0,0)))(H3:w2.heap[g]?=some (.cells cur W5 (0,0)))(Q2:g≠q.b)(hn:n=l.length)(MP:0<c)
  (G9:n<=c) (FA:c<=cur.size) (rR:c<=maxLen) (QW:∀(i:Nat) (b:UInt8),l[i]?=some b->cur[i]?=some (.int .u8 b.toNat)) (hk:cV (q.b::zB q w) w w2) (M7:g∈zB q w\/w.heap.size<=g):
  b9 EM W5 l q m (w2.setCell ⟨q.b,1,none⟩ (.slice (some ⟨g,0,none⟩) n c))/\cV (q.b::zB q w) w (w2.setCell ⟨q.b,1,none⟩ (.slice (some ⟨g,0,none⟩) n c))/\∀k∈zB q (w2.setCell ⟨q.b,1,none⟩ (.slice (some ⟨g,0,none⟩) n c)),k∈zB q w\/w.heap.size<=k:=by
 subst hn;obtain⟨c,rfl⟩:∃k,c=k+1:=⟨c-1,by omega⟩;rw[setCell_eq_setRow _ _ _ _ _ _ _ pO];have h3:(w2.setRow q.b (#[yA q.b,v0].setIfInBounds 1 (.slice (some ⟨g,0,none⟩) l.length (c+1)))).heap[q.b]?=some (.cells #[yA q.b,.slice (some ⟨g,0,none⟩) l.length (c+1)] EM (0,0)):=setRow_heap _ _ _ _ _ _ pO;refine⟨⟨_,_,h3,.inr rfl,.inr ⟨g,c,cur,rfl,Q2,by rw[setRow_other _ _ _ _ Q2];exact H3,G9,FA,rR,QW⟩⟩,hk.trans ((cV.setRow _ _ _).sub (fun k h=>by rw[rW]at h;subst h;exact List.mem_cons_self ..)),fun k h=>?_⟩;rw[Hz h3,rW]at h;subst h;exact M7
theorem Zo2 {q:Loc}{m:Mem}{w:World}{l:List UInt8}(s:ByteArray)(hs:0<s.size)(hl:l.length+s.size<=1000000)(h:b9 EM W5 l q m w):
  Calls prog 40 #[yA q.b,.string s] w fun e w'=>e=.returned (.tuple #[.i s.size,.nilIface])/\b9 EM W5 (l++s.data.toList) q m w'/\cV (q.b::zB q w) w w'/\∀k∈zB q w',k∈zB q w\/w.heap.size<=k:=by
 obtain⟨p,v,hb,hp,hv⟩:=h;obtain⟨w1,mB,sU,hZ⟩:∃w1,(Calls prog 78 #[yA q.b] w fun e w'=>e=.returned (.tuple #[])/\w'=w1)/\w1.heap[q.b]?=some (.cells #[yA q.b,v] EM (0,0))/\cV [q.b] w w1:=by
  rcases hp with rfl|rfl
  .refine⟨_,ZqN q.b v w hb,?_,?_⟩
   .rw[setCell_eq_setRow _ _ _ _ _ _ _ hb];exact setRow_heap _ _ _ _ _ _ hb
   .rw[setCell_eq_setRow _ _ _ _ _ _ _ hb];exact cV.setRow _ _ _
  .exact⟨w,ZtS q.b v w hb,hb,cV.tI _ _⟩
 have wL:q.b<w.heap.size:=(qF.1 hb).1;have Cx:q.b<w1.heap.size:=(qF.1 sU).1;have fI:=hZ.size;have QJ:cV (q.b::zB q w) w w1:=hZ.sub (fun k h=>by rw[rW]at h;subst h;exact List.mem_cons_self ..);obtain⟨i,z,hi,hz,X3,P6,Ji⟩:∃i z,prog.info? 5=some i/\i.zero=some z/\i.size=1/\i.bytes=1/\z.cells.size=1:=by
  have h:(prog.info? 5).map (fun i=>(i.zero,i.size,i.bytes))=some (some (.int .u8 0),1,1):=by kernel_rfl
  cases h':prog.info? 5 with
  |none=>rw[h']at h;simp at h
  |some i=>
   rw[h',uW,Option.some.injEq,Prod.mk.injEq,Prod.mk.injEq]at h;exact⟨i,_,rfl,h.1,h.2.1,h.2.2,rfl⟩
 have PQ:∀w',(Builtin.firstCells i.size s.size (.string s)).run prog w'=.ok (Lib.strCells s).toArray w':=fun w'=>Lib.run_firstCells_string w' i.size s
 have X8:=Lib.strCells_length s;have nG:s.data.toList.length=s.size:=rfl;have UY:∀(j:Nat) (b:UInt8),s.data.toList[j]?=some b->(Lib.strCells s)[j]?=some (.int .u8 b.toNat):=fun j b hj=>by
  unfold Lib.strCells;rw[bX,hj];rfl
 rcases hv with⟨rfl,rfl⟩|⟨g,c,cur,rfl,Q2,hg,h1,h2,h3,h4⟩
 .have dG:∀ty,(Builtin.append_ #[63,9] ty #[.slice none 0 0,.string s]).run prog w1=_:=fun ty=>
   Zeq (P:=prog) (w:=w1) (ty:=ty) underlying63 underlying9 hi hz none 0 0 s s.size rfl [] (Lib.strCells s) (fun w' _=>run_firstCells_none w' i.size 0 0 0) (fun w' _=>PQ w') (by omega) (by omega) (growslice_fits (by omega) (by rw[P6];omega))
  have yQ:=grownCap_ge w1 (0+s.size) 0 W5;have hle:=grownCap_le_maxLen w1 (0+s.size) 0 W5 (by unfold maxLen;omega);generalize grownCap w1 (0+s.size) 0 W5=G at dG yQ hle;have pO:(w1.drew.alloc (.cells (([]++Lib.strCells s).toArray++Builtin.zeroCells z.cells (G-(0+s.size))) W5)).heap[q.b]?=some (.cells #[yA q.b,.slice none 0 0] EM (0,0)):=by rw[heap_alloc_old w1.drew _ Cx];exact sU
  refine(Zi3 q.b 0 0 none _ _ _ s w w1 _ mB sU dG pO).mono ?_;rintro e w' ⟨rfl,rfl⟩;refine⟨rfl,Zq pO (heap_alloc_new w1.drew _) (by show w1.heap.size≠q.b;omega) ?_ (by omega) yQ ?_ hle (fun j b hj=>?_) (QJ.trans ((Gd w1 _).trans (cV.Fe (Ext.al _ _) _))) (.inr fI)⟩
  .rw[gD,nG];rfl
  .rw[Array.size_append,yY,gD,size_zeroCells,Ji,X8,List.length_nil];omega
  .have aJ:=(cA.1 hj).1;rw[List.nil_append]at hj aJ ⊢;rw[Array.getElem?_append_left (by rw[yY,X8];omega),I3];exact UY j b hj
 .have hgl:g<w.heap.size:=(qF.1 hg).1;have QU:w1.heap[g]?=some (.cells cur W5 (0,0)):=by rw[hZ.block g hgl (by simpa using Q2)];exact hg
  have HY:zB q w=[g]:=Hz hb;by_cases eQ:l.length+s.size<=c+1
  .have dG:∀ty,(Builtin.append_ #[63,9] ty #[.slice (some ⟨g,0,none⟩) l.length (c+1),.string s]).run prog w1=_:=fun ty=>
    Zgq (P:=prog) (w:=w1) (ty:=ty) underlying63 underlying9 hi g 0 l.length (c+1) cur QU s s.size rfl (Lib.strCells s) (PQ w1) (Lib.strCells_oneCell s) eQ (by rw[X3,X8];omega)
   have pO:(w1.setRow g (aS cur.toList (0+l.length*i.size) (Lib.strCells s)).toArray).heap[q.b]?=some (.cells #[yA q.b,.slice (some ⟨g,0,none⟩) l.length (c+1)] EM (0,0)):=by rw[setRow_other _ _ _ _ (Ne.symm Q2)];exact sU
   refine(Zi3 q.b l.length (c+1) _ _ _ _ s w w1 _ mB sU dG pO).mono ?_;rintro e w' ⟨rfl,rfl⟩;have gO:cur.toList.length=cur.size:=uX;refine⟨rfl,Zq pO (setRow_heap _ _ cur _ _ _ QU) Q2 ?_ (by omega) eQ ?_ h3 (fun j b hj=>?_) (QJ.trans ((cV.setRow _ _ _).sub (fun k h=>by rw[rW]at h;subst h;rw[HY];simp))) (.inl (by rw[HY];simp))⟩
   .rw[gD,nG]
   .rw[yY,V6 (by rw[X3,X8];omega),gO];exact h2
   .rw[I3,A2 (by rw[X3,X8];omega),X3,rV,Nat.mul_one,X8];rw[yX]at hj;split at hj
    .rename_i aJ;rw[if_pos aJ,O5];exact h4 j b hj
    .rename_i aJ
     have:=(cA.1 hj).1
     rw[if_neg aJ,if_pos (by omega)];exact UY _ b hj
  .have CJ:∀w',(∀A,w'.cell? A=w1.cell? A)->(Builtin.firstCells i.size l.length (.slice (some ⟨g,0,none⟩) l.length (c+1))).run prog w'=.ok (l.map fun b=>Value.int .u8 b.toNat).toArray w':=fun w' hw=>by
    rw[X3];refine run_firstCells_some (P:=prog) w' 1 l.length ⟨g,0,none⟩ l.length (c+1) _ (by rw[fZ];omega) (fun j u hj=>?_);rw[bX]at hj;obtain⟨b,nM,rfl⟩:=eA.1 hj;rw[Addr.add_lit,hw,rV];exact(cell_of_row w1 g j cur _ _ QU).trans (h4 j b nM)
   have dG:∀ty,(Builtin.append_ #[63,9] ty #[.slice (some ⟨g,0,none⟩) l.length (c+1),.string s]).run prog w1=_:=fun ty=>
    Zeq (P:=prog) (w:=w1) (ty:=ty) underlying63 underlying9 hi hz (some ⟨g,0,none⟩) l.length (c+1) s s.size rfl (l.map fun b=>Value.int .u8 b.toNat) (Lib.strCells s) CJ (fun w' _=>PQ w') (by omega) (by omega) (growslice_fits (by omega) (by rw[P6];omega))
   have yQ:=grownCap_ge w1 (l.length+s.size) (c+1) W5;have hle:=grownCap_le_maxLen w1 (l.length+s.size) (c+1) W5 (by unfold maxLen;omega);generalize grownCap w1 (l.length+s.size) (c+1) W5=G at dG yQ hle;have pO:(w1.drew.alloc (.cells (((l.map fun b=>Value.int .u8 b.toNat)++Lib.strCells s).toArray++Builtin.zeroCells z.cells (G-(l.length+s.size))) W5)).heap[q.b]?=some (.cells #[yA q.b,.slice (some ⟨g,0,none⟩) l.length (c+1)] EM (0,0)):=by rw[heap_alloc_old w1.drew _ Cx];exact sU
   refine(Zi3 q.b l.length (c+1) _ _ _ _ s w w1 _ mB sU dG pO).mono ?_;rintro e w' ⟨rfl,rfl⟩;refine⟨rfl,Zq pO (heap_alloc_new w1.drew _) (by show w1.heap.size≠q.b;omega) ?_ (by omega) yQ ?_ hle (fun j b hj=>?_) (QJ.trans ((Gd w1 _).trans (cV.Fe (Ext.al _ _) _))) (.inr fI)⟩
   .rw[gD,nG]
   .rw[Array.size_append,yY,gD,fZ,size_zeroCells,Ji,X8];omega
   .have aJ:=(cA.1 hj).1;rw[gD,nG]at aJ;rw[Array.getElem?_append_left (by rw[yY,gD,fZ,X8];omega),I3];rw[yX]at hj ⊢;rw[fZ];split at hj
    .rename_i h;rw[if_pos h,bX,hj];rfl
    .rename_i h;rw[if_neg h];exact UY _ b hj
section
open Go.RowKit Go.Sort
theorem Zoi {w w':World}(h:Below w.heap.size w w'):Ext w w':=⟨h.os,h.tape,h.output,h.size,h.block⟩
def vZ (xs:List ByteArray)(sep:ByteArray):ByteArray:=⟨(Lib.join (xs.map (·.data.toList)) sep.data.toList).toArray⟩
theorem ZuP (xs:List ByteArray)(sep:ByteArray)(h1:xs.length<=1000000)(hlen:(Lib.join (xs.map (·.data.toList)) sep.data.toList).length<=140737488355328):aD prog 90 [bO xs,.str sep] (.str (vZ xs sep)):=by
 refine Nr ⟨_,_,func90,by kernel_rfl,rfl⟩ fun w m vs hg hm fI lF=>?_
 obtain⟨v,u,rfl⟩:=JF fI;obtain rfl:=SZ (lF 1 u _ rfl rfl);have hv:=lF 0 v _ rfl rfl;unfold bO at hv;generalize hX:xs.map PV.str=X at hv;cases hv with
 |aE a cap nn n ys ds l0 l1 l2 l3 l4 l5 l6 l7=>
 cases xs with
 |nil=>
  subst hX;exact(strings_Join_none a cap sep w).mono fun e w' ⟨k1,k2⟩=>⟨_,k1,k2▸Ext.tI _,.str _⟩
 |cons x0 r=>
  have hl:X.length=(x0::r).length:=by rw[<-hX,fZ]
  obtain⟨b,o,rfl,_⟩:=l5 0 (.str x0) (by rw[<-hX];rfl);have hc:∀(j:Nat) x,(x0::r)[j]?=some x->w.cell? ⟨b,o+j,none⟩=some (.string x):=fun j x hj=>by
   have Vk:X[j]?=some (.str x):=by rw[<-hX,bX,hj];rfl
   obtain⟨b',o',e,q9⟩:=l5 j _ Vk;cases e;obtain⟨q1,q2,_⟩:=l6 j _ Vk;obtain⟨d,hd⟩:∃d,(ds j)[0]?=some d:=⟨(ds j)[0]'(by omega),bC _⟩;have Sv:=l7 j _ 0 d _ Vk hd rfl;obtain rfl:=SZ Sv
   have:=hm _ _ _ (q9.get 0 _ hd)
   rw[Nat.mul_one,Nat.add_zero]at this;exact this
  have VO:=hc 0 x0 rfl;rw[hl];exact(strings_Join b o cap (x0::r) sep w hc (AO VO) (by omega) (by omega) hlen).mono fun e w' ⟨k1,k2⟩=>⟨_,k1,Zoi k2,.str _⟩
end
inductive Wd where
 |num (n:Int)
 |kM (s:ByteArray)
def Wd.pv:Wd->PV
 |.num n=>.iface 3 (.i n)
 |.kM s=>.iface 9 (.str s)
def Wd.b:Wd->ByteArray
 |.num n=>wA n
 |.kM s=>s
def Wd.ok:Wd->Prop
 |.num n=>-9223372036854775808<=n/\n<=9223372036854775807
 |.kM _=>True
def Ab (ws:List Wd)(k:Nat):AS:=
 ⟨[(3,.vec (.loc 22 0) 1 0 k),(8,.pv (.aE false 1 (ws.map Wd.pv))),(9,.pv (.i ws.length)),(10,.pv (.i (k:Int)))],[(.loc 22 0,.arr 9 1 (((ws.take k).map Wd.b).map .str))]⟩
theorem Gs (ws:List Wd)(hl:ws.length<=1000)(hw:∀x∈ws,x.ok)(hlen:(Lib.join ((ws.map Wd.b).map (·.data.toList)) blank.data.toList).length<=140737488355328):aD prog 44 [.aE false 1 (ws.map Wd.pv)] (.str (vZ (ws.map Wd.b) blank)):=by
 have VK:=ZuP (ws.map Wd.b) blank (by rw[fZ];omega) hlen;refine Q4 [] L44 ?_;intro R hR;simp[L44];refine eP (fun m τ=>∃k:Nat,k<=ws.length/\m=ws.length-k/\τ=Ab ws k) ⟨ws.length,Ab ws 0,Sub.trans' (Sub.mk (by simp[AS.cR]) (by simp[AS.cR])) (cR 22 9 1 3 rfl (by decide)),0,gY _,rfl,rfl⟩ ?_;rintro J hJ m τ ⟨k,hk,rfl,rfl⟩;by_cases aJ:k<ws.length
 .obtain⟨x,hx⟩:∃x,ws[k]?=some x:=⟨ws[k],bC aJ⟩;have hg:(ws.map Wd.pv)[k]?=some x.pv:=by rw[bX,hx];rfl
  have Jm:=hw x (dL hx);have UU:=bN (k:=k) (by omega);have hZ:k+1<=1000000:=by omega
  have QE:min k ws.length=k:=Nat.min_eq_left (by omega);have hn:=hJ (ws.length-(k+1)) _ ⟨k+1,aJ,rfl,rfl⟩;unfold Ab at hn;rw[mR,hx,mH,mH]at hn;have aG:ws.length-(k+1)<ws.length-k:=by omega
  have yN:(((ws.take k).map Wd.b).map PV.str).length=k:=by rw[fZ,fZ,gN];omega
  unfold Ab;generalize((ws.take k).map Wd.b).map PV.str=T at hn yN ⊢;cases x with
  |num n=>
   simp only[Wd.pv]at hg;simp[aJ,↓hg];refine cG [.i n] (Yr n Jm) ?_;simp[aP,hZ,yN,UU];exact⟨_,_,aG,Sub.mk (by simp) (by simp[Wd.b]),hn⟩
  |kM s=>
   simp only[Wd.pv]at hg;simp[aJ,↓hg,aP,hZ,UU,yN];refine⟨_,_,aG,Sub.trans' (Sub.mk ?_ ?_) (o0 22 3 (T++[.str s]) (s:=.loc 29 0) (e:=9) rfl rfl ?_ rfl),hn⟩
   .simp[AS.o0]
   .simp[AS.o0,Wd.b]
   .simp[yN]
 .have he:k=ws.length:=by omega
  subst he;have jT:ws.take ws.length=ws:=mX;unfold Ab;rw[jT];have hm:List.take ws.length ((ws.map Wd.b).map PV.str)=(ws.map Wd.b).map PV.str:=fP (by simp);simp[-List.map_map];refine .inl (cP [.loc 22 0] [bO (ws.map Wd.b),.str blank] (by simp) (by simp[-List.map_map,bO,blank,hm]) VK ?_);simp;rw[<-hR];exact⟨rfl,rfl⟩
def kS (S:Int->Int->Bool)(ts:List Tt)(n:Int):Nat:=(ts.filter fun t=>decide (t.fU=n)&&S t.item t.day).length
theorem ZlT {S:Int->Int->Bool}{ts:List Tt}{n:Int}{k:Nat}{t:Tt}(h:ts[k]?=some t):kS S (ts.take (k+1)) n=kS S (ts.take k) n+(if(decide (t.fU=n)&&S t.item t.day)=true then 1 else 0):=by
 unfold kS;rw[mR,h,I1,gD];congr 1;simp only[Option.toList,xP,List.filter_nil];cases(decide (t.fU=n)&&S t.item t.day)<;>simp
theorem Zhu {S:Int->Int->Bool}{ts:List Tt}{n:Int}:kS S ts n<=ts.length:=Q7 _ _
def GK:ByteArray:=⟨#[108,111,116]⟩
def Ll:ByteArray:=⟨#[116,101,115,116,115]⟩
def FY:ByteArray:=⟨#[112,97,115,115,101,100]⟩
def TJ:ByteArray:=⟨#[114,101,99,97,108,108,101,100]⟩
def eJ (ws:List Wd):ByteArray:=vZ (ws.map Wd.b) blank
def u0 (ws:List Wd):Prop:=(Lib.join ((ws.map Wd.b).map (·.data.toList)) blank.data.toList).length<=140737488355328
def G3 (x:Lt)(many:Nat)(v:Int):List Wd:=[.kM GK,.num x.num,.kM Ll,.num many,.kM (zI v)]
def LS (x:Lt)(many:Nat)(v:Int):ByteArray:=if x.passed=true then eJ [.kM (eJ (G3 x many v)),.kM FY]else eJ (G3 x many v)
def XC (x:Lt)(many:Nat)(v:Int):ByteArray:=if(x.passed&&!decide (v=1))=true then eJ [.kM (LS x many v),.kM TJ]else LS x many v
def UO (W:aK)(x:Lt)(S:Int->Int->Bool)(ts:List Tt)(k:Nat):AS:=
 ⟨[(0,.ptr (.par 0) 0),(3,.ptr (.loc 3 0) 0),(5,.pv (.i ((kS S (ts.take k) x.num:Nat):Int))),(13,.pv (.aE false 4 (ts.map Tt.pv))),(14,.pv (.i ts.length)),(15,.pv (.i (k:Int)))],
  [(.loc 3 0,.cells [.pv (.i x.num),.pv (.i x.pieces),.pv (.i x.limit),.pv (.bool x.passed)]),(.par 0,W)]⟩
theorem Zp7 (l:List Ct)(bad:List Int)(ls:PV)(ts:List Tt)(rn:PV)(x:Lt)(hl:l.length<=1000)(hb:bad.length<=1000)(ht:ts.length<=900)(hx:vU x)(dF:zG l bad ts)
  (j0:u0 (G3 x (kS (stM l bad) ts x.num) (cW l bad ts x))) (j1:u0 [.kM (eJ (G3 x (kS (stM l bad) ts x.num) (cW l bad ts x))),.kM FY]) (j2:u0 [.kM (LS x (kS (stM l bad) ts x.num) (cW l bad ts x)),.kM TJ]):
  cN prog 41 [.ptr (.par 0) 0,.pv x.pv] [(.par 0,aQ (aL l) (bJ bad) ls (bI ts) rn)] (fun r B=>r=.pv (.str (XC x (kS (stM l bad) ts x.num) (cW l bad ts x)))/\B=[(.par 0,aQ (aL l) (bJ bad) ls (bI ts) rn)]):=by
 have qN:=Og l bad ls ts rn x hl hb ht hx.2.2.1 hx.2.2.2 dF;have HL:iB (stM l bad) (nV l bad x.limit) x.num ts []=cW l bad ts x:=rfl;rw[HL]at qN;have nY:=ZlP l bad ls ts rn x hl hb ht hx.2.2.1 hx.2.2.2 dF;rw[Lt.pv]at qN nY;refine N9 [.par 0] L41 ?_;intro R hR;simp[L41,aQ,Lt.pv,bI];refine eP (fun m τ=>∃k:Nat,k<=ts.length/\m=ts.length-k/\τ=UO (aQ (aL l) (bJ bad) ls (bI ts) rn) x (stM l bad) ts k) ⟨ts.length,UO (aQ (aL l) (bJ bad) ls (bI ts) rn) x (stM l bad) ts 0,Sub.mk (by simp[kS]) (by simp[aQ,bI]),0,gY _,rfl,rfl⟩ ?_;rintro J hJ m τ ⟨k,hk,rfl,rfl⟩;by_cases aJ:k<ts.length
 .obtain⟨t,MA⟩:∃t,ts[k]?=some t:=⟨ts[k],bC aJ⟩;have hg:(ts.map Tt.pv)[k]?=some t.pv:=by rw[bX,MA];rfl
  simp only[Tt.pv]at hg;have hw:=bN (k:=k) (by omega);have H0:=Zhu (S:=stM l bad) (ts:=ts.take k) (n:=x.num);rw[gN]at H0;have sN:=bN (k:=kS (stM l bad) (ts.take k) x.num) (by omega);have aG:ts.length-(k+1)<ts.length-k:=by omega
  have hn:=hJ (ts.length-(k+1)) _ ⟨k+1,aJ,rfl,rfl⟩;unfold UO at hn;rw[ZlT MA]at hn;have wE:=Gy l bad ls (bI ts) rn hl hb x.num t.item t.day t.rd;have e1:decide (((fD l bad).j3 t.item t.day).2=0)=stM l bad t.item t.day:=rfl;rw[e1]at wE;clear e1;by_cases nT:t.fU=x.num
  .rw[decide_eq_true nT,Bool.true_and]at hn;simp[UO,aQ,bI,aJ,↓hg,aP,nT];refine cM [.ptr (.par 0) 0,.pv (.agg [.i x.num,.i t.item,.i t.day,.i t.rd])] [(.par 0,aQ (aL l) (bJ bad) ls (bI ts) rn)] 27 [.par 0] (by simp[aQ,bJ,bI]) wE (by simp[aQ]) ?_;cases An:stM l bad t.item t.day with
   |true=>
    rw[An,if_pos rfl]at hn;simp[aQ,hw,sN];exact⟨_,_,aG,Sub.mk (by simp) (by simp[aQ,bI,bJ]),hn⟩
   |false=>
    rw[An,if_neg (by simp)]at hn;simp[aQ,hw];exact⟨_,_,aG,Sub.mk (by simp) (by simp[aQ,bI,bJ]),hn⟩
  .rw[decide_eq_false nT,Bool.false_and,if_neg (by simp)]at hn;simp[UO,aQ,bI,aJ,↓hg,aP,nT,hw];exact⟨_,_,aG,Sub.mk (by simp) (by simp[aQ,bI,bJ]),hn⟩
 have he:k=ts.length:=by omega
 subst he;unfold UO;rw[mX];have T4:=Zhu (S:=stM l bad) (ts:=ts) (n:=x.num);generalize kS (stM l bad) ts x.num=many at T4 j0 j1 j2 hR ⊢;generalize cW l bad ts x=v at qN nY j0 j1 j2 hR;simp[aQ];refine ED (fun τ=>τ=⟨[(0,.ptr (.par 0) 0),(3,.ptr (.loc 3 0) 0),(32,.pv (.iface 9 (.str GK))),(35,.pv (.iface 3 (.i x.num))),(36,.pv (.iface 9 (.str Ll))),(38,.pv (.iface 3 (.i many))),(43,.pv (.iface 9 (.str (zI v))))],[(.loc 3 0,.cells [.pv (.i x.num),.pv (.i x.pieces),.pv (.i x.limit),.pv (.bool x.passed)]),(.par 0,aQ (aL l) (bJ bad) ls (bI ts) rn)]⟩) ?_ ?_
 .simp[gP,gZ]
  repeat' apply And.intro
  all_goals
   refine cM [.ptr (.par 0) 0,.pv (.agg [.i x.num,.i x.pieces,.i x.limit,.bool x.passed])] [(.par 0,aQ (aL l) (bJ bad) ls (bI ts) rn)] 41 [.par 0] (by simp[aQ,bJ,bI]) qN (by simp[aQ]) ?_;simp[aQ,gP,gZ]
   repeat' apply And.intro
   all_goals
    first
     |refine .inl (cQ [] [.int .u8 v] (Zrw v) ?_)
     |refine cQ [] [.int .u8 v] (Zrw v) ?_
    simp
    repeat' apply And.intro
    all_goals exact Sub.mk (by simp[GK,Ll]) (by simp[bJ,bI])
 .rintro τ rfl;simp[gP,gZ,aQ];have w0:=Gs (G3 x many v) (show(5:Nat)<=1000 by decide) (fun y hy=>by
   simp[G3]at hy;rcases hy with rfl|rfl|rfl|rfl|rfl
   .trivial
   .have h1:=hx.1;have h2:=hx.2.1;exact⟨by omega,by omega⟩
   .trivial
   .exact⟨by omega,by omega⟩
   .trivial) j0
  refine .inl (cP [.loc 44 0] [.aE false 1 ((G3 x many v).map Wd.pv)] (by simp) (by simp[G3,Wd.pv]) w0 ?_);have e0:vZ ((G3 x many v).map Wd.b) blank=eJ (G3 x many v):=rfl;rw[e0];unfold XC LS at hR;unfold LS at j2;cases hp:x.passed with
  |false=>
   rw[hp]at hR nY;rw[Bool.false_and]at hR nY;rw[if_neg (by simp),if_neg (by simp)]at hR;generalize eJ (G3 x many v)=s0 at hR;simp;refine cM [.ptr (.par 0) 0,.pv (.agg [.i x.num,.i x.pieces,.i x.limit,.bool false])] [(.par 0,aQ (aL l) (bJ bad) ls (bI ts) rn)] 55 [.par 0] (by simp[aQ,bJ,bI]) nY (by simp[aQ]) ?_;simp[aQ];rw[<-hR];exact⟨rfl,by simp[aQ,bJ,bI]⟩
  |true=>
   rw[hp]at hR nY j2;rw[Bool.true_and]at hR nY;rw[if_pos rfl]at hR j2;generalize eJ (G3 x many v)=s0 at hR j1 j2;have w1:=Gs [.kM s0,.kM FY] (show(2:Nat)<=1000 by decide) (fun y hy=>by
    simp at hy;rcases hy with rfl|rfl<;>trivial) j1
   simp;refine .inl (cP [.loc 51 0] [.aE false 1 ([Wd.kM s0,.kM FY].map Wd.pv)] (by simp) (by simp[Wd.pv,FY]) w1 ?_);have e1:vZ ([Wd.kM s0,.kM FY].map Wd.b) blank=eJ [.kM s0,.kM FY]:=rfl;rw[e1];generalize eJ [.kM s0,.kM FY]=s1 at hR j2;have w2:=Gs [.kM s1,.kM TJ] (show(2:Nat)<=1000 by decide) (fun y hy=>by
    simp at hy;rcases hy with rfl|rfl<;>trivial) j2
   simp;refine cM [.ptr (.par 0) 0,.pv (.agg [.i x.num,.i x.pieces,.i x.limit,.bool true])] [(.par 0,aQ (aL l) (bJ bad) ls (bI ts) rn)] 55 [.par 0] (by simp[aQ,bJ,bI]) nY (by simp[aQ]) ?_;by_cases wD:v=1
   .rw[if_neg (by simp[wD])]at hR;simp[aQ,wD];rw[<-hR];exact⟨rfl,by simp[aQ,bJ,bI]⟩
   .rw[if_pos (by simp[wD])]at hR;simp[aQ,wD];refine .inl (cP [.loc 59 0] [.aE false 1 ([Wd.kM s1,.kM TJ].map Wd.pv)] (by simp) (by simp[Wd.pv,TJ]) w2 ?_);simp;rw[<-hR];exact⟨rfl,by simp[aQ,bJ,bI]⟩
section
open Go.RowKit Go.Shelf
abbrev oS (l:List UInt8):aK:=.ext (DM EM W5 l)
theorem Pv (l:List UInt8)(s:ByteArray)(hs:0<s.size)(hl:l.length+s.size<=1000000):
  cN prog 40 [.ptr (.par 0) 0,.pv (.str s)] [(.par 0,oS l)] (fun r B=>r=.pv (.bM [.i s.size,.eX])/\B=[(.par 0,oS (l++s.data.toList))]):=by
 refine⟨⟨_,_,func40,by kernel_rfl,rfl⟩,fun w m ρ vs hB mL fI lF=>?_⟩;obtain⟨v0,v1,rfl⟩:=JF (by simpa using fI);have h0:=lF 0 v0 _ rfl rfl;have h1:=(lF 1 v1 _ rfl rfl).nH;have PL:v0=yA (ρ (.par 0)).b:=by cases h0;rfl
 have wD:v1=.string s:=by cases h1;rfl
 subst PL wD;obtain⟨hr,tX⟩:=hB.bx (.par 0) _ rfl;have mM:cI ρ w [(.par 0,oS l)]=(ρ (.par 0)).b::zB (ρ (.par 0)) w:=by simp[cI,hr,ins,DM]
 have look:∀s' bx,List.lookup s' [((.par 0:Site),oS (l++s.data.toList))]=some bx->s'=.par 0/\bx=oS (l++s.data.toList):=fun s' bx h=>by
  by_cases e:s'=.par 0
  .subst e;rw[mT]at h;cases h;exact⟨rfl,rfl⟩
  .rw[jD e]at h;cases h
 have iU:=hB.free (by simp);rw[mM]at iU;refine(Zo2 (m:=m) s hs hl tX).mono ?_;rintro e w' ⟨rfl,k1,k2,k3⟩;have To:Le m w'.mem:=fun a o v hv=>by
  have hw:=mL.1 a o v hv;exact(World.cell?_of_block (a:=⟨a,o,none⟩) (k2.block a (AO hw) (fun h=>by rw[iU a h o]at hv;cases hv))).trans hw
 have IJ:∀k,fL ρ w' (.par 0) (oS (l++s.data.toList)) k->k∈(ρ (.par 0)).b::zB (ρ (.par 0)) w\/w.heap.size<=k:=fun k h=>by
  rcases h with⟨_,rfl⟩|h
  .exact .inl (List.mem_cons_self ..)
  .rcases k3 k h with h|h
   .exact .inl (List.mem_cons_of_mem _ h)
   .exact .inr h
 refine⟨_,.pv (.bM [.i s.size,.eX]),[(.par 0,oS (l++s.data.toList))],ρ,m,rfl,⟨rfl,rfl⟩,⟨fun s' bx h=>?_,fun s' Ja bx Wx i h h' _ _=>?_,fun s' bx i h hb o=>?_⟩,Le.refl m,To,fun _=>rfl,fun s' bx i h hb=>?_,fun _ _ _ h=>.inl h,?_,?_⟩
 .obtain⟨rfl,rfl⟩:=look s' bx h;exact⟨hr,k1⟩
 .rw[(look s' bx h).1,(look Ja Wx h').1]
 .obtain⟨rfl,rfl⟩:=look s' bx h;rcases IJ i hb with h|h
  .exact iU i h o
  .cases hv:m i o with
   |none=>rfl
   |some v=>have:=AO (mL.1 _ _ _ hv);omega
 .obtain⟨rfl,rfl⟩:=look s' bx h;rw[mM];exact(IJ i hb).symm
 .refine .pv _ _ (.bM _ _ rfl (fun j d c h h'=>?_))
  match j,h,h' with
  |0,h,h'=>cases h;cases h';exact .int _ _
  |1,h,h'=>cases h;cases h';exact .eX
 .rw[mM];exact k2
theorem Zo8 (b g c:Nat)(p:Value)(cur:Array Value)(l:List UInt8)(w:World)(IK:w.heap[b]?=some (.cells #[p,.slice (some ⟨g,0,none⟩) l.length (c+1)] 102 (0,0)))(h0:l≠[])
  (hg:w.heap[g]?=some (.cells cur 5 (0,0))) (G9:l.length<=cur.size) (rR:l.length<=maxLen) (QW:∀(i:Nat) (b:UInt8),l[i]?=some b->cur[i]?=some (.int .u8 b.toNat)):
  Calls prog 47 #[.pointer (some ⟨b,0,none⟩)] w fun e w'=>e=.returned (.string ⟨l.toArray⟩)/\w'=w.drew.freeze ⟨g,0,none⟩ l.length:=by
 have c1:w.drew.cell? ⟨b,1,none⟩=some (.slice (some ⟨g,0,none⟩) l.length (c+1)):=by
  have:w.drew.heap[b]?=some (.cells #[p,.slice (some ⟨g,0,none⟩) l.length (c+1)] 102 (0,0)):=IK
  rw[Lib.cell_of_heap this];rfl
 have hSD:∀ts ty,(Builtin.unsafeSliceData_ ts ty #[.slice (some ⟨g,0,none⟩) l.length (c+1)]).run prog w.drew=.ok (.pointer (some ⟨g,0,none⟩)) w.drew:=fun ts ty=>
  Lib.run_unsafeSliceData_row _ _ _ _ _ _ (by omega)
 have hUS:∀ty,(Builtin.unsafeString_ #[182,3] ty #[.pointer (some ⟨g,0,none⟩),.i l.length]).run prog w.drew=.ok (.string ⟨l.toArray⟩) (w.drew.freeze ⟨g,0,none⟩ l.length):=fun ty=>by
  refine Lib.run_unsafeString_row w.drew 182 3 ty 5 underlying182 (by kernel_rfl) g cur.size (by have Ur:w.drew.heap[g]?=some (.cells cur 5 (0,0)):=hg;simp[World.shape?,Ur]) l h0 G9 (by unfold maxLen at rR;omega) ?_;intro j x hx;rw[Addr.add_lit,rV];exact(cell_of_row w.drew g j cur _ _ hg).trans (QW j x hx)
 have mixed:=mixed;go_enter func47,ntmps47;go_wp2;go_region_o
 all_goals (go_wp2;go_ret;exact⟨rfl,rfl⟩)
theorem YO (l:List UInt8)(h0:l≠[]):
  cN prog 47 [.ptr (.par 0) 0] [(.par 0,oS l)] (fun r B=>r=.pv (.str ⟨l.toArray⟩)/\B=[]):=by
 refine⟨⟨_,_,func47,by kernel_rfl,rfl⟩,fun w m ρ vs hB mL fI lF=>?_⟩;obtain⟨v0,rfl⟩:=SJ (by simpa using fI);have h0':=lF 0 v0 _ rfl rfl;have PL:v0=.pointer (some ⟨(ρ (.par 0)).b,0,none⟩):=by cases h0';rfl
 subst PL;obtain⟨hr,tX⟩:=hB.bx (.par 0) _ rfl;have mM:cI ρ w [(.par 0,oS l)]=(ρ (.par 0)).b::zB (ρ (.par 0)) w:=by simp[cI,hr,ins,DM]
 have iU:=hB.free (by simp);rw[mM]at iU;obtain⟨p,v,hb,_,⟨_,h⟩|⟨g,c,cur,rfl,Q2,hg,h1,h2,h3,h4⟩⟩:=tX
 .exact absurd h h0
 have HY:zB (ρ (.par 0)) w=[g]:=Hz hb;rw[HY]at mM iU;refine(Zo8 (ρ (.par 0)).b g c p cur l w hb h0 hg (by omega) (by omega) h4).mono ?_;rintro e w' ⟨rfl,rfl⟩;have hk:cV [g] w (w.drew.freeze ⟨g,0,none⟩ l.length):=by
  unfold World.freeze;split
  .exact Gd w _
  .exact⟨rfl,rfl,rfl,by rw[Array.size_modify];exact fH _,fun k hk hn=>by
    have cZ:g≠k:=fun e=>hn (by simp[e])
    simp only[Array.getElem?_modify];rw[if_neg cZ];rfl⟩
 refine⟨_,.pv (.str ⟨l.toArray⟩),[],ρ,m,rfl,⟨rfl,rfl⟩,vC.nil _ _ _,Le.refl m,fun a o v hv=>?_,fun _=>rfl,fun s' bx i h hb=>by simp[List.lookup]at h,fun _ _ _ h=>.inl h,.pv _ _ (.str _),?_⟩
 .have hw:=mL.1 a o v hv;exact(World.cell?_of_block (a:=⟨a,o,none⟩) (hk.block a (AO hw) (fun h=>by rw[iU a (List.mem_cons_of_mem _ h) o]at hv;cases hv))).trans hw
 .rw[mM];exact hk.sub (fun k h=>List.mem_cons_of_mem _ h)
end
def Yw:ByteArray:=⟨#[99,101,114,116,115]⟩
def AW:ByteArray:=⟨#[104,101,108,100]⟩
def OQ:ByteArray:=⟨#[98,97,100]⟩
def rE:ByteArray:=⟨#[101,110,100]⟩
def tB (w:Wk)(x:Lt):ByteArray:=XC x (kS (stM w.aA w.bad) w.aH x.num) (cW w.aA w.bad w.aH x)
def sM (w:Wk)(k:Nat):List UInt8:=(w.aN.take k).flatMap fun x=>(tB w x).data.toList++[10]
def zS (w:Wk):Nat:=((fD w.aA w.bad).NR []).1.length
def sW (F:Nat)(w:Wk):Int:=match(uK w.runs).JN F with
 |.bM [_,.int _ y,_]=>y
 |_=>0
def H8 (w:Wk):List Wd:=[.kM Yw,.num w.aA.length,.kM AW,.num (zS w),.kM OQ,.num w.bad.length]
def BD (F:Nat)(w:Wk):List UInt8:=sM w w.aN.length++((eJ (H8 w)).data.toList++[10])++((eJ [.kM rE,.num (sW F w)]).data.toList++[10])
def GO (F:Nat)(L:List ByteArray):PV:=if zC L=0 then .bM [.str ⟨(BD F (dA (lI F) lD L).1).toArray⟩,.i 0]else .bM [.str ⟨#[]⟩,.i 3]
theorem Zif {w:Wk}{k:Nat}{x:Lt}(h:w.aN[k]?=some x):sM w (k+1)=sM w k++((tB w x).data.toList++[10]):=by
 unfold sM;rw[mR,h,List.flatMap_append];simp
theorem ZfQ (x:Wd)(r:List Wd):(Lib.join (((x::r).map Wd.b).map (·.data.toList)) blank.data.toList).length=r.length+(x.b.size+(r.map fun y=>y.b.size).sum):=by
 rw[iN,iN,Lib.join_length]
 have:∀l:List Wd,Lib.lens ((l.map Wd.b).map (·.data.toList))=(l.map fun y=>y.b.size).sum:=fun l=>by
  unfold Lib.lens;rw[List.map_map,List.map_map];rfl
 have h2:=this (x::r);rw[iN,iN]at h2;rw[h2,fZ,fZ];simp[blank]
theorem Hg (x:Wd)(r:List Wd):(eJ (x::r)).size=r.length+(x.b.size+(r.map fun y=>y.b.size).sum):=by
 rw[<-ZfQ];rfl
theorem XX (n:Int)(h0:-9223372036854775808<=n)(h1:n<=9223372036854775807):(wA n).size<=21:=Lib.itoa_length_le n h0 h1
theorem ZlL (v:Int):(zI v).size<=8:=by
 unfold zI;split
 .exact fH 8
 .split
  .exact fH 8
  .exact tH rfl
theorem Zp3 (x:Lt)(hx:vU x)(many:Nat)(hm:many<=1000)(v:Int):(eJ (G3 x many v)).size<=62:=by
 unfold G3;rw[Hg];have h1:=XX x.num (by have:=hx.1;omega) (by have:=hx.2.1;omega);have h2:=XX many (by omega) (by omega);have h3:=ZlL v;have e1:GK.size=3:=rfl;have e2:Ll.size=5:=rfl;simp[Wd.b];omega
theorem Zis (x:Lt)(hx:vU x)(many:Nat)(hm:many<=1000)(v:Int):
  u0 (G3 x many v)/\u0 [.kM (eJ (G3 x many v)),.kM FY]/\u0 [.kM (LS x many v),.kM TJ]/\(XC x many v).size<=100:=by
 have h0:=Zp3 x hx many hm v;have e1:FY.size=6:=rfl;have e2:TJ.size=8:=rfl;have h1:(LS x many v).size<=70:=by
  unfold LS;split
  .rw[Hg];simp[Wd.b];omega
  .omega
 refine⟨?_,?_,?_,?_⟩
 .have:(Lib.join (((G3 x many v).map Wd.b).map (·.data.toList)) blank.data.toList).length=(eJ (G3 x many v)).size:=rfl
  unfold u0;omega
 .unfold u0;rw[ZfQ];simp[Wd.b];omega
 .unfold u0;rw[ZfQ];simp[Wd.b];omega
 .unfold XC;split
  .rw[Hg];simp[Wd.b];omega
  .omega
theorem ZgH (S:Int->Int->Bool)(ts:List Tt)(n:Int)(h:ts.length<=900):kS S ts n<=1000:=by
 have:=Zhu (S:=S) (ts:=ts) (n:=n)
 omega
theorem Zhf {w:Wk}(dD:F6 w):∀k,(sM w k).length<=k*101
 |0=>fH 0
 |k+1=>by
  have ih:=Zhf dD k;cases h:w.aN[k]? with
  |none=>unfold sM at ih ⊢;rw[mR,h];simp at ih ⊢;omega
  |some x=>
   rw[Zif h,gD,gD];have h2:=(Zis x (dD.lt x (dL h)) _ (ZgH (stM w.aA w.bad) w.aH x.num dD.t) (cW w.aA w.bad w.aH x)).2.2.2
   have:(tB w x).data.toList.length=(tB w x).size:=rfl
   have e:(tB w x).size<=100:=h2;simp only[pA,List.length_nil];omega
theorem ZqA (w:Wk)(h1:w.aA.length<=1000)(h2:w.bad.length<=1000)(h3:zS w<=1000000):u0 (H8 w)/\(eJ (H8 w)).size<=90:=by
 have a1:=XX w.aA.length (by omega) (by omega);have a2:=XX w.bad.length (by omega) (by omega);have a3:=XX (zS w) (by omega) (by omega);have e1:Yw.size=5:=rfl;have e2:AW.size=4:=rfl;have e3:OQ.size=3:=rfl;have h:(eJ (H8 w)).size<=90:=by
  unfold H8;rw[Hg];simp[Wd.b];omega
 refine⟨?_,h⟩
 have:(Lib.join (((H8 w).map Wd.b).map (·.data.toList)) blank.data.toList).length=(eJ (H8 w)).size:=rfl
 unfold u0;omega
theorem Zqu (n:Int)(h0:-9223372036854775808<=n)(h1:n<=9223372036854775807):u0 [.kM rE,.num n]/\(eJ [.kM rE,.num n]).size<=30:=by
 have a1:=XX n h0 h1;have e1:rE.size=3:=rfl;have h:(eJ [.kM rE,.num n]).size<=30:=by
  rw[Hg];simp[Wd.b];omega
 refine⟨?_,h⟩
 have:(Lib.join (([Wd.kM rE,.num n].map Wd.b).map (·.data.toList)) blank.data.toList).length=(eJ [.kM rE,.num n]).size:=rfl
 unfold u0;omega
theorem ZsF (x:ByteArray):(x++(⟨#[10]⟩:ByteArray)).data.toList=x.data.toList++[10]:=by
 rw[ByteArray.data_append,Array.toList_append]
theorem BE (l:List UInt8)(x:ByteArray)(hl:l.length+(x.size+1)<=1000000):
  cN prog 39 [.pv (.str x),.ptr (.par 0) 0] [(.par 0,oS l)] (fun r B=>r=.pv (.bM [])/\B=[(.par 0,oS (l++(x.data.toList++[10])))]):=by
 have fI:(x++(⟨#[10]⟩:ByteArray)).size=x.size+1:=by rw[ByteArray.size_append];rfl
 have hw:=Pv l (x++⟨#[10]⟩) (by omega) (by omega);rw[ZsF]at hw;refine cB [.par 0] L39 ?_;have Ve:(x.size+ByteArray.size ⟨#[10]⟩).ble 9223372036854775807=true:=by
  rw[Nat.ble_eq]
  have:ByteArray.size ⟨#[10]⟩=1:=rfl
  omega
 simp[L39,Ve];generalize x++(⟨#[10]⟩:ByteArray)=y at hw ⊢;refine cM [.ptr (.par 0) 0,.pv (.str y)] [(.par 0,oS l)] 5 [.par 0] (by simp) hw (by simp) ?_;simp
theorem ZtI {F:Nat}(w:Wk):0<=sW F w/\sW F w<=40:=by
 unfold sW Qn.Qu.JN;by_cases hc:(uK w.runs).check≠0
 .rw[if_pos hc];exact⟨Int.le_refl 0,show(0:Int)<=40 by decide⟩
 .rw[if_neg hc];cases hl:(uK w.runs).DX F with
  |none=>exact⟨Int.le_refl 0,show(0:Int)<=40 by decide⟩
  |some p=>
   have:=(Qn.C5 (Qn.Qu.Kv (Decidable.not_not.1 hc)) _ _ _ Qn.PW.nil (Qn.oE (q:=uK w.runs)) p hl).l
   exact⟨by simp,by simp;omega⟩
theorem Zk9 (w:Wk):zS w<=1000000:=by
 have h:=Gq (b:=fD w.aA w.bad) (bad:=[]);unfold zS Bk.NR;split
 .split
  .exact lJ h (by decide)
  .exact gY _
 .exact gY _
def Jb (w:Wk)(k:Nat):AS:=
 ⟨[(5,.ptr (.loc 23 0) 0),(7,.ptr (.loc 7 0) 0),(8,.fn 39 [] [.ptr (.loc 7 0) 0]),(31,.pv (aW w.aN)),(32,.pv (.i w.aN.length)),(33,.pv (.i (k:Int)))],
  [(.loc 23 0,w.box),(.loc 7 0,oS (sM w k))]⟩
theorem Zrp {F:Nat}(hF:407<F)(L:List ByteArray)(hl:L.length<=1000000):aD prog 20 [bO L] (GO F L):=by
 have tW:=WY L hl;refine b8 L20 ?_;intro R hR;unfold GO at hR;by_cases hc:zC L=0
 .obtain⟨Jw,oK⟩:=Nc hc;rw[hc]at tW;have P9:=Yj (Nn hF) vD L (by omega) oK;have dD:=Ls _ _ (by omega) (Hq (Nn hF) (l:=L) (by omega) vD oK);rw[if_pos hc]at hR;generalize dA (lI F) lD L=q at P9 dD hR;obtain⟨w,es⟩:=q;dsimp only at P9 dD hR;have lG:=dD.l;simp[L20];refine cG [bO L] tW ?_;simp;refine .inl (R4 [] (fs:=[]) (xs:=[bO L]) (cs:=[]) (d:=23) rfl rfl P9 ?_);rintro r B ⟨rfl,rfl⟩;refine⟨by simp[Wk.box,aQ],?_⟩;simp[Wk.box,aQ,aW];refine eP (fun m τ=>∃k:Nat,k<=w.aN.length/\m=w.aN.length-k/\τ=Jb w k) ⟨w.aN.length,Jb w 0,Sub.mk (by simp[aW]) (by simp[Wk.box,aQ,aW];simp[sM]),0,gY _,rfl,rfl⟩ ?_;rintro J hJ m τ ⟨k,hk,rfl,rfl⟩;by_cases aJ:k<w.aN.length
  .obtain⟨x,hx⟩:∃x,w.aN[k]?=some x:=⟨w.aN[k],bC aJ⟩;have hg:(w.aN.map Lt.pv)[k]?=some x.pv:=by rw[bX,hx];rfl
   have Jm:=dD.lt x (dL hx);obtain⟨j0,j1,j2,fI⟩:=Zis x Jm _ (ZgH (stM w.aA w.bad) w.aH x.num dD.t) (cW w.aA w.bad w.aH x);have nY:=Zp7 w.aA w.bad (aW w.aN) w.aH (dU w.runs) x dD.c dD.b dD.t Jm dD.fit j0 j1 j2;have y2:=Zhf dD k;have MC:=BE (sM w k) (tB w x) (by unfold tB;omega);rw[<-Zif hx]at MC;unfold tB at MC;simp only[Lt.pv]at hg;rw[Lt.pv]at nY;have hw:=bN (k:=k) (by omega);have hn:=hJ (w.aN.length-(k+1)) _ ⟨k+1,aJ,rfl,rfl⟩;have aG:w.aN.length-(k+1)<w.aN.length-k:=by omega
   generalize XC x (kS (stM w.aA w.bad) w.aH x.num) (cW w.aA w.bad w.aH x)=s at nY MC;simp[Jb,Wk.box,aQ,aW,aJ,↓hg,aP];refine cM [.ptr (.par 0) 0,.pv (.agg [.i x.num,.i x.pieces,.i x.limit,.bool x.passed])] [(.par 0,aQ (aL w.aA) (bJ w.bad) (aW w.aN) (bI w.aH) (dU w.runs))] 40 [.loc 23 0] (by simp[aQ,aW]) nY (by simp[aQ]) ?_;simp[aQ];refine cM [.pv (.str s),.ptr (.par 0) 0] [(.par 0,oS (sM w k))] 41 [.loc 7 0] (by simp) MC (by simp) ?_;simp[hw];exact⟨_,_,aG,Sub.mk (by simp[aW]) (by simp[Wk.box,aQ,aW]),hn⟩
  .have he:k=w.aN.length:=by omega
   subst he;have y2:=Zhf dD w.aN.length;have UZ:=Mb w.aA w.bad (aW w.aN) (bI w.aH) (dU w.runs) dD.c dD.b;have Uo:cN prog 42 ([(fD w.aA w.bad).pv,.emp (some true)].map .pv) [] (fun r B=>r=.pv (K1 ((fD w.aA w.bad).NR []))/\B=[]):=by
    refine cN.Xs (xs:=[(fD w.aA w.bad).pv,.emp (some true)]) (ys:=[(fD w.aA w.bad).pv,.aE false 1 ([].map aO)]) (Zvi (fD w.aA w.bad) (show qV.length<=1000 by decide) (lJ (Q7 _ _) dD.c) [] (gY _)) rfl ?_;intro j x y m v h1 h2 hr
    match j with
    |0=>simp at h1 h2;subst h1 h2;exact hr
    |1=>simp at h1 h2;subst h1 h2;exact AK hr
    |j+2=>simp at h1
   have VK:=ZqA w dD.c dD.b (Zk9 w);have Z6:=Gs (H8 w) (show(6:Nat)<=1000 by decide) (fun y hy=>by
    have h1:=dD.c;have h2:=dD.b;have h3:=Zk9 w;simp[H8]at hy;rcases hy with rfl|rfl|rfl|rfl|rfl|rfl
    .trivial
    .exact⟨by omega,by omega⟩
    .trivial
    .exact⟨by omega,by omega⟩
    .trivial
    .exact⟨by omega,by omega⟩) VK.1
   have ebd:=ZtI (F:=F) w;have Jx:=Zqu (sW F w) (by omega) (by omega);have hed:=Gs [.kM rE,.num (sW F w)] (show(2:Nat)<=1000 by decide) (fun y hy=>by
    simp at hy;rcases hy with rfl|rfl
    .trivial
    .exact⟨by omega,by omega⟩) Jx.1
   have eC:vZ ((H8 w).map Wd.b) blank=eJ (H8 w):=rfl;have eE:vZ ([Wd.kM rE,.num (sW F w)].map Wd.b) blank=eJ [.kM rE,.num (sW F w)]:=rfl;rw[eC]at Z6;rw[eE]at hed;have p1:=BE (sM w w.aN.length) (eJ (H8 w)) (by omega);have p2:=BE (sM w w.aN.length++((eJ (H8 w)).data.toList++[10])) (eJ [.kM rE,.num (sW F w)]) (by
    have:(eJ (H8 w)).data.toList.length=(eJ (H8 w)).size:=rfl
    simp only[gD,pA,List.length_nil];omega)
   have bU:=YO (BD F w) (by unfold BD;simp);have VB:=Znk (w.runs.map Qn.Rq.pv) (aL w.aA) (bJ w.bad) (aW w.aN) (bI w.aH);have VM:=Qn.wR hF (uK w.runs) (show(2:Nat)<=1000000 by decide) (show w.runs.length<=1000000 by have:=dD.r;omega) (fun l hl=>by
    simp[uK]at hl;rcases hl with rfl|rfl<;>decide)
   obtain⟨ex,ee,Ci⟩:∃x e,(uK w.runs).JN F=.bM [x,.i (sW F w),.i e]:=by
    obtain⟨x,y,h⟩:=Zon F (uK w.runs);exact⟨x,_,by rw[h];unfold sW;rw[h]⟩
   rw[Ci]at VM;clear Ci y2 VK Jx eC eE;unfold BD at bU hR;generalize hCW:eJ (H8 w)=cw at *;generalize hEW:eJ [.kM rE,.num (sW F w)]=ew at *;generalize hRT:sM w w.aN.length=rt at *;simp[Jb,Wk.box,aQ,hRT];refine cM [.ptr (.par 0) 0] [(.par 0,aQ (aL w.aA) (bJ w.bad) (aW w.aN) (bI w.aH) (dU w.runs))] 45 [.loc 23 0] (by simp[aQ,bJ]) UZ (by simp[aQ]) ?_;simp[aQ];refine .inl (cQ [] [(fD w.aA w.bad).pv,.emp (some true)] Uo ?_);simp[K1,aL];refine .inl (cP [.loc 70 0] [.aE false 1 ((H8 w).map Wd.pv)] (by simp) (by simp[H8,Wd.pv,Yw,AW,OQ,zS]) Z6 ?_);simp;refine cM [.pv (.str cw),.ptr (.par 0) 0] [(.par 0,oS rt)] 72 [.loc 7 0] (by simp) p1 (by simp) ?_;simp;refine cM [.ptr (.par 0) 0] [(.par 0,aQ (aL w.aA) (bJ w.bad) (aW w.aN) (bI w.aH) (.aE false 3 (w.runs.map Qn.Rq.pv)))] 75 [.loc 23 0] (by simp[aQ,bJ,dU,aL]) VB (by simp[aQ]) ?_;simp[aQ];refine .inl (cQ [] [(uK w.runs).pv] VM ?_);simp;refine .inl (cP [.loc 84 0] [.aE false 1 ([Wd.kM rE,.num (sW F w)].map Wd.pv)] (by simp) (by simp[Wd.pv,rE]) hed ?_);simp;refine cM [.pv (.str ew),.ptr (.par 0) 0] [(.par 0,oS (rt++(cw.data.toList++[10])))] 86 [.loc 7 0] (by simp) p2 (by simp) ?_;simp;refine cM [.ptr (.par 0) 0] [(.par 0,oS (rt++(cw.data.toList++[10])++(ew.data.toList++[10])))] 87 [.loc 7 0] (by simp) bU (by simp) ?_;simp;rw[<-hR];exact⟨by simp,rfl⟩
 .have h3:=Ni hc;rw[h3]at tW;rw[if_neg hc]at hR;simp[L20];refine cG [bO L] tW ?_;simp;rw[<-hR];exact⟨rfl,rfl⟩
theorem Yy {s:ByteArray}{k:Nat}{b:UInt8}(h:s.data.toList[k]?=some b):BA s (k:Int)=some b:=by
 unfold BA;rw[O5]at h;obtain⟨hl,he⟩:=qF.1 h;have hk:k<s.size:=hl;rw[if_pos (by omega),H9,getElem?_pos s k hk];exact congrArg some he
def v8 (L:List ByteArray):Bool:=L.all (fun s=>decide (s.size<=200))&&decide (L.length<=50)
theorem Zkf {α:Type}{l:List α}{p:α->Bool}{k:Nat}{x:α}(h:l[k]?=some x):(l.take (k+1)).all p=((l.take k).all p&&p x):=by
 rw[mR,h,List.all_append];simp
theorem Zi0 {α:Type}{l:List α}{p:α->Bool}{x:α}(h:x∈l)(hp:p x=false):l.all p=false:=by
 rw[List.all_eq_false];exact⟨x,h,by simp[hp]⟩
theorem Zpp (L:List ByteArray)(hl:L.length<=1000000):aD prog 33 [bO L] (.bool (v8 L)):=by
 refine b8 L33 ?_;intro R hR;simp[L33,bO];refine eP (fun m τ=>∃k:Nat,k<=L.length/\m=L.length-k/\(L.take k).all (fun s=>decide (s.size<=200))=true/\τ=⟨[(0,.pv (.aE false 1 (L.map .str))),(3,.pv (.i (k:Int)))],[]⟩)
  ⟨L.length,⟨[(0,.pv (.aE false 1 (L.map .str))),(3,.pv (.i ((0:Nat):Int)))],[]⟩,Sub.mk (by simp) (by simp),0,gY _,rfl,rfl,rfl⟩ ?_
 rintro J hJ m τ ⟨k,hk,rfl,eU,rfl⟩;by_cases aJ:k<L.length
 .obtain⟨s,hx⟩:∃s,L[k]?=some s:=⟨L[k],bC aJ⟩;have hg:(L.map PV.str)[k]?=some (.str s):=by rw[bX,hx];rfl
  have hw:=bN (k:=k) (by omega);have aG:L.length-(k+1)<L.length-k:=by omega
  by_cases h2:200<s.size
  .have hf:v8 L=false:=by unfold v8;rw[Zi0 (dL hx) (by simpa using h2)];rfl
   have uA:(200:Int)<(s.size:Int):=by omega
   rw[hf]at hR;simp[aJ,↓hg,uA];rw[<-hR];exact⟨rfl,by simp⟩
  .have hn:=hJ (L.length-(k+1)) _ ⟨k+1,aJ,rfl,by rw[Zkf hx,eU];simp;omega,rfl⟩;have uA:¬(200:Int)<(s.size:Int):=by omega
   simp[aJ,↓hg,uA,hw];exact⟨_,_,aG,Sub.mk (by simp) (by simp),hn⟩
 .have he:k=L.length:=by omega
  subst he;rw[mX]at eU;have hf:v8 L=decide (L.length<=50):=by unfold v8;rw[eU,Bool.true_and]
  rw[hf]at hR;simp;rw[<-hR];exact⟨by simp;try omega,by simp⟩
def rD (L:List ByteArray):Bool:=(L.take 56).all (fun s=>decide (s.size<=210))&&decide (L.length<=55)
theorem ZtV (L:List ByteArray)(hl:L.length<=9223372036854775807):aD prog 8 [bO L] (.bool (rD L)):=by
 refine b8 L8 ?_;intro R hR;simp[L8,bO];refine eP (fun m τ=>∃k:Nat,k<=L.length/\k<=56/\m=L.length-k/\(L.take k).all (fun s=>decide (s.size<=210))=true/\τ=⟨[(0,.pv (.aE false 1 (L.map .str))),(3,.pv (.i (k:Int)))],[]⟩)
  ⟨L.length,⟨[(0,.pv (.aE false 1 (L.map .str))),(3,.pv (.i ((0:Nat):Int)))],[]⟩,Sub.mk (by simp) (by simp),0,gY _,gY _,rfl,rfl,rfl⟩ ?_
 rintro J hJ m τ ⟨k,hk,D7,rfl,eU,rfl⟩;by_cases aJ:k<L.length
 .have jA:((k:Int)<(L.length:Int)):=by omega
  by_cases h6:k<56
  .obtain⟨s,hx⟩:∃s,L[k]?=some s:=⟨L[k],bC aJ⟩;have hg:(L.map PV.str)[k]?=some (.str s):=by rw[bX,hx];rfl
   have hw:=bN (k:=k) (by omega);have aG:L.length-(k+1)<L.length-k:=by omega
   have VS:((k:Int)<56):=by omega
   by_cases h2:210<s.size
   .have hm:s∈L.take 56:=dL (i:=k) (by rw[mE,if_pos h6];exact hx);have hf:rD L=false:=by unfold rD;rw[Zi0 hm (by simpa using h2)];rfl
    rw[hf]at hR;have uA:(210:Int)<(s.size:Int):=by omega
    simp[jA,VS,↓hg,uA];rw[<-hR];exact⟨rfl,by simp⟩
   .have hn:=hJ (L.length-(k+1)) _ ⟨k+1,aJ,h6,rfl,by rw[Zkf hx,eU];simp;omega,rfl⟩;have uA:¬(210:Int)<(s.size:Int):=by omega
    simp[jA,VS,↓hg,uA,hw];exact⟨_,_,aG,Sub.mk (by simp) (by simp),hn⟩
  .have he:k=56:=by omega
   subst he;have hf:rD L=false:=by unfold rD;rw[eU,decide_eq_false (by omega)];rfl
   rw[hf]at hR;have h55:¬(L.length:Int)<=55:=by omega
   have HW:(56:Int)<(L.length:Int):=by omega
   clear aJ jA h6;simp[HW,h55];rw[<-hR];exact⟨rfl,by simp⟩
 .have he:k=L.length:=by omega
  subst he;rw[mX]at eU;have hf:rD L=decide (L.length<=55):=by unfold rD;rw[fP D7,eU,Bool.true_and]
  rw[hf]at hR;simp;rw[<-hR];exact⟨by simp;try omega,by simp⟩
theorem ZtW (L:List ByteArray)(hl:L.length<=1000000):aD prog 11 [bO L] (bO L):=by
 refine cN.i7 ?_;refine cF [.loc 5 0] L11 ?_;have h4:List.take L.length (L.map PV.str)=L.map PV.str:=fP (by rw[fZ];exact fH _);simp[L11,bO,aP,hl,h4]
def JS (L:List ByteArray):Int:=if v8 L=true then 0 else 3
theorem Zq0 (L:List ByteArray)(hl:L.length<=1000000):aD prog 12 [bO L] (.i (JS L)):=by
 refine cS L12 ?_;simp[L12];refine cG [bO L] (Zpp L hl) ?_;unfold JS;cases h:v8 L<;>simp
def sZ:List ByteArray:=[⟨#[99,101,114,116,32,49,32,50,32,48,32,49,48,32,49,48,48,32,45,49,32,49]⟩,⟨#[108,111,116,32,55,32,56,32,53,48,48]⟩,⟨#[116,101,115,116,32,55,32,50,32,50,48,32,53,49,49]⟩,⟨#[116,101,115,116,32,55,32,50,32,50,48,32,53,49,48]⟩]
def tA:List ByteArray:=[⟨#[116,101,115,116,32,55,32,51,32,50,48,32,54,48,48]⟩,⟨#[98,97,100,32,49]⟩,⟨#[116,101,115,116,32,55,32,50,32,50,48,32,54,48,48]⟩]
def Zl:ByteArray:=⟨#[108,111,116,32,55,32,116,101,115,116,115,32,50,32,111,112,101,110,10,99,101,114,116,115,32,49,32,104,101,108,100,32,49,32,98,97,100,32,48,10,101,110,100,32,48,10]⟩
def SW:ByteArray:=⟨#[123,48,48,49,58,57,57,56,58,48,48,49,48,57,125,97,10]⟩
theorem Zy:cN prog 28 [] [] (fun r B=>r=.vec (.ret 0) 1 0 4/\B=[(.ret 0,.arr 9 1 (sZ.map .str))]):=by
 refine cB [.loc 1 0] L28 ?_;simp[L28,sZ]
theorem ZoJ (A B:List Int)(hA:A.length<=1000000):aD prog 19 [.aE false 1 (A.map iP),.aE false 1 (B.map iP)] (.bool (decide (A=B))):=by
 refine b8 L19 ?_;intro R hR;by_cases hl:A.length=B.length
 .have lH:((A.length:Int)=(B.length:Int)):=by omega
  simp[L19,hl];refine eP (fun m τ=>∃k:Nat,k<=A.length/\m=A.length-k/\A.take k=B.take k/\τ=⟨[(0,.pv (.aE false 1 (A.map iP))),(1,.pv (.aE false 1 (B.map iP))),(5,.pv (.i (k:Int)))],[]⟩)
   ⟨A.length,⟨[(0,.pv (.aE false 1 (A.map iP))),(1,.pv (.aE false 1 (B.map iP))),(5,.pv (.i ((0:Nat):Int)))],[]⟩,Sub.mk (by simp) (by simp),0,gY _,rfl,rfl,rfl⟩ ?_
  rintro J hJ m τ ⟨k,hk,rfl,wF,rfl⟩;by_cases aJ:k<A.length
  .obtain⟨s,hx⟩:∃s,A[k]?=some s:=⟨A[k],bC aJ⟩;obtain⟨t,hy⟩:∃t,B[k]?=some t:=⟨B[k]'(by omega),bC (by omega)⟩;have hg:(A.map iP)[k]?=some (.i s):=by rw[bX,hx];rfl
   have H3:(B.map iP)[k]?=some (.i t):=by rw[bX,hy];rfl
   have kH:k<B.length:=by omega
   have hw:=bN (k:=k) (by omega);have aG:A.length-(k+1)<A.length-k:=by omega
   by_cases h2:s=t
   .have hn:=hJ (A.length-(k+1)) _ ⟨k+1,aJ,rfl,by rw[mR,mR,hx,hy,wF,h2],rfl⟩;simp[aJ,↓hg,↓H3,h2,hw];exact⟨_,_,aG,Sub.mk (by simp) (by simp),hn⟩
   .have hf:decide (A=B)=false:=by
     rw[decide_eq_false_iff_not];intro e;rw[e,hy]at hx;cases hx;exact h2 rfl
    rw[hf]at hR;simp[aJ,↓hg,↓H3,h2];rw[<-hR];exact⟨rfl,by simp⟩
  .have he:k=A.length:=by omega
   subst he;rw[mX,hl,mX]at wF;have hf:decide (A=B)=true:=by rw[decide_eq_true_eq];exact wF
   rw[hf]at hR;simp;rw[<-hR];exact⟨rfl,by simp⟩
 .have lH:¬((A.length:Int)=(B.length:Int)):=by omega
  have hf:decide (A=B)=false:=by
   rw[decide_eq_false_iff_not];intro e;exact hl (by rw[e])
  rw[hf]at hR;simp[L19,hl,lH];rw[<-hR];exact⟨rfl,by simp⟩
theorem Zr3:BF (lI 408) (sZ++tA)=.bM [(dA (lI 408) lD (sZ++tA)).1.pv,.aE false 1 ([0,0,0,0,10,0,10].map iE),.i 0]:=by
 unfold BF;have h1:zC (sZ++tA)=0:=by decide +kernel
 have h2:(dA (lI 408) lD (sZ++tA)).2=[0,0,0,0,10,0,10]:=by decide +kernel
 rw[if_pos h1,h2]
theorem Zjb {L:List ByteArray}(h:v8 L=true):L.length<=50/\∀s∈L,s.size<=200:=by
 unfold v8 at h;rw[dK,decide_eq_true_eq,rA]at h;exact⟨h.2,fun s hs=>by simpa using h.1 s hs⟩
def Wk.cells (w:Wk):List AV:=[.pv (.aE false 7 (w.aA.map Ct.pv)),.pv (.aE false 1 (w.bad.map iP)),.pv (.aE false 4 (w.aN.map Lt.pv)),.pv (.aE false 4 (w.aH.map Tt.pv)),.pv (.aE false 3 (w.runs.map Qn.Rq.pv))]
section
variable {D:Wk->ByteArray->Wk×Int}
def X2 (D:Wk->ByteArray->Wk×Int):Wk->List ByteArray->List ByteArray
 |_,[]=>[]
 |st,s::l=>if(D st s).2=0 then s::X2 D (D st s).1 l else X2 D (D st s).1 l
end
section
attribute [local irreducible] Bk.qG eR Bk.contra Bk.held Bk.span Bk.nums Bk.pU stM iB
end
def JT:List PV:=qV.map It.pv
def ZZ (w:Wk)(n:Int)(k:Nat):AS:=⟨[(1,.pv (.i n)),(2,.ptr (.loc 2 0) 0),(5,.pv (.i (k:Int)))],[(.loc 2 0,.cells w.cells)]⟩
theorem Zv {α:Type}{l:List α}{k:Nat}{x:α}(h:l[k]?=some x):l.drop k=x::l.drop (k+1):=by
 obtain⟨hl,he⟩:=cA.1 h;rw[AD hl,he]
theorem Zhd (w:Wk)(hl:w.aA.length<=1000)(n:Int):aD prog 17 [w.pv,.i n] (.bool (kn w n)):=by
 refine cS L17 ?_;obtain⟨V,hV⟩:∃V,V=kn w n:=⟨_,rfl⟩;rw[<-hV];generalize hR:(fun(r:AV) (B:List (Site×aK))=>r=.pv (.bool V)/\B=[])=R;simp[L17,Wk.pv,aL,bJ,aW,bI,dU];refine eP (fun m τ=>∃k:Nat,k<=w.aA.length/\m=w.aA.length-k/\V=(w.aA.drop k).any (fun y=>decide (y.num=n))/\τ=ZZ w n k) ⟨w.aA.length,ZZ w n 0,Sub.mk (by simp) (by simp[Wk.cells]),0,gY _,rfl,hV,rfl⟩ ?_;rintro J hJ m τ ⟨k,hk,rfl,hv,rfl⟩;by_cases aJ:k<w.aA.length
 .obtain⟨x,hx⟩:∃x,w.aA[k]?=some x:=⟨w.aA[k],bC aJ⟩;have hg:(w.aA.map Ct.pv)[k]?=some (.agg [.i x.num,.i x.it,.i x.src,.i x.day,.i x.valid,.i x.diff.lo,.i x.diff.hi]):=by rw[bX,hx];rfl
  have hw:=bN (k:=k) (by omega);have aG:w.aA.length-(k+1)<w.aA.length-k:=by omega
  rw[Zv hx,List.any_cons]at hv;by_cases hn:x.num=n
  .have wD:V=true:=by rw[hv,decide_eq_true hn];rfl
   subst wD;simp[ZZ,Wk.cells,aJ,↓hg,hn,aP];rw[<-hR];exact⟨rfl,rfl⟩
  .have aB:=hJ _ _ ⟨k+1,aJ,rfl,by rw[hv,decide_eq_false hn,Bool.false_or],rfl⟩;simp[ZZ,Wk.cells,aJ,↓hg,hn,hw,aP];exact⟨_,_,aG,Sub.mk (by simp) (by simp[Wk.cells]),aB⟩
 have he:k=w.aA.length:=by omega
 subst he;rw[List.drop_length]at hv;have wD:V=false:=hv;subst wD;simp[ZZ,Wk.cells];rw[<-hR];exact⟨rfl,rfl⟩
def NC:List Lt->Int->Nat->Int
 |[],_,_=>-1
 |x::l,n,k=>if x.num=n then(k:Int)else NC l n (k+1)
def Dv (w:Wk)(n:Int)(k:Nat):AS:=⟨[(1,.pv (.i n)),(2,.ptr (.loc 2 0) 0),(5,.pv (.i (k:Int)))],[(.loc 2 0,.cells w.cells)]⟩
theorem Zn (w:Wk)(hl:w.aN.length<=1000)(n:Int):aD prog 108 [w.pv,.i n] (.i (NC w.aN n 0)):=by
 refine cS L108 ?_;obtain⟨V,hV⟩:∃V,V=NC w.aN n 0:=⟨_,rfl⟩;rw[<-hV];generalize hR:(fun(r:AV) (B:List (Site×aK))=>r=.pv (.i V)/\B=[])=R;simp[L108,Wk.pv,aL,bJ,aW,bI,dU];refine eP (fun m τ=>∃k:Nat,k<=w.aN.length/\m=w.aN.length-k/\V=NC (w.aN.drop k) n k/\τ=Dv w n k) ⟨w.aN.length,Dv w n 0,Sub.mk (by simp) (by simp[Wk.cells]),0,gY _,rfl,hV,rfl⟩ ?_;rintro J hJ m τ ⟨k,hk,rfl,hv,rfl⟩;by_cases aJ:k<w.aN.length
 .obtain⟨x,hx⟩:∃x,w.aN[k]?=some x:=⟨w.aN[k],bC aJ⟩;have hg:(w.aN.map Lt.pv)[k]?=some (.agg [.i x.num,.i x.pieces,.i x.limit,.bool x.passed]):=by rw[bX,hx];rfl
  have hw:=bN (k:=k) (by omega);have aG:w.aN.length-(k+1)<w.aN.length-k:=by omega
  rw[Zv hx]at hv;unfold NC at hv;by_cases hn:x.num=n
  .rw[if_pos hn]at hv;subst hv;simp[Dv,Wk.cells,aJ,↓hg,hn,aP];rw[<-hR];exact⟨rfl,rfl⟩
  .rw[if_neg hn]at hv;have aB:=hJ _ _ ⟨k+1,aJ,rfl,hv,rfl⟩;simp[Dv,Wk.cells,aJ,↓hg,hn,hw,aP];exact⟨_,_,aG,Sub.mk (by simp) (by simp[Wk.cells]),aB⟩
 have he:k=w.aN.length:=by omega
 subst he;rw[List.drop_length]at hv;have wD:V = -1:=hv;subst wD;simp[Dv,Wk.cells];rw[<-hR];exact⟨rfl,rfl⟩
theorem Zky:aD prog 77 [] (aT qV):=by
 refine cF [.loc 8 0] L77 ?_;simp[L77,aT,qV,It.pv]
theorem ZsH (p:Int):aD prog 96 [.i p] (eG p):=by
 refine cF [.loc 6 0] L96 ?_;simp[L96,eG,dX,aP]
theorem Zpq (l:List PV):aD prog 52 [.aE false 3 l] (.agg [WR,.aE false 3 l]):=by
 refine cN.i7 ?_;refine cF [.loc 4 0,.loc 5 0] L52 ?_;simp[L52,aP];intro m v h;refine ZrW (cs:=[.aE false 1 [.aE false 2 [.agg [.i 10,.i 13]],.emp (some true)],.aE false 3 l]) (iI:=[WR,.aE false 3 l]) rfl (fun i c c' d h1 h2 hd=>?_) h
 match i with
 |0=>cases h1;cases h2;exact KM 5 _ _ rfl _ _ hd
 |1=>cases h1;cases h2;exact hd
def UH (k:Nat):List (Nat×AV):=[(1,.ptr (.loc 1 0) 0),(2,.ptr (.loc 2 0) 0),(3,.ptr (.loc 3 0) 0),(4,.pv (.i (k:Int)))]
def UG (w:Wk)(Y:List Ct):List (Site×aK):=[(.loc 32 0,.arr 82 7 (Y.map Ct.pv)),(.loc 3 0,.cells [.pv (.aE false 4 JT),.vec (.loc 32 0) 7 0 Y.length]),(.loc 1 0,.cells w.cells),(.loc 2 0,.cells [.pv (.emp (some true)),.pv (.emp (some true))])]
def Jc (w:Wk)(k:Nat):AS:=⟨UH k,UG w (fS (w.aA.take k) w.bad)⟩
theorem Zk (w:Wk)(hl:w.aA.length<=1000)(hb:w.bad.length<=1000):aD prog 38 [w.pv] (fD w.aA w.bad).pv:=by
 have IA:aD prog 77 [] (.aE false 4 JT):=Zky;refine Q4 [.loc 32 0] L38 ?_;intro R hR;simp[L38,Wk.pv,aL,bJ];refine .inl<|cQ [] [] IA ?_;simp[aM];refine eP (fun m τ=>∃k:Nat,k<=w.aA.length/\m=w.aA.length-k/\τ=Jc w k) ⟨w.aA.length,Jc w 0,Sub.trans' (Sub.mk (by simp[UH,AS.lY]) (by simp[UG,AS.lY,Wk.cells,aW,bI,dU,fS])) (lY 32 82 7 (s:=.loc 3 0) (cs:=[.pv (.aE false 4 JT),.pv (.emp (some true))]) 1 rfl rfl (by decide)),0,by omega,rfl,rfl⟩ ?_;rintro J hJ m τ ⟨k,hk,rfl,rfl⟩;by_cases aJ:k<w.aA.length
 .obtain⟨x,hx⟩:∃x,w.aA[k]?=some x:=⟨w.aA[k],bC aJ⟩;have hg:(w.aA.map Ct.pv)[k]?=some (.agg [.i x.num,.i x.it,.i x.src,.i x.day,.i x.valid,.i x.diff.lo,.i x.diff.hi]):=by rw[bX,hx];rfl
  have hw:=bN (k:=k) (by omega);have aB:=hJ _ _ ⟨k+1,aJ,rfl,rfl⟩;have aG:w.aA.length-(k+1)<w.aA.length-k:=by omega
  have eK:fS (w.aA.take (k+1)) w.bad=fS (w.aA.take k) w.bad++(if(!wW w.bad x)=true then[x]else[]):=by
   unfold fS;rw[mR,hx,I1];congr 1;simp only[Option.toList,xP,List.filter_nil]
  have lZ:(fS (w.aA.take k) w.bad).length<=1000:=lJ (Q7 _ _) (by rw[gN];omega);have VL:aD prog 76 [.aE false 1 (w.bad.map iP),.i x.num] (.bool (wW w.bad x)):=by
   have h:=wN w.bad x.num (by omega);have e:w.bad.contains x.num=wW w.bad x:=by
    rw[qT,ZhT,jC]
   rw[e]at h;exact h
  unfold Jc at aB ⊢;rw[eK]at aB;clear hJ eK;generalize fS (w.aA.take k) w.bad=Y at *;have hY:(Y.map Ct.pv).take Y.length=Y.map Ct.pv:=fP (by simp);have hY6:Y.length<=999999:=by omega
  have hY7:Y.length+1<=1000000:=by omega
  simp[UH,UG,Wk.cells,aJ,↓hg,aP];refine cG [.aE false 1 (w.bad.map iP),.i x.num] VL ?_;cases Cp:wW w.bad x with
  |true=>
   rw[Cp,if_neg (by simp),tG]at aB;simp[hw];exact⟨_,_,aG,Sub.mk (by simp[UH]) (by simp[UG,Wk.cells]),aB⟩
  |false=>
   rw[Cp,if_pos (show(!false)=true from rfl)]at aB;simp[hw,↓hg,aP,hY7];exact⟨_,_,aG,Sub.mk (by simp[UH]) (by simp[UG,Wk.cells,Ct.pv]),aB⟩
 have he:k=w.aA.length:=by omega
 subst he;clear hJ;unfold Jc;rw[mX];have jN:(fD w.aA w.bad).pv=.agg [.aE false 4 JT,.aE false 7 ((fS w.aA w.bad).map Ct.pv)]:=rfl;rw[jN]at hR;generalize fS w.aA w.bad=Z at *;have hmZ:(Z.map Ct.pv).take Z.length=Z.map Ct.pv:=fP (by simp);simp[UH,UG,Wk.cells,hmZ];rw[<-hR];exact⟨rfl,rfl⟩
section
section
variable {P:Program}{K:AV->AS->Prop}{σ:AS}
theorem Zln (fz:List Site){f:bB}{args:List bB}{d:Nat}{g:FuncId}{fs xs cs:List PV}{l:List AV}(h1:(aM fz σ).o f=.pv (.fn g fs cs))(h2:(aM fz σ).tN args=some xs)
  (hc:cN P g ((fs++xs++cs).map .pv) [] (fun r B=>r=.ptr (.ret 0) 0/\B=[(.ret 0,.cells l)])) (hr:oF (.ptr (.ret 0) 0) [(.ret 0,.cells l)]) (hK:K (.ptr (.loc d 0) 0) (((aM fz σ).bG d).lU (nO d [(.ret 0,.cells l)]))):zA P f args d K σ:=
 .inr ⟨fz,g,fs,xs,cs,h1,h2,hc.mono (fun _ _ ⟨h,h'⟩=>by subst h h';exact⟨hr,hK⟩)⟩
end
attribute [local irreducible] Bk.held Bk.nums Bk.iA Bk.span
end
section
section
attribute [local irreducible] Bk.qG eR Bk.contra Bk.held Bk.span Bk.nums Bk.pU
theorem ZtA {l:List Ct}{bad:List Int}(hl:Bk.ok ⟨qV,l⟩){i d:Int}(h0:0<=i)(h1:i<=5)(h2:0<=d)(h3:d<=1000):(fD l bad).pU i d=stM l bad i d:=by
 have h:=Zvc (GF (bad:=bad) hl) h0 (show i<((fD l bad).items.length:Int) by show i<(6:Int);omega) h2 h3;have hs:stM l bad i d=decide ((fD l bad).uY i d=0):=by unfold stM;rw[Zlp]
 rw[hs,h];cases(fD l bad).pU i d<;>rfl
end
attribute [local irreducible] Bk.qG eR Bk.contra Bk.held Bk.span Bk.nums Bk.iA stM
theorem Od (w:Wk)(hk:Bk.ok ⟨qV,w.aA⟩)(hl:w.aA.length<=1000)(hb:w.bad.length<=1000)(fU item day rd:Int)(h0:0<=item)(h1:item<=5)(h2:0<=day)(h3:day<=1000):aD prog 18 [w.pv,.agg [.i fU,.i item,.i day,.i rd]] (.bool (stM w.aA w.bad item day)):=by
 have nY:=Zk w hl hb;have VL:=Zm9 (fD w.aA w.bad) (GF hk) item day h0 (show item<(6:Int) by omega);rw[ZtA hk h0 h1 h2 h3]at VL;refine b8 L18 ?_;intro R hR;generalize stM w.aA w.bad item day=V at *;have jN:w.pv=.agg [.aE false 7 (w.aA.map Ct.pv),.aE false 1 (w.bad.map iP),.aE false 4 (w.aN.map Lt.pv),.aE false 4 (w.aH.map Tt.pv),.aE false 3 (w.runs.map Qn.Rq.pv)]:=rfl;rw[jN]at nY ⊢;generalize(fD w.aA w.bad).pv=bp at *;simp[L18];refine cQ [] [_] nY ?_;simp[aM];refine cG [bp,.i item,.i day] VL ?_;simp;rw[<-hR];exact⟨rfl,rfl⟩
theorem ZsM (w:Wk)(hk:Bk.ok ⟨qV,w.aA⟩)(hl:w.aA.length<=1000)(hb:w.bad.length<=1000)(t:Tt)(limit:Int)(h0:0<=t.item)(h1:t.item<=5)(h2:0<=t.day)(h3:t.day<=1000)(hs:stM w.aA w.bad t.item t.day=true)(hc:(fD w.aA w.bad).contra=false)
  (dF:IntKind.i64.wrap (t.rd+((fD w.aA w.bad).vA t.item t.day).1.lo)=t.rd+((fD w.aA w.bad).vA t.item t.day).1.lo):
  aD prog 94 [w.pv,.agg [.i t.fU,.i t.item,.i t.day,.i t.rd],.i limit] (.bool (nV w.aA w.bad limit t)):=by
 have nY:=Zk w hl hb;have dD:=GF (bad:=w.bad) hk;have K5:=Zrq (fD w.aA w.bad) dD;have HX:=Zo (fD w.aA w.bad) dD ((fD w.aA w.bad).span ((fD w.aA w.bad).held [])) ((fD w.aA w.bad).held []) Gq t.item t.day 1000 h0 (show t.item<(6:Int) by omega) ⟨h2,h3⟩ (fun c hc h=>Zh6 dD hc h);have hM:((fD w.aA w.bad).vA t.item t.day).1=(fD w.aA w.bad).kD ((fD w.aA w.bad).held []) ((fD w.aA w.bad).span ((fD w.aA w.bad).held [])) t.item t.day 1000:=by
  unfold Bk.vA;unfold stM at hs;rw[Zlp]at hs;rw[if_pos (of_decide_eq_true hs),hc];rfl
 unfold nV;rw[hM]at dF ⊢;refine cS L94 ?_;generalize(fD w.aA w.bad).kD ((fD w.aA w.bad).held []) ((fD w.aA w.bad).span ((fD w.aA w.bad).held [])) t.item t.day 1000=sp at *;obtain⟨V,hV⟩:∃V,V=decide (limit<=t.rd+sp.lo):=⟨_,rfl⟩;rw[<-hV];generalize hR:(fun(r:AV) (B:List (Site×aK))=>r=.pv (.bool V)/\B=[])=R;have jN:w.pv=.agg [.aE false 7 (w.aA.map Ct.pv),.aE false 1 (w.bad.map iP),.aE false 4 (w.aN.map Lt.pv),.aE false 4 (w.aH.map Tt.pv),.aE false 3 (w.runs.map Qn.Rq.pv)]:=rfl;have Wc:(fD w.aA w.bad).pv=.agg [.aE false 4 JT,.aE false 7 ((fS w.aA w.bad).map Ct.pv)]:=rfl;rw[jN]at nY ⊢;rw[Wc]at nY HX K5;generalize(fD w.aA w.bad).span ((fD w.aA w.bad).held [])=S at *;generalize(fD w.aA w.bad).held []=H at *;simp[L94];refine .inl<|cQ [] [_] nY ?_;simp[aM];refine ED (fun τ=>τ=⟨[(11,.pv (.i t.rd)),(20,.pv (.i sp.lo)),(22,.pv (.i limit))],[]⟩) ?_ ?_
 .simp[gP,gZ]
  repeat' apply And.intro
  all_goals
   first|refine Zln [] (fs:=[]) (xs:=[_]) (cs:=[]) rfl rfl K5 ?_ ?_|refine .inl<|Zln [] (fs:=[]) (xs:=[_]) (cs:=[]) rfl rfl K5 ?_ ?_
   .simp[oF]
   simp[aM,nO,iQ,gP,gZ]
   repeat' apply And.intro
   all_goals
    refine cM [.pv (.agg [.aE false 4 JT,.aE false 7 ((fS w.aA w.bad).map Ct.pv)]),.ptr (.par 0) 0,.pv (.i t.item),.pv (.i t.day),.pv (.i 1000)] (laid 0 (P3 S H)) 19 [.loc 14 0] (by simp[laid,P3]) HX (by simp[laid,P3]) ?_;simp[laid,P3,Cr.pv];exact Sub.mk (by simp) (by simp)
 rintro τ rfl;have nG:decide (limit<=t.rd+sp.lo)=V:=hV.symm;simp[-decide_eq_true_eq,-decide_eq_false_iff_not,dF,nG];rw[<-hR];exact⟨rfl,rfl⟩
end
section
def pH (p:Int)(rs:List Bool)(c:Int)(i:Nat):AS:=⟨[(1,.vec (.par 0) 1 0 rs.length),(2,.ptr (.loc 2 0) 0),(7,.pv (.i ((2*i:Nat):Int))),(8,.pv (.i c)),(9,.pv (.i (i:Int)))],[(.loc 2 0,.cells [.pv (.i p),.pv (.aE false 3 [dX 0,dX 1])]),(.par 0,.arr 4 1 (rs.map .bool))]⟩
def tM (p:Int)(rs:List Bool)(c:Int)(i k:Nat):AS:=⟨(10,.ptr (.loc 10 0) 0)::(11,.pv (.i (k:Int)))::(pH p rs c i).tm,(.loc 10 0,.cells [.pv (.i 2),.pv (.i (i:Int)),.pv (.i 2)])::(pH p rs c i).bx⟩
theorem ZrQ:∀l:List Bool,0<=dE l/\dE l<=l.length
 |[]=>by decide
 |x::l=>by
  obtain⟨h1,h2⟩:=ZrQ l;unfold dE;rw[pA]
  split<;>omega
theorem Mf:∀l m:List Bool,dE (l++m)=dE l+dE m
 |[],m=>by simp[dE]
 |x::l,m=>by
  show(if x=true then 1 else 0)+dE (l++m)=(if x=true then 1 else 0)+dE l+dE m;rw[Mf l m,Int.add_assoc]
theorem Zux {rs:List Bool}(h:rs.length<2):cY rs=(3,2-(rs.length:Int),0):=by unfold cY;rw[if_pos h]
theorem Zuw {rs:List Bool}(h:¬rs.length<2)(he:(cY rs).2.2=0)(hs:eD (dE (rs.take 2)) 0 2≠3):rs.length=2/\cY rs=(eD (dE (rs.take 2)) 0 2,0,0):=by
 unfold cY at *;rw[if_neg h,if_neg hs]at *;split at he
 .cases he
 .rename_i h2;exact⟨by omega,by rw[if_neg h2]⟩
theorem Zuv {rs:List Bool}(h:¬rs.length<2)(hs:eD (dE (rs.take 2)) 0 2=3)(h4:rs.length<4):cY rs=(3,4-(rs.length:Int),0):=by
 unfold cY;rw[if_neg h,if_pos hs,if_pos h4]
theorem Zuu {rs:List Bool}(hs:eD (dE (rs.take 2)) 0 2=3)(h4:rs.length=4):cY rs=(eD (dE (rs.take 4)) 1 2,0,0):=by
 unfold cY;rw[if_neg (by omega),if_pos hs,if_neg (by omega),if_neg (by omega)];have h1:dE (rs.take 2)=1:=by
  unfold eD at hs;split at hs
  .cases hs
  .split at hs
   .cases hs
   .omega
 have h2:rs.take 4=rs.take 2++(rs.drop 2).take 2:=by rw[show 4=2+2 from rfl,List.take_add]
 rw[h2,Mf,h1]
theorem ZsG (p:Int)(rs:List Bool)(h4:rs.length<=4)(he:(cY rs).2.2=0):cN prog 95 [.pv (eG p),.vec (.par 0) 1 0 rs.length] [(.par 0,.arr 4 1 (rs.map .bool))] (fun r B=>r=.pv (.bM [.i (cY rs).1,.i (cY rs).2.1,.bool true])/\B=[(.par 0,.arr 4 1 (rs.map .bool))]):=by
 refine cB [.par 0] L95 ?_;obtain⟨V,hV⟩:∃V,V=cY rs:=⟨_,rfl⟩;rw[<-hV];generalize hR:(fun(r:AV) (B:List (Site×aK))=>r=.pv (.bM [.i V.1,.i V.2.1,.bool true])/\B=[(.par 0,.arr 4 1 (rs.map .bool))])=R;have inner:∀(c0:Int) (i k:Nat),k<2*i+2->2*i+2<=rs.length->∃b,(rs.map PV.bool)[k]?=some (.bool b)/\dE (rs.take (k+1))=dE (rs.take k)+(if b=true then 1 else 0):=fun c0 i k h1 h2=>by
  have hk:k<rs.length:=by omega
  exact⟨rs[k],by rw[bX,bC hk];rfl,ZiN (bC hk)⟩
 have jL:=fun k=>ZrQ (rs.take k)
 have k1:IntKind.i64.wrap 1=1:=rfl;have k2:IntKind.i64.wrap 2=2:=rfl;have k4:IntKind.i64.wrap 4=4:=rfl;simp[L95,eG];refine eP (fun m τ=>∃i:Nat,((i=0/\m=1)\/(i=1/\m=0/\¬rs.length<2/\eD (dE (rs.take 2)) 0 2=3))/\τ=pH p rs (dE (rs.take (2*i))) i) ⟨1,pH p rs 0 0,Sub.mk (by simp[pH,dE]) (by simp[pH]),0,.inl ⟨rfl,rfl⟩,rfl⟩ ?_;rintro J hJ m τ ⟨i,hi,rfl⟩;rcases hi with⟨rfl,rfl⟩|⟨rfl,rfl,h2,hs⟩
 .by_cases h2:rs.length<2
  .have uA:(rs.length:Int)<2:=by omega
   have w1:IntKind.i64.wrap (2-(rs.length:Int))=2-(rs.length:Int):=wrap64 (by omega);rw[Zux h2]at hV;subst hV;simp[pH,dX,h2,uA,w1,k1,k2,k4];rw[<-hR];exact⟨by simp,by simp⟩
  have uA:¬(rs.length:Int)<2:=by omega
  simp[pH,dX,h2,uA,k1,k2,k4];refine eP (fun m τ=>∃k:Nat,k<=2/\m=2-k/\τ=tM p rs (dE (rs.take k)) 0 k) ⟨2,tM p rs 0 0 0,Sub.mk (by simp[tM,pH,dE]) (by simp[tM,pH,dX]),0,gY _,rfl,rfl⟩ ?_;rintro J2 uT m τ ⟨k,hk,rfl,rfl⟩;by_cases aJ:k<2
  .obtain⟨b,hg,nU⟩:=inner 0 0 k (by omega) (by omega);have hw:=bN (k:=k) (by omega);have jA:(k:Int)<2:=by omega
   have xK:k<rs.length:=by omega
   have aB:=uT _ _ ⟨k+1,aJ,rfl,rfl⟩;have aG:2-(k+1)<2-k:=by omega
   obtain⟨b1,b2⟩:=jL k;rw[gN]at b2;rw[nU]at aB;clear uT nU;generalize dE (rs.take k)=c at *;have wc:IntKind.i64.wrap (c+1)=c+1:=wrap64 (by omega);cases b with
   |true=>
    simp[-getElem?_pos,-List.getElem?_map,tM,pH,dX,aJ,jA,xK,hg,hw,wc,k1,k2,k4,cU,aP];exact⟨_,_,aG,Sub.mk (by simp[tM,pH]) (by simp[tM,pH,dX]),aB⟩
   |false=>
    rw[if_neg (by decide),Int.add_zero]at aB;simp[-getElem?_pos,-List.getElem?_map,tM,pH,dX,aJ,jA,xK,hg,hw,wc,k1,k2,k4,cU,aP];exact⟨_,_,aG,Sub.mk (by simp[tM,pH]) (by simp[tM,pH,dX]),aB⟩
  have sF:k=2:=by omega
  subst sF;clear uT aJ hk;by_cases hs:eD (dE (rs.take 2)) 0 2=3
  .have aB:=hJ _ _ ⟨1,.inr ⟨rfl,rfl,h2,hs⟩,rfl⟩;have c1:dE (rs.take 2)=1:=by
    unfold eD at hs;split at hs
    .cases hs
    .split at hs
     .cases hs
     .omega
   rw[c1]at aB ⊢;simp[tM,pH,dX,k1,k2,k4];exact⟨_,_,by decide,Sub.mk (by simp[pH]) (by simp[pH,dX]),aB⟩
  .obtain⟨qY,hp⟩:=Zuw h2 he hs;rw[hp]at hV;subst hV;clear hJ;unfold eD at *;by_cases c1:dE (rs.take 2)<=0
   .rw[if_pos c1]at hR;simp[tM,pH,dX,c1,qY,k1,k2,k4];rw[<-hR];exact⟨by simp,by simp⟩
   .rw[if_neg c1]at hs hR;by_cases c2:2<=dE (rs.take 2)
    .rw[if_pos c2]at hR;simp[tM,pH,dX,c1,c2,qY,k1,k2,k4];rw[<-hR];exact⟨by simp,by simp⟩
    .rw[if_neg c2]at hs;exact absurd rfl hs
 .have c1:dE (rs.take 2)=1:=by
   unfold eD at hs;split at hs
   .cases hs
   .split at hs
    .cases hs
    .have:=jL 2;omega
  clear hJ;by_cases RX:rs.length<4
  .have h5:(rs.length:Int)<4:=by omega
   have w1:IntKind.i64.wrap (4-(rs.length:Int))=4-(rs.length:Int):=wrap64 (by omega);rw[Zuv h2 hs RX]at hV;subst hV;simp[pH,dX,RX,h5,w1,k1,k2,k4];rw[<-hR];exact⟨by simp,by simp⟩
  have Ua:rs.length=4:=by omega
  have h5:¬(rs.length:Int)<4:=by omega
  rw[Zuu hs Ua]at hV;subst hV;simp[pH,dX,RX,h5,k1,k2,k4];refine eP (fun m τ=>∃k:Nat,2<=k/\k<=4/\m=4-k/\τ=tM p rs (dE (rs.take k)) 1 k) ⟨2,tM p rs (dE (rs.take 2)) 1 2,Sub.mk (by simp[tM,pH]) (by simp[tM,pH,dX]),2,by decide,by decide,rfl,rfl⟩ ?_;rintro J2 uT m τ ⟨k,QL,hk,rfl,rfl⟩;by_cases aJ:k<4
  .obtain⟨b,hg,nU⟩:=inner 0 1 k (by omega) (by omega);have hw:=bN (k:=k) (by omega);have jA:(k:Int)<4:=by omega
   have xK:k<rs.length:=by omega
   have aB:=uT _ _ ⟨k+1,by omega,aJ,rfl,rfl⟩;have aG:4-(k+1)<4-k:=by omega
   obtain⟨b1,b2⟩:=jL k;rw[gN]at b2;rw[nU]at aB;clear uT nU;generalize dE (rs.take k)=c at *;have wc:IntKind.i64.wrap (c+1)=c+1:=wrap64 (by omega);cases b with
   |true=>
    simp[-getElem?_pos,-List.getElem?_map,tM,pH,dX,aJ,jA,xK,hg,hw,wc,k1,k2,k4,cU,aP];exact⟨_,_,aG,Sub.mk (by simp[tM,pH]) (by simp[tM,pH,dX]),aB⟩
   |false=>
    rw[if_neg (by decide),Int.add_zero]at aB;simp[-getElem?_pos,-List.getElem?_map,tM,pH,dX,aJ,jA,xK,hg,hw,wc,k1,k2,k4,cU,aP];exact⟨_,_,aG,Sub.mk (by simp[tM,pH]) (by simp[tM,pH,dX]),aB⟩
  have hk4:k=4:=by omega
  subst hk4;clear uT aJ hk;unfold eD at hR;generalize dE (rs.take 4)=C at *;by_cases c3:C<=1
  .rw[if_pos c3]at hR;simp[tM,pH,dX,c3,Ua,k1,k2,k4];rw[<-hR];exact⟨by simp,by simp⟩
  .have c4:2<=C:=by omega
   rw[if_neg c3,if_pos c4]at hR;simp[tM,pH,dX,c3,c4,Ua,k1,k2,k4];rw[<-hR];exact⟨by simp,by simp⟩
attribute [local irreducible] Bk.qG eR Bk.contra Bk.held Bk.span Bk.nums Bk.iA Bk.pU stM nV
def KW (k:Nat)(rs:List Bool):List (Nat×AV):=[(2,.ptr (.loc 2 0) 0),(3,.ptr (.loc 3 0) 0),(6,.vec (.loc 49 0) 1 0 rs.length),(7,.pv (.i (k:Int)))]
def KV (w:Wk)(x:Lt)(rs:List Bool):List (Site×aK):=[(.loc 49 0,.arr 4 1 (rs.map .bool)),(.loc 3 0,.cells [.pv (.i x.num),.pv (.i x.pieces),.pv (.i x.limit),.pv (.bool x.passed)]),(.loc 2 0,.cells w.cells)]
def KX (w:Wk)(x:Lt)(rs:List Bool)(k:Nat):AS:=⟨KW k rs,KV w x rs⟩
theorem ZmY {n:Nat}(w:Wk)(hI:sI n w)(hn:n<=100)(hc:(fD w.aA w.bad).contra=false)(x:Lt):
  aD prog 48 [w.pv,x.pv] (.bM [.i (rM (stM w.aA w.bad) (nV w.aA w.bad x.limit) x.num w.aH []).1,.i ((rM (stM w.aA w.bad) (nV w.aA w.bad x.limit) x.num w.aH []).2:Nat)]):=by
 have gO:=hI.c;have wL:=hI.b;have nT:=hI.t;obtain⟨V,hV⟩:∃V,V=rM (stM w.aA w.bad) (nV w.aA w.bad x.limit) x.num w.aH []:=⟨_,rfl⟩;rw[<-hV];refine b8 L48 ?_;intro R hR;simp[L48,Wk.pv,Lt.pv,aL,bJ,aW,bI,dU];refine eP (fun m τ=>∃(k:Nat) (rs:List Bool),k<=w.aH.length/\m=w.aH.length-k/\lB rs/\τ=KX w x rs k/\rM (stM w.aA w.bad) (nV w.aA w.bad x.limit) x.num (w.aH.drop k) rs=V)
  ⟨w.aH.length,KX w x [] 0,Sub.trans' (Sub.mk (by simp[KW,AS.cR]) (by simp[KV,AS.cR,Wk.cells])) (cR 49 4 1 6 rfl (by decide)),0,[],gY _,rfl,ZkH,rfl,hV.symm⟩ ?_
 rintro J hJ m τ ⟨k,rs,hk,rfl,ho,rfl,hv⟩;by_cases aJ:k<w.aH.length
 .obtain⟨t,hx⟩:∃t,w.aH[k]?=some t:=⟨w.aH[k],bC aJ⟩;have gR:t∈w.aH:=dL hx;have hg:(w.aH.map Tt.pv)[k]?=some (.agg [.i t.fU,.i t.item,.i t.day,.i t.rd]):=by rw[bX,hx];rfl
  obtain⟨q1,q2,q3,q4,_⟩:=hI.tt t gR;rw[Zv hx,Zhx]at hv;have hw:=bN (k:=k) (by omega);have aG:w.aH.length-(k+1)<w.aH.length-k:=by omega
  have eK:∀xY,lB xY->rM (stM w.aA w.bad) (nV w.aA w.bad x.limit) x.num (w.aH.drop (k+1)) xY=V->J (w.aH.length-(k+1)) (KX w x xY (k+1)):=fun xY h1 h2=>hJ _ _ ⟨k+1,xY,aJ,rfl,h1,rfl,h2⟩
  clear hJ;have jN:w.pv=.agg [.aE false 7 (w.aA.map Ct.pv),.aE false 1 (w.bad.map iP),.aE false 4 (w.aN.map Lt.pv),.aE false 4 (w.aH.map Tt.pv),.aE false 3 (w.runs.map Qn.Rq.pv)]:=rfl;have wE:=Od w hI.bk (by omega) (by omega) t.fU t.item t.day t.rd (by omega) q2 q3 q4;rw[jN]at wE;by_cases lG:t.fU=x.num
  case neg=>
   rw[if_neg (by rintro⟨h,_⟩;exact lG h)]at hv;have hn:=eK rs ho hv;simp[KX,KW,KV,Wk.cells,aJ,↓hg,aP,lG,hw];exact⟨_,_,aG,Sub.mk (by simp[KW]) (by simp[KV,Wk.cells]),hn⟩
  simp[KX,KW,KV,Wk.cells,aJ,↓hg,aP,lG];rw[lG]at wE;refine cG [_,_] wE ?_;cases hs:stM w.aA w.bad t.item t.day with
  |false=>
   rw[if_neg (by rintro⟨_,h⟩;rw[hs]at h;cases h)]at hv;have hn:=eK rs ho hv;simp[hw];exact⟨_,_,aG,Sub.mk (by simp[KW,KX]) (by simp[KX,KV,Wk.cells]),hn⟩
  |true=>
   rw[if_pos ⟨lG,hs⟩]at hv;have y6:=ZsM w hI.bk (by omega) (by omega) t x.limit (by omega) q2 q3 q4 hs hc (hI.fit t gR);rw[jN,lG]at y6;obtain⟨bU,e1⟩:=(⟨ho.step,rfl⟩:(∀b,(cY (rs++[b])).2.2=0/\((cY (rs++[b])).1=3->lB (rs++[b])))/\0=0);clear e1;have RX:=ho.len;have h16:rs.length<=999999:=by omega
   have h17:rs.length+1<=1000000:=by omega
   simp[↓hg,aP];rw[lG];refine cG [_,_,_] y6 ?_;generalize nV w.aA w.bad x.limit t=b0 at *;have II:∃b,b=!b0:=⟨_,rfl⟩;obtain⟨b,hb⟩:=II;rw[<-hb]at hv;have jT:List.take (rs.length+1) (rs.map PV.bool++[PV.bool b])=(rs++[b]).map PV.bool:=by
    rw[fP (by simp),mH];rfl
   simp[aP,h17,<-hb]
   try rw[jT]
   refine .inl<|cQ [] [_] (ZsH x.pieces) ?_;simp[aM];have lZ:=ZsG x.pieces (rs++[b]) (by rw[gD];simp;omega) (bU b).1;refine xQ (gF:=[.pv (eG x.pieces),.vec (.par 0) 1 0 (rs++[b]).length]) (B:=[(.par 0,.arr 4 1 ((rs++[b]).map .bool))]) (fs:=[]) (cs:=[]) 55 [.loc 49 0] rfl rfl rfl ?_ ?_ ?_ lZ ?_
   .first|rfl|simp
   .first|rfl|simp
   .first|rfl|simp
   rintro r0 B0 ⟨rfl,rfl⟩;refine⟨rfl,by simp,?_⟩;obtain⟨G7,oK⟩:=bU b;have hn:=eK (rs++[b]);have yN:(rs++[b]).length=rs.length+1:=by rw[gD];rfl
   generalize cY (rs++[b])=pm at hv G7 oK ⊢;obtain⟨v,mo,er⟩:=pm;dsimp only at G7 oK hv;by_cases h3:v=3
   .subst h3;rw[if_pos rfl]at hv;have hn:=hn (oK rfl) hv;simp[hw];exact⟨_,_,aG,Sub.mk (by simp[KW]) (by simp[KV,Wk.cells]),hn⟩
   .rw[if_neg h3]at hv;simp[h3];rw[<-hR,<-hv,yN];exact⟨rfl,by simp⟩
 have he:k=w.aH.length:=by omega
 subst he;rw[List.drop_length,Ztf]at hv;clear hJ;simp[KX,KW,KV,Wk.cells];rw[<-hR,<-hv];exact⟨rfl,rfl⟩
end
def sL (w:Wk)(r:Except Int Wk):PV:=match r with
 |.ok u=>.bM [u.pv,.i 0]
 |.error e=>.bM [w.pv,.i e]
theorem Ym {l:List Int}{n:Int}{i:Nat}(hs:l.Pairwise (·<·))(hi:i<=l.length)(h1:∀(k:Nat) (y:Int),k<i->l[k]?=some y->y<n)(h2:∀y,l[i]?=some y->n<=y):dJ l n=i:=by
 refine Cut.is ⟨fH _,hi,h1,fun k y hk hy=>?_⟩;obtain⟨l1,e1⟩:=cA.1 hy;have yO:i<l.length:=by omega
 have h3:=h2 l[i] (bC yO);by_cases he:i=k
 .subst he;rw[e1]at h3;exact h3
 .have:=Q8.1 hs i k yO l1 (by omega)
  omega
def Km (w:Wk)(n:Int)(k:Nat):AS:=⟨[(1,.pv (.i n)),(2,.ptr (.loc 2 0) 0),(4,.ptr (.loc 4 0) 0),(6,.ptr (.loc 6 0) 0),(7,.pv (.i (k:Int)))],
 [(.loc 44 0,.arr 3 1 ((w.bad.take k).map iP)),(.loc 6 0,.cells [.pv (.aE false 7 (w.aA.map Ct.pv)),.vec (.loc 44 0) 1 0 k,.pv (.aE false 4 (w.aN.map Lt.pv)),.pv (.aE false 4 (w.aH.map Tt.pv)),.pv (.aE false 3 (w.runs.map Qn.Rq.pv))]),(.loc 2 0,.cells w.cells),(.loc 4 0,.cells [.pv (.emp (some true)),.pv (.emp (some true)),.pv (.emp (some true)),.pv (.emp (some true)),.pv (.emp (some true))])]⟩
theorem Zus {q:Nat}(w:Wk)(hI:sI q w)(hq:q<=100)(n:Int):aD prog 60 [w.pv,.i n] (sL w ((pR w.aA w.bad n).map fun l=>{ w with bad:=l })):=by
 have gO:=hI.c;have wL:=hI.b;have uS:=Zhd w (by omega) n;have VL:aD prog 76 [.aE false 1 (w.bad.map iP),.i n] (.bool (decide (n∈w.bad))):=by
  have h:=wN w.bad n (by omega);have e:w.bad.contains n=decide (n∈w.bad):=by
   rw[qT,jC,decide_eq_true_eq]
  rw[e]at h;exact h
 have jN:w.pv=.agg [.aE false 7 (w.aA.map Ct.pv),.aE false 1 (w.bad.map iP),.aE false 4 (w.aN.map Lt.pv),.aE false 4 (w.aH.map Tt.pv),.aE false 3 (w.runs.map Qn.Rq.pv)]:=rfl;refine cF [.loc 61 0] L60 ?_;obtain⟨V,hV⟩:∃V,V=sL w ((pR w.aA w.bad n).map fun l=>{ w with bad:=l }):=⟨_,rfl⟩;rw[<-hV];generalize hR:(fun(r:AV) (B:List (Site×aK))=>r=.pv V/\B=[])=R;rw[jN]at uS ⊢;simp[L60];refine cG [_,_] uS ?_;cases mA:kn w n with
 |false=>
  have hv:V=.bM [w.pv,.i 7]:=by
   rw[hV];unfold pR;rw[if_neg (by unfold kn at mA;rw[mA];decide)];rfl
  subst hv;simp;rw[<-hR];exact⟨by simp[jN],by simp⟩
 |true=>
 simp;refine cG [_,_] VL ?_;by_cases hb:n∈w.bad
 .have hv:V=.bM [w.pv,.i 6]:=by
   rw[hV];unfold pR;rw[if_pos (by unfold kn at mA;exact mA),if_pos hb];rfl
  subst hv;simp[hb];rw[<-hR];exact⟨by simp[jN],by simp⟩
 have hv:V=.bM [.agg [.aE false 7 (w.aA.map Ct.pv),.aE false 1 ((w.bad.take (dJ w.bad n)++n::w.bad.drop (dJ w.bad n)).map iP),.aE false 4 (w.aN.map Lt.pv),.aE false 4 (w.aH.map Tt.pv),.aE false 3 (w.runs.map Qn.Rq.pv)],.i 0]:=by
  rw[hV];unfold pR;rw[if_pos (by unfold kn at mA;exact mA),if_neg hb];rfl
 clear hV;simp[hb];refine eP (fun m τ=>∃k:Nat,k<=w.bad.length/\m=w.bad.length-k/\(∀(j:Nat) (y:Int),j<k->w.bad[j]?=some y->y<n)/\τ=Km w n k) ⟨w.bad.length,Km w n 0,Sub.trans' (Sub.mk (by simp[AS.lY]) (by simp[AS.lY,Wk.cells])) (lY 44 3 1 (s:=.loc 6 0) (cs:=[.pv (.aE false 7 (w.aA.map Ct.pv)),.pv (.emp (some true)),.pv (.aE false 4 (w.aN.map Lt.pv)),.pv (.aE false 4 (w.aH.map Tt.pv)),.pv (.aE false 3 (w.runs.map Qn.Rq.pv))]) 1 rfl rfl (by decide)),0,gY _,rfl,(fun j y h=>absurd h (Nat.not_lt_zero j)),rfl⟩ ?_;rintro J hJ m τ ⟨k,hk,rfl,lG,rfl⟩;have Bn:¬(k<w.bad.length/\∃y,w.bad[k]?=some y/\y<n)->dJ w.bad n=k:=fun h=>Ym hI.bs hk lG fun y hy=>by
  have xK:=(cA.1 hy).1;by_cases S7:y<n
  .exact absurd ⟨xK,y,hy,S7⟩ h
  .omega
 by_cases qB:k<w.bad.length/\∃y,w.bad[k]?=some y/\y<n
 .obtain⟨aJ,y,hy,S7⟩:=qB;have hg:(w.bad.map iP)[k]?=some (.i y):=by rw[bX,hy];rfl
  have hw:=bN (k:=k) (by omega);have aB:=hJ _ _ ⟨k+1,aJ,rfl,(fun j z hj hz=>by
   by_cases he:j=k
   .subst he;rw[hy]at hz;cases hz;exact S7
   .exact lG j z (by omega) hz),rfl⟩
  have aG:w.bad.length-(k+1)<w.bad.length-k:=by omega
  have jT:(w.bad.take (k+1)).map iP=(w.bad.take k).map iP++[.i y]:=by rw[mR,hy,mH];rfl
  have nT:((w.bad.take k).map iP).length=k:=by rw[fZ,gN];omega
  have D7:k+1<=1000000:=by omega
  unfold Km at aB ⊢;rw[jT]at aB;clear hJ;generalize RF:(w.bad.take k).map iP=TL at *;have U3:TL.take k=TL:=fP (by omega);simp[Wk.cells,aJ,↓hg,S7,aP,hw,D7,nT];exact⟨_,_,aG,Sub.mk (by simp) (by simp[Wk.cells]),aB⟩
 have wJ:=Bn qB;clear hJ Bn;rw[wJ]at hv;have nT:((w.bad.take k).map iP).length=k:=by rw[fZ,gN];omega
 have CT:(w.bad.take k++n::w.bad.drop k).map iP=(w.bad.take k).map iP++[.i n]++(w.bad.map iP).drop k:=by
  rw[mH,iN,List.map_drop,I2];rfl
 rw[CT]at hv;subst hv;have D7:k+1<=1000000:=by omega
 have pY:IntKind.i64.wrap (k:Int)=(k:Int):=wrap64 (by omega);have X6:(w.bad.map iP).take w.bad.length=w.bad.map iP:=fP (by simp);have nG:((w.bad.map iP).drop k).length=w.bad.length-k:=by rw[uG,fZ]
 have VI:k+1+(w.bad.length-k)<=1000000:=by omega
 unfold Km;generalize RF:(w.bad.take k).map iP=TL at *;have U3:TL.take k=TL:=fP (by omega);have hT3:(TL++[PV.i n]).take (k+1)=TL++[PV.i n]:=fP (by rw[gD];simp;omega);have Cm:k+1+(w.bad.length-k)<=k+(w.bad.length-k+1):=by omega
 have RG:(TL++PV.i n::(w.bad.map iP).drop k).take (k+1+(w.bad.length-k))=TL++PV.i n::(w.bad.map iP).drop k:=fP (by rw[gD,pA,nT,nG];omega);by_cases aJ:k<w.bad.length
 .obtain⟨y,hy⟩:∃y,w.bad[k]?=some y:=⟨w.bad[k],bC aJ⟩;have hg:(w.bad.map iP)[k]?=some (.i y):=by rw[bX,hy];rfl
  have S7:¬y<n:=fun h=>qB ⟨aJ,y,hy,h⟩
  simp[-List.map_drop,Wk.cells,aJ,↓hg,S7,aP,D7,VI,nT,pY,nG,hk,X6,Cm,RG];rw[<-hR];exact⟨by simp[-List.map_drop,I2],by simp⟩
 .simp[-List.map_drop,Wk.cells,aJ,aP,D7,VI,nT,pY,nG,hk,X6,Cm,RG];rw[<-hR];exact⟨by simp[-List.map_drop,I2],by simp⟩
theorem rI (n lo hi:Int):aD prog 107 [.i n,.i lo,.i hi] (.bool (decide (lo<=n)&&decide (n<=hi))):=by
 refine cS L107 ?_;cases h1:decide (lo<=n)<;>cases h2:decide (n<=hi)<;>simp[-decide_eq_true_eq,-decide_eq_false_iff_not,L107,h1,h2]
theorem Z9 {n:Int}:∀{l:List Lt} {k:Nat},(∀x∈l,x.num≠n)/\NC l n k = -1\/∃i x,l[i]?=some x/\x.num=n/\NC l n k=((k+i:Nat):Int)
 |[],k=>.inl ⟨(fun x h=>absurd h (List.not_mem_nil)),rfl⟩
 |x::l,k=>by
  unfold NC;by_cases h:x.num=n
  .rw[if_pos h];exact .inr ⟨0,x,rfl,h,rfl⟩
  .rw[if_neg h];rcases Z9 (n:=n) (l:=l) (k:=k+1)with⟨h1,h2⟩|⟨i,y,h1,h2,h3⟩
   .exact .inl ⟨fun y hy=>(jO.1 hy).elim (fun e=>e▸h) (h1 y),h2⟩
   .exact .inr ⟨i+1,y,h1,h2,by rw[h3];congr 1;omega⟩
def Je (w:Wk)(a b c:Int)(k:Nat):AS:=⟨[(1,.pv (.aE false 1 [.i a,.i b,.i c])),(2,.ptr (.loc 2 0) 0),(4,.ptr (.loc 4 0) 0),(6,.ptr (.loc 6 0) 0),(7,.pv (.i (k:Int)))],
 [(.loc 64 0,.arr 62 4 ((w.aN.take k).map Lt.pv)),(.loc 6 0,.cells [.pv (.aE false 7 (w.aA.map Ct.pv)),.pv (.aE false 1 (w.bad.map iP)),.vec (.loc 64 0) 4 0 k,.pv (.aE false 4 (w.aH.map Tt.pv)),.pv (.aE false 3 (w.runs.map Qn.Rq.pv))]),(.loc 2 0,.cells w.cells),(.loc 4 0,.cells [.pv (.emp (some true)),.pv (.emp (some true)),.pv (.emp (some true)),.pv (.emp (some true)),.pv (.emp (some true))])]⟩
theorem Zm5 {q:Nat}(w:Wk)(hI:sI q w)(hq:q<=100)(a b c:Int):aD prog 61 [w.pv,.aE false 1 [.i a,.i b,.i c]] (sL w ((pK w.aN ⟨a,b,c,false⟩).map fun l=>{ w with aN:=l })):=by
 have yN:=hI.l;have D9:=Zn w (by omega) a;have i1:=rI a 1 99;have i2:=rI b 4 30;have i3:=rI c 0 1000;have jN:w.pv=.agg [.aE false 7 (w.aA.map Ct.pv),.aE false 1 (w.bad.map iP),.aE false 4 (w.aN.map Lt.pv),.aE false 4 (w.aH.map Tt.pv),.aE false 3 (w.runs.map Qn.Rq.pv)]:=rfl;refine cF [.loc 90 0] L61 ?_;obtain⟨V,hV⟩:∃V,V=sL w ((pK w.aN ⟨a,b,c,false⟩).map fun l=>{ w with aN:=l }):=⟨_,rfl⟩;rw[<-hV];generalize hR:(fun(r:AV) (B:List (Site×aK))=>r=.pv V/\B=[])=R;have gE:¬((decide (1<=a)&&decide (a<=99))=true/\(decide (4<=b)&&decide (b<=30))=true/\(decide (0<=c)&&decide (c<=1000))=true)->V=.bM [w.pv,.i 2]:=fun h=>by
  rw[hV];unfold pK;rw[if_neg h];rfl
 rw[jN]at D9 gE ⊢;simp[L61];refine cG [_,_,_] i1 ?_;generalize tV:(decide (1<=a)&&decide (a<=99))=d1 at *;cases d1
 .have hv:=gE (by simp);subst hv;simp;rw[<-hR];exact⟨by simp,by simp⟩
 simp;refine cG [_,_,_] i2 ?_;generalize wK:(decide (4<=b)&&decide (b<=30))=d2 at *;cases d2
 .have hv:=gE (by simp);subst hv;simp;rw[<-hR];exact⟨by simp,by simp⟩
 simp;refine cG [_,_,_] i3 ?_;generalize T9:(decide (0<=c)&&decide (c<=1000))=d3 at *;cases d3
 .have hv:=gE (by simp);subst hv;simp;rw[<-hR];exact⟨by simp,by simp⟩
 clear gE;have hlm:pK w.aN ⟨a,b,c,false⟩=if a∈w.aN.map Lt.num then .error 6 else .ok (w.aN.take (dJ (w.aN.map Lt.num) a)++⟨a,b,c,false⟩::w.aN.drop (dJ (w.aN.map Lt.num) a)):=by
  unfold pK;rw[if_pos ⟨tV,wK,T9⟩]
 rw[hlm]at hV;simp;refine cG [_,_] D9 ?_;rcases Z9 (n:=a) (l:=w.aN) (k:=0)with⟨mK,hf⟩|⟨i,x,hx,UT,hf⟩
 case inr=>
  have hv:V=.bM [w.pv,.i 6]:=by
   rw[hV,if_pos (iJ.2 ⟨x,dL hx,UT⟩)];rfl
  rw[jN]at hv;subst hv;have h0:(0:Int)<=((0+i:Nat):Int):=Int.natCast_nonneg _;simp[-Int.natCast_add,hf];rw[<-hR];exact⟨by simp,by simp⟩
 have Bd:a∉w.aN.map Lt.num:=fun h=>by
  obtain⟨x,h1,h2⟩:=iJ.1 h;exact mK x h1 h2
 rw[if_neg Bd]at hV;have hv:V=.bM [.agg [.aE false 7 (w.aA.map Ct.pv),.aE false 1 (w.bad.map iP),.aE false 4 ((w.aN.take (dJ (w.aN.map Lt.num) a)++⟨a,b,c,false⟩::w.aN.drop (dJ (w.aN.map Lt.num) a)).map Lt.pv),.aE false 4 (w.aH.map Tt.pv),.aE false 3 (w.runs.map Qn.Rq.pv)],.i 0]:=hV;clear hV hlm;simp[hf];refine eP (fun m τ=>∃k:Nat,k<=w.aN.length/\m=w.aN.length-k/\(∀(j:Nat) (y:Lt),j<k->w.aN[j]?=some y->y.num<a)/\τ=Je w a b c k) ⟨w.aN.length,Je w a b c 0,Sub.trans' (Sub.mk (by simp[AS.lY]) (by simp[AS.lY,Wk.cells])) (lY 64 62 4 (s:=.loc 6 0) (cs:=[.pv (.aE false 7 (w.aA.map Ct.pv)),.pv (.aE false 1 (w.bad.map iP)),.pv (.emp (some true)),.pv (.aE false 4 (w.aH.map Tt.pv)),.pv (.aE false 3 (w.runs.map Qn.Rq.pv))]) 2 rfl rfl (by decide)),0,gY _,rfl,(fun j y h=>absurd h (Nat.not_lt_zero j)),rfl⟩ ?_;rintro J hJ m τ ⟨k,hk,rfl,lG,rfl⟩;have Bn:¬(k<w.aN.length/\∃y,w.aN[k]?=some y/\y.num<a)->dJ (w.aN.map Lt.num) a=k:=fun h=>Ym hI.s (by rw[fZ];exact hk) (fun j z hj hz=>by
   rw[bX]at hz;obtain⟨y,hy,rfl⟩:=eA.1 hz;exact lG j y hj hy) fun z hz=>by
  rw[bX]at hz;obtain⟨y,hy,rfl⟩:=eA.1 hz;have xK:=(cA.1 hy).1;by_cases S7:y.num<a
  .exact absurd ⟨xK,y,hy,S7⟩ h
  .omega
 by_cases qB:k<w.aN.length/\∃y,w.aN[k]?=some y/\y.num<a
 .obtain⟨aJ,y,hy,S7⟩:=qB;have hg:(w.aN.map Lt.pv)[k]?=some (.agg [.i y.num,.i y.pieces,.i y.limit,.bool y.passed]):=by rw[bX,hy];rfl
  have hw:=bN (k:=k) (by omega);have aB:=hJ _ _ ⟨k+1,aJ,rfl,(fun j z hj hz=>by
   by_cases he:j=k
   .subst he;rw[hy]at hz;cases hz;exact S7
   .exact lG j z (by omega) hz),rfl⟩
  have aG:w.aN.length-(k+1)<w.aN.length-k:=by omega
  have jT:(w.aN.take (k+1)).map Lt.pv=(w.aN.take k).map Lt.pv++[.agg [.i y.num,.i y.pieces,.i y.limit,.bool y.passed]]:=by rw[mR,hy,mH];rfl
  have nT:((w.aN.take k).map Lt.pv).length=k:=by rw[fZ,gN];omega
  have D7:k+1<=1000000:=by omega
  unfold Je at aB ⊢;rw[jT]at aB;clear hJ;generalize RF:(w.aN.take k).map Lt.pv=TL at *;have U3:TL.take k=TL:=fP (by omega);simp[Wk.cells,aJ,↓hg,S7,aP,hw,D7,nT];exact⟨_,_,aG,Sub.mk (by simp) (by simp[Wk.cells]),aB⟩
 have wJ:=Bn qB;clear hJ Bn;rw[wJ]at hv;have nT:((w.aN.take k).map Lt.pv).length=k:=by rw[fZ,gN];omega
 have CT:(w.aN.take k++⟨a,b,c,false⟩::w.aN.drop k).map Lt.pv=(w.aN.take k).map Lt.pv++[.agg [.i a,.i b,.i c,.bool false]]++(w.aN.map Lt.pv).drop k:=by
  rw[mH,iN,List.map_drop,I2];rfl
 rw[CT]at hv;subst hv;have D7:k+1<=1000000:=by omega
 have pY:IntKind.i64.wrap (k:Int)=(k:Int):=wrap64 (by omega);have X6:(w.aN.map Lt.pv).take w.aN.length=w.aN.map Lt.pv:=fP (by simp);have nG:((w.aN.map Lt.pv).drop k).length=w.aN.length-k:=by rw[uG,fZ]
 have VI:k+1+(w.aN.length-k)<=1000000:=by omega
 unfold Je;generalize RF:(w.aN.take k).map Lt.pv=TL at *;have U3:TL.take k=TL:=fP (by omega);have hT3:(TL++[PV.agg [.i a,.i b,.i c,.bool false]]).take (k+1)=TL++[PV.agg [.i a,.i b,.i c,.bool false]]:=fP (by rw[gD];simp;omega);have Cm:k+1+(w.aN.length-k)<=k+(w.aN.length-k+1):=by omega
 have RG:(TL++PV.agg [.i a,.i b,.i c,.bool false]::(w.aN.map Lt.pv).drop k).take (k+1+(w.aN.length-k))=TL++PV.agg [.i a,.i b,.i c,.bool false]::(w.aN.map Lt.pv).drop k:=fP (by rw[gD,pA,nT,nG];omega);by_cases aJ:k<w.aN.length
 .obtain⟨y,hy⟩:∃y,w.aN[k]?=some y:=⟨w.aN[k],bC aJ⟩;have hg:(w.aN.map Lt.pv)[k]?=some (.agg [.i y.num,.i y.pieces,.i y.limit,.bool y.passed]):=by rw[bX,hy];rfl
  have S7:¬y.num<a:=fun h=>qB ⟨aJ,y,hy,h⟩
  simp[-List.map_drop,Wk.cells,aJ,↓hg,S7,aP,D7,VI,nT,pY,nG,hk,X6,Cm,RG];rw[<-hR];exact⟨by simp[-List.map_drop,I2],by simp⟩
 .simp[-List.map_drop,Wk.cells,aJ,aP,D7,VI,nT,pY,nG,hk,X6,Cm,RG];rw[<-hR];exact⟨by simp[-List.map_drop,I2],by simp⟩
end Go.Proofs.YtlllhbmbnjnoiaaGreatDoor
