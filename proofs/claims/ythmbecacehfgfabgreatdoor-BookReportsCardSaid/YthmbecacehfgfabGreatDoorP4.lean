import Derived.Test.YthmbecacehfgfabGreatDoorP3
import Derived.Test.YthmbecacehfgfabGreatDoorP2
import Derived.Test.YthmbecacehfgfabGreatDoorRows
import Derived.Test.YthmbecacehfgfabGreatDoorP1
import Derived.WalkKit
import Derived.ProofKit
import Derived.OpenShut
import Derived.Handed
import Derived.Lay
import Derived.MakeChecks
import Derived.LaidLaws
import Derived.Lib.LaidTab
import Derived.Lib.LaidU8
import Derived.Shelf.Vars
import Derived.Lib.AtoiTie
import Derived.Test.YthmbecacehfgfabGreatDoorP0
import Derived.Test.YthmbecacehfgfabGreatDoorProg
import Derived.Shelf.Spec.SlicesInsertGrow
import Derived.StillTailTactics
import Derived.Deep.QuietTactic
import Derived.BigQuiet
import Derived.Lib.Builder
import Derived.Shelf.Strings.BuilderX
import Derived.Shelf.RegionOpenPlain
import Derived.Lib.Strings
import Derived.Lib.Walk
import Derived.Lib.AppendStr
import Derived.Lib.AppendZeros
import Derived.Lib.UnsafeStr
import Derived.Laws.Externs
import Derived.Lib.ItoaLen
set_option linter.unusedSimpArgs false
set_option linter.unusedVariables false
set_option maxHeartbeats 32000000
set_option maxRecDepth 100000
namespace Go.Proofs.YthmbecacehfgfabGreatDoor.Qn
open Go.RowKit
open Go.Proofs.Tryz Go.Proofs.YthmbecacehfgfabGreatDoor.Tryz
def Qu.I6 (q:Qu)(p:List (List Int)):List (List Int):=p.map (·.take q.ms.length)
def Qu.GJ (F:Nat)(q:Qu):PV:=if q.check≠0 then .bN [eH [],.i 0,.i q.check]else match q.EV F with
 |none=>.bN [eH [],.i 0,.i 9]
 |some p=>.bN [eH (q.I6 p),.i p.length,.i 0]
theorem Zlo {m:Mem}{v:Value}{a b:PV}(h:dH m v (.bN [.emp (some true),a,b])):dH m v (.bN [eH [],a,b]):=by
 refine Zs ?_ ?_ h
 .rfl
 intro j c c' d h1 h2 hd
 match j with
 |0=>simp at h1 h2;subst h1 h2;exact BF hd
 |1=>simp at h1 h2;subst h1 h2;exact hd
 |2=>simp at h1 h2;subst h1 h2;exact hd
 |j+3=>simp at h1
theorem wS {F:Nat}(hF:407<F)(q:Qu)(h1:q.ms.length<=1000000)(h2:q.rs.length<=1000000)(h3:∀l∈q.ms,l.length<=1000000):aC prog 23 [q.pv] (q.GJ F):=by
 refine cU.j5 ?_;obtain⟨OUT,JJ⟩:∃z,z=q.GJ F:=⟨_,rfl⟩;rw[<-JJ];refine Q6 [.loc 38 0] L23 ?_;intro R hR;simp[L23,Qu.pv];refine cG [q.pv] (XU q h1 h2 h3) ?_;by_cases hc:q.check=0
 .have hq:=Qu.XC hc;have Bw:=hq.m;have Cn:=Aw hF q hq;have hO:OUT=match q.EV F with
   |none=>.bN [eH [],.i 0,.i 9]
   |some p=>.bN [eH (q.I6 p),.i p.length,.i 0]:=by rw[JJ];unfold Qu.GJ;rw[if_neg (by simpa using hc)]
  have hPW:∀p,q.EV F=some p->PW q p:=fun p hp=>C8 hq _ _ _ PW.nil (oJ (q:=q)) p hp
  clear JJ;generalize q.EV F=LAY at *;simp[hc];refine cL [.pv q.pv] [] 17 [] rfl Cn ?_
  intro x B hx;cases LAY with
  |none=>
   obtain⟨rfl,rfl⟩:=hx;refine⟨rfl,by simp,?_⟩;simp;rw[<-hR];refine⟨_,rfl,rfl,fun m v h=>?_⟩;rw[hO];exact Zlo h
  |some p=>
   obtain⟨rfl,rfl⟩:=hx;refine⟨rfl,by simp,?_⟩;have hpw:=hPW p rfl;have mJ:=hpw.l;simp;refine eP (fun n τ=>∃k:Nat,k<=p.length/\n=p.length-k/\τ=⟨[(1,.ptr (.loc 1 0) 0),(2,.vec (.loc 38 0) 1 0 k),(25,.vec (.loc 17 1) 4 0 p.length),(26,.pv (.i p.length)),(27,.pv (.i k))],[(.loc 38 0,.arr 32 1 ((q.I6 p).take k |>.map bT)),(.loc 1 0,.cells q.cells),(.loc 17 1,.arr 146 4 (jV p))]⟩)
    ⟨p.length,⟨[(1,.ptr (.loc 1 0) 0),(2,.vec (.loc 38 0) 1 0 0),(25,.vec (.loc 17 1) 4 0 p.length),(26,.pv (.i p.length)),(27,.pv (.i 0))],[(.loc 38 0,.arr 32 1 []),(.loc 1 0,.cells q.cells),(.loc 17 1,.arr 146 4 (jV p))]⟩,Sub.trans' (Sub.mk (by simp[AS.cW]) (by simp[AS.cW,Qu.cells])) (cW 38 32 1 2 rfl (by decide)),0,gW _,rfl,by simp⟩ ?_
   rintro J hJ n τ ⟨k,hk,rfl,rfl⟩;by_cases aI:k<p.length
   .obtain⟨l,hl⟩:∃l,p[k]?=some l:=⟨p[k],bC aI⟩;have h4:=hpw.f l (dL hl);have hg:(jV p)[k]?=some (.agg (l.map (PV.int .i64))):=by rw[jV,bY,hl];rfl
    have gP:(q.I6 p)[k]?=some (l.take q.ms.length):=by rw[Qu.I6,bY,hl];rfl
    have hw:=jK (k:=k) (by omega);have aH:p.length-(k+1)<p.length-k:=by omega
    have aB:=hJ _ _ ⟨k+1,aI,rfl,rfl⟩;have jX:((q.I6 p).take (k+1)).map bT=((q.I6 p).take k).map bT++[bT (l.take q.ms.length)]:=by rw[OY gP];simp
    have E7:k+1<=1000000:=by omega
    have hk5:k<=999999:=by omega
    have oQ:(((q.I6 p).take k).map bT).length=k:=by simp[Qu.I6];omega
    have oB:=ZqP (l.take q.ms.length) (by rw[gM];omega);have Q1:(jV p).length=p.length:=by simp[jV]
    match l,h4 with
    |[a,b,c,d],_=>
    have VX:(([a,b,c,d]:List Int).map (PV.int .i64)).take q.ms.length=(([a,b,c,d]:List Int).take q.ms.length).map aO:=by rw[<-List.map_take];rfl
    simp only[iS,List.map_nil]at VX hg;clear hJ hPW Cn;generalize SH:((q.I6 p).take k).map bT=TL at *;generalize hRW:([a,b,c,d]:List Int).take q.ms.length=RW at *;simp[-List.map_take,Qu.cells,aI,↓hg,bV,aN,Bw,VX];refine .inl (cP [] [bT RW] rfl ?_ oB ?_)
    .simp[aL,bT]
    simp[-List.map_take,aL,aN,E7,oQ,hw,bT];refine⟨_,_,aH,Sub.mk ?_ ?_,aB⟩
    .simp
    .simp[-List.map_take,jX,Qu.cells,bT]
   .have he:k=p.length:=by omega
    subst he;have FU:((q.I6 p).take p.length).map bT=(q.I6 p).map bT:=by rw[fQ (by simp[Qu.I6])]
    have nK:((q.I6 p).map bT).take p.length=(q.I6 p).map bT:=fQ (by simp[Qu.I6]);have Vy:(q.I6 p).length=p.length:=by simp[Qu.I6]
    simp[-List.map_take,FU,nK,Vy];rw[<-hR];refine⟨_,rfl,rfl,fun m v h=>?_⟩;rw[hO];exact h
 .have hO:OUT=.bN [eH [],.i 0,.i q.check]:=by rw[JJ];unfold Qu.GJ;rw[if_pos (by simpa using hc)]
  simp[hc];rw[<-hR];refine⟨_,rfl,rfl,fun m v h=>?_⟩;rw[hO];exact Zlo h
end Go.Proofs.YthmbecacehfgfabGreatDoor.Qn
namespace Go.Proofs.YthmbecacehfgfabGreatDoor
open Go.RowKit
open Go.Proofs.Tryz Go.Proofs.YthmbecacehfgfabGreatDoor.Tryz
def rF (rs:List Qn.Rq):Qn.Qu:=⟨[[⟨10,13⟩],[]],rs⟩
def dV (rs:List Qn.Rq):PV:=.aF false 3 (rs.map Qn.Rq.pv)
def eL (F:Nat)(q:Qn.Qu):Int:=if q.check≠0 then q.check else match q.EV F with
 |none=>9
 |some _=>0
theorem Zov (F:Nat)(q:Qn.Qu):∃x y,q.GJ F=.bN [x,.i y,.i (eL F q)]:=by
 unfold Qn.Qu.GJ eL;split
 .exact⟨_,_,rfl⟩
 .cases q.EV F with
  |none=>exact⟨_,_,rfl⟩
  |some p=>exact⟨_,_,rfl⟩
def pQ (h r o:Int):Qn.Rq:=⟨h,r,[!decide (o=2),!decide (o=1)]⟩
def runM (F:Nat)(rs:List Qn.Rq)(h r o:Int):Except Int (List Qn.Rq):=
 if(decide (1<=h)&&decide (h<=40))=true/\(decide (0<=r)&&decide (r<=40))=true/\(decide (1<=o)&&decide (o<=3))=true then
  (if rs.length<6 then(if eL F (rF (rs++[pQ h r o]))=0 then .ok (rs++[pQ h r o])else .error 9)else .error 3)
 else .error 2
def rnQ (r:Except Int (List Qn.Rq))(ct bd ls ts:PV)(a b c d e:PV):Prop:=∃yC,r=.ok yC/\a=ct/\b=bd/\c=ls/\d=ts/\e=dV yC
theorem ZP {F:Nat}(hF:407<F)(rs:List Qn.Rq)(ct bd ls ts:PV)(h r o:Int)(hr:rs.length<=900):
  tH prog 173 [.ptr (.par 0) 0,.pv (.aF false 1 [iP h,iP r,iP o])] [(.par 0,aP ct bd ls ts (dV rs))] (yF (rnQ (runM F rs h r o) ct bd ls ts)) (uY (fun e=>runM F rs h r o=.error e)):=by
 have w1:=KS h 1 40;have w2:=KS r 0 40;have w3:=KS o 1 3;refine cX L173 ?_;generalize hE:(fun e=>runM F rs h r o=.error e)=E;generalize hQ:rnQ (runM F rs h r o) ct bd ls ts=Q;unfold runM at hE hQ;generalize(decide (1<=h)&&decide (h<=40))=c1 at w1 hE hQ;generalize(decide (0<=r)&&decide (r<=40))=c2 at w2 hE hQ;generalize(decide (1<=o)&&decide (o<=3))=c3 at w3 hE hQ;show fO _ (.seq _ (.seq _ (.seq _ _))) _ _ _;by_cases hc:¬(c1=true/\c2=true/\c3=true)
 .have AR:E 2:=by rw[<-hE,if_neg hc]
  refine xF [_,_,_,_,_,_,_,_,_,_,_,_,_,_,_,_] ?_;simp[hold,iP];refine cG [.i h,.i 1,.i 40] w1 ?_;cases c1 with
  |false=>
   simp[hold];exact pF 2 AR
  |true=>
  simp[hold];refine cG [.i r,.i 0,.i 40] w2 ?_;cases c2 with
  |false=>
   simp[hold];exact pF 2 AR
  |true=>
  simp[hold];refine cG [.i o,.i 1,.i 3] w3 ?_;cases c3 with
  |false=>
   simp;exact pF 2 AR
  |true=>exact absurd ⟨rfl,rfl,rfl⟩ hc
 have hc:=Decidable.not_not.1 hc;rw[if_pos hc]at hE hQ;obtain⟨rfl,rfl,rfl⟩:=hc;refine mI ?_;simp[hold,iP];refine cG [.i h,.i 1,.i 40] w1 ?_;simp[hold];refine cG [.i r,.i 0,.i 40] w2 ?_;simp[hold];refine cG [.i o,.i 1,.i 3] w3 ?_;simp;refine cG [.bool true,.i 2] (gR 2) ?_;simp[hold];by_cases h6:¬rs.length<6
 .rw[if_neg h6]at hE;have Wx:E 3:=by rw[<-hE]
  have Xf:¬(rs.length:Int)<6:=by omega
  refine xF [_,_,_,_,_,_,_] ?_;simp[hold,aP,dV,Xf];exact pF 3 Wx
 have h6:=Decidable.not_not.1 h6;rw[if_pos h6]at hE hQ;have Xf:(rs.length:Int)<6:=by omega
 refine mI ?_;simp[hold,aP,dV,Xf];refine cG [.bool true,.i 3] (gR 3) ?_;simp;refine mI ?_;simp[hold,setAt,aN];have FP:=ZoO (rs.map Qn.Rq.pv) h r [.bool (!decide (o=2)),.bool (!decide (o=1))] (.aF false 1 [.bool (!decide (o=2)),.bool (!decide (o=1))]) rfl (by rw[fZ];omega);refine .inl (cP [.loc 52 0] [.aF false 3 (rs.map Qn.Rq.pv),.agg [.i h,.i r,.aF false 1 [.bool (!decide (o=2)),.bool (!decide (o=1))]]] (by simp) (by simp[AS.cJ,AV.cJ,AV.aY,aJ.cJ]) FP ?_);have H7:rs.map Qn.Rq.pv++[.agg [.i h,.i r,.aF false 1 [.bool (!decide (o=2)),.bool (!decide (o=1))]]]=(rs++[pQ h r o]).map Qn.Rq.pv:=by rw[mL];rfl
 rw[H7];have SK:(rs++[pQ h r o]).length<=7:=by rw[gF];simp;omega
 generalize rs++[pQ h r o]=L at hE hQ SK ⊢;clear H7 FP;simp[AS.cJ,AV.cJ,AV.aY,aJ.cJ,AS.tidy];have MV:=Znt (L.map Qn.Rq.pv) ct bd ls ts;have NJ:=Qn.wS hF (rF L) (show(2:Nat)<=1000000 by decide) (show L.length<=1000000 by omega) (fun l hl=>by
  simp[rF]at hl;rcases hl with rfl|rfl<;>decide)
 obtain⟨ex,ey,Df⟩:=Zov F (rF L);rw[Df]at NJ;generalize eL F (rF L)=er at hE hQ NJ;clear Df;refine mI ?_;simp[hold];refine cM [.ptr (.par 0) 0] [(.par 0,aP ct bd ls ts (.aF false 3 (L.map Qn.Rq.pv)))] 60 [.par 0] (by simp[aP]) MV (by simp[aP]) ?_;simp[aP];refine .inl (cQ [] [(rF L).pv] NJ ?_);simp;by_cases h0:¬er=0
 .rw[if_neg h0]at hE;have Ww:E 9:=by rw[<-hE]
  refine Hg [_,_] ?_;simp[hold,h0];exact pF 9 Ww
 have h0:=Decidable.not_not.1 h0;rw[if_pos h0]at hQ;refine GZ ?_;simp[hold,h0];refine cG [.bool true,.i 9] (gR 9) ?_;simp[hold];refine n9 (a:=ct) (b:=bd) (c:=ls) (d:=ts) (e:=dV L) [] ?_ ?_
 .simp[aY,aP,dV]
 .rw[<-hQ];exact⟨_,rfl,rfl,rfl,rfl,rfl,rfl⟩
theorem Zuf (l:List PV)(g:FuncId)(fs cs:List PV)(q:PV->Bool)(hq:∀x∈l,aC prog g (fs++[x]++cs) (.bool (q x)))(hl:l.length<=1000000)(hc:∀x∈l,∃s,x=.str s):
  aC prog 79 [.aF false 1 l,.fn g fs cs] (.bool (l.any q)):=
 wY 124 (UC (row:=false) hq hl (fun x hx=>by obtain⟨s,rfl⟩:=hc x hx;exact⟨rfl,by simp⟩))
theorem Zrq (x:PV)(g:FuncId)(fs cs:List PV)(b:Bool)(hx:∃s,x=.str s)(hq:aC prog g (fs++[x]++cs) (.bool b)):
  aC prog 80 [x,.ref [.fn g fs cs]] (.bool (!b)):=by
 obtain⟨s,rfl⟩:=hx;refine cS L80 ?_;simp[L80];refine gH (k:=0) rfl rfl hq rfl ?_;simp
theorem Zuj (l:List PV)(g:FuncId)(fs cs:List PV)(q:PV->Bool)(hq:∀x∈l,aC prog g (fs++[x]++cs) (.bool (q x)))(hl:l.length<=1000000)(hc:∀x∈l,∃s,x=.str s):
  aC prog 42 [.aF false 1 l,.fn g fs cs] (.bool (l.all q)):=by
 refine cS L42 ?_;simp[L42];refine gH (k:=4) rfl rfl (Zuf l 80 [] [.ref [.fn g fs cs]] (fun x=>!q x) (fun x hx=>Zrq x g fs cs (q x) (hc x hx) (hq x hx)) hl hc) rfl ?_;simp[List.not_any_eq_all_not]
theorem ZlY (l:List Ct)(bad:List Int)(ls:PV)(ts:List Tt)(rn:PV)(x:Lt)(hl:l.length<=1000)(hb:bad.length<=1000)(ht:ts.length<=900)(h4:4<=x.pieces)(SV:x.pieces<=30)(dF:zJ l bad ts):
  cU prog 47 [.ptr (.par 0) 0,.pv x.pv] [(.par 0,aP (aK l) (bJ bad) ls (bI ts) rn)] (fun r B=>r=.pv (.bool (x.passed&&!decide (bZ l bad ts x=1)))/\B=[(.par 0,aP (aK l) (bJ bad) ls (bI ts) rn)]):=by
 have mZ:=Qc l bad ls ts rn x hl hb ht h4 SV dF;have IC:iD (stM l bad) (nB l bad x.limit) x.num ts []=bZ l bad ts x:=rfl;rw[IC]at mZ;generalize bZ l bad ts x=v at mZ ⊢;rw[Lt.pv]at mZ;refine cB [.par 0] L47 ?_;cases hp:x.passed with
 |false=>simp[L47,aP,Lt.pv,hp]
 |true=>
  rw[hp]at mZ;simp[L47,aP,Lt.pv,hp];refine cM [.ptr (.par 0) 0,.pv (.agg [.i x.num,.i x.pieces,.i x.limit,.bool true])] [(.par 0,aP (aK l) (bJ bad) ls (bI ts) rn)] 10 [.par 0] (by simp[aP]) mZ (by simp[aP]) ?_;simp[aP,bJ]
def vK (v:Int):ByteArray:=if v=1 then⟨#[97,99,99,101,112,116,101,100]⟩else if v=2 then⟨#[114,101,106,101,99,116,101,100]⟩else⟨#[111,112,101,110]⟩
theorem ZrC (v:Int):aC prog 45 [.int .u8 v] (.str (vK v)):=by
 refine cS L45 ?_;unfold vK;by_cases h1:v=1
 .simp[L45,h1]
 .by_cases h2:v=2
  .simp[L45,h2]
  .simp[L45,h1,h2]
theorem ZsM (s:ByteArray):aC prog 41 [.str s] (.bool (decide (s.size<=200))):=by
 refine cS L41 ?_;by_cases h:s.size<=200
 .have h':(s.size:Int)<=200:=by omega
  simp[L41,h,h']
 .have h':¬(s.size:Int)<=200:=by omega
  simp[L41,h,h']
def bO (l:List ByteArray):PV:=.aF false 1 (l.map .str)
def JN (l:List ByteArray):Bool:=l.all fun s=>decide (s.size<=200)
def zF (l:List ByteArray):Int:=if 50<l.length then 3 else if JN l=true then 0 else 3
theorem Zru (l:List ByteArray)(hl:l.length<=1000000):aC prog 42 [bO l,.fn 41 [] []] (.bool (JN l)):=by
 have h:=Zuj (l.map .str) 41 [] [] (fun x=>match x with
  |.str s=>decide (s.size<=200)
  |_=>false) (fun x hx=>by
   obtain⟨s,_,rfl⟩:=iN.1 hx;exact ZsM s) (by rw[fZ];exact hl) (fun x hx=>by
   obtain⟨s,_,rfl⟩:=iN.1 hx;exact⟨s,rfl⟩)
 rw[List.all_map]at h;exact h
theorem XU (l:List ByteArray)(hl:l.length<=1000000):aC prog 15 [bO l] (.i (zF l)):=by
 have ha:=Zru l hl;refine cS L15 ?_;unfold zF;by_cases h:50<l.length
 .have h':(50:Int)<(l.length:Int):=by omega
  simp[L15,bO,h,h']
 .have h':¬(50:Int)<(l.length:Int):=by omega
  unfold bO at ha;cases hf:JN l with
  |true=>
   rw[hf]at ha;simp[L15,bO,h,h'];refine gH (k:=4) (fs:=[]) (xs:=[.aF false 1 (l.map .str),.fn 41 [] []]) (cs:=[]) rfl rfl ha rfl ?_;simp
  |false=>
   rw[hf]at ha;simp[L15,bO,h,h'];refine gH (k:=4) (fs:=[]) (xs:=[.aF false 1 (l.map .str),.fn 41 [] []]) (cs:=[]) rfl rfl ha rfl ?_;simp
section
def dg (n:Nat):Nat:=48+n%10
def nC (many i:Int)(n:Nat)(c0 c1 c2 c3 c4:Nat):AS:=
 ⟨[(0,.pv (.i n)),(1,.pv (.i many)),(5,.ptr (.loc 5 0) 0),(6,.pv (.i i))],[(.loc 5 0,.cells [.pv (.int .u8 c0),.pv (.int .u8 c1),.pv (.int .u8 c2),.pv (.int .u8 c3),.pv (.int .u8 c4)])]⟩
attribute [local simp] Qw wr1 Jn wr3 Jm Jl
theorem l9:IntKind.i64.wrap (-1) = -1:=by decide
theorem dq (n:Nat)(hn:n<1000000000000):IntKind.i64.wrap ((n:Int) / 10)=((n / 10:Nat):Int):=by rw[wrap64 (by omega)];omega
theorem dr (n:Nat):IntKind.u8.wrap (IntKind.i64.wrap (48+(n:Int).tmod 10))=((dg n:Nat):Int):=by
 have h:(n:Int).tmod 10=((n%10:Nat):Int):=by rw[Int.tmod_eq_emod_of_nonneg (by omega)];rfl
 rw[h,wrap64 (by omega),show IntKind.u8.wrap (48+((n%10:Nat):Int))=(48+((n%10:Nat):Int))%256 from rfl];unfold dg;omega
theorem ZiT (n:Nat)(hn:n<1000000):aC prog 123 [.i n,.i 3] (.str ⟨#[.ofNat (dg (n / 10 / 10)),.ofNat (dg (n / 10)),.ofNat (dg n)]⟩):=by
 refine cS L123 ?_;simp[L123];refine eP (fun m τ=>(m=3/\τ=nC 3 2 n 0 0 0 0 0)\/(m=2/\τ=nC 3 1 (n / 10) 0 0 (dg n) 0 0)\/(m=1/\τ=nC 3 0 (n / 10 / 10) 0 (dg (n / 10)) (dg n) 0 0)\/(m=0/\τ=nC 3 (-1) (n / 10 / 10 / 10) (dg (n / 10 / 10)) (dg (n / 10)) (dg n) 0 0)) ⟨3,nC 3 2 n 0 0 0 0 0,Sub.mk (by simp[nC]) (by simp[nC]),.inl ⟨rfl,rfl⟩⟩ ?_;rintro J hJ m τ (⟨rfl,rfl⟩|⟨rfl,rfl⟩|⟨rfl,rfl⟩|⟨rfl,rfl⟩)
 .have hj:=hJ 2 _ (.inr (.inl ⟨rfl,rfl⟩));have h1:=dq n (by omega);have h2:=dr n;simp[nC,bV,aN,h1,h2];exact⟨_,_,by decide,Sub.mk (by simp) (by simp),hj⟩
 .have hj:=hJ 1 _ (.inr (.inr (.inl ⟨rfl,rfl⟩)));have h1:=dq (n / 10) (by omega);have h2:=dr (n / 10);generalize n / 10=k at hj h1 h2 ⊢;simp[nC,setAt,bV,aN,h1,h2];exact⟨_,_,by decide,Sub.mk (by simp[nC]) (by simp[nC]),hj⟩
 .have hj:=hJ 0 _ (.inr (.inr (.inr ⟨rfl,rfl⟩)));have h1:=dq (n / 10 / 10) (by omega);have h2:=dr (n / 10 / 10);generalize n / 10 / 10=k at hj h1 h2 ⊢;simp[nC,setAt,bV,aN,h1,h2,l9];exact⟨_,_,by decide,Sub.mk (by simp[nC]) (by simp[nC]),hj⟩
 .simp[nC,setAt,bV,aN,PU,AS.cJ,AV.cJ,AV.aY,aJ.cJ,BC,KJ]
theorem ZoA (n:Nat)(hn:n<1000000):aC prog 123 [.i n,.i 5] (.str ⟨#[.ofNat (dg (n / 10 / 10 / 10 / 10)),.ofNat (dg (n / 10 / 10 / 10)),.ofNat (dg (n / 10 / 10)),.ofNat (dg (n / 10)),.ofNat (dg n)]⟩):=by
 refine cS L123 ?_;simp[L123];refine eP (fun m τ=>(m=5/\τ=nC 5 4 n 0 0 0 0 0)\/(m=4/\τ=nC 5 3 (n / 10) 0 0 0 0 (dg n))\/(m=3/\τ=nC 5 2 (n / 10 / 10) 0 0 0 (dg (n / 10)) (dg n))\/(m=2/\τ=nC 5 1 (n / 10 / 10 / 10) 0 0 (dg (n / 10 / 10)) (dg (n / 10)) (dg n))\/(m=1/\τ=nC 5 0 (n / 10 / 10 / 10 / 10) 0 (dg (n / 10 / 10 / 10)) (dg (n / 10 / 10)) (dg (n / 10)) (dg n))\/(m=0/\τ=nC 5 (-1) (n / 10 / 10 / 10 / 10 / 10) (dg (n / 10 / 10 / 10 / 10)) (dg (n / 10 / 10 / 10)) (dg (n / 10 / 10)) (dg (n / 10)) (dg n))) ⟨5,nC 5 4 n 0 0 0 0 0,Sub.mk (by simp[nC]) (by simp[nC]),.inl ⟨rfl,rfl⟩⟩ ?_;rintro J hJ m τ (⟨rfl,rfl⟩|⟨rfl,rfl⟩|⟨rfl,rfl⟩|⟨rfl,rfl⟩|⟨rfl,rfl⟩|⟨rfl,rfl⟩)
 .have hj:=hJ 4 _ (.inr (.inl ⟨rfl,rfl⟩));have h1:=dq (n) (by omega);have h2:=dr (n);simp[nC,setAt,bV,aN,h1,h2,PU,VG,l9];exact⟨_,_,by decide,Sub.mk (by simp[nC]) (by simp[nC]),hj⟩
 .have hj:=hJ 3 _ (.inr (.inr (.inl ⟨rfl,rfl⟩)));have h1:=dq (n / 10) (by omega);have h2:=dr (n / 10);generalize n / 10=k at hj h1 h2 ⊢;simp[nC,setAt,bV,aN,h1,h2,PU,VG,l9];exact⟨_,_,by decide,Sub.mk (by simp[nC]) (by simp[nC]),hj⟩
 .have hj:=hJ 2 _ (.inr (.inr (.inr (.inl ⟨rfl,rfl⟩))));have h1:=dq (n / 10 / 10) (by omega);have h2:=dr (n / 10 / 10);generalize n / 10 / 10=k at hj h1 h2 ⊢;simp[nC,setAt,bV,aN,h1,h2,PU,VG,l9];exact⟨_,_,by decide,Sub.mk (by simp[nC]) (by simp[nC]),hj⟩
 .have hj:=hJ 1 _ (.inr (.inr (.inr (.inr (.inl ⟨rfl,rfl⟩)))));have h1:=dq (n / 10 / 10 / 10) (by omega);have h2:=dr (n / 10 / 10 / 10);generalize n / 10 / 10 / 10=k at hj h1 h2 ⊢;simp[nC,setAt,bV,aN,h1,h2,PU,VG,l9];exact⟨_,_,by decide,Sub.mk (by simp[nC]) (by simp[nC]),hj⟩
 .have hj:=hJ 0 _ (.inr (.inr (.inr (.inr (.inr (⟨rfl,rfl⟩))))));have h1:=dq (n / 10 / 10 / 10 / 10) (by omega);have h2:=dr (n / 10 / 10 / 10 / 10);generalize n / 10 / 10 / 10 / 10=k at hj h1 h2 ⊢;simp[nC,setAt,bV,aN,h1,h2,PU,VG,l9];exact⟨_,_,by decide,Sub.mk (by simp[nC]) (by simp[nC]),hj⟩
 .simp[nC,setAt,bV,aN,nI5,AS.cJ,AV.cJ,AV.aY,aJ.cJ,BC,KJ]
end
def tG:List UInt8->Nat->Nat
 |[],_=>0
 |b::r,j=>(j+1)*(b.toNat+1)+tG r (j+1)
theorem ZiX {b:UInt8}:∀{l:List UInt8} {j:Nat},tG (l++[b]) j=tG l j+(j+l.length+1)*(b.toNat+1)
 |[],j=>by simp[tG]
 |x::l,j=>by
  simp only[List.cons_append,tG,pI];rw[ZiX (l:=l),show j+1+l.length+1=j+(l.length+1)+1 by omega];omega
theorem ZjW:∀{l:List UInt8} {j:Nat},tG l j<=l.length*((j+l.length)*256)
 |[],j=>by simp[tG]
 |x::l,j=>by
  have ih:=ZjW (l:=l) (j:=j+1);have hx:x.toNat+1<=256:=x.toNat_lt;simp only[tG,pI];have h1:(j+1)*(x.toNat+1)<=(j+(l.length+1))*256:=Nat.mul_le_mul (by omega) hx;have h2:l.length*((j+1+l.length)*256)=l.length*((j+(l.length+1))*256):=by rw[show j+1+l.length=j+(l.length+1) by omega]
  have e:(l.length+1)*((j+(l.length+1))*256)=(j+(l.length+1))*256+l.length*((j+(l.length+1))*256):=by rw[Nat.succ_mul,Nat.add_comm]
  rw[e];exact Nat.add_le_add h1 (lM ih (Nat.le_of_eq h2))
def sC (s:ByteArray)(i:Nat):Nat:=11*(i+1)+tG s.data.toList 0
def uM (n:Nat):ByteArray:=⟨#[.ofNat (dg (n / 10 / 10)),.ofNat (dg (n / 10)),.ofNat (dg n)]⟩
def v7 (n:Nat):ByteArray:=⟨#[.ofNat (dg (n / 10 / 10 / 10 / 10)),.ofNat (dg (n / 10 / 10 / 10)),.ofNat (dg (n / 10 / 10)),.ofNat (dg (n / 10)),.ofNat (dg n)]⟩
def B7 (s:ByteArray)(i:Nat):ByteArray:=⟨#[123]⟩++uM s.size++⟨#[58]⟩++uM (999-s.size)++⟨#[58]⟩++v7 (sC s i%99991)++⟨#[125]⟩++s++⟨#[10]⟩
def ZX (s:ByteArray)(i k:Nat):AS:=⟨[(0,.pv (.str s)),(5,.pv (.i ((11*(i+1)+tG (s.data.toList.take k) 0:Nat):Int))),(12,.pv (.aF false 1 (qN s))),(13,.pv (.i s.size)),(14,.pv (.i (k:Int)))],[]⟩
theorem ZpH (s:ByteArray)(i:Nat)(hs:s.size<=999)(hi:i<=1000):aC prog 78 [.str s,.i i] (.str (B7 s i)):=by
 refine O1 L78 ?_;intro R hR;have fI:s.data.toList.length=s.size:=rfl;have wM:(qN s).length=s.size:=by simp[qN]
 have H0:IntKind.i64.wrap ((i:Int)+1)=(i:Int)+1:=wrap64 (by omega);have qD:IntKind.i64.wrap (11*((i:Int)+1))=11*((i:Int)+1):=wrap64 (by omega);have QP:s.size<=1000000:=by omega
 simp[L78,H0,qD,QP,wM,aN];refine eP (fun m τ=>∃k:Nat,k<=s.size/\m=s.size-k/\τ=ZX s i k) ⟨s.size,ZX s i 0,Sub.mk (by simp[tG]) (by simp),0,gW _,rfl,rfl⟩ ?_;rintro J hJ m τ ⟨k,hk,rfl,rfl⟩;by_cases aI:k<s.size
 .obtain⟨b,hx⟩:∃b,s.data.toList[k]?=some b:=⟨s.data.toList[k]'(by omega),bC _⟩;have hg:(qN s)[k]?=some (.int .u8 b.toNat):=by
   unfold qN;rw[bY,hx];rfl
  have hn:=hJ (s.size-(k+1)) _ ⟨k+1,aI,rfl,rfl⟩;unfold ZX at hn;have jX:s.data.toList.take (k+1)=s.data.toList.take k++[b]:=by rw[mV,hx];rfl
  rw[jX,ZiX,gM,Nat.min_eq_left (by omega)]at hn;have gP:=ZjW (l:=s.data.toList.take k) (j:=0);rw[gM,Nat.min_eq_left (by omega)]at gP;have tE:b.toNat+1<=256:=b.toNat_lt;have RF:k*((0+k)*256)<=999*(999*256):=Nat.mul_le_mul (by omega) (by omega);have WA:(0+k+1)*(b.toNat+1)<=1000*256:=Nat.mul_le_mul (by omega) tE;unfold ZX;generalize tG (s.data.toList.take k) 0=C at hn gP ⊢;have sY:=bK (k:=k) (by omega);have hw3:IntKind.i64.wrap ((b.toNat:Int)+1)=(b.toNat:Int)+1:=wrap64 (by omega);have T7:((k:Int)+1)*((b.toNat:Int)+1)=(((0+k+1)*(b.toNat+1):Nat):Int):=by rw[sF];rfl
  have QH:IntKind.i64.wrap (b.toNat:Int)=b.toNat:=wrap64 (by omega);generalize(0+k+1)*(b.toNat+1)=P at hn WA T7;have Bg:IntKind.i64.wrap (((k:Int)+1)*((b.toNat:Int)+1))=P:=by rw[T7];exact wrap64 (by omega)
  have hw5:IntKind.i64.wrap (11*((i:Int)+1)+(C:Int)+(P:Int))=11*((i:Int)+1)+((C:Int)+(P:Int)):=by rw[wrap64 (by omega)];omega
  simp[aI,↓hg,sY,hw3,Bg,hw5,QH];exact⟨_,_,(by omega:s.size-(k+1)<s.size-k),Sub.mk (by simp) (by simp),hn⟩
 .have he:k=s.size:=by omega
  subst he;have gP:=ZjW (l:=s.data.toList) (j:=0);rw[fI]at gP;have RF:s.size*((0+s.size)*256)<=999*(999*256):=Nat.mul_le_mul (by omega) (by omega);unfold ZX;rw[fQ (by omega)];have h1:aC prog 123 [.i s.size,.i 3] (.str (uM s.size)):=ZiT s.size (by omega);have h2:aC prog 123 [.i ((999-s.size:Nat):Int),.i 3] (.str (uM (999-s.size))):=ZiT (999-s.size) (by omega);have h3:aC prog 123 [.i ((sC s i%99991:Nat):Int),.i 5] (.str (v7 (sC s i%99991))):=ZoA (sC s i%99991) (by omega);have z1:(uM s.size).size=3:=rfl;have z2:(uM (999-s.size)).size=3:=rfl;have z3:(v7 (sC s i%99991)).size=5:=rfl;have nI:B7 s i=⟨#[123]⟩++uM s.size++⟨#[58]⟩++uM (999-s.size)++⟨#[58]⟩++v7 (sC s i%99991)++⟨#[125]⟩++s++⟨#[10]⟩:=rfl;have q1:(⟨#[123]⟩:ByteArray).size=1:=rfl;have q2:(⟨#[58]⟩:ByteArray).size=1:=rfl;have q3:(⟨#[125]⟩:ByteArray).size=1:=rfl;have q4:(⟨#[10]⟩:ByteArray).size=1:=rfl;rw[nI]at hR;have hw6:IntKind.i64.wrap (999-(s.size:Int))=((999-s.size:Nat):Int):=by rw[wrap64 (by omega)];omega
  have tN:(11*(i+1)+tG s.data.toList 0:Nat)=sC s i:=rfl;rw[tN];have JE:sC s i<=1000000000:=by unfold sC;omega
  have yP:(sC s i:Int).tmod 99991=((sC s i%99991:Nat):Int):=by rw[Int.tmod_eq_emod_of_nonneg (by omega)];rfl
  clear nI tN;generalize v7 (sC s i%99991)=D5 at h3 z3 hR;generalize uM s.size=D1 at h1 z1 hR;generalize uM (999-s.size)=D2 at h2 z2 hR;generalize sC s i=C at h3 yP;simp;refine cG [.i s.size,.i 3] h1 ?_;simp[ByteArray.size_append,z1,q1,q2,hw6,aN];refine cG [.i ((999-s.size:Nat):Int),.i 3] h2 ?_;simp[ByteArray.size_append,z1,z2,q1,q2,yP,aN];refine cG [.i ((C%99991:Nat):Int),.i 5] h3 ?_;have qY:15+s.size<=9223372036854775807:=by omega
  have Dp:15+s.size+1<=9223372036854775807:=by omega
  simp[ByteArray.size_append,z1,z2,z3,q1,q2,q3,q4,aN,qY,Dp];rw[<-hR];exact⟨rfl,rfl⟩
theorem Zvl (a b:ByteArray):(a++b).data.toList=a.data.toList++b.data.toList:=by
 rw[ByteArray.data_append,Array.toList_append]
def o0 (s:ByteArray)(i:Nat):List UInt8:=(B7 s i).data.toList
def Vv (s:ByteArray)(i:Nat):List UInt8:=58::((uM (999-s.size)).data.toList++58::((v7 (sC s i%99991)).data.toList++[125]))
theorem Zs0 (s:ByteArray)(i:Nat):o0 s i=123::((uM s.size).data.toList++(Vv s i++(s.data.toList++[10]))):=by
 unfold o0 B7 Vv;simp only[Zvl,I3];rfl
theorem ZtL (s:ByteArray)(i:Nat):(Vv s i).length=11:=rfl
theorem ZkI (s:ByteArray)(i:Nat):(o0 s i).length=16+s.size:=by
 rw[Zs0,pI,gF,gF,ZtL,gF];show 3+(11+(s.size+1))+1=16+s.size;omega
def kH:List ByteArray->Nat->List UInt8
 |[],_=>[]
 |s::r,i=>o0 s i++kH r (i+1)
theorem ZgX {s:ByteArray}:∀{l:List ByteArray} {i:Nat},kH (l++[s]) i=kH l i++o0 s (i+l.length)
 |[],i=>by simp[kH]
 |x::l,i=>by
  simp only[List.cons_append,kH,pI];rw[ZgX (l:=l),I3,show i+1+l.length=i+(l.length+1) by omega]
structure Wk where
 aA:List Ct
 bad:List Int
 aM:List Lt
 aG:List Tt
 runs:List Qn.Rq
def Wk.box (w:Wk):aJ:=aP (aK w.aA) (bJ w.bad) (aV w.aM) (bI w.aG) (dV w.runs)
def kA:Wk:=⟨[],[],[],[],[]⟩
def Gd (I:Nat->Wk->Prop)(D:Wk->ByteArray->Wk×Int):Prop:=∀k st s,k<150->I k st->s.size<=200->I (k+1) (D st s).1/\cU prog 43 [.ptr (.par 0) 0,.pv (.str s)] [(.par 0,st.box)] (fun r B=>r=.pv (.i (D st s).2)/\B=[(.par 0,(D st s).1.box)])
def cR (D:Wk->ByteArray->Wk×Int):Wk->List ByteArray->Wk×List Int
 |st,[]=>(st,[])
 |st,s::l=>((cR D (D st s).1 l).1,(D st s).2::(cR D (D st s).1 l).2)
theorem ZeI {D:Wk->ByteArray->Wk×Int}{s:ByteArray}:∀{l:List ByteArray} {st:Wk},cR D st (l++[s])=((D (cR D st l).1 s).1,(cR D st l).2++[(D (cR D st l).1 s).2])
 |[],st=>rfl
 |x::l,st=>by
  simp only[List.cons_append,cR];rw[ZeI (l:=l)]
theorem Qe {D:Wk->ByteArray->Wk×Int}:∀{l:List ByteArray} {st:Wk},(cR D st l).2.length=l.length
 |[],st=>rfl
 |x::l,st=>by simp only[cR,pI,Qe (l:=l)]
theorem Il {D:Wk->ByteArray->Wk×Int}{I:Nat->Wk->Prop}(hN:Gd I D):∀{l:List ByteArray} {k:Nat} {st:Wk},k+l.length<=150->I k st->(∀s∈l,s.size<=200)->I (k+l.length) (cR D st l).1
 |[],k,st,_,h,_=>h
 |x::l,k,st,hk,h,hl=>by
  rw[pI]at hk
  have:=Il hN (l:=l) (k:=k+1) (by omega) (hN k st x (by omega) h (hl x (List.mem_cons_self ..))).1 (fun s hs=>hl s (List.mem_cons_of_mem _ hs))
  rw[show k+1+l.length=k+(x::l).length by rw[pI];omega]at this;exact this
def iE (n:Int):PV:=.i n
def HN (L:List ByteArray)(W:aJ)(es:List Int)(k:Nat):AS:=
 ⟨[(4,.ptr (.loc 9 0) 0),(5,.vec (.loc 21 0) 1 0 es.length),(10,.pv (.aF false 1 (L.map .str))),(11,.pv (.i L.length)),(12,.pv (.i (k:Int)))],
  [(.loc 9 0,W),(.loc 21 0,.arr 25 1 (es.map iE))]⟩
theorem GP (k:Nat):AV.Wk (.pv (.emp (some true))) (.pv (.aF false k [])):=LR fun m v h=>BF h
theorem Zk {I:Nat->Wk->Prop}{D:Wk->ByteArray->Wk×Int}(hN:Gd I D)(h0:I 0 kA)(L:List ByteArray)(hl:L.length<=150)(hs:∀s∈L,s.size<=200):
  cU prog 16 [.pv (bO L)] [] (fun r B=>r=.bN [.ptr (.ret 0) 0,.vec (.ret 1) 1 0 L.length]/\B=[(.ret 0,(cR D kA L).1.box),(.ret 1,.arr 25 1 ((cR D kA L).2.map iE))]):=by
 refine O2 [.loc 9 0,.loc 21 0] L16 ?_;intro R hR;simp[L16,bO];refine eP (fun m τ=>∃k:Nat,k<=L.length/\m=L.length-k/\τ=HN L (cR D kA (L.take k)).1.box (cR D kA (L.take k)).2 k) ⟨L.length,HN L kA.box [] 0,?_,0,gW _,rfl,rfl⟩ ?_
 .refine Sub.trans' ?_ (cW 21 25 1 5 rfl (by decide));refine Sub.trans' ?_ (Sub.aX (s:=.loc 9 0) (i:=0) _ rfl rfl (GP 7));refine Sub.trans' ?_ (Sub.aX (s:=.loc 9 0) (i:=1) _ rfl rfl (GP 1));refine Sub.trans' ?_ (Sub.aX (s:=.loc 9 0) (i:=2) _ rfl rfl (GP 4));refine Sub.trans' ?_ (Sub.aX (s:=.loc 9 0) (i:=3) _ rfl rfl (GP 4));refine Sub.trans' ?_ (Sub.aX (s:=.loc 9 0) (i:=4) _ rfl rfl (GP 3));exact Sub.mk (by simp[AS.cW]) (by simp[AS.cW,Wk.box,kA,aP,aK,bJ,aV,bI,dV])
 rintro J hJ m τ ⟨k,hk,rfl,rfl⟩;have qI:=Qe (D:=D) (l:=L.take k) (st:=kA);rw[gM,Nat.min_eq_left hk]at qI;by_cases aI:k<L.length
 .obtain⟨s,hx⟩:∃s,L[k]?=some s:=⟨L[k],bC aI⟩;have gU:s∈L:=dL hx;have hg:(L.map PV.str)[k]?=some (.str s):=by rw[bY,hx];rfl
  have jX:L.take (k+1)=L.take k++[s]:=by rw[mV,hx];rfl
  have hinv:=Il hN (l:=L.take k) (st:=kA) (by rw[gM];omega) h0 (fun s Z6=>hs s (List.mem_of_mem_take Z6));have hn:=hJ (L.length-(k+1)) _ ⟨k+1,aI,rfl,rfl⟩;rw[jX,ZeI]at hn;have hc:=(hN _ _ s (by rw[gM];omega) hinv (hs s gU)).2;have hw:=bK (k:=k) (by omega);have h1:(cR D kA (L.take k)).2.length+1<=1000000:=by omega
  have aH:L.length-(k+1)<L.length-k:=by omega
  generalize cR D kA (L.take k)=q at hn hc h1 ⊢;obtain⟨st,es⟩:=q;dsimp only at hn hc h1 ⊢;generalize D st s=q' at hn hc;obtain⟨st',e⟩:=q';dsimp only at hn hc;simp[HN,aI,↓hg,Wk.box,aP];refine cM [.ptr (.par 0) 0,.pv (.str s)] [(.par 0,st.box)] 19 [.loc 9 0] (by simp[Wk.box,aP]) hc (by simp[Wk.box,aP]) ?_;simp[Wk.box,aP,h1,aN,hw];exact⟨_,_,aH,Sub.mk (by simp) (by simp[Wk.box,aP,iE]),hn⟩
 .have he:k=L.length:=by omega
  subst he;rw[nD]at qI ⊢;simp[HN,Wk.box,aP,qI];rw[<-hR];exact⟨rfl,by simp[Wk.box,aP]⟩
theorem Hu {f:FuncId}{n:Nat}(e b:Nat)(l:List PV)(hl:l.length<=1000000)(hL:fV prog f=some (VM e n b):=by kernel_rfl)(hb:b<=1000:=by decide)(hn:0<n:=by decide):aC prog f [.aF false n l] (.aF false n l):=by
 cases l with
 |nil=>
  refine cU.j5 ?_;refine Qi [.loc 7 0] mixed hL (tR rfl) ?_;simp[VM,dI,y8,aN,cC,B9,hn,hb];exact fun m v h=>BF h
 |cons a l=>
  refine Qi [.loc 7 0] mixed hL (tR rfl) ?_;have h1:l.length+1<=1000000:=by simpa using hl
  have h2:l.length<=999999:=by omega
  have hm:List.take l.length l=l:=fQ (fH _);simp[VM,dI,aN,h2,hm,hn,hb]
theorem ZjN (l:List PV)(hl:l.length<=1000000):aC prog 51 [.aF false 1 l] (.aF false 1 l):=Hu 3 8 l hl
theorem Zmc (l:List PV)(hl:l.length<=1000000):aC prog 54 [.aF false 7 l] (.aF false 7 l):=Hu 131 56 l hl
theorem Zmb (l:List PV)(hl:l.length<=1000000):aC prog 73 [.aF false 4 l] (.aF false 4 l):=Hu 62 32 l hl
theorem Zma (l:List PV)(hl:l.length<=1000000):aC prog 74 [.aF false 4 l] (.aF false 4 l):=Hu 107 32 l hl
theorem Zmd (l:List PV)(hl:l.length<=1000000):aC prog 72 [.aF false 1 l] (.aF false 1 l):=Hu 4 1 l hl
def Wk.pv (w:Wk):PV:=.agg [aK w.aA,bJ w.bad,aV w.aM,bI w.aG,dV w.runs]
def Fa (w:Wk)(k:Nat):AS:=
 ⟨[(1,.ptr (.loc 1 0) 0),(2,.ptr (.loc 2 0) 0),(3,.vec (.loc 23 0) 3 0 k),(7,.pv (.aF false 3 (w.runs.map Qn.Rq.pv))),(8,.pv (.i w.runs.length)),(9,.pv (.i (k:Int)))],
  [(.loc 1 0,.cells [.pv (aK w.aA),.pv (bJ w.bad),.pv (aV w.aM),.pv (bI w.aG),.pv (dV w.runs)]),(.loc 2 0,.cells [.pv (.emp (some true)),.pv (.emp (some true)),.pv (.emp (some true)),.pv (.emp (some true)),.pv (.emp (some true))]),(.loc 23 0,.arr 169 3 ((w.runs.take k).map Qn.Rq.pv))]⟩
theorem ZqJ (w:Wk)(h1:w.aA.length<=1000)(h2:w.bad.length<=1000)(h3:w.aM.length<=1000)(h4:w.aG.length<=1000)(h5:w.runs.length<=1000)(h6:∀r∈w.runs,r.on.length<=1000):aC prog 36 [w.pv] w.pv:=by
 refine Q6 [.loc 23 0] L36 ?_;intro R hR;simp[L36,Wk.pv,dV];refine eP (fun m τ=>∃k:Nat,k<=w.runs.length/\m=w.runs.length-k/\τ=Fa w k) ⟨w.runs.length,Fa w 0,Sub.trans' (Sub.mk (by simp[AS.cW]) (by simp[AS.cW,dV])) (cW 23 169 3 3 rfl (by decide)),0,gW _,rfl,rfl⟩ ?_;rintro J hJ m τ ⟨k,hk,rfl,rfl⟩;by_cases aI:k<w.runs.length
 .obtain⟨r,hx⟩:∃r,w.runs[k]?=some r:=⟨w.runs[k],bC aI⟩;have hg:(w.runs.map Qn.Rq.pv)[k]?=some r.pv:=by rw[bY,hx];rfl
  simp only[Qn.Rq.pv,Qn.PN]at hg;have Z8:=h6 r (dL hx);have hw:=bK (k:=k) (by omega);have iC:k+1<=1000000:=by omega
  have RA:min k w.runs.length=k:=Nat.min_eq_left (by omega);have hn:=hJ (w.runs.length-(k+1)) _ ⟨k+1,aI,rfl,rfl⟩;unfold Fa at hn;rw[mV,hx,mL]at hn;simp[Fa,aI,↓hg,aN];refine cQ [] [.aF false 1 (r.on.map .bool)] (Zmd (r.on.map .bool) (by rw[fZ];omega)) ?_;simp[-List.map_take,aL,aN,iC,RA,hw];exact⟨_,_,(by omega:w.runs.length-(k+1)<w.runs.length-k),Sub.mk (by simp) (by simp[Qn.Rq.pv,Qn.PN]),hn⟩
 .have he:k=w.runs.length:=by omega
  subst he;have jX:w.runs.take w.runs.length=w.runs:=nD;simp[Fa,jX,aK];refine cQ [] [.aF false 7 (w.aA.map Ct.pv)] (Zmc (w.aA.map Ct.pv) (by rw[fZ];omega)) ?_;simp[aL,bJ];refine cQ [] [.aF false 1 (w.bad.map iP)] (ZjN (w.bad.map iP) (by rw[fZ];omega)) ?_;simp[aL,aV];refine cQ [] [.aF false 4 (w.aM.map Lt.pv)] (Zmb (w.aM.map Lt.pv) (by rw[fZ];omega)) ?_;simp[aL,bI];refine .inl (cP [.loc 23 0] [.aF false 4 (w.aG.map Tt.pv)] (by simp) (by simp[aL,AS.cJ,AV.cJ,AV.aY,aJ.cJ]) (Zma (w.aG.map Tt.pv) (by rw[fZ];omega)) ?_);have htr:List.take w.runs.length (w.runs.map Qn.Rq.pv)=w.runs.map Qn.Rq.pv:=fQ (by simp);simp[-List.map_take,aL,AS.cJ,AV.cJ,AV.aY,aJ.cJ,AS.tidy,htr,oL,aY];rw[<-hR];exact⟨by simp[Wk.pv,aK,bJ,aV,bI,dV],by simp⟩
structure G1 (w:Wk):Prop where
 c:w.aA.length<=1000
 b:w.bad.length<=1000
 l:w.aM.length<=900
 t:w.aG.length<=900
 r:w.runs.length<=1000
 lt:∀x∈w.aM,wA x
 fit:zJ w.aA w.bad w.aG
 on:∀r∈w.runs,r.on.length<=1000
theorem Og {l:List ByteArray}(h:zF l=0):l.length<=50/\∀s∈l,s.size<=200:=by
 unfold zF at h;split at h
 .cases h
 .split at h
  .rename_i h1 h2;refine⟨by omega,fun s hs=>?_⟩
   have:=rM.1 h2 s hs
   simpa using this
  .cases h
theorem Oh {l:List ByteArray}(h:zF l≠0):zF l=3:=by
 unfold zF at h ⊢;split
 .rfl
 .split
  .rename_i h1 h2;rw[if_neg h1,if_pos h2]at h;exact absurd rfl h
  .rfl
def CC (D:Wk->ByteArray->Wk×Int)(L:List ByteArray):PV:=if zF L=0 then .bN [(cR D kA L).1.pv,.aF false 1 ((cR D kA L).2.map iE),.i 0]else .bN [kA.pv,.aF false 1 [],.i 3]
theorem Zvs {I:Nat->Wk->Prop}{D:Wk->ByteArray->Wk×Int}(hN:Gd I D)(h0:I 0 kA)(hI:∀k w,k<=50->I k w->G1 w)(L:List ByteArray)(hl:L.length<=1000000):aC prog 10 [bO L] (CC D L):=by
 have sQ:=XU L hl;refine cU.j5 ?_;refine Q6 [.loc 15 1] L10 ?_;intro R hR;unfold CC at hR;by_cases hc:zF L=0
 .obtain⟨Ks,rI⟩:=Og hc;rw[hc]at sQ;have H2:=Zk hN h0 L (by omega) rI;have dD:=hI _ _ (by omega) (Il hN (l:=L) (by omega) h0 rI);have qI:=Qe (D:=D) (l:=L) (st:=kA);rw[if_pos hc]at hR;generalize cR D kA L=q at H2 dD qI hR;obtain⟨w,es⟩:=q;dsimp only at H2 dD qI hR;have mD:=ZqJ w dD.c dD.b (by have:=dD.l;omega) (by have:=dD.t;omega) dD.r dD.on;simp[L10];refine cG [bO L] sQ ?_;simp;refine .inl (R8 [] (fs:=[]) (xs:=[bO L]) (cs:=[]) (d:=15) rfl rfl H2 ?_);rintro r B ⟨rfl,rfl⟩;refine⟨by simp[Wk.box,aP],?_⟩;simp[Wk.box,aP];have hm:List.take L.length (es.map iE)=es.map iE:=fQ (by rw[fZ];omega);have hle:L.length<=es.length:=by omega
  refine .inl (cP [.loc 15 1] [w.pv] (by simp) (by simp[Wk.pv]) mD ?_);simp[Wk.pv,hm,hle];rw[<-hR];exact⟨_,rfl,by simp,fun m v h=>h⟩
 .have h3:=Oh hc;rw[h3]at sQ;rw[if_neg hc]at hR;simp[L10];refine cG [bO L] sQ ?_;simp;rw[<-hR];exact⟨_,rfl,rfl,LG 5 _ _ rfl⟩
def bA (l:List UInt8):ByteArray:=⟨l.toArray⟩
def bP (l:List UInt8):List PV:=l.map fun b=>.int .u8 b.toNat
theorem Mb {l:List UInt8}:(bP l).length=l.length:=fZ _
theorem Zvn {a b:List UInt8}:bP (a++b)=bP a++bP b:=mL
theorem Zlm:∀{l:List ByteArray} {i:Nat},(∀s∈l,s.size<=200)->(kH l i).length<=216*l.length
 |[],i,_=>by simp[kH]
 |s::l,i,h=>by
  have h1:=Zlm (l:=l) (i:=i+1) (fun s hs=>h s (List.mem_cons_of_mem _ hs));have h2:=h s (List.mem_cons_self ..);simp only[kH,gF,ZkI,pI];omega
def Eo (L:List ByteArray)(F:List UInt8)(k:Nat):AS:=
 ⟨[(3,.vec (.loc 17 0) 1 0 F.length),(6,.pv (.aF false 1 (L.map .str))),(7,.pv (.i L.length)),(8,.pv (.i (k:Int)))],[(.loc 17 0,.arr 5 1 (bP F))]⟩
theorem Zu9 (L:List ByteArray)(hl:L.length<=1000)(hs:∀s∈L,s.size<=200):aC prog 40 [bO L] (.aF false 1 (bP (kH L 0))):=by
 refine Q6 [.loc 17 0] L40 ?_;intro R hR;simp[L40,bO];refine eP (fun m τ=>∃k:Nat,k<=L.length/\m=L.length-k/\τ=Eo L (kH (L.take k) 0) k) ⟨L.length,Eo L [] 0,Sub.trans' (Sub.mk (by simp[AS.cW]) (by simp[AS.cW,bP])) (cW 17 5 1 3 rfl (by decide)),0,gW _,rfl,rfl⟩ ?_;rintro J hJ m τ ⟨k,hk,rfl,rfl⟩;by_cases aI:k<L.length
 .obtain⟨s,hx⟩:∃s,L[k]?=some s:=⟨L[k],bC aI⟩;have fI:=hs s (dL hx);have hg:(L.map PV.str)[k]?=some (.str s):=by rw[bY,hx];rfl
  have jX:L.take (k+1)=L.take k++[s]:=by rw[mV,hx];rfl
  have hn:=hJ (L.length-(k+1)) _ ⟨k+1,aI,rfl,rfl⟩;have qI:=Zlm (l:=L.take k) (i:=0) (fun s Z6=>hs s (List.mem_of_mem_take Z6));have mO:=ZpH s k (by omega) (by omega);have uF:=ZkI s k;rw[jX,ZgX,gM,Nat.min_eq_left hk,sF]at hn;rw[gM,Nat.min_eq_left hk]at qI;unfold o0 at hn uF;unfold Eo at hn;rw[Zvn,gF]at hn;have Dm:bP (B7 s k).data.toList=qN (B7 s k):=rfl;have wM:(qN (B7 s k)).length=(B7 s k).data.toList.length:=Mb;rw[Dm,<-wM]at hn;rw[<-wM]at uF;generalize kH (L.take k) 0=F at hn qI ⊢;clear Dm wM;generalize B7 s k=R at hn uF mO;have hw:=bK (k:=k) (by omega);have aH:L.length-(k+1)<L.length-k:=by omega
  have h1:F.length+(qN R).length<=1000000:=by omega
  simp[Eo,aI,↓hg];refine cG [.str s,.i k] mO ?_;simp[Mb,h1,hw,aN];exact⟨_,_,aH,Sub.mk (by simp) (by simp),hn⟩
 .have he:k=L.length:=by omega
  subst he;rw[nD];have hm:List.take (kH L 0).length (bP (kH L 0))=bP (kH L 0):=fQ (by rw[Mb];exact fH _);simp[Eo,hm,Mb];rw[<-hR];exact⟨rfl,by simp⟩
def HE (L:List ByteArray):PV:=if zF L=0 then .bN [.aF false 1 (bP (kH L 0)),.i 0]else .bN [.aF false 1 [],.i 3]
theorem Zup (L:List ByteArray)(hl:L.length<=1000000):aC prog 13 [bO L] (HE L):=by
 have sQ:=XU L hl;refine cU.j5 ?_;refine Q6 [] L13 ?_;intro R hR;unfold HE at hR;by_cases hc:zF L=0
 .obtain⟨Ks,rI⟩:=Og hc;rw[hc]at sQ;rw[if_pos hc]at hR;have hf:=Zu9 L (by omega) rI;simp[L13];refine cG [bO L] sQ ?_;simp;refine .inl (cQ [] [bO L] hf ?_);simp;rw[<-hR];exact⟨_,rfl,by simp,fun m v h=>h⟩
 .have h3:=Oh hc;rw[h3]at sQ;rw[if_neg hc]at hR;simp[L13];refine cG [bO L] sQ ?_;simp;rw[<-hR];exact⟨_,rfl,rfl,LG 5 _ _ rfl⟩
section
open Go.RowKit Go.ChangeShapes Go.WideShapes Go.ChangeAt Go.Deep
section
variable {H:Type}{enc:TypeId×Value->H}{W:World}{sp:Nat->Bool}{held:Bool}{r:Reach}{base:Nat}
theorem Xs:prog.cellsOf 9=1:=by kernel_rfl
theorem ZsY {v:Value}{fuel:Nat}{x:DataW H×List MemPlace}(dD:Value.okWide prog W r base 22 v)(h:DataW.trod enc prog W 0 sp held fuel 22 v.cells.toList=some x):
  ∃L:List ByteArray,L.length<=9223372036854775807/\dH W.mem v (bO L):=by
 obtain⟨_,_,_,rfl⟩:=okWide_slice underlying22 dD;obtain⟨l,_,h1,h2⟩:=Znm (n:=1) PV.str (fun _=>True) underlying22 Xs (by omega) h (fun k cs y hy hl=>by
  obtain⟨s,rfl,_,_⟩:=DataW.trod_string underlying9 hy;exact⟨s,trivial,rfl,rfl,fun d hd=>by simp at hd;subst hd;rfl,fun j d c h1 h2=>by
   match j,h1,h2 with
   |0,h1,h2=>cases h1;cases h2;exact .str _⟩)
 exact⟨l,h1,h2⟩
end
theorem Zh8 {W:World}{n:String}{g:Nat}{d:DataW Unit}{s:String}{x:DataW Unit}(hg:prog.globalNamed n=some g)(hy:(prog.globals[g]?).map (·.type)=some 55)(hd:d=.iface s x)(h:Lib.VarReads prog W n d):∃t p,W.mem g 0=some (.iface t p):=by
 subst hd;obtain⟨g',t,cs,fuel,p,Vo,VU,T5,hd⟩:=h;obtain rfl:=Option.some.inj (hg.symm.trans Vo);obtain rfl:=Option.some.inj (hy.symm.trans VU);obtain⟨f1,u,v,FX,_,_⟩:=iface_of_trod underlying55 hd
 have:=World.var?_cell hg T5 0
 rw[<-O7,FX]at this;exact⟨u,v,this⟩
theorem Zsl {W : World} (h : Lib.VarReads prog W "internal/strconv.uint64pow10" Rows.laid_internal_strconv_uint64pow10) : ∃ t fr, W.heap[0]? = some (.cells (Lib.pow10Tab.map (Value.int .u64)).toArray t fr) := by
 have e:(Rows.laid_internal_strconv_uint64pow10:DataW Unit)=Lib.tabData .u64 Lib.pow10Tab:=by rfl
 rw[e]at h;obtain⟨g,t,cs,fuel,p,hg,VU,T5,hd⟩:=h;obtain rfl := Option.some.inj ((show prog.globalNamed "internal/strconv.uint64pow10" = some 0 by kernel_rfl).symm.trans hg);obtain rfl:=Option.some.inj ((show(prog.globals[0]?).map (·.type)=some 339 by kernel_rfl).symm.trans VU);have FX:=Lib.cells_of_tab underlying339 underlying291 (by kernel_rfl) (by kernel_rfl) hd;unfold World.var? at T5;rw[hg,Option.bind_some]at T5;split at T5
 .rename_i iM t fr hh;obtain rfl:=Option.some.inj T5;exact⟨t,fr,by rw[hh,<-FX]⟩
 .cases T5
theorem ZtQ {W : World} (hs : W.ShapedOpen prog) (h5 : Lib.VarReads prog W "internal/strconv.uint64pow10" Rows.laid_internal_strconv_uint64pow10) (h1 : Lib.VarReads prog W "strconv.ErrSyntax" Rows.laid_strconv_ErrSyntax) (h2 : Lib.VarReads prog W "strconv.ErrRange" Rows.laid_strconv_ErrRange) : nP W.mem W := by
 have h5:=Zsl h5;refine⟨Proofs.cell_of_shapedOpen_int (zero:=#[.i 0]) (t:=3) hs (of_decide_eq_true (by kernel_rfl)) (by kernel_rfl) rfl (by kernel_rfl) (by kernel_rfl) underlying3,
  Zh8 (n := "strconv.ErrSyntax") (by kernel_rfl) (by kernel_rfl) rfl h1,
  Zh8 (n := "strconv.ErrRange") (by kernel_rfl) (by kernel_rfl) rfl h2, ?_, h5⟩
 obtain⟨t,fr,h⟩:=h5;exact⟨_,(cell_of_row W _ 0 _ _ _ h).trans rfl⟩
end
section
open Go.RowKit Go.ChangeShapes Go.WideShapes Go.ChangeAt Go.Deep
theorem own:ownKnob prog.godebug=none:=by kernel_rfl
theorem MQ:laidOutB prog=true:=by kernel_rfl
theorem ZrD:mapsRowed prog=true:=by kernel_rfl
theorem En:((List.range prog.types.size).all fun t=>match prog.underlying t with|some (.slice e)=>decide (0<prog.cellsOf e)|_=>true)=true:=by kernel_rfl
theorem ZjH {H:Type}{enc:TypeId×Value->H}{a:Assume}{C:Checked}{os:Os}{f:FuncId}{fn:Func}{s:ChangeSpec}{conds:List PathCond}{apart fresh handsOn again:Bool}{X:World->Array Value->Prop}
  (hX:∀(w w':World) (args:Array Value),w.heap=w'.heap->X w args->X w' args)
  (own:ownKnob C.prog.godebug=none) (started:os.Started) (PS:C.prog.inits.idxOf? f=none) (qH:C.prog.funcs[f]?=some fn)
  (witness:∃(w:World) (tape:Tape) (i:Input),w.os=os/\(w.forCall tape i).Shaped C.prog/\i.vars=[]/\Input.okWide C.prog (w.forCall tape i) .any w.heap.size f i/\
   ((s.pre enc C.prog fn conds apart (w.forCall tape i).memory i.args/\X (w.forCall tape i).memory i.args)/\sizedMet enc C.prog fn (OpenSpec.ofChange s) apart (w.forCall tape i).memory i.args)/\a.holds C.prog (lone (Frame.enter C.prog f i.args .normal) [] (w.forCall tape i)))
  (EE:∀(W:World) (base:Nat) (args:Array Value) (ds gs:List (DataW H)) (before:List MemPlace),
   (∀(j:Nat) t v,fn.params[j]?=some t->args[j]?=some v->Value.okWide C.prog W .any base t v)->
   DataW.Whole enc C.prog fn.params.toList s.vars apart W args.toList ds gs before->X W args->W.ShapedOpen C.prog->
   Calls C.prog f args W fun e W'=>∃v,e=.returned v/\s.post enc C.prog fn apart fresh handsOn again W args v W'):
  ReturnsInHanded a C os f .any (fun w args=>(s.pre enc C.prog fn conds apart w args/\X w args)/\sizedMet enc C.prog fn (OpenSpec.ofChange s) apart w args) (s.post enc C.prog fn apart fresh handsOn again):=by
 refine returnsInHanded_of_calls own started PS witness ?_;intro w tape i _ IJ _ dD Tw _;obtain⟨_,_,_,fn',Vq,_,_,_,_,oA⟩:=dD;have e:fn'=fn:=Option.some.inj (Vq.symm.trans qH);subst e;obtain⟨⟨⟨ds,gs,before,hw,_⟩,hx⟩,_⟩:=Tw;have IB:=DataW.Whole.of_heap (w':=w.forCall tape i) (by rfl) hw;refine(EE (w.forCall tape i) w.heap.size i.args ds gs before oA IB (hX _ _ _ (by rfl) hx) IJ).mono fun e W' ⟨v,he,hp⟩=>?_
 subst he;exact ChangeSpec.post_blind hp
end
theorem Zvc (u:Nat):u<10^(Lib.decDigits u).length:=by
 induction u using Nat.strongRecOn with
 |_ u ih=>
  unfold Lib.decDigits;split
  .simp;omega
  .have:=ih (u / 10) (by omega)
   rw[gF,List.length_singleton,Nat.pow_succ];omega
theorem Lx (u:Nat):∀c∈Lib.decDigits u,c≠45:=by
 have hd:∀d:Fin 10,UInt8.ofNat (48+d.1)≠45:=by decide
 induction u using Nat.strongRecOn with
 |_ u ih=>
  intro c hc;unfold Lib.decDigits at hc;split at hc
  .rename_i h;rw[sG]at hc;subst hc;exact hd ⟨u,h⟩
  .rcases sS.1 hc with h|h
   .exact ih (u / 10) (by omega) c h
   .rw[sG]at h;subst h;exact hd ⟨u%10,by omega⟩
theorem ZiU (u:Nat)(h:(Lib.decDigits u).length<=9):u<1000000000:=
 Nat.lt_of_lt_of_le (Zvc u) (Nat.pow_le_pow_right (by decide) h)
theorem Ztc {s:ByteArray}{v:Int}(h:lO s=some v):-1000000000<v/\v<1000000000:=by
 unfold lO at h;split at h
 .split at h
  .rename_i u _ hc;cases h;obtain⟨h1,h2⟩:=hc;subst h1;have h3:(Lib.trimPrefix (Lib.itoa v) [45]).length<=9:=h2;by_cases Uh:v<0
   .obtain⟨k,rfl⟩:∃k:Nat,v = -(k:Int):=⟨v.natAbs,by omega⟩;rw[Lib.itoa_neg k (by omega)]at h3;have h4:Lib.trimPrefix (45::Lib.decDigits k) [45]=Lib.decDigits k:=by simp[Lib.trimPrefix,Lib.hasPrefix]
    rw[h4]at h3
    have:=ZiU k h3
    omega
   .obtain⟨k,rfl⟩:∃k:Nat,v=(k:Int):=⟨v.toNat,by omega⟩;rw[Lib.itoa_nonneg]at h3;have h4:Lib.trimPrefix (Lib.decDigits k) [45]=Lib.decDigits k:=by
     have mP:=Lx k;cases hd:Lib.decDigits k with
     |nil=>rfl
     |cons c r=>
      have hc:c≠45:=mP c (by rw[hd];exact List.mem_cons_self ..);simp[Lib.trimPrefix,Lib.hasPrefix]
      try exact fun e=>absurd e.symm hc
    rw[h4]at h3
    have:=ZiU k h3
    omega
  .cases h
 .cases h
def isRec (w:Wk)(x:Lt):Bool:=x.passed&&!decide (bZ w.aA w.bad w.aG x=1)
def PY (w:Wk)(n:Int)(t:Tt):Bool:=stM w.aA w.bad t.item t.day&&!stM w.aA (w.bad++[n]) t.item t.day
def W9 (w:Wk)(n:Int):Nat->List Int
 |0=>[]
 |k+1=>W9 w n k++(match w.aG[k]? with
  |some t=>if PY w n t=true then[(k:Int)]else[]
  |none=>[])
theorem Zpa {w:Wk}{n:Int}{k:Nat}{t:Tt}(h:w.aG[k]?=some t):W9 w n (k+1)=W9 w n k++(if PY w n t=true then[(k:Int)]else[]):=by
 rw[W9,h]
theorem Zmu {w:Wk}{n:Int}:∀{k:Nat},(W9 w n k).length<=k
 |0=>fH _
 |k+1=>by
  have ih:=Zmu (w:=w) (n:=n) (k:=k);rw[W9,gF];split
  .split<;>simp<;>omega
  .simp;omega
def kn (w:Wk)(n:Int):Bool:=w.aA.any fun x=>decide (x.num=n)
def BO (D:Wk->ByteArray->Wk×Int)(L:List ByteArray)(n:Int):PV:=if zF L=0 then(if kn (cR D kA L).1 n=true then .bN [.aF false 1 ((W9 (cR D kA L).1 n (cR D kA L).1.aG.length).map iP),.i 0]else .bN [.aF false 1 [],.i 7])else .bN [.aF false 1 [],.i 3]
def PX (w:Wk)(n:Int):aJ:=aP (aK w.aA) (bJ (w.bad++[n])) (aV w.aM) (bI w.aG) (dV w.runs)
def Jp (w:Wk)(n:Int)(l:List Int)(k:Nat):AS:=
 ⟨[(7,.ptr (.loc 20 0) 0),(9,.ptr (.loc 32 0) 0),(10,.vec (.loc 67 0) 1 0 l.length),(48,.pv (.aF false 4 (w.aG.map Tt.pv))),(49,.pv (.i w.aG.length)),(50,.pv (.i (k:Int)))],
  [(.loc 20 0,w.box),(.loc 32 0,PX w n),(.loc 67 0,.arr 3 1 (l.map iP))]⟩
theorem Zkc {I:Nat->Wk->Prop}{D:Wk->ByteArray->Wk×Int}(hN:Gd I D)(h0:I 0 kA)(hI:∀k w,k<=50->I k w->G1 w)(L:List ByteArray)(hl:L.length<=1000000)(n:Int)(hb9:∀k w,k<=50->I k w->w.bad.length<=900):aC prog 12 [bO L,.i n] (BO D L n):=by
 have sQ:=XU L hl;refine cU.j5 ?_;refine Q6 [.loc 67 0] L12 ?_;intro R hR;unfold BO at hR;by_cases hc:zF L=0
 .obtain⟨Ks,rI⟩:=Og hc;rw[hc]at sQ;have H2:=Zk hN h0 L (by omega) rI;have gB:=Il hN (l:=L) (by omega) h0 rI;have dD:=hI _ _ (by omega) gB;have We:=hb9 _ _ (by omega) gB;clear gB;rw[if_pos hc]at hR;generalize cR D kA L=q at H2 dD hR We;obtain⟨w,es⟩:=q;dsimp only at H2 dD hR We;have hto:=dD.t;have N4:=ZjA w.aA n (bJ w.bad) (aV w.aM) (bI w.aG) (dV w.runs) dD.c;have mC:(w.aA.any fun x=>decide (x.num=n))=kn w n:=rfl;rw[mC]at N4;clear mC;simp[L12];refine cG [bO L] sQ ?_;simp;refine .inl (R8 [] (fs:=[]) (xs:=[bO L]) (cs:=[]) (d:=20) rfl rfl H2 ?_);rintro r B ⟨rfl,rfl⟩;refine⟨by simp[Wk.box,aP],?_⟩;simp[Wk.box,aP];refine cM [.ptr (.par 0) 0,.pv (.i n)] [(.par 0,aP (aK w.aA) (bJ w.bad) (aV w.aM) (bI w.aG) (dV w.runs))] 25 [.loc 20 0] (by simp[aP]) N4 (by simp[aP]) ?_;cases hkv:kn w n with
  |false=>
   rw[hkv,if_neg (by simp)]at hR;simp[aP];rw[<-hR];exact⟨_,rfl,by simp,LG 5 _ _ rfl⟩
  |true=>
  rw[hkv,if_pos rfl]at hR;simp[aP,bJ];refine .inl (cQ [] [.aF false 1 (w.bad.map iP),.i n] (Zmg (w.bad.map iP) n (by rw[fZ];omega)) ?_);have H7:w.bad.map iP++[.i n]=(w.bad++[n]).map iP:=by rw[mL];rfl
  rw[H7];have EA:(w.bad++[n]).length<=1000:=by rw[gF];simp;omega
  simp[-List.map_append,bI];refine eP (fun m τ=>∃k:Nat,k<=w.aG.length/\m=w.aG.length-k/\τ=Jp w n (W9 w n k) k) ⟨w.aG.length,Jp w n [] 0,Sub.trans' (Sub.mk (by simp[AS.cW]) (by simp[-List.map_append,PX,AS.cW,Wk.box,aP,bI,bJ,aK])) (cW 67 3 1 10 rfl (by decide)),0,gW _,rfl,rfl⟩ ?_;rintro J hJ m τ ⟨k,hk,rfl,rfl⟩;by_cases aI:k<w.aG.length
  .obtain⟨t,hx⟩:∃t,w.aG[k]?=some t:=⟨w.aG[k],bC aI⟩;have hg:(w.aG.map Tt.pv)[k]?=some t.pv:=by rw[bY,hx];rfl
   simp only[Tt.pv]at hg;have FQ:=Hs w.aA w.bad (aV w.aM) (bI w.aG) (dV w.runs) dD.c dD.b t.fU t.item t.day t.rd;have rI:=Hs w.aA (w.bad++[n]) (aV w.aM) (bI w.aG) (dV w.runs) dD.c EA t.fU t.item t.day t.rd;have e1:decide (((eO w.aA w.bad).j6 t.item t.day).2=0)=stM w.aA w.bad t.item t.day:=rfl;have e2:decide (((eO w.aA (w.bad++[n])).j6 t.item t.day).2=0)=stM w.aA (w.bad++[n]) t.item t.day:=rfl;rw[e1]at FQ;rw[e2]at rI;have hw:=bK (k:=k) (by omega);have r5:=Zmu (w:=w) (n:=n) (k:=k);have h1:(W9 w n k).length+1<=1000000:=by omega
   have hn:=hJ (w.aG.length-(k+1)) _ ⟨k+1,aI,rfl,rfl⟩;rw[Zpa hx]at hn;unfold PY at hn;have aH:w.aG.length-(k+1)<w.aG.length-k:=by omega
   clear e1 e2 hJ;generalize W9 w n k=RL at hn h1 ⊢;generalize stM w.aA w.bad t.item t.day=a1 at hn FQ;generalize stM w.aA (w.bad++[n]) t.item t.day=a2 at hn rI;simp[-List.map_append,Jp,PX,Wk.box,aP,bI,aI,↓hg,aN];refine cM [.ptr (.par 0) 0,.pv (.agg [.i t.fU,.i t.item,.i t.day,.i t.rd])] [(.par 0,aP (aK w.aA) (bJ w.bad) (aV w.aM) (bI w.aG) (dV w.runs))] 57 [.loc 20 0] (by simp[aP,bJ,bI]) FQ (by simp[aP]) ?_;cases a1 with
   |false=>
    rw[if_neg (by simp),xC]at hn;simp[-List.map_append,aP,hw];exact⟨_,_,aH,Sub.mk (by simp) (by simp[-List.map_append,PX,Wk.box,aP,bI,bJ]),hn⟩
   |true=>
    simp[-List.map_append,aP];refine cM [.ptr (.par 0) 0,.pv (.agg [.i t.fU,.i t.item,.i t.day,.i t.rd])] [(.par 0,aP (aK w.aA) (bJ (w.bad++[n])) (aV w.aM) (bI w.aG) (dV w.runs))] 61 [.loc 32 0] (by simp[-List.map_append,aP,bJ,bI]) rI (by simp[aP]) ?_;cases a2 with
    |false=>
     rw[if_pos (by simp)]at hn;simp[-List.map_append,aP,h1,aN,hw];exact⟨_,_,aH,Sub.mk (by simp) (by simp[-List.map_append,PX,Wk.box,aP,bI,bJ];simp[iP]),hn⟩
    |true=>
     rw[if_neg (by simp),xC]at hn;simp[-List.map_append,aP,hw];exact⟨_,_,aH,Sub.mk (by simp) (by simp[-List.map_append,PX,Wk.box,aP,bI,bJ]),hn⟩
  .have he:k=w.aG.length:=by omega
   subst he;have hm:List.take (W9 w n w.aG.length).length ((W9 w n w.aG.length).map iP)=(W9 w n w.aG.length).map iP:=fQ (by simp);simp[-List.map_append,Jp,PX,Wk.box,aP,hm];rw[<-hR];exact⟨_,rfl,by simp,fun m v h=>h⟩
 .have h3:=Oh hc;rw[h3]at sQ;rw[if_neg hc]at hR;simp[L12];refine cG [bO L] sQ ?_;simp;rw[<-hR];exact⟨_,rfl,rfl,LG 5 _ _ rfl⟩
def Wk.next (st:Wk)(r:Except Int Wk):Wk×Int:=match r with
 |.ok w=>(w,0)
 |.error e=>(st,e)
def uN (r:Except Int Wk)(a b c d e:PV):Prop:=∃w,r=.ok w/\aP a b c d e=w.box
theorem Zr7 {f:FuncId}{xs:List AV}{B:List (Site×aJ)}{r:Except Int Wk}(h:tH prog f xs B (yF (uN r)) (uY (fun e=>r=.error e))):
  cU prog f xs B (yF (uN r))\/x9 prog f xs B (uY (fun e=>r=.error e)):=by
 cases r with
 |ok w=>exact .inl (h.ret (fun x B' ⟨n,_,h1,_⟩=>by cases h1))
 |error e=>exact .inr (h.B8 (fun r B' ⟨_,a,b,c,d,e',_,w,h1,_⟩=>by cases h1))
theorem ZuR (st:Wk)(s:ByteArray)(r:Except Int Wk)(hl:tH prog 82 [.ptr (.par 0) 0,.pv (.str s)] [(.par 0,st.box)] (yF (uN r)) (uY (fun e=>r=.error e))):
  cU prog 43 [.ptr (.par 0) 0,.pv (.str s)] [(.par 0,st.box)] (fun x B=>x=.pv (.i (st.next r).2)/\B=[(.par 0,(st.next r).1.box)]):=by
 cases r with
 |ok w=>
  refine Ztf ((hl.ret (fun x B' ⟨n,_,h1,_⟩=>by cases h1)).mono ?_);rintro x B ⟨rfl,a,b,c,d,e,rfl,w',h1,h2⟩;cases h1;exact⟨rfl,by rw[h2];rfl⟩
 |error n=>
  refine Ztg ((hl.B8 (fun r B' ⟨_,a,b,c,d,e',_,w,h1,_⟩=>by cases h1)).mono ?_);rintro x B ⟨m,rfl,h1,a,b,c,d,e,rfl⟩;cases h1;exact⟨rfl,a,b,c,d,e,rfl⟩
def qB (tQ:FuncId->List Int->Except Int Wk)(s:ByteArray):Except Int Wk:=match P0 s with
 |none=>.error 4
 |some (g,nums)=>tQ g nums
theorem ZuZ (st:Wk)(tQ:FuncId->List Int->Except Int Wk)(s:ByteArray)(hs:s.size<=1000)
  (hw:∀g nums,P0 s=some (g,nums)->tH prog g [.ptr (.par 0) 0,.pv (.aF false 1 (nums.map iP))] [(.par 0,st.box)] (yF (uN (tQ g nums))) (uY (fun e=>tQ g nums=.error e))):
  tH prog 82 [.ptr (.par 0) 0,.pv (.str s)] [(.par 0,st.box)] (yF (uN (qB tQ s))) (uY (fun e=>qB tQ s=.error e)):=by
 refine ZuY s hs (fun h=>?_) (fun g nums h=>?_)
 .unfold qB;rw[h]
 .have e:qB tQ s=tQ g nums:=by unfold qB;rw[h]
  rw[e];exact Zr7 (hw g nums h)
theorem ZuL (st:Wk)(n:Int)(hn:-1000000000<n/\n<1000000000)(h:G1 st)(hs:(st.aM.map Lt.num).Pairwise (·<·)):
  tH prog 172 [.ptr (.par 0) 0,.pv (.aF false 1 [iP n])] [(.par 0,st.box)] (yF (uN ((jN (bZ st.aA st.bad st.aG) st.aM n).map fun l=>{ st with aM:=l }))) (uY (fun e=>(jN (bZ st.aA st.bad st.aG) st.aM n).map (fun l=>{ st with aM:=l })=.error e)):=by
 refine(ZuK st.aA st.bad st.aM st.aG (dV st.runs) n hn h.c h.b h.l h.t hs h.lt h.fit).mono ?_ ?_
 .rintro r B ⟨rfl,a,b,c,d,e,rfl,l',h1,rfl,rfl,rfl,rfl,rfl⟩;exact⟨rfl,_,_,_,_,_,rfl,{ st with aM:=l' },by rw[h1];rfl,rfl⟩
 .rintro x B ⟨m,rfl,h1,h2⟩;exact⟨m,rfl,by rw[h1];rfl,h2⟩
theorem Zus (st:Wk)(q:Tt)(hn:-1000000000<q.fU/\q.fU<1000000000)(h:G1 st)(hs:(st.aM.map Lt.num).Pairwise (·<·)):
  tH prog 171 [.ptr (.par 0) 0,.pv (.aF false 1 [iP q.fU,iP q.item,iP q.day,iP q.rd])] [(.par 0,st.box)] (yF (uN ((kU (stM st.aA st.bad) (bZ st.aA st.bad st.aG) st.aM st.aG q).map fun l=>{ st with aG:=l }))) (uY (fun e=>(kU (stM st.aA st.bad) (bZ st.aA st.bad st.aG) st.aM st.aG q).map (fun l=>{ st with aG:=l })=.error e)):=by
 refine(Zur st.aA st.bad st.aM st.aG (dV st.runs) q hn h.c h.b h.l h.t hs h.lt h.fit).mono ?_ ?_
 .rintro r B ⟨rfl,a,b,c,d,e,rfl,l',h1,rfl,rfl,rfl,rfl,rfl⟩;exact⟨rfl,_,_,_,_,_,rfl,{ st with aG:=l' },by rw[h1];rfl,rfl⟩
 .rintro x B ⟨m,rfl,h1,h2⟩;exact⟨m,rfl,by rw[h1];rfl,h2⟩
theorem Zvg (st:Wk)(x:Ct)(hl:st.aA.length<=900)(hb:st.bad.length<=1000):
  tH prog 168 [.ptr (.par 0) 0,.pv (.aF false 1 [iP x.num,iP x.it,iP x.src,iP x.day,iP x.valid,iP x.diff.lo,iP x.diff.hi])] [(.par 0,st.box)] (yF (uN ((mA st.aA st.bad x).map fun l=>{ st with aA:=l }))) (uY (fun e=>(mA st.aA st.bad x).map (fun l=>{ st with aA:=l })=.error e)):=by
 refine(Zvf st.aA st.bad (aV st.aM) (bI st.aG) (dV st.runs) x hl hb).mono ?_ ?_
 .rintro r B ⟨rfl,a,b,c,d,e,rfl,l',h1,rfl,rfl,rfl,rfl,rfl⟩;exact⟨rfl,_,_,_,_,_,rfl,{ st with aA:=l' },by rw[h1];rfl,rfl⟩
 .rintro x B ⟨m,rfl,h1,h2⟩;exact⟨m,rfl,by rw[h1];rfl,h2⟩
theorem ZQ {F:Nat}(hF:407<F)(st:Wk)(h r o:Int)(hr:st.runs.length<=900):
  tH prog 173 [.ptr (.par 0) 0,.pv (.aF false 1 [iP h,iP r,iP o])] [(.par 0,st.box)] (yF (uN ((runM F st.runs h r o).map fun l=>{ st with runs:=l }))) (uY (fun e=>(runM F st.runs h r o).map (fun l=>{ st with runs:=l })=.error e)):=by
 refine(ZP hF st.runs (aK st.aA) (bJ st.bad) (aV st.aM) (bI st.aG) h r o hr).mono ?_ ?_
 .rintro r' B ⟨rfl,a,b,c,d,e,rfl,l',h1,rfl,rfl,rfl,rfl,rfl⟩;exact⟨rfl,_,_,_,_,_,rfl,{ st with runs:=l' },by rw[h1];rfl,rfl⟩
 .rintro x B ⟨m,rfl,h1,h2⟩;exact⟨m,rfl,by rw[h1];rfl,h2⟩
def KN (v:Int):Prop:=-1000000000<v/\v<1000000000
theorem Zhw:∀{r:List ByteArray} {l:List Int},mN r=some l->l.length=r.length/\∀v∈l,KN v
 |[],l,h=>by cases h;exact⟨rfl,fun v hv=>by cases hv⟩
 |x::r,l,h=>by
  rw[Ps]at h;cases hx:lO x with
  |none=>rw[hx]at h;cases h
  |some n=>
   rw[hx]at h;obtain⟨l',h1,rfl⟩:=eB.1 h;obtain⟨h2,h3⟩:=Zhw h1;refine⟨by rw[pI,pI,h2],fun v hv=>?_⟩;rcases jT.1 hv with rfl|hv
   .exact Ztc hx
   .exact h3 v hv
theorem Zs4 {s:ByteArray}{g:FuncId}{nums:List Int}(h:P0 s=some (g,nums)):∃l0 k,gY l0=some (k,g)/\nums.length=k/\∀v∈nums,KN v:=by
 unfold P0 at h;split at h
 .cases h
 .rename_i l0 r _;split at h
  .rename_i k g' hw;split at h
   .rename_i hr;obtain⟨l,h1,h2⟩:=eB.1 h;cases h2;obtain⟨h3,h4⟩:=Zhw h1;exact⟨l0,k,hw,by omega,h4⟩
   .cases h
  .cases h
def pW (l:List Ct)(bad:List Int)(n:Int):Except Int (List Int):=
 if(l.any fun y=>decide (y.num=n))=true then(if n∈bad then .error 6 else .ok (bad.take (dJ bad n)++n::bad.drop (dJ bad n)))else .error 7
def pR (ls:List Lt)(x:Lt):Except Int (List Lt):=
 if(decide (1<=x.num)&&decide (x.num<=99))=true/\(decide (4<=x.pieces)&&decide (x.pieces<=30))=true/\(decide (0<=x.limit)&&decide (x.limit<=1000))=true then
  (if x.num∈ls.map Lt.num then .error 6 else .ok (ls.take (dJ (ls.map Lt.num) x.num)++x::ls.drop (dJ (ls.map Lt.num) x.num)))
 else .error 2
def tQ (F:Nat)(st:Wk)(g:FuncId)(nums:List Int):Except Int Wk:=
 if g=168 then(match nums with
  |[a,b,c,d,e,f,h]=>(mA st.aA st.bad { num:=a,it:=b,src:=c,day:=d,valid:=e,diff:=⟨f,h⟩}).map fun l=>{ st with aA:=l }
  |_=>.error 4)
 else if g=169 then(match nums with
  |[n]=>(pW st.aA st.bad n).map fun l=>{ st with bad:=l }
  |_=>.error 4)
 else if g=170 then(match nums with
  |[n,p,m]=>(pR st.aM ⟨n,p,m,false⟩).map fun l=>{ st with aM:=l }
  |_=>.error 4)
 else if g=171 then(match nums with
  |[a,b,c,d]=>(kU (stM st.aA st.bad) (bZ st.aA st.bad st.aG) st.aM st.aG ⟨a,b,c,d⟩).map fun l=>{ st with aG:=l }
  |_=>.error 4)
 else if g=172 then(match nums with
  |[n]=>(jN (bZ st.aA st.bad st.aG) st.aM n).map fun l=>{ st with aM:=l }
  |_=>.error 4)
 else(match nums with
  |[h,r,o]=>(runM F st.runs h r o).map fun l=>{ st with runs:=l }
  |_=>.error 4)
def FJ (st:Wk):Prop:=∀n,KN n->tH prog 169 [.ptr (.par 0) 0,.pv (.aF false 1 [iP n])] [(.par 0,st.box)] (yF (uN ((pW st.aA st.bad n).map fun l=>{ st with bad:=l }))) (uY (fun e=>(pW st.aA st.bad n).map (fun l=>{ st with bad:=l })=.error e))
def FI (st:Wk):Prop:=∀n p m,KN n->KN p->KN m->tH prog 170 [.ptr (.par 0) 0,.pv (.aF false 1 [iP n,iP p,iP m])] [(.par 0,st.box)] (yF (uN ((pR st.aM ⟨n,p,m,false⟩).map fun l=>{ st with aM:=l }))) (uY (fun e=>(pR st.aM ⟨n,p,m,false⟩).map (fun l=>{ st with aM:=l })=.error e))
theorem Xo {F:Nat}(hF:407<F)(st:Wk)(h:G1 st)(hc:st.aA.length<=900)(hr:st.runs.length<=900)(hs:(st.aM.map Lt.num).Pairwise (·<·))(hB:FJ st)(hL:FI st){l0:ByteArray}{k:Nat}{g:FuncId}{nums:List Int}(hw:gY l0=some (k,g))(hk:nums.length=k)(hn:∀v∈nums,KN v):
  tH prog g [.ptr (.par 0) 0,.pv (.aF false 1 (nums.map iP))] [(.par 0,st.box)] (yF (uN (tQ F st g nums))) (uY (fun e=>tQ F st g nums=.error e)):=by
 unfold gY at hw;split at hw
 .cases hw
  match nums,hk,hn with
  |[a,b,c,d,e,f,i],_,_=>exact Zvg st { num:=a,it:=b,src:=c,day:=d,valid:=e,diff:=⟨f,i⟩} hc h.b
 split at hw
 .cases hw
  match nums,hk,hn with
  |[n],_,hn=>exact hB n (hn n (by simp))
 split at hw
 .cases hw
  match nums,hk,hn with
  |[n,p,m],_,hn=>exact hL n p m (hn n (by simp)) (hn p (by simp)) (hn m (by simp))
 split at hw
 .cases hw
  match nums,hk,hn with
  |[a,b,c,d],_,hn=>exact Zus st ⟨a,b,c,d⟩ (hn a (by simp)) h hs
 split at hw
 .cases hw
  match nums,hk,hn with
  |[n],_,hn=>exact ZuL st n (hn n (by simp)) h hs
 split at hw
 .cases hw
  match nums,hk,hn with
  |[a,r,o],_,_=>exact ZQ hF st a r o hr
 cases hw
def kQ (F:Nat)(st:Wk)(s:ByteArray):Wk×Int:=st.next (qB (tQ F st) s)
theorem Et {F:Nat}(hF:407<F)(st:Wk)(s:ByteArray)(hz:s.size<=1000)(h:G1 st)(hc:st.aA.length<=900)(hr:st.runs.length<=900)(hs:(st.aM.map Lt.num).Pairwise (·<·))(hB:FJ st)(hL:FI st):
  cU prog 43 [.ptr (.par 0) 0,.pv (.str s)] [(.par 0,st.box)] (fun x B=>x=.pv (.i (kQ F st s).2)/\B=[(.par 0,(kQ F st s).1.box)]):=
 ZuR st s _ (ZuZ st _ s hz fun g nums hp=>by
  obtain⟨l0,k,h1,h2,h3⟩:=Zs4 hp;exact Xo hF st h hc hr hs hB hL h1 h2 h3)
section
attribute [local irreducible] Bk.held Bk.nums Bk.iL
set_option linter.unusedSimpArgs false
theorem ZtH (b:Bk)(hb:b.ok)(c:Ct)(hc:c∈b.aA)(bad held:List Int)(h1:bad.length<=1000000)(h2:held.length<=1000000):aC prog 68 [b.pv,c.pv,.aF false 1 (bad.map aO),.aF false 1 (held.map aO)] (.bool (b.R4 bad held c)):=by
 obtain⟨_,_,_,_,_,s0,s1,_⟩:=xE hb hc;obtain⟨j,hj,xP,z,hz,F2,qF⟩:=Nj s0 s1;have gP:=hb.c;obtain⟨P,hP⟩:∃P:Ct->Bool,P=fun o=>zG c o&&held.contains o.num:=⟨_,rfl⟩
 have hT:b.R4 bad held c=((z.gZ||(b.aA.take b.aA.length).any P)&&!bad.contains c.num):=by
  rw[nD,hP,<-F2];rfl
 rw[hT];clear hT;refine cS L68 ?_;simp[-getElem?_pos,-List.getElem?_map,-List.take_length,L68,Bk.pv,aS,aK,Ct.pv,hj,xP,qF];refine eP (fun n τ=>∃k:Nat,k<=b.aA.length/\n=b.aA.length-k/\τ=⟨[(2,.pv (.aF false 1 (bad.map aO))),(3,.pv (.aF false 1 (held.map aO))),(4,.ptr (.loc 4 0) 0),(5,.ptr (.loc 5 0) 0),(9,.pv (.bool (z.gZ||(b.aA.take k).any P))),(10,.pv (.i k))],[(.loc 4 0,.cells b.cells),(.loc 5 0,.cells c.cells)]⟩)
  ⟨b.aA.length,⟨[(2,.pv (.aF false 1 (bad.map aO))),(3,.pv (.aF false 1 (held.map aO))),(4,.ptr (.loc 4 0) 0),(5,.ptr (.loc 5 0) 0),(9,.pv (.bool (z.gZ||(b.aA.take 0).any P))),(10,.pv (.i 0))],[(.loc 4 0,.cells b.cells),(.loc 5 0,.cells c.cells)]⟩,Sub.mk (by simp) (by simp[Bk.cells,aS,aK,Ct.cells,hj]),0,by omega,rfl,rfl⟩ ?_
 rintro J hJ n τ ⟨k,hk,rfl,rfl⟩;by_cases aI:k<b.aA.length
 .obtain⟨o,ho,M5,qG⟩:=zX aI;have hw:=bK (k:=k) (by omega);have aB:=hJ _ _ ⟨k+1,aI,rfl,rfl⟩;rw[XY ho,<-Bool.or_assoc]at aB;have aH:b.aA.length-(k+1)<b.aA.length-k:=by omega
  have hr:=ZsX c o (Zej hb M5);have hh:=wO held o.num h2;have H9:P o=(zG c o&&held.contains o.num):=by rw[hP]
  clear hJ hP;generalize(z.gZ||(b.aA.take k).any P)=A at *;cases A
  case true=>
   simp[Bk.cells,aS,aK,Ct.cells,aI,qG,hw];exact⟨_,_,aH,Sub.mk (by simp) (by simp[Bk.cells,aS,aK,Ct.cells]),aB⟩
  case false=>
  simp[-getElem?_pos,-List.getElem?_map,Bk.cells,aS,aK,Ct.cells,aI,qG,hw];refine BI (k:=0) (fs:=[]) (xs:=[c.pv,o.pv]) (cs:=[]) rfl rfl hr rfl ?_;cases e1:zG c o
  .rw[e1,Bool.false_and]at H9;rw[H9]at aB;simp[Bk.cells,aS,aK,Ct.cells,aI,qG,hw];exact⟨_,_,aH,Sub.mk (by simp) (by simp[Bk.cells,aS,aK,Ct.cells]),aB⟩
  rw[e1,Bool.true_and]at H9;rw[H9]at aB;simp[-getElem?_pos,-List.getElem?_map,Bk.cells,aS,aK,Ct.cells,aI,qG,hw];refine cG [.aF false 1 (held.map aO),.i o.num] hh ?_;simp[Bk.cells,aS,aK,Ct.cells,aI,qG,hw];exact⟨_,_,aH,Sub.mk (by simp) (by simp[Bk.cells,aS,aK,Ct.cells]),aB⟩
 have he:k=b.aA.length:=by omega
 subst he;clear hJ;have hh:=wO bad c.num h1;generalize(z.gZ||(b.aA.take b.aA.length).any P)=A at *;cases A
 .simp[Bk.cells,aS,aK,Ct.cells]
 simp[Bk.cells,aS,aK,Ct.cells];refine cG [.aF false 1 (bad.map aO),.i c.num] hh ?_;simp
end
section
theorem Zf6 {b:Bk}{bad:List Int}:∀k,(b.iL bad k).length<=k
 |0=>fH _
 |k+1=>by
  rw[Ia,gF]
  have:=Zf6 (b:=b) (bad:=bad) k
  split<;>simp<;>omega
theorem ZiM {b:Bk}(hb:b.ok){bad:List Int}:b.iL bad 1=[]:=by
 have h0:b.iL bad 0=[]:=rfl;rw[Ia,h0,if_neg]
 .rfl
 rw[Bool.not_eq_true,List.any_eq_false];intro c hc
 have:=(xE hb hc).1
 simp;omega
attribute [local irreducible] Bk.held Bk.nums Bk.iL
def nH (b:Bk)(bad:List Int)(n:Nat):AS:=⟨[(1,.pv (.aF false 1 (bad.map aO))),(2,.ptr (.loc 2 0) 0),(5,.vec (.loc 46 0) 1 0 (b.iL bad n).length),(6,.pv (.i n))],[(.loc 46 0,.arr 3 1 ((b.iL bad n).map aO)),(.loc 2 0,.cells b.cells)]⟩
def B5 (b:Bk)(bad:List Int)(n:Nat)(is:Bool)(i:Nat):AS:=⟨(7,.pv (.bool is))::(8,.pv (.i i))::(nH b bad n).tm,(nH b bad n).bx⟩
theorem ZsT (b:Bk)(hb:b.ok)(bad:List Int)(h1:bad.length<=1000000):cU prog 32 ([b.pv,.aF false 1 (bad.map aO)].map .pv) [] (fun r B=>r=.pv (.aF false 1 ((b.held bad).map aO))/\B=[]):=by
 have gP:=hb.c;refine cF [.loc 46 0] L32 ?_;have hHB:b.held bad=b.iL bad 1000:=by unfold Bk.held;rfl
 rw[hHB];generalize hR:(fun(r:AV) (B:List (Site×aJ))=>r=.pv (.aF false 1 ((b.iL bad 1000).map aO))/\B=[])=R;simp[L32,Bk.pv];refine eP (fun m τ=>∃n:Nat,n<=1000/\m=1000-n/\τ=nH b bad n) ⟨999,nH b bad 1,Sub.trans' (Sub.mk (by simp[AS.cW,ZiM hb]) (by simp[AS.cW,Bk.cells,ZiM hb])) (cW 46 3 1 5 rfl (by decide)),1,by omega,rfl,rfl⟩ ?_;rintro J hJ m τ ⟨n,hn,rfl,rfl⟩;have IP:=Zf6 (b:=b) (bad:=bad) n;by_cases aI:n<1000
 .have hw:IntKind.i64.wrap ((n:Int)+1)=((n+1:Nat):Int):=bK (by omega);have hle:decide ((n:Int)<=999)=true:=by simp;omega
  have aB:=hJ _ _ ⟨n+1,aI,rfl,rfl⟩;have aH:1000-(n+1)<1000-n:=by omega
  obtain⟨P,hP⟩:∃P:Ct->Bool,P=fun o=>decide (o.num=(n:Int))&&b.R4 bad (b.iL bad n) o:=⟨_,rfl⟩
  have eK:b.iL bad (n+1)=b.iL bad n++(if(b.aA.take b.aA.length).any P=true then[(n:Int)]else[]):=by
   rw[Ia,nD,hP]
  clear hJ;simp[-List.take_length,-decide_eq_true_eq,-decide_eq_false_iff_not,nH,Bk.cells,hle];refine eP (fun m τ=>∃i:Nat,i<=b.aA.length/\m=b.aA.length-i/\τ=B5 b bad n ((b.aA.take i).any P) i) ⟨b.aA.length,B5 b bad n ((b.aA.take 0).any P) 0,Sub.mk (by simp[nH]) (by simp[nH,Bk.cells]),0,by omega,rfl,rfl⟩ ?_;rintro J2 sR m τ ⟨i,hi,rfl,rfl⟩;by_cases kN:i<b.aA.length
  .obtain⟨o,ho,M5,qG⟩:=zX kN;have CT:=bK (k:=i) (by omega);have cH:=sR _ _ ⟨i+1,kN,rfl,rfl⟩;rw[XY ho]at cH;have iJ:b.aA.length-(i+1)<b.aA.length-i:=by omega
   have hh:=ZtH b hb o M5 bad (b.iL bad n) h1 (by omega);have H9:P o=(decide (o.num=(n:Int))&&b.R4 bad (b.iL bad n) o):=by rw[hP]
   clear sR hP aB eK;generalize hA:(b.aA.take i).any P=A at *;have hU:((b.iL bad n).map aO).take (b.iL bad n).length=(b.iL bad n).map aO:=fQ (by simp);cases A
   case true=>
    simp[B5,nH,Bk.cells,aS,aK,kN,CT];exact⟨_,_,iJ,Sub.mk (by simp[nH]) (by simp[nH,Bk.cells,aS,aK]),cH⟩
   case false=>
   cases e1:decide (o.num=(n:Int))
   .rw[e1,Bool.false_and]at H9;rw[H9]at cH;simp[-getElem?_pos,-List.getElem?_map,-decide_eq_true_eq,-decide_eq_false_iff_not,B5,nH,Bk.cells,aS,aK,kN,qG,CT,e1];exact⟨_,_,iJ,Sub.mk (by simp[B5,nH]) (by simp[B5,nH,Bk.cells,aS,aK]),cH⟩
   rw[e1,Bool.true_and]at H9;rw[H9]at cH;simp[-getElem?_pos,-List.getElem?_map,-decide_eq_true_eq,-decide_eq_false_iff_not,B5,nH,Bk.cells,aS,aK,kN,qG,e1];refine gH (k:=0) (fs:=[]) (xs:=[b.pv,o.pv,.aF false 1 (bad.map aO),.aF false 1 ((b.iL bad n).map aO)]) (cs:=[]) rfl (by simp[jL,AV.snap,AV.GK,Bk.pv,aS,aK,Ct.pv,hU]) hh rfl ?_;simp[CT];exact⟨_,_,iJ,Sub.mk (by simp[nH]) (by simp[nH,Bk.cells,aS,aK]),cH⟩
  have he:i=b.aA.length:=by omega
  subst he;clear sR hP;generalize(b.aA.take b.aA.length).any P=A at *;cases A
  .rw[if_neg (by simp),xC]at eK;simp[B5,nH,Bk.cells,aS,aK,hw];exact⟨_,_,aH,Sub.mk (by simp[eK]) (by simp[Bk.cells,aS,aK,eK]),aB⟩
  .rw[if_pos rfl]at eK;have E7:(b.iL bad n).length<=999999:=by omega
   have hU:((b.iL bad n).map aO).take (b.iL bad n).length=(b.iL bad n).map aO:=fQ (by simp);simp[B5,nH,Bk.cells,aS,aK,hw,aN,E7];refine⟨_,_,aH,Sub.mk ?_ ?_,aB⟩
   .simp[eK]
   .simp[Bk.cells,aS,aK,eK,aO]
 have he:n=1000:=by omega
 subst he;clear hJ;have hU:((b.iL bad 1000).map aO).take (b.iL bad 1000).length=(b.iL bad 1000).map aO:=fQ (by simp);simp[nH,Bk.cells,hU];rw[<-hR];simp
end
section
theorem ZkB (r:Cr):(jD r.lo (-100000) r.hi&&decide (r.hi<=100000))=r.okB:=by
 unfold Cr.okB A6 jD;rw[rB];simp;omega
def It.dJ (x:It):Bool:=jD x.dR 0 100&&x.val.okB&&(x.gZ||(decide (x.val.lo=0)&&decide (x.val.hi=0)))
theorem It.ZxY (x:It):x.okB=x.dJ:=by
 unfold It.okB It.dJ;congr 2;obtain⟨d,s,⟨lo,hi⟩⟩:=x;rw[rB];simp
def kE (x y:Ct):Bool:=(decide (x.num=y.num)&&decide (x≠y))||(decide (y.num<x.num)&&decide (x.day<y.day))
theorem ZmB {b:Bk}:b.A3=!(b.aA.all fun x=>b.aA.all fun y=>!kE x y):=by
 have e:b.A3=b.aA.any fun x=>b.aA.any fun y=>kE x y:=rfl
 rw[e,rB];simp
theorem ZpA (b:Bk)(h1:b.items.length<=1000)(h2:b.aA.length<=1000):aC prog 156 [b.pv] (.i b.fault):=by
 have qY:b.xR=(decide (8<b.items.length)||decide (24<b.aA.length)):=rfl;have lS:b.bad=(!(b.items.all It.okB)||!(b.aA.all b.vE)):=rfl;obtain⟨F,hF⟩:∃F,b.fault=F:=⟨_,rfl⟩;have f3:b.xR=true->F=3:=fun h=>by rw[<-hF,Zge h]
 have f1:b.xR=false->b.bad=true->F=1:=fun h h'=>by rw[<-hF,Zgf h h']
 have f6:b.xR=false->b.bad=false->b.A3=true->F=6:=fun h h' Xj=>by rw[<-hF,Zgd h h' Xj]
 have f0:b.xR=false->b.bad=false->b.A3=false->F=0:=fun h h' Xj=>by rw[<-hF,Ht h h' Xj]
 rw[hF];clear hF;refine cS L156 ?_;by_cases c1:8<b.items.length
 .have k1:(8:Int)<(b.items.length:Int):=by omega
  have C9:¬((b.items.length:Int)<=8):=by omega
  simp[L156,Bk.pv,aS,aK,k1,f3 (by rw[qY];simp[c1])]
 have d1:decide ((8:Int)<(b.items.length:Int))=false:=by simp;omega
 by_cases c2:24<b.aA.length
 .have d2:decide ((24:Int)<(b.aA.length:Int))=true:=by simp;omega
  simp[-decide_eq_true_eq,-decide_eq_false_iff_not,L156,Bk.pv,aS,aK,d1,d2,f3 (by rw[qY];simp[c2])]
 have d2:decide ((24:Int)<(b.aA.length:Int))=false:=by simp;omega
 have HV:b.xR=false:=by rw[qY];simp[c1,c2]
 have f1:=f1 HV;have f6:=f6 HV;have f0:=f0 HV;clear f3 qY HV;simp[-decide_eq_true_eq,-decide_eq_false_iff_not,L156,Bk.pv,aS,aK,d1,d2];refine eP (fun n τ=>∃k:Nat,k<=b.items.length/\n=b.items.length-k/\(∀(j:Nat) (x:It),j<k->b.items[j]?=some x->x.okB=true)/\τ=⟨[(1,.ptr (.loc 1 0) 0),(3,.pv (.i k))],[(.loc 1 0,.cells b.cells)]⟩)
  ⟨b.items.length,⟨[(1,.ptr (.loc 1 0) 0),(3,.pv (.i 0))],[(.loc 1 0,.cells b.cells)]⟩,Sub.mk (by simp) (by simp[Bk.cells,aS,aK]),0,by omega,rfl,(fun j x hj=>by omega),rfl⟩ ?_
 rintro J hJ n τ ⟨k,hk,rfl,hinv,rfl⟩;by_cases aI:k<b.items.length
 .obtain⟨z,hz⟩:∃z,b.items[k]?=some z:=⟨b.items[k],bC aI⟩;have qF:(b.items.map It.pv)[k]?=some (.agg [.i z.dR,.bool z.gZ,.i z.val.lo,.i z.val.hi]):=by rw[bY,hz];rfl
  have hw:=bK (k:=k) (by omega);have dD:=It.ZxY z;unfold It.dJ at dD;have jR:z.okB=false->F=1:=fun h=>f1 (by rw[lS,Ma hz h];rfl)
  have aB:=fun h:z.okB=true=>hJ _ _ ⟨k+1,aI,rfl,Nt hinv hz h,rfl⟩
  have gB:=yL z.dR 0 100;have jP:=Zm9 z.val;rw[ZkB]at jP;have aH:b.items.length-(k+1)<b.items.length-k:=by omega
  clear hJ;simp[-decide_eq_true_eq,-decide_eq_false_iff_not,Bk.cells,aS,aK,aI,↓qF];refine cG [.i z.dR,.i 0,.i 100] gB ?_;cases e1:jD z.dR 0 100
  .rw[e1]at dD;simp[jR dD]
  simp[-decide_eq_true_eq,-decide_eq_false_iff_not];refine cG [z.val.pv] jP ?_;cases e2:z.val.okB
  .rw[e1,e2]at dD;simp[jR dD]
  rw[e1,e2]at dD;cases e3:z.gZ
  .cases e4:decide (z.val.lo=0)
   .rw[e3,e4]at dD;simp[-decide_eq_true_eq,-decide_eq_false_iff_not,e4,jR dD]
   .cases e5:decide (z.val.hi=0)
    .rw[e3,e4,e5]at dD;simp[-decide_eq_true_eq,-decide_eq_false_iff_not,e4,e5,jR dD]
    .rw[e3,e4,e5]at dD;have aB:=aB dD;simp[-decide_eq_true_eq,-decide_eq_false_iff_not,e4,e5,hw];exact⟨_,_,aH,Sub.mk (by simp) (by simp[Bk.cells,aS,aK]),aB⟩
  .rw[e3]at dD;have aB:=aB dD;simp[-decide_eq_true_eq,-decide_eq_false_iff_not,hw];exact⟨_,_,aH,Sub.mk (by simp) (by simp[Bk.cells,aS,aK]),aB⟩
 have he:k=b.items.length:=by omega
 subst he;have eV:=Nn hinv;rw[eV]at lS;clear hJ hinv;have IV:∀i:Int,b.uT i=true->∃j:Nat,i=j/\j<b.items.length/\∃z,b.items[j]?=some z/\b.item i=z:=fun i hi=>by
  unfold Bk.uT jD at hi;simp only[dK,decide_eq_true_eq]at hi;refine⟨i.toNat,by omega,by omega,b.items[i.toNat]'(by omega),bC _,?_⟩;unfold Bk.item;rw[bC (by omega)];rfl
 have Kp:IntKind.i64.wrap ((b.items.length:Int)-1)=(b.items.length:Int)-1:=wrap64 (by omega);simp[Bk.cells,aS,aK];refine eP (fun n τ=>∃k:Nat,k<=b.aA.length/\n=b.aA.length-k/\(∀(j:Nat) (x:Ct),j<k->b.aA[j]?=some x->b.vE x=true)/\τ=⟨[(1,.ptr (.loc 1 0) 0),(5,.pv (.i k))],[(.loc 1 0,.cells b.cells)]⟩)
  ⟨b.aA.length,⟨[(1,.ptr (.loc 1 0) 0),(5,.pv (.i 0))],[(.loc 1 0,.cells b.cells)]⟩,Sub.mk (by simp) (by simp[Bk.cells,aS,aK]),0,by omega,rfl,(fun j x hj=>by omega),rfl⟩ ?_
 rintro J hJ n τ ⟨k,hk,rfl,hinv,rfl⟩;by_cases aI:k<b.aA.length
 .obtain⟨c,hc⟩:∃c,b.aA[k]?=some c:=⟨b.aA[k],bC aI⟩;have AM:(b.aA.map Ct.pv)[k]?=some (.agg [.i c.num,.i c.it,.i c.src,.i c.day,.i c.valid,.i c.diff.lo,.i c.diff.hi]):=by rw[bY,hc];rfl
  have hw:=bK (k:=k) (by omega);have dD:b.vE c=(jD c.num 1 999&&b.uT c.it&&!(b.item c.it).gZ&&b.uT c.src&&decide (c.src≠c.it)&&jD c.day 0 1000&&jD c.valid 0 1000&&c.diff.okB):=rfl;have jR:b.vE c=false->F=1:=fun h=>f1 (by rw[lS,Ma hc h];rfl)
  have aB:=fun h:b.vE c=true=>hJ _ _ ⟨k+1,aI,rfl,Nt hinv hc h,rfl⟩
  have RO:=yL c.num 1 999;have RN:aC prog 160 [.i c.it,.i 0,.i ((b.items.length:Int)-1)] (.bool (b.uT c.it)):=yL c.it 0 _;have Vg:aC prog 160 [.i c.src,.i 0,.i ((b.items.length:Int)-1)] (.bool (b.uT c.src)):=yL c.src 0 _;have Vf:=yL c.day 0 1000;have Ve:=yL c.valid 0 1000;have jP:=Zm9 c.diff;rw[ZkB]at jP;have hi4:=IV c.it;have aH:b.aA.length-(k+1)<b.aA.length-k:=by omega
  clear hJ;simp[-decide_eq_true_eq,-decide_eq_false_iff_not,Bk.cells,aS,aK,aI,↓AM];refine cG [.i c.num,.i 1,.i 999] RO ?_;cases e1:jD c.num 1 999
  .rw[e1]at dD;simp[jR (by rw[dD];simp)]
  simp[-decide_eq_true_eq,-decide_eq_false_iff_not,Kp];refine cG [.i c.it,.i 0,.i ((b.items.length:Int)-1)] RN ?_;cases e2:b.uT c.it
  .rw[e2]at dD;simp[jR (by rw[dD];simp)]
  obtain⟨j,hj,xP,z,hz,F2⟩:=hi4 e2;have qF:(b.items.map It.pv)[j]?=some (.agg [.i z.dR,.bool z.gZ,.i z.val.lo,.i z.val.hi]):=by rw[bY,hz];rfl
  simp[-decide_eq_true_eq,-decide_eq_false_iff_not,Kp];refine cG [.i c.src,.i 0,.i ((b.items.length:Int)-1)] Vg ?_;cases e3:b.uT c.src
  .rw[e3]at dD;simp[jR (by rw[dD];simp)]
  cases e4:decide (c.src=c.it)
  case true=>
   have Xm:decide (c.src≠c.it)=false:=by simpa using e4
   simp[-decide_eq_true_eq,-decide_eq_false_iff_not,e4,jR (by rw[dD,Xm];simp)]
  case false=>
  have Xm:decide (c.src≠c.it)=true:=by simpa using e4
  rw[e1,e2,e3,Xm,F2]at dD;have e4j:decide (c.src=(j:Int))=false:=by rw[<-hj];exact e4
  cases e5:z.gZ
  case true=>
   rw[e5]at dD qF;simp[-decide_eq_true_eq,-decide_eq_false_iff_not,e4j,hj,↓qF,jR (by rw[dD];simp)]
  case false=>
  rw[e5]at dD qF;simp[-decide_eq_true_eq,-decide_eq_false_iff_not,e4j,hj,↓qF];refine cG [.i c.day,.i 0,.i 1000] Vf ?_;cases e6:jD c.day 0 1000
  .rw[e6]at dD;simp[jR (by rw[dD];simp)]
  simp[-decide_eq_true_eq,-decide_eq_false_iff_not];refine cG [.i c.valid,.i 0,.i 1000] Ve ?_;cases e7:jD c.valid 0 1000
  .rw[e7]at dD;simp[jR (by rw[dD];simp)]
  simp[-decide_eq_true_eq,-decide_eq_false_iff_not];refine cG [c.diff.pv] jP ?_;cases e8:c.diff.okB
  .rw[e8]at dD;simp[jR (by rw[dD];simp)]
  rw[e6,e7,e8]at dD;have aB:=aB (by rw[dD];rfl);simp[-decide_eq_true_eq,-decide_eq_false_iff_not,hw];exact⟨_,_,aH,Sub.mk (by simp) (by simp[Bk.cells,aS,aK]),aB⟩
 have he:k=b.aA.length:=by omega
 subst he;have eV:=Nn hinv;rw[eV]at lS;clear hJ hinv;have f6:=f6 lS;have f0:=f0 lS;clear f1;have Z3:=ZmB (b:=b);simp[Bk.cells,aS,aK];refine eP (fun n τ=>∃k:Nat,k<=b.aA.length/\n=b.aA.length-k/\(∀(j:Nat) (x:Ct),j<k->b.aA[j]?=some x->(b.aA.all fun y=>!kE x y)=true)/\τ=⟨[(1,.ptr (.loc 1 0) 0),(7,.pv (.i k))],[(.loc 1 0,.cells b.cells)]⟩)
  ⟨b.aA.length,⟨[(1,.ptr (.loc 1 0) 0),(7,.pv (.i 0))],[(.loc 1 0,.cells b.cells)]⟩,Sub.mk (by simp) (by simp[Bk.cells,aS,aK]),0,by omega,rfl,(fun j x hj=>by omega),rfl⟩ ?_
 rintro J hJ n τ ⟨k,hk,rfl,hinv,rfl⟩;by_cases aI:k<b.aA.length
 .obtain⟨c,hc⟩:∃c,b.aA[k]?=some c:=⟨b.aA[k],bC aI⟩;have AM:(b.aA.map Ct.pv)[k]?=some (.agg [.i c.num,.i c.it,.i c.src,.i c.day,.i c.valid,.i c.diff.lo,.i c.diff.hi]):=by rw[bY,hc];rfl
  have hw:=bK (k:=k) (by omega);have aB:=fun h:(b.aA.all fun y=>!kE c y)=true=>hJ _ _ ⟨k+1,aI,rfl,Nt (p:=fun x=>b.aA.all fun y=>!kE x y) hinv hc h,rfl⟩
  have mP:(b.aA.all fun y=>!kE c y)=false->F=6:=fun h=>f6 (by rw[Z3,Ma (p:=fun x=>b.aA.all fun y=>!kE x y) hc h];rfl)
  have aH:b.aA.length-(k+1)<b.aA.length-k:=by omega
  clear hJ;simp[Bk.cells,aS,aK,aI];refine eP (fun n τ=>∃i:Nat,i<=b.aA.length/\n=b.aA.length-i/\(∀(j:Nat) (x:Ct),j<i->b.aA[j]?=some x->(!kE c x)=true)/\τ=⟨[(1,.ptr (.loc 1 0) 0),(7,.pv (.i k)),(8,.pv (.i i))],[(.loc 1 0,.cells b.cells)]⟩)
   ⟨b.aA.length,⟨[(1,.ptr (.loc 1 0) 0),(7,.pv (.i k)),(8,.pv (.i 0))],[(.loc 1 0,.cells b.cells)]⟩,Sub.mk (by simp) (by simp[Bk.cells,aS,aK]),0,by omega,rfl,(fun j x hj=>by omega),rfl⟩ ?_
  rintro J2 sR n τ ⟨i,hi,rfl,ND,rfl⟩;by_cases kN:i<b.aA.length
  .obtain⟨y,hy⟩:∃c,b.aA[i]?=some c:=⟨b.aA[i],bC kN⟩;have IZ:(b.aA.map Ct.pv)[i]?=some (.agg [.i y.num,.i y.it,.i y.src,.i y.day,.i y.valid,.i y.diff.lo,.i y.diff.hi]):=by rw[bY,hy];rfl
   have CT:=bK (k:=i) (by omega);have cH:=fun h:(!kE c y)=true=>sR _ _ ⟨i+1,kN,rfl,Nt (p:=fun x=>!kE c x) ND hy h,rfl⟩
   have QY:(!kE c y)=false->F=6:=fun h=>mP (Ma (p:=fun x=>!kE c x) hy h)
   have hP:kE c y=((decide (c.num=y.num)&&!decide (c=y))||(decide (y.num<c.num)&&decide (c.day<y.day))):=by simp[kE]
   have heq:gV (.agg [.i c.num,.i c.it,.i c.src,.i c.day,.i c.valid,.i c.diff.lo,.i c.diff.hi]) (.agg [.i y.num,.i y.it,.i y.src,.i y.day,.i y.valid,.i y.diff.lo,.i y.diff.hi])=decide (c=y):=ZrU;have iJ:b.aA.length-(i+1)<b.aA.length-i:=by omega
   clear sR;simp[-decide_eq_true_eq,-decide_eq_false_iff_not,Bk.cells,aS,aK,kN,↓AM];refine KP ⟨[(1,.ptr (.loc 1 0) 0),(7,.pv (.i k)),(8,.pv (.i i)),(9,.ptr (.loc 9 0) 0),(10,.ptr (.loc 10 0) 0),(151,.pv y.pv)],[(.loc 1 0,.cells b.cells),(.loc 9 0,.cells c.cells),(.loc 10 0,.cells (List.replicate 7 (.pv (.i 0))))]⟩ ?_ ?_
   .simp[gL,gS,↓IZ]
    repeat' (with_reducible refine And.intro ?_ ?_)
    all_goals
     refine Sub.mk ?_ ?_
     .simp[Ct.pv]
     .simp[Ct.cells,Bk.cells,aS,aK]
   .cases a1:decide (c.num=y.num)
    .simp[-decide_eq_true_eq,-decide_eq_false_iff_not,gL,gS,Ct.pv,Ct.cells,Bk.cells,List.replicate,-gV,a1];trace_state;cases a3:decide (y.num<c.num)
     .have cH:=cH (by rw[hP,a1,a3];rfl);simp[-decide_eq_true_eq,-decide_eq_false_iff_not,aS,aK,-gV,CT];exact⟨_,_,iJ,Sub.mk (by simp) (by simp[Bk.cells,aS,aK]),cH⟩
     .cases a4:decide (c.day<y.day)
      .have cH:=cH (by rw[hP,a1,a3,a4];rfl);simp[-decide_eq_true_eq,-decide_eq_false_iff_not,aS,aK,-gV,CT];exact⟨_,_,iJ,Sub.mk (by simp) (by simp[Bk.cells,aS,aK]),cH⟩
      .have hF:=QY (by rw[hP,a1,a3,a4];rfl);simp[-decide_eq_true_eq,-decide_eq_false_iff_not,aS,aK,-gV,hF]
    .cases a2:decide (c=y)
     .have hF:=QY (by rw[hP,a1,a2];rfl);simp[-decide_eq_true_eq,-decide_eq_false_iff_not,gL,gS,Ct.pv,Ct.cells,Bk.cells,List.replicate,heq,-gV,a1,a2,hF]
     .simp[-decide_eq_true_eq,-decide_eq_false_iff_not,gL,gS,Ct.pv,Ct.cells,Bk.cells,List.replicate,heq,-gV,a1,a2];cases a3:decide (y.num<c.num)
      .have cH:=cH (by rw[hP,a1,a2,a3];rfl);simp[-decide_eq_true_eq,-decide_eq_false_iff_not,aS,aK,-gV,CT];exact⟨_,_,iJ,Sub.mk (by simp) (by simp[Bk.cells,aS,aK,Ct.cells]),cH⟩
      .cases a4:decide (c.day<y.day)
       .have cH:=cH (by rw[hP,a1,a2,a3,a4];rfl);simp[-decide_eq_true_eq,-decide_eq_false_iff_not,aS,aK,-gV,CT];exact⟨_,_,iJ,Sub.mk (by simp) (by simp[Bk.cells,aS,aK]),cH⟩
       .have hF:=QY (by rw[hP,a1,a2,a3,a4];rfl);simp[-decide_eq_true_eq,-decide_eq_false_iff_not,aS,aK,-gV,hF]
  .have he:i=b.aA.length:=by omega
   subst he;have aB:=aB (Nn (p:=fun x=>!kE c x) ND);simp[Bk.cells,aS,aK,hw];exact⟨_,_,aH,Sub.mk (by simp) (by simp[Bk.cells,aS,aK]),aB⟩
 have he:k=b.aA.length:=by omega
 subst he;have hF:=f0 (by rw[Z3,Nn (p:=fun x=>b.aA.all fun y=>!kE x y) hinv];rfl);simp[Bk.cells,aS,aK,hF]
attribute [local irreducible] Bk.held Bk.nums Bk.iL
set_option linter.unusedSimpArgs false
theorem Zhn (b:Bk)(hb:b.ok):cU prog 32 ([b.pv,.emp (some true)].map .pv) [] (fun r B=>r=.pv (.aF false 1 ((b.held []).map aO))/\B=[]):=by
 have h:=ZsT b hb [] (gW _);refine cU.Yq (xs:=[b.pv,.emp (some true)]) (ys:=[b.pv,.aF false 1 []]) h rfl ?_;intro j x y m v h1 h2 hr
 match j with
 |0=>simp at h1 h2;subst h1 h2;exact hr
 |1=>simp at h1 h2;subst h1 h2;exact BF hr
 |j+2=>simp at h1
theorem XZ {b:Bk}{bad:List Int}:(b.held bad).length<=1000:=by
 have:b.held bad=b.iL bad 1000:=by unfold Bk.held;rfl
 rw[this];exact Zf6 1000
theorem Znh (b:Bk)(hb:b.ok)(item day:Int)(h0:0<=item)(h1:item<b.items.length):aC prog 64 [b.pv,.i item,.i day] (.bool (b.qM item day)):=by
 obtain⟨j,hj,xP,z,hz,F2,qF⟩:=Nj h0 h1;have gP:=hb.c;obtain⟨P,hP⟩:∃P:Ct->Bool,P=fun o=>decide (o.it=item)&&o.on day&&(b.held []).contains o.num:=⟨_,rfl⟩
 have hT:b.qM item day=(z.gZ||(b.aA.take b.aA.length).any P):=by
  rw[nD,<-F2];unfold Bk.qM;rw[Zj9 hb];congr 1;rw[rB,pB,pB];constructor
  .rintro⟨o,ho,h⟩;refine⟨o,ho,?_⟩;rw[hP];simp only[Bk.qA,dK]at h ⊢;exact⟨h.1.2,h.2⟩
  .rintro⟨o,ho,h⟩;refine⟨o,ho,?_⟩;rw[hP]at h;have nS:=(xE hb ho).2.1;simp only[Bk.qA,dK,decide_eq_true_eq]at h ⊢;exact⟨⟨by omega,h.1⟩,h.2⟩
 rw[hT];clear hT;have hlen:=XZ (b:=b) (bad:=[]);have N7:=Zhn b hb;refine cS L64 ?_;cases hs:z.gZ
 case true=>
  rw[hs]at qF;simp[L64,Bk.pv,aS,aK,hj,qF]
 case false=>
 rw[hs]at qF;simp[-List.take_length,L64,Bk.pv,aS,aK,hj,qF];refine .inl (cQ [] [b.pv,.emp (some true)] N7 ?_);generalize b.held []=H at *;simp[-List.take_length,aL];subst hj;refine eP (fun n τ=>∃k:Nat,k<=b.aA.length/\n=b.aA.length-k/\(b.aA.take k).any P=false/\τ=⟨[(1,.pv (.i j)),(2,.pv (.i day)),(3,.ptr (.loc 3 0) 0),(7,.pv (.aF false 1 (H.map aO))),(8,.pv (.i k))],[(.loc 3 0,.cells b.cells)]⟩)
  ⟨b.aA.length,⟨[(1,.pv (.i j)),(2,.pv (.i day)),(3,.ptr (.loc 3 0) 0),(7,.pv (.aF false 1 (H.map aO))),(8,.pv (.i 0))],[(.loc 3 0,.cells b.cells)]⟩,Sub.mk (by simp) (by simp[Bk.cells,aS,aK]),0,by omega,rfl,rfl,rfl⟩ ?_
 rintro J hJ n τ ⟨k,hk,rfl,hinv,rfl⟩;by_cases aI:k<b.aA.length
 .obtain⟨o,ho,M5,qG⟩:=zX aI;have hw:=bK (k:=k) (by omega);have aB:=fun h:P o=false=>hJ _ _ ⟨k+1,aI,rfl,(by rw[XY ho,hinv,h];rfl),rfl⟩
  have QE:P o=true->(b.aA.take b.aA.length).any P=true:=fun h=>by
   rw[nD,pB];exact⟨o,M5,h⟩
  have aH:b.aA.length-(k+1)<b.aA.length-k:=by omega
  have hv:=Zfp o day (Zej hb M5);have hh:=wO H o.num (by omega);have H9:P o=(decide (o.it=(j:Int))&&o.on day&&H.contains o.num):=by rw[hP]
  generalize(b.aA.take b.aA.length).any P=T at *;clear hJ hP;cases e1:decide (o.it=(j:Int))
  .have aB:=aB (by rw[H9,e1];rfl);simp[-getElem?_pos,-List.getElem?_map,-decide_eq_true_eq,-decide_eq_false_iff_not,Bk.cells,aS,aK,aI,qG,hw,e1];exact⟨_,_,aH,Sub.mk (by simp) (by simp[Bk.cells,aS,aK]),aB⟩
  simp[-getElem?_pos,-List.getElem?_map,-decide_eq_true_eq,-decide_eq_false_iff_not,Bk.cells,aS,aK,aI,qG,e1];refine cG [o.pv,.i day] hv ?_;cases e2:o.on day
  .have aB:=aB (by rw[H9,e1,e2];rfl);simp[-decide_eq_true_eq,-decide_eq_false_iff_not,hw];exact⟨_,_,aH,Sub.mk (by simp) (by simp[Bk.cells,aS,aK]),aB⟩
  simp[-decide_eq_true_eq,-decide_eq_false_iff_not,Bk.cells,aS,aK,aI,qG,hw,e1];refine cG [.aF false 1 (H.map aO),.i o.num] hh ?_;cases e3:H.contains o.num
  .have aB:=aB (by rw[H9,e1,e2,e3];rfl);simp[-decide_eq_true_eq,-decide_eq_false_iff_not,Bk.cells,aS,aK,aI,qG,hw,e1];exact⟨_,_,aH,Sub.mk (by simp) (by simp[Bk.cells,aS,aK]),aB⟩
  have hT:=QE (by rw[H9,e1,e2,e3];rfl);subst hT;simp[-decide_eq_true_eq,-decide_eq_false_iff_not]
 have he:k=b.aA.length:=by omega
 subst he;rw[hinv];simp[Bk.cells,aS,aK]
end
section
theorem Zty {a b:Int}:(if a<b then b else a)=max a b:=by
 rw[Int.max_def];split<;>split<;>omega
theorem Ztx {a b:Int}:(if b<a then b else a)=min a b:=by
 rw[Int.min_def];split<;>split<;>omega
def AD (S:Int->Cr)(H:List Int)(i:Nat):PV:=if i<2000 then(.i (if i%2=0 then(S ((i / 2:Nat):Int)).lo else(S ((i / 2:Nat):Int)).hi))else .aF false 1 (H.map aO)
def sL (S:Int->Cr)(H:List Int):List AV:=(List.range 2001).map fun i:Nat=>.pv (AD S H i)
variable {S:Int->Cr}{H:List Int}
theorem Iv:(sL S H).length=2001:=by unfold sL;simp
theorem KQ {i:Nat}(h:i<2001):(sL S H)[i]?=some (.pv (AD S H i)):=by
 unfold sL;rw[bY,List.getElem?_range h];rfl
theorem Zc8:(sL S H)[2000]?=some (.pv (.aF false 1 (H.map aO))):=by
 rw[KQ (by omega)];unfold AD;rw[if_neg (by omega)]
theorem Zut {n:Nat}(h:n<1000):AD S H (n*2)=.i (S n).lo:=by
 unfold AD;rw[if_pos (by omega),if_pos (by omega),show n*2 / 2=n by omega]
theorem Zuu {n:Nat}(h:n<1000):AD S H (n*2+1)=.i (S n).hi:=by
 unfold AD;rw[if_pos (by omega),if_neg (by omega),show(n*2+1) / 2=n by omega]
theorem Zsn {n:Nat}(h:n<1000):((sL S H).drop (n*2)).take 2=[.pv (.i (S n).lo),.pv (.i (S n).hi)]:=by
 apply List.ext_getElem?;intro k;rw[mH]
 match k with
 |0=>rw[if_pos (by omega),mW,Nat.add_zero,KQ (by omega),Zut h];rfl
 |1=>rw[if_pos (by omega),mW,KQ (by omega),Zuu h];rfl
 |k+2=>rw[if_neg (by omega)];rfl
theorem Zsm {n:Nat}(h:n<1000){a:Cr}:aR (sL S H) (n*2) [.pv (.i a.lo),.pv (.i a.hi)]=sL (fun m=>if m=(n:Int)then a else S m) H:=by
 unfold aR;apply List.ext_getElem?;intro k;have hl:((sL S H).take (n*2)).length=n*2:=by rw[gM,Iv];omega
 have rJ:([AV.pv (.i a.lo),AV.pv (.i a.hi)]:List AV).length=2:=rfl;by_cases h1:k<n*2
 .rw[I3,List.getElem?_append_left (by omega),mH,if_pos h1,KQ (by omega),KQ (by omega)];unfold AD;simp only;rw[if_neg (by omega:¬(((k / 2:Nat):Int)=(n:Int)))]
 .by_cases h2:k<n*2+2
  .rw[List.getElem?_append_left (by rw[gF,hl,rJ];omega),List.getElem?_append_right (by omega),hl,KQ (by omega)];unfold AD;simp only;rw[if_pos (by omega:k<2000),if_pos (by omega:((k / 2:Nat):Int)=(n:Int))];rcases(by omega:k=n*2\/k=n*2+1)with rfl|rfl
   .rw[Nat.sub_self,if_pos (by omega)];rfl
   .rw[show n*2+1-n*2=1 by omega,if_neg (by omega)];rfl
  .rw[List.getElem?_append_right (by rw[gF,hl,rJ];omega),gF,hl,rJ,mW,show n*2+2+(k-(n*2+2))=k by omega];by_cases h3:k<2001
   .rw[KQ h3,KQ h3];unfold AD;simp only;rw[if_neg (by omega:¬(((k / 2:Nat):Int)=(n:Int)))]
   .rw[List.getElem?_eq_none (by rw[Iv];omega),List.getElem?_eq_none (by rw[Iv];omega)]
theorem Zfg (d:Nat):AV.rC d (sL S H)=false:=ZfJ _
theorem Zfh (q:Site->Bool):AV.hZ q (sL S H)=true:=ZfK _
theorem ZcK (d:Nat):(sL S H).map (AV.bG d)=sL S H:=ZfH _
theorem Zff (g:Site->Site):AV.iT g (sL S H)=sL S H:=ZfI _
attribute [irreducible] sL
attribute [local irreducible] Bk.held Bk.nums Bk.iL Bk.span
attribute [simp] Zfg Zfh ZcK Zff Zc8 Iv
def P5 (S:Int->Cr)(H:List Int):List aJ:=[.cells (sL S H)]
def CA (b:Bk)(item day below:Int)(z:It)(S:Int->Cr)(H:List Int)(r:Cr)(k:Nat):AS:=⟨[(1,.ptr (.par 0) 0),(2,.pv (.i item)),(3,.pv (.i day)),(4,.pv (.i below)),(5,.ptr (.loc 5 0) 0),(10,.ptr (.loc 10 0) 0),(11,.ptr (.loc 11 0) 0),(12,.ptr (.loc 12 0) 0),(13,.pv (.i k))],
 [(.loc 12 0,.cells [.pv (.i r.lo),.pv (.i r.hi)]),(.loc 11 0,.cells [.pv (.i z.dR),.pv (.bool false),.pv (.i z.val.lo),.pv (.i z.val.hi)]),(.loc 10 0,.cells [.pv (.i 0),.pv (.i 0)]),(.loc 5 0,.cells b.cells),(.par 0,.cells (sL S H))]⟩
theorem Zjj (b:Bk)(hb:b.ok)(S:Int->Cr)(H:List Int)(hH:H.length<=1000)(item day below:Int)(h0:0<=item)(h1:item<b.items.length)(hd:0<=day/\day<=1000)(hS:∀c∈b.aA,c.num∈H->(S c.num).lW 1000000000000):
  cU prog 114 [.pv b.pv,.ptr (.par 0) 0,.pv (.i item),.pv (.i day),.pv (.i below)] (laid 0 (P5 S H)) (fun r B=>r=.pv (b.kJ H S item day below).pv/\B=laid 0 (P5 S H)):=by
 obtain⟨j,hj,xP,z,hz,F2,qF⟩:=Nj h0 h1;have gP:=hb.c;obtain⟨d0,d1,_,_⟩:=ZhK hb h0 h1;rw[F2]at d0 d1;obtain⟨R,hR⟩:∃R,b.kJ H S item day below=R:=⟨_,rfl⟩;rw[hR];refine cB [.par 0] L114 ?_;cases hs:z.gZ
 case true=>
  have hv:R=z.val:=by rw[<-hR];unfold Bk.kJ;rw[F2,if_pos hs]
  rw[hs]at qF;subst hj;simp[L114,Bk.pv,aS,aK,laid,P5,qF];rw[hv];rfl
 case false=>
 rw[hs]at qF;obtain⟨Q,hQ⟩:∃Q:Ct->Bool,Q=fun c=>Bk.qA item day below c&&H.contains c.num:=⟨_,rfl⟩
 obtain⟨F,hF⟩:∃F:Cr->Ct->Cr,F=fun r c=>r.cut ((S c.num).wider (z.dR*(day-c.day))):=⟨_,rfl⟩
 have Kw:R=((b.aA.take b.aA.length).filter Q).foldl F I7:=by
  rw[<-hR,Iz (by rw[F2];exact hs),nD,hQ,hF,F2]
 clear hR;subst Kw;obtain⟨E,hE⟩:∃E:Nat->Cr,E=fun k=>((b.aA.take k).filter Q).foldl F I7:=⟨_,rfl⟩
 have hEe:((b.aA.take b.aA.length).filter Q).foldl F I7=E b.aA.length:=by rw[hE]
 rw[hEe];have hE0:E 0=I7:=by rw[hE];rfl
 have Wv:∀(k:Nat) (o:Ct),b.aA[k]?=some o->E (k+1)=if Q o=true then F (E k) o else E k:=fun k o ho=>by
  rw[hE];simp only;rw[mV,ho,I2,List.foldl_append];cases hq:Q o<;>simp[hq]
 clear hE hEe;subst hj;simp[L114,Bk.pv,aS,aK,laid,P5,qF,-aT];refine eP (fun n τ=>∃k:Nat,k<=b.aA.length/\n=b.aA.length-k/\τ=CA b j day below z S H (E k) k) ⟨b.aA.length,CA b j day below z S H (E 0) 0,Sub.mk (by simp) (by simp[Bk.cells,aS,aK,hE0,I7]),0,by omega,rfl,rfl⟩ ?_;rintro J hJ n τ ⟨k,hk,rfl,rfl⟩;by_cases aI:k<b.aA.length
 .obtain⟨o,ho,M5,qG⟩:=zX aI;have hw:=bK (k:=k) (by omega);have aB:=hJ _ _ ⟨k+1,aI,rfl,rfl⟩;rw[Wv k o ho]at aB;have aH:b.aA.length-(k+1)<b.aA.length-k:=by omega
  have hv:=Zfp o day (Zej hb M5);have hh:=wO H o.num (by omega);have WL:Q o=(decide (o.num<below)&&(decide (o.it=(j:Int))&&o.on day)&&H.contains o.num):=by rw[hQ];rfl
  have hSo:=hS o M5;have jR:=xE hb M5;have hFo:F (E k) o=(E k).cut ((S o.num).wider (z.dR*(day-o.day))):=by rw[hF]
  have DO:=Zb hb M5 (day:=day);generalize E k=R at *;clear hJ hQ hF Wv hS;obtain⟨on,oi,os,od,ov,⟨ol,oh⟩⟩:=o;simp only at jR qG WL DO hSo hFo;have GB:decide (below<=on)=!(decide (on<below)):=by
   rw[rB];simp
  cases e1:decide (oi=(j:Int))
  .have hq:¬(Q ⟨on,oi,os,od,ov,⟨ol,oh⟩⟩=true):=by rw[WL,e1];simp
   rw[if_neg hq]at aB;simp[-getElem?_pos,-List.getElem?_map,-decide_eq_true_eq,-decide_eq_false_iff_not,CA,Bk.cells,aS,aK,aI,qG,hw,e1,-aT];exact⟨_,_,aH,Sub.mk (by simp) (by simp[Bk.cells,aS,aK]),aB⟩
  cases e2:decide (on<below)
  .have hq:¬(Q ⟨on,oi,os,od,ov,⟨ol,oh⟩⟩=true):=by rw[WL,e2];simp
   rw[if_neg hq]at aB;rw[e2]at GB;simp[-getElem?_pos,-List.getElem?_map,-decide_eq_true_eq,-decide_eq_false_iff_not,CA,Bk.cells,aS,aK,aI,qG,hw,e1,GB,-aT];exact⟨_,_,aH,Sub.mk (by simp[CA]) (by simp[CA,Bk.cells,aS,aK]),aB⟩
  rw[e2]at GB;simp[-getElem?_pos,-List.getElem?_map,-decide_eq_true_eq,-decide_eq_false_iff_not,CA,Bk.cells,aS,aK,aI,qG,e1,GB,-aT];refine BI (k:=0) (fs:=[]) (xs:=[Ct.pv ⟨on,oi,os,od,ov,⟨ol,oh⟩⟩,.i day]) (cs:=[]) rfl rfl hv rfl ?_;cases e3:Ct.on ⟨on,oi,os,od,ov,⟨ol,oh⟩⟩ day
  .have hq:¬(Q ⟨on,oi,os,od,ov,⟨ol,oh⟩⟩=true):=by rw[WL,e3];simp
   rw[if_neg hq]at aB;simp[-decide_eq_true_eq,-decide_eq_false_iff_not,hw,-aT];exact⟨_,_,aH,Sub.mk (by simp) (by simp[Bk.cells,aS,aK]),aB⟩
  simp[-getElem?_pos,-List.getElem?_map,-decide_eq_true_eq,-decide_eq_false_iff_not,-aT];refine cG [.aF false 1 (H.map aO),.i on] hh ?_;cases e4:H.contains on
  .have hq:¬(Q ⟨on,oi,os,od,ov,⟨ol,oh⟩⟩=true):=by rw[WL,e4];simp
   rw[if_neg hq]at aB;simp[-decide_eq_true_eq,-decide_eq_false_iff_not,CA,Bk.cells,aS,aK,aI,qG,hw,-aT];exact⟨_,_,aH,Sub.mk (by simp[CA]) (by simp[CA,Bk.cells,aS,aK]),aB⟩
  have hq:Q ⟨on,oi,os,od,ov,⟨ol,oh⟩⟩=true:=by rw[WL,e1,e2,e3,e4];rfl
  rw[if_pos hq,hFo]at aB;have Q0:=hSo (jI.1 e4);have E9:=DO e3;rw[of_decide_eq_true e1,F2]at E9;unfold Cr.lW at Q0;have w1:IntKind.i64.wrap (day-od)=day-od:=wrap64 (by omega);obtain⟨far,NI⟩:∃far,z.dR*(day-od)=far:=⟨_,rfl⟩;rw[NI]at aB E9;have w2:IntKind.i64.wrap (z.dR*(day-od))=far:=by rw[NI];exact wrap64 (by omega)
  obtain⟨nn,rfl⟩:∃nn:Nat,on=nn:=⟨on.toNat,by omega⟩;have M6:nn<1000:=by omega
  have Tj:=Zsn (S:=S) (H:=H) M6;have tB:nn*2<=1999:=by omega
  have w3:IntKind.i64.wrap ((S nn).lo-far)=(S nn).lo-far:=wrap64 (by omega);have w4:IntKind.i64.wrap ((S nn).hi+far)=(S nn).hi+far:=wrap64 (by omega);unfold Cr.cut Cr.wider Cr.plus at aB;simp only[<-Int.sub_eq_add_neg]at aB;clear Q0 E9 NI hq e1 e2 e3 e4;simp[-decide_eq_true_eq,-decide_eq_false_iff_not,hw,w1,w2,w3,w4,Tj,tB,M6,bV,aN,-aT];exact⟨_,_,aH,Sub.mk (by simp) (by simp[Bk.cells,aS,aK,Zty,Ztx]),aB⟩
 have he:k=b.aA.length:=by omega
 subst he;clear hJ Wv hF hQ;generalize E b.aA.length=R at *;simp[CA,Bk.cells,aS,aK,-aT];simp[Cr.pv]
end
section
def Bk.xZ (b:Bk)(k:Nat)(m:Int):Cr:=if((b.held []).take k).contains m=true then b.span (b.held []) m else⟨0,0⟩
theorem ZmI {b:Bk}{held:List Int}{m:Int}(h:held.contains m=false):b.span held m=⟨0,0⟩:=by
 have key:∀k,b.GL held k m=⟨0,0⟩:=fun k=>by
  induction k with
  |zero=>rfl
  |succ k ih=>
   rw[Zeo];split
   .rw[if_neg (by rw[h];simp)]
   .exact ih
 exact key 1000
theorem ZjE {b:Bk}{bad:List Int}:(b.held bad).Pairwise (·<·):=(ZcT 1000).1
attribute [local irreducible] Bk.held Bk.nums Bk.iL Bk.span
theorem Zjg {l:List Int}(hs:l.Pairwise (·<·)){k:Nat}{n x:Int}(h:l[k]?=some n):x∈l.take k↔x∈l/\x<n:=by
 obtain⟨h2,e2⟩:=cD.1 h;have hs:=R3.1 hs;constructor
 .intro hx;obtain⟨i,hi⟩:=iO.1 hx;rw[mH]at hi;split at hi
  .rename_i qX;obtain⟨h1,e1⟩:=cD.1 hi
   have:=hs i k h1 h2 qX
   rw[e1,e2]at this;exact⟨dL hi,this⟩
  .cases hi
 .rintro⟨hx,aI⟩;obtain⟨i,hi⟩:=iO.1 hx;obtain⟨h1,e1⟩:=cD.1 hi;rw[iO];refine⟨i,?_⟩;rw[mH,if_pos,hi];rcases Nat.lt_trichotomy i k with qX|qX|qX
  .exact qX
  .subst qX;rw[e1]at e2;omega
  .have:=hs k i h2 h1 qX
   rw[e1,e2]at this;omega
theorem Zig {b:Bk}{k:Nat}{n:Int}(h:(b.held [])[k]?=some n){m:Int}(hm:m<n):b.xZ k m=b.span (b.held []) m:=by
 unfold Bk.xZ;split
 .rfl
 .rename_i hc;rw[ZmI];cases hx:(b.held []).contains m
  .rfl
  .exact absurd (jI.2 ((Zjg ZjE h).2 ⟨jI.1 hx,hm⟩)) hc
theorem Zpj {b:Bk}:b.xZ (b.held []).length=b.span (b.held []):=by
 funext m;unfold Bk.xZ;rw[nD];split
 .rfl
 .rename_i hc;rw[ZmI (by simpa using hc)]
theorem Zpi {b:Bk}:b.xZ 0=fun _=>⟨0,0⟩:=by
 funext m;unfold Bk.xZ;rw[if_neg (by simp)]
theorem Zhg {b:Bk}{k:Nat}{n:Int}(h:(b.held [])[k]?=some n):(fun m=>if m=n then b.span (b.held []) n else b.xZ k m)=b.xZ (k+1):=by
 funext m;unfold Bk.xZ;rw[mV,h];by_cases e:m=n
 .subst e;rw[if_pos rfl,if_pos (by simp)]
 .rw[if_neg e]
  have:(((b.held []).take k++(some n).toList).contains m)=((b.held []).take k).contains m:=by
   rw[rB,jI,jI,sS];simp[e]
  rw[this]
theorem ZmN {b:Bk}{k:Nat}{n:Int}(h:(b.held [])[k]?=some n):(fun m=>if m=n then b.span (b.held []) n else b.xZ (k+1) m)=b.xZ (k+1):=by
 rw[<-Zhg h];funext m;by_cases e:m=n
 .simp only[if_pos e]
 .simp only[if_neg e]
theorem ZmM {b:Bk}(hb:b.ok){k:Nat}{c:Ct}(hc:c∈b.aA):(b.xZ k c.num).lW 1000000000000:=by
 unfold Bk.xZ;split
 .rename_i h;have hx:c.num∈b.held []:=List.mem_of_mem_take (jI.1 h);have k1:=YP hb c hc hx;have k2:=xE hb hc;unfold Cr.lW at k1 ⊢;omega
 .unfold Cr.lW;simp only;omega
def Bk.uW (b:Bk)(k:Nat)(n:Int)(i:Nat):Int->Cr:=if((b.aA.take i).any fun c=>decide (c.num=n))=true then b.xZ (k+1)else b.xZ k
theorem ZmO {b:Bk}{k:Nat}{n:Int}{i:Nat}(h:(b.held [])[k]?=some n){m:Int}(hm:m<n):b.uW k n i m=b.span (b.held []) m:=by
 unfold Bk.uW;split
 .rw[<-Zhg h];simp only;rw[if_neg (by omega),Zig h hm]
 .exact Zig h hm
theorem Zpl {b:Bk}{k:Nat}{n:Int}{i:Nat}{c:Ct}(hc:b.aA[i]?=some c)(h:decide (c.num=n)=false):b.uW k n (i+1)=b.uW k n i:=by
 unfold Bk.uW;rw[XY hc,h,Bool.or_false]
theorem Zsu {b:Bk}{k:Nat}{n:Int}{i:Nat}{c:Ct}(hk:(b.held [])[k]?=some n)(hc:b.aA[i]?=some c)(h:c.num=n):(fun m=>if m=n then b.span (b.held []) n else b.uW k n i m)=b.uW k n (i+1):=by
 have:b.uW k n (i+1)=b.xZ (k+1):=by
  unfold Bk.uW;rw[XY hc,decide_eq_true h,Bool.or_true,if_pos rfl]
 rw[this];unfold Bk.uW;split
 .exact ZmN hk
 .exact Zhg hk
theorem Zsv {b:Bk}(hb:b.ok){k:Nat}{n:Int}{i:Nat}{c:Ct}(hc:c∈b.aA):(b.uW k n i c.num).lW 1000000000000:=by
 unfold Bk.uW;split
 .exact ZmM hb hc
 .exact ZmM hb hc
theorem Zpn {b:Bk}(hb:b.ok){k:Nat}{n:Int}(hk:(b.held [])[k]?=some n):b.uW k n b.aA.length=b.xZ (k+1):=by
 unfold Bk.uW;rw[if_pos];rw[nD,pB];obtain⟨c,hc,e,_⟩:=(LA hb).1 (dL hk);exact⟨c,hc,by simp[e]⟩
theorem Zpk {b:Bk}{k:Nat}{n:Int}:b.uW k n 0=b.xZ k:=by
 unfold Bk.uW;rw[if_neg (by simp)]
theorem Zpm {b:Bk}(hb:b.ok){k:Nat}{n:Int}{i:Nat}{c:Ct}(hk:(b.held [])[k]?=some n)(hc:c∈b.aA)(h:c.num=n):(b.kJ (b.held []) (b.uW k n i) c.src c.day c.num).plus c.diff=b.span (b.held []) n/\(b.kJ (b.held []) (b.uW k n i) c.src c.day c.num).lW 2000000000:=by
 have hx:(b.held []).contains n=true:=jI.2 (dL hk);have hg:b.get n=c:=by rw[<-h];exact x7 hb hc
 obtain⟨g1,g2⟩:=Zkq hb ((y9 hb).2 ⟨c,hc,h⟩) hx;rw[hg]at g1 g2;have e:b.kJ (b.held []) (b.uW k n i) c.src c.day c.num=b.kJ (b.held []) (b.span (b.held [])) c.src c.day n:=by
  rw[h];exact Zdr fun m hm=>ZmO hk hm
 rw[e];exact⟨g1.symm,g2⟩
theorem Zpe {H:List Int}:List.replicate 2000 (AV.pv (.i 0))++[.pv (.aF false 1 (H.map aO))]=sL (fun _=>⟨0,0⟩) H:=by
 apply List.ext_getElem?;intro k;by_cases h:k<2000
 .rw[List.getElem?_append_left (by rw[List.length_replicate];exact h),List.getElem?_replicate,if_pos h,KQ (by omega)];unfold AD;rw[if_pos h];simp
 .by_cases h2:k=2000
  .subst h2;rw[Zc8];rfl
  .rw[List.getElem?_eq_none (by simp;omega),List.getElem?_eq_none (by rw[Iv];omega)]
def BR (S:Int->Cr)(H:List Int):List PV:=(List.range 2001).map (AD S H)
theorem Zh9 {α:Type}{f:α->PV}:∀l:List α,eD (l.map fun x=>.pv (f x))=some (l.map f)
 |[]=>rfl
 |x::l=>by simp only[iS,eD,Zh9 l]
theorem Zpf {S:Int->Cr}{H:List Int}:eD (sL S H)=some (BR S H):=by
 unfold sL BR;exact Zh9 _
theorem Zpd {S:Int->Cr}{H:List Int}:(BR S H).map AV.pv=sL S H:=by
 unfold sL BR;rw[List.map_map];rfl
theorem ZpF {a b:AV}:List.drop 2001 (List.replicate 2000 a++[b])=[]:=List.drop_of_length_le (by simp)
attribute [irreducible] BR
attribute [local irreducible] Bk.xZ Bk.uW
def S4 (b:Bk)(S:Int->Cr)(k:Nat):AS:=⟨[(1,.ptr (.loc 1 0) 0),(3,.ptr (.loc 11 0) 0),(4,.pv (.i k))],[(.loc 11 0,.cells (sL S (b.held []))),(.loc 1 0,.cells b.cells)]⟩
def ZE (b:Bk)(S:Int->Cr)(k i:Nat):AS:=⟨(5,.pv (.i i))::(S4 b S k).tm,(S4 b S k).bx⟩
theorem Zrw (b:Bk)(hb:b.ok):cU prog 115 [.pv b.pv] [] (fun r B=>r=.ptr (.ret 0) 0/\B=[(.ret 0,.cells (sL (b.span (b.held [])) (b.held [])))]):=by
 have hlen:=XZ (b:=b) (bad:=[]);have gP:=hb.c;have N7:=Zhn b hb;refine cE L115 ?_;generalize hR:(fun(r:AV) (B:List (Site×aJ))=>r=.ptr (.ret 0) 0/\B=[(.ret 0,.cells (sL (b.span (b.held [])) (b.held [])))])=R;simp[-List.reduceReplicate,L115,Bk.pv,-aT];refine .inl (cQ [] [b.pv,.emp (some true)] N7 ?_);have hz:=Zpe (H:=b.held []);simp[-List.take_length,-List.reduceReplicate,aL,hz,ZpF,Zpf,Zpd,-aT];refine eP (fun m τ=>∃k:Nat,k<=(b.held []).length/\m=(b.held []).length-k/\τ=S4 b (b.xZ k) k) ⟨(b.held []).length,S4 b (b.xZ 0) 0,Sub.mk (by simp) (by simp[Bk.cells,Zpi]),0,by omega,rfl,rfl⟩ ?_;rintro J hJ m τ ⟨k,hk,rfl,rfl⟩;by_cases aI:k<(b.held []).length
 .obtain⟨n,hn⟩:∃n,(b.held [])[k]?=some n:=⟨_,bC aI⟩;have Kv:((b.held []).map aO)[k]?=some (.i n):=by rw[bY,hn];rfl
  have hw:=bK (k:=k) (by omega);have aB:=hJ _ _ ⟨k+1,aI,rfl,rfl⟩;have aH:(b.held []).length-(k+1)<(b.held []).length-k:=by omega
  clear hJ;simp[-getElem?_pos,-List.getElem?_map,S4,Bk.cells,aI,-aT];refine eP (fun m τ=>∃i:Nat,i<=b.aA.length/\m=b.aA.length-i/\τ=ZE b (b.uW k n i) k i) ⟨b.aA.length,ZE b (b.uW k n 0) k 0,Sub.mk (by simp[S4]) (by simp[S4,Bk.cells,Zpk]),0,by omega,rfl,rfl⟩ ?_;rintro J2 sR m τ ⟨i,hi,rfl,rfl⟩;by_cases kN:i<b.aA.length
  .obtain⟨o,ho,M5,qG⟩:=zX kN;have CT:=bK (k:=i) (by omega);have cH:=sR _ _ ⟨i+1,kN,rfl,rfl⟩;have iJ:b.aA.length-(i+1)<b.aA.length-i:=by omega
   clear sR aB;cases e1:decide (o.num=n)
   .rw[Zpl ho e1]at cH;simp[-getElem?_pos,-List.getElem?_map,-decide_eq_true_eq,-decide_eq_false_iff_not,ZE,S4,Bk.cells,aS,aK,kN,qG,Kv,CT,e1,-aT];exact⟨_,_,iJ,Sub.mk (by simp[S4]) (by simp[S4,Bk.cells,aS,aK]),cH⟩
   have Lf:o.num=n:=of_decide_eq_true e1;have jR:=xE hb M5;obtain⟨g1,g2⟩:=Zpm (i:=i) hb hn M5 Lf;have nJ:=Zsu (i:=i) hn ho Lf;have mS:=Zjj b hb (b.uW k n i) (b.held []) (by omega) o.src o.day o.num jR.2.2.2.2.2.1 jR.2.2.2.2.2.2.1 ⟨jR.2.2.2.2.2.2.2.2.1,jR.2.2.2.2.2.2.2.2.2.1⟩ (fun c hc _=>Zsv hb hc);obtain⟨nn,Ue⟩:∃nn:Nat,n=nn:=⟨n.toNat,by omega⟩;have M6:nn<1000:=by omega
   rw[<-nJ]at cH;generalize b.uW k n i=S at *;generalize b.span (b.held []) n=T at *;obtain⟨R,Kw⟩:∃R,b.kJ (b.held []) S o.src o.day o.num=R:=⟨_,rfl⟩;rw[Kw]at g1 g2 mS;clear Kw nJ;have Dq:=jR.2.2.2.2.2.2.2.2.2.2.2.2.1;unfold Cr.lW at Dq g2;have w1:IntKind.i64.wrap (R.lo+o.diff.lo)=T.lo:=by rw[<-g1];exact wrap64 (by omega)
   have w2:IntKind.i64.wrap (R.hi+o.diff.hi)=T.hi:=by rw[<-g1];exact wrap64 (by omega)
   clear jR Dq g1 g2;subst Ue;have jQ:=Zsm (S:=S) (H:=b.held []) M6 (a:=T);have tB:nn*2<=1999:=by omega
   simp[-getElem?_pos,-List.getElem?_map,-decide_eq_true_eq,-decide_eq_false_iff_not,ZE,S4,Bk.cells,aS,aK,kN,qG,Kv,Lf,-aT];refine xU (gG:=[.pv b.pv,.ptr (.par 0) 0,.pv (.i o.src),.pv (.i o.day),.pv (.i nn)]) (B:=laid 0 (P5 S (b.held []))) (fs:=[]) (cs:=[]) 51 [.loc 11 0] ?_ rfl rfl ?_ ?_ ?_ (by rw[Lf]at mS;exact mS) ?_
   .simp
   .simp[laid,P5]
   .rfl
   .rfl
   rintro r0 B0 ⟨rfl,rfl⟩;refine⟨rfl,by simp[laid,P5],?_⟩;simp[-decide_eq_true_eq,-decide_eq_false_iff_not,laid,P5,Cr.pv,w1,w2,M6,bV,aN,tB,CT,-aT];exact⟨_,_,iJ,Sub.mk (by simp[S4]) (by simp[S4,Bk.cells,aS,aK];rw[<-jQ];simp[aR]),cH⟩
  have he:i=b.aA.length:=by omega
  subst he;clear sR;rw[Zpn hb hn];simp[ZE,S4,Bk.cells,aS,aK,hw,-aT];exact⟨_,_,aH,Sub.mk (by simp) (by simp[Bk.cells,aS,aK]),aB⟩
 have he:k=(b.held []).length:=by omega
 subst he;clear hJ;rw[Zpj];simp[-getElem?_pos,-List.getElem?_map,S4,Bk.cells,-aT];refine⟨[.loc 11 0],?_⟩;simp;rw[<-hR];exact⟨rfl,rfl⟩
end
section
attribute [local irreducible] Bk.held Bk.nums Bk.iL Bk.span
theorem Zif {b:Bk}(hb:b.ok){c:Ct}(hc:c∈b.aA)(h:c.num∈b.held []):(b.span (b.held []) c.num).lW 1000000000000:=by
 have k1:=YP hb c hc h;have k2:=xE hb hc;unfold Cr.lW at k1 ⊢;omega
theorem Znn (b:Bk)(hb:b.ok):aC prog 157 [b.pv] (.bool b.contra):=by
 have hlen:=XZ (b:=b) (bad:=[]);have gP:=hb.c;have K6:=Zrw b hb;obtain⟨P,hP⟩:∃P:Ct->Bool,P=fun c=>(b.held []).contains c.num&&decide ((b.kJ (b.held []) (b.span (b.held [])) c.it c.day 1000).hi<(b.kJ (b.held []) (b.span (b.held [])) c.it c.day 1000).lo):=⟨_,rfl⟩
 have hT:b.contra=(b.aA.take b.aA.length).any P:=by
  rw[nD,hP];rfl
 rw[hT];clear hT;obtain⟨T,hT⟩:∃T,(b.aA.take b.aA.length).any P=T:=⟨_,rfl⟩;rw[hT];refine cS L157 ?_;simp[L157,Bk.pv];refine xU (gG:=[.pv b.pv]) (B:=[]) (fs:=[]) (cs:=[]) 8 [] ?_ rfl rfl rfl ?_ ?_ K6 ?_
 .simp
 .rfl
 .rfl
 rintro r0 B0 ⟨rfl,rfl⟩;refine⟨rfl,by simp,?_⟩;simp;refine eP (fun m τ=>∃k:Nat,k<=b.aA.length/\m=b.aA.length-k/\(b.aA.take k).any P=false/\τ=⟨[(1,.ptr (.loc 1 0) 0),(3,.ptr (.loc 8 0) 0),(4,.pv (.i k))],[(.loc 8 0,.cells (sL (b.span (b.held [])) (b.held []))),(.loc 1 0,.cells b.cells)]⟩)
  ⟨b.aA.length,⟨[(1,.ptr (.loc 1 0) 0),(3,.ptr (.loc 8 0) 0),(4,.pv (.i 0))],[(.loc 8 0,.cells (sL (b.span (b.held [])) (b.held []))),(.loc 1 0,.cells b.cells)]⟩,Sub.mk (by simp) (by simp[Bk.cells]),0,by omega,rfl,rfl,rfl⟩ ?_
 rintro J hJ m τ ⟨k,hk,rfl,hinv,rfl⟩;by_cases aI:k<b.aA.length
 .obtain⟨o,ho,M5,qG⟩:=zX aI;have hw:=bK (k:=k) (by omega);have aB:=fun h:P o=false=>hJ _ _ ⟨k+1,aI,rfl,(by rw[XY ho,hinv,h];rfl),rfl⟩
  have QE:P o=true->T=true:=fun h=>by
   rw[<-hT,nD,pB];exact⟨o,M5,h⟩
  have aH:b.aA.length-(k+1)<b.aA.length-k:=by omega
  have jR:=xE hb M5;have hh:=wO (b.held []) o.num (by omega);have H9:P o=((b.held []).contains o.num&&decide ((b.kJ (b.held []) (b.span (b.held [])) o.it o.day 1000).hi<(b.kJ (b.held []) (b.span (b.held [])) o.it o.day 1000).lo)):=by rw[hP]
  have mS:=Zjj b hb (b.span (b.held [])) (b.held []) (by omega) o.it o.day 1000 jR.2.2.1 jR.2.2.2.1 ⟨jR.2.2.2.2.2.2.2.2.1,jR.2.2.2.2.2.2.2.2.2.1⟩ (fun c hc h=>Zif hb hc h);generalize b.span (b.held [])=S at *;generalize b.kJ (b.held []) S o.it o.day 1000=R at *;clear hJ hP jR;simp[-getElem?_pos,-List.getElem?_map,-decide_eq_true_eq,-decide_eq_false_iff_not,Bk.cells,aS,aK,aI,qG];refine xU (gG:=[.pv b.pv,.ptr (.par 0) 0,.pv (.i o.it),.pv (.i o.day),.pv (.i 1000)]) (B:=laid 0 (P5 S (b.held []))) (fs:=[]) (cs:=[]) 27 [.loc 8 0] ?_ rfl rfl ?_ ?_ ?_ mS ?_
  .simp
  .simp[laid,P5]
  .rfl
  .rfl
  rintro r0 B0 ⟨rfl,rfl⟩;refine⟨rfl,by simp[laid,P5],?_⟩;simp[-getElem?_pos,-List.getElem?_map,-decide_eq_true_eq,-decide_eq_false_iff_not,laid,P5,Cr.pv];refine BI (k:=0) (fs:=[]) (xs:=[.aF false 1 ((b.held []).map aO),.i o.num]) (cs:=[]) rfl rfl hh rfl ?_;cases e1:(b.held []).contains o.num
  .have aB:=aB (by rw[H9,e1];rfl);simp[-decide_eq_true_eq,-decide_eq_false_iff_not,hw];exact⟨_,_,aH,Sub.mk (by simp) (by simp[Bk.cells,aS,aK]),aB⟩
  cases e2:decide (R.hi<R.lo)
  .have aB:=aB (by rw[H9,e1,e2];rfl);simp[-decide_eq_true_eq,-decide_eq_false_iff_not,hw,e2];exact⟨_,_,aH,Sub.mk (by simp) (by simp[Bk.cells,aS,aK]),aB⟩
  have Ea:=QE (by rw[H9,e1,e2];rfl);subst Ea;simp[-decide_eq_true_eq,-decide_eq_false_iff_not,e2]
 have he:k=b.aA.length:=by omega
 subst he;rw[hinv]at hT;subst hT;simp[Bk.cells,aS,aK]
end


section
attribute [local irreducible] Bk.held Bk.nums Bk.iL Bk.span
end
section

attribute [local irreducible] Bk.held Bk.nums Bk.iL Bk.span
section
variable {b b':Bk}{t:Int}
theorem ZtK (hb:b.ok){item day:Int}(h:b.qM item day=true):(b.item item).gZ=true\/∃o∈b.aA,Bk.qA item day 1000 o=true/\o.num∈b.held []:=by
 unfold Bk.qM at h;rw[sD,Zj9 hb,pB]at h;rcases h with h|⟨o,ho,h⟩
 .exact .inl h
 .rw[dK,jI]at h;exact .inr ⟨o,ho,h.1,h.2⟩
theorem Zrl {item day:Int}(h:b.vD item day=0):b.qM item day=true:=by
 unfold Bk.vD at h;split at h
 .split at h
  .split at h
   .assumption
   .cases h
  .cases h
 .rename_i h0;exact absurd h h0
theorem Zrk {item day:Int}(h:b.vD item day=0):0<=item/\item<b.items.length/\0<=day/\day<=1000:=by
 unfold Bk.vD at h;split at h
 .split at h
  .rename_i h1;unfold Bk.uT jD at h1;simp only[dK,decide_eq_true_eq]at h1;omega
  .cases h
 .rename_i h0;exact absurd h h0
theorem ZmL (hb:b.ok)(item day:Int):(b.vF item day).1.lW 1000000000:=by
 unfold Bk.vF;split
 .rename_i h;split
  .unfold Cr.lW;simp only;omega
  .obtain⟨h1,h2,_⟩:=Zrk h
   have:=ZhL hb (held:=b.held []) (S:=b.span (b.held [])) (item:=item) (day:=day) (below:=1000) (A:=300000*1000) h1 h2 (by omega) (by omega) (ZtK hb (Zrl h)) (fun o ho _ QV=>by
    have:=YP hb o ho QV
    have:=(xE hb ho).2.1
    unfold Cr.lW at *
    omega)
   show Cr.lW (b.kJ (b.held []) (b.span (b.held [])) item day 1000) 1000000000;unfold Cr.lW at *;omega
 .unfold Cr.lW;simp only;omega
end
end
section
attribute [local irreducible] Bk.rD eL
theorem Zjw {y x:Int}{r:List Int}(h:y<x):dJ (y::r) x=dJ r x+1:=by
 unfold dJ;rw[xT,if_pos (by simpa using h)];rfl
theorem Zjx {y x:Int}{r:List Int}(hs:(y::r).Pairwise (·<·))(h:¬y<x):dJ (y::r) x=0:=by
 obtain⟨h1,_⟩:=I1.1 hs;unfold dJ;rw[xT,if_neg (by simpa using h)];rw[List.length_eq_zero_iff,List.filter_eq_nil_iff];intro z hz
 have:=h1 z hz
 simp;omega
theorem XL {l:List Int}{x:Int}:dJ l x<=l.length:=Q7 _ _
def lQ {α:Type}(l:List α)(i:Nat)(x:α):List α:=l.take i++x::l.drop i
theorem Hk {α:Type}{l:List α}{i:Nat}{x z:α}:z∈lQ l i x↔z=x\/z∈l:=by
 unfold lQ;rw[sS,jT];constructor
 .rintro(h|h|h)
  .exact .inr (List.mem_of_mem_take h)
  .exact .inl h
  .exact .inr (List.mem_of_mem_drop h)
 .rintro(h|h)
  .exact .inr (.inl h)
  .rw[<-List.take_append_drop i l]at h;rcases sS.1 h with h|h
   .exact .inl h
   .exact .inr (.inr h)
theorem UE {α:Type}{l:List α}{i:Nat}{x:α}(h:i<=l.length):(lQ l i x).length=l.length+1:=by
 unfold lQ;rw[gF,pI,gM,uQ];omega
theorem ZhN {α β:Type}{f:α->β}{l:List α}{i:Nat}{x:α}:(lQ l i x).map f=lQ (l.map f) i (f x):=by
 unfold lQ;rw[mL,iS,List.map_take,List.map_drop]
theorem ZdA {x:Int}:∀{l:List Int},l.Pairwise (·<·)->x∉l->(lQ l (dJ l x) x).Pairwise (·<·)
 |[],_,_=>by simp[lQ,dJ]
 |y::r,hs,hn=>by
  obtain⟨h1,h2⟩:=I1.1 hs;by_cases hy:y<x
  .rw[Zjw hy];have ih:=ZdA h2 (fun h=>hn (List.mem_cons_of_mem _ h));show(y::lQ r (dJ r x) x).Pairwise (·<·);refine I1.2 ⟨fun z hz=>?_,ih⟩;rcases Hk.1 hz with rfl|h
   .exact hy
   .exact h1 z h
  .rw[Zjx hs hy];show(x::y::r).Pairwise (·<·);have Be:x<y:=by
    have:x≠y:=fun e=>hn (by rw[e];exact List.mem_cons_self ..)
    omega
   refine I1.2 ⟨fun z hz=>?_,hs⟩;rcases jT.1 hz with rfl|h
   .exact Be
   .have:=h1 z h;omega
structure sI (k:Nat)(st:Wk):Prop where
 c:st.aA.length<=k
 b:st.bad.length<=k
 l:st.aM.length<=k
 t:st.aG.length<=k
 r:st.runs.length<=k
 bk:Bk.ok ⟨rE,st.aA⟩
 bs:st.bad.Pairwise (·<·)
 bn:∀n∈st.bad,∃y∈st.aA,y.num=n
 s:(st.aM.map Lt.num).Pairwise (·<·)
 lt:∀x∈st.aM,wA x/\0<=x.limit/\x.limit<=1000
 tt:∀t∈st.aG,2<=t.item/\t.item<=5/\0<=t.day/\t.day<=1000/\0<=t.rd/\t.rd<=2000/\∃x∈st.aM,x.num=t.fU
 on:∀r∈st.runs,∃h q o,r=pQ h q o/\1<=h/\h<=40/\0<=q/\q<=40/\1<=o/\o<=3
 r6:st.runs.length<=6
theorem ZiI:Bk.ok ⟨rE,[]⟩:=Bk.R6.1 (by decide)
theorem tK:sI 0 kA:=⟨fH _,fH _,fH _,fH _,fH _,ZiI,.nil,fun n h=>(by cases h),.nil,fun x h=>(by cases h),fun t h=>(by cases h),fun r h=>(by cases h),by decide⟩
theorem sI.mono {k k':Nat}{st:Wk}(h:sI k st)(hk:k<=k'):sI k' st:=
 ⟨lM h.c hk,lM h.b hk,lM h.l hk,lM h.t hk,lM h.r hk,h.bk,h.bs,h.bn,h.s,h.lt,h.tt,h.on,h.r6⟩
theorem FA {l:List Ct}{bad:List Int}(h:Bk.ok ⟨rE,l⟩):(eO l bad).ok:=
 ⟨h.i,lM (Q7 _ _) h.c,h.it,fun x hx=>h.ct x (iZ.1 hx).1,fun x hx y hy=>h.one x (iZ.1 hx).1 y (iZ.1 hy).1,fun x hx y hy=>h.day x (iZ.1 hx).1 y (iZ.1 hy).1⟩
theorem sI.fit {k:Nat}{st:Wk}(h:sI k st):zJ st.aA st.bad st.aG:=fun t ht=>by
 have h1:=ZmL (FA (bad:=st.bad) h.bk) t.item t.day;obtain⟨_,_,_,_,h2,h3,_⟩:=h.tt t ht;unfold Cr.lW at h1;exact wrap64 (by omega)
theorem sI.ok {k:Nat}{st:Wk}(h:sI k st)(hk:k<=150):G1 st:=
 ⟨by have:=h.c;omega,by have:=h.b;omega,by have:=h.l;omega,by have:=h.t;omega,by have:=h.r;omega,fun x hx=>(h.lt x hx).1,h.fit,fun r hr=>by
  obtain⟨a,b,c,rfl,_⟩:=h.on r hr;show 2<=1000
  omega⟩
theorem BE {α β:Type}{r:Except Int α}{f:α->β}{w:β}(h:r.map f=.ok w):∃l,r=.ok l/\w=f l:=by
 cases r with
 |ok l=>cases h;exact⟨l,rfl,rfl⟩
 |error e=>cases h
theorem Zlu {l l':List Ct}{bad:List Int}{x:Ct}(h:mA l bad x=.ok l'):l'=l++[x]/\Bk.ok ⟨rE,l++[x]⟩/\(eO (l++[x]) bad).rD.2=7/\∀y∈l,y.num≠x.num:=by
 unfold mA at h;split at h
 .cases h
 .rename_i h0;split at h
  .rename_i h1;split at h
   .rename_i h2;cases h;refine⟨rfl,Bk.R6.1 h1,h2,fun y hy e=>h0 ?_⟩;exact pB.2 ⟨y,hy,by simpa using e⟩
   .cases h
  .cases h
theorem ZoV {l:List Ct}{bad b':List Int}{n:Int}(h:pW l bad n=.ok b'):(∃y∈l,y.num=n)/\n∉bad/\b'=lQ bad (dJ bad n) n:=by
 unfold pW at h;split at h
 .rename_i h0;split at h
  .cases h
  .rename_i h1;cases h;obtain⟨y,hy,e⟩:=pB.1 h0;exact⟨⟨y,hy,by simpa using e⟩,h1,rfl⟩
 .cases h
theorem Ztp {ls l':List Lt}{x:Lt}(h:pR ls x=.ok l'):(wA x/\0<=x.limit/\x.limit<=1000)/\x.num∉ls.map Lt.num/\l'=lQ ls (dJ (ls.map Lt.num) x.num) x:=by
 unfold pR at h;split at h
 .rename_i h0;split at h
  .cases h
  .rename_i h1;cases h;simp only[dK,decide_eq_true_eq]at h0;exact⟨⟨⟨h0.1.1,h0.1.2,h0.2.1.1,h0.2.1.2⟩,h0.2.2⟩,h1,rfl⟩
 .cases h
theorem Zpc {S:Int->Int->Bool}{v:Lt->Int}{ls:List Lt}{ts l':List Tt}{q:Tt}(h:kU S v ls ts q=.ok l'):l'=ts++[q]/\(2<=q.item/\q.item<=5/\0<=q.day/\q.day<=1000/\0<=q.rd/\q.rd<=2000)/\S q.item q.day=true/\∃x∈ls,x.num=q.fU/\x.passed=false/\v x=3/\(kX ts q.fU:Int)<x.pieces:=by
 unfold kU at h;split at h
 .rename_i h0;split at h
  .rename_i x hx;split at h
   .rename_i h1;split at h
    .cases h
    .rename_i h2;split at h
     .rename_i h3;split at h
      .rename_i h4;split at h
       .rename_i h5;cases h;simp only[dK,decide_eq_true_eq]at h0;exact⟨rfl,⟨h0.1.1,h0.1.2,h0.2.1.1,h0.2.1.2,h0.2.2.1,h0.2.2.2⟩,h5,x,dL hx,h1,by simpa using h2,h3,h4⟩
       .cases h
      .cases h
     .cases h
   .cases h
  .cases h
 .cases h
theorem ZpQ {v:Lt->Int}{ls l':List Lt}{n:Int}(h:jN v ls n=.ok l'):∃i x,ls[i]?=some x/\x.num=n/\x.passed=false/\v x=1/\l'=ls.set i { x with passed:=true }:=by
 unfold jN at h;split at h
 .rename_i x hx;split at h
  .rename_i h1;split at h
   .cases h
   .rename_i h2;split at h
    .cases h
    .split at h
     .rename_i h4;cases h;exact⟨_,x,hx,h1,by simpa using h2,h4,rfl⟩
     .cases h
  .cases h
 .cases h
theorem Zm7 {F:Nat}{rs l':List Qn.Rq}{a r o:Int}(h:runM F rs a r o=.ok l'):l'=rs++[pQ a r o]/\(1<=a/\a<=40/\0<=r/\r<=40/\1<=o/\o<=3)/\rs.length<6/\eL F (rF (rs++[pQ a r o]))=0:=by
 unfold runM at h;split at h
 .rename_i h0;split at h
  .rename_i h1;split at h
   .rename_i h2;cases h;simp only[dK,decide_eq_true_eq]at h0;exact⟨rfl,⟨h0.1.1,h0.1.2,h0.2.1.1,h0.2.1.2,h0.2.2.1,h0.2.2.2⟩,h1,h2⟩
   .cases h
  .cases h
 .cases h
theorem Zm2 {ls:List Lt}{i:Nat}{x:Lt}(h:ls[i]?=some x):(ls.set i { x with passed:=true }).map Lt.num=ls.map Lt.num:=by
 rw[List.map_set];apply List.ext_getElem?;intro j;rw[List.getElem?_set];split
 .rename_i e;subst e;obtain⟨hl,hx⟩:=cD.1 h;rw[fZ,if_pos hl,bY,h];rfl
 .rfl
theorem sI.step {F:Nat}{k:Nat}{st w:Wk}{g:FuncId}{nums:List Int}(h:sI k st)(hw:tQ F st g nums=.ok w):sI (k+1) w:=by
 have h':=h.mono (Nat.le_succ k);unfold tQ at hw;split at hw
 .split at hw
  .obtain⟨l,h1,rfl⟩:=BE hw;obtain⟨rfl,h2,_,_⟩:=Zlu h1;exact⟨by rw[gF];exact Nat.succ_le_succ h.c,h'.b,h'.l,h'.t,h'.r,h2,h.bs,fun n hn=>by
    obtain⟨y,hy,e⟩:=h.bn n hn;exact⟨y,List.mem_append_left _ hy,e⟩,h.s,h.lt,h.tt,h.on,h.r6⟩
  .cases hw
 split at hw
 .split at hw
  .obtain⟨l,h1,rfl⟩:=BE hw;obtain⟨h2,h3,rfl⟩:=ZoV h1;exact⟨h'.c,by rw[UE XL];exact Nat.succ_le_succ h.b,h'.l,h'.t,h'.r,h.bk,ZdA h.bs h3,fun n hn=>by
    rcases Hk.1 hn with rfl|hn
    .exact h2
    .exact h.bn n hn,h.s,h.lt,h.tt,h.on,h.r6⟩
  .cases hw
 split at hw
 .split at hw
  .obtain⟨l,h1,rfl⟩:=BE hw;obtain⟨h2,h3,rfl⟩:=Ztp h1;have hle:∀x,dJ (st.aM.map Lt.num) x<=(st.aM.map Lt.num).length:=fun x=>XL
   simp only[fZ]at hle;refine⟨h'.c,h'.b,by rw[UE (hle _)];exact Nat.succ_le_succ h.l,h'.t,h'.r,h.bk,h.bs,h.bn,?_,fun x hx=>?_,fun t ht=>?_,h.on,h.r6⟩
   .rw[ZhN];exact ZdA h.s h3
   .rcases Hk.1 hx with rfl|hx
    .exact h2
    .exact h.lt x hx
   .obtain⟨a1,a2,a3,a4,a5,a6,y,hy,e⟩:=h.tt t ht;exact⟨a1,a2,a3,a4,a5,a6,y,Hk.2 (.inr hy),e⟩
  .cases hw
 split at hw
 .split at hw
  .obtain⟨l,h1,rfl⟩:=BE hw;obtain⟨rfl,h2,_,x,hx,h3,_⟩:=Zpc h1;refine⟨h'.c,h'.b,h'.l,by rw[gF];exact Nat.succ_le_succ h.t,h'.r,h.bk,h.bs,h.bn,h.s,h.lt,fun t ht=>?_,h.on,h.r6⟩;rcases sS.1 ht with ht|ht
   .exact h.tt t ht
   .rw[sG]at ht;subst ht;obtain⟨a1,a2,a3,a4,a5,a6⟩:=h2;exact⟨a1,a2,a3,a4,a5,a6,x,hx,h3⟩
  .cases hw
 split at hw
 .split at hw
  .obtain⟨l,h1,rfl⟩:=BE hw;obtain⟨i,x,hx,h2,h3,_,rfl⟩:=ZpQ h1;have hm:∀y∈st.aM.set i { x with passed:=true },∃z∈st.aM,y.num=z.num/\y.pieces=z.pieces/\y.limit=z.limit:=fun y hy=>by
    rcases List.mem_or_eq_of_mem_set hy with hy|rfl
    .exact⟨y,hy,rfl,rfl,rfl⟩
    .exact⟨x,dL hx,rfl,rfl,rfl⟩
   refine⟨h'.c,h'.b,by rw[List.length_set];exact h'.l,h'.t,h'.r,h.bk,h.bs,h.bn,?_,fun y hy=>?_,fun t ht=>?_,h.on,h.r6⟩
   .rw[Zm2 hx];exact h.s
   .obtain⟨z,hz,e1,e2,e3⟩:=hm y hy
    have:=h.lt z hz
    unfold wA at *;rw[e1,e2,e3];exact this
   .obtain⟨a1,a2,a3,a4,a5,a6,y,hy,e⟩:=h.tt t ht;refine⟨a1,a2,a3,a4,a5,a6,?_⟩
    have:y.num∈(st.aM.set i { x with passed:=true }).map Lt.num:=by rw[Zm2 hx];exact List.mem_map_of_mem hy
    obtain⟨z,hz,e'⟩:=iN.1 this;exact⟨z,hz,by rw[e',e]⟩
  .cases hw
 .split at hw
  .obtain⟨l,h1,rfl⟩:=BE hw;obtain⟨rfl,h2,h3,_⟩:=Zm7 h1;refine⟨h'.c,h'.b,h'.l,h'.t,by rw[gF];exact Nat.succ_le_succ h.r,h.bk,h.bs,h.bn,h.s,h.lt,h.tt,fun r hr=>?_,by rw[gF];exact h3⟩;rcases sS.1 hr with hr|hr
   .exact h.on r hr
   .rw[sG]at hr;subst hr;exact⟨_,_,_,rfl,h2⟩
  .cases hw
theorem sI.next {F:Nat}{k:Nat}{st:Wk}(h:sI k st)(s:ByteArray):sI (k+1) (kQ F st s).1:=by
 unfold kQ qB;cases hp:P0 s with
 |none=>exact h.mono (Nat.le_succ k)
 |some q=>
  obtain⟨g,nums⟩:=q;dsimp only;cases hd:tQ F st g nums with
  |error e=>exact h.mono (Nat.le_succ k)
  |ok w=>exact h.step hd
end
section

theorem Zvo {b:Bk}(hb:b.ok){item day:Int}(h0:0<=item)(h1:item<b.items.length)(h2:0<=day)(h3:day<=1000):b.vD item day=if b.qM item day=true then 0 else 10:=by
 unfold Bk.vD Bk.uT jD;rw[Bk.R6.2 hb,decide_eq_true h0,decide_eq_true (show item<=(b.items.length:Int)-1 by omega),decide_eq_true h2,decide_eq_true h3];rfl
attribute [local irreducible] Bk.held Bk.nums Bk.iL Bk.span
section
variable {b b':Bk}
structure G4 (b b':Bk):Prop where
 i:b'.items=b.items
 c:∀c∈b.aA,c∈b'.aA
theorem G4.item (h:G4 b b')(i:Int):b'.item i=b.item i:=by unfold Bk.item;rw[h.i]
theorem G4.held (hb:b.ok)(nT:b'.ok)(h:G4 b b'){x:Int}(hx:x∈b.held []):x∈b'.held []:=ZiL hb nT (fun c _=>h.item _) h.c (fun _ h=>h) hx
theorem G4.ZxH (hb:b.ok)(nT:b'.ok)(h:G4 b b')(item day below:Int):(b'.kJ (b'.held []) (b'.span (b'.held [])) item day below).sub (b.kJ (b.held []) (b.span (b.held [])) item day below):=
 ZiG (h.item _) h.c (fun x hx=>h.held hb nT hx) fun c hc _ hx=>ZmJ hb nT (fun c _=>h.item _) h.c c hc hx
theorem G4.contra (hb:b.ok)(nT:b'.ok)(h:G4 b b')(hc:b.contra=true):b'.contra=true:=by
 unfold Bk.contra at hc ⊢;rw[pB]at hc ⊢;obtain⟨c,hc,e⟩:=hc;rw[dK,jI,decide_eq_true_eq]at e;refine⟨c,h.c c hc,?_⟩;have hs:=h.ZxH hb nT c.it c.day 1000;unfold Cr.sub at hs;rw[dK,jI,decide_eq_true_eq];exact⟨h.held hb nT e.1,by omega⟩
end
end
section
attribute [local irreducible] Bk.rD eL Bk.contra Bk.held Bk.span Bk.nums
theorem Zh1 {bad:List Int}{x:Ct}:wX bad x=true↔x.num∈bad:=by
 unfold wX;simp
theorem Zli {l:List Ct}{bad:List Int}{x:Ct}:x∈fR l bad↔x∈l/\x.num∉bad:=by
 unfold fR;rw[iZ];constructor
 .rintro⟨h1,h2⟩;refine⟨h1,fun h=>?_⟩;rw[Zh1.2 h]at h2;cases h2
 .rintro⟨h1,h2⟩;refine⟨h1,?_⟩;cases hb:wX bad x with
  |false=>rfl
  |true=>exact absurd (Zh1.1 hb) h2
theorem Zoh {l:List Ct}{bad yV:List Int}(h:∀n∈bad,n∈yV):G4 (eO l yV) (eO l bad):=
 ⟨rfl,fun c hc=>by
  obtain⟨h1,h2⟩:=Zli.1 hc;exact Zli.2 ⟨h1,fun hh=>h2 (h _ hh)⟩⟩
theorem Zml {l:List Ct}{bad yV:List Int}(hl:Bk.ok ⟨rE,l⟩)(h:∀n∈bad,n∈yV)(hc:(eO l bad).contra=false):(eO l yV).contra=false:=by
 cases hx:(eO l yV).contra with
 |false=>rfl
 |true=>rw[(Zoh h).contra (FA hl) (FA hl) hx]at hc;cases hc
end
section
attribute [local irreducible] eL Bk.contra Bk.held Bk.span Bk.nums Bk.fault
theorem Zfi {b:Bk}(hb:b.ok)(h:b.rD.2=7):b.contra=false:=by
 have hf:=Bk.R6.2 hb;unfold Bk.rD at h;rw[if_pos hf]at h;cases hc:b.contra with
 |false=>rfl
 |true=>rw[hc,if_pos rfl]at h;cases h
theorem Zso {b:Bk}(hb:b.ok)(h:b.contra=false):b.rD=([],7):=by
 have hf:=Bk.R6.2 hb;unfold Bk.rD;rw[if_pos hf,h,if_neg (by decide)]
structure BM (st:Wk):Prop where
 nc:(eO st.aA st.bad).contra=false
 q:eL 408 (rF st.runs)=0
theorem W8:BM kA:=⟨Zfi (b:=eO [] []) (FA ZiI) (by decide +kernel),by decide +kernel⟩
theorem BM.step {k:Nat}{st w:Wk}{g:FuncId}{nums:List Int}(h:sI k st)(j:BM st)(hw:tQ 408 st g nums=.ok w):BM w:=by
 unfold tQ at hw;split at hw
 .split at hw
  .obtain⟨l,h1,rfl⟩:=BE hw;obtain⟨rfl,h2,h3,_⟩:=Zlu h1;exact⟨Zfi (FA h2) h3,j.q⟩
  .cases hw
 split at hw
 .split at hw
  .obtain⟨l,h1,rfl⟩:=BE hw;obtain⟨h2,h3,rfl⟩:=ZoV h1;exact⟨Zml h.bk (fun n hn=>Hk.2 (.inr hn)) j.nc,j.q⟩
  .cases hw
 split at hw
 .split at hw
  .obtain⟨l,h1,rfl⟩:=BE hw;exact⟨j.nc,j.q⟩
  .cases hw
 split at hw
 .split at hw
  .obtain⟨l,h1,rfl⟩:=BE hw;exact⟨j.nc,j.q⟩
  .cases hw
 split at hw
 .split at hw
  .obtain⟨l,h1,rfl⟩:=BE hw;exact⟨j.nc,j.q⟩
  .cases hw
 .split at hw
  .obtain⟨l,h1,rfl⟩:=BE hw;obtain⟨rfl,_,_,h4⟩:=Zm7 h1;exact⟨j.nc,h4⟩
  .cases hw
theorem BM.next {k:Nat}{st:Wk}(h:sI k st)(j:BM st)(s:ByteArray):BM (kQ 408 st s).1:=by
 unfold kQ qB;cases hp:P0 s with
 |none=>exact j
 |some q=>
  obtain⟨g,nums⟩:=q;dsimp only;cases hd:tQ 408 st g nums with
  |error e=>exact j
  |ok w=>exact j.step h hd
theorem Gh:∀{l:List ByteArray} {k:Nat} {st:Wk},sI k st->BM st->sI (k+l.length) (cR (kQ 408) st l).1/\BM (cR (kQ 408) st l).1
 |[],k,st,h,j=>⟨h,j⟩
 |x::l,k,st,h,j=>by
  have:=Gh (l:=l) (h.next (F:=408) x) (j.next h x)
  rw[show k+1+l.length=k+(x::l).length by rw[pI];omega]at this;exact this
end
section
attribute [local irreducible] Bk.rD eL Bk.contra Bk.held Bk.span Bk.nums Bk.qM
theorem Zlx {b:Bk}{i d:Int}:(b.j6 i d).2=b.vD i d:=by
 unfold Bk.j6;split
 .rename_i h;rw[h]
  split<;>rfl
 .rfl
end
def qS (S:Int->Int->Bool)(G:Tt->Bool)(num:Int):List Tt->List Bool->Int×Nat
 |[],rs=>(3,rs.length)
 |t::l,rs=>if t.fU=num/\S t.item t.day=true then(if(cZ (rs++[!G t])).1=3 then qS S G num l (rs++[!G t])else((cZ (rs++[!G t])).1,(rs++[!G t]).length))else qS S G num l rs
theorem Ztn {S:Int->Int->Bool}{G:Tt->Bool}{num:Int}{rs:List Bool}:qS S G num [] rs=(3,rs.length):=rfl
theorem ZhF {S:Int->Int->Bool}{G:Tt->Bool}{num:Int}{t:Tt}{l:List Tt}{rs:List Bool}:qS S G num (t::l) rs=if t.fU=num/\S t.item t.day=true then(if(cZ (rs++[!G t])).1=3 then qS S G num l (rs++[!G t])else((cZ (rs++[!G t])).1,(rs++[!G t]).length))else qS S G num l rs:=rfl
theorem XQ {S:Int->Int->Bool}{G:Tt->Bool}{num:Int}:∀{l:List Tt} {rs:List Bool},(qS S G num l rs).1=iD S G num l rs
 |[],rs=>rfl
 |t::l,rs=>by
  rw[ZhF,Zgu];split
  .split
   .exact XQ
   .rfl
  .exact XQ
def lH (rs:List Bool):Prop:=rs.length<2\/(rs.length<4/\eG (dE (rs.take 2)) 0 2=3)
theorem Zhv:lH []:=.inl (by decide)
theorem lH.len {rs:List Bool}(h:lH rs):rs.length<=3:=by
 rcases h with h|⟨h,_⟩<;>omega
theorem lH.step {rs:List Bool}(h:lH rs)(b:Bool):(cZ (rs++[b])).2.2=0/\((cZ (rs++[b])).1=3->lH (rs++[b])):=by
 have hl:(rs++[b]).length=rs.length+1:=by rw[gF];rfl
 rcases h with h|⟨h4,hs⟩
 .by_cases h1:rs.length+1<2
  .unfold cZ lH;rw[hl,if_pos h1];exact⟨rfl,fun _=>.inl h1⟩
  .have h2:rs.length+1=2:=by omega
   unfold cZ lH;rw[hl,if_neg h1,h2];by_cases h3:eG (dE ((rs++[b]).take 2)) 0 2=3
   .rw[if_pos h3,if_pos (by decide)];exact⟨rfl,fun _=>.inr ⟨by decide,h3⟩⟩
   .rw[if_neg h3,if_neg (by decide)];exact⟨rfl,fun h=>absurd h h3⟩
 .by_cases h1:rs.length<2
  .by_cases I0:rs.length+1<2
   .unfold cZ lH;rw[hl,if_pos I0];exact⟨rfl,fun _=>.inl I0⟩
   .have h2:rs.length+1=2:=by omega
    unfold cZ lH;rw[hl,if_neg I0,h2];by_cases h3:eG (dE ((rs++[b]).take 2)) 0 2=3
    .rw[if_pos h3,if_pos (by decide)];exact⟨rfl,fun _=>.inr ⟨by decide,h3⟩⟩
    .rw[if_neg h3,if_neg (by decide)];exact⟨rfl,fun h=>absurd h h3⟩
  .have ht:(rs++[b]).take 2=rs.take 2:=List.take_append_of_le_length (by omega);unfold cZ lH;rw[hl,if_neg (by omega),ht,if_pos hs];by_cases h3:rs.length+1<4
   .rw[if_pos h3];exact⟨rfl,fun _=>.inr ⟨h3,hs⟩⟩
   .rw[if_neg h3,if_neg (by omega)];refine⟨rfl,fun h=>?_⟩;exfalso;revert h;show eG _ 1 2≠3;unfold eG;split
    .decide
    .split
     .decide
     .omega
def uB (len:Nat)(ds:List UInt8):Option Nat:=if ds.length=0\/9<ds.length\/(ds.head?=some 48/\1<len)then none else Lib.decFrom 0 ds
def yH (s:ByteArray):Option Int:=match s.data.toList with
 |45::r=>(uB (r.length+1) r).map fun(n:Nat)=>-(n:Int)
 |l=>(uB l.length l).map fun(n:Nat)=>(n:Int)
theorem Qf {b:UInt8}:∀{l:List UInt8} {acc:Nat},Lib.decFrom acc (l++[b])=(Lib.decFrom acc l).bind fun n=>(Lib.digitVal b).map fun d=>n*10+d
 |[],acc=>by
  simp only[List.nil_append,Lib.decFrom,Option.bind_some];cases Lib.digitVal b<;>rfl
 |x::l,acc=>by
  simp only[List.cons_append,Lib.decFrom];cases Lib.digitVal x with
  |none=>rfl
  |some d=>exact Qf (l:=l)
theorem Zg {d:Nat}(h:d<10):Lib.digitVal (UInt8.ofNat (48+d))=some d:=by
 unfold Lib.digitVal;have e:(UInt8.ofNat (48+d)).toNat=48+d:=by rw[UInt8.toNat_ofNat'];omega
 rw[e,if_pos (by omega)];congr 1;omega
theorem ZrJ {b:UInt8}{d:Nat}(h:Lib.digitVal b=some d):d<10/\b=UInt8.ofNat (48+d):=by
 unfold Lib.digitVal at h;split at h
 .rename_i hb;cases h;refine⟨by omega,UInt8.toNat_inj.1 ?_⟩;rw[UInt8.toNat_ofNat'];omega
 .cases h
theorem UB {u:Nat}(h:u<10):Lib.decDigits u=[UInt8.ofNat (48+u)]:=Lib.decDigits_one h
theorem Gu {u:Nat}(h:¬u<10):Lib.decDigits u=Lib.decDigits (u / 10)++[UInt8.ofNat (48+u%10)]:=by
 conv=>lhs;rw[Lib.decDigits,dif_neg h]
theorem ZhU (u:Nat):Lib.decFrom 0 (Lib.decDigits u)=some u:=by
 induction u using Nat.strongRecOn with
 |_ u ih=>
  by_cases h:u<10
  .rw[UB h];simp only[Lib.decFrom,Zg h];congr 1;omega
  .rw[Gu h,Qf,ih (u / 10) (by omega),Option.bind_some,Zg (Nat.mod_lt _ (by decide)),vB];congr 1;omega
theorem TU (u:Nat):Lib.decDigits u≠[]:=by
 by_cases h:u<10
 .rw[UB h];simp
 .rw[Gu h];simp
theorem ZqF (u:Nat):(Lib.decDigits u).head?=some 48->u=0:=by
 induction u using Nat.strongRecOn with
 |_ u ih=>
  intro hh;by_cases h:u<10
  .rw[UB h]at hh;simp only[List.head?_cons,Option.some.injEq]at hh
   have:=congrArg UInt8.toNat hh
   rw[UInt8.toNat_ofNat']at this;have e:(48:UInt8).toNat=48:=rfl;omega
  .rw[Gu h]at hh;have h2:(Lib.decDigits (u / 10)++[UInt8.ofNat (48+u%10)]).head?=(Lib.decDigits (u / 10)).head?:=by
    cases hd:Lib.decDigits (u / 10)with
    |nil=>exact absurd hd (TU _)
    |cons c t=>rfl
   rw[h2]at hh
   have:=ih (u / 10) (by omega) hh
   omega
theorem canon:∀(k:Nat) (ds:List UInt8) (n:Nat),ds.length<=k->Lib.decFrom 0 ds=some n->ds≠[]->(ds.head?=some 48->ds.length=1)->ds=Lib.decDigits n
 |0,ds,n,hk,_,dA,_=>absurd (List.length_eq_zero_iff.1 (by omega)) dA
 |k+1,ds,n,hk,hf,dA,hh=>by
  obtain⟨l,b,rfl⟩:∃l b,ds=l++[b]:=⟨ds.dropLast,ds.getLast dA,(List.dropLast_concat_getLast dA).symm⟩;rw[Qf]at hf;rw[gF,List.length_singleton]at hk;cases hl:Lib.decFrom 0 l with
  |none=>rw[hl]at hf;cases hf
  |some v=>
   rw[hl,Option.bind_some]at hf;obtain⟨d,hd,rfl⟩:=eB.1 hf;obtain⟨tO,rfl⟩:=ZrJ hd;by_cases qW:l=[]
   .subst qW;cases hl;rw[Nat.zero_mul,sF,UB tO];rfl
   .have Ku:l.head?≠some 48:=fun e=>by
     have h1:(l++[UInt8.ofNat (48+d)]).head?=some 48:=by
      cases l with
      |nil=>exact absurd rfl qW
      |cons c t=>exact e
     have h2:=hh h1;rw[gF,List.length_singleton]at h2;exact qW (List.length_eq_zero_iff.1 (by omega))
    have gP:=canon k l v (by omega) hl qW (fun e=>absurd e Ku);have hv:v≠0:=fun e=>by
     subst e;rw[gP]at Ku;exact Ku (by rw[UB (by decide)];rfl)
    rw[Gu (by omega),show(v*10+d) / 10=v by omega,show(v*10+d)%10=d by omega,<-gP]
theorem Zk0 {len:Nat}{ds:List UInt8}{n:Nat}(hlen:ds.length<=len)(h:uB len ds=some n):ds=Lib.decDigits n/\ds.length<=9/\(1<len->ds.head?≠some 48):=by
 unfold uB at h;split at h
 .cases h
 .rename_i hc;have h1:ds.length≠0:=fun e=>hc (.inl e)
  have h2:ds.length<=9:=Nat.le_of_not_lt fun e=>hc (.inr (.inl e))
  have h3:1<len->ds.head?≠some 48:=fun hl e=>hc (.inr (.inr ⟨e,hl⟩))
  refine⟨canon ds.length ds n (fH _) h (fun e=>h1 (by rw[e];rfl)) (fun e=>?_),h2,h3⟩;by_cases hl:1<len
  .exact absurd e (h3 hl)
  .omega
theorem Zn0 {len u:Nat}(hlen:len=1->u<10)(h:(Lib.decDigits u).length<=9)(h0:1<len->u≠0\/len=(Lib.decDigits u).length):uB len (Lib.decDigits u)=some u:=by
 unfold uB;rw[if_neg,ZhU];rintro(e|e|⟨e1,e2⟩)
 .exact TU u (List.length_eq_zero_iff.1 e)
 .omega
 .have:=ZqF u e1
  subst this;rcases h0 e2 with h|h
  .exact h rfl
  .rw[h,UB (by decide)]at e2;exact absurd e2 (by decide)
theorem Zri (k:Nat)(h:(Lib.decDigits k).length<=9):Lib.atoiAll (Lib.decDigits k)=.ok (k:Int):=by
 rw[Lib.atoiAll_short _ (by omega)];have mP:=Lx k;have hf:=ZhU k;have dA:=TU k;cases hd:Lib.decDigits k with
 |nil=>exact absurd hd dA
 |cons c r=>
  rw[hd]at hf;have h45:c≠45:=mP c (by rw[hd];exact List.mem_cons_self ..);have h43:c≠43:=fun e=>by
   subst e;simp only[Lib.decFrom]at hf
   have:Lib.digitVal 43=none:=by decide
   rw[this]at hf;cases hf
  have e45:(c==45)=false:=by simpa using h45
  have e43:(c==43)=false:=by simpa using h43
  simp only[Lib.atoi,e45,e43,Lib.decNat,List.isEmpty_cons,Bool.false_eq_true,if_false,hf,vB];rfl
theorem Zrh (k:Nat)(h:(Lib.decDigits k).length<=9):Lib.atoiAll (45::Lib.decDigits k)=.ok (-(k:Int)):=by
 rw[Lib.atoiAll_short _ (by rw[pI];omega)];have hf:=ZhU k;have dA:=TU k;have he:(Lib.decDigits k).isEmpty=false:=by
  cases hd:Lib.decDigits k with
  |nil=>exact absurd hd dA
  |cons c r=>rfl
 simp only[Lib.atoi,Lib.decNat,he,Bool.false_eq_true,if_false,hf,vB];rfl
theorem Zkk (k:Nat):Lib.trimPrefix (Lib.decDigits k) [45]=Lib.decDigits k:=by
 have mP:=Lx k;cases hd:Lib.decDigits k with
 |nil=>rfl
 |cons c r=>
  have hc:c≠45:=mP c (by rw[hd];exact List.mem_cons_self ..);simp[Lib.trimPrefix,Lib.hasPrefix]
  try exact fun e=>absurd e.symm hc
theorem Zkj (l:List UInt8):Lib.trimPrefix (45::l) [45]=l:=by simp[Lib.trimPrefix,Lib.hasPrefix]
theorem ZnR {s:ByteArray}{v:Int}(h1:s.data.toList=Lib.itoa v)(h2:Lib.atoiAll (Lib.itoa v)=.ok v)(h3:(Lib.trimPrefix (Lib.itoa v) [45]).length<=9):lO s=some v:=by
 unfold lO;rw[h1,h2];have e:oP v=s:=by
  unfold oP;rw[<-h1]
 have e2:(trimB s ⟨#[45]⟩).size<=9:=by
  show(Lib.trimPrefix s.data.toList [45]).length<=9;rw[h1];exact h3
 exact if_pos ⟨e,e2⟩
theorem ZuP {s:ByteArray}{v:Int}(h:yH s=some v):lO s=some v:=by
 unfold yH at h;split at h
 .rename_i r hr;obtain⟨n,hn,rfl⟩:=eB.1 h;obtain⟨g1,g2,g3⟩:=Zk0 (Nat.le_succ _) hn;have xN:n≠0:=fun e=>by
   subst e
   have:r.length≠0:=fun e=>by
    unfold uB at hn;rw[if_pos (.inl e)]at hn;cases hn
   exact g3 (by omega) (by rw[g1,UB (by decide)];rfl)
  have hi:Lib.itoa (-(n:Int))=45::Lib.decDigits n:=Lib.itoa_neg n (by omega);rw[g1]at g2;exact ZnR (by rw[hi,hr,g1]) (by rw[hi];exact Zrh n g2) (by rw[hi,Zkj];exact g2)
 .rename_i l hl;obtain⟨n,hn,rfl⟩:=eB.1 h;obtain⟨g1,g2,_⟩:=Zk0 (fH _) hn;have hi:Lib.itoa (n:Int)=Lib.decDigits n:=Lib.itoa_nonneg n;have FZ:=g2;rw[g1]at FZ;exact ZnR (by rw[hi,<-g1]) (by rw[hi];exact Zri n FZ) (by rw[hi,Zkk];exact FZ)
theorem ZuQ {s:ByteArray}{v:Int}(h:lO s=some v):yH s=some v:=by
 unfold lO at h;split at h
 .split at h
  .rename_i u _ hc;cases h;obtain⟨h1,h2⟩:=hc;have hs:s.data.toList=Lib.itoa v:=by rw[<-h1];rfl
   have h3:(Lib.trimPrefix s.data.toList [45]).length<=9:=h2;rw[hs]at h3;unfold yH;rw[hs];by_cases Uh:v<0
   .obtain⟨k,rfl⟩:∃k:Nat,v = -(k:Int):=⟨v.natAbs,by omega⟩;rw[Lib.itoa_neg k (by omega)]at h3 ⊢;rw[Zkj]at h3;show(uB ((Lib.decDigits k).length+1) (Lib.decDigits k)).map (fun(n:Nat)=>-(n:Int))=_;rw[Zn0 (fun e=>absurd e (by have:=List.length_pos_iff.2 (TU k);omega)) h3 (fun _=>.inl (by omega))];rfl
   .obtain⟨k,rfl⟩:∃k:Nat,v=(k:Int):=⟨v.toNat,by omega⟩;rw[Lib.itoa_nonneg]at h3 ⊢;rw[Zkk]at h3;have hm:=Zn0 (len:=(Lib.decDigits k).length) (u:=k) (fun e=>by
     by_cases hk:k<10
     .exact hk
     .rw[Gu hk,gF,List.length_singleton]at e
      have:=List.length_pos_iff.2 (TU (k / 10))
      omega) h3 (fun _=>.inr rfl)
    have mP:=Lx k;cases hd:Lib.decDigits k with
    |nil=>exact absurd hd (TU k)
    |cons c r=>
     rw[hd]at hm;have hc:c≠45:=mP c (by rw[hd];exact List.mem_cons_self ..);split
     .rename_i r' e;exact absurd (List.cons.inj e).1 hc
     .rw[hm];rfl
  .cases h
 .cases h
theorem ZuO (s:ByteArray):yH s=lO s:=by
 cases h:yH s with
 |some v=>exact(ZuP h).symm
 |none=>
  cases h2:lO s with
  |none=>rfl
  |some v=>rw[ZuQ h2]at h;cases h
def I8:List UInt8->List (List UInt8)
 |[]=>[[]]
 |c::r=>if c=32 then[]::I8 r else match I8 r with
  |h::t=>(c::h)::t
  |[]=>[[c]]
theorem Ja (c:UInt8)(r:List UInt8):I8 (c::r)=if c=32 then[]::I8 r else match I8 r with
  |h::t=>(c::h)::t
  |[]=>[[c]]:=rfl
theorem Zld:∀l:List UInt8,(Lib.index l [32] = -1/\I8 l=[l])\/∃i:Nat,Lib.index l [32]=(i:Int)/\i<l.length/\I8 l=l.take i::I8 (l.drop (i+1))
 |[]=>.inl ⟨by decide,rfl⟩
 |c::r=>by
  by_cases hc:c=32
  .subst hc;refine .inr ⟨0,?_,by simp,?_⟩
   .simp[Lib.index]
   .simp[I8]
  .have hp:([32]:List UInt8).isPrefixOf (c::r)=false:=by
    simp[List.isPrefixOf];exact fun e=>absurd e.symm hc
   rcases Zld r with⟨h1,h2⟩|⟨i,h1,h2,h3⟩
   .refine .inl ⟨?_,?_⟩
    .unfold Lib.index;rw[hp,h1];rfl
    .rw[Ja,if_neg hc,h2]
   .refine .inr ⟨i+1,?_,by rw[pI];omega,?_⟩
    .unfold Lib.index;rw[hp,h1]
     have:((i:Int)==-1)=false:=by
      rw[beq_eq_false_iff_ne];omega
     rw[this];simp
    .rw[Ja,if_neg hc,h3];rfl
theorem Zkp:∀(k:Nat) (l:List UInt8),Lib.count l [32]=k->Lib.splitK [32] 0 k l=I8 l
 |k,l,hk=>by
  rcases Zld l with⟨h1,h2⟩|⟨i,h1,h2,h3⟩
  .have h0:k=0:=by rw[<-hk];exact Lib.count_miss h1
   subst h0;rw[h2];rfl
  .have hc:=Lib.count_hit (s:=l) (sub:=[32]) (by simp) h1;rw[hk]at hc;cases k with
   |zero=>omega
   |succ k=>
    have WG:Lib.count (l.drop (i+[32].length)) [32]=k:=by omega
    have ih:=Zkp k (l.drop (i+1)) WG;unfold Lib.splitK;rw[h1]
    have:((i:Int)==-1)=false:=by
     rw[beq_eq_false_iff_ne];omega
    rw[this,h3];simp only[Bool.false_eq_true,if_false,Nat.add_zero,List.length_singleton,A1];rw[ih]
termination_by k=>k
theorem Zph (s:ByteArray):(xX s blank).map (·.data.toList)=I8 s.data.toList:=by
 unfold xX;rw[Lib.splitB_data];exact Zkp _ _ rfl
section
def jH (n:Nat):ByteArray:=⟨(Lib.decDigits n).toArray⟩
theorem Lw {n:Nat}(h:n<10):jH n=⟨#[UInt8.ofNat (48+n)]⟩:=by
 unfold jH Lib.decDigits;rw[dif_pos h]
theorem ZrW {n:Nat}(h:¬n<10):jH n=jH (n / 10)++jH (n%10):=by
 rw[Lw (n:=n%10) (by omega)];unfold jH
 conv=>lhs;unfold Lib.decDigits
 rw[dif_neg h];apply ByteArray.ext;rw[ByteArray.data_append];simp
theorem OU (n:Nat):∀k,n<10^(k+1)->(jH n).size<=k+1:=by
 induction n using Nat.strongRecOn with
 |_ n ih=>
  intro k hk;by_cases h:n<10
  .rw[Lw h];show 1<=k+1;omega
  .rw[ZrW h,ByteArray.size_append,Lw (n:=n%10) (by omega)];cases k with
   |zero=>simp at hk;omega
   |succ k=>
    have:=ih (n / 10) (by omega) k (by rw[Nat.pow_succ]at hk;omega)
    show(jH (n / 10)).size+1<=_;omega
theorem XG:∀(n:Nat),n<1000000000000->aC prog 30 [.i (n:Int)] (.str (jH n)):=by
 intro n;induction n using Nat.strongRecOn with
 |_ n ih=>
  intro hn;have h0:¬((n:Int)<0):=by omega
  refine cS L30 ?_;by_cases h:n<10
  .have h1:(n:Int)<10:=by omega
   have w1:IntKind.i64.wrap (48+(n:Int))=48+(n:Int):=wrap64 (by omega);have w2:IntKind.u8.wrap (48+(n:Int))=48+(n:Int):=by rw[show IntKind.u8.wrap (48+(n:Int))=(48+(n:Int))%256 from rfl];omega
   have w3:(48+(n:Int)).toNat=48+n:=by omega
   have hd:=Lw h;simp[L30,h0,h1,w1,w2,BC,KJ,w3,hd]
  .have h1:¬((n:Int)<10):=by omega
   have c1:=ih (n / 10) (by omega) (by omega);have c2:=ih (n%10) (by omega) (by omega);have w1:IntKind.i64.wrap ((n:Int) / 10)=((n / 10:Nat):Int):=by rw[wrap64 (by omega)];omega
   have w2:(n:Int).tmod 10=((n%10:Nat):Int):=by rw[Int.tmod_eq_emod_of_nonneg (by omega)];rfl
   have w3:(n:Int).tdiv 10=(n:Int) / 10:=by rw[Int.tdiv_eq_ediv_of_nonneg (by omega)]
   have w4:IntKind.i64.wrap ((n%10:Nat):Int)=((n%10:Nat):Int):=wrap64 (by omega);have hd:=ZrW h;have s1:=OU (n / 10) 12 (by omega);have s2:=OU (n%10) 12 (by omega);have s3:(jH (n / 10)).size+(jH (n%10)).size<=9223372036854775807:=by omega
   simp[L30,h0,h1,w1,w3];refine cG [.i ((n / 10:Nat):Int)] c1 ?_;simp[w2];refine cG [.i ((n%10:Nat):Int)] c2 ?_;simp[aN,s3,hd]
theorem Zfk:∀{l r:List UInt8},(∀c∈l,c≠32)->I8 (l++32::r)=l::I8 r
 |[],r,_=>by
  rw[List.nil_append,Ja,if_pos rfl]
 |c::l,r,h=>by
  rw[List.cons_append,Ja,if_neg (h c (List.mem_cons_self ..)),Zfk (fun x hx=>h x (List.mem_cons_of_mem _ hx))]
theorem Zfl:∀{l:List UInt8},(∀c∈l,c≠32)->I8 l=[l]
 |[],_=>rfl
 |c::l,h=>by
  rw[Ja,if_neg (h c (List.mem_cons_self ..)),Zfl (fun x hx=>h x (List.mem_cons_of_mem _ hx))]
theorem Zmm {a b:ByteArray}(h:a.data.toList=b.data.toList):a=b:=ByteArray.ext (xS.1 h)
theorem ZeR:∀{l m:List ByteArray},l.map (·.data.toList)=m.map (·.data.toList)->l=m
 |[],[],_=>rfl
 |[],b::m,h=>by cases h
 |a::l,[],h=>by cases h
 |a::l,b::m,h=>by
  simp only[iS,List.cons.injEq]at h;rw[Zmm h.1,ZeR h.2]
attribute [local irreducible] Bk.rD eL Bk.contra Bk.held Bk.span Bk.nums Bk.qM stM iD
end
section
open Go.RowKit Go.Shelf
theorem Nr {P:Program}(w:World)(dT sT ty elem:TypeId){k:Nat}(g q dl dc sl sc:Nat)(a:Addr)(cs:Array Value)(T:TypeId)(ds:List Value)(hu:P.underlying dT=some (.slice elem))(hs:eJ P elem=some k)
  (hg:w.heap[g]?=some (.cells cs T (0,0))) (hl:ds.length=Nat.min sl dl*k) (Tg:∀j v,ds[j]?=some v->w.cell? (a.add j)=some v) (dF:q+ds.length<=cs.size) (h1:∀v∈ds,v.oneCell'=true):
  (Builtin.copy_ #[dT,sT] ty #[.slice (some ⟨g,q,none⟩) dl dc,.slice (some a) sl sc]).run P w=.ok (goInt (Nat.min sl dl)) (w.setRow g (aR cs.toList q ds).toArray):=by
 have IQ:=run_loadCells_list (P:=P) w a ds Tg;have bS:=run_storeCells_at P g q T ds 0 cs w hg (by simpa using dF) h1;simp only[Nat.add_zero]at bS;simp[Builtin.copy_,run_underlying hu,Builtin.lenOf,Builtin.firstCells,Go.Proofs.YthmbecacehfgfabGreatDoor.run_sizeOf hs,<-hl,IQ,bS,aR]
def EZ (TE:TypeId)(k b n:Nat)(Ld:List Value)(w:World)(e:Ending)(w':World):Prop:=
 ∃b' o' c' iM,e=.returned (.slice (some ⟨b',o',none⟩) (n+1) c')/\w'.heap[b']?=some (.cells iM TE (0,0))/\(∀j,j<(n+1)*k->iM[o'+j]?=Ld[j]?)/\o'+c'*k<=iM.size/\n+1<=c'/\c'<=maxLen/\(b'=b\/w.heap.size<=b')/\cY [b] w w'
theorem zM {a b:Nat}(h:a<=b):Nat.min a b=a:=Nat.min_eq_left h
theorem MH {a b:Nat}(h:b<=a):Nat.min a b=b:=Nat.min_eq_right h
theorem Gz (w:World)(bs:List Nat):cY bs w w.drew:=⟨rfl,rfl,rfl,fH _,fun _ _ _=>rfl⟩
structure W7 (f:FuncId)(S T:TypeId)(k:Nat):Prop where
 pos:0<k
 A8:prog.underlying S=some (.slice T)
 Ju:eJ prog T=some k
 inf:∃i z,prog.info? T=some i/\i.zero=some z/\i.size=k/\(i.bytes=8\/i.bytes=32)/\z.cells.size=k
 last:∀(base:Option Addr) (n c vb vo vc:Nat) (w W2:World) (R:Value) (E:Ending->World->Prop),n<=c->c<=maxLen->(base=none->n=0/\c=0)->(∀ty,(Builtin.append_ #[S,S] ty #[.slice base n c,.slice (some ⟨vb,vo,none⟩) 1 vc]).run prog w=.ok R W2)->E (.returned R) W2->
  Calls prog f #[.slice base n c,.i n,.slice (some ⟨vb,vo,none⟩) 1 vc] w E
 shift:∀(b o n c i vb vo vc:Nat) (cb cv:Array Value) (w W1 W2:World) (E:Ending->World->Prop),w.heap[b]?=some (.cells cb T (0,0))->w.heap[vb]?=some (.cells cv T (0,0))->vb≠b->i<n->n+1<=c->o+c*k<=cb.size->c<=maxLen->
  (∀ty q q' dl dc sl sc,q=o+(i+1)*k->q'=o+i*k->dl=n+1-(i+1)->sl=n+1-i->(Builtin.copy_ #[S,S] ty #[.slice (some ⟨b,q,none⟩) dl dc,.slice (some ⟨b,q',none⟩) sl sc]).run prog w.drew=.ok (goInt ((n-i:Nat):Int)) W1)->
  (∀ty q dl dc,q=o+i*k->dl=n+1-i->(Builtin.copy_ #[S,S] ty #[.slice (some ⟨b,q,none⟩) dl dc,.slice (some ⟨vb,vo,none⟩) 1 vc]).run prog W1=.ok (goInt 1) W2)->E (.returned (.slice (some ⟨b,o,none⟩) (n+1) c)) W2->
  Calls prog f #[.slice (some ⟨b,o,none⟩) n c,.i i,.slice (some ⟨vb,vo,none⟩) 1 vc] w E
 grow:∀(b o n c i vb vo vc G:Nat) (uV C2 C3:Array Value) (w:World) (E:Ending->World->Prop),i<n->c<n+1->n<=c->n<=1000000->n+1<=G->G<=maxLen->
  (∀ty (j:Int),j=((n+1-i:Nat):Int)->(Builtin.append_ #[S,3] ty #[.slice (some ⟨b,o,none⟩) i c,.i j]).run prog w=.ok (.slice (some ⟨w.heap.size,0,none⟩) (n+1) G) (w.drew.alloc (.cells uV T)))->
  (∀(W:World),W.heap=(w.drew.alloc (.cells uV T)).heap->∀ty q dl dc,q=i*k->dl=n+1-i->(Builtin.copy_ #[S,S] ty #[.slice (some ⟨w.heap.size,q,none⟩) dl dc,.slice (some ⟨vb,vo,none⟩) 1 vc]).run prog W=.ok (goInt 1) (W.setRow w.heap.size C2))->
  (∀(W:World),W.heap=((w.drew.alloc (.cells uV T)).setRow w.heap.size C2).heap->∀ty q q' dl dc sl sc,q=(i+1)*k->q'=o+i*k->dl=n+1-(i+1)->sl=n-i->
   (Builtin.copy_ #[S,S] ty #[.slice (some ⟨w.heap.size,q,none⟩) dl dc,.slice (some ⟨b,q',none⟩) sl sc]).run prog W=.ok (goInt ((n-i:Nat):Int)) (W.setRow w.heap.size C3))->
  E (.returned (.slice (some ⟨w.heap.size,0,none⟩) (n+1) G)) ((((w.drew.alloc (.cells uV T)).setRow w.heap.size C2).drew).setRow w.heap.size C3)->
  Calls prog f #[.slice (some ⟨b,o,none⟩) n c,.i i,.slice (some ⟨vb,vo,none⟩) 1 vc] w E
theorem ZtB {f:FuncId}{S T:TypeId}{k:Nat}(F:W7 f S T k)(b o n c vb vo vc:Nat)(cb:Array Value)(dW news:List Value)(w:World)(hb:w.heap[b]?=some (.cells cb T (0,0)))(eS:n+1<=c)(dF:o+c*k<=cb.size)(F1:c<=maxLen)
  (r8:dW.length=n*k) (H3:∀j v,dW[j]?=some v->cb[o+j]?=some v) (tC:news.length=k) (H4:∀j v,news[j]?=some v->w.cell? ⟨vb,vo+j,none⟩=some v) (h1:∀v∈news,v.oneCell'=true):
  Calls prog f #[.slice (some ⟨b,o,none⟩) n c,.i n,.slice (some ⟨vb,vo,none⟩) 1 vc] w (EZ T k b n (dW++news) w):=by
 have hk:=F.pos;have E1:=Nat.add_one_mul n k;have E4:=I5 k eS;have DV:c<=9223372036854775807:=by unfold maxLen at F1;omega
 obtain⟨i,z,hi,hz,fI,c7,uE⟩:=F.inf;have hf:(Builtin.firstCells i.size 1 (.slice (some ⟨vb,vo,none⟩) 1 vc)).run prog w=.ok news.toArray w:=by
  rw[fI];exact run_firstCells_some (P:=prog) w k 1 ⟨vb,vo,none⟩ 1 vc news (by omega) (fun j u hj=>by rw[Addr.add_lit];exact H4 j u hj)
 have dG:∀ty,(Builtin.append_ #[S,S] ty #[.slice (some ⟨b,o,none⟩) n c,.slice (some ⟨vb,vo,none⟩) 1 vc]).run prog w=_:=fun ty=>
  Zgz (P:=prog) (w:=w) (ty:=ty) F.A8 hi b o n c cb hb (some ⟨vb,vo,none⟩) 1 vc news hf h1 eS (by rw[fI];omega)
 have gP:cb.toList.length=cb.size:=vC;have fin:EZ T k b n (dW++news) w (.returned (.slice (some ⟨b,o,none⟩) (n+1) c)) (w.setRow b (aR cb.toList (o+n*k) news).toArray):=by
  refine⟨b,o,c,_,rfl,setRow_heap w b cb _ _ _ hb,fun j hj=>?_,?_,eS,F1,.inl rfl,cY.setRow w _ _⟩
  .rw[I4,A5 (by omega),zB,O7];split
   .rename_i h;rw[if_pos (by omega)];have hv:=bC (show j<dW.length by omega);rw[hv];exact H3 j _ hv
   .rename_i h;rw[if_pos (by omega),if_neg (by omega)];congr 1;omega
  .rw[zC,W0 (by omega),gP];exact dF
 rw[fI]at dG;exact F.last _ _ _ _ _ _ _ _ _ _ (by omega) F1 (fun h=>by cases h) dG fin
theorem Zod {f:FuncId}{S T:TypeId}{k:Nat}(F:W7 f S T k)(b:Nat)(base:Option Addr)(n c vb vo vc:Nat)(dW news:List Value)(w:World)(eS:c<n+1)(hn:n<=1000000)(qW:base=none->n=0/\c=0)(mD:n<=c)
  (r8:dW.length=n*k) (H3:∀j v,dW[j]?=some v->∃A,base=some A/\w.cell? (A.add j)=some v) (tC:news.length=k) (H4:∀j v,news[j]?=some v->w.cell? ⟨vb,vo+j,none⟩=some v):
  Calls prog f #[.slice base n c,.i n,.slice (some ⟨vb,vo,none⟩) 1 vc] w (EZ T k b n (dW++news) w):=by
 have hk:=F.pos;have E1:=Nat.add_one_mul n k;obtain⟨i,z,hi,hz,fI,c7,uE⟩:=F.inf;have hf:∀w',(∀A,w'.cell? A=w.cell? A)->(Builtin.firstCells i.size 1 (.slice (some ⟨vb,vo,none⟩) 1 vc)).run prog w'=.ok news.toArray w':=fun w' hw=>by
  rw[fI];exact run_firstCells_some (P:=prog) w' k 1 ⟨vb,vo,none⟩ 1 vc news (by omega) (fun j u hj=>by rw[Addr.add_lit,hw];exact H4 j u hj)
 have ho:∀w',(∀A,w'.cell? A=w.cell? A)->(Builtin.firstCells i.size n (.slice base n c)).run prog w'=.ok dW.toArray w':=fun w' hw=>by
  rw[fI];cases base with
  |none=>
   obtain⟨rfl,rfl⟩:=qW rfl;rw[List.length_eq_zero_iff.1 (r8.trans (Nat.zero_mul _))];exact run_firstCells_none w' k 0 0 0
  |some a=>exact run_firstCells_some (P:=prog) w' k n a n c dW r8 (fun j u hj=>by
    obtain⟨A,e,h⟩:=H3 j u hj;cases e;rw[hw];exact h)
 have dG:∀ty,(Builtin.append_ #[S,S] ty #[.slice base n c,.slice (some ⟨vb,vo,none⟩) 1 vc]).run prog w=_:=fun ty=>
  ZgA (P:=prog) (w:=w) (ty:=ty) F.A8 hi hz base n c (some ⟨vb,vo,none⟩) 1 vc dW news ho hf (by omega) (by omega) (growslice_fits (by omega) (by rcases c7 with h|h<;>rw[h]<;>omega))
 have yT:=grownCap_ge w (n+1) c T;have hle:=grownCap_le_maxLen w (n+1) c T (by unfold maxLen;omega);have fin:EZ T k b n (dW++news) w (.returned (.slice (some ⟨w.heap.size,0,none⟩) (n+1) (grownCap w (n+1) c T))) (w.drew.alloc (.cells ((dW++news).toArray++Builtin.zeroCells z.cells (grownCap w (n+1) c T-(n+1))) T)):=by
  refine⟨w.heap.size,0,_,_,rfl,heap_alloc_new w.drew _,fun j hj=>?_,?_,yT,hle,.inr (fH _),(Gz w _).trans (cY.Fx (Ext.al _ _) _)⟩
  .rw[sF,Array.getElem?_append_left (by rw[zC,gF];omega),I4]
  .rw[Array.size_append,zC,gF,size_zeroCells,uE,r8,tC,sF,<-E1,<-Nat.add_mul];exact Nat.le_of_eq (congrArg (·*k) (by omega))
 exact F.last _ _ _ _ _ _ _ _ _ _ mD (by unfold maxLen;omega) qW dG fin
theorem Zqn {f:FuncId}{S T:TypeId}{k:Nat}(F:W7 f S T k)(b o n c i vb vo vc:Nat)(cb cv:Array Value)(dW news:List Value)(w:World)(hb:w.heap[b]?=some (.cells cb T (0,0)))(hv:w.heap[vb]?=some (.cells cv T (0,0)))(VS:vb≠b)(hi:i<n)(eS:n+1<=c)(dF:o+c*k<=cb.size)(F1:c<=maxLen)
  (r8:dW.length=n*k) (H3:∀j v,dW[j]?=some v->cb[o+j]?=some v) (tC:news.length=k) (H4:∀j v,news[j]?=some v->cv[vo+j]?=some v) (Xi:∀v∈dW,v.oneCell'=true) (h1:∀v∈news,v.oneCell'=true):
  Calls prog f #[.slice (some ⟨b,o,none⟩) n c,.i i,.slice (some ⟨vb,vo,none⟩) 1 vc] w (EZ T k b n (dW.take (i*k)++news++dW.drop (i*k)) w):=by
 have hk:=F.pos;have E1:=Nat.add_one_mul n k;have E2:=Nat.add_one_mul i k;have E3:n*k=i*k+(n-i)*k:=by rw[<-Nat.add_mul];congr 1;omega
 have E4:=I5 k eS;have DV:c<=9223372036854775807:=by unfold maxLen at F1;omega
 have gP:cb.toList.length=cb.size:=vC;obtain⟨C1,Xb⟩:∃C1,C1=(aR cb.toList (o+(i+1)*k) (dW.drop (i*k))).toArray:=⟨_,rfl⟩;obtain⟨C2,SP⟩:∃C2,C2=(aR C1.toList (o+i*k) news).toArray:=⟨_,rfl⟩;have nL:(dW.drop (i*k)).length=(n-i)*k:=by rw[uQ,r8];omega
 have Eg:C1.toList.length=cb.size:=by rw[Xb];show(aR _ _ _).length=_;rw[W0 (by omega),gP]
 have SO:C2.size=cb.size:=by rw[SP,zC,W0 (by omega),Eg]
 have DT:∀ty q q' dl dc sl sc,q=o+(i+1)*k->q'=o+i*k->dl=n+1-(i+1)->sl=n+1-i->(Builtin.copy_ #[S,S] ty #[.slice (some ⟨b,q,none⟩) dl dc,.slice (some ⟨b,q',none⟩) sl sc]).run prog w.drew=.ok (goInt ((n-i:Nat):Int)) (w.drew.setRow b C1):=fun ty q q' dl dc sl sc e1 e2 e3 e4=>by
  subst e1 e2 e3 e4;have h:=Nr (P:=prog) (ty:=ty) w.drew S S T b (o+(i+1)*k) (n+1-(i+1)) dc (n+1-i) sc ⟨b,o+i*k,none⟩ cb T (dW.drop (i*k)) F.A8 F.Ju hb
   (by rw[nL,MH (by omega)];congr 1;omega) (fun j v hj=>by
    rw[Addr.add_lit];rw[mW]at hj
    have:=H3 _ v hj
    rw[<-Nat.add_assoc]at this;exact(cell_of_row w.drew b _ cb _ _ hb).trans this) (by omega) (fun v hv=>Xi v (List.mem_of_mem_drop hv))
  rw[MH (by omega),show n+1-(i+1)=n-i by omega,<-Xb]at h;rw[show n+1-(i+1)=n-i by omega];exact h
 have Cx:(w.drew.setRow b C1).heap[b]?=some (.cells C1 T (0,0)):=setRow_heap w.drew b cb _ _ _ hb;have DS:∀ty q dl dc,q=o+i*k->dl=n+1-i->(Builtin.copy_ #[S,S] ty #[.slice (some ⟨b,q,none⟩) dl dc,.slice (some ⟨vb,vo,none⟩) 1 vc]).run prog (w.drew.setRow b C1)=.ok (goInt 1) ((w.drew.setRow b C1).setRow b C2):=fun ty q dl dc e1 e2=>by
  subst e1 e2;have h:=Nr (P:=prog) (ty:=ty) (w.drew.setRow b C1) S S T b (o+i*k) (n+1-i) dc 1 vc ⟨vb,vo,none⟩ C1 T news F.A8 F.Ju Cx
   (by rw[tC,zM (by omega),Nat.one_mul]) (fun j v hj=>by
    rw[Addr.add_lit,cell_setRow_other _ _ _ _ VS];exact(cell_of_row w.drew vb _ cv _ _ hv).trans (H4 j v hj)) (by rw[<-vC,Eg];omega) h1
  rw[zM (by omega),<-SP]at h;exact h
 have fin:EZ T k b n (dW.take (i*k)++news++dW.drop (i*k)) w (.returned (.slice (some ⟨b,o,none⟩) (n+1) c)) ((w.drew.setRow b C1).setRow b C2):=by
  refine⟨b,o,c,C2,rfl,setRow_heap _ b C1 _ _ _ Cx,fun j hj=>?_,by omega,eS,F1,.inl rfl,((Gz w _).trans (cY.setRow _ _ _)).trans (cY.setRow _ _ _)⟩;have oQ:(dW.take (i*k)).length=i*k:=by rw[gM];omega
  rw[SP,I4,A5 (by omega),Xb,I3,zB,zB,oQ];by_cases q1:j<i*k
  .rw[if_pos (by omega),if_pos q1,List.toList_toArray,A5 (by omega),if_pos (by omega),O7,mH,if_pos q1];have hv:=bC (show j<dW.length by omega);rw[hv];exact H3 j _ hv
  by_cases q2:j<(i+1)*k
  .rw[if_neg (by omega),if_pos (by omega),if_neg q1,if_pos (by omega)];congr 1;omega
  .rw[if_neg (by omega),if_neg (by omega),if_neg q1,if_neg (by omega),List.toList_toArray,A5 (by omega),if_neg (by omega),if_pos (by omega)];congr 1;omega
 exact F.shift _ _ _ _ _ _ _ _ cb cv _ _ _ _ hb hv VS hi eS dF F1 DT DS fin
theorem ZtC {f:FuncId}{S T:TypeId}{k:Nat}(F:W7 f S T k)(b o n c i vb vo vc:Nat)(cb cv:Array Value)(dW news:List Value)(w:World)(hb:w.heap[b]?=some (.cells cb T (0,0)))(hv:w.heap[vb]?=some (.cells cv T (0,0)))(hi:i<n)(eS:c<n+1)(mD:n<=c)(hn:n<=1000000)
  (r8:dW.length=n*k) (H3:∀j v,dW[j]?=some v->cb[o+j]?=some v) (tC:news.length=k) (H4:∀j v,news[j]?=some v->cv[vo+j]?=some v) (Xi:∀v∈dW,v.oneCell'=true) (h1:∀v∈news,v.oneCell'=true):
  Calls prog f #[.slice (some ⟨b,o,none⟩) n c,.i i,.slice (some ⟨vb,vo,none⟩) 1 vc] w (EZ T k b n (dW.take (i*k)++news++dW.drop (i*k)) w):=by
 have hk:=F.pos;have E1:=Nat.add_one_mul n k;have E2:=Nat.add_one_mul i k;have E3:n*k=i*k+(n-i)*k:=by rw[<-Nat.add_mul];congr 1;omega
 have E5:(n+1-i)*k=(n-i)*k+k:=by rw[<-Nat.add_one_mul];congr 1;omega
 obtain⟨ti,z,QJ,hz,fI,c7,uE⟩:=F.inf;have Dl:b<w.heap.size:=(qL.1 hb).1;have hvw:vb<w.heap.size:=(qL.1 hv).1;have oQ:(dW.take (i*k)).length=i*k:=by rw[gM];omega
 have nL:(dW.drop (i*k)).length=(n-i)*k:=by rw[uQ,r8];omega
 have hold:(Builtin.firstCells ti.size i (.slice (some ⟨b,o,none⟩) i c)).run prog w.drew=.ok (dW.take (i*k)).toArray w.drew:=by
  rw[fI];exact run_firstCells_some (P:=prog) w.drew k i ⟨b,o,none⟩ i c (dW.take (i*k)) oQ (fun j u hj=>by
   rw[Addr.add_lit];rw[mH]at hj;split at hj
   .exact(cell_of_row w.drew b _ cb _ _ hb).trans (H3 j u hj)
   .cases hj)
 have QQ:∀ty (q:Int),q=((n+1-i:Nat):Int)->(Builtin.append_ #[S,3] ty #[.slice (some ⟨b,o,none⟩) i c,.i q]).run prog w =
   .ok (.slice (some ⟨w.heap.size,0,none⟩) (n+1) (grownCap w (n+1) c T)) (w.drew.alloc (.cells ((dW.take (i*k)).toArray++Builtin.zeroCells z.cells (n+1-i)++Builtin.zeroCells z.cells (grownCap w (n+1) c T-(n+1))) T)):=fun ty q hq=>by
  subst hq;have h:=Lib.run_append_grow_zeros w S 3 ty T ti z .i64 .i64 F.A8 underlying3 QJ hz (some ⟨b,o,none⟩) i c (dW.take (i*k)) hold (n+1-i) (by omega) (by omega) (by omega) (by omega) (by rcases c7 with h|h<;>rw[h]<;>omega) (growslice_fits (by omega) (by rcases c7 with h|h<;>rw[h]<;>omega));rw[show i+(n+1-i)=n+1 by omega]at h;exact h
 have yT:=grownCap_ge w (n+1) c T;have hle:=grownCap_le_maxLen w (n+1) c T (by unfold maxLen;omega);generalize grownCap w (n+1) c T=G at QQ yT hle;obtain⟨uV,SJ⟩:∃uV:Array Value,uV=(dW.take (i*k)).toArray++Builtin.zeroCells z.cells (n+1-i)++Builtin.zeroCells z.cells (G-(n+1)):=⟨_,rfl⟩;rw[<-SJ]at QQ;have E8:G*k=(n+1)*k+(G-(n+1))*k:=by rw[<-Nat.add_mul];congr 1;omega
 have hRl:uV.size=G*k:=by
  rw[SJ,Array.size_append,Array.size_append,zC,size_zeroCells,size_zeroCells,uE,oQ];omega
 have hRt:∀j,j<i*k->uV[j]?=dW[j]?:=fun j hj=>by
  rw[SJ,Array.append_assoc,Array.getElem?_append_left (by rw[zC];omega),I4,mH,if_pos hj]
 obtain⟨C2,SP⟩:∃C2,C2=(aR uV.toList (i*k) news).toArray:=⟨_,rfl⟩;obtain⟨C3,Xa⟩:∃C3,C3=(aR C2.toList ((i+1)*k) (dW.drop (i*k))).toArray:=⟨_,rfl⟩;have hRL:uV.toList.length=G*k:=by rw[vC];exact hRl
 have SO:C2.toList.length=G*k:=by rw[SP];show(aR _ _ _).length=_;rw[W0 (by omega),hRL]
 have hC3l:C3.size=G*k:=by rw[Xa,zC,W0 (by omega),SO]
 have Cx:(w.drew.alloc (.cells uV T)).heap[w.heap.size]?=some (.cells uV T (0,0)):=heap_alloc_new w.drew _;have hh2:((w.drew.alloc (.cells uV T)).setRow w.heap.size C2).heap[w.heap.size]?=some (.cells C2 T (0,0)):=setRow_heap _ _ uV _ _ _ Cx;have DR:∀(W:World),W.heap=(w.drew.alloc (.cells uV T)).heap->∀ty q dl dc,q=i*k->dl=n+1-i->(Builtin.copy_ #[S,S] ty #[.slice (some ⟨w.heap.size,q,none⟩) dl dc,.slice (some ⟨vb,vo,none⟩) 1 vc]).run prog W=.ok (goInt 1) (W.setRow w.heap.size C2):=fun W hW ty q dl dc e1 e2=>by
  subst e1 e2;have rY:W.heap[vb]?=some (.cells cv T (0,0)):=by rw[hW,heap_alloc_old w.drew _ hvw];exact hv
  have h:=Nr (P:=prog) (ty:=ty) W S S T w.heap.size (i*k) (n+1-i) dc 1 vc ⟨vb,vo,none⟩ uV T news F.A8 F.Ju (by rw[hW];exact Cx)
   (by rw[tC,zM (by omega),Nat.one_mul]) (fun j v hj=>by
    rw[Addr.add_lit];exact(cell_of_row W vb _ cv _ _ rY).trans (H4 j v hj)) (by omega) h1
  rw[zM (by omega),<-SP]at h;exact h
 have DQ:∀(W:World),W.heap=((w.drew.alloc (.cells uV T)).setRow w.heap.size C2).heap->∀ty q q' dl dc sl sc,q=(i+1)*k->q'=o+i*k->dl=n+1-(i+1)->sl=n-i->(Builtin.copy_ #[S,S] ty #[.slice (some ⟨w.heap.size,q,none⟩) dl dc,.slice (some ⟨b,q',none⟩) sl sc]).run prog W=.ok (goInt ((n-i:Nat):Int)) (W.setRow w.heap.size C3):=fun W hW ty q q' dl dc sl sc e1 e2 e3 e4=>by
  subst e1 e2 e3 e4;have nT:W.heap[b]?=some (.cells cb T (0,0)):=by rw[hW,setRow_other _ _ _ _ (by omega),heap_alloc_old w.drew _ Dl];exact hb
  have h:=Nr (P:=prog) (ty:=ty) W S S T w.heap.size ((i+1)*k) (n+1-(i+1)) dc (n-i) sc ⟨b,o+i*k,none⟩ C2 T (dW.drop (i*k)) F.A8 F.Ju (by rw[hW];exact hh2)
   (by rw[nL,zM (by omega)]) (fun j v hj=>by
    rw[Addr.add_lit];rw[mW]at hj
    have:=H3 _ v hj
    rw[<-Nat.add_assoc]at this;exact(cell_of_row W b _ cb _ _ nT).trans this) (by rw[<-vC,SO];omega) (fun v hv=>Xi v (List.mem_of_mem_drop hv))
  rw[zM (by omega),<-Xa]at h;exact h
 have fin:∀W:World,W=(((w.drew.alloc (.cells uV T)).setRow w.heap.size C2).drew).setRow w.heap.size C3->EZ T k b n (dW.take (i*k)++news++dW.drop (i*k)) w (.returned (.slice (some ⟨w.heap.size,0,none⟩) (n+1) G)) W:=fun W hW=>by
  subst hW;refine⟨w.heap.size,0,G,C3,rfl,setRow_heap _ _ C2 _ _ _ hh2,fun j hj=>?_,by omega,yT,hle,.inr (fH _),?_⟩
  .rw[sF,Xa,I4,A5 (by omega),SP,I3,zB,zB,oQ];by_cases q1:j<i*k
   .rw[if_pos (by omega),if_pos q1,List.toList_toArray,A5 (by omega),if_pos (by omega),O7,mH,if_pos q1];exact hRt j q1
   by_cases q2:j<(i+1)*k
   .rw[if_pos (by omega),if_neg q1,if_pos (by omega),List.toList_toArray,A5 (by omega),if_neg (by omega),if_pos (by omega)]
   .rw[if_neg (by omega),if_pos (by omega),if_neg q1,if_neg (by omega)];congr 1;omega
  .refine⟨rfl,rfl,rfl,by simp,fun k hk _=>?_⟩;rw[setRow_other _ _ _ _ (by omega)];show((w.drew.alloc (.cells uV T)).setRow w.heap.size C2).heap[k]?=_;rw[setRow_other _ _ _ _ (by omega),heap_alloc_old w.drew _ hk];rfl
 exact F.grow _ _ _ _ _ _ _ _ _ uV C2 C3 _ _ hi eS mD hn yT hle QQ DR DQ (fin _ rfl)
theorem Zu1:W7 215 33 62 4:=by
 refine⟨by decide,underlying33,by kernel_rfl,⟨_,_,rfl,rfl,rfl,by decide,rfl⟩,?_,?_,?_⟩
 .intro base n c vb vo vc w W2 R E H4 hc qW dG fin;have F1:c<=9223372036854775807:=by unfold maxLen at hc;omega
  cases base with
  |none=>
   obtain⟨rfl,rfl⟩:=qW rfl;go_enter func215,ntmps215;go_wp2_with (at_builtin;refine Lib.wpList_append_run _ rfl _ _ _ _ rfl _ _ rfl rfl _ _ (dG _) ?_)
   all_goals exact fin
  |some a=>
   obtain⟨ab,ao,asp⟩:=a;go_enter func215,ntmps215;go_wp2_with (at_builtin;refine Lib.wpList_append_run _ rfl _ _ _ _ rfl _ _ rfl rfl _ _ (dG _) ?_)
   all_goals exact fin
 .intro b o n c i vb vo vc cb cv w W1 W2 E hb hv VS hi eS dF hc DT DS fin;have DV:c<=9223372036854775807:=by unfold maxLen at hc;omega
  have Ua:∀lb cc,(callFunc 260 #[.slice (some ⟨vb,vo,none⟩) 1 vc,.slice (some ⟨b,o+(i+1)*4,none⟩) lb cc]).run prog w=.ok (.value (.bool false)) w:=fun lb cc=>by
   rw[run_callFunc_extern func260 (by kernel_rfl) (by kernel_rfl) (by kernel_rfl) (e:=Extern.SlicesOverlaps.overlaps #[33,33] #[4]) (by kernel_rfl),
    Lib.run_overlaps_apart w 33 4 62 underlying33 4 (Go.Proofs.YthmbecacehfgfabGreatDoor.run_sizeOf (by kernel_rfl)) ⟨vb,vo,none⟩ ⟨b,o+(i+1)*4,none⟩ 1 vc lb cc VS 62 62 cv.size cb.size (by simp[World.shape?,hv]) (by simp[World.shape?,hb]) (by omega) (Lib.frozen_of_heap hv vo) (Lib.frozen_of_heap hv cv.size)]
   rfl
  have P8:¬((i:Int)=(n:Int)):=by omega
  have mixed:prog.follows .mixedOrders=true:=by kernel_rfl
  have qD:IntKind.i64.wrap ((i:Int)+1)=(i:Int)+1:=by rw[IntKind.wrap_i64];omega
  have tE:(0:Int)<=(i:Int)+1:=by omega
  have gB:i<=n:=by omega
  have ID:((i:Int)+1).toNat=i+1:=by omega
  have nS:¬(c=i+1):=by omega
  have SC:(i:Int)<=(n:Int)+1:=by omega
  have NR:¬(c=i):=by omega
  go_enter func215,ntmps215;go_wp2_with (simp only[Ua]);go_region_law_o (refine step_copy_runI rfl _ _ 33 33 rfl _ _ (by simp[Act.eval,Act.put]) (by simp[Act.eval,Act.put]) (DT _ _ _ _ _ _ _ (by omega) (by omega) (by omega) (by omega)) ?_);go_wp2_with (at_builtin;refine wpList_copy_runI _ rfl _ _ 33 33 rfl _ _ rfl rfl (DS _ _ _ _ (by omega) (by omega)) ?_)
  all_goals exact fin
 .intro b o n c i vb vo vc G uV C2 C3 w E hi eS mD hn yT hle QQ DR DQ fin;have mixed:prog.follows .mixedOrders=true:=by kernel_rfl
  have X9:(c:Int)<(n:Int)+1:=by omega
  have P8:¬((i:Int)=(n:Int)):=by omega
  have qD:IntKind.i64.wrap ((i:Int)+1)=(i:Int)+1:=by rw[IntKind.wrap_i64];omega
  have tE:(0:Int)<=(i:Int)+1:=by omega
  have gB:i<=n:=by omega
  have ID:((i:Int)+1).toNat=i+1:=by omega
  have hGi:¬(G=i):=by omega
  have Wt:¬(G=i+1):=by omega
  have hci:¬(c=i):=by omega
  have Wu:G<=9223372036854775807:=by unfold maxLen at hle;omega
  have SC:(i:Int)<=(n:Int):=by omega
  go_enter func215,ntmps215;go_wp2_with (at_builtin;refine Lib.wpList_append_run _ rfl _ _ _ _ rfl _ _ rfl rfl _ _ (QQ _ _ (by omega)) ?_);rw[DR ((w.alloc (.cells uV 62)).drew) rfl _ _ _ _ rfl rfl];simp only[Result.andThen];rw[Oper.upon_value];go_wp2;go_region_law_o (refine step_copy_runI rfl _ _ 33 33 rfl (.slice (some ⟨w.heap.size,(i+1)*4,none⟩) (n+1-(i+1)) (G-(i+1))) (.slice (some ⟨b,o+i*4,none⟩) (n-i) (c-i)) (by simp[Act.eval,Act.put]) (by simp[Act.eval,Act.put]) (DQ _ (by rfl) 3 _ _ _ (G-(i+1)) _ (c-i) rfl rfl rfl rfl) ?_);go_wp2
  all_goals exact fin
theorem Zu2:W7 212 32 3 1:=by
 refine⟨by decide,underlying32,by kernel_rfl,⟨_,_,rfl,rfl,rfl,by decide,rfl⟩,?_,?_,?_⟩
 .intro base n c vb vo vc w W2 R E H4 hc qW dG fin;have F1:c<=9223372036854775807:=by unfold maxLen at hc;omega
  cases base with
  |none=>
   obtain⟨rfl,rfl⟩:=qW rfl;go_enter func212,ntmps212;go_wp2_with (at_builtin;refine Lib.wpList_append_run _ rfl _ _ _ _ rfl _ _ rfl rfl _ _ (dG _) ?_)
   all_goals exact fin
  |some a=>
   obtain⟨ab,ao,asp⟩:=a;go_enter func212,ntmps212;go_wp2_with (at_builtin;refine Lib.wpList_append_run _ rfl _ _ _ _ rfl _ _ rfl rfl _ _ (dG _) ?_)
   all_goals exact fin
 .intro b o n c i vb vo vc cb cv w W1 W2 E hb hv VS hi eS dF hc DT DS fin;have DV:c<=9223372036854775807:=by unfold maxLen at hc;omega
  have Ua:∀lb cc,(callFunc 256 #[.slice (some ⟨vb,vo,none⟩) 1 vc,.slice (some ⟨b,o+(i+1),none⟩) lb cc]).run prog w=.ok (.value (.bool false)) w:=fun lb cc=>by
   rw[run_callFunc_extern func256 (by kernel_rfl) (by kernel_rfl) (by kernel_rfl) (e:=Extern.SlicesOverlaps.overlaps #[32,32] #[4]) (by kernel_rfl),
    Lib.run_overlaps_apart w 32 4 3 underlying32 1 (Go.Proofs.YthmbecacehfgfabGreatDoor.run_sizeOf (by kernel_rfl)) ⟨vb,vo,none⟩ ⟨b,o+(i+1),none⟩ 1 vc lb cc VS 3 3 cv.size cb.size (by simp[World.shape?,hv]) (by simp[World.shape?,hb]) (by omega) (Lib.frozen_of_heap hv vo) (Lib.frozen_of_heap hv cv.size)]
   rfl
  have P8:¬((i:Int)=(n:Int)):=by omega
  have mixed:prog.follows .mixedOrders=true:=by kernel_rfl
  have qD:IntKind.i64.wrap ((i:Int)+1)=(i:Int)+1:=by rw[IntKind.wrap_i64];omega
  have tE:(0:Int)<=(i:Int)+1:=by omega
  have gB:i<=n:=by omega
  have ID:((i:Int)+1).toNat=i+1:=by omega
  have nS:¬(c=i+1):=by omega
  have SC:(i:Int)<=(n:Int)+1:=by omega
  have NR:¬(c=i):=by omega
  go_enter func212,ntmps212;go_wp2_with (simp only[Ua]);go_region_law_o (refine step_copy_runI rfl _ _ 32 32 rfl _ _ (by simp[Act.eval,Act.put]) (by simp[Act.eval,Act.put]) (DT _ _ _ _ _ _ _ (by omega) (by omega) (by omega) (by omega)) ?_);go_wp2_with (at_builtin;refine wpList_copy_runI _ rfl _ _ 32 32 rfl _ _ rfl rfl (DS _ _ _ _ (by omega) (by omega)) ?_)
  all_goals exact fin
 .intro b o n c i vb vo vc G uV C2 C3 w E hi eS mD hn yT hle QQ DR DQ fin;have mixed:prog.follows .mixedOrders=true:=by kernel_rfl
  have X9:(c:Int)<(n:Int)+1:=by omega
  have P8:¬((i:Int)=(n:Int)):=by omega
  have qD:IntKind.i64.wrap ((i:Int)+1)=(i:Int)+1:=by rw[IntKind.wrap_i64];omega
  have tE:(0:Int)<=(i:Int)+1:=by omega
  have gB:i<=n:=by omega
  have ID:((i:Int)+1).toNat=i+1:=by omega
  have hGi:¬(G=i):=by omega
  have Wt:¬(G=i+1):=by omega
  have hci:¬(c=i):=by omega
  have Wu:G<=9223372036854775807:=by unfold maxLen at hle;omega
  have SC:(i:Int)<=(n:Int):=by omega
  go_enter func212,ntmps212;go_wp2_with (at_builtin;refine Lib.wpList_append_run _ rfl _ _ _ _ rfl _ _ rfl rfl _ _ (QQ _ _ (by omega)) ?_);rw[DR ((w.alloc (.cells uV 3)).drew) rfl _ _ _ _ (by omega) rfl];simp only[Result.andThen];rw[Oper.upon_value];go_wp2;go_region_law_o (refine step_copy_runI rfl _ _ 32 32 rfl (.slice (some ⟨w.heap.size,i+1,none⟩) (n+1-(i+1)) (G-(i+1))) (.slice (some ⟨b,o+i,none⟩) (n-i) (c-i)) (by simp[Act.eval,Act.put]) (by simp[Act.eval,Act.put]) (DQ _ (by rfl) 3 _ _ _ (G-(i+1)) _ (c-i) (by omega) (by omega) rfl rfl) ?_);go_wp2
  all_goals exact fin
end
theorem ZlF {ρ:Site->Loc}{m:Mem}{w:World}{s:Site}{e n:Nat}{xs:List PV}(h:kT ρ m w s (.arr e n xs))(hr:(ρ s).real=true):
  ∃cs ds,w.heap[(ρ s).b]?=some (.cells cs e (0,0))/\(ρ s).o+(ρ s).cap*n<=cs.size/\xs.length<=(ρ s).cap/\(ρ s).cap<=maxLen/\Flat m ds n xs/\∀(j:Nat) v,ds[j]?=some v->cs[(ρ s).o+j]?=some v:=by
 obtain⟨hn,hB|⟨_,cs,g1,g2,g3,g4,g5⟩⟩:=h
 .rw[hB.1]at hr;cases hr
 have dF:(ρ s).o+xs.length*n<=cs.size:=by
  have:xs.length*n<=(ρ s).cap*n:=I5 _ g3
  omega
 refine⟨cs,(cs.toList.drop (ρ s).o).take (xs.length*n),g1,g2,g3,g4,⟨by rw[Iq dF],fun u hu=>?_,fun i x hi=>?_⟩,fun j v hj=>?_⟩
 .obtain⟨k,hk⟩:=iO.1 hu;rw[l8]at hk;split at hk
  .rename_i aI;obtain⟨h1,h2,h3⟩:=Hz aI hn;obtain⟨q1,q2⟩:=g5 _ _ (bC h1);obtain⟨u',q3,q4,_⟩:=q2 _ _ (bC (show k%n<(xs[k / n]).cells.length by omega));rw[show(ρ s).o+k / n*n+k%n=(ρ s).o+k by omega,hk]at q3;cases q3;exact q4
  .cases hk
 .obtain⟨q1,q2⟩:=g5 i x hi;refine⟨q1,fun j c hj=>?_⟩;obtain⟨u,q3,_,q5⟩:=q2 j c hj;have sA:j<n:=by have:=(cD.1 hj).1;omega
  have:=W5 (n:=n) (cD.1 hi).1
  exact⟨u,by rw[l8,if_pos (by omega)];rw[<-q3];congr 1;omega,q5⟩
 .rw[l8]at hj;split at hj
  .exact hj
  .cases hj
theorem Flat.Zx3 {m:Mem}{ds:List Value}{n:Nat}{xs:List PV}(h:Flat m ds n xs)(i:Nat)(hi:i<=xs.length):Flat m (ds.take (i*n)) n (xs.take i):=by
 have hl:i*n<=xs.length*n:=I5 _ hi;refine⟨by rw[gM,gM,h.len,Nat.min_eq_left hl,Nat.min_eq_left hi],fun u hu=>h.one u (List.mem_of_mem_take hu),fun k x hk=>?_⟩;rw[mH]at hk;split at hk
 .rename_i AK;obtain⟨k1,k2⟩:=h.get k x hk;refine⟨k1,fun j c hj=>?_⟩;obtain⟨u,q1,q2⟩:=k2 j c hj;have sA:j<n:=by have:=(cD.1 hj).1;omega
  have:=W5 (n:=n) AK
  exact⟨u,by rw[mH,if_pos (by omega)];exact q1,q2⟩
 .cases hk
theorem Flat.Zx9 {m:Mem}{ds:List Value}{n:Nat}{xs:List PV}(h:Flat m ds n xs)(i:Nat):Flat m (ds.drop (i*n)) n (xs.drop i):=by
 refine⟨by rw[uQ,uQ,h.len,Nat.sub_mul],fun u hu=>h.one u (List.mem_of_mem_drop hu),fun k x hk=>?_⟩;rw[mW]at hk;obtain⟨k1,k2⟩:=h.get _ x hk;refine⟨k1,fun j c hj=>?_⟩;obtain⟨u,q1,q2⟩:=k2 j c hj;exact⟨u,by rw[mW,<-q1];congr 1;rw[Nat.add_mul];omega,q2⟩
theorem Zlc {TE k b n:Nat}{Ld:List Value}{ys:List PV}{w w':World}{e:Ending}{m:Mem}{ρ:Site->Loc}{B:List (Site×aJ)}(hk:0<k)(hE:EZ TE k b n Ld w e w')(hF:Flat m Ld k ys)(hy:ys.length=n+1)
  (hm:Le m w.mem) (wM:b∈cK ρ w B\/w.heap.size<=b) (tB:∀o,m b o=none):lI w m ρ B (fun r B'=>r=.vec (.ret 0) k 0 (n+1)/\B'=[(.ret 0,.arr TE k ys)]) e w':=by
 obtain⟨b',o',c',iM,rfl,g1,g2,g3,g4,g5,g6,g7⟩:=hE;have hu:=S0 ρ (.ret 0) ⟨b',o',c',true⟩;have M8:∀b,w.heap.size<=b->∀o,m b o=none:=fun b hb o=>by
  cases hv:m b o with
  |none=>rfl
  |some v=>have:=BJ (hm _ _ _ hv);omega
 have Cf:∀o,m b' o=none:=by
  rcases g6 with rfl|g6
  .exact tB
  .exact M8 _ g6
 have look:∀s bx,List.lookup s [((.ret 0:Site),aJ.arr TE k ys)]=some bx->s=.ret 0/\bx=.arr TE k ys:=fun s bx h=>by
  by_cases e:s=.ret 0
  .subst e;rw[mX]at h;cases h;exact⟨rfl,rfl⟩
  .rw[jJ e]at h;cases h
 have mQ:Le m w'.mem:=fun a o v hv=>by
  have hw:=hm a o v hv;have aI:=BJ hw;have dA:a≠b:=fun e=>by subst e;rw[tB o]at hv;cases hv
  exact(World.cell?_of_block (a:=⟨a,o,none⟩) (g7.block a aI (by simpa using dA))).trans hw
 refine⟨_,.vec (.ret 0) k 0 (n+1),[(.ret 0,.arr TE k ys)],iQ ρ (.ret 0) ⟨b',o',c',true⟩,m,rfl,⟨rfl,rfl⟩,⟨fun s bx h=>?_,fun s s' bx Xu i h h' _ _=>?_,fun s bx i h hb o=>?_⟩,Le.refl m,mQ,fun i=>BD ρ _ (by simp),fun s bx i h hb=>?_,fun _ _ _ h=>.inl h,?_,?_⟩
 .obtain⟨rfl,rfl⟩:=look s bx h;refine⟨hk,.inr ⟨by rw[hu],iM,by rw[hu];exact g1,by rw[hu];exact g3,by rw[hu,hy];exact g4,by rw[hu];exact g5,fun i x hx=>?_⟩⟩;obtain⟨k1,k2⟩:=hF.get i x hx;refine⟨k1,fun j c hj=>?_⟩;obtain⟨u,q1,q2⟩:=k2 j c hj;have aI:=(cD.1 q1).1;rw[hF.len,hy]at aI;exact⟨u,by rw[hu];show iM[o'+i*k+j]?=_;rw[<-q1,<-g2 _ aI,Nat.add_assoc],hF.one u (dL q1),q2⟩
 .rw[(look s bx h).1,(look s' Xu h').1]
 .obtain⟨rfl,rfl⟩:=look s bx h;obtain⟨_,q⟩:=FD rfl hb;rw[hu]at q;rw[<-q];exact Cf o
 .obtain⟨rfl,rfl⟩:=look s bx h;obtain⟨_,q⟩:=FD rfl hb;rw[hu]at q;rw[<-q];show w.heap.size<=b'\/b'∈_;rcases g6 with rfl|g6
  .exact wM.symm
  .exact .inl g6
 .have:=bQ.vec (ρ:=iQ ρ (.ret 0) ⟨b',o',c',true⟩) (m:=m) (.ret 0) k 0 (n+1) c' g4 (by rw[hu];simp) (by rw[hu])
  rw[hu]at this;simpa using this
 .refine⟨g7.os,g7.tape,g7.output,g7.size,fun i hi hn=>g7.block i hi (fun h=>?_)⟩;rw[sG]at h;subst h;rcases wM with h|h
  .exact hn h
  .omega
theorem Yf {vs:Array Value}(h:vs.size=3):∃v u x,vs=#[v,u,x]:=by
 match vs,h with
 |⟨[v,u,x]⟩,_=>exact⟨v,u,x,rfl⟩
theorem MR {f:FuncId}{S T:TypeId}{k:Nat}(F:W7 f S T k)(hf:jS prog f)(xs:List PV)(x:PV)(i:Nat)(hi:i<=xs.length)(hx:xs.length<=1000000):
  cU prog f [.vec (.par 0) k 0 xs.length,.pv (.i i),.vec (.par 1) k 0 1] [(.par 0,.arr T k xs),(.par 1,.arr T k [x])] (fun r B=>r=.vec (.ret 0) k 0 (xs.length+1)/\B=[(.ret 0,.arr T k (lQ xs i x))]):=by
 refine⟨hf,fun w m ρ vs hB mQ fI lK=>?_⟩;obtain⟨v0,v1,v2,rfl⟩:=Yf (by simpa using fI);have h0:=lK 0 v0 _ rfl rfl;have h1:=(lK 1 v1 _ rfl rfl).nN;have h2:=lK 2 v2 _ rfl rfl;have xM:v1=.i i:=by cases h1;rfl
 subst xM;have b0:=hB.bx (.par 0) _ rfl;have b1:=hB.bx (.par 1) _ rfl;rcases h2.EX with⟨cap1,rfl,c0,c1,c2⟩|⟨a,_,c0,_⟩
 .obtain⟨cv,ns,e1,_,_,_,eF,eN⟩:=ZlF b1 c2;have tC:ns.length=k:=by rw[eF.len];exact Nat.one_mul k
  have hvlt:(ρ (.par 1)).b<w.heap.size:=(qL.1 e1).1;rw[Nat.zero_mul,Nat.add_zero]at *;have DP:∀(j:Nat) v,ns[j]?=some v->w.cell? ⟨(ρ (.par 1)).b,(ρ (.par 1)).o+j,none⟩=some v:=fun j v hj=>(cell_of_row w _ _ cv _ _ e1).trans (eN j v hj)
  rcases h0.EX with⟨cap,rfl,d0,d1,d2⟩|⟨a,rfl,d0,_⟩
  .obtain⟨cb,os,f1,f2,f3,f4,fF,fN⟩:=ZlF b0 d2;rw[Nat.zero_mul,Nat.add_zero];have dA:(ρ (.par 1)).b≠(ρ (.par 0)).b:=fun e=>by
    have:=hB.inj (.par 1) (.par 0) _ _ rfl rfl c2 d2 e
    cases this
   have r8:os.length=xs.length*k:=fF.len;have dF:(ρ (.par 0)).o+cap*k<=cb.size:=by
    have:cap*k<=(ρ (.par 0)).cap*k:=I5 _ (by omega)
    omega
   have hFl:Flat m (os.take (i*k)++ns++os.drop (i*k)) k (lQ xs i x):=by
    have:=((fF.Zx3 i hi).app eF).app (fF.Zx9 i)
    rw[I3 (xs.take i)]at this;exact this
   have wM:(ρ (.par 0)).b∈cK ρ w [(.par 0,.arr T k xs),(.par 1,.arr T k [x])]:=UF.2 ⟨_,List.mem_cons_self ..,xV d2⟩;have tB:=hB.off (.par 0) _ rfl d2;have post:=fun e w' (h:EZ T k (ρ (.par 0)).b xs.length (os.take (i*k)++ns++os.drop (i*k)) w e w')=>Zlc (ρ:=ρ) (B:=[(.par 0,.arr T k xs),(.par 1,.arr T k [x])]) F.pos h hFl (UE hi) mQ.1 (.inl wM) tB
   by_cases gB:i<xs.length
   .by_cases hr:xs.length+1<=cap
    .exact(Zqn F _ _ _ _ _ _ _ _ cb cv os ns w f1 e1 dA gB hr dF (by omega) r8 fN tC eN fF.one eF.one).mono post
    .exact(ZtC F _ _ _ _ _ _ _ _ cb cv os ns w f1 e1 gB (by omega) d0 hx r8 fN tC eN fF.one eF.one).mono post
   .have he:i=xs.length:=by omega
    subst he;have ht:os.take (xs.length*k)++ns++os.drop (xs.length*k)=os++ns:=by rw[fQ (by omega),List.drop_eq_nil_of_le (by omega),xC]
    rw[ht]at post;by_cases hr:xs.length+1<=cap
    .exact(ZtB F _ _ _ _ _ _ _ cb os ns w f1 hr dF (by omega) r8 fN tC DP eF.one).mono post
    .exact(Zod F (ρ (.par 0)).b _ _ _ _ _ _ os ns w (by omega) hx (fun h=>by cases h) d0 r8 (fun j v hj=>⟨_,rfl,by rw[Addr.add_lit];exact(cell_of_row w _ _ cb _ _ f1).trans (fN j v hj)⟩) tC DP).mono post
  .have CQ:xs=[]:=List.length_eq_zero_iff.1 d0;subst CQ;have H5:i=0:=Nat.le_zero.1 hi;subst H5;have post:=fun e w' (h:EZ T k w.heap.size 0 ([]++ns) w e w')=>Zlc (ρ:=ρ) (B:=[(.par 0,.arr T k []),(.par 1,.arr T k [x])]) F.pos h (ys:=[x]) eF rfl mQ.1 (.inr (fH _)) (fun o=>by
    cases hv:m w.heap.size o with
    |none=>rfl
    |some v=>have:=BJ (mQ.1 _ _ _ hv);omega)
   exact(Zod F w.heap.size _ 0 0 _ _ _ [] ns w (by omega) (by omega) (fun _=>⟨rfl,rfl⟩) (by omega) (Nat.zero_mul k).symm (fun j v hj=>by simp at hj) tC DP).mono post
 .cases c0
def bdQ (r:Except Int (List Int))(l:List Ct)(ls ts rn:PV)(a b c d e:PV):Prop:=∃l',r=.ok l'/\a=aK l/\b=bJ l'/\c=ls/\d=ts/\e=rn
def WS (W:aJ)(bad:List Int)(n:Int):AS:=⟨[(27,.ptr (.par 0) 0),(33,.vec (.loc 33 0) 1 0 bad.length),(34,.pv (.i (dJ bad n))),(38,.vec (.loc 38 0) 1 0 1)],[(.loc 33 0,.arr 3 1 (bad.map iP)),(.loc 38 0,.arr 3 1 [iP n]),(.par 0,W)]⟩
theorem Fk (l:List Ct)(bad:List Int)(ls ts rn:PV)(n:Int)(hl:l.length<=1000)(hb:bad.length<=900)(hs:bad.Pairwise (·<·)):
  tH prog 169 [.ptr (.par 0) 0,.pv (.aF false 1 [iP n])] [(.par 0,aP (aK l) (bJ bad) ls ts rn)] (yF (bdQ (pW l bad n) l ls ts rn)) (uY (fun e=>pW l bad n=.error e)):=by
 have N4:=ZjA l n (bJ bad) ls ts rn hl;have wG:=ZoQ bad n hs (by omega);have IY:=MR Zu2 ⟨_,_,func212,by kernel_rfl,rfl⟩ (bad.map iP) (iP n) (dJ bad n) (by rw[fZ];exact XL) (by rw[fZ];omega);rw[<-ZhN (f:=iP),fZ]at IY;refine cX L169 ?_;generalize hE:(fun e=>pW l bad n=.error e)=E;generalize hQ:bdQ (pW l bad n) l ls ts rn=Q;unfold pW at hE hQ;generalize(l.any fun y=>decide (y.num=n))=kn at hE hQ N4;show fO _ (.seq _ (.seq _ (.seq _ _))) _ _ _;cases kn with
 |false=>
  have WM:E 7:=by rw[<-hE];rfl
  refine xF [_,_,_,_,_] ?_;simp[hold,aP,iP,aK];refine cM [.ptr (.par 0) 0,.pv (.i n)] [(.par 0,aP (aK l) (bJ bad) ls ts rn)] 10 [.par 0] (by simp[aP,aK]) N4 (by simp[aP]) ?_;simp[aP];exact pF 7 WM
 |true=>
 rw[if_pos rfl]at hE hQ;refine mI ?_;simp[hold,aP,iP,aK];refine cM [.ptr (.par 0) 0,.pv (.i n)] [(.par 0,aP (aK l) (bJ bad) ls ts rn)] 10 [.par 0] (by simp[aP,aK]) N4 (by simp[aP]) ?_;simp[aP];refine cG [.bool true,.i 7] (gR 7) ?_;simp;refine mI ?_;simp[hold,bJ];refine cG [.aF false 1 (bad.map iP),.i n] wG ?_;simp[hold];by_cases hm:n∈bad
 .rw[if_pos hm]at hE;have JL:E 6:=by rw[<-hE]
  refine xF [_,_] ?_;simp[hold,hm];exact pF 6 JL
 rw[if_neg hm]at hQ;refine mI ?_;simp[hold,hm];refine cG [.bool true,.i 6] (gR 6) ?_;simp;refine GZ ?_;have gP:=Zgp (bad.map iP) (by rw[fZ];omega);simp[-List.map_cons,hold];refine BK (fun τ=>τ=WS (aP (aK l) (bJ bad) ls ts rn) bad n) ?_ ?_
 .simp only[gL];refine⟨?_,?_⟩
  .simp[-List.map_cons,hold];refine R8 [] (fs:=[]) (xs:=[.aF false 1 (bad.map iP)]) (cs:=[]) rfl rfl gP ?_;rintro r B (⟨h,rfl,rfl⟩|⟨rfl,rfl⟩)
   .rw[List.map_eq_nil_iff]at h;subst h;simp[gL,gS];exact Sub.trans' (Sub.mk (by simp[AS.cW]) (by simp[AS.cW,bJ,aP,iP,aK])) (cW 33 3 1 33 rfl (by decide))
   .simp[gL,gS];exact Sub.mk (by simp) (by simp[bJ,aP,iP,aK])
  .refine⟨?_,trivial⟩;simp[-List.map_cons,gL,gS,hold];refine R8 [] (fs:=[]) (xs:=[.aF false 1 (bad.map iP)]) (cs:=[]) rfl rfl gP ?_;rintro r B (⟨h,rfl,rfl⟩|⟨rfl,rfl⟩)
   .rw[List.map_eq_nil_iff]at h;subst h;simp;exact Sub.trans' (Sub.mk (by simp[WS,AS.cW]) (by simp[WS,AS.cW,bJ,aP,iP,aK])) (cW 33 3 1 33 rfl (by decide))
   .simp;exact Sub.mk (by simp[WS]) (by simp[WS,bJ,aP,iP,aK])
 .rintro τ rfl;simp[WS,gL,gS];refine cL [.vec (.par 0) 1 0 bad.length,.pv (.i (dJ bad n)),.vec (.par 1) 1 0 1] [(.par 0,.arr 3 1 (bad.map iP)),(.par 1,.arr 3 1 [iP n])] 39 [.loc 33 0,.loc 38 0] (by simp) IY ?_
  rintro r0 B0 ⟨rfl,rfl⟩;refine⟨by simp,by simp,?_⟩;have hle:bad.length+1<=(lQ bad (dJ bad n) n).length:=by rw[UE XL];exact fH _
  have jX:List.take (bad.length+1) ((lQ bad (dJ bad n) n).map iP)=(lQ bad (dJ bad n) n).map iP:=fQ (by rw[fZ,UE XL];exact fH _);simp[-List.map_cons,hold,aP,gL,gS];refine n9 (a:=aK l) (b:=bJ (lQ bad (dJ bad n) n)) (c:=ls) (d:=ts) (e:=rn) [.loc 39 0] ?_ ?_
  .simp[aY,AS.cJ,AV.cJ,AV.aY,aJ.cJ,aP,bJ,jX,hle]
  .rw[<-hQ];exact⟨_,rfl,rfl,rfl,rfl,rfl,rfl⟩
def ltQ (r:Except Int (List Lt))(ct bd ts rn:PV)(a b c d e:PV):Prop:=∃l',r=.ok l'/\a=ct/\b=bd/\c=aV l'/\d=ts/\e=rn
def VI (W:aJ)(ls:List Lt)(x:Lt):AS:=⟨[(34,.ptr (.par 0) 0),(40,.vec (.loc 40 0) 4 0 ls.length),(41,.pv (.i (dJ (ls.map Lt.num) x.num))),(52,.vec (.loc 52 0) 4 0 1)],[(.loc 40 0,.arr 62 4 (ls.map Lt.pv)),(.loc 52 0,.arr 62 4 [x.pv]),(.par 0,W)]⟩
theorem Ar (ct bd ts rn:PV)(ls:List Lt)(n p q:Int)(hn:KN n)(hl:ls.length<=900)(hs:(ls.map Lt.num).Pairwise (·<·))(dD:∀y∈ls,wA y):
  tH prog 170 [.ptr (.par 0) 0,.pv (.aF false 1 [iP n,iP p,iP q])] [(.par 0,aP ct bd (aV ls) ts rn)] (yF (ltQ (pR ls ⟨n,p,q,false⟩) ct bd ts rn)) (uY (fun e=>pR ls ⟨n,p,q,false⟩=.error e)):=by
 have F0:=Zc ls n ct bd ts rn hs (by omega) (fun y hy=>by obtain⟨h1,h2,_⟩:=dD y hy;unfold KN at hn;exact wrap64 (by omega));have lD:=XL (l:=ls.map Lt.num) (x:=n);rw[fZ]at lD;have IY:=MR Zu1 ⟨_,_,func215,by kernel_rfl,rfl⟩ (ls.map Lt.pv) (Lt.pv ⟨n,p,q,false⟩) (dJ (ls.map Lt.num) n) (by rw[fZ];exact lD) (by rw[fZ];omega);rw[<-ZhN (f:=Lt.pv),fZ]at IY;have w1:=KS n 1 99;have w2:=KS p 4 30;have w3:=KS q 0 1000;refine cX L170 ?_;generalize hE:(fun e=>pR ls ⟨n,p,q,false⟩=.error e)=E;generalize hQ:ltQ (pR ls ⟨n,p,q,false⟩) ct bd ts rn=Q;unfold pR at hE hQ;dsimp only at hE hQ;show fO _ (.seq _ (.seq _ (.seq _ _))) _ _ _;generalize NL:(decide (1<=n)&&decide (n<=99))=c1 at hE hQ w1;generalize FY:(decide (4<=p)&&decide (p<=30))=c2 at hE hQ w2;generalize Dk:(decide (0<=q)&&decide (q<=1000))=c3 at hE hQ w3;by_cases hc:¬(c1=true/\c2=true/\c3=true)
 .rw[if_neg hc]at hE;have AR:E 2:=by rw[<-hE]
  refine xF [_,_,_,_,_,_,_,_,_,_,_,_,_,_,_,_] ?_;simp[hold,iP];refine cG [.i n,.i 1,.i 99] w1 ?_;cases c1 with
  |false=>
   simp[hold];exact pF 2 AR
  |true=>
  simp[hold];refine cG [.i p,.i 4,.i 30] w2 ?_;cases c2 with
  |false=>
   simp[hold];exact pF 2 AR
  |true=>
  simp[hold];refine cG [.i q,.i 0,.i 1000] w3 ?_;cases c3 with
  |false=>
   simp;exact pF 2 AR
  |true=>exact absurd ⟨rfl,rfl,rfl⟩ hc
 have hc:=Decidable.not_not.1 hc;rw[if_pos hc]at hE hQ;obtain⟨rfl,rfl,rfl⟩:=hc;refine mI ?_;simp[hold,iP];refine cG [.i n,.i 1,.i 99] w1 ?_;simp[hold];refine cG [.i p,.i 4,.i 30] w2 ?_;simp[hold];refine cG [.i q,.i 0,.i 1000] w3 ?_;simp;refine cG [.bool true,.i 2] (gR 2) ?_;simp[hold];refine mI ?_;simp[hold,aP,aV];refine cM [.ptr (.par 0) 0,.pv (.i n)] [(.par 0,aP ct bd (aV ls) ts rn)] 28 [.par 0] (by simp[aP,aV]) F0 (by simp[aP]) ?_;simp[-List.mem_map,aP];by_cases hm:n∈ls.map Lt.num
 .rw[if_pos hm]at hE;have JL:E 6:=by rw[<-hE]
  refine xF [_,_] ?_;simp[-List.mem_map,hold,hm];exact pF 6 JL
 rw[if_neg hm]at hQ;refine mI ?_;simp[-List.mem_map,hold,hm];refine cG [.bool true,.i 6] (gR 6) ?_;simp;refine GZ ?_;have gP:=Zg6 (ls.map Lt.pv) (by rw[fZ];omega);simp[hold];refine BK (fun τ=>τ=VI (aP ct bd (aV ls) ts rn) ls ⟨n,p,q,false⟩) ?_ ?_
 .simp only[gL];refine⟨?_,?_⟩
  .simp[hold];refine R8 [] (fs:=[]) (xs:=[.aF false 4 (ls.map Lt.pv)]) (cs:=[]) rfl rfl gP ?_;rintro r B (⟨h,rfl,rfl⟩|⟨rfl,rfl⟩)
   .rw[List.map_eq_nil_iff]at h;subst h;simp[gL,gS];exact Sub.trans' (Sub.mk (by simp[AS.cW]) (by simp[AS.cW,aP,aV,Lt.pv])) (cW 40 62 4 40 rfl (by decide))
   .simp[gL,gS];exact Sub.mk (by simp) (by simp[aP,aV,Lt.pv])
  .refine⟨?_,trivial⟩;simp[gL,gS,hold];refine R8 [] (fs:=[]) (xs:=[.aF false 4 (ls.map Lt.pv)]) (cs:=[]) rfl rfl gP ?_;rintro r B (⟨h,rfl,rfl⟩|⟨rfl,rfl⟩)
   .rw[List.map_eq_nil_iff]at h;subst h;simp;exact Sub.trans' (Sub.mk (by simp[VI,AS.cW]) (by simp[VI,AS.cW,aP,aV,Lt.pv])) (cW 40 62 4 40 rfl (by decide))
   .simp;exact Sub.mk (by simp[VI]) (by simp[VI,aP,aV,Lt.pv])
 .rintro τ rfl;simp[VI,gL,gS];refine cL [.vec (.par 0) 4 0 ls.length,.pv (.i (dJ (ls.map Lt.num) n)),.vec (.par 1) 4 0 1] [(.par 0,.arr 62 4 (ls.map Lt.pv)),(.par 1,.arr 62 4 [Lt.pv ⟨n,p,q,false⟩])] 53 [.loc 40 0,.loc 52 0] (by simp) IY ?_
  rintro r0 B0 ⟨rfl,rfl⟩;refine⟨by simp,by simp,?_⟩;have hle:ls.length+1<=(lQ ls (dJ (ls.map Lt.num) n) ⟨n,p,q,false⟩).length:=by rw[UE lD];exact fH _
  have jX:List.take (ls.length+1) ((lQ ls (dJ (ls.map Lt.num) n) ⟨n,p,q,false⟩).map Lt.pv)=(lQ ls (dJ (ls.map Lt.num) n) ⟨n,p,q,false⟩).map Lt.pv:=fQ (by rw[fZ,UE lD];exact fH _);simp[hold,aP,gL,gS];refine n9 (a:=ct) (b:=bd) (c:=aV (lQ ls (dJ (ls.map Lt.num) n) ⟨n,p,q,false⟩)) (d:=ts) (e:=rn) [.loc 53 0] ?_ ?_
  .simp[aY,AS.cJ,AV.cJ,AV.aY,aJ.cJ,aP,aV,jX,hle]
  .rw[<-hQ];exact⟨_,rfl,rfl,rfl,rfl,rfl,rfl⟩
theorem Zvk (st:Wk)(hl:st.aA.length<=1000)(hb:st.bad.length<=900)(hs:st.bad.Pairwise (·<·)):FJ st:=fun n _=>by
 refine(Fk st.aA st.bad (aV st.aM) (bI st.aG) (dV st.runs) n hl hb hs).mono ?_ ?_
 .rintro r B ⟨rfl,a,b,c,d,e,rfl,l',h1,rfl,rfl,rfl,rfl,rfl⟩;exact⟨rfl,_,_,_,_,_,rfl,{ st with bad:=l' },by rw[h1];rfl,rfl⟩
 .rintro x B ⟨m,rfl,h1,h2⟩;exact⟨m,rfl,by rw[h1];rfl,h2⟩
theorem ZuX (st:Wk)(hl:st.aM.length<=900)(hs:(st.aM.map Lt.num).Pairwise (·<·))(dD:∀y∈st.aM,wA y):FI st:=fun n p m hn _ _=>by
 refine(Ar (aK st.aA) (bJ st.bad) (bI st.aG) (dV st.runs) st.aM n p m hn hl hs dD).mono ?_ ?_
 .rintro r B ⟨rfl,a,b,c,d,e,rfl,l',h1,rfl,rfl,rfl,rfl,rfl⟩;exact⟨rfl,_,_,_,_,_,rfl,{ st with aM:=l' },by rw[h1];rfl,rfl⟩
 .rintro x B ⟨m,rfl,h1,h2⟩;exact⟨m,rfl,by rw[h1];rfl,h2⟩
theorem Ov {F:Nat}(hF:407<F):Gd sI (kQ F):=fun k st s hk h hs=>
 ⟨h.next s,Et hF st s (by omega) (h.ok (by omega)) (by have:=h.c;omega) (by have:=h.r;omega) h.s (Zvk st (by have:=h.c;omega) (by have:=h.b;omega) h.bs) (ZuX st (by have:=h.l;omega) h.s (fun x hx=>(h.lt x hx).1))⟩
theorem Mg (k:Nat)(w:Wk)(hk:k<=50)(h:sI k w):G1 w:=h.ok (by omega)
theorem Zvt {F:Nat}(hF:407<F)(L:List ByteArray)(hl:L.length<=1000000):aC prog 10 [bO L] (CC (kQ F) L):=Zvs (Ov hF) tK Mg L hl
theorem Zkd {F:Nat}(hF:407<F)(L:List ByteArray)(hl:L.length<=1000000)(n:Int):aC prog 12 [bO L,.i n] (BO (kQ F) L n):=Zkc (Ov hF) tK Mg L hl n (fun k w hk h=>by have:=h.b;omega)
section
open Go.RowKit Go.Shelf
theorem Zq2:(prog.info? 53).map (·.size)=some 2:=by kernel_rfl
theorem Zlw:∃j,prog.info? 53=some j/\j.size≠0:=by
 obtain⟨j,h1,h2⟩:=eB.1 Zq2;exact⟨j,h1,by rw[h2];decide⟩
theorem Zq3:liesAt prog prog.depth 53 (2 / prog.cellsOf 53) 0 53 1=true:=by kernel_rfl
theorem Zt1 (b:Nat)(v:Value)(w:World)(hb:w.heap[b]?=some (.cells #[.pointer (some ⟨b,0,none⟩),v] 53 (0,0))):
  Calls prog 44 #[.pointer (some ⟨b,0,none⟩)] w fun e w'=>e=.returned (.tuple #[])/\w'=w:=by
 have h0:w.cell? ⟨b,0,none⟩=some (.pointer (some ⟨b,0,none⟩)):=by rw[Lib.cell_of_heap hb];rfl
 obtain⟨j,hj,_⟩:=Zlw;go_enter func44,ntmps44;go_wp2;rw[Lib.run_neq_ptr_same w _ underlying51 hj];go_wp2;go_end0;exact⟨rfl,rfl⟩
theorem ZqU (b:Nat)(v:Value)(w:World)(hb:w.heap[b]?=some (.cells #[.pointer none,v] 53 (0,0))):
  Calls prog 44 #[.pointer (some ⟨b,0,none⟩)] w fun e w'=>e=.returned (.tuple #[])/\w'=w.setCell ⟨b,0,none⟩ (.pointer (some ⟨b,0,none⟩)):=by
 have h0:w.cell? ⟨b,0,none⟩=some (.pointer none):=by rw[Lib.cell_of_heap hb];rfl
 have hfz:w.frozen? ⟨b,0,none⟩=false:=Lib.frozen_of_heap hb 0;have IJ:w.shape? b=some (53,2):=by simp[World.shape?,hb]
 obtain⟨j,hj,hjs⟩:=Zlw;go_enter func44,ntmps44;go_wp2;rw[Lib.run_to_unsafe w ⟨b,0,none⟩ underlying51 underlying178 hj hjs IJ (Nat.zero_lt_succ 1)];simp only[Result.andThen];rw[Oper.upon_value];go_wp2;rw[run_callFunc_extern func83 (by kernel_rfl) (by kernel_rfl) (by kernel_rfl) (e:=Extern.AbiNoEscape.same) (by kernel_rfl)];rw[Lib.run_noEscape];simp only[Result.andThen];rw[Oper.upon_value];go_wp2;rw[Lib.run_from_unsafe w ⟨b,0,none⟩ underlying178 underlying51 hj IJ Zq3];simp only[Result.andThen];rw[Oper.upon_value];go_wp2;go_end0;exact⟨rfl,rfl⟩
theorem Zjc (b n cap:Nat)(ad:Option Addr)(ad':Option Addr)(n' JS:Nat)(s:ByteArray)(w w1 w2:World)(mD:Calls prog 44 #[.pointer (some ⟨b,0,none⟩)] w fun e w'=>e=.returned (.tuple #[])/\w'=w1)
  (tE:w1.heap[b]?=some (.cells #[.pointer (some ⟨b,0,none⟩),.slice ad n cap] 53 (0,0))) (Wg:∀ty,(Builtin.append_ #[44,9] ty #[.slice ad n cap,.string s]).run prog w1=.ok (.slice ad' n' JS) w2)
  (nS:w2.heap[b]?=some (.cells #[.pointer (some ⟨b,0,none⟩),.slice ad n cap] 53 (0,0))):
  Calls prog 18 #[.pointer (some ⟨b,0,none⟩),.string s] w fun e w'=>e=.returned (.tuple #[.i s.size,.nilIface])/\w'=w2.setCell ⟨b,1,none⟩ (.slice ad' n' JS):=by
 have c0:w1.cell? ⟨b,0,none⟩=some (.pointer (some ⟨b,0,none⟩)):=by rw[Lib.cell_of_heap tE];rfl
 have c1:w1.cell? ⟨b,1,none⟩=some (.slice ad n cap):=by rw[Lib.cell_of_heap tE];rfl
 have d0:w2.cell? ⟨b,0,none⟩=some (.pointer (some ⟨b,0,none⟩)):=by rw[Lib.cell_of_heap nS];rfl
 have d1:w2.cell? ⟨b,1,none⟩=some (.slice ad n cap):=by rw[Lib.cell_of_heap nS];rfl
 have f1:w2.frozen? ⟨b,1,none⟩=false:=Lib.frozen_of_heap nS 1;have e112:∀args w,(callFunc 44 args).run prog w=.ok (.enter 44 args) w:=enters_of func44 (by kernel_rfl) rfl;go_enter func18,ntmps18;go_wp2_with (go_at_fn 44;refine mD.mono ?_);rintro e w' ⟨rfl,rfl⟩;go_wp2_with (at_builtin;refine Lib.wpList_append_run _ rfl _ _ _ _ rfl _ _ rfl rfl _ _ (Wg _) ?_);go_ret2;exact⟨rfl,rfl⟩
end
theorem cY.sub {bs cs:List Nat}{w w':World}(h:cY bs w w')(hs:∀k∈bs,k∈cs):cY cs w w':=⟨h.os,h.tape,h.output,h.size,fun k hk hn=>h.block k hk (fun hm=>hn (hs k hm))⟩
abbrev FK:TypeId:=53
abbrev X0:TypeId:=5
def yE (b:Nat):Value:=.pointer (some ⟨b,0,none⟩)
theorem Zj5 {q:Loc}{m:Mem}{w w2:World}{l:List UInt8}{v0:Value}{g n c:Nat}{cur:Array Value}(nS:w2.heap[q.b]?=some (.cells #[yE q.b,v0] FK (0,0)))(H6:w2.heap[g]?=some (.cells cur X0 (0,0)))(Q4:g≠q.b)(hn:n=l.length)(NM:0<c)
  (H4:n<=c) (FX:c<=cur.size) (sB:c<=maxLen) (RV:∀(i:Nat) (b:UInt8),l[i]?=some b->cur[i]?=some (.int .u8 b.toNat)) (hk:cY (q.b::zE q w) w w2) (M8:g∈zE q w\/w.heap.size<=g):
  i6 FK X0 l q m (w2.setCell ⟨q.b,1,none⟩ (.slice (some ⟨g,0,none⟩) n c))/\cY (q.b::zE q w) w (w2.setCell ⟨q.b,1,none⟩ (.slice (some ⟨g,0,none⟩) n c))/\∀k∈zE q (w2.setCell ⟨q.b,1,none⟩ (.slice (some ⟨g,0,none⟩) n c)),k∈zE q w\/w.heap.size<=k:=by
 subst hn;obtain⟨c,rfl⟩:∃k,c=k+1:=⟨c-1,by omega⟩;rw[setCell_eq_setRow _ _ _ _ _ _ _ nS];have h3:(w2.setRow q.b (#[yE q.b,v0].setIfInBounds 1 (.slice (some ⟨g,0,none⟩) l.length (c+1)))).heap[q.b]?=some (.cells #[yE q.b,.slice (some ⟨g,0,none⟩) l.length (c+1)] FK (0,0)):=setRow_heap _ _ _ _ _ _ nS;refine⟨⟨_,_,h3,.inr rfl,.inr ⟨g,c,cur,rfl,Q4,by rw[setRow_other _ _ _ _ Q4];exact H6,H4,FX,sB,RV⟩⟩,hk.trans ((cY.setRow _ _ _).sub (fun k h=>by rw[sG]at h;subst h;exact List.mem_cons_self ..)),fun k h=>?_⟩;rw[Iw h3,sG]at h;subst h;exact M8
theorem Zo9 {q:Loc}{m:Mem}{w:World}{l:List UInt8}(s:ByteArray)(hs:0<s.size)(hl:l.length+s.size<=1000000)(h:i6 FK X0 l q m w):
  Calls prog 18 #[yE q.b,.string s] w fun e w'=>e=.returned (.tuple #[.i s.size,.nilIface])/\i6 FK X0 (l++s.data.toList) q m w'/\cY (q.b::zE q w) w w'/\∀k∈zE q w',k∈zE q w\/w.heap.size<=k:=by
 obtain⟨p,v,hb,hp,hv⟩:=h;obtain⟨w1,mD,tE,iC⟩:∃w1,(Calls prog 44 #[yE q.b] w fun e w'=>e=.returned (.tuple #[])/\w'=w1)/\w1.heap[q.b]?=some (.cells #[yE q.b,v] FK (0,0))/\cY [q.b] w w1:=by
  rcases hp with rfl|rfl
  .refine⟨_,ZqU q.b v w hb,?_,?_⟩
   .rw[setCell_eq_setRow _ _ _ _ _ _ _ hb];exact setRow_heap _ _ _ _ _ _ hb
   .rw[setCell_eq_setRow _ _ _ _ _ _ _ hb];exact cY.setRow _ _ _
  .exact⟨w,Zt1 q.b v w hb,hb,cY.tS _ _⟩
 have wM:q.b<w.heap.size:=(qL.1 hb).1;have Dt:q.b<w1.heap.size:=(qL.1 tE).1;have fI:=iC.size;have RG:cY (q.b::zE q w) w w1:=iC.sub (fun k h=>by rw[sG]at h;subst h;exact List.mem_cons_self ..);obtain⟨i,z,hi,hz,X9,P8,Kc⟩:∃i z,prog.info? 5=some i/\i.zero=some z/\i.size=1/\i.bytes=1/\z.cells.size=1:=by
  have h:(prog.info? 5).map (fun i=>(i.zero,i.size,i.bytes))=some (some (.int .u8 0),1,1):=by kernel_rfl
  cases h':prog.info? 5 with
  |none=>rw[h']at h;simp at h
  |some i=>
   rw[h',vB,Option.some.injEq,Prod.mk.injEq,Prod.mk.injEq]at h;exact⟨i,_,rfl,h.1,h.2.1,h.2.2,rfl⟩
 have QN:∀w',(Builtin.firstCells i.size s.size (.string s)).run prog w'=.ok (Lib.strCells s).toArray w':=fun w'=>Lib.run_firstCells_string w' i.size s
 have Z5:=Lib.strCells_length s;have nL:s.data.toList.length=s.size:=rfl;have VV:∀(j:Nat) (b:UInt8),s.data.toList[j]?=some b->(Lib.strCells s)[j]?=some (.int .u8 b.toNat):=fun j b hj=>by
  unfold Lib.strCells;rw[bY,hj];rfl
 rcases hv with⟨rfl,rfl⟩|⟨g,c,cur,rfl,Q4,hg,h1,h2,h3,h4⟩
 .have dG:∀ty,(Builtin.append_ #[44,9] ty #[.slice none 0 0,.string s]).run prog w1=_:=fun ty=>
   Zeq (P:=prog) (w:=w1) (ty:=ty) underlying44 underlying9 hi hz none 0 0 s s.size rfl [] (Lib.strCells s) (fun w' _=>run_firstCells_none w' i.size 0 0 0) (fun w' _=>QN w') (by omega) (by omega) (growslice_fits (by omega) (by rw[P8];omega))
  have yT:=grownCap_ge w1 (0+s.size) 0 X0;have hle:=grownCap_le_maxLen w1 (0+s.size) 0 X0 (by unfold maxLen;omega);generalize grownCap w1 (0+s.size) 0 X0=G at dG yT hle;have nS:(w1.drew.alloc (.cells (([]++Lib.strCells s).toArray++Builtin.zeroCells z.cells (G-(0+s.size))) X0)).heap[q.b]?=some (.cells #[yE q.b,.slice none 0 0] FK (0,0)):=by rw[heap_alloc_old w1.drew _ Dt];exact tE
  refine(Zjc q.b 0 0 none _ _ _ s w w1 _ mD tE dG nS).mono ?_;rintro e w' ⟨rfl,rfl⟩;refine⟨rfl,Zj5 nS (heap_alloc_new w1.drew _) (by show w1.heap.size≠q.b;omega) ?_ (by omega) yT ?_ hle (fun j b hj=>?_) (RG.trans ((Gz w1 _).trans (cY.Fx (Ext.al _ _) _))) (.inr fI)⟩
  .rw[gF,nL];rfl
  .rw[Array.size_append,zC,gF,size_zeroCells,Kc,Z5,List.length_nil];omega
  .have aI:=(cD.1 hj).1;rw[List.nil_append]at hj aI ⊢;rw[Array.getElem?_append_left (by rw[zC,Z5];omega),I4];exact VV j b hj
 .have hgl:g<w.heap.size:=(qL.1 hg).1;have RS:w1.heap[g]?=some (.cells cur X0 (0,0)):=by rw[iC.block g hgl (by simpa using Q4)];exact hg
  have IW:zE q w=[g]:=Iw hb;by_cases eS:l.length+s.size<=c+1
  .have dG:∀ty,(Builtin.append_ #[44,9] ty #[.slice (some ⟨g,0,none⟩) l.length (c+1),.string s]).run prog w1=_:=fun ty=>
    Zgy (P:=prog) (w:=w1) (ty:=ty) underlying44 underlying9 hi g 0 l.length (c+1) cur RS s s.size rfl (Lib.strCells s) (QN w1) (Lib.strCells_oneCell s) eS (by rw[X9,Z5];omega)
   have nS:(w1.setRow g (aR cur.toList (0+l.length*i.size) (Lib.strCells s)).toArray).heap[q.b]?=some (.cells #[yE q.b,.slice (some ⟨g,0,none⟩) l.length (c+1)] FK (0,0)):=by rw[setRow_other _ _ _ _ (Ne.symm Q4)];exact tE
   refine(Zjc q.b l.length (c+1) _ _ _ _ s w w1 _ mD tE dG nS).mono ?_;rintro e w' ⟨rfl,rfl⟩;have gP:cur.toList.length=cur.size:=vC;refine⟨rfl,Zj5 nS (setRow_heap _ _ cur _ _ _ RS) Q4 ?_ (by omega) eS ?_ h3 (fun j b hj=>?_) (RG.trans ((cY.setRow _ _ _).sub (fun k h=>by rw[sG]at h;subst h;rw[IW];simp))) (.inl (by rw[IW];simp))⟩
   .rw[gF,nL]
   .rw[zC,W0 (by rw[X9,Z5];omega),gP];exact h2
   .rw[I4,A5 (by rw[X9,Z5];omega),X9,sF,Nat.mul_one,Z5];rw[zB]at hj;split at hj
    .rename_i aI;rw[if_pos aI,O7];exact h4 j b hj
    .rename_i aI
     have:=(cD.1 hj).1
     rw[if_neg aI,if_pos (by omega)];exact VV _ b hj
  .have DC:∀w',(∀A,w'.cell? A=w1.cell? A)->(Builtin.firstCells i.size l.length (.slice (some ⟨g,0,none⟩) l.length (c+1))).run prog w'=.ok (l.map fun b=>Value.int .u8 b.toNat).toArray w':=fun w' hw=>by
    rw[X9];refine run_firstCells_some (P:=prog) w' 1 l.length ⟨g,0,none⟩ l.length (c+1) _ (by rw[fZ];omega) (fun j u hj=>?_);rw[bY]at hj;obtain⟨b,nT,rfl⟩:=eB.1 hj;rw[Addr.add_lit,hw,sF];exact(cell_of_row w1 g j cur _ _ RS).trans (h4 j b nT)
   have dG:∀ty,(Builtin.append_ #[44,9] ty #[.slice (some ⟨g,0,none⟩) l.length (c+1),.string s]).run prog w1=_:=fun ty=>
    Zeq (P:=prog) (w:=w1) (ty:=ty) underlying44 underlying9 hi hz (some ⟨g,0,none⟩) l.length (c+1) s s.size rfl (l.map fun b=>Value.int .u8 b.toNat) (Lib.strCells s) DC (fun w' _=>QN w') (by omega) (by omega) (growslice_fits (by omega) (by rw[P8];omega))
   have yT:=grownCap_ge w1 (l.length+s.size) (c+1) X0;have hle:=grownCap_le_maxLen w1 (l.length+s.size) (c+1) X0 (by unfold maxLen;omega);generalize grownCap w1 (l.length+s.size) (c+1) X0=G at dG yT hle;have nS:(w1.drew.alloc (.cells (((l.map fun b=>Value.int .u8 b.toNat)++Lib.strCells s).toArray++Builtin.zeroCells z.cells (G-(l.length+s.size))) X0)).heap[q.b]?=some (.cells #[yE q.b,.slice (some ⟨g,0,none⟩) l.length (c+1)] FK (0,0)):=by rw[heap_alloc_old w1.drew _ Dt];exact tE
   refine(Zjc q.b l.length (c+1) _ _ _ _ s w w1 _ mD tE dG nS).mono ?_;rintro e w' ⟨rfl,rfl⟩;refine⟨rfl,Zj5 nS (heap_alloc_new w1.drew _) (by show w1.heap.size≠q.b;omega) ?_ (by omega) yT ?_ hle (fun j b hj=>?_) (RG.trans ((Gz w1 _).trans (cY.Fx (Ext.al _ _) _))) (.inr fI)⟩
   .rw[gF,nL]
   .rw[Array.size_append,zC,gF,fZ,size_zeroCells,Kc,Z5];omega
   .have aI:=(cD.1 hj).1;rw[gF,nL]at aI;rw[Array.getElem?_append_left (by rw[zC,gF,fZ,Z5];omega),I4];rw[zB]at hj ⊢;rw[fZ];split at hj
    .rename_i h;rw[if_pos h,bY,hj];rfl
    .rename_i h;rw[if_neg h];exact VV _ b hj
section
open Go.RowKit Go.Sort
theorem Zoq {w w':World}(h:Below w.heap.size w w'):Ext w w':=⟨h.os,h.tape,h.output,h.size,h.block⟩
def rW (xs:List ByteArray)(sep:ByteArray):ByteArray:=⟨(Lib.join (xs.map (·.data.toList)) sep.data.toList).toArray⟩
theorem Zu0 (xs:List ByteArray)(sep:ByteArray)(h1:xs.length<=1000000)(hlen:(Lib.join (xs.map (·.data.toList)) sep.data.toList).length<=140737488355328):aC prog 59 [bO xs,.str sep] (.str (rW xs sep)):=by
 refine Po ⟨_,_,func59,by kernel_rfl,rfl⟩ fun w m vs hg hm fI lK=>?_
 obtain⟨v,u,rfl⟩:=JW fI;obtain rfl:=UA (lK 1 u _ rfl rfl);have hv:=lK 0 v _ rfl rfl;unfold bO at hv;generalize hX:xs.map PV.str=X at hv;cases hv with
 |aF a cap nn n ys ds l0 l1 l2 l3 l4 l5 l6 l7=>
 cases xs with
 |nil=>
  subst hX;exact(strings_Join_none a cap sep w).mono fun e w' ⟨k1,k2⟩=>⟨_,k1,k2▸Ext.tS _,.str _⟩
 |cons x0 r=>
  have hl:X.length=(x0::r).length:=by rw[<-hX,fZ]
  obtain⟨b,o,rfl,_⟩:=l5 0 (.str x0) (by rw[<-hX];rfl);have hc:∀(j:Nat) x,(x0::r)[j]?=some x->w.cell? ⟨b,o+j,none⟩=some (.string x):=fun j x hj=>by
   have Wi:X[j]?=some (.str x):=by rw[<-hX,bY,hj];rfl
   obtain⟨b',o',e,s9⟩:=l5 j _ Wi;cases e;obtain⟨q1,q2,_⟩:=l6 j _ Wi;obtain⟨d,hd⟩:∃d,(ds j)[0]?=some d:=⟨(ds j)[0]'(by omega),bC _⟩;have Tp:=l7 j _ 0 d _ Wi hd rfl;obtain rfl:=UA Tp
   have:=hm _ _ _ (s9.get 0 _ hd)
   rw[Nat.mul_one,Nat.add_zero]at this;exact this
  have Wf:=hc 0 x0 rfl;rw[hl];exact(strings_Join b o cap (x0::r) sep w hc (BJ Wf) (by omega) (by omega) hlen).mono fun e w' ⟨k1,k2⟩=>⟨_,k1,Zoq k2,.str _⟩
end
inductive Wd where
 |num (n:Int)
 |kS (s:ByteArray)
def Wd.pv:Wd->PV
 |.num n=>.iface 3 (.i n)
 |.kS s=>.iface 9 (.str s)
def Wd.b:Wd->ByteArray
 |.num n=>oP n
 |.kS s=>s
def Wd.ok:Wd->Prop
 |.num n=>-9223372036854775808<=n/\n<=9223372036854775807
 |.kS _=>True
def Ba (ws:List Wd)(k:Nat):AS:=
 ⟨[(3,.vec (.loc 22 0) 1 0 k),(8,.pv (.aF false 1 (ws.map Wd.pv))),(9,.pv (.i ws.length)),(10,.pv (.i (k:Int)))],[(.loc 22 0,.arr 9 1 (((ws.take k).map Wd.b).map .str))]⟩
theorem Hl (ws:List Wd)(hl:ws.length<=1000)(hw:∀x∈ws,x.ok)(hlen:(Lib.join ((ws.map Wd.b).map (·.data.toList)) blank.data.toList).length<=140737488355328):aC prog 22 [.aF false 1 (ws.map Wd.pv)] (.str (rW (ws.map Wd.b) blank)):=by
 have WI:=Zu0 (ws.map Wd.b) blank (by rw[fZ];omega) hlen;refine Q6 [] L22 ?_;intro R hR;simp[L22];refine eP (fun m τ=>∃k:Nat,k<=ws.length/\m=ws.length-k/\τ=Ba ws k) ⟨ws.length,Ba ws 0,Sub.trans' (Sub.mk (by simp[AS.cW]) (by simp[AS.cW])) (cW 22 9 1 3 rfl (by decide)),0,gW _,rfl,rfl⟩ ?_;rintro J hJ m τ ⟨k,hk,rfl,rfl⟩;by_cases aI:k<ws.length
 .obtain⟨x,hx⟩:∃x,ws[k]?=some x:=⟨ws[k],bC aI⟩;have hg:(ws.map Wd.pv)[k]?=some x.pv:=by rw[bY,hx];rfl
  have Kh:=hw x (dL hx);have VR:=bK (k:=k) (by omega);have iC:k+1<=1000000:=by omega
  have RA:min k ws.length=k:=Nat.min_eq_left (by omega);have hn:=hJ (ws.length-(k+1)) _ ⟨k+1,aI,rfl,rfl⟩;unfold Ba at hn;rw[mV,hx,mL,mL]at hn;have aH:ws.length-(k+1)<ws.length-k:=by omega
  have zS:(((ws.take k).map Wd.b).map PV.str).length=k:=by rw[fZ,fZ,gM];omega
  unfold Ba;generalize((ws.take k).map Wd.b).map PV.str=T at hn zS ⊢;cases x with
  |num n=>
   simp only[Wd.pv]at hg;simp[aI,↓hg];refine cG [.i n] (Zf n Kh) ?_;simp[aN,iC,zS,VR];exact⟨_,_,aH,Sub.mk (by simp) (by simp[Wd.b]),hn⟩
  |kS s=>
   simp only[Wd.pv]at hg;simp[aI,↓hg,aN,iC,VR,zS];refine⟨_,_,aH,Sub.trans' (Sub.mk ?_ ?_) (q8 22 3 (T++[.str s]) (s:=.loc 29 0) (e:=9) rfl rfl ?_ rfl),hn⟩
   .simp[AS.q8]
   .simp[AS.q8,Wd.b]
   .simp[zS]
 .have he:k=ws.length:=by omega
  subst he;have jX:ws.take ws.length=ws:=nD;unfold Ba;rw[jX];have hm:List.take ws.length ((ws.map Wd.b).map PV.str)=(ws.map Wd.b).map PV.str:=fQ (by simp);simp[-List.map_map];refine .inl (cP [.loc 22 0] [bO (ws.map Wd.b),.str blank] (by simp) (by simp[-List.map_map,bO,blank,hm]) WI ?_);simp;rw[<-hR];exact⟨rfl,rfl⟩
def gO (S:Int->Int->Bool)(ts:List Tt)(n:Int):Nat:=(ts.filter fun t=>decide (t.fU=n)&&S t.item t.day).length
theorem ZgP {S:Int->Int->Bool}{ts:List Tt}{n:Int}{k:Nat}{t:Tt}(h:ts[k]?=some t):gO S (ts.take (k+1)) n=gO S (ts.take k) n+(if(decide (t.fU=n)&&S t.item t.day)=true then 1 else 0):=by
 unfold gO;rw[mV,h,I2,gF];congr 1;simp only[Option.toList,xT,List.filter_nil];cases(decide (t.fU=n)&&S t.item t.day)<;>simp
theorem Hn {S:Int->Int->Bool}{ts:List Tt}{n:Int}:gO S ts n<=ts.length:=Q7 _ _
def BQ:ByteArray:=⟨#[108,111,116]⟩
def Ge:ByteArray:=⟨#[116,101,115,116,115]⟩
def FB:ByteArray:=⟨#[112,97,115,115,101,100]⟩
def OX:ByteArray:=⟨#[114,101,99,97,108,108,101,100]⟩
def dY (ws:List Wd):ByteArray:=rW (ws.map Wd.b) blank
def x8 (ws:List Wd):Prop:=(Lib.join ((ws.map Wd.b).map (·.data.toList)) blank.data.toList).length<=140737488355328
def C6 (x:Lt)(many:Nat)(v:Int):List Wd:=[.kS BQ,.num x.num,.kS Ge,.num many,.kS (vK v)]
def HX (x:Lt)(many:Nat)(v:Int):ByteArray:=if x.passed=true then dY [.kS (dY (C6 x many v)),.kS FB]else dY (C6 x many v)
def UD (x:Lt)(many:Nat)(v:Int):ByteArray:=if(x.passed&&!decide (v=1))=true then dY [.kS (HX x many v),.kS OX]else HX x many v
def VL (W:aJ)(x:Lt)(S:Int->Int->Bool)(ts:List Tt)(k:Nat):AS:=
 ⟨[(0,.ptr (.par 0) 0),(3,.ptr (.loc 3 0) 0),(5,.pv (.i ((gO S (ts.take k) x.num:Nat):Int))),(13,.pv (.aF false 4 (ts.map Tt.pv))),(14,.pv (.i ts.length)),(15,.pv (.i (k:Int)))],
  [(.loc 3 0,.cells [.pv (.i x.num),.pv (.i x.pieces),.pv (.i x.limit),.pv (.bool x.passed)]),(.par 0,W)]⟩
theorem Zqd (l:List Ct)(bad:List Int)(ls:PV)(ts:List Tt)(rn:PV)(x:Lt)(hl:l.length<=1000)(hb:bad.length<=1000)(ht:ts.length<=900)(hx:wA x)(dF:zJ l bad ts)
  (j0:x8 (C6 x (gO (stM l bad) ts x.num) (bZ l bad ts x))) (j1:x8 [.kS (dY (C6 x (gO (stM l bad) ts x.num) (bZ l bad ts x))),.kS FB]) (j2:x8 [.kS (HX x (gO (stM l bad) ts x.num) (bZ l bad ts x)),.kS OX]):
  cU prog 19 [.ptr (.par 0) 0,.pv x.pv] [(.par 0,aP (aK l) (bJ bad) ls (bI ts) rn)] (fun r B=>r=.pv (.str (UD x (gO (stM l bad) ts x.num) (bZ l bad ts x)))/\B=[(.par 0,aP (aK l) (bJ bad) ls (bI ts) rn)]):=by
 have mZ:=Qc l bad ls ts rn x hl hb ht hx.2.2.1 hx.2.2.2 dF;have IC:iD (stM l bad) (nB l bad x.limit) x.num ts []=bZ l bad ts x:=rfl;rw[IC]at mZ;have mO:=ZlY l bad ls ts rn x hl hb ht hx.2.2.1 hx.2.2.2 dF;rw[Lt.pv]at mZ mO;refine O2 [.par 0] L19 ?_;intro R hR;simp[L19,aP,Lt.pv,bI];refine eP (fun m τ=>∃k:Nat,k<=ts.length/\m=ts.length-k/\τ=VL (aP (aK l) (bJ bad) ls (bI ts) rn) x (stM l bad) ts k) ⟨ts.length,VL (aP (aK l) (bJ bad) ls (bI ts) rn) x (stM l bad) ts 0,Sub.mk (by simp[gO]) (by simp[aP,bI]),0,gW _,rfl,rfl⟩ ?_;rintro J hJ m τ ⟨k,hk,rfl,rfl⟩;by_cases aI:k<ts.length
 .obtain⟨t,AF⟩:∃t,ts[k]?=some t:=⟨ts[k],bC aI⟩;have hg:(ts.map Tt.pv)[k]?=some t.pv:=by rw[bY,AF];rfl
  simp only[Tt.pv]at hg;have hw:=bK (k:=k) (by omega);have zQ:=Hn (S:=stM l bad) (ts:=ts.take k) (n:=x.num);rw[gM]at zQ;have sY:=bK (k:=gO (stM l bad) (ts.take k) x.num) (by omega);have aH:ts.length-(k+1)<ts.length-k:=by omega
  have hn:=hJ (ts.length-(k+1)) _ ⟨k+1,aI,rfl,rfl⟩;unfold VL at hn;rw[ZgP AF]at hn;have wG:=Hs l bad ls (bI ts) rn hl hb x.num t.item t.day t.rd;have e1:decide (((eO l bad).j6 t.item t.day).2=0)=stM l bad t.item t.day:=rfl;rw[e1]at wG;clear e1;by_cases oQ:t.fU=x.num
  .rw[decide_eq_true oQ,Bool.true_and]at hn;simp[VL,aP,bI,aI,↓hg,aN,oQ];refine cM [.ptr (.par 0) 0,.pv (.agg [.i x.num,.i t.item,.i t.day,.i t.rd])] [(.par 0,aP (aK l) (bJ bad) ls (bI ts) rn)] 27 [.par 0] (by simp[aP,bJ,bI]) wG (by simp[aP]) ?_;cases Bn:stM l bad t.item t.day with
   |true=>
    rw[Bn,if_pos rfl]at hn;simp[aP,hw,sY];exact⟨_,_,aH,Sub.mk (by simp) (by simp[aP,bI,bJ]),hn⟩
   |false=>
    rw[Bn,if_neg (by simp)]at hn;simp[aP,hw];exact⟨_,_,aH,Sub.mk (by simp) (by simp[aP,bI,bJ]),hn⟩
  .rw[decide_eq_false oQ,Bool.false_and,if_neg (by simp)]at hn;simp[VL,aP,bI,aI,↓hg,aN,oQ,hw];exact⟨_,_,aH,Sub.mk (by simp) (by simp[aP,bI,bJ]),hn⟩
 have he:k=ts.length:=by omega
 subst he;unfold VL;rw[nD];have T8:=Hn (S:=stM l bad) (ts:=ts) (n:=x.num);generalize gO (stM l bad) ts x.num=many at T8 j0 j1 j2 hR ⊢;generalize bZ l bad ts x=v at mZ mO j0 j1 j2 hR;simp[aP];refine BK (fun τ=>τ=⟨[(0,.ptr (.par 0) 0),(3,.ptr (.loc 3 0) 0),(32,.pv (.iface 9 (.str BQ))),(35,.pv (.iface 3 (.i x.num))),(36,.pv (.iface 9 (.str Ge))),(38,.pv (.iface 3 (.i many))),(43,.pv (.iface 9 (.str (vK v))))],[(.loc 3 0,.cells [.pv (.i x.num),.pv (.i x.pieces),.pv (.i x.limit),.pv (.bool x.passed)]),(.par 0,aP (aK l) (bJ bad) ls (bI ts) rn)]⟩) ?_ ?_
 .simp[gL,gS]
  repeat' apply And.intro
  all_goals
   refine cM [.ptr (.par 0) 0,.pv (.agg [.i x.num,.i x.pieces,.i x.limit,.bool x.passed])] [(.par 0,aP (aK l) (bJ bad) ls (bI ts) rn)] 41 [.par 0] (by simp[aP,bJ,bI]) mZ (by simp[aP]) ?_;simp[aP,gL,gS]
   repeat' apply And.intro
   all_goals
    first
     |refine .inl (cQ [] [.int .u8 v] (ZrC v) ?_)
     |refine cQ [] [.int .u8 v] (ZrC v) ?_
    simp
    repeat' apply And.intro
    all_goals exact Sub.mk (by simp[BQ,Ge]) (by simp[bJ,bI])
 .rintro τ rfl;simp[gL,gS,aP];have w0:=Hl (C6 x many v) (show(5:Nat)<=1000 by decide) (fun y hy=>by
   simp[C6]at hy;rcases hy with rfl|rfl|rfl|rfl|rfl
   .trivial
   .have h1:=hx.1;have h2:=hx.2.1;exact⟨by omega,by omega⟩
   .trivial
   .exact⟨by omega,by omega⟩
   .trivial) j0
  refine .inl (cP [.loc 44 0] [.aF false 1 ((C6 x many v).map Wd.pv)] (by simp) (by simp[C6,Wd.pv]) w0 ?_);have e0:rW ((C6 x many v).map Wd.b) blank=dY (C6 x many v):=rfl;rw[e0];unfold UD HX at hR;unfold HX at j2;cases hp:x.passed with
  |false=>
   rw[hp]at hR mO;rw[Bool.false_and]at hR mO;rw[if_neg (by simp),if_neg (by simp)]at hR;generalize dY (C6 x many v)=s0 at hR;simp;refine cM [.ptr (.par 0) 0,.pv (.agg [.i x.num,.i x.pieces,.i x.limit,.bool false])] [(.par 0,aP (aK l) (bJ bad) ls (bI ts) rn)] 55 [.par 0] (by simp[aP,bJ,bI]) mO (by simp[aP]) ?_;simp[aP];rw[<-hR];exact⟨rfl,by simp[aP,bJ,bI]⟩
  |true=>
   rw[hp]at hR mO j2;rw[Bool.true_and]at hR mO;rw[if_pos rfl]at hR j2;generalize dY (C6 x many v)=s0 at hR j1 j2;have w1:=Hl [.kS s0,.kS FB] (show(2:Nat)<=1000 by decide) (fun y hy=>by
    simp at hy;rcases hy with rfl|rfl<;>trivial) j1
   simp;refine .inl (cP [.loc 51 0] [.aF false 1 ([Wd.kS s0,.kS FB].map Wd.pv)] (by simp) (by simp[Wd.pv,FB]) w1 ?_);have e1:rW ([Wd.kS s0,.kS FB].map Wd.b) blank=dY [.kS s0,.kS FB]:=rfl;rw[e1];generalize dY [.kS s0,.kS FB]=s1 at hR j2;have w2:=Hl [.kS s1,.kS OX] (show(2:Nat)<=1000 by decide) (fun y hy=>by
    simp at hy;rcases hy with rfl|rfl<;>trivial) j2
   simp;refine cM [.ptr (.par 0) 0,.pv (.agg [.i x.num,.i x.pieces,.i x.limit,.bool true])] [(.par 0,aP (aK l) (bJ bad) ls (bI ts) rn)] 55 [.par 0] (by simp[aP,bJ,bI]) mO (by simp[aP]) ?_;by_cases xM:v=1
   .rw[if_neg (by simp[xM])]at hR;simp[aP,xM];rw[<-hR];exact⟨rfl,by simp[aP,bJ,bI]⟩
   .rw[if_pos (by simp[xM])]at hR;simp[aP,xM];refine .inl (cP [.loc 59 0] [.aF false 1 ([Wd.kS s1,.kS OX].map Wd.pv)] (by simp) (by simp[Wd.pv,OX]) w2 ?_);simp;rw[<-hR];exact⟨rfl,by simp[aP,bJ,bI]⟩
section
open Go.RowKit Go.Shelf
abbrev oZ (l:List UInt8):aJ:=.ext (EH FK X0 l)
theorem Qv (l:List UInt8)(s:ByteArray)(hs:0<s.size)(hl:l.length+s.size<=1000000):
  cU prog 18 [.ptr (.par 0) 0,.pv (.str s)] [(.par 0,oZ l)] (fun r B=>r=.pv (.bN [.i s.size,.eY])/\B=[(.par 0,oZ (l++s.data.toList))]):=by
 refine⟨⟨_,_,func18,by kernel_rfl,rfl⟩,fun w m ρ vs hB mQ fI lK=>?_⟩;obtain⟨v0,v1,rfl⟩:=JW (by simpa using fI);have h0:=lK 0 v0 _ rfl rfl;have h1:=(lK 1 v1 _ rfl rfl).nN;have QI:v0=yE (ρ (.par 0)).b:=by cases h0;rfl
 have xM:v1=.string s:=by cases h1;rfl
 subst QI xM;obtain⟨hr,uH⟩:=hB.bx (.par 0) _ rfl;have mR:cK ρ w [(.par 0,oZ l)]=(ρ (.par 0)).b::zE (ρ (.par 0)) w:=by simp[cK,hr,ins,EH]
 have look:∀s' bx,List.lookup s' [((.par 0:Site),oZ (l++s.data.toList))]=some bx->s'=.par 0/\bx=oZ (l++s.data.toList):=fun s' bx h=>by
  by_cases e:s'=.par 0
  .subst e;rw[mX]at h;cases h;exact⟨rfl,rfl⟩
  .rw[jJ e]at h;cases h
 have iY:=hB.free (by simp);rw[mR]at iY;refine(Zo9 (m:=m) s hs hl uH).mono ?_;rintro e w' ⟨rfl,k1,k2,k3⟩;have Uk:Le m w'.mem:=fun a o v hv=>by
  have hw:=mQ.1 a o v hv;exact(World.cell?_of_block (a:=⟨a,o,none⟩) (k2.block a (BJ hw) (fun h=>by rw[iY a h o]at hv;cases hv))).trans hw
 have JG:∀k,fL ρ w' (.par 0) (oZ (l++s.data.toList)) k->k∈(ρ (.par 0)).b::zE (ρ (.par 0)) w\/w.heap.size<=k:=fun k h=>by
  rcases h with⟨_,rfl⟩|h
  .exact .inl (List.mem_cons_self ..)
  .rcases k3 k h with h|h
   .exact .inl (List.mem_cons_of_mem _ h)
   .exact .inr h
 refine⟨_,.pv (.bN [.i s.size,.eY]),[(.par 0,oZ (l++s.data.toList))],ρ,m,rfl,⟨rfl,rfl⟩,⟨fun s' bx h=>?_,fun s' Jv bx Xu i h h' _ _=>?_,fun s' bx i h hb o=>?_⟩,Le.refl m,Uk,fun _=>rfl,fun s' bx i h hb=>?_,fun _ _ _ h=>.inl h,?_,?_⟩
 .obtain⟨rfl,rfl⟩:=look s' bx h;exact⟨hr,k1⟩
 .rw[(look s' bx h).1,(look Jv Xu h').1]
 .obtain⟨rfl,rfl⟩:=look s' bx h;rcases JG i hb with h|h
  .exact iY i h o
  .cases hv:m i o with
   |none=>rfl
   |some v=>have:=BJ (mQ.1 _ _ _ hv);omega
 .obtain⟨rfl,rfl⟩:=look s' bx h;rw[mR];exact(JG i hb).symm
 .refine .pv _ _ (.bN _ _ rfl (fun j d c h h'=>?_))
  match j,h,h' with
  |0,h,h'=>cases h;cases h';exact .int _ _
  |1,h,h'=>cases h;cases h';exact .eY
 .rw[mR];exact k2
theorem Zpg (b g c:Nat)(p:Value)(cur:Array Value)(l:List UInt8)(w:World)(DW:w.heap[b]?=some (.cells #[p,.slice (some ⟨g,0,none⟩) l.length (c+1)] 53 (0,0)))(h0:l≠[])
  (hg:w.heap[g]?=some (.cells cur 5 (0,0))) (H4:l.length<=cur.size) (sB:l.length<=maxLen) (RV:∀(i:Nat) (b:UInt8),l[i]?=some b->cur[i]?=some (.int .u8 b.toNat)):
  Calls prog 25 #[.pointer (some ⟨b,0,none⟩)] w fun e w'=>e=.returned (.string ⟨l.toArray⟩)/\w'=w.drew.freeze ⟨g,0,none⟩ l.length:=by
 have c1:w.drew.cell? ⟨b,1,none⟩=some (.slice (some ⟨g,0,none⟩) l.length (c+1)):=by
  have:w.drew.heap[b]?=some (.cells #[p,.slice (some ⟨g,0,none⟩) l.length (c+1)] 53 (0,0)):=DW
  rw[Lib.cell_of_heap this];rfl
 have hSD:∀ts ty,(Builtin.unsafeSliceData_ ts ty #[.slice (some ⟨g,0,none⟩) l.length (c+1)]).run prog w.drew=.ok (.pointer (some ⟨g,0,none⟩)) w.drew:=fun ts ty=>
  Lib.run_unsafeSliceData_row _ _ _ _ _ _ (by omega)
 have hUS:∀ty,(Builtin.unsafeString_ #[148,3] ty #[.pointer (some ⟨g,0,none⟩),.i l.length]).run prog w.drew=.ok (.string ⟨l.toArray⟩) (w.drew.freeze ⟨g,0,none⟩ l.length):=fun ty=>by
  refine Lib.run_unsafeString_row w.drew 148 3 ty 5 underlying148 (by kernel_rfl) g cur.size (by have Vo:w.drew.heap[g]?=some (.cells cur 5 (0,0)):=hg;simp[World.shape?,Vo]) l h0 H4 (by unfold maxLen at sB;omega) ?_;intro j x hx;rw[Addr.add_lit,sF];exact(cell_of_row w.drew g j cur _ _ hg).trans (RV j x hx)
 have mixed:=mixed;go_enter func25,ntmps25;go_wp2;go_region_o
 all_goals (go_wp2;go_ret;exact⟨rfl,rfl⟩)
theorem ZK (l:List UInt8)(h0:l≠[]):
  cU prog 25 [.ptr (.par 0) 0] [(.par 0,oZ l)] (fun r B=>r=.pv (.str ⟨l.toArray⟩)/\B=[]):=by
 refine⟨⟨_,_,func25,by kernel_rfl,rfl⟩,fun w m ρ vs hB mQ fI lK=>?_⟩;obtain⟨v0,rfl⟩:=TH (by simpa using fI);have h0':=lK 0 v0 _ rfl rfl;have QI:v0=.pointer (some ⟨(ρ (.par 0)).b,0,none⟩):=by cases h0';rfl
 subst QI;obtain⟨hr,uH⟩:=hB.bx (.par 0) _ rfl;have mR:cK ρ w [(.par 0,oZ l)]=(ρ (.par 0)).b::zE (ρ (.par 0)) w:=by simp[cK,hr,ins,EH]
 have iY:=hB.free (by simp);rw[mR]at iY;obtain⟨p,v,hb,_,⟨_,h⟩|⟨g,c,cur,rfl,Q4,hg,h1,h2,h3,h4⟩⟩:=uH
 .exact absurd h h0
 have IW:zE (ρ (.par 0)) w=[g]:=Iw hb;rw[IW]at mR iY;refine(Zpg (ρ (.par 0)).b g c p cur l w hb h0 hg (by omega) (by omega) h4).mono ?_;rintro e w' ⟨rfl,rfl⟩;have hk:cY [g] w (w.drew.freeze ⟨g,0,none⟩ l.length):=by
  unfold World.freeze;split
  .exact Gz w _
  .exact⟨rfl,rfl,rfl,by rw[Array.size_modify];exact fH _,fun k hk hn=>by
    have dA:g≠k:=fun e=>hn (by simp[e])
    simp only[Array.getElem?_modify];rw[if_neg dA];rfl⟩
 refine⟨_,.pv (.str ⟨l.toArray⟩),[],ρ,m,rfl,⟨rfl,rfl⟩,vH.nil _ _ _,Le.refl m,fun a o v hv=>?_,fun _=>rfl,fun s' bx i h hb=>by simp[List.lookup]at h,fun _ _ _ h=>.inl h,.pv _ _ (.str _),?_⟩
 .have hw:=mQ.1 a o v hv;exact(World.cell?_of_block (a:=⟨a,o,none⟩) (hk.block a (BJ hw) (fun h=>by rw[iY a (List.mem_cons_of_mem _ h) o]at hv;cases hv))).trans hw
 .rw[mR];exact hk.sub (fun k h=>List.mem_cons_of_mem _ h)
end
def Md:ByteArray:=⟨#[99,101,114,116,115]⟩
def X1:ByteArray:=⟨#[104,101,108,100]⟩
def HF:ByteArray:=⟨#[98,97,100]⟩
def qP:ByteArray:=⟨#[101,110,100]⟩
def rV (w:Wk)(x:Lt):ByteArray:=UD x (gO (stM w.aA w.bad) w.aG x.num) (bZ w.aA w.bad w.aG x)
def iG (w:Wk)(k:Nat):List UInt8:=(w.aM.take k).flatMap fun x=>(rV w x).data.toList++[10]
def oV (w:Wk):Nat:=((eO w.aA w.bad).KF []).1.length
def nM (F:Nat)(w:Wk):Int:=match(rF w.runs).GJ F with
 |.bN [_,.int _ y,_]=>y
 |_=>0
def F5 (w:Wk):List Wd:=[.kS Md,.num w.aA.length,.kS X1,.num (oV w),.kS HF,.num w.bad.length]
def vQ (F:Nat)(w:Wk):List UInt8:=iG w w.aM.length++((dY (F5 w)).data.toList++[10])++((dY [.kS qP,.num (nM F w)]).data.toList++[10])
def BV (F:Nat)(L:List ByteArray):PV:=if zF L=0 then .bN [.str ⟨(vQ F (cR (kQ F) kA L).1).toArray⟩,.i 0]else .bN [.str ⟨#[]⟩,.i 3]
theorem Zfs {w:Wk}{k:Nat}{x:Lt}(h:w.aM[k]?=some x):iG w (k+1)=iG w k++((rV w x).data.toList++[10]):=by
 unfold iG;rw[mV,h,List.flatMap_append];simp
theorem ZfW (x:Wd)(r:List Wd):(Lib.join (((x::r).map Wd.b).map (·.data.toList)) blank.data.toList).length=r.length+(x.b.size+(r.map fun y=>y.b.size).sum):=by
 rw[iS,iS,Lib.join_length]
 have:∀l:List Wd,Lib.lens ((l.map Wd.b).map (·.data.toList))=(l.map fun y=>y.b.size).sum:=fun l=>by
  unfold Lib.lens;rw[List.map_map,List.map_map];rfl
 have h2:=this (x::r);rw[iS,iS]at h2;rw[h2,fZ,fZ];simp[blank]
theorem Ib (x:Wd)(r:List Wd):(dY (x::r)).size=r.length+(x.b.size+(r.map fun y=>y.b.size).sum):=by
 rw[<-ZfW];rfl
theorem YT (n:Int)(h0:-9223372036854775808<=n)(h1:n<=9223372036854775807):(oP n).size<=21:=Lib.itoa_length_le n h0 h1
theorem ZlU (v:Int):(vK v).size<=8:=by
 unfold vK;split
 .exact fH 8
 .split
  .exact fH 8
  .exact tR rfl
theorem Zp9 (x:Lt)(hx:wA x)(many:Nat)(hm:many<=1000)(v:Int):(dY (C6 x many v)).size<=62:=by
 unfold C6;rw[Ib];have h1:=YT x.num (by have:=hx.1;omega) (by have:=hx.2.1;omega);have h2:=YT many (by omega) (by omega);have h3:=ZlU v;have e1:BQ.size=3:=rfl;have e2:Ge.size=5:=rfl;simp[Wd.b];omega
theorem ZiA (x:Lt)(hx:wA x)(many:Nat)(hm:many<=1000)(v:Int):
  x8 (C6 x many v)/\x8 [.kS (dY (C6 x many v)),.kS FB]/\x8 [.kS (HX x many v),.kS OX]/\(UD x many v).size<=100:=by
 have h0:=Zp9 x hx many hm v;have e1:FB.size=6:=rfl;have e2:OX.size=8:=rfl;have h1:(HX x many v).size<=70:=by
  unfold HX;split
  .rw[Ib];simp[Wd.b];omega
  .omega
 refine⟨?_,?_,?_,?_⟩
 .have:(Lib.join (((C6 x many v).map Wd.b).map (·.data.toList)) blank.data.toList).length=(dY (C6 x many v)).size:=rfl
  unfold x8;omega
 .unfold x8;rw[ZfW];simp[Wd.b];omega
 .unfold x8;rw[ZfW];simp[Wd.b];omega
 .unfold UD;split
  .rw[Ib];simp[Wd.b];omega
  .omega
theorem ZgQ (S:Int->Int->Bool)(ts:List Tt)(n:Int)(h:ts.length<=900):gO S ts n<=1000:=by
 have:=Hn (S:=S) (ts:=ts) (n:=n)
 omega
theorem Nv {w:Wk}(dD:G1 w):∀k,(iG w k).length<=k*101
 |0=>fH 0
 |k+1=>by
  have ih:=Nv dD k;cases h:w.aM[k]? with
  |none=>unfold iG at ih ⊢;rw[mV,h];simp at ih ⊢;omega
  |some x=>
   rw[Zfs h,gF,gF];have h2:=(ZiA x (dD.lt x (dL h)) _ (ZgQ (stM w.aA w.bad) w.aG x.num dD.t) (bZ w.aA w.bad w.aG x)).2.2.2
   have:(rV w x).data.toList.length=(rV w x).size:=rfl
   have e:(rV w x).size<=100:=h2;simp only[pI,List.length_nil];omega
theorem ZqH (w:Wk)(h1:w.aA.length<=1000)(h2:w.bad.length<=1000)(h3:oV w<=1000000):x8 (F5 w)/\(dY (F5 w)).size<=90:=by
 have a1:=YT w.aA.length (by omega) (by omega);have a2:=YT w.bad.length (by omega) (by omega);have a3:=YT (oV w) (by omega) (by omega);have e1:Md.size=5:=rfl;have e2:X1.size=4:=rfl;have e3:HF.size=3:=rfl;have h:(dY (F5 w)).size<=90:=by
  unfold F5;rw[Ib];simp[Wd.b];omega
 refine⟨?_,h⟩
 have:(Lib.join (((F5 w).map Wd.b).map (·.data.toList)) blank.data.toList).length=(dY (F5 w)).size:=rfl
 unfold x8;omega
theorem ZqB (n:Int)(h0:-9223372036854775808<=n)(h1:n<=9223372036854775807):x8 [.kS qP,.num n]/\(dY [.kS qP,.num n]).size<=30:=by
 have a1:=YT n h0 h1;have e1:qP.size=3:=rfl;have h:(dY [.kS qP,.num n]).size<=30:=by
  rw[Ib];simp[Wd.b];omega
 refine⟨?_,h⟩
 have:(Lib.join (([Wd.kS qP,.num n].map Wd.b).map (·.data.toList)) blank.data.toList).length=(dY [.kS qP,.num n]).size:=rfl
 unfold x8;omega
theorem ZsN (x:ByteArray):(x++(⟨#[10]⟩:ByteArray)).data.toList=x.data.toList++[10]:=by
 rw[ByteArray.data_append,Array.toList_append]
theorem CB (l:List UInt8)(x:ByteArray)(hl:l.length+(x.size+1)<=1000000):
  cU prog 17 [.pv (.str x),.ptr (.par 0) 0] [(.par 0,oZ l)] (fun r B=>r=.pv (.bN [])/\B=[(.par 0,oZ (l++(x.data.toList++[10])))]):=by
 have fI:(x++(⟨#[10]⟩:ByteArray)).size=x.size+1:=by rw[ByteArray.size_append];rfl
 have hw:=Qv l (x++⟨#[10]⟩) (by omega) (by omega);rw[ZsN]at hw;refine cB [.par 0] L17 ?_;have Wa:(x.size+ByteArray.size ⟨#[10]⟩).ble 9223372036854775807=true:=by
  rw[Nat.ble_eq]
  have:ByteArray.size ⟨#[10]⟩=1:=rfl
  omega
 simp[L17,Wa];generalize x++(⟨#[10]⟩:ByteArray)=y at hw ⊢;refine cM [.ptr (.par 0) 0,.pv (.str y)] [(.par 0,oZ l)] 5 [.par 0] (by simp) hw (by simp) ?_;simp
theorem ZtR {F:Nat}(w:Wk):0<=nM F w/\nM F w<=40:=by
 unfold nM Qn.Qu.GJ;by_cases hc:(rF w.runs).check≠0
 .rw[if_pos hc];exact⟨Int.le_refl 0,show(0:Int)<=40 by decide⟩
 .rw[if_neg hc];cases hl:(rF w.runs).EV F with
  |none=>exact⟨Int.le_refl 0,show(0:Int)<=40 by decide⟩
  |some p=>
   have:=(Qn.C8 (Qn.Qu.XC (Decidable.not_not.1 hc)) _ _ _ Qn.PW.nil (Qn.oJ (q:=rF w.runs)) p hl).l
   exact⟨by simp,by simp;omega⟩
theorem Zlh (w:Wk):oV w<=1000000:=by
 have h:=XZ (b:=eO w.aA w.bad) (bad:=[]);unfold oV Bk.KF;split
 .split
  .exact lM h (by decide)
  .exact gW _
 .exact gW _
def Jw (w:Wk)(k:Nat):AS:=
 ⟨[(5,.ptr (.loc 23 0) 0),(7,.ptr (.loc 7 0) 0),(8,.fn 17 [] [.ptr (.loc 7 0) 0]),(31,.pv (aV w.aM)),(32,.pv (.i w.aM.length)),(33,.pv (.i (k:Int)))],
  [(.loc 23 0,w.box),(.loc 7 0,oZ (iG w k))]⟩
theorem ZlK {F:Nat}(hF:407<F)(L:List ByteArray)(hl:L.length<=1000000):aC prog 6 [bO L] (BV F L):=by
 have sQ:=XU L hl;refine O1 L6 ?_;intro R hR;unfold BV at hR;by_cases hc:zF L=0
 .obtain⟨Ks,rI⟩:=Og hc;rw[hc]at sQ;have H2:=Zk (Ov hF) tK L (by omega) rI;have dD:=Mg _ _ (by omega) (Il (Ov hF) (l:=L) (by omega) tK rI);rw[if_pos hc]at hR;generalize cR (kQ F) kA L=q at H2 dD hR;obtain⟨w,es⟩:=q;dsimp only at H2 dD hR;have lD:=dD.l;simp[L6];refine cG [bO L] sQ ?_;simp;refine .inl (R8 [] (fs:=[]) (xs:=[bO L]) (cs:=[]) (d:=23) rfl rfl H2 ?_);rintro r B ⟨rfl,rfl⟩;refine⟨by simp[Wk.box,aP],?_⟩;simp[Wk.box,aP,aV];refine eP (fun m τ=>∃k:Nat,k<=w.aM.length/\m=w.aM.length-k/\τ=Jw w k) ⟨w.aM.length,Jw w 0,Sub.mk (by simp[aV]) (by simp[Wk.box,aP,aV];simp[iG]),0,gW _,rfl,rfl⟩ ?_;rintro J hJ m τ ⟨k,hk,rfl,rfl⟩;by_cases aI:k<w.aM.length
  .obtain⟨x,hx⟩:∃x,w.aM[k]?=some x:=⟨w.aM[k],bC aI⟩;have hg:(w.aM.map Lt.pv)[k]?=some x.pv:=by rw[bY,hx];rfl
   have Kh:=dD.lt x (dL hx);obtain⟨j0,j1,j2,fI⟩:=ZiA x Kh _ (ZgQ (stM w.aA w.bad) w.aG x.num dD.t) (bZ w.aA w.bad w.aG x);have mO:=Zqd w.aA w.bad (aV w.aM) w.aG (dV w.runs) x dD.c dD.b dD.t Kh dD.fit j0 j1 j2;have r5:=Nv dD k;have MW:=CB (iG w k) (rV w x) (by unfold rV;omega);rw[<-Zfs hx]at MW;unfold rV at MW;simp only[Lt.pv]at hg;rw[Lt.pv]at mO;have hw:=bK (k:=k) (by omega);have hn:=hJ (w.aM.length-(k+1)) _ ⟨k+1,aI,rfl,rfl⟩;have aH:w.aM.length-(k+1)<w.aM.length-k:=by omega
   generalize UD x (gO (stM w.aA w.bad) w.aG x.num) (bZ w.aA w.bad w.aG x)=s at mO MW;simp[Jw,Wk.box,aP,aV,aI,↓hg,aN];refine cM [.ptr (.par 0) 0,.pv (.agg [.i x.num,.i x.pieces,.i x.limit,.bool x.passed])] [(.par 0,aP (aK w.aA) (bJ w.bad) (aV w.aM) (bI w.aG) (dV w.runs))] 40 [.loc 23 0] (by simp[aP,aV]) mO (by simp[aP]) ?_;simp[aP];refine cM [.pv (.str s),.ptr (.par 0) 0] [(.par 0,oZ (iG w k))] 41 [.loc 7 0] (by simp) MW (by simp) ?_;simp[hw];exact⟨_,_,aH,Sub.mk (by simp[aV]) (by simp[Wk.box,aP,aV]),hn⟩
  .have he:k=w.aM.length:=by omega
   subst he;have r5:=Nv dD w.aM.length;have VX:=Mq w.aA w.bad (aV w.aM) (bI w.aG) (dV w.runs) dD.c dD.b;have Vk:cU prog 20 ([(eO w.aA w.bad).pv,.emp (some true)].map .pv) [] (fun r B=>r=.pv (K2 ((eO w.aA w.bad).KF []))/\B=[]):=by
    refine cU.Yq (xs:=[(eO w.aA w.bad).pv,.emp (some true)]) (ys:=[(eO w.aA w.bad).pv,.aF false 1 ([].map aO)]) (Zvu (eO w.aA w.bad) (show rE.length<=1000 by decide) (lM (Q7 _ _) dD.c) [] (gW _)) rfl ?_;intro j x y m v h1 h2 hr
    match j with
    |0=>simp at h1 h2;subst h1 h2;exact hr
    |1=>simp at h1 h2;subst h1 h2;exact BF hr
    |j+2=>simp at h1
   have WI:=ZqH w dD.c dD.b (Zlh w);have c6:=Hl (F5 w) (show(6:Nat)<=1000 by decide) (fun y hy=>by
    have h1:=dD.c;have h2:=dD.b;have h3:=Zlh w;simp[F5]at hy;rcases hy with rfl|rfl|rfl|rfl|rfl|rfl
    .trivial
    .exact⟨by omega,by omega⟩
    .trivial
    .exact⟨by omega,by omega⟩
    .trivial
    .exact⟨by omega,by omega⟩) WI.1
   have ebd:=ZtR (F:=F) w;have WH:=ZqB (nM F w) (by omega) (by omega);have hed:=Hl [.kS qP,.num (nM F w)] (show(2:Nat)<=1000 by decide) (fun y hy=>by
    simp at hy;rcases hy with rfl|rfl
    .trivial
    .exact⟨by omega,by omega⟩) WH.1
   have eC:rW ((F5 w).map Wd.b) blank=dY (F5 w):=rfl;have eE:rW ([Wd.kS qP,.num (nM F w)].map Wd.b) blank=dY [.kS qP,.num (nM F w)]:=rfl;rw[eC]at c6;rw[eE]at hed;have p1:=CB (iG w w.aM.length) (dY (F5 w)) (by omega);have p2:=CB (iG w w.aM.length++((dY (F5 w)).data.toList++[10])) (dY [.kS qP,.num (nM F w)]) (by
    have:(dY (F5 w)).data.toList.length=(dY (F5 w)).size:=rfl
    simp only[gF,pI,List.length_nil];omega)
   have bS:=ZK (vQ F w) (by unfold vQ;simp);have MV:=Znt (w.runs.map Qn.Rq.pv) (aK w.aA) (bJ w.bad) (aV w.aM) (bI w.aG);have NJ:=Qn.wS hF (rF w.runs) (show(2:Nat)<=1000000 by decide) (show w.runs.length<=1000000 by have:=dD.r;omega) (fun l hl=>by
    simp[rF]at hl;rcases hl with rfl|rfl<;>decide)
   obtain⟨ex,ee,Df⟩:∃x e,(rF w.runs).GJ F=.bN [x,.i (nM F w),.i e]:=by
    obtain⟨x,y,h⟩:=Zov F (rF w.runs);exact⟨x,_,by rw[h];unfold nM;rw[h]⟩
   rw[Df]at NJ;clear Df r5 WI WH eC eE;unfold vQ at bS hR;generalize hCW:dY (F5 w)=cw at *;generalize hEW:dY [.kS qP,.num (nM F w)]=ew at *;generalize hRT:iG w w.aM.length=rt at *;simp[Jw,Wk.box,aP,hRT];refine cM [.ptr (.par 0) 0] [(.par 0,aP (aK w.aA) (bJ w.bad) (aV w.aM) (bI w.aG) (dV w.runs))] 45 [.loc 23 0] (by simp[aP,bJ]) VX (by simp[aP]) ?_;simp[aP];refine .inl (cQ [] [(eO w.aA w.bad).pv,.emp (some true)] Vk ?_);simp[K2,aK];refine .inl (cP [.loc 70 0] [.aF false 1 ((F5 w).map Wd.pv)] (by simp) (by simp[F5,Wd.pv,Md,X1,HF,oV]) c6 ?_);simp;refine cM [.pv (.str cw),.ptr (.par 0) 0] [(.par 0,oZ rt)] 72 [.loc 7 0] (by simp) p1 (by simp) ?_;simp;refine cM [.ptr (.par 0) 0] [(.par 0,aP (aK w.aA) (bJ w.bad) (aV w.aM) (bI w.aG) (.aF false 3 (w.runs.map Qn.Rq.pv)))] 75 [.loc 23 0] (by simp[aP,bJ,dV,aK]) MV (by simp[aP]) ?_;simp[aP];refine .inl (cQ [] [(rF w.runs).pv] NJ ?_);simp;refine .inl (cP [.loc 84 0] [.aF false 1 ([Wd.kS qP,.num (nM F w)].map Wd.pv)] (by simp) (by simp[Wd.pv,qP]) hed ?_);simp;refine cM [.pv (.str ew),.ptr (.par 0) 0] [(.par 0,oZ (rt++(cw.data.toList++[10])))] 86 [.loc 7 0] (by simp) p2 (by simp) ?_;simp;refine cM [.ptr (.par 0) 0] [(.par 0,oZ (rt++(cw.data.toList++[10])++(ew.data.toList++[10])))] 87 [.loc 7 0] (by simp) bS (by simp) ?_;simp;rw[<-hR];exact⟨by simp,rfl⟩
 .have h3:=Oh hc;rw[h3]at sQ;rw[if_neg hc]at hR;simp[L6];refine cG [bO L] sQ ?_;simp;rw[<-hR];exact⟨rfl,rfl⟩
theorem Zt {s:ByteArray}{k:Nat}{b:UInt8}(h:s.data.toList[k]?=some b):BT s (k:Int)=some b:=by
 unfold BT;rw[O7]at h;obtain⟨hl,he⟩:=qL.1 h;have hk:k<s.size:=hl;rw[if_pos (by omega),A1,getElem?_pos s k hk];exact congrArg some he
def y7 (L:List ByteArray):Bool:=L.all (fun s=>decide (s.size<=200))&&decide (L.length<=50)
theorem Zkm {α:Type}{l:List α}{p:α->Bool}{k:Nat}{x:α}(h:l[k]?=some x):(l.take (k+1)).all p=((l.take k).all p&&p x):=by
 rw[mV,h,List.all_append];simp
theorem Zi9 {α:Type}{l:List α}{p:α->Bool}{x:α}(h:x∈l)(hp:p x=false):l.all p=false:=by
 rw[List.all_eq_false];exact⟨x,h,by simp[hp]⟩
theorem Zpx (L:List ByteArray)(hl:L.length<=1000000):aC prog 26 [bO L] (.bool (y7 L)):=by
 refine O1 L26 ?_;intro R hR;simp[L26,bO];refine eP (fun m τ=>∃k:Nat,k<=L.length/\m=L.length-k/\(L.take k).all (fun s=>decide (s.size<=200))=true/\τ=⟨[(0,.pv (.aF false 1 (L.map .str))),(3,.pv (.i (k:Int)))],[]⟩)
  ⟨L.length,⟨[(0,.pv (.aF false 1 (L.map .str))),(3,.pv (.i ((0:Nat):Int)))],[]⟩,Sub.mk (by simp) (by simp),0,gW _,rfl,rfl,rfl⟩ ?_
 rintro J hJ m τ ⟨k,hk,rfl,eV,rfl⟩;by_cases aI:k<L.length
 .obtain⟨s,hx⟩:∃s,L[k]?=some s:=⟨L[k],bC aI⟩;have hg:(L.map PV.str)[k]?=some (.str s):=by rw[bY,hx];rfl
  have hw:=bK (k:=k) (by omega);have aH:L.length-(k+1)<L.length-k:=by omega
  by_cases h2:200<s.size
  .have hf:y7 L=false:=by unfold y7;rw[Zi9 (dL hx) (by simpa using h2)];rfl
   have uK:(200:Int)<(s.size:Int):=by omega
   rw[hf]at hR;simp[aI,↓hg,uK];rw[<-hR];exact⟨rfl,by simp⟩
  .have hn:=hJ (L.length-(k+1)) _ ⟨k+1,aI,rfl,by rw[Zkm hx,eV];simp;omega,rfl⟩;have uK:¬(200:Int)<(s.size:Int):=by omega
   simp[aI,↓hg,uK,hw];exact⟨_,_,aH,Sub.mk (by simp) (by simp),hn⟩
 .have he:k=L.length:=by omega
  subst he;rw[nD]at eV;have hf:y7 L=decide (L.length<=50):=by unfold y7;rw[eV,Bool.true_and]
  rw[hf]at hR;simp;rw[<-hR];exact⟨by simp;try omega,by simp⟩
def rO (L:List ByteArray):Bool:=(L.take 56).all (fun s=>decide (s.size<=210))&&decide (L.length<=55)
theorem Zt4 (L:List ByteArray)(hl:L.length<=9223372036854775807):aC prog 4 [bO L] (.bool (rO L)):=by
 refine O1 L4 ?_;intro R hR;simp[L4,bO];refine eP (fun m τ=>∃k:Nat,k<=L.length/\k<=56/\m=L.length-k/\(L.take k).all (fun s=>decide (s.size<=210))=true/\τ=⟨[(0,.pv (.aF false 1 (L.map .str))),(3,.pv (.i (k:Int)))],[]⟩)
  ⟨L.length,⟨[(0,.pv (.aF false 1 (L.map .str))),(3,.pv (.i ((0:Nat):Int)))],[]⟩,Sub.mk (by simp) (by simp),0,gW _,gW _,rfl,rfl,rfl⟩ ?_
 rintro J hJ m τ ⟨k,hk,E7,rfl,eV,rfl⟩;by_cases aI:k<L.length
 .have jF:((k:Int)<(L.length:Int)):=by omega
  by_cases h6:k<56
  .obtain⟨s,hx⟩:∃s,L[k]?=some s:=⟨L[k],bC aI⟩;have hg:(L.map PV.str)[k]?=some (.str s):=by rw[bY,hx];rfl
   have hw:=bK (k:=k) (by omega);have aH:L.length-(k+1)<L.length-k:=by omega
   have WN:((k:Int)<56):=by omega
   by_cases h2:210<s.size
   .have hm:s∈L.take 56:=dL (i:=k) (by rw[mH,if_pos h6];exact hx);have hf:rO L=false:=by unfold rO;rw[Zi9 hm (by simpa using h2)];rfl
    rw[hf]at hR;have uK:(210:Int)<(s.size:Int):=by omega
    simp[jF,WN,↓hg,uK];rw[<-hR];exact⟨rfl,by simp⟩
   .have hn:=hJ (L.length-(k+1)) _ ⟨k+1,aI,h6,rfl,by rw[Zkm hx,eV];simp;omega,rfl⟩;have uK:¬(210:Int)<(s.size:Int):=by omega
    simp[jF,WN,↓hg,uK,hw];exact⟨_,_,aH,Sub.mk (by simp) (by simp),hn⟩
  .have he:k=56:=by omega
   subst he;have hf:rO L=false:=by unfold rO;rw[eV,decide_eq_false (by omega)];rfl
   rw[hf]at hR;have h55:¬(L.length:Int)<=55:=by omega
   have IU:(56:Int)<(L.length:Int):=by omega
   clear aI jF h6;simp[IU,h55];rw[<-hR];exact⟨rfl,by simp⟩
 .have he:k=L.length:=by omega
  subst he;rw[nD]at eV;have hf:rO L=decide (L.length<=55):=by unfold rO;rw[fQ E7,eV,Bool.true_and]
  rw[hf]at hR;simp;rw[<-hR];exact⟨by simp;try omega,by simp⟩
theorem Zt5 (L:List ByteArray)(hl:L.length<=1000000):aC prog 7 [bO L] (bO L):=by
 refine cU.j5 ?_;refine cF [.loc 5 0] L7 ?_;have h4:List.take L.length (L.map PV.str)=L.map PV.str:=fQ (by rw[fZ];exact fH _);simp[L7,bO,aN,hl,h4]
def KK (L:List ByteArray):Int:=if y7 L=true then 0 else 3
theorem Zq7 (L:List ByteArray)(hl:L.length<=1000000):aC prog 8 [bO L] (.i (KK L)):=by
 refine cS L8 ?_;simp[L8];refine cG [bO L] (Zpx L hl) ?_;unfold KK;cases h:y7 L<;>simp
def tI:List ByteArray:=[⟨#[99,101,114,116,32,49,32,50,32,48,32,49,48,32,49,48,48,32,45,49,32,49]⟩,⟨#[108,111,116,32,55,32,56,32,53,48,48]⟩,⟨#[116,101,115,116,32,55,32,50,32,50,48,32,53,49,49]⟩,⟨#[116,101,115,116,32,55,32,50,32,50,48,32,53,49,48]⟩]
def tL:List ByteArray:=[⟨#[116,101,115,116,32,55,32,51,32,50,48,32,54,48,48]⟩,⟨#[98,97,100,32,49]⟩,⟨#[116,101,115,116,32,55,32,50,32,50,48,32,54,48,48]⟩]
def Zjn:ByteArray:=⟨#[108,111,116,32,55,32,116,101,115,116,115,32,50,32,111,112,101,110,10,99,101,114,116,115,32,49,32,104,101,108,100,32,49,32,98,97,100,32,48,10,101,110,100,32,48,10]⟩
def TW:ByteArray:=⟨#[123,48,48,49,58,57,57,56,58,48,48,49,48,57,125,97,10]⟩
theorem ZjK:cU prog 11 [] [] (fun r B=>r=.vec (.ret 0) 1 0 4/\B=[(.ret 0,.arr 9 1 (tI.map .str))]):=by
 refine cB [.loc 1 0] L11 ?_;simp[L11,tI]
theorem Zt8 (A B:List Int)(hA:A.length<=1000000):aC prog 14 [.aF false 1 (A.map iP),.aF false 1 (B.map iP)] (.bool (decide (A=B))):=by
 refine O1 L14 ?_;intro R hR;by_cases hl:A.length=B.length
 .have lL:((A.length:Int)=(B.length:Int)):=by omega
  simp[L14,hl];refine eP (fun m τ=>∃k:Nat,k<=A.length/\m=A.length-k/\A.take k=B.take k/\τ=⟨[(0,.pv (.aF false 1 (A.map iP))),(1,.pv (.aF false 1 (B.map iP))),(5,.pv (.i (k:Int)))],[]⟩)
   ⟨A.length,⟨[(0,.pv (.aF false 1 (A.map iP))),(1,.pv (.aF false 1 (B.map iP))),(5,.pv (.i ((0:Nat):Int)))],[]⟩,Sub.mk (by simp) (by simp),0,gW _,rfl,rfl,rfl⟩ ?_
  rintro J hJ m τ ⟨k,hk,rfl,wH,rfl⟩;by_cases aI:k<A.length
  .obtain⟨s,hx⟩:∃s,A[k]?=some s:=⟨A[k],bC aI⟩;obtain⟨t,hy⟩:∃t,B[k]?=some t:=⟨B[k]'(by omega),bC (by omega)⟩;have hg:(A.map iP)[k]?=some (.i s):=by rw[bY,hx];rfl
   have H6:(B.map iP)[k]?=some (.i t):=by rw[bY,hy];rfl
   have kN:k<B.length:=by omega
   have hw:=bK (k:=k) (by omega);have aH:A.length-(k+1)<A.length-k:=by omega
   by_cases h2:s=t
   .have hn:=hJ (A.length-(k+1)) _ ⟨k+1,aI,rfl,by rw[mV,mV,hx,hy,wH,h2],rfl⟩;simp[aI,↓hg,↓H6,h2,hw];exact⟨_,_,aH,Sub.mk (by simp) (by simp),hn⟩
   .have hf:decide (A=B)=false:=by
     rw[decide_eq_false_iff_not];intro e;rw[e,hy]at hx;cases hx;exact h2 rfl
    rw[hf]at hR;simp[aI,↓hg,↓H6,h2];rw[<-hR];exact⟨rfl,by simp⟩
  .have he:k=A.length:=by omega
   subst he;rw[nD,hl,nD]at wH;have hf:decide (A=B)=true:=by rw[decide_eq_true_eq];exact wH
   rw[hf]at hR;simp;rw[<-hR];exact⟨rfl,by simp⟩
 .have lL:¬((A.length:Int)=(B.length:Int)):=by omega
  have hf:decide (A=B)=false:=by
   rw[decide_eq_false_iff_not];intro e;exact hl (by rw[e])
  rw[hf]at hR;simp[L14,hl,lL];rw[<-hR];exact⟨rfl,by simp⟩
theorem Zsb:CC (kQ 408) (tI++tL)=.bN [(cR (kQ 408) kA (tI++tL)).1.pv,.aF false 1 ([0,0,0,0,10,0,10].map iE),.i 0]:=by
 unfold CC;have h1:zF (tI++tL)=0:=by decide +kernel
 have h2:(cR (kQ 408) kA (tI++tL)).2=[0,0,0,0,10,0,10]:=by decide +kernel
 rw[if_pos h1,h2]
theorem Zjk {L:List ByteArray}(h:y7 L=true):L.length<=50/\∀s∈L,s.size<=200:=by
 unfold y7 at h;rw[dK,decide_eq_true_eq,rM]at h;exact⟨h.2,fun s hs=>by simpa using h.1 s hs⟩
def Wk.cells (w:Wk):List AV:=[.pv (.aF false 7 (w.aA.map Ct.pv)),.pv (.aF false 1 (w.bad.map iP)),.pv (.aF false 4 (w.aM.map Lt.pv)),.pv (.aF false 4 (w.aG.map Tt.pv)),.pv (.aF false 3 (w.runs.map Qn.Rq.pv))]
section
variable {D:Wk->ByteArray->Wk×Int}
def X8 (D:Wk->ByteArray->Wk×Int):Wk->List ByteArray->List ByteArray
 |_,[]=>[]
 |st,s::l=>if(D st s).2=0 then s::X8 D (D st s).1 l else X8 D (D st s).1 l
end
section
attribute [local irreducible] Bk.rD eL Bk.contra Bk.held Bk.span Bk.nums Bk.qM stM iD
end
def KL:List PV:=rE.map It.pv
def Ay (w:Wk)(n:Int)(k:Nat):AS:=⟨[(1,.pv (.i n)),(2,.ptr (.loc 2 0) 0),(5,.pv (.i (k:Int)))],[(.loc 2 0,.cells w.cells)]⟩
theorem ZjQ {α:Type}{l:List α}{k:Nat}{x:α}(h:l[k]?=some x):l.drop k=x::l.drop (k+1):=by
 obtain⟨hl,he⟩:=cD.1 h;rw[AY hl,he]
theorem ZkG (w:Wk)(hl:w.aA.length<=1000)(n:Int):aC prog 155 [w.pv,.i n] (.bool (kn w n)):=by
 refine cS L155 ?_;obtain⟨V,hV⟩:∃V,V=kn w n:=⟨_,rfl⟩;rw[<-hV];generalize hR:(fun(r:AV) (B:List (Site×aJ))=>r=.pv (.bool V)/\B=[])=R;simp[L155,Wk.pv,aK,bJ,aV,bI,dV];refine eP (fun m τ=>∃k:Nat,k<=w.aA.length/\m=w.aA.length-k/\V=(w.aA.drop k).any (fun y=>decide (y.num=n))/\τ=Ay w n k) ⟨w.aA.length,Ay w n 0,Sub.mk (by simp) (by simp[Wk.cells]),0,gW _,rfl,hV,rfl⟩ ?_;rintro J hJ m τ ⟨k,hk,rfl,hv,rfl⟩;by_cases aI:k<w.aA.length
 .obtain⟨x,hx⟩:∃x,w.aA[k]?=some x:=⟨w.aA[k],bC aI⟩;have hg:(w.aA.map Ct.pv)[k]?=some (.agg [.i x.num,.i x.it,.i x.src,.i x.day,.i x.valid,.i x.diff.lo,.i x.diff.hi]):=by rw[bY,hx];rfl
  have hw:=bK (k:=k) (by omega);have aH:w.aA.length-(k+1)<w.aA.length-k:=by omega
  rw[ZjQ hx,List.any_cons]at hv;by_cases hn:x.num=n
  .have xM:V=true:=by rw[hv,decide_eq_true hn];rfl
   subst xM;simp[Ay,Wk.cells,aI,↓hg,hn,aN];rw[<-hR];exact⟨rfl,rfl⟩
  .have aB:=hJ _ _ ⟨k+1,aI,rfl,by rw[hv,decide_eq_false hn,Bool.false_or],rfl⟩;simp[Ay,Wk.cells,aI,↓hg,hn,hw,aN];exact⟨_,_,aH,Sub.mk (by simp) (by simp[Wk.cells]),aB⟩
 have he:k=w.aA.length:=by omega
 subst he;rw[List.drop_length]at hv;have xM:V=false:=hv;subst xM;simp[Ay,Wk.cells];rw[<-hR];exact⟨rfl,rfl⟩
def NZ:List Lt->Int->Nat->Int
 |[],_,_=>-1
 |x::l,n,k=>if x.num=n then(k:Int)else NZ l n (k+1)
def Er (w:Wk)(n:Int)(k:Nat):AS:=⟨[(1,.pv (.i n)),(2,.ptr (.loc 2 0) 0),(5,.pv (.i (k:Int)))],[(.loc 2 0,.cells w.cells)]⟩
theorem Zjl (w:Wk)(hl:w.aM.length<=1000)(n:Int):aC prog 159 [w.pv,.i n] (.i (NZ w.aM n 0)):=by
 refine cS L159 ?_;obtain⟨V,hV⟩:∃V,V=NZ w.aM n 0:=⟨_,rfl⟩;rw[<-hV];generalize hR:(fun(r:AV) (B:List (Site×aJ))=>r=.pv (.i V)/\B=[])=R;simp[L159,Wk.pv,aK,bJ,aV,bI,dV];refine eP (fun m τ=>∃k:Nat,k<=w.aM.length/\m=w.aM.length-k/\V=NZ (w.aM.drop k) n k/\τ=Er w n k) ⟨w.aM.length,Er w n 0,Sub.mk (by simp) (by simp[Wk.cells]),0,gW _,rfl,hV,rfl⟩ ?_;rintro J hJ m τ ⟨k,hk,rfl,hv,rfl⟩;by_cases aI:k<w.aM.length
 .obtain⟨x,hx⟩:∃x,w.aM[k]?=some x:=⟨w.aM[k],bC aI⟩;have hg:(w.aM.map Lt.pv)[k]?=some (.agg [.i x.num,.i x.pieces,.i x.limit,.bool x.passed]):=by rw[bY,hx];rfl
  have hw:=bK (k:=k) (by omega);have aH:w.aM.length-(k+1)<w.aM.length-k:=by omega
  rw[ZjQ hx]at hv;unfold NZ at hv;by_cases hn:x.num=n
  .rw[if_pos hn]at hv;subst hv;simp[Er,Wk.cells,aI,↓hg,hn,aN];rw[<-hR];exact⟨rfl,rfl⟩
  .rw[if_neg hn]at hv;have aB:=hJ _ _ ⟨k+1,aI,rfl,hv,rfl⟩;simp[Er,Wk.cells,aI,↓hg,hn,hw,aN];exact⟨_,_,aH,Sub.mk (by simp) (by simp[Wk.cells]),aB⟩
 have he:k=w.aM.length:=by omega
 subst he;rw[List.drop_length]at hv;have xM:V = -1:=hv;subst xM;simp[Er,Wk.cells];rw[<-hR];exact⟨rfl,rfl⟩
theorem ZkH:aC prog 69 [] (aS rE):=by
 refine cF [.loc 8 0] L69 ?_;simp[L69,aS,rE,It.pv]
theorem ZsP (p:Int):aC prog 67 [.i p] (eH p):=by
 refine cF [.loc 6 0] L67 ?_;simp[L67,eH,dX,aN]
theorem ZkD (l:List PV):aC prog 35 [.aF false 3 l] (.agg [XK,.aF false 3 l]):=by
 refine cU.j5 ?_;refine cF [.loc 4 0,.loc 5 0] L35 ?_;simp[L35,aN];intro m v h;refine Zr4 (cs:=[.aF false 1 [.aF false 2 [.agg [.i 10,.i 13]],.emp (some true)],.aF false 3 l]) (iM:=[XK,.aF false 3 l]) rfl (fun i c c' d h1 h2 hd=>?_) h
 match i with
 |0=>cases h1;cases h2;exact LG 5 _ _ rfl _ _ hd
 |1=>cases h1;cases h2;exact hd
def VE (k:Nat):List (Nat×AV):=[(1,.ptr (.loc 1 0) 0),(2,.ptr (.loc 2 0) 0),(3,.ptr (.loc 3 0) 0),(4,.pv (.i (k:Int)))]
def VD (w:Wk)(Y:List Ct):List (Site×aJ):=[(.loc 32 0,.arr 162 7 (Y.map Ct.pv)),(.loc 3 0,.cells [.pv (.aF false 4 KL),.vec (.loc 32 0) 7 0 Y.length]),(.loc 1 0,.cells w.cells),(.loc 2 0,.cells [.pv (.emp (some true)),.pv (.emp (some true))])]
def Jx (w:Wk)(k:Nat):AS:=⟨VE k,VD w (fR (w.aA.take k) w.bad)⟩
theorem Mp (w:Wk)(hl:w.aA.length<=1000)(hb:w.bad.length<=1000):aC prog 33 [w.pv] (eO w.aA w.bad).pv:=by
 have IY:aC prog 69 [] (.aF false 4 KL):=ZkH;refine Q6 [.loc 32 0] L33 ?_;intro R hR;simp[L33,Wk.pv,aK,bJ];refine .inl<|cQ [] [] IY ?_;simp[aL];refine eP (fun m τ=>∃k:Nat,k<=w.aA.length/\m=w.aA.length-k/\τ=Jx w k) ⟨w.aA.length,Jx w 0,Sub.trans' (Sub.mk (by simp[VE,AS.mB]) (by simp[VD,AS.mB,Wk.cells,aV,bI,dV,fR])) (mB 32 162 7 (s:=.loc 3 0) (cs:=[.pv (.aF false 4 KL),.pv (.emp (some true))]) 1 rfl rfl (by decide)),0,by omega,rfl,rfl⟩ ?_;rintro J hJ m τ ⟨k,hk,rfl,rfl⟩;by_cases aI:k<w.aA.length
 .obtain⟨x,hx⟩:∃x,w.aA[k]?=some x:=⟨w.aA[k],bC aI⟩;have hg:(w.aA.map Ct.pv)[k]?=some (.agg [.i x.num,.i x.it,.i x.src,.i x.day,.i x.valid,.i x.diff.lo,.i x.diff.hi]):=by rw[bY,hx];rfl
  have hw:=bK (k:=k) (by omega);have aB:=hJ _ _ ⟨k+1,aI,rfl,rfl⟩;have aH:w.aA.length-(k+1)<w.aA.length-k:=by omega
  have eK:fR (w.aA.take (k+1)) w.bad=fR (w.aA.take k) w.bad++(if(!wX w.bad x)=true then[x]else[]):=by
   unfold fR;rw[mV,hx,I2];congr 1;simp only[Option.toList,xT,List.filter_nil]
  have mJ:(fR (w.aA.take k) w.bad).length<=1000:=lM (Q7 _ _) (by rw[gM];omega);have NF:aC prog 70 [.aF false 1 (w.bad.map iP),.i x.num] (.bool (wX w.bad x)):=by
   have h:=wO w.bad x.num (by omega);have e:w.bad.contains x.num=wX w.bad x:=by
    rw[rB,Zh1,jI]
   rw[e]at h;exact h
  unfold Jx at aB ⊢;rw[eK]at aB;clear hJ eK;generalize fR (w.aA.take k) w.bad=Y at *;have hY:(Y.map Ct.pv).take Y.length=Y.map Ct.pv:=fQ (by simp);have hY6:Y.length<=999999:=by omega
  have hY7:Y.length+1<=1000000:=by omega
  simp[VE,VD,Wk.cells,aI,↓hg,aN];refine cG [.aF false 1 (w.bad.map iP),.i x.num] NF ?_;cases Dm:wX w.bad x with
  |true=>
   rw[Dm,if_neg (by simp),xC]at aB;simp[hw];exact⟨_,_,aH,Sub.mk (by simp[VE]) (by simp[VD,Wk.cells]),aB⟩
  |false=>
   rw[Dm,if_pos (show(!false)=true from rfl)]at aB;simp[hw,↓hg,aN,hY7];exact⟨_,_,aH,Sub.mk (by simp[VE]) (by simp[VD,Wk.cells,Ct.pv]),aB⟩
 have he:k=w.aA.length:=by omega
 subst he;clear hJ;unfold Jx;rw[nD];have jE:(eO w.aA w.bad).pv=.agg [.aF false 4 KL,.aF false 7 ((fR w.aA w.bad).map Ct.pv)]:=rfl;rw[jE]at hR;generalize fR w.aA w.bad=Z at *;have hmZ:(Z.map Ct.pv).take Z.length=Z.map Ct.pv:=fQ (by simp);simp[VE,VD,Wk.cells,hmZ];rw[<-hR];exact⟨rfl,rfl⟩
section
section
variable {P:Program}{K:AV->AS->Prop}{σ:AS}
theorem Zlv (fz:List Site){f:bB}{args:List bB}{d:Nat}{g:FuncId}{fs xs cs:List PV}{l:List AV}(h1:(aL fz σ).o f=.pv (.fn g fs cs))(h2:(aL fz σ).tY args=some xs)
  (hc:cU P g ((fs++xs++cs).map .pv) [] (fun r B=>r=.ptr (.ret 0) 0/\B=[(.ret 0,.cells l)])) (hr:oK (.ptr (.ret 0) 0) [(.ret 0,.cells l)]) (hK:K (.ptr (.loc d 0) 0) (((aL fz σ).bG d).lX (nV d [(.ret 0,.cells l)]))):zD P f args d K σ:=
 .inr ⟨fz,g,fs,xs,cs,h1,h2,hc.mono (fun _ _ ⟨h,h'⟩=>by subst h h';exact⟨hr,hK⟩)⟩
end
attribute [local irreducible] Bk.held Bk.nums Bk.iL Bk.span
end
section
section
attribute [local irreducible] Bk.rD eL Bk.contra Bk.held Bk.span Bk.nums Bk.qM
theorem ZtJ {l:List Ct}{bad:List Int}(hl:Bk.ok ⟨rE,l⟩){i d:Int}(h0:0<=i)(h1:i<=5)(h2:0<=d)(h3:d<=1000):(eO l bad).qM i d=stM l bad i d:=by
 have h:=Zvo (FA (bad:=bad) hl) h0 (show i<((eO l bad).items.length:Int) by show i<(6:Int);omega) h2 h3;have hs:stM l bad i d=decide ((eO l bad).vD i d=0):=by unfold stM;rw[Zlx]
 rw[hs,h];cases(eO l bad).qM i d<;>rfl
end
attribute [local irreducible] Bk.rD eL Bk.contra Bk.held Bk.span Bk.nums Bk.iL stM
theorem Zfr (w:Wk)(hk:Bk.ok ⟨rE,w.aA⟩)(hl:w.aA.length<=1000)(hb:w.bad.length<=1000)(fU item day rd:Int)(h0:0<=item)(h1:item<=5)(h2:0<=day)(h3:day<=1000):aC prog 28 [w.pv,.agg [.i fU,.i item,.i day,.i rd]] (.bool (stM w.aA w.bad item day)):=by
 have mO:=Mp w hl hb;have NF:=Znh (eO w.aA w.bad) (FA hk) item day h0 (show item<(6:Int) by omega);rw[ZtJ hk h0 h1 h2 h3]at NF;refine O1 L28 ?_;intro R hR;generalize stM w.aA w.bad item day=V at *;have jE:w.pv=.agg [.aF false 7 (w.aA.map Ct.pv),.aF false 1 (w.bad.map iP),.aF false 4 (w.aM.map Lt.pv),.aF false 4 (w.aG.map Tt.pv),.aF false 3 (w.runs.map Qn.Rq.pv)]:=rfl;rw[jE]at mO ⊢;generalize(eO w.aA w.bad).pv=bp at *;simp[L28];refine cQ [] [_] mO ?_;simp[aL];refine cG [bp,.i item,.i day] NF ?_;simp;rw[<-hR];exact⟨rfl,rfl⟩
theorem ZsU (w:Wk)(hk:Bk.ok ⟨rE,w.aA⟩)(hl:w.aA.length<=1000)(hb:w.bad.length<=1000)(t:Tt)(limit:Int)(h0:0<=t.item)(h1:t.item<=5)(h2:0<=t.day)(h3:t.day<=1000)(hs:stM w.aA w.bad t.item t.day=true)(hc:(eO w.aA w.bad).contra=false)
  (dF:IntKind.i64.wrap (t.rd+((eO w.aA w.bad).vF t.item t.day).1.lo)=t.rd+((eO w.aA w.bad).vF t.item t.day).1.lo):
  aC prog 65 [w.pv,.agg [.i t.fU,.i t.item,.i t.day,.i t.rd],.i limit] (.bool (nB w.aA w.bad limit t)):=by
 have mO:=Mp w hl hb;have dD:=FA (bad:=w.bad) hk;have K6:=Zrw (eO w.aA w.bad) dD;have IV:=Zjj (eO w.aA w.bad) dD ((eO w.aA w.bad).span ((eO w.aA w.bad).held [])) ((eO w.aA w.bad).held []) XZ t.item t.day 1000 h0 (show t.item<(6:Int) by omega) ⟨h2,h3⟩ (fun c hc h=>Zif dD hc h);have hM:((eO w.aA w.bad).vF t.item t.day).1=(eO w.aA w.bad).kJ ((eO w.aA w.bad).held []) ((eO w.aA w.bad).span ((eO w.aA w.bad).held [])) t.item t.day 1000:=by
  unfold Bk.vF;unfold stM at hs;rw[Zlx]at hs;rw[if_pos (of_decide_eq_true hs),hc];rfl
 unfold nB;rw[hM]at dF ⊢;refine cS L65 ?_;generalize(eO w.aA w.bad).kJ ((eO w.aA w.bad).held []) ((eO w.aA w.bad).span ((eO w.aA w.bad).held [])) t.item t.day 1000=sp at *;obtain⟨V,hV⟩:∃V,V=decide (limit<=t.rd+sp.lo):=⟨_,rfl⟩;rw[<-hV];generalize hR:(fun(r:AV) (B:List (Site×aJ))=>r=.pv (.bool V)/\B=[])=R;have jE:w.pv=.agg [.aF false 7 (w.aA.map Ct.pv),.aF false 1 (w.bad.map iP),.aF false 4 (w.aM.map Lt.pv),.aF false 4 (w.aG.map Tt.pv),.aF false 3 (w.runs.map Qn.Rq.pv)]:=rfl;have Xc:(eO w.aA w.bad).pv=.agg [.aF false 4 KL,.aF false 7 ((fR w.aA w.bad).map Ct.pv)]:=rfl;rw[jE]at mO ⊢;rw[Xc]at mO IV K6;generalize(eO w.aA w.bad).span ((eO w.aA w.bad).held [])=S at *;generalize(eO w.aA w.bad).held []=H at *;simp[L65];refine .inl<|cQ [] [_] mO ?_;simp[aL];refine BK (fun τ=>τ=⟨[(11,.pv (.i t.rd)),(20,.pv (.i sp.lo)),(22,.pv (.i limit))],[]⟩) ?_ ?_
 .simp[gL,gS]
  repeat' apply And.intro
  all_goals
   first|refine Zlv [] (fs:=[]) (xs:=[_]) (cs:=[]) rfl rfl K6 ?_ ?_|refine .inl<|Zlv [] (fs:=[]) (xs:=[_]) (cs:=[]) rfl rfl K6 ?_ ?_
   .simp[oK]
   simp[aL,nV,iU,gL,gS]
   repeat' apply And.intro
   all_goals
    refine cM [.pv (.agg [.aF false 4 KL,.aF false 7 ((fR w.aA w.bad).map Ct.pv)]),.ptr (.par 0) 0,.pv (.i t.item),.pv (.i t.day),.pv (.i 1000)] (laid 0 (P5 S H)) 19 [.loc 14 0] (by simp[laid,P5]) IV (by simp[laid,P5]) ?_;simp[laid,P5,Cr.pv];exact Sub.mk (by simp) (by simp)
 rintro τ rfl;have nL:decide (limit<=t.rd+sp.lo)=V:=hV.symm;simp[-decide_eq_true_eq,-decide_eq_false_iff_not,dF,nL];rw[<-hR];exact⟨rfl,rfl⟩
end
section
def pO (p:Int)(rs:List Bool)(c:Int)(i:Nat):AS:=⟨[(1,.vec (.par 0) 1 0 rs.length),(2,.ptr (.loc 2 0) 0),(7,.pv (.i ((2*i:Nat):Int))),(8,.pv (.i c)),(9,.pv (.i (i:Int)))],[(.loc 2 0,.cells [.pv (.i p),.pv (.aF false 3 [dX 0,dX 1])]),(.par 0,.arr 4 1 (rs.map .bool))]⟩
def tX (p:Int)(rs:List Bool)(c:Int)(i k:Nat):AS:=⟨(10,.ptr (.loc 10 0) 0)::(11,.pv (.i (k:Int)))::(pO p rs c i).tm,(.loc 10 0,.cells [.pv (.i 2),.pv (.i (i:Int)),.pv (.i 2)])::(pO p rs c i).bx⟩
theorem ZrX:∀l:List Bool,0<=dE l/\dE l<=l.length
 |[]=>by decide
 |x::l=>by
  obtain⟨h1,h2⟩:=ZrX l;unfold dE;rw[pI]
  split<;>omega
theorem Mz:∀l m:List Bool,dE (l++m)=dE l+dE m
 |[],m=>by simp[dE]
 |x::l,m=>by
  show(if x=true then 1 else 0)+dE (l++m)=(if x=true then 1 else 0)+dE l+dE m;rw[Mz l m,Int.add_assoc]
theorem ZuI {rs:List Bool}(h:rs.length<2):cZ rs=(3,2-(rs.length:Int),0):=by unfold cZ;rw[if_pos h]
theorem ZuH {rs:List Bool}(h:¬rs.length<2)(he:(cZ rs).2.2=0)(hs:eG (dE (rs.take 2)) 0 2≠3):rs.length=2/\cZ rs=(eG (dE (rs.take 2)) 0 2,0,0):=by
 unfold cZ at *;rw[if_neg h,if_neg hs]at *;split at he
 .cases he
 .rename_i h2;exact⟨by omega,by rw[if_neg h2]⟩
theorem ZuG {rs:List Bool}(h:¬rs.length<2)(hs:eG (dE (rs.take 2)) 0 2=3)(h4:rs.length<4):cZ rs=(3,4-(rs.length:Int),0):=by
 unfold cZ;rw[if_neg h,if_pos hs,if_pos h4]
theorem ZuF {rs:List Bool}(hs:eG (dE (rs.take 2)) 0 2=3)(h4:rs.length=4):cZ rs=(eG (dE (rs.take 4)) 1 2,0,0):=by
 unfold cZ;rw[if_neg (by omega),if_pos hs,if_neg (by omega),if_neg (by omega)];have h1:dE (rs.take 2)=1:=by
  unfold eG at hs;split at hs
  .cases hs
  .split at hs
   .cases hs
   .omega
 have h2:rs.take 4=rs.take 2++(rs.drop 2).take 2:=by rw[show 4=2+2 from rfl,List.take_add]
 rw[h2,Mz,h1]
theorem ZsO (p:Int)(rs:List Bool)(h4:rs.length<=4)(he:(cZ rs).2.2=0):cU prog 66 [.pv (eH p),.vec (.par 0) 1 0 rs.length] [(.par 0,.arr 4 1 (rs.map .bool))] (fun r B=>r=.pv (.bN [.i (cZ rs).1,.i (cZ rs).2.1,.bool true])/\B=[(.par 0,.arr 4 1 (rs.map .bool))]):=by
 refine cB [.par 0] L66 ?_;obtain⟨V,hV⟩:∃V,V=cZ rs:=⟨_,rfl⟩;rw[<-hV];generalize hR:(fun(r:AV) (B:List (Site×aJ))=>r=.pv (.bN [.i V.1,.i V.2.1,.bool true])/\B=[(.par 0,.arr 4 1 (rs.map .bool))])=R;have inner:∀(c0:Int) (i k:Nat),k<2*i+2->2*i+2<=rs.length->∃b,(rs.map PV.bool)[k]?=some (.bool b)/\dE (rs.take (k+1))=dE (rs.take k)+(if b=true then 1 else 0):=fun c0 i k h1 h2=>by
  have hk:k<rs.length:=by omega
  exact⟨rs[k],by rw[bY,bC hk];rfl,ZiW (bC hk)⟩
 have jR:=fun k=>ZrX (rs.take k)
 have k1:IntKind.i64.wrap 1=1:=rfl;have k2:IntKind.i64.wrap 2=2:=rfl;have k4:IntKind.i64.wrap 4=4:=rfl;simp[L66,eH];refine eP (fun m τ=>∃i:Nat,((i=0/\m=1)\/(i=1/\m=0/\¬rs.length<2/\eG (dE (rs.take 2)) 0 2=3))/\τ=pO p rs (dE (rs.take (2*i))) i) ⟨1,pO p rs 0 0,Sub.mk (by simp[pO,dE]) (by simp[pO]),0,.inl ⟨rfl,rfl⟩,rfl⟩ ?_;rintro J hJ m τ ⟨i,hi,rfl⟩;rcases hi with⟨rfl,rfl⟩|⟨rfl,rfl,h2,hs⟩
 .by_cases h2:rs.length<2
  .have uK:(rs.length:Int)<2:=by omega
   have w1:IntKind.i64.wrap (2-(rs.length:Int))=2-(rs.length:Int):=wrap64 (by omega);rw[ZuI h2]at hV;subst hV;simp[pO,dX,h2,uK,w1,k1,k2,k4];rw[<-hR];exact⟨by simp,by simp⟩
  have uK:¬(rs.length:Int)<2:=by omega
  simp[pO,dX,h2,uK,k1,k2,k4];refine eP (fun m τ=>∃k:Nat,k<=2/\m=2-k/\τ=tX p rs (dE (rs.take k)) 0 k) ⟨2,tX p rs 0 0 0,Sub.mk (by simp[tX,pO,dE]) (by simp[tX,pO,dX]),0,gW _,rfl,rfl⟩ ?_;rintro J2 sR m τ ⟨k,hk,rfl,rfl⟩;by_cases aI:k<2
  .obtain⟨b,hg,oB⟩:=inner 0 0 k (by omega) (by omega);have hw:=bK (k:=k) (by omega);have jF:(k:Int)<2:=by omega
   have xO:k<rs.length:=by omega
   have aB:=sR _ _ ⟨k+1,aI,rfl,rfl⟩;have aH:2-(k+1)<2-k:=by omega
   obtain⟨b1,b2⟩:=jR k;rw[gM]at b2;rw[oB]at aB;clear sR oB;generalize dE (rs.take k)=c at *;have wc:IntKind.i64.wrap (c+1)=c+1:=wrap64 (by omega);cases b with
   |true=>
    simp[-getElem?_pos,-List.getElem?_map,tX,pO,dX,aI,jF,xO,hg,hw,wc,k1,k2,k4,bV,aN];exact⟨_,_,aH,Sub.mk (by simp[tX,pO]) (by simp[tX,pO,dX]),aB⟩
   |false=>
    rw[if_neg (by decide),Int.add_zero]at aB;simp[-getElem?_pos,-List.getElem?_map,tX,pO,dX,aI,jF,xO,hg,hw,wc,k1,k2,k4,bV,aN];exact⟨_,_,aH,Sub.mk (by simp[tX,pO]) (by simp[tX,pO,dX]),aB⟩
  have sP:k=2:=by omega
  subst sP;clear sR aI hk;by_cases hs:eG (dE (rs.take 2)) 0 2=3
  .have aB:=hJ _ _ ⟨1,.inr ⟨rfl,rfl,h2,hs⟩,rfl⟩;have c1:dE (rs.take 2)=1:=by
    unfold eG at hs;split at hs
    .cases hs
    .split at hs
     .cases hs
     .omega
   rw[c1]at aB ⊢;simp[tX,pO,dX,k1,k2,k4];exact⟨_,_,by decide,Sub.mk (by simp[pO]) (by simp[pO,dX]),aB⟩
  .obtain⟨rJ,hp⟩:=ZuH h2 he hs;rw[hp]at hV;subst hV;clear hJ;unfold eG at *;by_cases c1:dE (rs.take 2)<=0
   .rw[if_pos c1]at hR;simp[tX,pO,dX,c1,rJ,k1,k2,k4];rw[<-hR];exact⟨by simp,by simp⟩
   .rw[if_neg c1]at hs hR;by_cases c2:2<=dE (rs.take 2)
    .rw[if_pos c2]at hR;simp[tX,pO,dX,c1,c2,rJ,k1,k2,k4];rw[<-hR];exact⟨by simp,by simp⟩
    .rw[if_neg c2]at hs;exact absurd rfl hs
 .have c1:dE (rs.take 2)=1:=by
   unfold eG at hs;split at hs
   .cases hs
   .split at hs
    .cases hs
    .have:=jR 2;omega
  clear hJ;by_cases SU:rs.length<4
  .have h5:(rs.length:Int)<4:=by omega
   have w1:IntKind.i64.wrap (4-(rs.length:Int))=4-(rs.length:Int):=wrap64 (by omega);rw[ZuG h2 hs SU]at hV;subst hV;simp[pO,dX,SU,h5,w1,k1,k2,k4];rw[<-hR];exact⟨by simp,by simp⟩
  have Uw:rs.length=4:=by omega
  have h5:¬(rs.length:Int)<4:=by omega
  rw[ZuF hs Uw]at hV;subst hV;simp[pO,dX,SU,h5,k1,k2,k4];refine eP (fun m τ=>∃k:Nat,2<=k/\k<=4/\m=4-k/\τ=tX p rs (dE (rs.take k)) 1 k) ⟨2,tX p rs (dE (rs.take 2)) 1 2,Sub.mk (by simp[tX,pO]) (by simp[tX,pO,dX]),2,by decide,by decide,rfl,rfl⟩ ?_;rintro J2 sR m τ ⟨k,RH,hk,rfl,rfl⟩;by_cases aI:k<4
  .obtain⟨b,hg,oB⟩:=inner 0 1 k (by omega) (by omega);have hw:=bK (k:=k) (by omega);have jF:(k:Int)<4:=by omega
   have xO:k<rs.length:=by omega
   have aB:=sR _ _ ⟨k+1,by omega,aI,rfl,rfl⟩;have aH:4-(k+1)<4-k:=by omega
   obtain⟨b1,b2⟩:=jR k;rw[gM]at b2;rw[oB]at aB;clear sR oB;generalize dE (rs.take k)=c at *;have wc:IntKind.i64.wrap (c+1)=c+1:=wrap64 (by omega);cases b with
   |true=>
    simp[-getElem?_pos,-List.getElem?_map,tX,pO,dX,aI,jF,xO,hg,hw,wc,k1,k2,k4,bV,aN];exact⟨_,_,aH,Sub.mk (by simp[tX,pO]) (by simp[tX,pO,dX]),aB⟩
   |false=>
    rw[if_neg (by decide),Int.add_zero]at aB;simp[-getElem?_pos,-List.getElem?_map,tX,pO,dX,aI,jF,xO,hg,hw,wc,k1,k2,k4,bV,aN];exact⟨_,_,aH,Sub.mk (by simp[tX,pO]) (by simp[tX,pO,dX]),aB⟩
  have hk4:k=4:=by omega
  subst hk4;clear sR aI hk;unfold eG at hR;generalize dE (rs.take 4)=C at *;by_cases c3:C<=1
  .rw[if_pos c3]at hR;simp[tX,pO,dX,c3,Uw,k1,k2,k4];rw[<-hR];exact⟨by simp,by simp⟩
  .have c4:2<=C:=by omega
   rw[if_neg c3,if_pos c4]at hR;simp[tX,pO,dX,c3,c4,Uw,k1,k2,k4];rw[<-hR];exact⟨by simp,by simp⟩
attribute [local irreducible] Bk.rD eL Bk.contra Bk.held Bk.span Bk.nums Bk.iL Bk.qM stM nB
def LU (k:Nat)(rs:List Bool):List (Nat×AV):=[(2,.ptr (.loc 2 0) 0),(3,.ptr (.loc 3 0) 0),(6,.vec (.loc 49 0) 1 0 rs.length),(7,.pv (.i (k:Int)))]
def LS (w:Wk)(x:Lt)(rs:List Bool):List (Site×aJ):=[(.loc 49 0,.arr 4 1 (rs.map .bool)),(.loc 3 0,.cells [.pv (.i x.num),.pv (.i x.pieces),.pv (.i x.limit),.pv (.bool x.passed)]),(.loc 2 0,.cells w.cells)]
def LV (w:Wk)(x:Lt)(rs:List Bool)(k:Nat):AS:=⟨LU k rs,LS w x rs⟩
theorem Ms {n:Nat}(w:Wk)(hI:sI n w)(hn:n<=100)(hc:(eO w.aA w.bad).contra=false)(x:Lt):
  aC prog 29 [w.pv,x.pv] (.bN [.i (qS (stM w.aA w.bad) (nB w.aA w.bad x.limit) x.num w.aG []).1,.i ((qS (stM w.aA w.bad) (nB w.aA w.bad x.limit) x.num w.aG []).2:Nat)]):=by
 have gP:=hI.c;have wM:=hI.b;have oQ:=hI.t;obtain⟨V,hV⟩:∃V,V=qS (stM w.aA w.bad) (nB w.aA w.bad x.limit) x.num w.aG []:=⟨_,rfl⟩;rw[<-hV];refine O1 L29 ?_;intro R hR;simp[L29,Wk.pv,Lt.pv,aK,bJ,aV,bI,dV];refine eP (fun m τ=>∃(k:Nat) (rs:List Bool),k<=w.aG.length/\m=w.aG.length-k/\lH rs/\τ=LV w x rs k/\qS (stM w.aA w.bad) (nB w.aA w.bad x.limit) x.num (w.aG.drop k) rs=V)
  ⟨w.aG.length,LV w x [] 0,Sub.trans' (Sub.mk (by simp[LU,AS.cW]) (by simp[LS,AS.cW,Wk.cells])) (cW 49 4 1 6 rfl (by decide)),0,[],gW _,rfl,Zhv,rfl,hV.symm⟩ ?_
 rintro J hJ m τ ⟨k,rs,hk,rfl,ho,rfl,hv⟩;by_cases aI:k<w.aG.length
 .obtain⟨t,hx⟩:∃t,w.aG[k]?=some t:=⟨w.aG[k],bC aI⟩;have gU:t∈w.aG:=dL hx;have hg:(w.aG.map Tt.pv)[k]?=some (.agg [.i t.fU,.i t.item,.i t.day,.i t.rd]):=by rw[bY,hx];rfl
  obtain⟨q1,q2,q3,q4,_⟩:=hI.tt t gU;rw[ZjQ hx,ZhF]at hv;have hw:=bK (k:=k) (by omega);have aH:w.aG.length-(k+1)<w.aG.length-k:=by omega
  have eK:∀yC,lH yC->qS (stM w.aA w.bad) (nB w.aA w.bad x.limit) x.num (w.aG.drop (k+1)) yC=V->J (w.aG.length-(k+1)) (LV w x yC (k+1)):=fun yC h1 h2=>hJ _ _ ⟨k+1,yC,aI,rfl,h1,rfl,h2⟩
  clear hJ;have jE:w.pv=.agg [.aF false 7 (w.aA.map Ct.pv),.aF false 1 (w.bad.map iP),.aF false 4 (w.aM.map Lt.pv),.aF false 4 (w.aG.map Tt.pv),.aF false 3 (w.runs.map Qn.Rq.pv)]:=rfl;have wG:=Zfr w hI.bk (by omega) (by omega) t.fU t.item t.day t.rd (by omega) q2 q3 q4;rw[jE]at wG;by_cases lD:t.fU=x.num
  case neg=>
   rw[if_neg (by rintro⟨h,_⟩;exact lD h)]at hv;have hn:=eK rs ho hv;simp[LV,LU,LS,Wk.cells,aI,↓hg,aN,lD,hw];exact⟨_,_,aH,Sub.mk (by simp[LU]) (by simp[LS,Wk.cells]),hn⟩
  simp[LV,LU,LS,Wk.cells,aI,↓hg,aN,lD];rw[lD]at wG;refine cG [_,_] wG ?_;cases hs:stM w.aA w.bad t.item t.day with
  |false=>
   rw[if_neg (by rintro⟨_,h⟩;rw[hs]at h;cases h)]at hv;have hn:=eK rs ho hv;simp[hw];exact⟨_,_,aH,Sub.mk (by simp[LU,LV]) (by simp[LV,LS,Wk.cells]),hn⟩
  |true=>
   rw[if_pos ⟨lD,hs⟩]at hv;have AM:=ZsU w hI.bk (by omega) (by omega) t x.limit (by omega) q2 q3 q4 hs hc (hI.fit t gU);rw[jE,lD]at AM;obtain⟨bS,e1⟩:=(⟨ho.step,rfl⟩:(∀b,(cZ (rs++[b])).2.2=0/\((cZ (rs++[b])).1=3->lH (rs++[b])))/\0=0);clear e1;have SU:=ho.len;have h16:rs.length<=999999:=by omega
   have h17:rs.length+1<=1000000:=by omega
   simp[↓hg,aN];rw[lD];refine cG [_,_,_] AM ?_;generalize nB w.aA w.bad x.limit t=b0 at *;have JF:∃b,b=!b0:=⟨_,rfl⟩;obtain⟨b,hb⟩:=JF;rw[<-hb]at hv;have jX:List.take (rs.length+1) (rs.map PV.bool++[PV.bool b])=(rs++[b]).map PV.bool:=by
    rw[fQ (by simp),mL];rfl
   simp[aN,h17,<-hb]
   try rw[jX]
   refine .inl<|cQ [] [_] (ZsP x.pieces) ?_;simp[aL];have mJ:=ZsO x.pieces (rs++[b]) (by rw[gF];simp;omega) (bS b).1;refine xU (gG:=[.pv (eH x.pieces),.vec (.par 0) 1 0 (rs++[b]).length]) (B:=[(.par 0,.arr 4 1 ((rs++[b]).map .bool))]) (fs:=[]) (cs:=[]) 55 [.loc 49 0] rfl rfl rfl ?_ ?_ ?_ mJ ?_
   .first|rfl|simp
   .first|rfl|simp
   .first|rfl|simp
   rintro r0 B0 ⟨rfl,rfl⟩;refine⟨rfl,by simp,?_⟩;obtain⟨FQ,rI⟩:=bS b;have hn:=eK (rs++[b]);have zS:(rs++[b]).length=rs.length+1:=by rw[gF];rfl
   generalize cZ (rs++[b])=pm at hv FQ rI ⊢;obtain⟨v,mo,er⟩:=pm;dsimp only at FQ rI hv;by_cases h3:v=3
   .subst h3;rw[if_pos rfl]at hv;have hn:=hn (rI rfl) hv;simp[hw];exact⟨_,_,aH,Sub.mk (by simp[LU]) (by simp[LS,Wk.cells]),hn⟩
   .rw[if_neg h3]at hv;simp[h3];rw[<-hR,<-hv,zS];exact⟨rfl,by simp⟩
 have he:k=w.aG.length:=by omega
 subst he;rw[List.drop_length,Ztn]at hv;clear hJ;simp[LV,LU,LS,Wk.cells];rw[<-hR,<-hv];exact⟨rfl,rfl⟩
end
def sX (w:Wk)(r:Except Int Wk):PV:=match r with
 |.ok u=>.bN [u.pv,.i 0]
 |.error e=>.bN [w.pv,.i e]
theorem Zn {l:List Int}{n:Int}{i:Nat}(hs:l.Pairwise (·<·))(hi:i<=l.length)(h1:∀(k:Nat) (y:Int),k<i->l[k]?=some y->y<n)(h2:∀y,l[i]?=some y->n<=y):dJ l n=i:=by
 refine Cut.is ⟨fH _,hi,h1,fun k y hk hy=>?_⟩;obtain⟨l1,e1⟩:=cD.1 hy;have yR:i<l.length:=by omega
 have h3:=h2 l[i] (bC yR);by_cases he:i=k
 .subst he;rw[e1]at h3;exact h3
 .have:=R3.1 hs i k yR l1 (by omega)
  omega
def Li (w:Wk)(n:Int)(k:Nat):AS:=⟨[(1,.pv (.i n)),(2,.ptr (.loc 2 0) 0),(4,.ptr (.loc 4 0) 0),(6,.ptr (.loc 6 0) 0),(7,.pv (.i (k:Int)))],
 [(.loc 44 0,.arr 3 1 ((w.bad.take k).map iP)),(.loc 6 0,.cells [.pv (.aF false 7 (w.aA.map Ct.pv)),.vec (.loc 44 0) 1 0 k,.pv (.aF false 4 (w.aM.map Lt.pv)),.pv (.aF false 4 (w.aG.map Tt.pv)),.pv (.aF false 3 (w.runs.map Qn.Rq.pv))]),(.loc 2 0,.cells w.cells),(.loc 4 0,.cells [.pv (.emp (some true)),.pv (.emp (some true)),.pv (.emp (some true)),.pv (.emp (some true)),.pv (.emp (some true))])]⟩
theorem ZuD {q:Nat}(w:Wk)(hI:sI q w)(hq:q<=100)(n:Int):aC prog 108 [w.pv,.i n] (sX w ((pW w.aA w.bad n).map fun l=>{ w with bad:=l })):=by
 have gP:=hI.c;have wM:=hI.b;have N4:=ZkG w (by omega) n;have NF:aC prog 70 [.aF false 1 (w.bad.map iP),.i n] (.bool (decide (n∈w.bad))):=by
  have h:=wO w.bad n (by omega);have e:w.bad.contains n=decide (n∈w.bad):=by
   rw[rB,jI,decide_eq_true_eq]
  rw[e]at h;exact h
 have jE:w.pv=.agg [.aF false 7 (w.aA.map Ct.pv),.aF false 1 (w.bad.map iP),.aF false 4 (w.aM.map Lt.pv),.aF false 4 (w.aG.map Tt.pv),.aF false 3 (w.runs.map Qn.Rq.pv)]:=rfl;refine cF [.loc 61 0] L108 ?_;obtain⟨V,hV⟩:∃V,V=sX w ((pW w.aA w.bad n).map fun l=>{ w with bad:=l }):=⟨_,rfl⟩;rw[<-hV];generalize hR:(fun(r:AV) (B:List (Site×aJ))=>r=.pv V/\B=[])=R;rw[jE]at N4 ⊢;simp[L108];refine cG [_,_] N4 ?_;cases mC:kn w n with
 |false=>
  have hv:V=.bN [w.pv,.i 7]:=by
   rw[hV];unfold pW;rw[if_neg (by unfold kn at mC;rw[mC];decide)];rfl
  subst hv;simp;rw[<-hR];exact⟨by simp[jE],by simp⟩
 |true=>
 simp;refine cG [_,_] NF ?_;by_cases hb:n∈w.bad
 .have hv:V=.bN [w.pv,.i 6]:=by
   rw[hV];unfold pW;rw[if_pos (by unfold kn at mC;exact mC),if_pos hb];rfl
  subst hv;simp[hb];rw[<-hR];exact⟨by simp[jE],by simp⟩
 have hv:V=.bN [.agg [.aF false 7 (w.aA.map Ct.pv),.aF false 1 ((w.bad.take (dJ w.bad n)++n::w.bad.drop (dJ w.bad n)).map iP),.aF false 4 (w.aM.map Lt.pv),.aF false 4 (w.aG.map Tt.pv),.aF false 3 (w.runs.map Qn.Rq.pv)],.i 0]:=by
  rw[hV];unfold pW;rw[if_pos (by unfold kn at mC;exact mC),if_neg hb];rfl
 clear hV;simp[hb];refine eP (fun m τ=>∃k:Nat,k<=w.bad.length/\m=w.bad.length-k/\(∀(j:Nat) (y:Int),j<k->w.bad[j]?=some y->y<n)/\τ=Li w n k) ⟨w.bad.length,Li w n 0,Sub.trans' (Sub.mk (by simp[AS.mB]) (by simp[AS.mB,Wk.cells])) (mB 44 3 1 (s:=.loc 6 0) (cs:=[.pv (.aF false 7 (w.aA.map Ct.pv)),.pv (.emp (some true)),.pv (.aF false 4 (w.aM.map Lt.pv)),.pv (.aF false 4 (w.aG.map Tt.pv)),.pv (.aF false 3 (w.runs.map Qn.Rq.pv))]) 1 rfl rfl (by decide)),0,gW _,rfl,(fun j y h=>absurd h (Nat.not_lt_zero j)),rfl⟩ ?_;rintro J hJ m τ ⟨k,hk,rfl,lD,rfl⟩;have AL:¬(k<w.bad.length/\∃y,w.bad[k]?=some y/\y<n)->dJ w.bad n=k:=fun h=>Zn hI.bs hk lD fun y hy=>by
  have xO:=(cD.1 hy).1;by_cases T1:y<n
  .exact absurd ⟨xO,y,hy,T1⟩ h
  .omega
 by_cases qG:k<w.bad.length/\∃y,w.bad[k]?=some y/\y<n
 .obtain⟨aI,y,hy,T1⟩:=qG;have hg:(w.bad.map iP)[k]?=some (.i y):=by rw[bY,hy];rfl
  have hw:=bK (k:=k) (by omega);have aB:=hJ _ _ ⟨k+1,aI,rfl,(fun j z hj hz=>by
   by_cases he:j=k
   .subst he;rw[hy]at hz;cases hz;exact T1
   .exact lD j z (by omega) hz),rfl⟩
  have aH:w.bad.length-(k+1)<w.bad.length-k:=by omega
  have jX:(w.bad.take (k+1)).map iP=(w.bad.take k).map iP++[.i y]:=by rw[mV,hy,mL];rfl
  have oQ:((w.bad.take k).map iP).length=k:=by rw[fZ,gM];omega
  have E7:k+1<=1000000:=by omega
  unfold Li at aB ⊢;rw[jX]at aB;clear hJ;generalize SH:(w.bad.take k).map iP=TL at *;have U7:TL.take k=TL:=fQ (by omega);simp[Wk.cells,aI,↓hg,T1,aN,hw,E7,oQ];exact⟨_,_,aH,Sub.mk (by simp) (by simp[Wk.cells]),aB⟩
 have wL:=AL qG;clear hJ AL;rw[wL]at hv;have oQ:((w.bad.take k).map iP).length=k:=by rw[fZ,gM];omega
 have DM:(w.bad.take k++n::w.bad.drop k).map iP=(w.bad.take k).map iP++[.i n]++(w.bad.map iP).drop k:=by
  rw[mL,iS,List.map_drop,I3];rfl
 rw[DM]at hv;subst hv;have E7:k+1<=1000000:=by omega
 have qD:IntKind.i64.wrap (k:Int)=(k:Int):=wrap64 (by omega);have Z3:(w.bad.map iP).take w.bad.length=w.bad.map iP:=fQ (by simp);have nL:((w.bad.map iP).drop k).length=w.bad.length-k:=by rw[uQ,fZ]
 have WE:k+1+(w.bad.length-k)<=1000000:=by omega
 unfold Li;generalize SH:(w.bad.take k).map iP=TL at *;have U7:TL.take k=TL:=fQ (by omega);have hT3:(TL++[PV.i n]).take (k+1)=TL++[PV.i n]:=fQ (by rw[gF];simp;omega);have Dj:k+1+(w.bad.length-k)<=k+(w.bad.length-k+1):=by omega
 have SI:(TL++PV.i n::(w.bad.map iP).drop k).take (k+1+(w.bad.length-k))=TL++PV.i n::(w.bad.map iP).drop k:=fQ (by rw[gF,pI,oQ,nL];omega);by_cases aI:k<w.bad.length
 .obtain⟨y,hy⟩:∃y,w.bad[k]?=some y:=⟨w.bad[k],bC aI⟩;have hg:(w.bad.map iP)[k]?=some (.i y):=by rw[bY,hy];rfl
  have T1:¬y<n:=fun h=>qG ⟨aI,y,hy,h⟩
  simp[-List.map_drop,Wk.cells,aI,↓hg,T1,aN,E7,WE,oQ,qD,nL,hk,Z3,Dj,SI];rw[<-hR];exact⟨by simp[-List.map_drop,I3],by simp⟩
 .simp[-List.map_drop,Wk.cells,aI,aN,E7,WE,oQ,qD,nL,hk,Z3,Dj,SI];rw[<-hR];exact⟨by simp[-List.map_drop,I3],by simp⟩
theorem rR (n lo hi:Int):aC prog 158 [.i n,.i lo,.i hi] (.bool (decide (lo<=n)&&decide (n<=hi))):=by
 refine cS L158 ?_;cases h1:decide (lo<=n)<;>cases h2:decide (n<=hi)<;>simp[-decide_eq_true_eq,-decide_eq_false_iff_not,L158,h1,h2]
theorem e9 {n:Int}:∀{l:List Lt} {k:Nat},(∀x∈l,x.num≠n)/\NZ l n k = -1\/∃i x,l[i]?=some x/\x.num=n/\NZ l n k=((k+i:Nat):Int)
 |[],k=>.inl ⟨(fun x h=>absurd h (List.not_mem_nil)),rfl⟩
 |x::l,k=>by
  unfold NZ;by_cases h:x.num=n
  .rw[if_pos h];exact .inr ⟨0,x,rfl,h,rfl⟩
  .rw[if_neg h];rcases e9 (n:=n) (l:=l) (k:=k+1)with⟨h1,h2⟩|⟨i,y,h1,h2,h3⟩
   .exact .inl ⟨fun y hy=>(jT.1 hy).elim (fun e=>e▸h) (h1 y),h2⟩
   .exact .inr ⟨i+1,y,h1,h2,by rw[h3];congr 1;omega⟩
def Jz (w:Wk)(a b c:Int)(k:Nat):AS:=⟨[(1,.pv (.aF false 1 [.i a,.i b,.i c])),(2,.ptr (.loc 2 0) 0),(4,.ptr (.loc 4 0) 0),(6,.ptr (.loc 6 0) 0),(7,.pv (.i (k:Int)))],
 [(.loc 64 0,.arr 86 4 ((w.aM.take k).map Lt.pv)),(.loc 6 0,.cells [.pv (.aF false 7 (w.aA.map Ct.pv)),.pv (.aF false 1 (w.bad.map iP)),.vec (.loc 64 0) 4 0 k,.pv (.aF false 4 (w.aG.map Tt.pv)),.pv (.aF false 3 (w.runs.map Qn.Rq.pv))]),(.loc 2 0,.cells w.cells),(.loc 4 0,.cells [.pv (.emp (some true)),.pv (.emp (some true)),.pv (.emp (some true)),.pv (.emp (some true)),.pv (.emp (some true))])]⟩
theorem Znd {q:Nat}(w:Wk)(hI:sI q w)(hq:q<=100)(a b c:Int):aC prog 109 [w.pv,.aF false 1 [.i a,.i b,.i c]] (sX w ((pR w.aM ⟨a,b,c,false⟩).map fun l=>{ w with aM:=l })):=by
 have zS:=hI.l;have F0:=Zjl w (by omega) a;have i1:=rR a 1 99;have i2:=rR b 4 30;have i3:=rR c 0 1000;have jE:w.pv=.agg [.aF false 7 (w.aA.map Ct.pv),.aF false 1 (w.bad.map iP),.aF false 4 (w.aM.map Lt.pv),.aF false 4 (w.aG.map Tt.pv),.aF false 3 (w.runs.map Qn.Rq.pv)]:=rfl;refine cF [.loc 90 0] L109 ?_;obtain⟨V,hV⟩:∃V,V=sX w ((pR w.aM ⟨a,b,c,false⟩).map fun l=>{ w with aM:=l }):=⟨_,rfl⟩;rw[<-hV];generalize hR:(fun(r:AV) (B:List (Site×aJ))=>r=.pv V/\B=[])=R;have gE:¬((decide (1<=a)&&decide (a<=99))=true/\(decide (4<=b)&&decide (b<=30))=true/\(decide (0<=c)&&decide (c<=1000))=true)->V=.bN [w.pv,.i 2]:=fun h=>by
  rw[hV];unfold pR;rw[if_neg h];rfl
 rw[jE]at F0 gE ⊢;simp[L109];refine cG [_,_,_] i1 ?_;generalize tO:(decide (1<=a)&&decide (a<=99))=d1 at *;cases d1
 .have hv:=gE (by simp);subst hv;simp;rw[<-hR];exact⟨by simp,by simp⟩
 simp;refine cG [_,_,_] i2 ?_;generalize uZ:(decide (4<=b)&&decide (b<=30))=d2 at *;cases d2
 .have hv:=gE (by simp);subst hv;simp;rw[<-hR];exact⟨by simp,by simp⟩
 simp;refine cG [_,_,_] i3 ?_;generalize U5:(decide (0<=c)&&decide (c<=1000))=d3 at *;cases d3
 .have hv:=gE (by simp);subst hv;simp;rw[<-hR];exact⟨by simp,by simp⟩
 clear gE;have hlm:pR w.aM ⟨a,b,c,false⟩=if a∈w.aM.map Lt.num then .error 6 else .ok (w.aM.take (dJ (w.aM.map Lt.num) a)++⟨a,b,c,false⟩::w.aM.drop (dJ (w.aM.map Lt.num) a)):=by
  unfold pR;rw[if_pos ⟨tO,uZ,U5⟩]
 rw[hlm]at hV;simp;refine cG [_,_] F0 ?_;rcases e9 (n:=a) (l:=w.aM) (k:=0)with⟨mP,hf⟩|⟨i,x,hx,VQ,hf⟩
 case inr=>
  have hv:V=.bN [w.pv,.i 6]:=by
   rw[hV,if_pos (iN.2 ⟨x,dL hx,VQ⟩)];rfl
  rw[jE]at hv;subst hv;have h0:(0:Int)<=((0+i:Nat):Int):=Int.natCast_nonneg _;simp[-Int.natCast_add,hf];rw[<-hR];exact⟨by simp,by simp⟩
 have Cg:a∉w.aM.map Lt.num:=fun h=>by
  obtain⟨x,h1,h2⟩:=iN.1 h;exact mP x h1 h2
 rw[if_neg Cg]at hV;have hv:V=.bN [.agg [.aF false 7 (w.aA.map Ct.pv),.aF false 1 (w.bad.map iP),.aF false 4 ((w.aM.take (dJ (w.aM.map Lt.num) a)++⟨a,b,c,false⟩::w.aM.drop (dJ (w.aM.map Lt.num) a)).map Lt.pv),.aF false 4 (w.aG.map Tt.pv),.aF false 3 (w.runs.map Qn.Rq.pv)],.i 0]:=hV;clear hV hlm;simp[hf];refine eP (fun m τ=>∃k:Nat,k<=w.aM.length/\m=w.aM.length-k/\(∀(j:Nat) (y:Lt),j<k->w.aM[j]?=some y->y.num<a)/\τ=Jz w a b c k) ⟨w.aM.length,Jz w a b c 0,Sub.trans' (Sub.mk (by simp[AS.mB]) (by simp[AS.mB,Wk.cells])) (mB 64 86 4 (s:=.loc 6 0) (cs:=[.pv (.aF false 7 (w.aA.map Ct.pv)),.pv (.aF false 1 (w.bad.map iP)),.pv (.emp (some true)),.pv (.aF false 4 (w.aG.map Tt.pv)),.pv (.aF false 3 (w.runs.map Qn.Rq.pv))]) 2 rfl rfl (by decide)),0,gW _,rfl,(fun j y h=>absurd h (Nat.not_lt_zero j)),rfl⟩ ?_;rintro J hJ m τ ⟨k,hk,rfl,lD,rfl⟩;have AL:¬(k<w.aM.length/\∃y,w.aM[k]?=some y/\y.num<a)->dJ (w.aM.map Lt.num) a=k:=fun h=>Zn hI.s (by rw[fZ];exact hk) (fun j z hj hz=>by
   rw[bY]at hz;obtain⟨y,hy,rfl⟩:=eB.1 hz;exact lD j y hj hy) fun z hz=>by
  rw[bY]at hz;obtain⟨y,hy,rfl⟩:=eB.1 hz;have xO:=(cD.1 hy).1;by_cases T1:y.num<a
  .exact absurd ⟨xO,y,hy,T1⟩ h
  .omega
 by_cases qG:k<w.aM.length/\∃y,w.aM[k]?=some y/\y.num<a
 .obtain⟨aI,y,hy,T1⟩:=qG;have hg:(w.aM.map Lt.pv)[k]?=some (.agg [.i y.num,.i y.pieces,.i y.limit,.bool y.passed]):=by rw[bY,hy];rfl
  have hw:=bK (k:=k) (by omega);have aB:=hJ _ _ ⟨k+1,aI,rfl,(fun j z hj hz=>by
   by_cases he:j=k
   .subst he;rw[hy]at hz;cases hz;exact T1
   .exact lD j z (by omega) hz),rfl⟩
  have aH:w.aM.length-(k+1)<w.aM.length-k:=by omega
  have jX:(w.aM.take (k+1)).map Lt.pv=(w.aM.take k).map Lt.pv++[.agg [.i y.num,.i y.pieces,.i y.limit,.bool y.passed]]:=by rw[mV,hy,mL];rfl
  have oQ:((w.aM.take k).map Lt.pv).length=k:=by rw[fZ,gM];omega
  have E7:k+1<=1000000:=by omega
  unfold Jz at aB ⊢;rw[jX]at aB;clear hJ;generalize SH:(w.aM.take k).map Lt.pv=TL at *;have U7:TL.take k=TL:=fQ (by omega);simp[Wk.cells,aI,↓hg,T1,aN,hw,E7,oQ];exact⟨_,_,aH,Sub.mk (by simp) (by simp[Wk.cells]),aB⟩
 have wL:=AL qG;clear hJ AL;rw[wL]at hv;have oQ:((w.aM.take k).map Lt.pv).length=k:=by rw[fZ,gM];omega
 have DM:(w.aM.take k++⟨a,b,c,false⟩::w.aM.drop k).map Lt.pv=(w.aM.take k).map Lt.pv++[.agg [.i a,.i b,.i c,.bool false]]++(w.aM.map Lt.pv).drop k:=by
  rw[mL,iS,List.map_drop,I3];rfl
 rw[DM]at hv;subst hv;have E7:k+1<=1000000:=by omega
 have qD:IntKind.i64.wrap (k:Int)=(k:Int):=wrap64 (by omega);have Z3:(w.aM.map Lt.pv).take w.aM.length=w.aM.map Lt.pv:=fQ (by simp);have nL:((w.aM.map Lt.pv).drop k).length=w.aM.length-k:=by rw[uQ,fZ]
 have WE:k+1+(w.aM.length-k)<=1000000:=by omega
 unfold Jz;generalize SH:(w.aM.take k).map Lt.pv=TL at *;have U7:TL.take k=TL:=fQ (by omega);have hT3:(TL++[PV.agg [.i a,.i b,.i c,.bool false]]).take (k+1)=TL++[PV.agg [.i a,.i b,.i c,.bool false]]:=fQ (by rw[gF];simp;omega);have Dj:k+1+(w.aM.length-k)<=k+(w.aM.length-k+1):=by omega
 have SI:(TL++PV.agg [.i a,.i b,.i c,.bool false]::(w.aM.map Lt.pv).drop k).take (k+1+(w.aM.length-k))=TL++PV.agg [.i a,.i b,.i c,.bool false]::(w.aM.map Lt.pv).drop k:=fQ (by rw[gF,pI,oQ,nL];omega);by_cases aI:k<w.aM.length
 .obtain⟨y,hy⟩:∃y,w.aM[k]?=some y:=⟨w.aM[k],bC aI⟩;have hg:(w.aM.map Lt.pv)[k]?=some (.agg [.i y.num,.i y.pieces,.i y.limit,.bool y.passed]):=by rw[bY,hy];rfl
  have T1:¬y.num<a:=fun h=>qG ⟨aI,y,hy,h⟩
  simp[-List.map_drop,Wk.cells,aI,↓hg,T1,aN,E7,WE,oQ,qD,nL,hk,Z3,Dj,SI];rw[<-hR];exact⟨by simp[-List.map_drop,I3],by simp⟩
 .simp[-List.map_drop,Wk.cells,aI,aN,E7,WE,oQ,qD,nL,hk,Z3,Dj,SI];rw[<-hR];exact⟨by simp[-List.map_drop,I3],by simp⟩
end Go.Proofs.YthmbecacehfgfabGreatDoor
