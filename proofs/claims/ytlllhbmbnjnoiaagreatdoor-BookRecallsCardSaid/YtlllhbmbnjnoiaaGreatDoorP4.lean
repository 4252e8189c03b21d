import Derived.Test.YtlllhbmbnjnoiaaGreatDoorP3
import Derived.Test.YtlllhbmbnjnoiaaGreatDoorP2
import Derived.Test.YtlllhbmbnjnoiaaGreatDoorRows
import Derived.Test.YtlllhbmbnjnoiaaGreatDoorP1
import Derived.WalkKit
import Derived.ProofKit
import Derived.OpenShut
import Derived.Handed
import Derived.Lay
import Derived.MakeChecks
import Derived.LaidLaws
import Derived.Lib.LaidTab
import Derived.Lib.LaidU8
import Derived.Shelf.Vars
import Derived.Lib.AtoiTie
import Derived.Test.YtlllhbmbnjnoiaaGreatDoorP0
import Derived.Test.YtlllhbmbnjnoiaaGreatDoorProg
import Derived.Shelf.Spec.SlicesInsertGrow
import Derived.StillTailTactics
import Derived.Deep.QuietTactic
import Derived.BigQuiet
import Derived.Lib.Builder
import Derived.Shelf.Strings.BuilderX
import Derived.Shelf.RegionOpenPlain
import Derived.Lib.Strings
import Derived.Lib.Walk
import Derived.Lib.AppendStr
import Derived.Lib.AppendZeros
import Derived.Lib.UnsafeStr
import Derived.Laws.Externs
import Derived.Lib.ItoaLen
set_option linter.unusedSimpArgs false
set_option linter.unusedVariables false
set_option maxHeartbeats 32000000
set_option maxRecDepth 100000
namespace Go.Proofs.YtlllhbmbnjnoiaaGreatDoor.Qn
open Go.RowKit
open Go.Proofs.Tryz Go.Proofs.YtlllhbmbnjnoiaaGreatDoor.Tryz
def Qu.I2 (q:Qu)(p:List (List Int)):List (List Int):=p.map (·.take q.ms.length)
def Qu.JG (F:Nat)(q:Qu):PV:=if q.check≠0 then .bL [eD [],.i 0,.i q.check]else match q.DO F with
 |none=>.bL [eD [],.i 0,.i 9]
 |some p=>.bL [eD (q.I2 p),.i p.length,.i 0]
theorem Zlk {m:Mem}{v:Value}{a b:PV}(h:dG m v (.bL [.emp (some true),a,b])):dG m v (.bL [eD [],a,b]):=by
 refine Yb ?_ ?_ h
 .rfl
 intro j c c' d h1 h2 hd
 match j with
 |0=>simp at h1 h2;subst h1 h2;exact AB hd
 |1=>simp at h1 h2;subst h1 h2;exact hd
 |2=>simp at h1 h2;subst h1 h2;exact hd
 |j+3=>simp at h1
theorem wL {F:Nat}(hF:407<F)(q:Qu)(h1:q.ms.length<=1000000)(h2:q.rs.length<=1000000)(h3:∀l∈q.ms,l.length<=1000000):aD prog 45 [q.pv] (q.JG F):=by
 refine cR.U8 ?_;obtain⟨OUT,IF⟩:∃z,z=q.JG F:=⟨_,rfl⟩;rw[<-IF];refine N6 [.loc 38 0] L45 ?_;intro R hR;simp[L45,Qu.pv];refine cG [q.pv] (SR q h1 h2 h3) ?_;by_cases hc:q.check=0
 .have hq:=Qu.Kl hc;have An:=hq.m;have Bc:=ZP hF q hq;have hO:OUT=match q.DO F with
   |none=>.bL [eD [],.i 0,.i 9]
   |some p=>.bL [eD (q.I2 p),.i p.length,.i 0]:=by rw[IF];unfold Qu.JG;rw[if_neg (by simpa using hc)]
  have hPW:∀p,q.DO F=some p->PW q p:=fun p hp=>B9 hq _ _ _ PW.nil (oD (q:=q)) p hp
  clear IF;generalize q.DO F=LAY at *;simp[hc];refine cL [.pv q.pv] [] 17 [] rfl Bc ?_
  intro x B hx;cases LAY with
  |none=>
   obtain⟨rfl,rfl⟩:=hx;refine⟨rfl,by simp,?_⟩;simp;rw[<-hR];refine⟨_,rfl,rfl,fun m v h=>?_⟩;rw[hO];exact Zlk h
  |some p=>
   obtain⟨rfl,rfl⟩:=hx;refine⟨rfl,by simp,?_⟩;have hpw:=hPW p rfl;have lZ:=hpw.l;simp;refine eO (fun n τ=>∃k:Nat,k<=p.length/\n=p.length-k/\τ=⟨[(1,.ptr (.loc 1 0) 0),(2,.vec (.loc 38 0) 1 0 k),(25,.vec (.loc 17 1) 4 0 p.length),(26,.pv (.i p.length)),(27,.pv (.i k))],[(.loc 38 0,.arr 26 1 ((q.I2 p).take k |>.map bR)),(.loc 1 0,.cells q.cells),(.loc 17 1,.arr 180 4 (jP p))]⟩)
    ⟨p.length,⟨[(1,.ptr (.loc 1 0) 0),(2,.vec (.loc 38 0) 1 0 0),(25,.vec (.loc 17 1) 4 0 p.length),(26,.pv (.i p.length)),(27,.pv (.i 0))],[(.loc 38 0,.arr 26 1 []),(.loc 1 0,.cells q.cells),(.loc 17 1,.arr 180 4 (jP p))]⟩,Sub.trans' (Sub.mk (by simp[AS.cI]) (by simp[AS.cI,Qu.cells])) (cI 38 26 1 2 rfl (by decide)),0,gV _,rfl,by simp⟩ ?_
   rintro J hJ n τ ⟨k,hk,rfl,rfl⟩;by_cases aI:k<p.length
   .obtain⟨l,hl⟩:∃l,p[k]?=some l:=⟨p[k],bB aI⟩;have h4:=hpw.f l (dK hl);have hg:(jP p)[k]?=some (.agg (l.map (PV.int .i64))):=by rw[jP,bW,hl];rfl
    have gN:(q.I2 p)[k]?=some (l.take q.ms.length):=by rw[Qu.I2,bW,hl];rfl
    have hw:=jD (k:=k) (by omega);have aG:p.length-(k+1)<p.length-k:=by omega
    have aB:=hJ _ _ ⟨k+1,aI,rfl,rfl⟩;have jS:((q.I2 p).take (k+1)).map bR=((q.I2 p).take k).map bR++[bR (l.take q.ms.length)]:=by rw[NV gN];simp
    have D3:k+1<=1000000:=by omega
    have hk5:k<=999999:=by omega
    have nU:(((q.I2 p).take k).map bR).length=k:=by simp[Qu.I2];omega
    have nV:=ZqN (l.take q.ms.length) (by rw[gJ];omega);have P7:(jP p).length=p.length:=by simp[jP]
    match l,h4 with
    |[a,b,c,d],_=>
    have UQ:(([a,b,c,d]:List Int).map (PV.int .i64)).take q.ms.length=(([a,b,c,d]:List Int).take q.ms.length).map aN:=by rw[<-List.map_take];rfl
    simp only[iL,List.map_nil]at UQ hg;clear hJ hPW Bc;generalize QX:((q.I2 p).take k).map bR=TL at *;generalize hRW:([a,b,c,d]:List Int).take q.ms.length=RW at *;simp[-List.map_take,Qu.cells,aI,↓hg,cV,aP,An,UQ];refine .inl (cP [] [bR RW] rfl ?_ nV ?_)
    .simp[aM,bR]
    simp[-List.map_take,aM,aP,D3,nU,hw,bR];refine⟨_,_,aG,Sub.mk ?_ ?_,aB⟩
    .simp
    .simp[-List.map_take,jS,Qu.cells,bR]
   .have he:k=p.length:=by omega
    subst he;have EM:((q.I2 p).take p.length).map bR=(q.I2 p).map bR:=by rw[fO (by simp[Qu.I2])]
    have nD:((q.I2 p).map bR).take p.length=(q.I2 p).map bR:=fO (by simp[Qu.I2]);have Ul:(q.I2 p).length=p.length:=by simp[Qu.I2]
    simp[-List.map_take,EM,nD,Ul];rw[<-hR];refine⟨_,rfl,rfl,fun m v h=>?_⟩;rw[hO];exact h
 .have hO:OUT=.bL [eD [],.i 0,.i q.check]:=by rw[IF];unfold Qu.JG;rw[if_pos (by simpa using hc)]
  simp[hc];rw[<-hR];refine⟨_,rfl,rfl,fun m v h=>?_⟩;rw[hO];exact Zlk h
end Go.Proofs.YtlllhbmbnjnoiaaGreatDoor.Qn
namespace Go.Proofs.YtlllhbmbnjnoiaaGreatDoor
open Go.RowKit
open Go.Proofs.Tryz Go.Proofs.YtlllhbmbnjnoiaaGreatDoor.Tryz
def uL (rs:List Qn.Rq):Qn.Qu:=⟨[[⟨10,13⟩],[]],rs⟩
def dL (rs:List Qn.Rq):PV:=.aF false 3 (rs.map Qn.Rq.pv)
def eY (F:Nat)(q:Qn.Qu):Int:=if q.check≠0 then q.check else match q.DO F with
 |none=>9
 |some _=>0
theorem Zor (F:Nat)(q:Qn.Qu):∃x y,q.JG F=.bL [x,.i y,.i (eY F q)]:=by
 unfold Qn.Qu.JG eY;split
 .exact⟨_,_,rfl⟩
 .cases q.DO F with
  |none=>exact⟨_,_,rfl⟩
  |some p=>exact⟨_,_,rfl⟩
def pK (h r o:Int):Qn.Rq:=⟨h,r,[!decide (o=2),!decide (o=1)]⟩
def runM (F:Nat)(rs:List Qn.Rq)(h r o:Int):Except Int (List Qn.Rq):=
 if(decide (1<=h)&&decide (h<=40))=true/\(decide (0<=r)&&decide (r<=40))=true/\(decide (1<=o)&&decide (o<=3))=true then
  (if rs.length<6 then(if eY F (uL (rs++[pK h r o]))=0 then .ok (rs++[pK h r o])else .error 9)else .error 3)
 else .error 2
def rnQ (r:Except Int (List Qn.Rq))(ct bd ls ts:PV)(a b c d e:PV):Prop:=∃xT,r=.ok xT/\a=ct/\b=bd/\c=ls/\d=ts/\e=dL xT
theorem YL {F:Nat}(hF:407<F)(rs:List Qn.Rq)(ct bd ls ts:PV)(h r o:Int)(hr:rs.length<=900):
  sZ prog 192 [.ptr (.par 0) 0,.pv (.aF false 1 [iP h,iP r,iP o])] [(.par 0,aO ct bd ls ts (dL rs))] (xW (rnQ (runM F rs h r o) ct bd ls ts)) (uR (fun e=>runM F rs h r o=.error e)):=by
 have w1:=JT h 1 40;have w2:=JT r 0 40;have w3:=JT o 1 3;refine cX L192 ?_;generalize hE:(fun e=>runM F rs h r o=.error e)=E;generalize hQ:rnQ (runM F rs h r o) ct bd ls ts=Q;unfold runM at hE hQ;generalize(decide (1<=h)&&decide (h<=40))=c1 at w1 hE hQ;generalize(decide (0<=r)&&decide (r<=40))=c2 at w2 hE hQ;generalize(decide (1<=o)&&decide (o<=3))=c3 at w3 hE hQ;show fM _ (.seq _ (.seq _ (.seq _ _))) _ _ _;by_cases hc:¬(c1=true/\c2=true/\c3=true)
 .have y1:E 2:=by rw[<-hE,if_neg hc]
  refine wX [_,_,_,_,_,_,_,_,_,_,_,_,_,_,_,_] ?_;simp[hold,iP];refine cG [.i h,.i 1,.i 40] w1 ?_;cases c1 with
  |false=>
   simp[hold];exact pF 2 y1
  |true=>
  simp[hold];refine cG [.i r,.i 0,.i 40] w2 ?_;cases c2 with
  |false=>
   simp[hold];exact pF 2 y1
  |true=>
  simp[hold];refine cG [.i o,.i 1,.i 3] w3 ?_;cases c3 with
  |false=>
   simp;exact pF 2 y1
  |true=>exact absurd ⟨rfl,rfl,rfl⟩ hc
 have hc:=Decidable.not_not.1 hc;rw[if_pos hc]at hE hQ;obtain⟨rfl,rfl,rfl⟩:=hc;refine mH ?_;simp[hold,iP];refine cG [.i h,.i 1,.i 40] w1 ?_;simp[hold];refine cG [.i r,.i 0,.i 40] w2 ?_;simp[hold];refine cG [.i o,.i 1,.i 3] w3 ?_;simp;refine cG [.bool true,.i 2] (gM 2) ?_;simp[hold];by_cases h6:¬rs.length<6
 .rw[if_neg h6]at hE;have Vh:E 3:=by rw[<-hE]
  have Vp:¬(rs.length:Int)<6:=by omega
  refine wX [_,_,_,_,_,_,_] ?_;simp[hold,aO,dL,Vp];exact pF 3 Vh
 have h6:=Decidable.not_not.1 h6;rw[if_pos h6]at hE hQ;have Vp:(rs.length:Int)<6:=by omega
 refine mH ?_;simp[hold,aO,dL,Vp];refine cG [.bool true,.i 3] (gM 3) ?_;simp;refine mH ?_;simp[hold,setAt,aP];have EI:=ZoK (rs.map Qn.Rq.pv) h r [.bool (!decide (o=2)),.bool (!decide (o=1))] (.aF false 1 [.bool (!decide (o=2)),.bool (!decide (o=1))]) rfl (by rw[fV];omega);refine .inl (cP [.loc 52 0] [.aF false 3 (rs.map Qn.Rq.pv),.agg [.i h,.i r,.aF false 1 [.bool (!decide (o=2)),.bool (!decide (o=1))]]] (by simp) (by simp[AS.cD,AV.cD,AV.aY,aJ.cD]) EI ?_);have G9:rs.map Qn.Rq.pv++[.agg [.i h,.i r,.aF false 1 [.bool (!decide (o=2)),.bool (!decide (o=1))]]]=(rs++[pK h r o]).map Qn.Rq.pv:=by rw[mF];rfl
 rw[G9];have RA:(rs++[pK h r o]).length<=7:=by rw[gD];simp;omega
 generalize rs++[pK h r o]=L at hE hQ RA ⊢;clear G9 EI;simp[AS.cD,AV.cD,AV.aY,aJ.cD,AS.tidy];have US:=Znp (L.map Qn.Rq.pv) ct bd ls ts;have VE:=Qn.wL hF (uL L) (show(2:Nat)<=1000000 by decide) (show L.length<=1000000 by omega) (fun l hl=>by
  simp[uL]at hl;rcases hl with rfl|rfl<;>decide)
 obtain⟨ex,ey,Bz⟩:=Zor F (uL L);rw[Bz]at VE;generalize eY F (uL L)=er at hE hQ VE;clear Bz;refine mH ?_;simp[hold];refine cM [.ptr (.par 0) 0] [(.par 0,aO ct bd ls ts (.aF false 3 (L.map Qn.Rq.pv)))] 60 [.par 0] (by simp[aO]) US (by simp[aO]) ?_;simp[aO];refine .inl (cQ [] [(uL L).pv] VE ?_);simp;by_cases h0:¬er=0
 .rw[if_neg h0]at hE;have Vg:E 9:=by rw[<-hE]
  refine Gc [_,_] ?_;simp[hold,h0];exact pF 9 Vg
 have h0:=Decidable.not_not.1 h0;rw[if_pos h0]at hQ;refine FR ?_;simp[hold,h0];refine cG [.bool true,.i 9] (gM 9) ?_;simp[hold];refine j3 (a:=ct) (b:=bd) (c:=ls) (d:=ts) (e:=dL L) [] ?_ ?_
 .simp[aY,aO,dL]
 .rw[<-hQ];exact⟨_,rfl,rfl,rfl,rfl,rfl,rfl⟩
theorem Zua (l:List PV)(g:FuncId)(fs cs:List PV)(q:PV->Bool)(hq:∀x∈l,aD prog g (fs++[x]++cs) (.bool (q x)))(hl:l.length<=1000000)(hc:∀x∈l,∃s,x=.str s):
  aD prog 109 [.aF false 1 l,.fn g fs cs] (.bool (l.any q)):=
 wR 152 (SN (row:=false) hq hl (fun x hx=>by obtain⟨s,rfl⟩:=hc x hx;exact⟨rfl,by simp⟩))
theorem Zro (x:PV)(g:FuncId)(fs cs:List PV)(b:Bool)(hx:∃s,x=.str s)(hq:aD prog g (fs++[x]++cs) (.bool b)):
  aD prog 110 [x,.ref [.fn g fs cs]] (.bool (!b)):=by
 obtain⟨s,rfl⟩:=hx;refine cS L110 ?_;simp[L110];refine gF (k:=0) rfl rfl hq rfl ?_;simp
theorem Zue (l:List PV)(g:FuncId)(fs cs:List PV)(q:PV->Bool)(hq:∀x∈l,aD prog g (fs++[x]++cs) (.bool (q x)))(hl:l.length<=1000000)(hc:∀x∈l,∃s,x=.str s):
  aD prog 66 [.aF false 1 l,.fn g fs cs] (.bool (l.all q)):=by
 refine cS L66 ?_;simp[L66];refine gF (k:=4) rfl rfl (Zua l 110 [] [.ref [.fn g fs cs]] (fun x=>!q x) (fun x hx=>Zro x g fs cs (q x) (hc x hx) (hq x hx)) hl hc) rfl ?_;simp[List.not_any_eq_all_not]
theorem Zgp (l:List Ct)(bad:List Int)(ls:PV)(ts:List Tt)(rn:PV)(x:Lt)(hl:l.length<=1000)(hb:bad.length<=1000)(ht:ts.length<=900)(h4:4<=x.pieces)(RM:x.pieces<=30)(dE:zB l bad ts):
  cR prog 53 [.ptr (.par 0) 0,.pv x.pv] [(.par 0,aO (aL l) (bI bad) ls (bH ts) rn)] (fun r B=>r=.pv (.bool (x.passed&&!decide (cH l bad ts x=1)))/\B=[(.par 0,aO (aL l) (bI bad) ls (bH ts) rn)]):=by
 have oJ:=Nc l bad ls ts rn x hl hb ht h4 RM dE;have HE:hZ (stM l bad) (nM l bad x.limit) x.num ts []=cH l bad ts x:=rfl;rw[HE]at oJ;generalize cH l bad ts x=v at oJ ⊢;rw[Lt.pv]at oJ;refine cB [.par 0] L53 ?_;cases hp:x.passed with
 |false=>simp[L53,aO,Lt.pv,hp]
 |true=>
  rw[hp]at oJ;simp[L53,aO,Lt.pv,hp];refine cM [.ptr (.par 0) 0,.pv (.agg [.i x.num,.i x.pieces,.i x.limit,.bool true])] [(.par 0,aO (aL l) (bI bad) ls (bH ts) rn)] 10 [.par 0] (by simp[aO]) oJ (by simp[aO]) ?_;simp[aO,bI]
def zD (v:Int):ByteArray:=if v=1 then⟨#[97,99,99,101,112,116,101,100]⟩else if v=2 then⟨#[114,101,106,101,99,116,101,100]⟩else⟨#[111,112,101,110]⟩
theorem ZrB (v:Int):aD prog 79 [.int .u8 v] (.str (zD v)):=by
 refine cS L79 ?_;unfold zD;by_cases h1:v=1
 .simp[L79,h1]
 .by_cases h2:v=2
  .simp[L79,h2]
  .simp[L79,h1,h2]
theorem ZsJ (s:ByteArray):aD prog 65 [.str s] (.bool (decide (s.size<=200))):=by
 refine cS L65 ?_;by_cases h:s.size<=200
 .have h':(s.size:Int)<=200:=by omega
  simp[L65,h,h']
 .have h':¬(s.size:Int)<=200:=by omega
  simp[L65,h,h']
def bJ (l:List ByteArray):PV:=.aF false 1 (l.map .str)
def IK (l:List ByteArray):Bool:=l.all fun s=>decide (s.size<=200)
def wY (l:List ByteArray):Int:=if 50<l.length then 3 else if IK l=true then 0 else 3
theorem Zrs (l:List ByteArray)(hl:l.length<=1000000):aD prog 66 [bJ l,.fn 65 [] []] (.bool (IK l)):=by
 have h:=Zue (l.map .str) 65 [] [] (fun x=>match x with
  |.str s=>decide (s.size<=200)
  |_=>false) (fun x hx=>by
   obtain⟨s,_,rfl⟩:=iI.1 hx;exact ZsJ s) (by rw[fV];exact hl) (fun x hx=>by
   obtain⟨s,_,rfl⟩:=iI.1 hx;exact⟨s,rfl⟩)
 rw[List.all_map]at h;exact h
theorem SR (l:List ByteArray)(hl:l.length<=1000000):aD prog 30 [bJ l] (.i (wY l)):=by
 have ha:=Zrs l hl;refine cS L30 ?_;unfold wY;by_cases h:50<l.length
 .have h':(50:Int)<(l.length:Int):=by omega
  simp[L30,bJ,h,h']
 .have h':¬(50:Int)<(l.length:Int):=by omega
  unfold bJ at ha;cases hf:IK l with
  |true=>
   rw[hf]at ha;simp[L30,bJ,h,h'];refine gF (k:=4) (fs:=[]) (xs:=[.aF false 1 (l.map .str),.fn 65 [] []]) (cs:=[]) rfl rfl ha rfl ?_;simp
  |false=>
   rw[hf]at ha;simp[L30,bJ,h,h'];refine gF (k:=4) (fs:=[]) (xs:=[.aF false 1 (l.map .str),.fn 65 [] []]) (cs:=[]) rfl rfl ha rfl ?_;simp
section
def dg (n:Nat):Nat:=48+n%10
def mW (many i:Int)(n:Nat)(c0 c1 c2 c3 c4:Nat):AS:=
 ⟨[(0,.pv (.i n)),(1,.pv (.i many)),(5,.ptr (.loc 5 0) 0),(6,.pv (.i i))],[(.loc 5 0,.cells [.pv (.int .u8 c0),.pv (.int .u8 c1),.pv (.int .u8 c2),.pv (.int .u8 c3),.pv (.int .u8 c4)])]⟩
attribute [local simp] Og wr1 Il wr3 Ik Ij
theorem e9:IntKind.i64.wrap (-1) = -1:=by decide
theorem dq (n:Nat)(hn:n<1000000000000):IntKind.i64.wrap ((n:Int) / 10)=((n / 10:Nat):Int):=by rw[wrap64 (by omega)];omega
theorem dr (n:Nat):IntKind.u8.wrap (IntKind.i64.wrap (48+(n:Int).tmod 10))=((dg n:Nat):Int):=by
 have h:(n:Int).tmod 10=((n%10:Nat):Int):=by rw[Int.tmod_eq_emod_of_nonneg (by omega)];rfl
 rw[h,wrap64 (by omega),show IntKind.u8.wrap (48+((n%10:Nat):Int))=(48+((n%10:Nat):Int))%256 from rfl];unfold dg;omega
theorem ZiM (n:Nat)(hn:n<1000000):aD prog 150 [.i n,.i 3] (.str ⟨#[.ofNat (dg (n / 10 / 10)),.ofNat (dg (n / 10)),.ofNat (dg n)]⟩):=by
 refine cS L150 ?_;simp[L150];refine eO (fun m τ=>(m=3/\τ=mW 3 2 n 0 0 0 0 0)\/(m=2/\τ=mW 3 1 (n / 10) 0 0 (dg n) 0 0)\/(m=1/\τ=mW 3 0 (n / 10 / 10) 0 (dg (n / 10)) (dg n) 0 0)\/(m=0/\τ=mW 3 (-1) (n / 10 / 10 / 10) (dg (n / 10 / 10)) (dg (n / 10)) (dg n) 0 0)) ⟨3,mW 3 2 n 0 0 0 0 0,Sub.mk (by simp[mW]) (by simp[mW]),.inl ⟨rfl,rfl⟩⟩ ?_;rintro J hJ m τ (⟨rfl,rfl⟩|⟨rfl,rfl⟩|⟨rfl,rfl⟩|⟨rfl,rfl⟩)
 .have hj:=hJ 2 _ (.inr (.inl ⟨rfl,rfl⟩));have h1:=dq n (by omega);have h2:=dr n;simp[mW,cV,aP,h1,h2];exact⟨_,_,by decide,Sub.mk (by simp) (by simp),hj⟩
 .have hj:=hJ 1 _ (.inr (.inr (.inl ⟨rfl,rfl⟩)));have h1:=dq (n / 10) (by omega);have h2:=dr (n / 10);generalize n / 10=k at hj h1 h2 ⊢;simp[mW,setAt,cV,aP,h1,h2];exact⟨_,_,by decide,Sub.mk (by simp[mW]) (by simp[mW]),hj⟩
 .have hj:=hJ 0 _ (.inr (.inr (.inr ⟨rfl,rfl⟩)));have h1:=dq (n / 10 / 10) (by omega);have h2:=dr (n / 10 / 10);generalize n / 10 / 10=k at hj h1 h2 ⊢;simp[mW,setAt,cV,aP,h1,h2,e9];exact⟨_,_,by decide,Sub.mk (by simp[mW]) (by simp[mW]),hj⟩
 .simp[mW,setAt,cV,aP,OQ,AS.cD,AV.cD,AV.aY,aJ.cD,DT,NP]
theorem Zow (n:Nat)(hn:n<1000000):aD prog 150 [.i n,.i 5] (.str ⟨#[.ofNat (dg (n / 10 / 10 / 10 / 10)),.ofNat (dg (n / 10 / 10 / 10)),.ofNat (dg (n / 10 / 10)),.ofNat (dg (n / 10)),.ofNat (dg n)]⟩):=by
 refine cS L150 ?_;simp[L150];refine eO (fun m τ=>(m=5/\τ=mW 5 4 n 0 0 0 0 0)\/(m=4/\τ=mW 5 3 (n / 10) 0 0 0 0 (dg n))\/(m=3/\τ=mW 5 2 (n / 10 / 10) 0 0 0 (dg (n / 10)) (dg n))\/(m=2/\τ=mW 5 1 (n / 10 / 10 / 10) 0 0 (dg (n / 10 / 10)) (dg (n / 10)) (dg n))\/(m=1/\τ=mW 5 0 (n / 10 / 10 / 10 / 10) 0 (dg (n / 10 / 10 / 10)) (dg (n / 10 / 10)) (dg (n / 10)) (dg n))\/(m=0/\τ=mW 5 (-1) (n / 10 / 10 / 10 / 10 / 10) (dg (n / 10 / 10 / 10 / 10)) (dg (n / 10 / 10 / 10)) (dg (n / 10 / 10)) (dg (n / 10)) (dg n))) ⟨5,mW 5 4 n 0 0 0 0 0,Sub.mk (by simp[mW]) (by simp[mW]),.inl ⟨rfl,rfl⟩⟩ ?_;rintro J hJ m τ (⟨rfl,rfl⟩|⟨rfl,rfl⟩|⟨rfl,rfl⟩|⟨rfl,rfl⟩|⟨rfl,rfl⟩|⟨rfl,rfl⟩)
 .have hj:=hJ 4 _ (.inr (.inl ⟨rfl,rfl⟩));have h1:=dq (n) (by omega);have h2:=dr (n);simp[mW,setAt,cV,aP,h1,h2,OQ,UB,e9];exact⟨_,_,by decide,Sub.mk (by simp[mW]) (by simp[mW]),hj⟩
 .have hj:=hJ 3 _ (.inr (.inr (.inl ⟨rfl,rfl⟩)));have h1:=dq (n / 10) (by omega);have h2:=dr (n / 10);generalize n / 10=k at hj h1 h2 ⊢;simp[mW,setAt,cV,aP,h1,h2,OQ,UB,e9];exact⟨_,_,by decide,Sub.mk (by simp[mW]) (by simp[mW]),hj⟩
 .have hj:=hJ 2 _ (.inr (.inr (.inr (.inl ⟨rfl,rfl⟩))));have h1:=dq (n / 10 / 10) (by omega);have h2:=dr (n / 10 / 10);generalize n / 10 / 10=k at hj h1 h2 ⊢;simp[mW,setAt,cV,aP,h1,h2,OQ,UB,e9];exact⟨_,_,by decide,Sub.mk (by simp[mW]) (by simp[mW]),hj⟩
 .have hj:=hJ 1 _ (.inr (.inr (.inr (.inr (.inl ⟨rfl,rfl⟩)))));have h1:=dq (n / 10 / 10 / 10) (by omega);have h2:=dr (n / 10 / 10 / 10);generalize n / 10 / 10 / 10=k at hj h1 h2 ⊢;simp[mW,setAt,cV,aP,h1,h2,OQ,UB,e9];exact⟨_,_,by decide,Sub.mk (by simp[mW]) (by simp[mW]),hj⟩
 .have hj:=hJ 0 _ (.inr (.inr (.inr (.inr (.inr (⟨rfl,rfl⟩))))));have h1:=dq (n / 10 / 10 / 10 / 10) (by omega);have h2:=dr (n / 10 / 10 / 10 / 10);generalize n / 10 / 10 / 10 / 10=k at hj h1 h2 ⊢;simp[mW,setAt,cV,aP,h1,h2,OQ,UB,e9];exact⟨_,_,by decide,Sub.mk (by simp[mW]) (by simp[mW]),hj⟩
 .simp[mW,setAt,cV,aP,nI5,AS.cD,AV.cD,AV.aY,aJ.cD,DT,NP]
end
def sY:List UInt8->Nat->Nat
 |[],_=>0
 |b::r,j=>(j+1)*(b.toNat+1)+sY r (j+1)
theorem ZiQ {b:UInt8}:∀{l:List UInt8} {j:Nat},sY (l++[b]) j=sY l j+(j+l.length+1)*(b.toNat+1)
 |[],j=>by simp[sY]
 |x::l,j=>by
  simp only[List.cons_append,sY,pB];rw[ZiQ (l:=l),show j+1+l.length+1=j+(l.length+1)+1 by omega];omega
theorem Yx:∀{l:List UInt8} {j:Nat},sY l j<=l.length*((j+l.length)*256)
 |[],j=>by simp[sY]
 |x::l,j=>by
  have ih:=Yx (l:=l) (j:=j+1);have hx:x.toNat+1<=256:=x.toNat_lt;simp only[sY,pB];have h1:(j+1)*(x.toNat+1)<=(j+(l.length+1))*256:=Nat.mul_le_mul (by omega) hx;have h2:l.length*((j+1+l.length)*256)=l.length*((j+(l.length+1))*256):=by rw[show j+1+l.length=j+(l.length+1) by omega]
  have e:(l.length+1)*((j+(l.length+1))*256)=(j+(l.length+1))*256+l.length*((j+(l.length+1))*256):=by rw[Nat.succ_mul,Nat.add_comm]
  rw[e];exact Nat.add_le_add h1 (lC ih (Nat.le_of_eq h2))
def rU (s:ByteArray)(i:Nat):Nat:=11*(i+1)+sY s.data.toList 0
def uC (n:Nat):ByteArray:=⟨#[.ofNat (dg (n / 10 / 10)),.ofNat (dg (n / 10)),.ofNat (dg n)]⟩
def p8 (n:Nat):ByteArray:=⟨#[.ofNat (dg (n / 10 / 10 / 10 / 10)),.ofNat (dg (n / 10 / 10 / 10)),.ofNat (dg (n / 10 / 10)),.ofNat (dg (n / 10)),.ofNat (dg n)]⟩
def A9 (s:ByteArray)(i:Nat):ByteArray:=⟨#[123]⟩++uC s.size++⟨#[58]⟩++uC (999-s.size)++⟨#[58]⟩++p8 (rU s i%99991)++⟨#[125]⟩++s++⟨#[10]⟩
def YS (s:ByteArray)(i k:Nat):AS:=⟨[(0,.pv (.str s)),(5,.pv (.i ((11*(i+1)+sY (s.data.toList.take k) 0:Nat):Int))),(12,.pv (.aF false 1 (qG s))),(13,.pv (.i s.size)),(14,.pv (.i (k:Int)))],[]⟩
theorem ZpG (s:ByteArray)(i:Nat)(hs:s.size<=999)(hi:i<=1000):aD prog 102 [.str s,.i i] (.str (A9 s i)):=by
 refine T8 L102 ?_;intro R hR;have fH:s.data.toList.length=s.size:=rfl;have xJ:(qG s).length=s.size:=by simp[qG]
 have G3:IntKind.i64.wrap ((i:Int)+1)=(i:Int)+1:=wrap64 (by omega);have pW:IntKind.i64.wrap (11*((i:Int)+1))=11*((i:Int)+1):=wrap64 (by omega);have PK:s.size<=1000000:=by omega
 simp[L102,G3,pW,PK,xJ,aP];refine eO (fun m τ=>∃k:Nat,k<=s.size/\m=s.size-k/\τ=YS s i k) ⟨s.size,YS s i 0,Sub.mk (by simp[sY]) (by simp),0,gV _,rfl,rfl⟩ ?_;rintro J hJ m τ ⟨k,hk,rfl,rfl⟩;by_cases aI:k<s.size
 .obtain⟨b,hx⟩:∃b,s.data.toList[k]?=some b:=⟨s.data.toList[k]'(by omega),bB _⟩;have hg:(qG s)[k]?=some (.int .u8 b.toNat):=by
   unfold qG;rw[bW,hx];rfl
  have hn:=hJ (s.size-(k+1)) _ ⟨k+1,aI,rfl,rfl⟩;unfold YS at hn;have jS:s.data.toList.take (k+1)=s.data.toList.take k++[b]:=by rw[mJ,hx];rfl
  rw[jS,ZiQ,gJ,Nat.min_eq_left (by omega)]at hn;have gN:=Yx (l:=s.data.toList.take k) (j:=0);rw[gJ,Nat.min_eq_left (by omega)]at gN;have sV:b.toNat+1<=256:=b.toNat_lt;have QB:k*((0+k)*256)<=999*(999*256):=Nat.mul_le_mul (by omega) (by omega);have UU:(0+k+1)*(b.toNat+1)<=1000*256:=Nat.mul_le_mul (by omega) sV;unfold YS;generalize sY (s.data.toList.take k) 0=C at hn gN ⊢;have sO:=bN (k:=k) (by omega);have hw3:IntKind.i64.wrap ((b.toNat:Int)+1)=(b.toNat:Int)+1:=wrap64 (by omega);have S6:((k:Int)+1)*((b.toNat:Int)+1)=(((0+k+1)*(b.toNat+1):Nat):Int):=by rw[rX];rfl
  have PD:IntKind.i64.wrap (b.toNat:Int)=b.toNat:=wrap64 (by omega);generalize(0+k+1)*(b.toNat+1)=P at hn UU S6;have ZZ:IntKind.i64.wrap (((k:Int)+1)*((b.toNat:Int)+1))=P:=by rw[S6];exact wrap64 (by omega)
  have hw5:IntKind.i64.wrap (11*((i:Int)+1)+(C:Int)+(P:Int))=11*((i:Int)+1)+((C:Int)+(P:Int)):=by rw[wrap64 (by omega)];omega
  simp[aI,↓hg,sO,hw3,ZZ,hw5,PD];exact⟨_,_,(by omega:s.size-(k+1)<s.size-k),Sub.mk (by simp) (by simp),hn⟩
 .have he:k=s.size:=by omega
  subst he;have gN:=Yx (l:=s.data.toList) (j:=0);rw[fH]at gN;have QB:s.size*((0+s.size)*256)<=999*(999*256):=Nat.mul_le_mul (by omega) (by omega);unfold YS;rw[fO (by omega)];have h1:aD prog 150 [.i s.size,.i 3] (.str (uC s.size)):=ZiM s.size (by omega);have h2:aD prog 150 [.i ((999-s.size:Nat):Int),.i 3] (.str (uC (999-s.size))):=ZiM (999-s.size) (by omega);have h3:aD prog 150 [.i ((rU s i%99991:Nat):Int),.i 5] (.str (p8 (rU s i%99991))):=Zow (rU s i%99991) (by omega);have z1:(uC s.size).size=3:=rfl;have z2:(uC (999-s.size)).size=3:=rfl;have z3:(p8 (rU s i%99991)).size=5:=rfl;have nB:A9 s i=⟨#[123]⟩++uC s.size++⟨#[58]⟩++uC (999-s.size)++⟨#[58]⟩++p8 (rU s i%99991)++⟨#[125]⟩++s++⟨#[10]⟩:=rfl;have q1:(⟨#[123]⟩:ByteArray).size=1:=rfl;have q2:(⟨#[58]⟩:ByteArray).size=1:=rfl;have q3:(⟨#[125]⟩:ByteArray).size=1:=rfl;have q4:(⟨#[10]⟩:ByteArray).size=1:=rfl;rw[nB]at hR;have hw6:IntKind.i64.wrap (999-(s.size:Int))=((999-s.size:Nat):Int):=by rw[wrap64 (by omega)];omega
  have tE:(11*(i+1)+sY s.data.toList 0:Nat)=rU s i:=rfl;rw[tE];have HZ:rU s i<=1000000000:=by unfold rU;omega
  have yG:(rU s i:Int).tmod 99991=((rU s i%99991:Nat):Int):=by rw[Int.tmod_eq_emod_of_nonneg (by omega)];rfl
  clear nB tE;generalize p8 (rU s i%99991)=D5 at h3 z3 hR;generalize uC s.size=D1 at h1 z1 hR;generalize uC (999-s.size)=D2 at h2 z2 hR;generalize rU s i=C at h3 yG;simp;refine cG [.i s.size,.i 3] h1 ?_;simp[ByteArray.size_append,z1,q1,q2,hw6,aP];refine cG [.i ((999-s.size:Nat):Int),.i 3] h2 ?_;simp[ByteArray.size_append,z1,z2,q1,q2,yG,aP];refine cG [.i ((C%99991:Nat):Int),.i 5] h3 ?_;have qP:15+s.size<=9223372036854775807:=by omega
  have Ck:15+s.size+1<=9223372036854775807:=by omega
  simp[ByteArray.size_append,z1,z2,z3,q1,q2,q3,q4,aP,qP,Ck];rw[<-hR];exact⟨rfl,rfl⟩
theorem Zve (a b:ByteArray):(a++b).data.toList=a.data.toList++b.data.toList:=by
 rw[ByteArray.data_append,Array.toList_append]
def j4 (s:ByteArray)(i:Nat):List UInt8:=(A9 s i).data.toList
def Uj (s:ByteArray)(i:Nat):List UInt8:=58::((uC (999-s.size)).data.toList++58::((p8 (rU s i%99991)).data.toList++[125]))
theorem ZsX (s:ByteArray)(i:Nat):j4 s i=123::((uC s.size).data.toList++(Uj s i++(s.data.toList++[10]))):=by
 unfold j4 A9 Uj;simp only[Zve,H9];rfl
theorem ZtH (s:ByteArray)(i:Nat):(Uj s i).length=11:=rfl
theorem ZkD (s:ByteArray)(i:Nat):(j4 s i).length=16+s.size:=by
 rw[ZsX,pB,gD,gD,ZtH,gD];show 3+(11+(s.size+1))+1=16+s.size;omega
def kC:List ByteArray->Nat->List UInt8
 |[],_=>[]
 |s::r,i=>j4 s i++kC r (i+1)
theorem ZgO {s:ByteArray}:∀{l:List ByteArray} {i:Nat},kC (l++[s]) i=kC l i++j4 s (i+l.length)
 |[],i=>by simp[kC]
 |x::l,i=>by
  simp only[List.cons_append,kC,pB];rw[ZgO (l:=l),H9,show i+1+l.length=i+(l.length+1) by omega]
structure Wk where
 aA:List Ct
 bad:List Int
 aK:List Lt
 aH:List Tt
 runs:List Qn.Rq
def Wk.box (w:Wk):aJ:=aO (aL w.aA) (bI w.bad) (aS w.aK) (bH w.aH) (dL w.runs)
def jV:Wk:=⟨[],[],[],[],[]⟩
def WL (I:Nat->Wk->Prop)(D:Wk->ByteArray->Wk×Int):Prop:=∀k st s,k<150->I k st->s.size<=200->I (k+1) (D st s).1/\cR prog 55 [.ptr (.par 0) 0,.pv (.str s)] [(.par 0,st.box)] (fun r B=>r=.pv (.i (D st s).2)/\B=[(.par 0,(D st s).1.box)])
def cU (D:Wk->ByteArray->Wk×Int):Wk->List ByteArray->Wk×List Int
 |st,[]=>(st,[])
 |st,s::l=>((cU D (D st s).1 l).1,(D st s).2::(cU D (D st s).1 l).2)
theorem ZeI {D:Wk->ByteArray->Wk×Int}{s:ByteArray}:∀{l:List ByteArray} {st:Wk},cU D st (l++[s])=((D (cU D st l).1 s).1,(cU D st l).2++[(D (cU D st l).1 s).2])
 |[],st=>rfl
 |x::l,st=>by
  simp only[List.cons_append,cU];rw[ZeI (l:=l)]
theorem Nj {D:Wk->ByteArray->Wk×Int}:∀{l:List ByteArray} {st:Wk},(cU D st l).2.length=l.length
 |[],st=>rfl
 |x::l,st=>by simp only[cU,pB,Nj (l:=l)]
theorem WZ {D:Wk->ByteArray->Wk×Int}{I:Nat->Wk->Prop}(hN:WL I D):∀{l:List ByteArray} {k:Nat} {st:Wk},k+l.length<=150->I k st->(∀s∈l,s.size<=200)->I (k+l.length) (cU D st l).1
 |[],k,st,_,h,_=>h
 |x::l,k,st,hk,h,hl=>by
  rw[pB]at hk
  have:=WZ hN (l:=l) (k:=k+1) (by omega) (hN k st x (by omega) h (hl x (List.mem_cons_self ..))).1 (fun s hs=>hl s (List.mem_cons_of_mem _ hs))
  rw[show k+1+l.length=k+(x::l).length by rw[pB];omega]at this;exact this
def iE (n:Int):PV:=.i n
def GN (L:List ByteArray)(W:aJ)(es:List Int)(k:Nat):AS:=
 ⟨[(4,.ptr (.loc 9 0) 0),(5,.vec (.loc 21 0) 1 0 es.length),(10,.pv (.aF false 1 (L.map .str))),(11,.pv (.i L.length)),(12,.pv (.i (k:Int)))],
  [(.loc 9 0,W),(.loc 21 0,.arr 33 1 (es.map iE))]⟩
theorem FJ (k:Nat):AV.Wk (.pv (.emp (some true))) (.pv (.aF false k [])):=KM fun m v h=>AB h
theorem Lf {I:Nat->Wk->Prop}{D:Wk->ByteArray->Wk×Int}(hN:WL I D)(h0:I 0 jV)(L:List ByteArray)(hl:L.length<=150)(hs:∀s∈L,s.size<=200):
  cR prog 31 [.pv (bJ L)] [] (fun r B=>r=.bL [.ptr (.ret 0) 0,.vec (.ret 1) 1 0 L.length]/\B=[(.ret 0,(cU D jV L).1.box),(.ret 1,.arr 33 1 ((cU D jV L).2.map iE))]):=by
 refine N7 [.loc 9 0,.loc 21 0] L31 ?_;intro R hR;simp[L31,bJ];refine eO (fun m τ=>∃k:Nat,k<=L.length/\m=L.length-k/\τ=GN L (cU D jV (L.take k)).1.box (cU D jV (L.take k)).2 k) ⟨L.length,GN L jV.box [] 0,?_,0,gV _,rfl,rfl⟩ ?_
 .refine Sub.trans' ?_ (cI 21 33 1 5 rfl (by decide));refine Sub.trans' ?_ (Sub.aW (s:=.loc 9 0) (i:=0) _ rfl rfl (FJ 7));refine Sub.trans' ?_ (Sub.aW (s:=.loc 9 0) (i:=1) _ rfl rfl (FJ 1));refine Sub.trans' ?_ (Sub.aW (s:=.loc 9 0) (i:=2) _ rfl rfl (FJ 4));refine Sub.trans' ?_ (Sub.aW (s:=.loc 9 0) (i:=3) _ rfl rfl (FJ 4));refine Sub.trans' ?_ (Sub.aW (s:=.loc 9 0) (i:=4) _ rfl rfl (FJ 3));exact Sub.mk (by simp[AS.cI]) (by simp[AS.cI,Wk.box,jV,aO,aL,bI,aS,bH,dL])
 rintro J hJ m τ ⟨k,hk,rfl,rfl⟩;have qB:=Nj (D:=D) (l:=L.take k) (st:=jV);rw[gJ,Nat.min_eq_left hk]at qB;by_cases aI:k<L.length
 .obtain⟨s,hx⟩:∃s,L[k]?=some s:=⟨L[k],bB aI⟩;have gQ:s∈L:=dK hx;have hg:(L.map PV.str)[k]?=some (.str s):=by rw[bW,hx];rfl
  have jS:L.take (k+1)=L.take k++[s]:=by rw[mJ,hx];rfl
  have hinv:=WZ hN (l:=L.take k) (st:=jV) (by rw[gJ];omega) h0 (fun s X5=>hs s (List.mem_of_mem_take X5));have hn:=hJ (L.length-(k+1)) _ ⟨k+1,aI,rfl,rfl⟩;rw[jS,ZeI]at hn;have hc:=(hN _ _ s (by rw[gJ];omega) hinv (hs s gQ)).2;have hw:=bN (k:=k) (by omega);have h1:(cU D jV (L.take k)).2.length+1<=1000000:=by omega
  have aG:L.length-(k+1)<L.length-k:=by omega
  generalize cU D jV (L.take k)=q at hn hc h1 ⊢;obtain⟨st,es⟩:=q;dsimp only at hn hc h1 ⊢;generalize D st s=q' at hn hc;obtain⟨st',e⟩:=q';dsimp only at hn hc;simp[GN,aI,↓hg,Wk.box,aO];refine cM [.ptr (.par 0) 0,.pv (.str s)] [(.par 0,st.box)] 19 [.loc 9 0] (by simp[Wk.box,aO]) hc (by simp[Wk.box,aO]) ?_;simp[Wk.box,aO,h1,aP,hw];exact⟨_,_,aG,Sub.mk (by simp) (by simp[Wk.box,aO,iE]),hn⟩
 .have he:k=L.length:=by omega
  subst he;rw[nF]at qB ⊢;simp[GN,Wk.box,aO,qB];rw[<-hR];exact⟨rfl,by simp[Wk.box,aO]⟩
theorem Gy {f:FuncId}{n:Nat}(e b:Nat)(l:List PV)(hl:l.length<=1000000)(hL:fT prog f=some (UH e n b):=by kernel_rfl)(hb:b<=1000:=by decide)(hn:0<n:=by decide):aD prog f [.aF false n l] (.aF false n l):=by
 cases l with
 |nil=>
  refine cR.U8 ?_;refine Nq [.loc 7 0] mixed hL (tH rfl) ?_;simp[UH,dH,s7,aP,bY,B4,hn,hb];exact fun m v h=>AB h
 |cons a l=>
  refine Nq [.loc 7 0] mixed hL (tH rfl) ?_;have h1:l.length+1<=1000000:=by simpa using hl
  have h2:l.length<=999999:=by omega
  have hm:List.take l.length l=l:=fO (fG _);simp[UH,dH,aP,h2,hm,hn,hb]
theorem ZjI (l:List PV)(hl:l.length<=1000000):aD prog 69 [.aF false 1 l] (.aF false 1 l):=Gy 3 8 l hl
theorem Zl6 (l:List PV)(hl:l.length<=1000000):aD prog 68 [.aF false 7 l] (.aF false 7 l):=Gy 88 56 l hl
theorem Zl5 (l:List PV)(hl:l.length<=1000000):aD prog 70 [.aF false 4 l] (.aF false 4 l):=Gy 89 32 l hl
theorem Zl4 (l:List PV)(hl:l.length<=1000000):aD prog 71 [.aF false 4 l] (.aF false 4 l):=Gy 90 32 l hl
theorem Zl7 (l:List PV)(hl:l.length<=1000000):aD prog 67 [.aF false 1 l] (.aF false 1 l):=Gy 4 1 l hl
def Wk.pv (w:Wk):PV:=.agg [aL w.aA,bI w.bad,aS w.aK,bH w.aH,dL w.runs]
def Dy (w:Wk)(k:Nat):AS:=
 ⟨[(1,.ptr (.loc 1 0) 0),(2,.ptr (.loc 2 0) 0),(3,.vec (.loc 23 0) 3 0 k),(7,.pv (.aF false 3 (w.runs.map Qn.Rq.pv))),(8,.pv (.i w.runs.length)),(9,.pv (.i (k:Int)))],
  [(.loc 1 0,.cells [.pv (aL w.aA),.pv (bI w.bad),.pv (aS w.aK),.pv (bH w.aH),.pv (dL w.runs)]),(.loc 2 0,.cells [.pv (.emp (some true)),.pv (.emp (some true)),.pv (.emp (some true)),.pv (.emp (some true)),.pv (.emp (some true))]),(.loc 23 0,.arr 91 3 ((w.runs.take k).map Qn.Rq.pv))]⟩
theorem ZqH (w:Wk)(h1:w.aA.length<=1000)(h2:w.bad.length<=1000)(h3:w.aK.length<=1000)(h4:w.aH.length<=1000)(h5:w.runs.length<=1000)(h6:∀r∈w.runs,r.on.length<=1000):aD prog 32 [w.pv] w.pv:=by
 refine N6 [.loc 23 0] L32 ?_;intro R hR;simp[L32,Wk.pv,dL];refine eO (fun m τ=>∃k:Nat,k<=w.runs.length/\m=w.runs.length-k/\τ=Dy w k) ⟨w.runs.length,Dy w 0,Sub.trans' (Sub.mk (by simp[AS.cI]) (by simp[AS.cI,dL])) (cI 23 91 3 3 rfl (by decide)),0,gV _,rfl,rfl⟩ ?_;rintro J hJ m τ ⟨k,hk,rfl,rfl⟩;by_cases aI:k<w.runs.length
 .obtain⟨r,hx⟩:∃r,w.runs[k]?=some r:=⟨w.runs[k],bB aI⟩;have hg:(w.runs.map Qn.Rq.pv)[k]?=some r.pv:=by rw[bW,hx];rfl
  simp only[Qn.Rq.pv,Qn.OJ]at hg;have X7:=h6 r (dK hx);have hw:=bN (k:=k) (by omega);have gZ:k+1<=1000000:=by omega
  have PX:min k w.runs.length=k:=Nat.min_eq_left (by omega);have hn:=hJ (w.runs.length-(k+1)) _ ⟨k+1,aI,rfl,rfl⟩;unfold Dy at hn;rw[mJ,hx,mF]at hn;simp[Dy,aI,↓hg,aP];refine cQ [] [.aF false 1 (r.on.map .bool)] (Zl7 (r.on.map .bool) (by rw[fV];omega)) ?_;simp[-List.map_take,aM,aP,gZ,PX,hw];exact⟨_,_,(by omega:w.runs.length-(k+1)<w.runs.length-k),Sub.mk (by simp) (by simp[Qn.Rq.pv,Qn.OJ]),hn⟩
 .have he:k=w.runs.length:=by omega
  subst he;have jS:w.runs.take w.runs.length=w.runs:=nF;simp[Dy,jS,aL];refine cQ [] [.aF false 7 (w.aA.map Ct.pv)] (Zl6 (w.aA.map Ct.pv) (by rw[fV];omega)) ?_;simp[aM,bI];refine cQ [] [.aF false 1 (w.bad.map iP)] (ZjI (w.bad.map iP) (by rw[fV];omega)) ?_;simp[aM,aS];refine cQ [] [.aF false 4 (w.aK.map Lt.pv)] (Zl5 (w.aK.map Lt.pv) (by rw[fV];omega)) ?_;simp[aM,bH];refine .inl (cP [.loc 23 0] [.aF false 4 (w.aH.map Tt.pv)] (by simp) (by simp[aM,AS.cD,AV.cD,AV.aY,aJ.cD]) (Zl4 (w.aH.map Tt.pv) (by rw[fV];omega)) ?_);have htr:List.take w.runs.length (w.runs.map Qn.Rq.pv)=w.runs.map Qn.Rq.pv:=fO (by simp);simp[-List.map_take,aM,AS.cD,AV.cD,AV.aY,aJ.cD,AS.tidy,htr,oF,aY];rw[<-hR];exact⟨by simp[Wk.pv,aL,bI,aS,bH,dL],by simp⟩
structure yY (w:Wk):Prop where
 c:w.aA.length<=1000
 b:w.bad.length<=1000
 l:w.aK.length<=900
 t:w.aH.length<=900
 r:w.runs.length<=1000
 lt:∀x∈w.aK,vR x
 fit:zB w.aA w.bad w.aH
 on:∀r∈w.runs,r.on.length<=1000
theorem Ge {l:List ByteArray}(h:wY l=0):l.length<=50/\∀s∈l,s.size<=200:=by
 unfold wY at h;split at h
 .cases h
 .split at h
  .rename_i h1 h2;refine⟨by omega,fun s hs=>?_⟩
   have:=rC.1 h2 s hs
   simpa using this
  .cases h
theorem Gg {l:List ByteArray}(h:wY l≠0):wY l=3:=by
 unfold wY at h ⊢;split
 .rfl
 .split
  .rename_i h1 h2;rw[if_neg h1,if_pos h2]at h;exact absurd rfl h
  .rfl
def AX (D:Wk->ByteArray->Wk×Int)(L:List ByteArray):PV:=if wY L=0 then .bL [(cU D jV L).1.pv,.aF false 1 ((cU D jV L).2.map iE),.i 0]else .bL [jV.pv,.aF false 1 [],.i 3]
theorem Zvl {I:Nat->Wk->Prop}{D:Wk->ByteArray->Wk×Int}(hN:WL I D)(h0:I 0 jV)(hI:∀k w,k<=50->I k w->yY w)(L:List ByteArray)(hl:L.length<=1000000):aD prog 10 [bJ L] (AX D L):=by
 have rA:=SR L hl;refine cR.U8 ?_;refine N6 [.loc 15 1] L10 ?_;intro R hR;unfold AX at hR;by_cases hc:wY L=0
 .obtain⟨Bd,pO⟩:=Ge hc;rw[hc]at rA;have zL:=Lf hN h0 L (by omega) pO;have cZ:=hI _ _ (by omega) (WZ hN (l:=L) (by omega) h0 pO);have qB:=Nj (D:=D) (l:=L) (st:=jV);rw[if_pos hc]at hR;generalize cU D jV L=q at zL cZ qB hR;obtain⟨w,es⟩:=q;dsimp only at zL cZ qB hR;have mB:=ZqH w cZ.c cZ.b (by have:=cZ.l;omega) (by have:=cZ.t;omega) cZ.r cZ.on;simp[L10];refine cG [bJ L] rA ?_;simp;refine .inl (O7 [] (fs:=[]) (xs:=[bJ L]) (cs:=[]) (d:=15) rfl rfl zL ?_);rintro r B ⟨rfl,rfl⟩;refine⟨by simp[Wk.box,aO],?_⟩;simp[Wk.box,aO];have hm:List.take L.length (es.map iE)=es.map iE:=fO (by rw[fV];omega);have hle:L.length<=es.length:=by omega
  refine .inl (cP [.loc 15 1] [w.pv] (by simp) (by simp[Wk.pv]) mB ?_);simp[Wk.pv,hm,hle];rw[<-hR];exact⟨_,rfl,by simp,fun m v h=>h⟩
 .have h3:=Gg hc;rw[h3]at rA;rw[if_neg hc]at hR;simp[L10];refine cG [bJ L] rA ?_;simp;rw[<-hR];exact⟨_,rfl,rfl,FW 5 _ _ rfl⟩
def bP (l:List UInt8):List PV:=l.map fun b=>.int .u8 b.toNat
theorem Ku {l:List UInt8}:(bP l).length=l.length:=fV _
theorem Zvf {a b:List UInt8}:bP (a++b)=bP a++bP b:=mF
theorem Zli:∀{l:List ByteArray} {i:Nat},(∀s∈l,s.size<=200)->(kC l i).length<=216*l.length
 |[],i,_=>by simp[kC]
 |s::l,i,h=>by
  have h1:=Zli (l:=l) (i:=i+1) (fun s hs=>h s (List.mem_cons_of_mem _ hs));have h2:=h s (List.mem_cons_self ..);simp only[kC,gD,ZkD,pB];omega
def Dm (L:List ByteArray)(F:List UInt8)(k:Nat):AS:=
 ⟨[(3,.vec (.loc 17 0) 1 0 F.length),(6,.pv (.aF false 1 (L.map .str))),(7,.pv (.i L.length)),(8,.pv (.i (k:Int)))],[(.loc 17 0,.arr 5 1 (bP F))]⟩
theorem Zu3 (L:List ByteArray)(hl:L.length<=1000)(hs:∀s∈L,s.size<=200):aD prog 56 [bJ L] (.aF false 1 (bP (kC L 0))):=by
 refine N6 [.loc 17 0] L56 ?_;intro R hR;simp[L56,bJ];refine eO (fun m τ=>∃k:Nat,k<=L.length/\m=L.length-k/\τ=Dm L (kC (L.take k) 0) k) ⟨L.length,Dm L [] 0,Sub.trans' (Sub.mk (by simp[AS.cI]) (by simp[AS.cI,bP])) (cI 17 5 1 3 rfl (by decide)),0,gV _,rfl,rfl⟩ ?_;rintro J hJ m τ ⟨k,hk,rfl,rfl⟩;by_cases aI:k<L.length
 .obtain⟨s,hx⟩:∃s,L[k]?=some s:=⟨L[k],bB aI⟩;have fH:=hs s (dK hx);have hg:(L.map PV.str)[k]?=some (.str s):=by rw[bW,hx];rfl
  have jS:L.take (k+1)=L.take k++[s]:=by rw[mJ,hx];rfl
  have hn:=hJ (L.length-(k+1)) _ ⟨k+1,aI,rfl,rfl⟩;have qB:=Zli (l:=L.take k) (i:=0) (fun s X5=>hs s (List.mem_of_mem_take X5));have lW:=ZpG s k (by omega) (by omega);have tU:=ZkD s k;rw[jS,ZgO,gJ,Nat.min_eq_left hk,rX]at hn;rw[gJ,Nat.min_eq_left hk]at qB;unfold j4 at hn tU;unfold Dm at hn;rw[Zvf,gD]at hn;have Ci:bP (A9 s k).data.toList=qG (A9 s k):=rfl;have xJ:(qG (A9 s k)).length=(A9 s k).data.toList.length:=Ku;rw[Ci,<-xJ]at hn;rw[<-xJ]at tU;generalize kC (L.take k) 0=F at hn qB ⊢;clear Ci xJ;generalize A9 s k=R at hn tU lW;have hw:=bN (k:=k) (by omega);have aG:L.length-(k+1)<L.length-k:=by omega
  have h1:F.length+(qG R).length<=1000000:=by omega
  simp[Dm,aI,↓hg];refine cG [.str s,.i k] lW ?_;simp[Ku,h1,hw,aP];exact⟨_,_,aG,Sub.mk (by simp) (by simp),hn⟩
 .have he:k=L.length:=by omega
  subst he;rw[nF];have hm:List.take (kC L 0).length (bP (kC L 0))=bP (kC L 0):=fO (by rw[Ku];exact fG _);simp[Dm,hm,Ku];rw[<-hR];exact⟨rfl,by simp⟩
def FZ (L:List ByteArray):PV:=if wY L=0 then .bL [.aF false 1 (bP (kC L 0)),.i 0]else .bL [.aF false 1 [],.i 3]
theorem Zuk (L:List ByteArray)(hl:L.length<=1000000):aD prog 29 [bJ L] (FZ L):=by
 have rA:=SR L hl;refine cR.U8 ?_;refine N6 [] L29 ?_;intro R hR;unfold FZ at hR;by_cases hc:wY L=0
 .obtain⟨Bd,pO⟩:=Ge hc;rw[hc]at rA;rw[if_pos hc]at hR;have hf:=Zu3 L (by omega) pO;simp[L29];refine cG [bJ L] rA ?_;simp;refine .inl (cQ [] [bJ L] hf ?_);simp;rw[<-hR];exact⟨_,rfl,by simp,fun m v h=>h⟩
 .have h3:=Gg hc;rw[h3]at rA;rw[if_neg hc]at hR;simp[L29];refine cG [bJ L] rA ?_;simp;rw[<-hR];exact⟨_,rfl,rfl,FW 5 _ _ rfl⟩
section
open Go.RowKit Go.ChangeShapes Go.WideShapes Go.ChangeAt Go.Deep
section
variable {H:Type}{enc:TypeId×Value->H}{W:World}{sp:Nat->Bool}{held:Bool}{r:Reach}{base:Nat}
theorem Wc:prog.cellsOf 9=1:=by kernel_rfl
theorem ZsV {v:Value}{fuel:Nat}{x:DataW H×List MemPlace}(cZ:Value.okWide prog W r base 22 v)(h:DataW.trod enc prog W 0 sp held fuel 22 v.cells.toList=some x):
  ∃L:List ByteArray,L.length<=9223372036854775807/\dG W.mem v (bJ L):=by
 obtain⟨_,_,_,rfl⟩:=okWide_slice underlying22 cZ;obtain⟨l,_,h1,h2⟩:=Zni (n:=1) PV.str (fun _=>True) underlying22 Wc (by omega) h (fun k cs y hy hl=>by
  obtain⟨s,rfl,_,_⟩:=DataW.trod_string underlying9 hy;exact⟨s,trivial,rfl,rfl,fun d hd=>by simp at hd;subst hd;rfl,fun j d c h1 h2=>by
   match j,h1,h2 with
   |0,h1,h2=>cases h1;cases h2;exact .str _⟩)
 exact⟨l,h1,h2⟩
end
theorem ZhZ {W:World}{n:String}{g:Nat}{d:DataW Unit}{s:String}{x:DataW Unit}(hg:prog.globalNamed n=some g)(hy:(prog.globals[g]?).map (·.type)=some 104)(hd:d=.iface s x)(h:Lib.VarReads prog W n d):∃t p,W.mem g 0=some (.iface t p):=by
 subst hd;obtain⟨g',t,cs,fuel,p,Uc,Rs,S4,hd⟩:=h;obtain rfl:=Option.some.inj (hg.symm.trans Uc);obtain rfl:=Option.some.inj (hy.symm.trans Rs);obtain⟨f1,u,v,EP,_,_⟩:=iface_of_trod underlying104 hd
 have:=World.var?_cell hg S4 0
 rw[<-O3,EP]at this;exact⟨u,v,this⟩
theorem Zsi {W : World} (h : Lib.VarReads prog W "internal/strconv.uint64pow10" Rows.laid_internal_strconv_uint64pow10) : ∃ t fr, W.heap[0]? = some (.cells (Lib.pow10Tab.map (Value.int .u64)).toArray t fr) := by
 have e:(Rows.laid_internal_strconv_uint64pow10:DataW Unit)=Lib.tabData .u64 Lib.pow10Tab:=by rfl
 rw[e]at h;obtain⟨g,t,cs,fuel,p,hg,Rs,S4,hd⟩:=h;obtain rfl := Option.some.inj ((show prog.globalNamed "internal/strconv.uint64pow10" = some 0 by kernel_rfl).symm.trans hg);obtain rfl:=Option.some.inj ((show(prog.globals[0]?).map (·.type)=some 358 by kernel_rfl).symm.trans Rs);have EP:=Lib.cells_of_tab underlying358 underlying307 (by kernel_rfl) (by kernel_rfl) hd;unfold World.var? at S4;rw[hg,Option.bind_some]at S4;split at S4
 .rename_i iH t fr hh;obtain rfl:=Option.some.inj S4;exact⟨t,fr,by rw[hh,<-EP]⟩
 .cases S4
theorem ZtM {W : World} (hs : W.ShapedOpen prog) (h5 : Lib.VarReads prog W "internal/strconv.uint64pow10" Rows.laid_internal_strconv_uint64pow10) (h1 : Lib.VarReads prog W "strconv.ErrSyntax" Rows.laid_strconv_ErrSyntax) (h2 : Lib.VarReads prog W "strconv.ErrRange" Rows.laid_strconv_ErrRange) : nI W.mem W := by
 have h5:=Zsi h5;refine⟨Proofs.cell_of_shapedOpen_int (zero:=#[.i 0]) (t:=3) hs (of_decide_eq_true (by kernel_rfl)) (by kernel_rfl) rfl (by kernel_rfl) (by kernel_rfl) underlying3,
  ZhZ (n := "strconv.ErrSyntax") (by kernel_rfl) (by kernel_rfl) rfl h1,
  ZhZ (n := "strconv.ErrRange") (by kernel_rfl) (by kernel_rfl) rfl h2, ?_, h5⟩
 obtain⟨t,fr,h⟩:=h5;exact⟨_,(cell_of_row W _ 0 _ _ _ h).trans rfl⟩
end
section
open Go.RowKit Go.ChangeShapes Go.WideShapes Go.ChangeAt Go.Deep
theorem own:ownKnob prog.godebug=none:=by kernel_rfl
theorem LM:laidOutB prog=true:=by kernel_rfl
theorem ZrC:mapsRowed prog=true:=by kernel_rfl
theorem Dl:((List.range prog.types.size).all fun t=>match prog.underlying t with|some (.slice e)=>decide (0<prog.cellsOf e)|_=>true)=true:=by kernel_rfl
theorem ZjC {H:Type}{enc:TypeId×Value->H}{a:Assume}{C:Checked}{os:Os}{f:FuncId}{fn:Func}{s:ChangeSpec}{conds:List PathCond}{apart fresh handsOn again:Bool}{X:World->Array Value->Prop}
  (hX:∀(w w':World) (args:Array Value),w.heap=w'.heap->X w args->X w' args)
  (own:ownKnob C.prog.godebug=none) (started:os.Started) (OO:C.prog.inits.idxOf? f=none) (qA:C.prog.funcs[f]?=some fn)
  (witness:∃(w:World) (tape:Tape) (i:Input),w.os=os/\(w.forCall tape i).Shaped C.prog/\i.vars=[]/\Input.okWide C.prog (w.forCall tape i) .any w.heap.size f i/\
   ((s.pre enc C.prog fn conds apart (w.forCall tape i).memory i.args/\X (w.forCall tape i).memory i.args)/\sizedMet enc C.prog fn (OpenSpec.ofChange s) apart (w.forCall tape i).memory i.args)/\a.holds C.prog (lone (Frame.enter C.prog f i.args .normal) [] (w.forCall tape i)))
  (DB:∀(W:World) (base:Nat) (args:Array Value) (ds gs:List (DataW H)) (before:List MemPlace),
   (∀(j:Nat) t v,fn.params[j]?=some t->args[j]?=some v->Value.okWide C.prog W .any base t v)->
   DataW.Whole enc C.prog fn.params.toList s.vars apart W args.toList ds gs before->X W args->W.ShapedOpen C.prog->
   Calls C.prog f args W fun e W'=>∃v,e=.returned v/\s.post enc C.prog fn apart fresh handsOn again W args v W'):
  ReturnsInHanded a C os f .any (fun w args=>(s.pre enc C.prog fn conds apart w args/\X w args)/\sizedMet enc C.prog fn (OpenSpec.ofChange s) apart w args) (s.post enc C.prog fn apart fresh handsOn again):=by
 refine returnsInHanded_of_calls own started OO witness ?_;intro w tape i _ HJ _ cZ Sk _;obtain⟨_,_,_,fn',Ue,_,_,_,_,nT⟩:=cZ;have e:fn'=fn:=Option.some.inj (Ue.symm.trans qA);subst e;obtain⟨⟨⟨ds,gs,before,hw,_⟩,hx⟩,_⟩:=Sk;have HD:=DataW.Whole.of_heap (w':=w.forCall tape i) (by rfl) hw;refine(DB (w.forCall tape i) w.heap.size i.args ds gs before nT HD (hX _ _ _ (by rfl) hx) HJ).mono fun e W' ⟨v,he,hp⟩=>?_
 subst he;exact ChangeSpec.post_blind hp
end
theorem Zu5 (u:Nat):u<10^(Lib.decDigits u).length:=by
 induction u using Nat.strongRecOn with
 |_ u ih=>
  unfold Lib.decDigits;split
  .simp;omega
  .have:=ih (u / 10) (by omega)
   rw[gD,List.length_singleton,Nat.pow_succ];omega
theorem Kv (u:Nat):∀c∈Lib.decDigits u,c≠45:=by
 have hd:∀d:Fin 10,UInt8.ofNat (48+d.1)≠45:=by decide
 induction u using Nat.strongRecOn with
 |_ u ih=>
  intro c hc;unfold Lib.decDigits at hc;split at hc
  .rename_i h;rw[rY]at hc;subst hc;exact hd ⟨u,h⟩
  .rcases sI.1 hc with h|h
   .exact ih (u / 10) (by omega) c h
   .rw[rY]at h;subst h;exact hd ⟨u%10,by omega⟩
theorem ZiN (u:Nat)(h:(Lib.decDigits u).length<=9):u<1000000000:=
 Nat.lt_of_lt_of_le (Zu5 u) (Nat.pow_le_pow_right (by decide) h)
theorem Zs9 {s:ByteArray}{v:Int}(h:lK s=some v):-1000000000<v/\v<1000000000:=by
 unfold lK at h;split at h
 .split at h
  .rename_i u _ hc;cases h;obtain⟨h1,h2⟩:=hc;subst h1;have h3:(Lib.trimPrefix (Lib.itoa v) [45]).length<=9:=h2;by_cases Sw:v<0
   .obtain⟨k,rfl⟩:∃k:Nat,v = -(k:Int):=⟨v.natAbs,by omega⟩;rw[Lib.itoa_neg k (by omega)]at h3;have h4:Lib.trimPrefix (45::Lib.decDigits k) [45]=Lib.decDigits k:=by simp[Lib.trimPrefix,Lib.hasPrefix]
    rw[h4]at h3
    have:=ZiN k h3
    omega
   .obtain⟨k,rfl⟩:∃k:Nat,v=(k:Int):=⟨v.toNat,by omega⟩;rw[Lib.itoa_nonneg]at h3;have h4:Lib.trimPrefix (Lib.decDigits k) [45]=Lib.decDigits k:=by
     have mM:=Kv k;cases hd:Lib.decDigits k with
     |nil=>rfl
     |cons c r=>
      have hc:c≠45:=mM c (by rw[hd];exact List.mem_cons_self ..);simp[Lib.trimPrefix,Lib.hasPrefix]
      try exact fun e=>absurd e.symm hc
    rw[h4]at h3
    have:=ZiN k h3
    omega
  .cases h
 .cases h
def isRec (w:Wk)(x:Lt):Bool:=x.passed&&!decide (cH w.aA w.bad w.aH x=1)
def qJ (w:Wk)(k:Nat):List Int:=((w.aK.take k).filter (isRec w)).map Lt.num
theorem Zih {w:Wk}{k:Nat}{x:Lt}(h:w.aK[k]?=some x):qJ w (k+1)=qJ w k++(if isRec w x=true then[x.num]else[]):=by
 unfold qJ;rw[mJ,h,F2,mF];congr 1;cases hb:isRec w x<;>simp[hb]
theorem ZkC {w:Wk}{k:Nat}:(qJ w k).length<=k:=by
 unfold qJ;rw[fV];refine lC (O1 _ _) ?_;rw[gJ];omega
def GJ (D:Wk->ByteArray->Wk×Int)(L:List ByteArray):PV:=if wY L=0 then .bL [.aF false 1 ((qJ (cU D jV L).1 (cU D jV L).1.aK.length).map iP),.i 0]else .bL [.aF false 1 [],.i 3]
def GI (w:Wk)(l:List Int)(k:Nat):AS:=
 ⟨[(5,.ptr (.loc 17 0) 0),(7,.vec (.loc 37 0) 1 0 l.length),(24,.pv (.aF false 4 (w.aK.map Lt.pv))),(25,.pv (.i w.aK.length)),(26,.pv (.i (k:Int)))],
  [(.loc 17 0,w.box),(.loc 37 0,.arr 3 1 (l.map iP))]⟩
theorem Zml {I:Nat->Wk->Prop}{D:Wk->ByteArray->Wk×Int}(hN:WL I D)(h0:I 0 jV)(hI:∀k w,k<=50->I k w->yY w)(L:List ByteArray)(hl:L.length<=1000000):aD prog 22 [bJ L] (GJ D L):=by
 have rA:=SR L hl;refine cR.U8 ?_;refine N6 [.loc 37 0] L22 ?_;intro R hR;unfold GJ at hR;by_cases hc:wY L=0
 .obtain⟨Bd,pO⟩:=Ge hc;rw[hc]at rA;have zL:=Lf hN h0 L (by omega) pO;have cZ:=hI _ _ (by omega) (WZ hN (l:=L) (by omega) h0 pO);rw[if_pos hc]at hR;generalize cU D jV L=q at zL cZ hR;obtain⟨w,es⟩:=q;dsimp only at zL cZ hR;have kN:=cZ.l;simp[L22];refine cG [bJ L] rA ?_;simp;refine .inl (O7 [] (fs:=[]) (xs:=[bJ L]) (cs:=[]) (d:=17) rfl rfl zL ?_);rintro r B ⟨rfl,rfl⟩;refine⟨by simp[Wk.box,aO],?_⟩;simp[Wk.box,aO,aS];refine eO (fun m τ=>∃k:Nat,k<=w.aK.length/\m=w.aK.length-k/\τ=GI w (qJ w k) k) ⟨w.aK.length,GI w [] 0,Sub.trans' (Sub.mk (by simp[AS.cI]) (by simp[AS.cI,Wk.box,aO,aS])) (cI 37 3 1 7 rfl (by decide)),0,gV _,rfl,rfl⟩ ?_;rintro J hJ m τ ⟨k,hk,rfl,rfl⟩;by_cases aI:k<w.aK.length
  .obtain⟨x,hx⟩:∃x,w.aK[k]?=some x:=⟨w.aK[k],bB aI⟩;have hg:(w.aK.map Lt.pv)[k]?=some x.pv:=by rw[bW,hx];rfl
   simp only[Lt.pv]at hg;have PA:=cZ.lt x (dK hx);have lW:=Zgp w.aA w.bad (aS w.aK) w.aH (dL w.runs) x cZ.c cZ.b cZ.t PA.2.2.1 PA.2.2.2 cZ.fit;have hir:(x.passed&&!decide (cH w.aA w.bad w.aH x=1))=isRec w x:=rfl;rw[hir]at lW;rw[Lt.pv]at lW;have hw:=bN (k:=k) (by omega);have n7:=ZkC (w:=w) (k:=k);have h1:(qJ w k).length+1<=1000000:=by omega
   have hn:=hJ (w.aK.length-(k+1)) _ ⟨k+1,aI,rfl,rfl⟩;rw[Zih hx]at hn;have aG:w.aK.length-(k+1)<w.aK.length-k:=by omega
   generalize qJ w k=RL at hn h1 ⊢;simp[GI,Wk.box,aO,aS,aI,↓hg,aP];refine cM [.ptr (.par 0) 0,.pv (.agg [.i x.num,.i x.pieces,.i x.limit,.bool x.passed])] [(.par 0,aO (aL w.aA) (bI w.bad) (aS w.aK) (bH w.aH) (dL w.runs))] 32 [.loc 17 0] (by simp[aO,aS]) lW (by simp[aO]) ?_;cases hb:isRec w x with
   |true=>
    rw[hb,if_pos rfl]at hn;simp[aO,h1,aP,hw];exact⟨_,_,aG,Sub.mk (by simp) (by simp[Wk.box,aO,aS,iP]),hn⟩
   |false=>
    rw[hb,if_neg (by simp),uG]at hn;simp[aO,hw];exact⟨_,_,aG,Sub.mk (by simp) (by simp[Wk.box,aO,aS]),hn⟩
  .have he:k=w.aK.length:=by omega
   subst he;have hm:List.take (qJ w w.aK.length).length ((qJ w w.aK.length).map iP)=(qJ w w.aK.length).map iP:=fO (by simp);simp[GI,Wk.box,aO,hm];rw[<-hR];exact⟨_,rfl,by simp,fun m v h=>h⟩
 .have h3:=Gg hc;rw[h3]at rA;rw[if_neg hc]at hR;simp[L22];refine cG [bJ L] rA ?_;simp;rw[<-hR];exact⟨_,rfl,rfl,FW 5 _ _ rfl⟩
def OT (w:Wk)(n:Int)(t:Tt):Bool:=stM w.aA w.bad t.item t.day&&!stM w.aA (w.bad++[n]) t.item t.day
def V8 (w:Wk)(n:Int):Nat->List Int
 |0=>[]
 |k+1=>V8 w n k++(match w.aH[k]? with
  |some t=>if OT w n t=true then[(k:Int)]else[]
  |none=>[])
theorem Zo7 {w:Wk}{n:Int}{k:Nat}{t:Tt}(h:w.aH[k]?=some t):V8 w n (k+1)=V8 w n k++(if OT w n t=true then[(k:Int)]else[]):=by
 rw[V8,h]
theorem Zmq {w:Wk}{n:Int}:∀{k:Nat},(V8 w n k).length<=k
 |0=>fG _
 |k+1=>by
  have ih:=Zmq (w:=w) (n:=n) (k:=k);rw[V8,gD];split
  .split<;>simp<;>omega
  .simp;omega
def kn (w:Wk)(n:Int):Bool:=w.aA.any fun x=>decide (x.num=n)
def AK (D:Wk->ByteArray->Wk×Int)(L:List ByteArray)(n:Int):PV:=if wY L=0 then(if kn (cU D jV L).1 n=true then .bL [.aF false 1 ((V8 (cU D jV L).1 n (cU D jV L).1.aH.length).map iP),.i 0]else .bL [.aF false 1 [],.i 7])else .bL [.aF false 1 [],.i 3]
def OR (w:Wk)(n:Int):aJ:=aO (aL w.aA) (bI (w.bad++[n])) (aS w.aK) (bH w.aH) (dL w.runs)
def Io (w:Wk)(n:Int)(l:List Int)(k:Nat):AS:=
 ⟨[(7,.ptr (.loc 20 0) 0),(9,.ptr (.loc 32 0) 0),(10,.vec (.loc 67 0) 1 0 l.length),(48,.pv (.aF false 4 (w.aH.map Tt.pv))),(49,.pv (.i w.aH.length)),(50,.pv (.i (k:Int)))],
  [(.loc 20 0,w.box),(.loc 32 0,OR w n),(.loc 67 0,.arr 3 1 (l.map iP))]⟩
theorem Zj7 {I:Nat->Wk->Prop}{D:Wk->ByteArray->Wk×Int}(hN:WL I D)(h0:I 0 jV)(hI:∀k w,k<=50->I k w->yY w)(L:List ByteArray)(hl:L.length<=1000000)(n:Int)(hb9:∀k w,k<=50->I k w->w.bad.length<=900):aD prog 16 [bJ L,.i n] (AK D L n):=by
 have rA:=SR L hl;refine cR.U8 ?_;refine N6 [.loc 67 0] L16 ?_;intro R hR;unfold AK at hR;by_cases hc:wY L=0
 .obtain⟨Bd,pO⟩:=Ge hc;rw[hc]at rA;have zL:=Lf hN h0 L (by omega) pO;have fU:=WZ hN (l:=L) (by omega) h0 pO;have cZ:=hI _ _ (by omega) fU;have Uq:=hb9 _ _ (by omega) fU;clear fU;rw[if_pos hc]at hR;generalize cU D jV L=q at zL cZ hR Uq;obtain⟨w,es⟩:=q;dsimp only at zL cZ hR Uq;have hto:=cZ.t;have M7:=Yl w.aA n (bI w.bad) (aS w.aK) (bH w.aH) (dL w.runs) cZ.c;have mA:(w.aA.any fun x=>decide (x.num=n))=kn w n:=rfl;rw[mA]at M7;clear mA;simp[L16];refine cG [bJ L] rA ?_;simp;refine .inl (O7 [] (fs:=[]) (xs:=[bJ L]) (cs:=[]) (d:=20) rfl rfl zL ?_);rintro r B ⟨rfl,rfl⟩;refine⟨by simp[Wk.box,aO],?_⟩;simp[Wk.box,aO];refine cM [.ptr (.par 0) 0,.pv (.i n)] [(.par 0,aO (aL w.aA) (bI w.bad) (aS w.aK) (bH w.aH) (dL w.runs))] 25 [.loc 20 0] (by simp[aO]) M7 (by simp[aO]) ?_;cases hkv:kn w n with
  |false=>
   rw[hkv,if_neg (by simp)]at hR;simp[aO];rw[<-hR];exact⟨_,rfl,by simp,FW 5 _ _ rfl⟩
  |true=>
  rw[hkv,if_pos rfl]at hR;simp[aO,bI];refine .inl (cQ [] [.aF false 1 (w.bad.map iP),.i n] (Zma (w.bad.map iP) n (by rw[fV];omega)) ?_);have G9:w.bad.map iP++[.i n]=(w.bad++[n]).map iP:=by rw[mF];rfl
  rw[G9];have CX:(w.bad++[n]).length<=1000:=by rw[gD];simp;omega
  simp[-List.map_append,bH];refine eO (fun m τ=>∃k:Nat,k<=w.aH.length/\m=w.aH.length-k/\τ=Io w n (V8 w n k) k) ⟨w.aH.length,Io w n [] 0,Sub.trans' (Sub.mk (by simp[AS.cI]) (by simp[-List.map_append,OR,AS.cI,Wk.box,aO,bH,bI,aL])) (cI 67 3 1 10 rfl (by decide)),0,gV _,rfl,rfl⟩ ?_;rintro J hJ m τ ⟨k,hk,rfl,rfl⟩;by_cases aI:k<w.aH.length
  .obtain⟨t,hx⟩:∃t,w.aH[k]?=some t:=⟨w.aH[k],bB aI⟩;have hg:(w.aH.map Tt.pv)[k]?=some t.pv:=by rw[bW,hx];rfl
   simp only[Tt.pv]at hg;have EJ:=Gw w.aA w.bad (aS w.aK) (bH w.aH) (dL w.runs) cZ.c cZ.b t.gA t.item t.day t.rd;have pO:=Gw w.aA (w.bad++[n]) (aS w.aK) (bH w.aH) (dL w.runs) cZ.c CX t.gA t.item t.day t.rd;have e1:decide (((fA w.aA w.bad).c6 t.item t.day).2=0)=stM w.aA w.bad t.item t.day:=rfl;have e2:decide (((fA w.aA (w.bad++[n])).c6 t.item t.day).2=0)=stM w.aA (w.bad++[n]) t.item t.day:=rfl;rw[e1]at EJ;rw[e2]at pO;have hw:=bN (k:=k) (by omega);have n7:=Zmq (w:=w) (n:=n) (k:=k);have h1:(V8 w n k).length+1<=1000000:=by omega
   have hn:=hJ (w.aH.length-(k+1)) _ ⟨k+1,aI,rfl,rfl⟩;rw[Zo7 hx]at hn;unfold OT at hn;have aG:w.aH.length-(k+1)<w.aH.length-k:=by omega
   clear e1 e2 hJ;generalize V8 w n k=RL at hn h1 ⊢;generalize stM w.aA w.bad t.item t.day=a1 at hn EJ;generalize stM w.aA (w.bad++[n]) t.item t.day=a2 at hn pO;simp[-List.map_append,Io,OR,Wk.box,aO,bH,aI,↓hg,aP];refine cM [.ptr (.par 0) 0,.pv (.agg [.i t.gA,.i t.item,.i t.day,.i t.rd])] [(.par 0,aO (aL w.aA) (bI w.bad) (aS w.aK) (bH w.aH) (dL w.runs))] 57 [.loc 20 0] (by simp[aO,bI,bH]) EJ (by simp[aO]) ?_;cases a1 with
   |false=>
    rw[if_neg (by simp),uG]at hn;simp[-List.map_append,aO,hw];exact⟨_,_,aG,Sub.mk (by simp) (by simp[-List.map_append,OR,Wk.box,aO,bH,bI]),hn⟩
   |true=>
    simp[-List.map_append,aO];refine cM [.ptr (.par 0) 0,.pv (.agg [.i t.gA,.i t.item,.i t.day,.i t.rd])] [(.par 0,aO (aL w.aA) (bI (w.bad++[n])) (aS w.aK) (bH w.aH) (dL w.runs))] 61 [.loc 32 0] (by simp[-List.map_append,aO,bI,bH]) pO (by simp[aO]) ?_;cases a2 with
    |false=>
     rw[if_pos (by simp)]at hn;simp[-List.map_append,aO,h1,aP,hw];exact⟨_,_,aG,Sub.mk (by simp) (by simp[-List.map_append,OR,Wk.box,aO,bH,bI];simp[iP]),hn⟩
    |true=>
     rw[if_neg (by simp),uG]at hn;simp[-List.map_append,aO,hw];exact⟨_,_,aG,Sub.mk (by simp) (by simp[-List.map_append,OR,Wk.box,aO,bH,bI]),hn⟩
  .have he:k=w.aH.length:=by omega
   subst he;have hm:List.take (V8 w n w.aH.length).length ((V8 w n w.aH.length).map iP)=(V8 w n w.aH.length).map iP:=fO (by simp);simp[-List.map_append,Io,OR,Wk.box,aO,hm];rw[<-hR];exact⟨_,rfl,by simp,fun m v h=>h⟩
 .have h3:=Gg hc;rw[h3]at rA;rw[if_neg hc]at hR;simp[L16];refine cG [bJ L] rA ?_;simp;rw[<-hR];exact⟨_,rfl,rfl,FW 5 _ _ rfl⟩
def Wk.next (st:Wk)(r:Except Int Wk):Wk×Int:=match r with
 |.ok w=>(w,0)
 |.error e=>(st,e)
def uD (r:Except Int Wk)(a b c d e:PV):Prop:=∃w,r=.ok w/\aO a b c d e=w.box
theorem Zr4 {f:FuncId}{xs:List AV}{B:List (Site×aJ)}{r:Except Int Wk}(h:sZ prog f xs B (xW (uD r)) (uR (fun e=>r=.error e))):
  cR prog f xs B (xW (uD r))\/s4 prog f xs B (uR (fun e=>r=.error e)):=by
 cases r with
 |ok w=>exact .inl (h.ret (fun x B' ⟨n,_,h1,_⟩=>by cases h1))
 |error e=>exact .inr (h.B3 (fun r B' ⟨_,a,b,c,d,e',_,w,h1,_⟩=>by cases h1))
theorem ZuL (st:Wk)(s:ByteArray)(r:Except Int Wk)(hl:sZ prog 101 [.ptr (.par 0) 0,.pv (.str s)] [(.par 0,st.box)] (xW (uD r)) (uR (fun e=>r=.error e))):
  cR prog 55 [.ptr (.par 0) 0,.pv (.str s)] [(.par 0,st.box)] (fun x B=>x=.pv (.i (st.next r).2)/\B=[(.par 0,(st.next r).1.box)]):=by
 cases r with
 |ok w=>
  refine Ztc ((hl.ret (fun x B' ⟨n,_,h1,_⟩=>by cases h1)).mono ?_);rintro x B ⟨rfl,a,b,c,d,e,rfl,w',h1,h2⟩;cases h1;exact⟨rfl,by rw[h2];rfl⟩
 |error n=>
  refine Ztd ((hl.B3 (fun r B' ⟨_,a,b,c,d,e',_,w,h1,_⟩=>by cases h1)).mono ?_);rintro x B ⟨m,rfl,h1,a,b,c,d,e,rfl⟩;cases h1;exact⟨rfl,a,b,c,d,e,rfl⟩
def pU (tG:FuncId->List Int->Except Int Wk)(s:ByteArray):Except Int Wk:=match O6 s with
 |none=>.error 4
 |some (g,nums)=>tG g nums
theorem ZuT (st:Wk)(tG:FuncId->List Int->Except Int Wk)(s:ByteArray)(hs:s.size<=1000)
  (hw:∀g nums,O6 s=some (g,nums)->sZ prog g [.ptr (.par 0) 0,.pv (.aF false 1 (nums.map iP))] [(.par 0,st.box)] (xW (uD (tG g nums))) (uR (fun e=>tG g nums=.error e))):
  sZ prog 101 [.ptr (.par 0) 0,.pv (.str s)] [(.par 0,st.box)] (xW (uD (pU tG s))) (uR (fun e=>pU tG s=.error e)):=by
 refine ZuS s hs (fun h=>?_) (fun g nums h=>?_)
 .unfold pU;rw[h]
 .have e:pU tG s=tG g nums:=by unfold pU;rw[h]
  rw[e];exact Zr4 (hw g nums h)
theorem ZuF (st:Wk)(n:Int)(hn:-1000000000<n/\n<1000000000)(h:yY st)(hs:(st.aK.map Lt.num).Pairwise (·<·)):
  sZ prog 191 [.ptr (.par 0) 0,.pv (.aF false 1 [iP n])] [(.par 0,st.box)] (xW (uD ((jH (cH st.aA st.bad st.aH) st.aK n).map fun l=>{ st with aK:=l }))) (uR (fun e=>(jH (cH st.aA st.bad st.aH) st.aK n).map (fun l=>{ st with aK:=l })=.error e)):=by
 refine(ZuE st.aA st.bad st.aK st.aH (dL st.runs) n hn h.c h.b h.l h.t hs h.lt h.fit).mono ?_ ?_
 .rintro r B ⟨rfl,a,b,c,d,e,rfl,l',h1,rfl,rfl,rfl,rfl,rfl⟩;exact⟨rfl,_,_,_,_,_,rfl,{ st with aK:=l' },by rw[h1];rfl,rfl⟩
 .rintro x B ⟨m,rfl,h1,h2⟩;exact⟨m,rfl,by rw[h1];rfl,h2⟩
theorem Zun (st:Wk)(q:Tt)(hn:-1000000000<q.gA/\q.gA<1000000000)(h:yY st)(hs:(st.aK.map Lt.num).Pairwise (·<·)):
  sZ prog 190 [.ptr (.par 0) 0,.pv (.aF false 1 [iP q.gA,iP q.item,iP q.day,iP q.rd])] [(.par 0,st.box)] (xW (uD ((kP (stM st.aA st.bad) (cH st.aA st.bad st.aH) st.aK st.aH q).map fun l=>{ st with aH:=l }))) (uR (fun e=>(kP (stM st.aA st.bad) (cH st.aA st.bad st.aH) st.aK st.aH q).map (fun l=>{ st with aH:=l })=.error e)):=by
 refine(Zum st.aA st.bad st.aK st.aH (dL st.runs) q hn h.c h.b h.l h.t hs h.lt h.fit).mono ?_ ?_
 .rintro r B ⟨rfl,a,b,c,d,e,rfl,l',h1,rfl,rfl,rfl,rfl,rfl⟩;exact⟨rfl,_,_,_,_,_,rfl,{ st with aH:=l' },by rw[h1];rfl,rfl⟩
 .rintro x B ⟨m,rfl,h1,h2⟩;exact⟨m,rfl,by rw[h1];rfl,h2⟩
theorem Zu9 (st:Wk)(x:Ct)(hl:st.aA.length<=900)(hb:st.bad.length<=1000):
  sZ prog 187 [.ptr (.par 0) 0,.pv (.aF false 1 [iP x.num,iP x.it,iP x.src,iP x.day,iP x.valid,iP x.diff.lo,iP x.diff.hi])] [(.par 0,st.box)] (xW (uD ((lX st.aA st.bad x).map fun l=>{ st with aA:=l }))) (uR (fun e=>(lX st.aA st.bad x).map (fun l=>{ st with aA:=l })=.error e)):=by
 refine(Zu8 st.aA st.bad (aS st.aK) (bH st.aH) (dL st.runs) x hl hb).mono ?_ ?_
 .rintro r B ⟨rfl,a,b,c,d,e,rfl,l',h1,rfl,rfl,rfl,rfl,rfl⟩;exact⟨rfl,_,_,_,_,_,rfl,{ st with aA:=l' },by rw[h1];rfl,rfl⟩
 .rintro x B ⟨m,rfl,h1,h2⟩;exact⟨m,rfl,by rw[h1];rfl,h2⟩
theorem YM {F:Nat}(hF:407<F)(st:Wk)(h r o:Int)(hr:st.runs.length<=900):
  sZ prog 192 [.ptr (.par 0) 0,.pv (.aF false 1 [iP h,iP r,iP o])] [(.par 0,st.box)] (xW (uD ((runM F st.runs h r o).map fun l=>{ st with runs:=l }))) (uR (fun e=>(runM F st.runs h r o).map (fun l=>{ st with runs:=l })=.error e)):=by
 refine(YL hF st.runs (aL st.aA) (bI st.bad) (aS st.aK) (bH st.aH) h r o hr).mono ?_ ?_
 .rintro r' B ⟨rfl,a,b,c,d,e,rfl,l',h1,rfl,rfl,rfl,rfl,rfl⟩;exact⟨rfl,_,_,_,_,_,rfl,{ st with runs:=l' },by rw[h1];rfl,rfl⟩
 .rintro x B ⟨m,rfl,h1,h2⟩;exact⟨m,rfl,by rw[h1];rfl,h2⟩
def JN (v:Int):Prop:=-1000000000<v/\v<1000000000
theorem Zhl:∀{r:List ByteArray} {l:List Int},mL r=some l->l.length=r.length/\∀v∈l,JN v
 |[],l,h=>by cases h;exact⟨rfl,fun v hv=>by cases hv⟩
 |x::r,l,h=>by
  rw[Mw]at h;cases hx:lK x with
  |none=>rw[hx]at h;cases h
  |some n=>
   rw[hx]at h;obtain⟨l',h1,rfl⟩:=dZ.1 h;obtain⟨h2,h3⟩:=Zhl h1;refine⟨by rw[pB,pB,h2],fun v hv=>?_⟩;rcases jN.1 hv with rfl|hv
   .exact Zs9 hx
   .exact h3 v hv
theorem Zs1 {s:ByteArray}{g:FuncId}{nums:List Int}(h:O6 s=some (g,nums)):∃l0 k,gT l0=some (k,g)/\nums.length=k/\∀v∈nums,JN v:=by
 unfold O6 at h;split at h
 .cases h
 .rename_i l0 r _;split at h
  .rename_i k g' hw;split at h
   .rename_i hr;obtain⟨l,h1,h2⟩:=dZ.1 h;cases h2;obtain⟨h3,h4⟩:=Zhl h1;exact⟨l0,k,hw,by omega,h4⟩
   .cases h
  .cases h
def pS (l:List Ct)(bad:List Int)(n:Int):Except Int (List Int):=
 if(l.any fun y=>decide (y.num=n))=true then(if n∈bad then .error 6 else .ok (bad.take (dI bad n)++n::bad.drop (dI bad n)))else .error 7
def pL (ls:List Lt)(x:Lt):Except Int (List Lt):=
 if(decide (1<=x.num)&&decide (x.num<=99))=true/\(decide (4<=x.pieces)&&decide (x.pieces<=30))=true/\(decide (0<=x.limit)&&decide (x.limit<=1000))=true then
  (if x.num∈ls.map Lt.num then .error 6 else .ok (ls.take (dI (ls.map Lt.num) x.num)++x::ls.drop (dI (ls.map Lt.num) x.num)))
 else .error 2
def tG (F:Nat)(st:Wk)(g:FuncId)(nums:List Int):Except Int Wk:=
 if g=187 then(match nums with
  |[a,b,c,d,e,f,h]=>(lX st.aA st.bad { num:=a,it:=b,src:=c,day:=d,valid:=e,diff:=⟨f,h⟩}).map fun l=>{ st with aA:=l }
  |_=>.error 4)
 else if g=188 then(match nums with
  |[n]=>(pS st.aA st.bad n).map fun l=>{ st with bad:=l }
  |_=>.error 4)
 else if g=189 then(match nums with
  |[n,p,m]=>(pL st.aK ⟨n,p,m,false⟩).map fun l=>{ st with aK:=l }
  |_=>.error 4)
 else if g=190 then(match nums with
  |[a,b,c,d]=>(kP (stM st.aA st.bad) (cH st.aA st.bad st.aH) st.aK st.aH ⟨a,b,c,d⟩).map fun l=>{ st with aH:=l }
  |_=>.error 4)
 else if g=191 then(match nums with
  |[n]=>(jH (cH st.aA st.bad st.aH) st.aK n).map fun l=>{ st with aK:=l }
  |_=>.error 4)
 else(match nums with
  |[h,r,o]=>(runM F st.runs h r o).map fun l=>{ st with runs:=l }
  |_=>.error 4)
def EB (st:Wk):Prop:=∀n,JN n->sZ prog 188 [.ptr (.par 0) 0,.pv (.aF false 1 [iP n])] [(.par 0,st.box)] (xW (uD ((pS st.aA st.bad n).map fun l=>{ st with bad:=l }))) (uR (fun e=>(pS st.aA st.bad n).map (fun l=>{ st with bad:=l })=.error e))
def EA (st:Wk):Prop:=∀n p m,JN n->JN p->JN m->sZ prog 189 [.ptr (.par 0) 0,.pv (.aF false 1 [iP n,iP p,iP m])] [(.par 0,st.box)] (xW (uD ((pL st.aK ⟨n,p,m,false⟩).map fun l=>{ st with aK:=l }))) (uR (fun e=>(pL st.aK ⟨n,p,m,false⟩).map (fun l=>{ st with aK:=l })=.error e))
theorem Vy {F:Nat}(hF:407<F)(st:Wk)(h:yY st)(hc:st.aA.length<=900)(hr:st.runs.length<=900)(hs:(st.aK.map Lt.num).Pairwise (·<·))(hB:EB st)(hL:EA st){l0:ByteArray}{k:Nat}{g:FuncId}{nums:List Int}(hw:gT l0=some (k,g))(hk:nums.length=k)(hn:∀v∈nums,JN v):
  sZ prog g [.ptr (.par 0) 0,.pv (.aF false 1 (nums.map iP))] [(.par 0,st.box)] (xW (uD (tG F st g nums))) (uR (fun e=>tG F st g nums=.error e)):=by
 unfold gT at hw;split at hw
 .cases hw
  match nums,hk,hn with
  |[a,b,c,d,e,f,i],_,_=>exact Zu9 st { num:=a,it:=b,src:=c,day:=d,valid:=e,diff:=⟨f,i⟩} hc h.b
 split at hw
 .cases hw
  match nums,hk,hn with
  |[n],_,hn=>exact hB n (hn n (by simp))
 split at hw
 .cases hw
  match nums,hk,hn with
  |[n,p,m],_,hn=>exact hL n p m (hn n (by simp)) (hn p (by simp)) (hn m (by simp))
 split at hw
 .cases hw
  match nums,hk,hn with
  |[a,b,c,d],_,hn=>exact Zun st ⟨a,b,c,d⟩ (hn a (by simp)) h hs
 split at hw
 .cases hw
  match nums,hk,hn with
  |[n],_,hn=>exact ZuF st n (hn n (by simp)) h hs
 split at hw
 .cases hw
  match nums,hk,hn with
  |[a,r,o],_,_=>exact YM hF st a r o hr
 cases hw
def lI (F:Nat)(st:Wk)(s:ByteArray):Wk×Int:=st.next (pU (tG F st) s)
theorem Dr {F:Nat}(hF:407<F)(st:Wk)(s:ByteArray)(hz:s.size<=1000)(h:yY st)(hc:st.aA.length<=900)(hr:st.runs.length<=900)(hs:(st.aK.map Lt.num).Pairwise (·<·))(hB:EB st)(hL:EA st):
  cR prog 55 [.ptr (.par 0) 0,.pv (.str s)] [(.par 0,st.box)] (fun x B=>x=.pv (.i (lI F st s).2)/\B=[(.par 0,(lI F st s).1.box)]):=
 ZuL st s _ (ZuT st _ s hz fun g nums hp=>by
  obtain⟨l0,k,h1,h2,h3⟩:=Zs1 hp;exact Vy hF st h hc hr hs hB hL h1 h2 h3)
section
attribute [local irreducible] Bk.held Bk.nums Bk.iG
set_option linter.unusedSimpArgs false
theorem ZtD (b:Bk)(hb:b.ok)(c:Ct)(hc:c∈b.aA)(bad held:List Int)(h1:bad.length<=1000000)(h2:held.length<=1000000):aD prog 97 [b.pv,c.pv,.aF false 1 (bad.map aN),.aF false 1 (held.map aN)] (.bool (b.Q3 bad held c)):=by
 obtain⟨_,_,_,_,_,s0,s1,_⟩:=wW hb hc;obtain⟨j,hj,xH,z,hz,D8,pY⟩:=Lx s0 s1;have gN:=hb.c;obtain⟨P,hP⟩:∃P:Ct->Bool,P=fun o=>yX c o&&held.contains o.num:=⟨_,rfl⟩
 have hT:b.Q3 bad held c=((z.gU||(b.aA.take b.aA.length).any P)&&!bad.contains c.num):=by
  rw[nF,hP,<-D8];rfl
 rw[hT];clear hT;refine cS L97 ?_;simp[-getElem?_pos,-List.getElem?_map,-List.take_length,L97,Bk.pv,aT,aL,Ct.pv,hj,xH,pY];refine eO (fun n τ=>∃k:Nat,k<=b.aA.length/\n=b.aA.length-k/\τ=⟨[(2,.pv (.aF false 1 (bad.map aN))),(3,.pv (.aF false 1 (held.map aN))),(4,.ptr (.loc 4 0) 0),(5,.ptr (.loc 5 0) 0),(9,.pv (.bool (z.gU||(b.aA.take k).any P))),(10,.pv (.i k))],[(.loc 4 0,.cells b.cells),(.loc 5 0,.cells c.cells)]⟩)
  ⟨b.aA.length,⟨[(2,.pv (.aF false 1 (bad.map aN))),(3,.pv (.aF false 1 (held.map aN))),(4,.ptr (.loc 4 0) 0),(5,.ptr (.loc 5 0) 0),(9,.pv (.bool (z.gU||(b.aA.take 0).any P))),(10,.pv (.i 0))],[(.loc 4 0,.cells b.cells),(.loc 5 0,.cells c.cells)]⟩,Sub.mk (by simp) (by simp[Bk.cells,aT,aL,Ct.cells,hj]),0,by omega,rfl,rfl⟩ ?_
 rintro J hJ n τ ⟨k,hk,rfl,rfl⟩;by_cases aI:k<b.aA.length
 .obtain⟨o,ho,K9,pZ⟩:=zS aI;have hw:=bN (k:=k) (by omega);have aB:=hJ _ _ ⟨k+1,aI,rfl,rfl⟩;rw[WU ho,<-Bool.or_assoc]at aB;have aG:b.aA.length-(k+1)<b.aA.length-k:=by omega
  have hr:=ZsU c o (Zek hb K9);have hh:=wH held o.num h2;have H2:P o=(yX c o&&held.contains o.num):=by rw[hP]
  clear hJ hP;generalize(z.gU||(b.aA.take k).any P)=A at *;cases A
  case true=>
   simp[Bk.cells,aT,aL,Ct.cells,aI,pZ,hw];exact⟨_,_,aG,Sub.mk (by simp) (by simp[Bk.cells,aT,aL,Ct.cells]),aB⟩
  case false=>
  simp[-getElem?_pos,-List.getElem?_map,Bk.cells,aT,aL,Ct.cells,aI,pZ,hw];refine AF (k:=0) (fs:=[]) (xs:=[c.pv,o.pv]) (cs:=[]) rfl rfl hr rfl ?_;cases e1:yX c o
  .rw[e1,Bool.false_and]at H2;rw[H2]at aB;simp[Bk.cells,aT,aL,Ct.cells,aI,pZ,hw];exact⟨_,_,aG,Sub.mk (by simp) (by simp[Bk.cells,aT,aL,Ct.cells]),aB⟩
  rw[e1,Bool.true_and]at H2;rw[H2]at aB;simp[-getElem?_pos,-List.getElem?_map,Bk.cells,aT,aL,Ct.cells,aI,pZ,hw];refine cG [.aF false 1 (held.map aN),.i o.num] hh ?_;simp[Bk.cells,aT,aL,Ct.cells,aI,pZ,hw];exact⟨_,_,aG,Sub.mk (by simp) (by simp[Bk.cells,aT,aL,Ct.cells]),aB⟩
 have he:k=b.aA.length:=by omega
 subst he;clear hJ;have hh:=wH bad c.num h1;generalize(z.gU||(b.aA.take b.aA.length).any P)=A at *;cases A
 .simp[Bk.cells,aT,aL,Ct.cells]
 simp[Bk.cells,aT,aL,Ct.cells];refine cG [.aF false 1 (bad.map aN),.i c.num] hh ?_;simp
end
section
theorem ZfY {b:Bk}{bad:List Int}:∀k,(b.iG bad k).length<=k
 |0=>fG _
 |k+1=>by
  rw[Hb,gD]
  have:=ZfY (b:=b) (bad:=bad) k
  split<;>simp<;>omega
theorem ZiF {b:Bk}(hb:b.ok){bad:List Int}:b.iG bad 1=[]:=by
 have h0:b.iG bad 0=[]:=rfl;rw[Hb,h0,if_neg]
 .rfl
 rw[Bool.not_eq_true,List.any_eq_false];intro c hc
 have:=(wW hb hc).1
 simp;omega
attribute [local irreducible] Bk.held Bk.nums Bk.iG
def nA (b:Bk)(bad:List Int)(n:Nat):AS:=⟨[(1,.pv (.aF false 1 (bad.map aN))),(2,.ptr (.loc 2 0) 0),(5,.vec (.loc 46 0) 1 0 (b.iG bad n).length),(6,.pv (.i n))],[(.loc 46 0,.arr 3 1 ((b.iG bad n).map aN)),(.loc 2 0,.cells b.cells)]⟩
def A7 (b:Bk)(bad:List Int)(n:Nat)(is:Bool)(i:Nat):AS:=⟨(7,.pv (.bool is))::(8,.pv (.i i))::(nA b bad n).tm,(nA b bad n).bx⟩
theorem ZsQ (b:Bk)(hb:b.ok)(bad:List Int)(h1:bad.length<=1000000):cR prog 50 ([b.pv,.aF false 1 (bad.map aN)].map .pv) [] (fun r B=>r=.pv (.aF false 1 ((b.held bad).map aN))/\B=[]):=by
 have gN:=hb.c;refine cF [.loc 46 0] L50 ?_;have hHB:b.held bad=b.iG bad 1000:=by unfold Bk.held;rfl
 rw[hHB];generalize hR:(fun(r:AV) (B:List (Site×aJ))=>r=.pv (.aF false 1 ((b.iG bad 1000).map aN))/\B=[])=R;simp[L50,Bk.pv];refine eO (fun m τ=>∃n:Nat,n<=1000/\m=1000-n/\τ=nA b bad n) ⟨999,nA b bad 1,Sub.trans' (Sub.mk (by simp[AS.cI,ZiF hb]) (by simp[AS.cI,Bk.cells,ZiF hb])) (cI 46 3 1 5 rfl (by decide)),1,by omega,rfl,rfl⟩ ?_;rintro J hJ m τ ⟨n,hn,rfl,rfl⟩;have HN:=ZfY (b:=b) (bad:=bad) n;by_cases aI:n<1000
 .have hw:IntKind.i64.wrap ((n:Int)+1)=((n+1:Nat):Int):=bN (by omega);have hle:decide ((n:Int)<=999)=true:=by simp;omega
  have aB:=hJ _ _ ⟨n+1,aI,rfl,rfl⟩;have aG:1000-(n+1)<1000-n:=by omega
  obtain⟨P,hP⟩:∃P:Ct->Bool,P=fun o=>decide (o.num=(n:Int))&&b.Q3 bad (b.iG bad n) o:=⟨_,rfl⟩
  have eJ:b.iG bad (n+1)=b.iG bad n++(if(b.aA.take b.aA.length).any P=true then[(n:Int)]else[]):=by
   rw[Hb,nF,hP]
  clear hJ;simp[-List.take_length,-decide_eq_true_eq,-decide_eq_false_iff_not,nA,Bk.cells,hle];refine eO (fun m τ=>∃i:Nat,i<=b.aA.length/\m=b.aA.length-i/\τ=A7 b bad n ((b.aA.take i).any P) i) ⟨b.aA.length,A7 b bad n ((b.aA.take 0).any P) 0,Sub.mk (by simp[nA]) (by simp[nA,Bk.cells]),0,by omega,rfl,rfl⟩ ?_;rintro J2 uS m τ ⟨i,hi,rfl,rfl⟩;by_cases kH:i<b.aA.length
  .obtain⟨o,ho,K9,pZ⟩:=zS kH;have BO:=bN (k:=i) (by omega);have cA:=uS _ _ ⟨i+1,kH,rfl,rfl⟩;rw[WU ho]at cA;have iF:b.aA.length-(i+1)<b.aA.length-i:=by omega
   have hh:=ZtD b hb o K9 bad (b.iG bad n) h1 (by omega);have H2:P o=(decide (o.num=(n:Int))&&b.Q3 bad (b.iG bad n) o):=by rw[hP]
   clear uS hP aB eJ;generalize hA:(b.aA.take i).any P=A at *;have hU:((b.iG bad n).map aN).take (b.iG bad n).length=(b.iG bad n).map aN:=fO (by simp);cases A
   case true=>
    simp[A7,nA,Bk.cells,aT,aL,kH,BO];exact⟨_,_,iF,Sub.mk (by simp[nA]) (by simp[nA,Bk.cells,aT,aL]),cA⟩
   case false=>
   cases e1:decide (o.num=(n:Int))
   .rw[e1,Bool.false_and]at H2;rw[H2]at cA;simp[-getElem?_pos,-List.getElem?_map,-decide_eq_true_eq,-decide_eq_false_iff_not,A7,nA,Bk.cells,aT,aL,kH,pZ,BO,e1];exact⟨_,_,iF,Sub.mk (by simp[A7,nA]) (by simp[A7,nA,Bk.cells,aT,aL]),cA⟩
   rw[e1,Bool.true_and]at H2;rw[H2]at cA;simp[-getElem?_pos,-List.getElem?_map,-decide_eq_true_eq,-decide_eq_false_iff_not,A7,nA,Bk.cells,aT,aL,kH,pZ,e1];refine gF (k:=0) (fs:=[]) (xs:=[b.pv,o.pv,.aF false 1 (bad.map aN),.aF false 1 ((b.iG bad n).map aN)]) (cs:=[]) rfl (by simp[jE,AV.snap,AV.FB,Bk.pv,aT,aL,Ct.pv,hU]) hh rfl ?_;simp[BO];exact⟨_,_,iF,Sub.mk (by simp[nA]) (by simp[nA,Bk.cells,aT,aL]),cA⟩
  have he:i=b.aA.length:=by omega
  subst he;clear uS hP;generalize(b.aA.take b.aA.length).any P=A at *;cases A
  .rw[if_neg (by simp),uG]at eJ;simp[A7,nA,Bk.cells,aT,aL,hw];exact⟨_,_,aG,Sub.mk (by simp[eJ]) (by simp[Bk.cells,aT,aL,eJ]),aB⟩
  .rw[if_pos rfl]at eJ;have D3:(b.iG bad n).length<=999999:=by omega
   have hU:((b.iG bad n).map aN).take (b.iG bad n).length=(b.iG bad n).map aN:=fO (by simp);simp[A7,nA,Bk.cells,aT,aL,hw,aP,D3];refine⟨_,_,aG,Sub.mk ?_ ?_,aB⟩
   .simp[eJ]
   .simp[Bk.cells,aT,aL,eJ,aN]
 have he:n=1000:=by omega
 subst he;clear hJ;have hU:((b.iG bad 1000).map aN).take (b.iG bad 1000).length=(b.iG bad 1000).map aN:=fO (by simp);simp[nA,Bk.cells,hU];rw[<-hR];simp
end
section
theorem Zkv (r:Cr):(iX r.lo (-100000) r.hi&&decide (r.hi<=100000))=r.okB:=by
 unfold Cr.okB A1 iX;rw[qS];simp;omega
def It.dI (x:It):Bool:=iX x.dR 0 100&&x.val.okB&&(x.gU||(decide (x.val.lo=0)&&decide (x.val.hi=0)))
theorem It.ZxR (x:It):x.okB=x.dI:=by
 unfold It.okB It.dI;congr 2;obtain⟨d,s,⟨lo,hi⟩⟩:=x;rw[qS];simp
def jZ (x y:Ct):Bool:=(decide (x.num=y.num)&&decide (x≠y))||(decide (y.num<x.num)&&decide (x.day<y.day))
theorem Zmx {b:Bk}:b.zY=!(b.aA.all fun x=>b.aA.all fun y=>!jZ x y):=by
 have e:b.zY=b.aA.any fun x=>b.aA.any fun y=>jZ x y:=rfl
 rw[e,qS];simp
theorem Zpz (b:Bk)(h1:b.items.length<=1000)(h2:b.aA.length<=1000):aD prog 105 [b.pv] (.i b.fault):=by
 have qP:b.xK=(decide (8<b.items.length)||decide (24<b.aA.length)):=rfl;have lO:b.bad=(!(b.items.all It.okB)||!(b.aA.all b.uX)):=rfl;obtain⟨F,hF⟩:∃F,b.fault=F:=⟨_,rfl⟩;have f3:b.xK=true->F=3:=fun h=>by rw[<-hF,Zf6 h]
 have f1:b.xK=false->b.bad=true->F=1:=fun h h'=>by rw[<-hF,Zf7 h h']
 have f6:b.xK=false->b.bad=false->b.zY=true->F=6:=fun h h' Vt=>by rw[<-hF,Zf5 h h' Vt]
 have f0:b.xK=false->b.bad=false->b.zY=false->F=0:=fun h h' Vt=>by rw[<-hF,Gx h h' Vt]
 rw[hF];clear hF;refine cS L105 ?_;by_cases c1:8<b.items.length
 .have k1:(8:Int)<(b.items.length:Int):=by omega
  have C0:¬((b.items.length:Int)<=8):=by omega
  simp[L105,Bk.pv,aT,aL,k1,f3 (by rw[qP];simp[c1])]
 have d1:decide ((8:Int)<(b.items.length:Int))=false:=by simp;omega
 by_cases c2:24<b.aA.length
 .have d2:decide ((24:Int)<(b.aA.length:Int))=true:=by simp;omega
  simp[-decide_eq_true_eq,-decide_eq_false_iff_not,L105,Bk.pv,aT,aL,d1,d2,f3 (by rw[qP];simp[c2])]
 have d2:decide ((24:Int)<(b.aA.length:Int))=false:=by simp;omega
 have GY:b.xK=false:=by rw[qP];simp[c1,c2]
 have f1:=f1 GY;have f6:=f6 GY;have f0:=f0 GY;clear f3 qP GY;simp[-decide_eq_true_eq,-decide_eq_false_iff_not,L105,Bk.pv,aT,aL,d1,d2];refine eO (fun n τ=>∃k:Nat,k<=b.items.length/\n=b.items.length-k/\(∀(j:Nat) (x:It),j<k->b.items[j]?=some x->x.okB=true)/\τ=⟨[(1,.ptr (.loc 1 0) 0),(3,.pv (.i k))],[(.loc 1 0,.cells b.cells)]⟩)
  ⟨b.items.length,⟨[(1,.ptr (.loc 1 0) 0),(3,.pv (.i 0))],[(.loc 1 0,.cells b.cells)]⟩,Sub.mk (by simp) (by simp[Bk.cells,aT,aL]),0,by omega,rfl,(fun j x hj=>by omega),rfl⟩ ?_
 rintro J hJ n τ ⟨k,hk,rfl,hinv,rfl⟩;by_cases aI:k<b.items.length
 .obtain⟨z,hz⟩:∃z,b.items[k]?=some z:=⟨b.items[k],bB aI⟩;have pY:(b.items.map It.pv)[k]?=some (.agg [.i z.dR,.bool z.gU,.i z.val.lo,.i z.val.hi]):=by rw[bW,hz];rfl
  have hw:=bN (k:=k) (by omega);have cZ:=It.ZxR z;unfold It.dI at cZ;have jL:z.okB=false->F=1:=fun h=>f1 (by rw[lO,Kx hz h];rfl)
  have aB:=fun h:z.okB=true=>hJ _ _ ⟨k+1,aI,rfl,Mi hinv hz h,rfl⟩
  have fU:=yC z.dR 0 100;have jJ:=Zm6 z.val;rw[Zkv]at jJ;have aG:b.items.length-(k+1)<b.items.length-k:=by omega
  clear hJ;simp[-decide_eq_true_eq,-decide_eq_false_iff_not,Bk.cells,aT,aL,aI,↓pY];refine cG [.i z.dR,.i 0,.i 100] fU ?_;cases e1:iX z.dR 0 100
  .rw[e1]at cZ;simp[jL cZ]
  simp[-decide_eq_true_eq,-decide_eq_false_iff_not];refine cG [z.val.pv] jJ ?_;cases e2:z.val.okB
  .rw[e1,e2]at cZ;simp[jL cZ]
  rw[e1,e2]at cZ;cases e3:z.gU
  .cases e4:decide (z.val.lo=0)
   .rw[e3,e4]at cZ;simp[-decide_eq_true_eq,-decide_eq_false_iff_not,e4,jL cZ]
   .cases e5:decide (z.val.hi=0)
    .rw[e3,e4,e5]at cZ;simp[-decide_eq_true_eq,-decide_eq_false_iff_not,e4,e5,jL cZ]
    .rw[e3,e4,e5]at cZ;have aB:=aB cZ;simp[-decide_eq_true_eq,-decide_eq_false_iff_not,e4,e5,hw];exact⟨_,_,aG,Sub.mk (by simp) (by simp[Bk.cells,aT,aL]),aB⟩
  .rw[e3]at cZ;have aB:=aB cZ;simp[-decide_eq_true_eq,-decide_eq_false_iff_not,hw];exact⟨_,_,aG,Sub.mk (by simp) (by simp[Bk.cells,aT,aL]),aB⟩
 have he:k=b.items.length:=by omega
 subst he;have eS:=Lq hinv;rw[eS]at lO;clear hJ hinv;have HQ:∀i:Int,b.uK i=true->∃j:Nat,i=j/\j<b.items.length/\∃z,b.items[j]?=some z/\b.item i=z:=fun i hi=>by
  unfold Bk.uK iX at hi;simp only[dJ,decide_eq_true_eq]at hi;refine⟨i.toNat,by omega,by omega,b.items[i.toNat]'(by omega),bB _,?_⟩;unfold Bk.item;rw[bB (by omega)];rfl
 have Jn:IntKind.i64.wrap ((b.items.length:Int)-1)=(b.items.length:Int)-1:=wrap64 (by omega);simp[Bk.cells,aT,aL];refine eO (fun n τ=>∃k:Nat,k<=b.aA.length/\n=b.aA.length-k/\(∀(j:Nat) (x:Ct),j<k->b.aA[j]?=some x->b.uX x=true)/\τ=⟨[(1,.ptr (.loc 1 0) 0),(5,.pv (.i k))],[(.loc 1 0,.cells b.cells)]⟩)
  ⟨b.aA.length,⟨[(1,.ptr (.loc 1 0) 0),(5,.pv (.i 0))],[(.loc 1 0,.cells b.cells)]⟩,Sub.mk (by simp) (by simp[Bk.cells,aT,aL]),0,by omega,rfl,(fun j x hj=>by omega),rfl⟩ ?_
 rintro J hJ n τ ⟨k,hk,rfl,hinv,rfl⟩;by_cases aI:k<b.aA.length
 .obtain⟨c,hc⟩:∃c,b.aA[k]?=some c:=⟨b.aA[k],bB aI⟩;have x6:(b.aA.map Ct.pv)[k]?=some (.agg [.i c.num,.i c.it,.i c.src,.i c.day,.i c.valid,.i c.diff.lo,.i c.diff.hi]):=by rw[bW,hc];rfl
  have hw:=bN (k:=k) (by omega);have cZ:b.uX c=(iX c.num 1 999&&b.uK c.it&&!(b.item c.it).gU&&b.uK c.src&&decide (c.src≠c.it)&&iX c.day 0 1000&&iX c.valid 0 1000&&c.diff.okB):=rfl;have jL:b.uX c=false->F=1:=fun h=>f1 (by rw[lO,Kx hc h];rfl)
  have aB:=fun h:b.uX c=true=>hJ _ _ ⟨k+1,aI,rfl,Mi hinv hc h,rfl⟩
  have QI:=yC c.num 1 999;have QH:aD prog 116 [.i c.it,.i 0,.i ((b.items.length:Int)-1)] (.bool (b.uK c.it)):=yC c.it 0 _;have Tu:aD prog 116 [.i c.src,.i 0,.i ((b.items.length:Int)-1)] (.bool (b.uK c.src)):=yC c.src 0 _;have Ts:=yC c.day 0 1000;have Tr:=yC c.valid 0 1000;have jJ:=Zm6 c.diff;rw[Zkv]at jJ;have hi4:=HQ c.it;have aG:b.aA.length-(k+1)<b.aA.length-k:=by omega
  clear hJ;simp[-decide_eq_true_eq,-decide_eq_false_iff_not,Bk.cells,aT,aL,aI,↓x6];refine cG [.i c.num,.i 1,.i 999] QI ?_;cases e1:iX c.num 1 999
  .rw[e1]at cZ;simp[jL (by rw[cZ];simp)]
  simp[-decide_eq_true_eq,-decide_eq_false_iff_not,Jn];refine cG [.i c.it,.i 0,.i ((b.items.length:Int)-1)] QH ?_;cases e2:b.uK c.it
  .rw[e2]at cZ;simp[jL (by rw[cZ];simp)]
  obtain⟨j,hj,xH,z,hz,D8⟩:=hi4 e2;have pY:(b.items.map It.pv)[j]?=some (.agg [.i z.dR,.bool z.gU,.i z.val.lo,.i z.val.hi]):=by rw[bW,hz];rfl
  simp[-decide_eq_true_eq,-decide_eq_false_iff_not,Jn];refine cG [.i c.src,.i 0,.i ((b.items.length:Int)-1)] Tu ?_;cases e3:b.uK c.src
  .rw[e3]at cZ;simp[jL (by rw[cZ];simp)]
  cases e4:decide (c.src=c.it)
  case true=>
   have Vw:decide (c.src≠c.it)=false:=by simpa using e4
   simp[-decide_eq_true_eq,-decide_eq_false_iff_not,e4,jL (by rw[cZ,Vw];simp)]
  case false=>
  have Vw:decide (c.src≠c.it)=true:=by simpa using e4
  rw[e1,e2,e3,Vw,D8]at cZ;have e4j:decide (c.src=(j:Int))=false:=by rw[<-hj];exact e4
  cases e5:z.gU
  case true=>
   rw[e5]at cZ pY;simp[-decide_eq_true_eq,-decide_eq_false_iff_not,e4j,hj,↓pY,jL (by rw[cZ];simp)]
  case false=>
  rw[e5]at cZ pY;simp[-decide_eq_true_eq,-decide_eq_false_iff_not,e4j,hj,↓pY];refine cG [.i c.day,.i 0,.i 1000] Ts ?_;cases e6:iX c.day 0 1000
  .rw[e6]at cZ;simp[jL (by rw[cZ];simp)]
  simp[-decide_eq_true_eq,-decide_eq_false_iff_not];refine cG [.i c.valid,.i 0,.i 1000] Tr ?_;cases e7:iX c.valid 0 1000
  .rw[e7]at cZ;simp[jL (by rw[cZ];simp)]
  simp[-decide_eq_true_eq,-decide_eq_false_iff_not];refine cG [c.diff.pv] jJ ?_;cases e8:c.diff.okB
  .rw[e8]at cZ;simp[jL (by rw[cZ];simp)]
  rw[e6,e7,e8]at cZ;have aB:=aB (by rw[cZ];rfl);simp[-decide_eq_true_eq,-decide_eq_false_iff_not,hw];exact⟨_,_,aG,Sub.mk (by simp) (by simp[Bk.cells,aT,aL]),aB⟩
 have he:k=b.aA.length:=by omega
 subst he;have eS:=Lq hinv;rw[eS]at lO;clear hJ hinv;have f6:=f6 lO;have f0:=f0 lO;clear f1;have X2:=Zmx (b:=b);simp[Bk.cells,aT,aL];refine eO (fun n τ=>∃k:Nat,k<=b.aA.length/\n=b.aA.length-k/\(∀(j:Nat) (x:Ct),j<k->b.aA[j]?=some x->(b.aA.all fun y=>!jZ x y)=true)/\τ=⟨[(1,.ptr (.loc 1 0) 0),(7,.pv (.i k))],[(.loc 1 0,.cells b.cells)]⟩)
  ⟨b.aA.length,⟨[(1,.ptr (.loc 1 0) 0),(7,.pv (.i 0))],[(.loc 1 0,.cells b.cells)]⟩,Sub.mk (by simp) (by simp[Bk.cells,aT,aL]),0,by omega,rfl,(fun j x hj=>by omega),rfl⟩ ?_
 rintro J hJ n τ ⟨k,hk,rfl,hinv,rfl⟩;by_cases aI:k<b.aA.length
 .obtain⟨c,hc⟩:∃c,b.aA[k]?=some c:=⟨b.aA[k],bB aI⟩;have x6:(b.aA.map Ct.pv)[k]?=some (.agg [.i c.num,.i c.it,.i c.src,.i c.day,.i c.valid,.i c.diff.lo,.i c.diff.hi]):=by rw[bW,hc];rfl
  have hw:=bN (k:=k) (by omega);have aB:=fun h:(b.aA.all fun y=>!jZ c y)=true=>hJ _ _ ⟨k+1,aI,rfl,Mi (p:=fun x=>b.aA.all fun y=>!jZ x y) hinv hc h,rfl⟩
  have mM:(b.aA.all fun y=>!jZ c y)=false->F=6:=fun h=>f6 (by rw[X2,Kx (p:=fun x=>b.aA.all fun y=>!jZ x y) hc h];rfl)
  have aG:b.aA.length-(k+1)<b.aA.length-k:=by omega
  clear hJ;simp[Bk.cells,aT,aL,aI];refine eO (fun n τ=>∃i:Nat,i<=b.aA.length/\n=b.aA.length-i/\(∀(j:Nat) (x:Ct),j<i->b.aA[j]?=some x->(!jZ c x)=true)/\τ=⟨[(1,.ptr (.loc 1 0) 0),(7,.pv (.i k)),(8,.pv (.i i))],[(.loc 1 0,.cells b.cells)]⟩)
   ⟨b.aA.length,⟨[(1,.ptr (.loc 1 0) 0),(7,.pv (.i k)),(8,.pv (.i 0))],[(.loc 1 0,.cells b.cells)]⟩,Sub.mk (by simp) (by simp[Bk.cells,aT,aL]),0,by omega,rfl,(fun j x hj=>by omega),rfl⟩ ?_
  rintro J2 uS n τ ⟨i,hi,rfl,MC,rfl⟩;by_cases kH:i<b.aA.length
  .obtain⟨y,hy⟩:∃c,b.aA[i]?=some c:=⟨b.aA[i],bB kH⟩;have HU:(b.aA.map Ct.pv)[i]?=some (.agg [.i y.num,.i y.it,.i y.src,.i y.day,.i y.valid,.i y.diff.lo,.i y.diff.hi]):=by rw[bW,hy];rfl
   have BO:=bN (k:=i) (by omega);have cA:=fun h:(!jZ c y)=true=>uS _ _ ⟨i+1,kH,rfl,Mi (p:=fun x=>!jZ c x) MC hy h,rfl⟩
   have PT:(!jZ c y)=false->F=6:=fun h=>mM (Kx (p:=fun x=>!jZ c x) hy h)
   have hP:jZ c y=((decide (c.num=y.num)&&!decide (c=y))||(decide (y.num<c.num)&&decide (c.day<y.day))):=by simp[jZ]
   have heq:gR (.agg [.i c.num,.i c.it,.i c.src,.i c.day,.i c.valid,.i c.diff.lo,.i c.diff.hi]) (.agg [.i y.num,.i y.it,.i y.src,.i y.day,.i y.valid,.i y.diff.lo,.i y.diff.hi])=decide (c=y):=ZrT;have iF:b.aA.length-(i+1)<b.aA.length-i:=by omega
   clear uS;simp[-decide_eq_true_eq,-decide_eq_false_iff_not,Bk.cells,aT,aL,kH,↓x6];refine JQ ⟨[(1,.ptr (.loc 1 0) 0),(7,.pv (.i k)),(8,.pv (.i i)),(9,.ptr (.loc 9 0) 0),(10,.ptr (.loc 10 0) 0),(151,.pv y.pv)],[(.loc 1 0,.cells b.cells),(.loc 9 0,.cells c.cells),(.loc 10 0,.cells (List.replicate 7 (.pv (.i 0))))]⟩ ?_ ?_
   .simp[gO,gY,↓HU]
    repeat' (with_reducible refine And.intro ?_ ?_)
    all_goals
     refine Sub.mk ?_ ?_
     .simp[Ct.pv]
     .simp[Ct.cells,Bk.cells,aT,aL]
   .cases a1:decide (c.num=y.num)
    .simp[-decide_eq_true_eq,-decide_eq_false_iff_not,gO,gY,Ct.pv,Ct.cells,Bk.cells,List.replicate,-gR,a1];trace_state;cases a3:decide (y.num<c.num)
     .have cA:=cA (by rw[hP,a1,a3];rfl);simp[-decide_eq_true_eq,-decide_eq_false_iff_not,aT,aL,-gR,BO];exact⟨_,_,iF,Sub.mk (by simp) (by simp[Bk.cells,aT,aL]),cA⟩
     .cases a4:decide (c.day<y.day)
      .have cA:=cA (by rw[hP,a1,a3,a4];rfl);simp[-decide_eq_true_eq,-decide_eq_false_iff_not,aT,aL,-gR,BO];exact⟨_,_,iF,Sub.mk (by simp) (by simp[Bk.cells,aT,aL]),cA⟩
      .have hF:=PT (by rw[hP,a1,a3,a4];rfl);simp[-decide_eq_true_eq,-decide_eq_false_iff_not,aT,aL,-gR,hF]
    .cases a2:decide (c=y)
     .have hF:=PT (by rw[hP,a1,a2];rfl);simp[-decide_eq_true_eq,-decide_eq_false_iff_not,gO,gY,Ct.pv,Ct.cells,Bk.cells,List.replicate,heq,-gR,a1,a2,hF]
     .simp[-decide_eq_true_eq,-decide_eq_false_iff_not,gO,gY,Ct.pv,Ct.cells,Bk.cells,List.replicate,heq,-gR,a1,a2];cases a3:decide (y.num<c.num)
      .have cA:=cA (by rw[hP,a1,a2,a3];rfl);simp[-decide_eq_true_eq,-decide_eq_false_iff_not,aT,aL,-gR,BO];exact⟨_,_,iF,Sub.mk (by simp) (by simp[Bk.cells,aT,aL,Ct.cells]),cA⟩
      .cases a4:decide (c.day<y.day)
       .have cA:=cA (by rw[hP,a1,a2,a3,a4];rfl);simp[-decide_eq_true_eq,-decide_eq_false_iff_not,aT,aL,-gR,BO];exact⟨_,_,iF,Sub.mk (by simp) (by simp[Bk.cells,aT,aL]),cA⟩
       .have hF:=PT (by rw[hP,a1,a2,a3,a4];rfl);simp[-decide_eq_true_eq,-decide_eq_false_iff_not,aT,aL,-gR,hF]
  .have he:i=b.aA.length:=by omega
   subst he;have aB:=aB (Lq (p:=fun x=>!jZ c x) MC);simp[Bk.cells,aT,aL,hw];exact⟨_,_,aG,Sub.mk (by simp) (by simp[Bk.cells,aT,aL]),aB⟩
 have he:k=b.aA.length:=by omega
 subst he;have hF:=f0 (by rw[X2,Lq (p:=fun x=>b.aA.all fun y=>!jZ x y) hinv];rfl);simp[Bk.cells,aT,aL,hF]
attribute [local irreducible] Bk.held Bk.nums Bk.iG
set_option linter.unusedSimpArgs false
theorem ZkB (b:Bk)(hb:b.ok):cR prog 50 ([b.pv,.emp (some true)].map .pv) [] (fun r B=>r=.pv (.aF false 1 ((b.held []).map aN))/\B=[]):=by
 have h:=ZsQ b hb [] (gV _);refine cR.Xg (xs:=[b.pv,.emp (some true)]) (ys:=[b.pv,.aF false 1 []]) h rfl ?_;intro j x y m v h1 h2 hr
 match j with
 |0=>simp at h1 h2;subst h1 h2;exact hr
 |1=>simp at h1 h2;subst h1 h2;exact AB hr
 |j+2=>simp at h1
theorem Gn {b:Bk}{bad:List Int}:(b.held bad).length<=1000:=by
 have:b.held bad=b.iG bad 1000:=by unfold Bk.held;rfl
 rw[this];exact ZfY 1000
theorem Znd (b:Bk)(hb:b.ok)(item day:Int)(h0:0<=item)(h1:item<b.items.length):aD prog 37 [b.pv,.i item,.i day] (.bool (b.qF item day)):=by
 obtain⟨j,hj,xH,z,hz,D8,pY⟩:=Lx h0 h1;have gN:=hb.c;obtain⟨P,hP⟩:∃P:Ct->Bool,P=fun o=>decide (o.it=item)&&o.on day&&(b.held []).contains o.num:=⟨_,rfl⟩
 have hT:b.qF item day=(z.gU||(b.aA.take b.aA.length).any P):=by
  rw[nF,<-D8];unfold Bk.qF;rw[Zi hb];congr 1;rw[qS,oU,oU];constructor
  .rintro⟨o,ho,h⟩;refine⟨o,ho,?_⟩;rw[hP];simp only[Bk.pT,dJ]at h ⊢;exact⟨h.1.2,h.2⟩
  .rintro⟨o,ho,h⟩;refine⟨o,ho,?_⟩;rw[hP]at h;have pP:=(wW hb ho).2.1;simp only[Bk.pT,dJ,decide_eq_true_eq]at h ⊢;exact⟨⟨by omega,h.1⟩,h.2⟩
 rw[hT];clear hT;have hlen:=Gn (b:=b) (bad:=[]);have N0:=ZkB b hb;refine cS L37 ?_;cases hs:z.gU
 case true=>
  rw[hs]at pY;simp[L37,Bk.pv,aT,aL,hj,pY]
 case false=>
 rw[hs]at pY;simp[-List.take_length,L37,Bk.pv,aT,aL,hj,pY];refine .inl (cQ [] [b.pv,.emp (some true)] N0 ?_);generalize b.held []=H at *;simp[-List.take_length,aM];subst hj;refine eO (fun n τ=>∃k:Nat,k<=b.aA.length/\n=b.aA.length-k/\(b.aA.take k).any P=false/\τ=⟨[(1,.pv (.i j)),(2,.pv (.i day)),(3,.ptr (.loc 3 0) 0),(7,.pv (.aF false 1 (H.map aN))),(8,.pv (.i k))],[(.loc 3 0,.cells b.cells)]⟩)
  ⟨b.aA.length,⟨[(1,.pv (.i j)),(2,.pv (.i day)),(3,.ptr (.loc 3 0) 0),(7,.pv (.aF false 1 (H.map aN))),(8,.pv (.i 0))],[(.loc 3 0,.cells b.cells)]⟩,Sub.mk (by simp) (by simp[Bk.cells,aT,aL]),0,by omega,rfl,rfl,rfl⟩ ?_
 rintro J hJ n τ ⟨k,hk,rfl,hinv,rfl⟩;by_cases aI:k<b.aA.length
 .obtain⟨o,ho,K9,pZ⟩:=zS aI;have hw:=bN (k:=k) (by omega);have aB:=fun h:P o=false=>hJ _ _ ⟨k+1,aI,rfl,(by rw[WU ho,hinv,h];rfl),rfl⟩
  have OZ:P o=true->(b.aA.take b.aA.length).any P=true:=fun h=>by
   rw[nF,oU];exact⟨o,K9,h⟩
  have aG:b.aA.length-(k+1)<b.aA.length-k:=by omega
  have hv:=Zfk o day (Zek hb K9);have hh:=wH H o.num (by omega);have H2:P o=(decide (o.it=(j:Int))&&o.on day&&H.contains o.num):=by rw[hP]
  generalize(b.aA.take b.aA.length).any P=T at *;clear hJ hP;cases e1:decide (o.it=(j:Int))
  .have aB:=aB (by rw[H2,e1];rfl);simp[-getElem?_pos,-List.getElem?_map,-decide_eq_true_eq,-decide_eq_false_iff_not,Bk.cells,aT,aL,aI,pZ,hw,e1];exact⟨_,_,aG,Sub.mk (by simp) (by simp[Bk.cells,aT,aL]),aB⟩
  simp[-getElem?_pos,-List.getElem?_map,-decide_eq_true_eq,-decide_eq_false_iff_not,Bk.cells,aT,aL,aI,pZ,e1];refine cG [o.pv,.i day] hv ?_;cases e2:o.on day
  .have aB:=aB (by rw[H2,e1,e2];rfl);simp[-decide_eq_true_eq,-decide_eq_false_iff_not,hw];exact⟨_,_,aG,Sub.mk (by simp) (by simp[Bk.cells,aT,aL]),aB⟩
  simp[-decide_eq_true_eq,-decide_eq_false_iff_not,Bk.cells,aT,aL,aI,pZ,hw,e1];refine cG [.aF false 1 (H.map aN),.i o.num] hh ?_;cases e3:H.contains o.num
  .have aB:=aB (by rw[H2,e1,e2,e3];rfl);simp[-decide_eq_true_eq,-decide_eq_false_iff_not,Bk.cells,aT,aL,aI,pZ,hw,e1];exact⟨_,_,aG,Sub.mk (by simp) (by simp[Bk.cells,aT,aL]),aB⟩
  have hT:=OZ (by rw[H2,e1,e2,e3];rfl);subst hT;simp[-decide_eq_true_eq,-decide_eq_false_iff_not]
 have he:k=b.aA.length:=by omega
 subst he;rw[hinv];simp[Bk.cells,aT,aL]
end
section
theorem Ztu {a b:Int}:(if a<b then b else a)=max a b:=by
 rw[Int.max_def];split<;>split<;>omega
theorem Ztt {a b:Int}:(if b<a then b else a)=min a b:=by
 rw[Int.min_def];split<;>split<;>omega
def w8 (S:Int->Cr)(H:List Int)(i:Nat):PV:=if i<2000 then(.i (if i%2=0 then(S ((i / 2:Nat):Int)).lo else(S ((i / 2:Nat):Int)).hi))else .aF false 1 (H.map aN)
def sD (S:Int->Cr)(H:List Int):List AV:=(List.range 2001).map fun i:Nat=>.pv (w8 S H i)
variable {S:Int->Cr}{H:List Int}
theorem Hs:(sD S H).length=2001:=by unfold sD;simp
theorem JR {i:Nat}(h:i<2001):(sD S H)[i]?=some (.pv (w8 S H i)):=by
 unfold sD;rw[bW,List.getElem?_range h];rfl
theorem Zc6:(sD S H)[2000]?=some (.pv (.aF false 1 (H.map aN))):=by
 rw[JR (by omega)];unfold w8;rw[if_neg (by omega)]
theorem Zuo {n:Nat}(h:n<1000):w8 S H (n*2)=.i (S n).lo:=by
 unfold w8;rw[if_pos (by omega),if_pos (by omega),show n*2 / 2=n by omega]
theorem Zup {n:Nat}(h:n<1000):w8 S H (n*2+1)=.i (S n).hi:=by
 unfold w8;rw[if_pos (by omega),if_neg (by omega),show(n*2+1) / 2=n by omega]
theorem Zsk {n:Nat}(h:n<1000):((sD S H).drop (n*2)).take 2=[.pv (.i (S n).lo),.pv (.i (S n).hi)]:=by
 apply List.ext_getElem?;intro k;rw[mG]
 match k with
 |0=>rw[if_pos (by omega),mS,Nat.add_zero,JR (by omega),Zuo h];rfl
 |1=>rw[if_pos (by omega),mS,JR (by omega),Zup h];rfl
 |k+2=>rw[if_neg (by omega)];rfl
theorem Zsj {n:Nat}(h:n<1000){a:Cr}:aR (sD S H) (n*2) [.pv (.i a.lo),.pv (.i a.hi)]=sD (fun m=>if m=(n:Int)then a else S m) H:=by
 unfold aR;apply List.ext_getElem?;intro k;have hl:((sD S H).take (n*2)).length=n*2:=by rw[gJ,Hs];omega
 have qZ:([AV.pv (.i a.lo),AV.pv (.i a.hi)]:List AV).length=2:=rfl;by_cases h1:k<n*2
 .rw[H9,List.getElem?_append_left (by omega),mG,if_pos h1,JR (by omega),JR (by omega)];unfold w8;simp only;rw[if_neg (by omega:¬(((k / 2:Nat):Int)=(n:Int)))]
 .by_cases h2:k<n*2+2
  .rw[List.getElem?_append_left (by rw[gD,hl,qZ];omega),List.getElem?_append_right (by omega),hl,JR (by omega)];unfold w8;simp only;rw[if_pos (by omega:k<2000),if_pos (by omega:((k / 2:Nat):Int)=(n:Int))];rcases(by omega:k=n*2\/k=n*2+1)with rfl|rfl
   .rw[Nat.sub_self,if_pos (by omega)];rfl
   .rw[show n*2+1-n*2=1 by omega,if_neg (by omega)];rfl
  .rw[List.getElem?_append_right (by rw[gD,hl,qZ];omega),gD,hl,qZ,mS,show n*2+2+(k-(n*2+2))=k by omega];by_cases h3:k<2001
   .rw[JR h3,JR h3];unfold w8;simp only;rw[if_neg (by omega:¬(((k / 2:Nat):Int)=(n:Int)))]
   .rw[List.getElem?_eq_none (by rw[Hs];omega),List.getElem?_eq_none (by rw[Hs];omega)]
theorem Zfb (d:Nat):AV.qT d (sD S H)=false:=ZfC _
theorem Zfc (q:Site->Bool):AV.gW q (sD S H)=true:=ZfD _
theorem ZcK (d:Nat):(sD S H).map (AV.bG d)=sD S H:=ZfA _
theorem Zfa (g:Site->Site):AV.iM g (sD S H)=sD S H:=ZfB _
attribute [irreducible] sD
attribute [local irreducible] Bk.held Bk.nums Bk.iG Bk.span
attribute [simp] Zfb Zfc ZcK Zfa Zc6 Hs
def P2 (S:Int->Cr)(H:List Int):List aJ:=[.cells (sD S H)]
def AR (b:Bk)(item day below:Int)(z:It)(S:Int->Cr)(H:List Int)(r:Cr)(k:Nat):AS:=⟨[(1,.ptr (.par 0) 0),(2,.pv (.i item)),(3,.pv (.i day)),(4,.pv (.i below)),(5,.ptr (.loc 5 0) 0),(10,.ptr (.loc 10 0) 0),(11,.ptr (.loc 11 0) 0),(12,.ptr (.loc 12 0) 0),(13,.pv (.i k))],
 [(.loc 12 0,.cells [.pv (.i r.lo),.pv (.i r.hi)]),(.loc 11 0,.cells [.pv (.i z.dR),.pv (.bool false),.pv (.i z.val.lo),.pv (.i z.val.hi)]),(.loc 10 0,.cells [.pv (.i 0),.pv (.i 0)]),(.loc 5 0,.cells b.cells),(.par 0,.cells (sD S H))]⟩
theorem Yu (b:Bk)(hb:b.ok)(S:Int->Cr)(H:List Int)(hH:H.length<=1000)(item day below:Int)(h0:0<=item)(h1:item<b.items.length)(hd:0<=day/\day<=1000)(hS:∀c∈b.aA,c.num∈H->(S c.num).lS 1000000000000):
  cR prog 138 [.pv b.pv,.ptr (.par 0) 0,.pv (.i item),.pv (.i day),.pv (.i below)] (laid 0 (P2 S H)) (fun r B=>r=.pv (b.kD H S item day below).pv/\B=laid 0 (P2 S H)):=by
 obtain⟨j,hj,xH,z,hz,D8,pY⟩:=Lx h0 h1;have gN:=hb.c;obtain⟨d0,d1,_,_⟩:=ZhA hb h0 h1;rw[D8]at d0 d1;obtain⟨R,hR⟩:∃R,b.kD H S item day below=R:=⟨_,rfl⟩;rw[hR];refine cB [.par 0] L138 ?_;cases hs:z.gU
 case true=>
  have hv:R=z.val:=by rw[<-hR];unfold Bk.kD;rw[D8,if_pos hs]
  rw[hs]at pY;subst hj;simp[L138,Bk.pv,aT,aL,laid,P2,pY];rw[hv];rfl
 case false=>
 rw[hs]at pY;obtain⟨Q,hQ⟩:∃Q:Ct->Bool,Q=fun c=>Bk.pT item day below c&&H.contains c.num:=⟨_,rfl⟩
 obtain⟨F,hF⟩:∃F:Cr->Ct->Cr,F=fun r c=>r.cut ((S c.num).wider (z.dR*(day-c.day))):=⟨_,rfl⟩
 have Jt:R=((b.aA.take b.aA.length).filter Q).foldl F I3:=by
  rw[<-hR,Hv (by rw[D8];exact hs),nF,hQ,hF,D8]
 clear hR;subst Jt;obtain⟨E,hE⟩:∃E:Nat->Cr,E=fun k=>((b.aA.take k).filter Q).foldl F I3:=⟨_,rfl⟩
 have hEe:((b.aA.take b.aA.length).filter Q).foldl F I3=E b.aA.length:=by rw[hE]
 rw[hEe];have hE0:E 0=I3:=by rw[hE];rfl
 have Vf:∀(k:Nat) (o:Ct),b.aA[k]?=some o->E (k+1)=if Q o=true then F (E k) o else E k:=fun k o ho=>by
  rw[hE];simp only;rw[mJ,ho,F2,List.foldl_append];cases hq:Q o<;>simp[hq]
 clear hE hEe;subst hj;simp[L138,Bk.pv,aT,aL,laid,P2,pY,-aU];refine eO (fun n τ=>∃k:Nat,k<=b.aA.length/\n=b.aA.length-k/\τ=AR b j day below z S H (E k) k) ⟨b.aA.length,AR b j day below z S H (E 0) 0,Sub.mk (by simp) (by simp[Bk.cells,aT,aL,hE0,I3]),0,by omega,rfl,rfl⟩ ?_;rintro J hJ n τ ⟨k,hk,rfl,rfl⟩;by_cases aI:k<b.aA.length
 .obtain⟨o,ho,K9,pZ⟩:=zS aI;have hw:=bN (k:=k) (by omega);have aB:=hJ _ _ ⟨k+1,aI,rfl,rfl⟩;rw[Vf k o ho]at aB;have aG:b.aA.length-(k+1)<b.aA.length-k:=by omega
  have hv:=Zfk o day (Zek hb K9);have hh:=wH H o.num (by omega);have VI:Q o=(decide (o.num<below)&&(decide (o.it=(j:Int))&&o.on day)&&H.contains o.num):=by rw[hQ];rfl
  have hSo:=hS o K9;have jL:=wW hb K9;have hFo:F (E k) o=(E k).cut ((S o.num).wider (z.dR*(day-o.day))):=by rw[hF]
  have CM:=Xp hb K9 (day:=day);generalize E k=R at *;clear hJ hQ hF Vf hS;obtain⟨on,oi,os,od,ov,⟨ol,oh⟩⟩:=o;simp only at jL pZ VI CM hSo hFo;have EW:decide (below<=on)=!(decide (on<below)):=by
   rw[qS];simp
  cases e1:decide (oi=(j:Int))
  .have hq:¬(Q ⟨on,oi,os,od,ov,⟨ol,oh⟩⟩=true):=by rw[VI,e1];simp
   rw[if_neg hq]at aB;simp[-getElem?_pos,-List.getElem?_map,-decide_eq_true_eq,-decide_eq_false_iff_not,AR,Bk.cells,aT,aL,aI,pZ,hw,e1,-aU];exact⟨_,_,aG,Sub.mk (by simp) (by simp[Bk.cells,aT,aL]),aB⟩
  cases e2:decide (on<below)
  .have hq:¬(Q ⟨on,oi,os,od,ov,⟨ol,oh⟩⟩=true):=by rw[VI,e2];simp
   rw[if_neg hq]at aB;rw[e2]at EW;simp[-getElem?_pos,-List.getElem?_map,-decide_eq_true_eq,-decide_eq_false_iff_not,AR,Bk.cells,aT,aL,aI,pZ,hw,e1,EW,-aU];exact⟨_,_,aG,Sub.mk (by simp[AR]) (by simp[AR,Bk.cells,aT,aL]),aB⟩
  rw[e2]at EW;simp[-getElem?_pos,-List.getElem?_map,-decide_eq_true_eq,-decide_eq_false_iff_not,AR,Bk.cells,aT,aL,aI,pZ,e1,EW,-aU];refine AF (k:=0) (fs:=[]) (xs:=[Ct.pv ⟨on,oi,os,od,ov,⟨ol,oh⟩⟩,.i day]) (cs:=[]) rfl rfl hv rfl ?_;cases e3:Ct.on ⟨on,oi,os,od,ov,⟨ol,oh⟩⟩ day
  .have hq:¬(Q ⟨on,oi,os,od,ov,⟨ol,oh⟩⟩=true):=by rw[VI,e3];simp
   rw[if_neg hq]at aB;simp[-decide_eq_true_eq,-decide_eq_false_iff_not,hw,-aU];exact⟨_,_,aG,Sub.mk (by simp) (by simp[Bk.cells,aT,aL]),aB⟩
  simp[-getElem?_pos,-List.getElem?_map,-decide_eq_true_eq,-decide_eq_false_iff_not,-aU];refine cG [.aF false 1 (H.map aN),.i on] hh ?_;cases e4:H.contains on
  .have hq:¬(Q ⟨on,oi,os,od,ov,⟨ol,oh⟩⟩=true):=by rw[VI,e4];simp
   rw[if_neg hq]at aB;simp[-decide_eq_true_eq,-decide_eq_false_iff_not,AR,Bk.cells,aT,aL,aI,pZ,hw,-aU];exact⟨_,_,aG,Sub.mk (by simp[AR]) (by simp[AR,Bk.cells,aT,aL]),aB⟩
  have hq:Q ⟨on,oi,os,od,ov,⟨ol,oh⟩⟩=true:=by rw[VI,e1,e2,e3,e4];rfl
  rw[if_pos hq,hFo]at aB;have l9:=hSo (jB.1 e4);have D4:=CM e3;rw[of_decide_eq_true e1,D8]at D4;unfold Cr.lS at l9;have w1:IntKind.i64.wrap (day-od)=day-od:=wrap64 (by omega);obtain⟨far,MF⟩:∃far,z.dR*(day-od)=far:=⟨_,rfl⟩;rw[MF]at aB D4;have w2:IntKind.i64.wrap (z.dR*(day-od))=far:=by rw[MF];exact wrap64 (by omega)
  obtain⟨nn,rfl⟩:∃nn:Nat,on=nn:=⟨on.toNat,by omega⟩;have M0:nn<1000:=by omega
  have Rz:=Zsk (S:=S) (H:=H) M0;have sR:nn*2<=1999:=by omega
  have w3:IntKind.i64.wrap ((S nn).lo-far)=(S nn).lo-far:=wrap64 (by omega);have w4:IntKind.i64.wrap ((S nn).hi+far)=(S nn).hi+far:=wrap64 (by omega);unfold Cr.cut Cr.wider Cr.plus at aB;simp only[<-Int.sub_eq_add_neg]at aB;clear l9 D4 MF hq e1 e2 e3 e4;simp[-decide_eq_true_eq,-decide_eq_false_iff_not,hw,w1,w2,w3,w4,Rz,sR,M0,cV,aP,-aU];exact⟨_,_,aG,Sub.mk (by simp) (by simp[Bk.cells,aT,aL,Ztu,Ztt]),aB⟩
 have he:k=b.aA.length:=by omega
 subst he;clear hJ Vf hF hQ;generalize E b.aA.length=R at *;simp[AR,Bk.cells,aT,aL,-aU];simp[Cr.pv]
end
section
def Bk.xQ (b:Bk)(k:Nat)(m:Int):Cr:=if((b.held []).take k).contains m=true then b.span (b.held []) m else⟨0,0⟩
theorem ZmF {b:Bk}{held:List Int}{m:Int}(h:held.contains m=false):b.span held m=⟨0,0⟩:=by
 have key:∀k,b.FC held k m=⟨0,0⟩:=fun k=>by
  induction k with
  |zero=>rfl
  |succ k ih=>
   rw[Zep];split
   .rw[if_neg (by rw[h];simp)]
   .exact ih
 exact key 1000
theorem Zjz {b:Bk}{bad:List Int}:(b.held bad).Pairwise (·<·):=(ZcS 1000).1
attribute [local irreducible] Bk.held Bk.nums Bk.iG Bk.span
theorem Zi8 {l:List Int}(hs:l.Pairwise (·<·)){k:Nat}{n x:Int}(h:l[k]?=some n):x∈l.take k↔x∈l/\x<n:=by
 obtain⟨h2,e2⟩:=bZ.1 h;have hs:=Q2.1 hs;constructor
 .intro hx;obtain⟨i,hi⟩:=iJ.1 hx;rw[mG]at hi;split at hi
  .rename_i qO;obtain⟨h1,e1⟩:=bZ.1 hi
   have:=hs i k h1 h2 qO
   rw[e1,e2]at this;exact⟨dK hi,this⟩
  .cases hi
 .rintro⟨hx,aI⟩;obtain⟨i,hi⟩:=iJ.1 hx;obtain⟨h1,e1⟩:=bZ.1 hi;rw[iJ];refine⟨i,?_⟩;rw[mG,if_pos,hi];rcases Nat.lt_trichotomy i k with qO|qO|qO
  .exact qO
  .subst qO;rw[e1]at e2;omega
  .have:=hs k i h2 h1 qO
   rw[e1,e2]at this;omega
theorem Zh6 {b:Bk}{k:Nat}{n:Int}(h:(b.held [])[k]?=some n){m:Int}(hm:m<n):b.xQ k m=b.span (b.held []) m:=by
 unfold Bk.xQ;split
 .rfl
 .rename_i hc;rw[ZmF];cases hx:(b.held []).contains m
  .rfl
  .exact absurd (jB.2 ((Zi8 Zjz h).2 ⟨jB.1 hx,hm⟩)) hc
theorem Zpg {b:Bk}:b.xQ (b.held []).length=b.span (b.held []):=by
 funext m;unfold Bk.xQ;rw[nF];split
 .rfl
 .rename_i hc;rw[ZmF (by simpa using hc)]
theorem Zpf {b:Bk}:b.xQ 0=fun _=>⟨0,0⟩:=by
 funext m;unfold Bk.xQ;rw[if_neg (by simp)]
theorem Zg8 {b:Bk}{k:Nat}{n:Int}(h:(b.held [])[k]?=some n):(fun m=>if m=n then b.span (b.held []) n else b.xQ k m)=b.xQ (k+1):=by
 funext m;unfold Bk.xQ;rw[mJ,h];by_cases e:m=n
 .subst e;rw[if_pos rfl,if_pos (by simp)]
 .rw[if_neg e]
  have:(((b.held []).take k++(some n).toList).contains m)=((b.held []).take k).contains m:=by
   rw[qS,jB,jB,sI];simp[e]
  rw[this]
theorem ZmK {b:Bk}{k:Nat}{n:Int}(h:(b.held [])[k]?=some n):(fun m=>if m=n then b.span (b.held []) n else b.xQ (k+1) m)=b.xQ (k+1):=by
 rw[<-Zg8 h];funext m;by_cases e:m=n
 .simp only[if_pos e]
 .simp only[if_neg e]
theorem ZmJ {b:Bk}(hb:b.ok){k:Nat}{c:Ct}(hc:c∈b.aA):(b.xQ k c.num).lS 1000000000000:=by
 unfold Bk.xQ;split
 .rename_i h;have hx:c.num∈b.held []:=List.mem_of_mem_take (jB.1 h);have k1:=XL hb c hc hx;have k2:=wW hb hc;unfold Cr.lS at k1 ⊢;omega
 .unfold Cr.lS;simp only;omega
def Bk.uP (b:Bk)(k:Nat)(n:Int)(i:Nat):Int->Cr:=if((b.aA.take i).any fun c=>decide (c.num=n))=true then b.xQ (k+1)else b.xQ k
theorem ZmL {b:Bk}{k:Nat}{n:Int}{i:Nat}(h:(b.held [])[k]?=some n){m:Int}(hm:m<n):b.uP k n i m=b.span (b.held []) m:=by
 unfold Bk.uP;split
 .rw[<-Zg8 h];simp only;rw[if_neg (by omega),Zh6 h hm]
 .exact Zh6 h hm
theorem Zpi {b:Bk}{k:Nat}{n:Int}{i:Nat}{c:Ct}(hc:b.aA[i]?=some c)(h:decide (c.num=n)=false):b.uP k n (i+1)=b.uP k n i:=by
 unfold Bk.uP;rw[WU hc,h,Bool.or_false]
theorem Zsr {b:Bk}{k:Nat}{n:Int}{i:Nat}{c:Ct}(hk:(b.held [])[k]?=some n)(hc:b.aA[i]?=some c)(h:c.num=n):(fun m=>if m=n then b.span (b.held []) n else b.uP k n i m)=b.uP k n (i+1):=by
 have:b.uP k n (i+1)=b.xQ (k+1):=by
  unfold Bk.uP;rw[WU hc,decide_eq_true h,Bool.or_true,if_pos rfl]
 rw[this];unfold Bk.uP;split
 .exact ZmK hk
 .exact Zg8 hk
theorem Zss {b:Bk}(hb:b.ok){k:Nat}{n:Int}{i:Nat}{c:Ct}(hc:c∈b.aA):(b.uP k n i c.num).lS 1000000000000:=by
 unfold Bk.uP;split
 .exact ZmJ hb hc
 .exact ZmJ hb hc
theorem Zpk {b:Bk}(hb:b.ok){k:Nat}{n:Int}(hk:(b.held [])[k]?=some n):b.uP k n b.aA.length=b.xQ (k+1):=by
 unfold Bk.uP;rw[if_pos];rw[nF,oU];obtain⟨c,hc,e,_⟩:=(KA hb).1 (dK hk);exact⟨c,hc,by simp[e]⟩
theorem Zph {b:Bk}{k:Nat}{n:Int}:b.uP k n 0=b.xQ k:=by
 unfold Bk.uP;rw[if_neg (by simp)]
theorem Zpj {b:Bk}(hb:b.ok){k:Nat}{n:Int}{i:Nat}{c:Ct}(hk:(b.held [])[k]?=some n)(hc:c∈b.aA)(h:c.num=n):(b.kD (b.held []) (b.uP k n i) c.src c.day c.num).plus c.diff=b.span (b.held []) n/\(b.kD (b.held []) (b.uP k n i) c.src c.day c.num).lS 2000000000:=by
 have hx:(b.held []).contains n=true:=jB.2 (dK hk);have hg:b.get n=c:=by rw[<-h];exact r9 hb hc
 obtain⟨g1,g2⟩:=Zkk hb ((s8 hb).2 ⟨c,hc,h⟩) hx;rw[hg]at g1 g2;have e:b.kD (b.held []) (b.uP k n i) c.src c.day c.num=b.kD (b.held []) (b.span (b.held [])) c.src c.day n:=by
  rw[h];exact Zdo fun m hm=>ZmL hk hm
 rw[e];exact⟨g1.symm,g2⟩
theorem Zpb {H:List Int}:List.replicate 2000 (AV.pv (.i 0))++[.pv (.aF false 1 (H.map aN))]=sD (fun _=>⟨0,0⟩) H:=by
 apply List.ext_getElem?;intro k;by_cases h:k<2000
 .rw[List.getElem?_append_left (by rw[List.length_replicate];exact h),List.getElem?_replicate,if_pos h,JR (by omega)];unfold w8;rw[if_pos h];simp
 .by_cases h2:k=2000
  .subst h2;rw[Zc6];rfl
  .rw[List.getElem?_eq_none (by simp;omega),List.getElem?_eq_none (by rw[Hs];omega)]
def AN (S:Int->Cr)(H:List Int):List PV:=(List.range 2001).map (w8 S H)
theorem Zh0 {α:Type}{f:α->PV}:∀l:List α,eA (l.map fun x=>.pv (f x))=some (l.map f)
 |[]=>rfl
 |x::l=>by simp only[iL,eA,Zh0 l]
theorem Zpc {S:Int->Cr}{H:List Int}:eA (sD S H)=some (AN S H):=by
 unfold sD AN;exact Zh0 _
theorem Zpa {S:Int->Cr}{H:List Int}:(AN S H).map AV.pv=sD S H:=by
 unfold sD AN;rw[List.map_map];rfl
theorem ZpE {a b:AV}:List.drop 2001 (List.replicate 2000 a++[b])=[]:=List.drop_of_length_le (by simp)
attribute [irreducible] AN
attribute [local irreducible] Bk.xQ Bk.uP
def Q9 (b:Bk)(S:Int->Cr)(k:Nat):AS:=⟨[(1,.ptr (.loc 1 0) 0),(3,.ptr (.loc 11 0) 0),(4,.pv (.i k))],[(.loc 11 0,.cells (sD S (b.held []))),(.loc 1 0,.cells b.cells)]⟩
def YA (b:Bk)(S:Int->Cr)(k i:Nat):AS:=⟨(5,.pv (.i i))::(Q9 b S k).tm,(Q9 b S k).bx⟩
theorem Zrv (b:Bk)(hb:b.ok):cR prog 139 [.pv b.pv] [] (fun r B=>r=.ptr (.ret 0) 0/\B=[(.ret 0,.cells (sD (b.span (b.held [])) (b.held [])))]):=by
 have hlen:=Gn (b:=b) (bad:=[]);have gN:=hb.c;have N0:=ZkB b hb;refine cE L139 ?_;generalize hR:(fun(r:AV) (B:List (Site×aJ))=>r=.ptr (.ret 0) 0/\B=[(.ret 0,.cells (sD (b.span (b.held [])) (b.held [])))])=R;simp[-List.reduceReplicate,L139,Bk.pv,-aU];refine .inl (cQ [] [b.pv,.emp (some true)] N0 ?_);have hz:=Zpb (H:=b.held []);simp[-List.take_length,-List.reduceReplicate,aM,hz,ZpE,Zpc,Zpa,-aU];refine eO (fun m τ=>∃k:Nat,k<=(b.held []).length/\m=(b.held []).length-k/\τ=Q9 b (b.xQ k) k) ⟨(b.held []).length,Q9 b (b.xQ 0) 0,Sub.mk (by simp) (by simp[Bk.cells,Zpf]),0,by omega,rfl,rfl⟩ ?_;rintro J hJ m τ ⟨k,hk,rfl,rfl⟩;by_cases aI:k<(b.held []).length
 .obtain⟨n,hn⟩:∃n,(b.held [])[k]?=some n:=⟨_,bB aI⟩;have Js:((b.held []).map aN)[k]?=some (.i n):=by rw[bW,hn];rfl
  have hw:=bN (k:=k) (by omega);have aB:=hJ _ _ ⟨k+1,aI,rfl,rfl⟩;have aG:(b.held []).length-(k+1)<(b.held []).length-k:=by omega
  clear hJ;simp[-getElem?_pos,-List.getElem?_map,Q9,Bk.cells,aI,-aU];refine eO (fun m τ=>∃i:Nat,i<=b.aA.length/\m=b.aA.length-i/\τ=YA b (b.uP k n i) k i) ⟨b.aA.length,YA b (b.uP k n 0) k 0,Sub.mk (by simp[Q9]) (by simp[Q9,Bk.cells,Zph]),0,by omega,rfl,rfl⟩ ?_;rintro J2 uS m τ ⟨i,hi,rfl,rfl⟩;by_cases kH:i<b.aA.length
  .obtain⟨o,ho,K9,pZ⟩:=zS kH;have BO:=bN (k:=i) (by omega);have cA:=uS _ _ ⟨i+1,kH,rfl,rfl⟩;have iF:b.aA.length-(i+1)<b.aA.length-i:=by omega
   clear uS aB;cases e1:decide (o.num=n)
   .rw[Zpi ho e1]at cA;simp[-getElem?_pos,-List.getElem?_map,-decide_eq_true_eq,-decide_eq_false_iff_not,YA,Q9,Bk.cells,aT,aL,kH,pZ,Js,BO,e1,-aU];exact⟨_,_,iF,Sub.mk (by simp[Q9]) (by simp[Q9,Bk.cells,aT,aL]),cA⟩
   have Kb:o.num=n:=of_decide_eq_true e1;have jL:=wW hb K9;obtain⟨g1,g2⟩:=Zpj (i:=i) hb hn K9 Kb;have nC:=Zsr (i:=i) hn ho Kb;have mP:=Yu b hb (b.uP k n i) (b.held []) (by omega) o.src o.day o.num jL.2.2.2.2.2.1 jL.2.2.2.2.2.2.1 ⟨jL.2.2.2.2.2.2.2.2.1,jL.2.2.2.2.2.2.2.2.2.1⟩ (fun c hc _=>Zss hb hc);obtain⟨nn,St⟩:∃nn:Nat,n=nn:=⟨n.toNat,by omega⟩;have M0:nn<1000:=by omega
   rw[<-nC]at cA;generalize b.uP k n i=S at *;generalize b.span (b.held []) n=T at *;obtain⟨R,Jt⟩:∃R,b.kD (b.held []) S o.src o.day o.num=R:=⟨_,rfl⟩;rw[Jt]at g1 g2 mP;clear Jt nC;have Cl:=jL.2.2.2.2.2.2.2.2.2.2.2.2.1;unfold Cr.lS at Cl g2;have w1:IntKind.i64.wrap (R.lo+o.diff.lo)=T.lo:=by rw[<-g1];exact wrap64 (by omega)
   have w2:IntKind.i64.wrap (R.hi+o.diff.hi)=T.hi:=by rw[<-g1];exact wrap64 (by omega)
   clear jL Cl g1 g2;subst St;have jK:=Zsj (S:=S) (H:=b.held []) M0 (a:=T);have sR:nn*2<=1999:=by omega
   simp[-getElem?_pos,-List.getElem?_map,-decide_eq_true_eq,-decide_eq_false_iff_not,YA,Q9,Bk.cells,aT,aL,kH,pZ,Js,Kb,-aU];refine xM (gE:=[.pv b.pv,.ptr (.par 0) 0,.pv (.i o.src),.pv (.i o.day),.pv (.i nn)]) (B:=laid 0 (P2 S (b.held []))) (fs:=[]) (cs:=[]) 51 [.loc 11 0] ?_ rfl rfl ?_ ?_ ?_ (by rw[Kb]at mP;exact mP) ?_
   .simp
   .simp[laid,P2]
   .rfl
   .rfl
   rintro r0 B0 ⟨rfl,rfl⟩;refine⟨rfl,by simp[laid,P2],?_⟩;simp[-decide_eq_true_eq,-decide_eq_false_iff_not,laid,P2,Cr.pv,w1,w2,M0,cV,aP,sR,BO,-aU];exact⟨_,_,iF,Sub.mk (by simp[Q9]) (by simp[Q9,Bk.cells,aT,aL];rw[<-jK];simp[aR]),cA⟩
  have he:i=b.aA.length:=by omega
  subst he;clear uS;rw[Zpk hb hn];simp[YA,Q9,Bk.cells,aT,aL,hw,-aU];exact⟨_,_,aG,Sub.mk (by simp) (by simp[Bk.cells,aT,aL]),aB⟩
 have he:k=(b.held []).length:=by omega
 subst he;clear hJ;rw[Zpg];simp[-getElem?_pos,-List.getElem?_map,Q9,Bk.cells,-aU];refine⟨[.loc 11 0],?_⟩;simp;rw[<-hR];exact⟨rfl,rfl⟩
end
section
attribute [local irreducible] Bk.held Bk.nums Bk.iG Bk.span
theorem Zh5 {b:Bk}(hb:b.ok){c:Ct}(hc:c∈b.aA)(h:c.num∈b.held []):(b.span (b.held []) c.num).lS 1000000000000:=by
 have k1:=XL hb c hc h;have k2:=wW hb hc;unfold Cr.lS at k1 ⊢;omega
theorem Znj (b:Bk)(hb:b.ok):aD prog 106 [b.pv] (.bool b.contra):=by
 have hlen:=Gn (b:=b) (bad:=[]);have gN:=hb.c;have K1:=Zrv b hb;obtain⟨P,hP⟩:∃P:Ct->Bool,P=fun c=>(b.held []).contains c.num&&decide ((b.kD (b.held []) (b.span (b.held [])) c.it c.day 1000).hi<(b.kD (b.held []) (b.span (b.held [])) c.it c.day 1000).lo):=⟨_,rfl⟩
 have hT:b.contra=(b.aA.take b.aA.length).any P:=by
  rw[nF,hP];rfl
 rw[hT];clear hT;obtain⟨T,hT⟩:∃T,(b.aA.take b.aA.length).any P=T:=⟨_,rfl⟩;rw[hT];refine cS L106 ?_;simp[L106,Bk.pv];refine xM (gE:=[.pv b.pv]) (B:=[]) (fs:=[]) (cs:=[]) 8 [] ?_ rfl rfl rfl ?_ ?_ K1 ?_
 .simp
 .rfl
 .rfl
 rintro r0 B0 ⟨rfl,rfl⟩;refine⟨rfl,by simp,?_⟩;simp;refine eO (fun m τ=>∃k:Nat,k<=b.aA.length/\m=b.aA.length-k/\(b.aA.take k).any P=false/\τ=⟨[(1,.ptr (.loc 1 0) 0),(3,.ptr (.loc 8 0) 0),(4,.pv (.i k))],[(.loc 8 0,.cells (sD (b.span (b.held [])) (b.held []))),(.loc 1 0,.cells b.cells)]⟩)
  ⟨b.aA.length,⟨[(1,.ptr (.loc 1 0) 0),(3,.ptr (.loc 8 0) 0),(4,.pv (.i 0))],[(.loc 8 0,.cells (sD (b.span (b.held [])) (b.held []))),(.loc 1 0,.cells b.cells)]⟩,Sub.mk (by simp) (by simp[Bk.cells]),0,by omega,rfl,rfl,rfl⟩ ?_
 rintro J hJ m τ ⟨k,hk,rfl,hinv,rfl⟩;by_cases aI:k<b.aA.length
 .obtain⟨o,ho,K9,pZ⟩:=zS aI;have hw:=bN (k:=k) (by omega);have aB:=fun h:P o=false=>hJ _ _ ⟨k+1,aI,rfl,(by rw[WU ho,hinv,h];rfl),rfl⟩
  have OZ:P o=true->T=true:=fun h=>by
   rw[<-hT,nF,oU];exact⟨o,K9,h⟩
  have aG:b.aA.length-(k+1)<b.aA.length-k:=by omega
  have jL:=wW hb K9;have hh:=wH (b.held []) o.num (by omega);have H2:P o=((b.held []).contains o.num&&decide ((b.kD (b.held []) (b.span (b.held [])) o.it o.day 1000).hi<(b.kD (b.held []) (b.span (b.held [])) o.it o.day 1000).lo)):=by rw[hP]
  have mP:=Yu b hb (b.span (b.held [])) (b.held []) (by omega) o.it o.day 1000 jL.2.2.1 jL.2.2.2.1 ⟨jL.2.2.2.2.2.2.2.2.1,jL.2.2.2.2.2.2.2.2.2.1⟩ (fun c hc h=>Zh5 hb hc h);generalize b.span (b.held [])=S at *;generalize b.kD (b.held []) S o.it o.day 1000=R at *;clear hJ hP jL;simp[-getElem?_pos,-List.getElem?_map,-decide_eq_true_eq,-decide_eq_false_iff_not,Bk.cells,aT,aL,aI,pZ];refine xM (gE:=[.pv b.pv,.ptr (.par 0) 0,.pv (.i o.it),.pv (.i o.day),.pv (.i 1000)]) (B:=laid 0 (P2 S (b.held []))) (fs:=[]) (cs:=[]) 27 [.loc 8 0] ?_ rfl rfl ?_ ?_ ?_ mP ?_
  .simp
  .simp[laid,P2]
  .rfl
  .rfl
  rintro r0 B0 ⟨rfl,rfl⟩;refine⟨rfl,by simp[laid,P2],?_⟩;simp[-getElem?_pos,-List.getElem?_map,-decide_eq_true_eq,-decide_eq_false_iff_not,laid,P2,Cr.pv];refine AF (k:=0) (fs:=[]) (xs:=[.aF false 1 ((b.held []).map aN),.i o.num]) (cs:=[]) rfl rfl hh rfl ?_;cases e1:(b.held []).contains o.num
  .have aB:=aB (by rw[H2,e1];rfl);simp[-decide_eq_true_eq,-decide_eq_false_iff_not,hw];exact⟨_,_,aG,Sub.mk (by simp) (by simp[Bk.cells,aT,aL]),aB⟩
  cases e2:decide (R.hi<R.lo)
  .have aB:=aB (by rw[H2,e1,e2];rfl);simp[-decide_eq_true_eq,-decide_eq_false_iff_not,hw,e2];exact⟨_,_,aG,Sub.mk (by simp) (by simp[Bk.cells,aT,aL]),aB⟩
  have Cx:=OZ (by rw[H2,e1,e2];rfl);subst Cx;simp[-decide_eq_true_eq,-decide_eq_false_iff_not,e2]
 have he:k=b.aA.length:=by omega
 subst he;rw[hinv]at hT;subst hT;simp[Bk.cells,aT,aL]
end


section
attribute [local irreducible] Bk.held Bk.nums Bk.iG Bk.span
end
section

attribute [local irreducible] Bk.held Bk.nums Bk.iG Bk.span
section
variable {b b':Bk}{t:Int}
theorem ZtG (hb:b.ok){item day:Int}(h:b.qF item day=true):(b.item item).gU=true\/∃o∈b.aA,Bk.pT item day 1000 o=true/\o.num∈b.held []:=by
 unfold Bk.qF at h;rw[rV,Zi hb,oU]at h;rcases h with h|⟨o,ho,h⟩
 .exact .inl h
 .rw[dJ,jB]at h;exact .inr ⟨o,ho,h.1,h.2⟩
theorem Zrj {item day:Int}(h:b.uW item day=0):b.qF item day=true:=by
 unfold Bk.uW at h;split at h
 .split at h
  .split at h
   .assumption
   .cases h
  .cases h
 .rename_i h0;exact absurd h h0
theorem Zri {item day:Int}(h:b.uW item day=0):0<=item/\item<b.items.length/\0<=day/\day<=1000:=by
 unfold Bk.uW at h;split at h
 .split at h
  .rename_i h1;unfold Bk.uK iX at h1;simp only[dJ,decide_eq_true_eq]at h1;omega
  .cases h
 .rename_i h0;exact absurd h h0
theorem ZmI (hb:b.ok)(item day:Int):(b.uY item day).1.lS 1000000000:=by
 unfold Bk.uY;split
 .rename_i h;split
  .unfold Cr.lS;simp only;omega
  .obtain⟨h1,h2,_⟩:=Zri h
   have:=ZhB hb (held:=b.held []) (S:=b.span (b.held [])) (item:=item) (day:=day) (below:=1000) (A:=300000*1000) h1 h2 (by omega) (by omega) (ZtG hb (Zrj h)) (fun o ho _ PQ=>by
    have:=XL hb o ho PQ
    have:=(wW hb ho).2.1
    unfold Cr.lS at *
    omega)
   show Cr.lS (b.kD (b.held []) (b.span (b.held [])) item day 1000) 1000000000;unfold Cr.lS at *;omega
 .unfold Cr.lS;simp only;omega
end
end
section
attribute [local irreducible] Bk.qU eY
theorem Zjq {y x:Int}{r:List Int}(h:y<x):dI (y::r) x=dI r x+1:=by
 unfold dI;rw[xL,if_pos (by simpa using h)];rfl
theorem Zjr {y x:Int}{r:List Int}(hs:(y::r).Pairwise (·<·))(h:¬y<x):dI (y::r) x=0:=by
 obtain⟨h1,_⟩:=H8.1 hs;unfold dI;rw[xL,if_neg (by simpa using h)];rw[List.length_eq_zero_iff,List.filter_eq_nil_iff];intro z hz
 have:=h1 z hz
 simp;omega
theorem WI {l:List Int}{x:Int}:dI l x<=l.length:=O1 _ _
def lM {α:Type}(l:List α)(i:Nat)(x:α):List α:=l.take i++x::l.drop i
theorem Gp {α:Type}{l:List α}{i:Nat}{x z:α}:z∈lM l i x↔z=x\/z∈l:=by
 unfold lM;rw[sI,jN];constructor
 .rintro(h|h|h)
  .exact .inr (List.mem_of_mem_take h)
  .exact .inl h
  .exact .inr (List.mem_of_mem_drop h)
 .rintro(h|h)
  .exact .inr (.inl h)
  .rw[<-List.take_append_drop i l]at h;rcases sI.1 h with h|h
   .exact .inl h
   .exact .inr (.inr h)
theorem SU {α:Type}{l:List α}{i:Nat}{x:α}(h:i<=l.length):(lM l i x).length=l.length+1:=by
 unfold lM;rw[gD,pB,gJ,uH];omega
theorem ZhD {α β:Type}{f:α->β}{l:List α}{i:Nat}{x:α}:(lM l i x).map f=lM (l.map f) i (f x):=by
 unfold lM;rw[mF,iL,List.map_take,List.map_drop]
theorem Zdy {x:Int}:∀{l:List Int},l.Pairwise (·<·)->x∉l->(lM l (dI l x) x).Pairwise (·<·)
 |[],_,_=>by simp[lM,dI]
 |y::r,hs,hn=>by
  obtain⟨h1,h2⟩:=H8.1 hs;by_cases hy:y<x
  .rw[Zjq hy];have ih:=Zdy h2 (fun h=>hn (List.mem_cons_of_mem _ h));show(y::lM r (dI r x) x).Pairwise (·<·);refine H8.2 ⟨fun z hz=>?_,ih⟩;rcases Gp.1 hz with rfl|h
   .exact hy
   .exact h1 z h
  .rw[Zjr hs hy];show(x::y::r).Pairwise (·<·);have ZX:x<y:=by
    have:x≠y:=fun e=>hn (by rw[e];exact List.mem_cons_self ..)
    omega
   refine H8.2 ⟨fun z hz=>?_,hs⟩;rcases jN.1 hz with rfl|h
   .exact ZX
   .have:=h1 z h;omega
structure sA (k:Nat)(st:Wk):Prop where
 c:st.aA.length<=k
 b:st.bad.length<=k
 l:st.aK.length<=k
 t:st.aH.length<=k
 r:st.runs.length<=k
 bk:Bk.ok ⟨qV,st.aA⟩
 bs:st.bad.Pairwise (·<·)
 bn:∀n∈st.bad,∃y∈st.aA,y.num=n
 s:(st.aK.map Lt.num).Pairwise (·<·)
 lt:∀x∈st.aK,vR x/\0<=x.limit/\x.limit<=1000
 tt:∀t∈st.aH,2<=t.item/\t.item<=5/\0<=t.day/\t.day<=1000/\0<=t.rd/\t.rd<=2000/\∃x∈st.aK,x.num=t.gA
 on:∀r∈st.runs,∃h q o,r=pK h q o/\1<=h/\h<=40/\0<=q/\q<=40/\1<=o/\o<=3
 r6:st.runs.length<=6
theorem ZiB:Bk.ok ⟨qV,[]⟩:=Bk.U6.1 (by decide)
theorem rF:sA 0 jV:=⟨fG _,fG _,fG _,fG _,fG _,ZiB,.nil,fun n h=>(by cases h),.nil,fun x h=>(by cases h),fun t h=>(by cases h),fun r h=>(by cases h),by decide⟩
theorem sA.mono {k k':Nat}{st:Wk}(h:sA k st)(hk:k<=k'):sA k' st:=
 ⟨lC h.c hk,lC h.b hk,lC h.l hk,lC h.t hk,lC h.r hk,h.bk,h.bs,h.bn,h.s,h.lt,h.tt,h.on,h.r6⟩
theorem FU {l:List Ct}{bad:List Int}(h:Bk.ok ⟨qV,l⟩):(fA l bad).ok:=
 ⟨h.i,lC (O1 _ _) h.c,h.it,fun x hx=>h.ct x (iU.1 hx).1,fun x hx y hy=>h.one x (iU.1 hx).1 y (iU.1 hy).1,fun x hx y hy=>h.day x (iU.1 hx).1 y (iU.1 hy).1⟩
theorem sA.fit {k:Nat}{st:Wk}(h:sA k st):zB st.aA st.bad st.aH:=fun t ht=>by
 have h1:=ZmI (FU (bad:=st.bad) h.bk) t.item t.day;obtain⟨_,_,_,_,h2,h3,_⟩:=h.tt t ht;unfold Cr.lS at h1;exact wrap64 (by omega)
theorem sA.ok {k:Nat}{st:Wk}(h:sA k st)(hk:k<=150):yY st:=
 ⟨by have:=h.c;omega,by have:=h.b;omega,by have:=h.l;omega,by have:=h.t;omega,by have:=h.r;omega,fun x hx=>(h.lt x hx).1,h.fit,fun r hr=>by
  obtain⟨a,b,c,rfl,_⟩:=h.on r hr;show 2<=1000
  omega⟩
theorem AA {α β:Type}{r:Except Int α}{f:α->β}{w:β}(h:r.map f=.ok w):∃l,r=.ok l/\w=f l:=by
 cases r with
 |ok l=>cases h;exact⟨l,rfl,rfl⟩
 |error e=>cases h
theorem Zlp {l l':List Ct}{bad:List Int}{x:Ct}(h:lX l bad x=.ok l'):l'=l++[x]/\Bk.ok ⟨qV,l++[x]⟩/\(fA (l++[x]) bad).qU.2=7/\∀y∈l,y.num≠x.num:=by
 unfold lX at h;split at h
 .cases h
 .rename_i h0;split at h
  .rename_i h1;split at h
   .rename_i h2;cases h;refine⟨rfl,Bk.U6.1 h1,h2,fun y hy e=>h0 ?_⟩;exact oU.2 ⟨y,hy,by simpa using e⟩
   .cases h
  .cases h
theorem ZoS {l:List Ct}{bad b':List Int}{n:Int}(h:pS l bad n=.ok b'):(∃y∈l,y.num=n)/\n∉bad/\b'=lM bad (dI bad n) n:=by
 unfold pS at h;split at h
 .rename_i h0;split at h
  .cases h
  .rename_i h1;cases h;obtain⟨y,hy,e⟩:=oU.1 h0;exact⟨⟨y,hy,by simpa using e⟩,h1,rfl⟩
 .cases h
theorem Ztm {ls l':List Lt}{x:Lt}(h:pL ls x=.ok l'):(vR x/\0<=x.limit/\x.limit<=1000)/\x.num∉ls.map Lt.num/\l'=lM ls (dI (ls.map Lt.num) x.num) x:=by
 unfold pL at h;split at h
 .rename_i h0;split at h
  .cases h
  .rename_i h1;cases h;simp only[dJ,decide_eq_true_eq]at h0;exact⟨⟨⟨h0.1.1,h0.1.2,h0.2.1.1,h0.2.1.2⟩,h0.2.2⟩,h1,rfl⟩
 .cases h
theorem Zo9 {S:Int->Int->Bool}{v:Lt->Int}{ls:List Lt}{ts l':List Tt}{q:Tt}(h:kP S v ls ts q=.ok l'):l'=ts++[q]/\(2<=q.item/\q.item<=5/\0<=q.day/\q.day<=1000/\0<=q.rd/\q.rd<=2000)/\S q.item q.day=true/\∃x∈ls,x.num=q.gA/\x.passed=false/\v x=3/\(kS ts q.gA:Int)<x.pieces:=by
 unfold kP at h;split at h
 .rename_i h0;split at h
  .rename_i x hx;split at h
   .rename_i h1;split at h
    .cases h
    .rename_i h2;split at h
     .rename_i h3;split at h
      .rename_i h4;split at h
       .rename_i h5;cases h;simp only[dJ,decide_eq_true_eq]at h0;exact⟨rfl,⟨h0.1.1,h0.1.2,h0.2.1.1,h0.2.1.2,h0.2.2.1,h0.2.2.2⟩,h5,x,dK hx,h1,by simpa using h2,h3,h4⟩
       .cases h
      .cases h
     .cases h
   .cases h
  .cases h
 .cases h
theorem ZpP {v:Lt->Int}{ls l':List Lt}{n:Int}(h:jH v ls n=.ok l'):∃i x,ls[i]?=some x/\x.num=n/\x.passed=false/\v x=1/\l'=ls.set i { x with passed:=true }:=by
 unfold jH at h;split at h
 .rename_i x hx;split at h
  .rename_i h1;split at h
   .cases h
   .rename_i h2;split at h
    .cases h
    .split at h
     .rename_i h4;cases h;exact⟨_,x,hx,h1,by simpa using h2,h4,rfl⟩
     .cases h
  .cases h
 .cases h
theorem Zm4 {F:Nat}{rs l':List Qn.Rq}{a r o:Int}(h:runM F rs a r o=.ok l'):l'=rs++[pK a r o]/\(1<=a/\a<=40/\0<=r/\r<=40/\1<=o/\o<=3)/\rs.length<6/\eY F (uL (rs++[pK a r o]))=0:=by
 unfold runM at h;split at h
 .rename_i h0;split at h
  .rename_i h1;split at h
   .rename_i h2;cases h;simp only[dJ,decide_eq_true_eq]at h0;exact⟨rfl,⟨h0.1.1,h0.1.2,h0.2.1.1,h0.2.1.2,h0.2.2.1,h0.2.2.2⟩,h1,h2⟩
   .cases h
  .cases h
 .cases h
theorem ZmZ {ls:List Lt}{i:Nat}{x:Lt}(h:ls[i]?=some x):(ls.set i { x with passed:=true }).map Lt.num=ls.map Lt.num:=by
 rw[List.map_set];apply List.ext_getElem?;intro j;rw[List.getElem?_set];split
 .rename_i e;subst e;obtain⟨hl,hx⟩:=bZ.1 h;rw[fV,if_pos hl,bW,h];rfl
 .rfl
theorem sA.step {F:Nat}{k:Nat}{st w:Wk}{g:FuncId}{nums:List Int}(h:sA k st)(hw:tG F st g nums=.ok w):sA (k+1) w:=by
 have h':=h.mono (Nat.le_succ k);unfold tG at hw;split at hw
 .split at hw
  .obtain⟨l,h1,rfl⟩:=AA hw;obtain⟨rfl,h2,_,_⟩:=Zlp h1;exact⟨by rw[gD];exact Nat.succ_le_succ h.c,h'.b,h'.l,h'.t,h'.r,h2,h.bs,fun n hn=>by
    obtain⟨y,hy,e⟩:=h.bn n hn;exact⟨y,List.mem_append_left _ hy,e⟩,h.s,h.lt,h.tt,h.on,h.r6⟩
  .cases hw
 split at hw
 .split at hw
  .obtain⟨l,h1,rfl⟩:=AA hw;obtain⟨h2,h3,rfl⟩:=ZoS h1;exact⟨h'.c,by rw[SU WI];exact Nat.succ_le_succ h.b,h'.l,h'.t,h'.r,h.bk,Zdy h.bs h3,fun n hn=>by
    rcases Gp.1 hn with rfl|hn
    .exact h2
    .exact h.bn n hn,h.s,h.lt,h.tt,h.on,h.r6⟩
  .cases hw
 split at hw
 .split at hw
  .obtain⟨l,h1,rfl⟩:=AA hw;obtain⟨h2,h3,rfl⟩:=Ztm h1;have hle:∀x,dI (st.aK.map Lt.num) x<=(st.aK.map Lt.num).length:=fun x=>WI
   simp only[fV]at hle;refine⟨h'.c,h'.b,by rw[SU (hle _)];exact Nat.succ_le_succ h.l,h'.t,h'.r,h.bk,h.bs,h.bn,?_,fun x hx=>?_,fun t ht=>?_,h.on,h.r6⟩
   .rw[ZhD];exact Zdy h.s h3
   .rcases Gp.1 hx with rfl|hx
    .exact h2
    .exact h.lt x hx
   .obtain⟨a1,a2,a3,a4,a5,a6,y,hy,e⟩:=h.tt t ht;exact⟨a1,a2,a3,a4,a5,a6,y,Gp.2 (.inr hy),e⟩
  .cases hw
 split at hw
 .split at hw
  .obtain⟨l,h1,rfl⟩:=AA hw;obtain⟨rfl,h2,_,x,hx,h3,_⟩:=Zo9 h1;refine⟨h'.c,h'.b,h'.l,by rw[gD];exact Nat.succ_le_succ h.t,h'.r,h.bk,h.bs,h.bn,h.s,h.lt,fun t ht=>?_,h.on,h.r6⟩;rcases sI.1 ht with ht|ht
   .exact h.tt t ht
   .rw[rY]at ht;subst ht;obtain⟨a1,a2,a3,a4,a5,a6⟩:=h2;exact⟨a1,a2,a3,a4,a5,a6,x,hx,h3⟩
  .cases hw
 split at hw
 .split at hw
  .obtain⟨l,h1,rfl⟩:=AA hw;obtain⟨i,x,hx,h2,h3,_,rfl⟩:=ZpP h1;have hm:∀y∈st.aK.set i { x with passed:=true },∃z∈st.aK,y.num=z.num/\y.pieces=z.pieces/\y.limit=z.limit:=fun y hy=>by
    rcases List.mem_or_eq_of_mem_set hy with hy|rfl
    .exact⟨y,hy,rfl,rfl,rfl⟩
    .exact⟨x,dK hx,rfl,rfl,rfl⟩
   refine⟨h'.c,h'.b,by rw[List.length_set];exact h'.l,h'.t,h'.r,h.bk,h.bs,h.bn,?_,fun y hy=>?_,fun t ht=>?_,h.on,h.r6⟩
   .rw[ZmZ hx];exact h.s
   .obtain⟨z,hz,e1,e2,e3⟩:=hm y hy
    have:=h.lt z hz
    unfold vR at *;rw[e1,e2,e3];exact this
   .obtain⟨a1,a2,a3,a4,a5,a6,y,hy,e⟩:=h.tt t ht;refine⟨a1,a2,a3,a4,a5,a6,?_⟩
    have:y.num∈(st.aK.set i { x with passed:=true }).map Lt.num:=by rw[ZmZ hx];exact List.mem_map_of_mem hy
    obtain⟨z,hz,e'⟩:=iI.1 this;exact⟨z,hz,by rw[e',e]⟩
  .cases hw
 .split at hw
  .obtain⟨l,h1,rfl⟩:=AA hw;obtain⟨rfl,h2,h3,_⟩:=Zm4 h1;refine⟨h'.c,h'.b,h'.l,h'.t,by rw[gD];exact Nat.succ_le_succ h.r,h.bk,h.bs,h.bn,h.s,h.lt,h.tt,fun r hr=>?_,by rw[gD];exact h3⟩;rcases sI.1 hr with hr|hr
   .exact h.on r hr
   .rw[rY]at hr;subst hr;exact⟨_,_,_,rfl,h2⟩
  .cases hw
theorem sA.next {F:Nat}{k:Nat}{st:Wk}(h:sA k st)(s:ByteArray):sA (k+1) (lI F st s).1:=by
 unfold lI pU;cases hp:O6 s with
 |none=>exact h.mono (Nat.le_succ k)
 |some q=>
  obtain⟨g,nums⟩:=q;dsimp only;cases hd:tG F st g nums with
  |error e=>exact h.mono (Nat.le_succ k)
  |ok w=>exact h.step hd
end
section

theorem Zvh {b:Bk}(hb:b.ok){item day:Int}(h0:0<=item)(h1:item<b.items.length)(h2:0<=day)(h3:day<=1000):b.uW item day=if b.qF item day=true then 0 else 10:=by
 unfold Bk.uW Bk.uK iX;rw[Bk.U6.2 hb,decide_eq_true h0,decide_eq_true (show item<=(b.items.length:Int)-1 by omega),decide_eq_true h2,decide_eq_true h3];rfl
attribute [local irreducible] Bk.held Bk.nums Bk.iG Bk.span
section
variable {b b':Bk}
structure F6 (b b':Bk):Prop where
 i:b'.items=b.items
 c:∀c∈b.aA,c∈b'.aA
theorem F6.item (h:F6 b b')(i:Int):b'.item i=b.item i:=by unfold Bk.item;rw[h.i]
theorem F6.held (hb:b.ok)(nL:b'.ok)(h:F6 b b'){x:Int}(hx:x∈b.held []):x∈b'.held []:=ZiE hb nL (fun c _=>h.item _) h.c (fun _ h=>h) hx
theorem F6.ZxA (hb:b.ok)(nL:b'.ok)(h:F6 b b')(item day below:Int):(b'.kD (b'.held []) (b'.span (b'.held [])) item day below).sub (b.kD (b.held []) (b.span (b.held [])) item day below):=
 Ziz (h.item _) h.c (fun x hx=>h.held hb nL hx) fun c hc _ hx=>ZmG hb nL (fun c _=>h.item _) h.c c hc hx
theorem F6.contra (hb:b.ok)(nL:b'.ok)(h:F6 b b')(hc:b.contra=true):b'.contra=true:=by
 unfold Bk.contra at hc ⊢;rw[oU]at hc ⊢;obtain⟨c,hc,e⟩:=hc;rw[dJ,jB,decide_eq_true_eq]at e;refine⟨c,h.c c hc,?_⟩;have hs:=h.ZxA hb nL c.it c.day 1000;unfold Cr.sub at hs;rw[dJ,jB,decide_eq_true_eq];exact⟨h.held hb nL e.1,by omega⟩
end
end
section
attribute [local irreducible] Bk.qU eY Bk.contra Bk.held Bk.span Bk.nums
theorem ZhR {bad:List Int}{x:Ct}:wQ bad x=true↔x.num∈bad:=by
 unfold wQ;simp
theorem Zle {l:List Ct}{bad:List Int}{x:Ct}:x∈fR l bad↔x∈l/\x.num∉bad:=by
 unfold fR;rw[iU];constructor
 .rintro⟨h1,h2⟩;refine⟨h1,fun h=>?_⟩;rw[ZhR.2 h]at h2;cases h2
 .rintro⟨h1,h2⟩;refine⟨h1,?_⟩;cases hb:wQ bad x with
  |false=>rfl
  |true=>exact absurd (ZhR.1 hb) h2
theorem Zod {l:List Ct}{bad yN:List Int}(h:∀n∈bad,n∈yN):F6 (fA l yN) (fA l bad):=
 ⟨rfl,fun c hc=>by
  obtain⟨h1,h2⟩:=Zle.1 hc;exact Zle.2 ⟨h1,fun hh=>h2 (h _ hh)⟩⟩
theorem Zmf {l:List Ct}{bad yN:List Int}(hl:Bk.ok ⟨qV,l⟩)(h:∀n∈bad,n∈yN)(hc:(fA l bad).contra=false):(fA l yN).contra=false:=by
 cases hx:(fA l yN).contra with
 |false=>rfl
 |true=>rw[(Zod h).contra (FU hl) (FU hl) hx]at hc;cases hc
end
section
attribute [local irreducible] eY Bk.contra Bk.held Bk.span Bk.nums Bk.fault
theorem Zfd {b:Bk}(hb:b.ok)(h:b.qU.2=7):b.contra=false:=by
 have hf:=Bk.U6.2 hb;unfold Bk.qU at h;rw[if_pos hf]at h;cases hc:b.contra with
 |false=>rfl
 |true=>rw[hc,if_pos rfl]at h;cases h
theorem Zsl {b:Bk}(hb:b.ok)(h:b.contra=false):b.qU=([],7):=by
 have hf:=Bk.U6.2 hb;unfold Bk.qU;rw[if_pos hf,h,if_neg (by decide)]
structure AH (st:Wk):Prop where
 nc:(fA st.aA st.bad).contra=false
 q:eY 408 (uL st.runs)=0
theorem V7:AH jV:=⟨Zfd (b:=fA [] []) (FU ZiB) (by decide +kernel),by decide +kernel⟩
theorem AH.step {k:Nat}{st w:Wk}{g:FuncId}{nums:List Int}(h:sA k st)(j:AH st)(hw:tG 408 st g nums=.ok w):AH w:=by
 unfold tG at hw;split at hw
 .split at hw
  .obtain⟨l,h1,rfl⟩:=AA hw;obtain⟨rfl,h2,h3,_⟩:=Zlp h1;exact⟨Zfd (FU h2) h3,j.q⟩
  .cases hw
 split at hw
 .split at hw
  .obtain⟨l,h1,rfl⟩:=AA hw;obtain⟨h2,h3,rfl⟩:=ZoS h1;exact⟨Zmf h.bk (fun n hn=>Gp.2 (.inr hn)) j.nc,j.q⟩
  .cases hw
 split at hw
 .split at hw
  .obtain⟨l,h1,rfl⟩:=AA hw;exact⟨j.nc,j.q⟩
  .cases hw
 split at hw
 .split at hw
  .obtain⟨l,h1,rfl⟩:=AA hw;exact⟨j.nc,j.q⟩
  .cases hw
 split at hw
 .split at hw
  .obtain⟨l,h1,rfl⟩:=AA hw;exact⟨j.nc,j.q⟩
  .cases hw
 .split at hw
  .obtain⟨l,h1,rfl⟩:=AA hw;obtain⟨rfl,_,_,h4⟩:=Zm4 h1;exact⟨j.nc,h4⟩
  .cases hw
theorem AH.next {k:Nat}{st:Wk}(h:sA k st)(j:AH st)(s:ByteArray):AH (lI 408 st s).1:=by
 unfold lI pU;cases hp:O6 s with
 |none=>exact j
 |some q=>
  obtain⟨g,nums⟩:=q;dsimp only;cases hd:tG 408 st g nums with
  |error e=>exact j
  |ok w=>exact j.step h hd
theorem Fe:∀{l:List ByteArray} {k:Nat} {st:Wk},sA k st->AH st->sA (k+l.length) (cU (lI 408) st l).1/\AH (cU (lI 408) st l).1
 |[],k,st,h,j=>⟨h,j⟩
 |x::l,k,st,h,j=>by
  have:=Fe (l:=l) (h.next (F:=408) x) (j.next h x)
  rw[show k+1+l.length=k+(x::l).length by rw[pB];omega]at this;exact this
end
section
attribute [local irreducible] Bk.qU eY Bk.contra Bk.held Bk.span Bk.nums Bk.qF
theorem Zls {b:Bk}{i d:Int}:(b.c6 i d).2=b.uW i d:=by
 unfold Bk.c6;split
 .rename_i h;rw[h]
  split<;>rfl
 .rfl
end
def qY (S:Int->Int->Bool)(G:Tt->Bool)(num:Int):List Tt->List Bool->Int×Nat
 |[],rs=>(3,rs.length)
 |t::l,rs=>if t.gA=num/\S t.item t.day=true then(if(cY (rs++[!G t])).1=3 then qY S G num l (rs++[!G t])else((cY (rs++[!G t])).1,(rs++[!G t]).length))else qY S G num l rs
theorem Ztk {S:Int->Int->Bool}{G:Tt->Bool}{num:Int}{rs:List Bool}:qY S G num [] rs=(3,rs.length):=rfl
theorem Zv {S:Int->Int->Bool}{G:Tt->Bool}{num:Int}{t:Tt}{l:List Tt}{rs:List Bool}:qY S G num (t::l) rs=if t.gA=num/\S t.item t.day=true then(if(cY (rs++[!G t])).1=3 then qY S G num l (rs++[!G t])else((cY (rs++[!G t])).1,(rs++[!G t]).length))else qY S G num l rs:=rfl
theorem Ga {S:Int->Int->Bool}{G:Tt->Bool}{num:Int}:∀{l:List Tt} {rs:List Bool},(qY S G num l rs).1=hZ S G num l rs
 |[],rs=>rfl
 |t::l,rs=>by
  rw[Zv,Zgm];split
  .split
   .exact Ga
   .rfl
  .exact Ga
def lD (rs:List Bool):Prop:=rs.length<2\/(rs.length<4/\eB (dD (rs.take 2)) 0 2=3)
theorem ZkL:lD []:=.inl (by decide)
theorem lD.len {rs:List Bool}(h:lD rs):rs.length<=3:=by
 rcases h with h|⟨h,_⟩<;>omega
theorem lD.step {rs:List Bool}(h:lD rs)(b:Bool):(cY (rs++[b])).2.2=0/\((cY (rs++[b])).1=3->lD (rs++[b])):=by
 have hl:(rs++[b]).length=rs.length+1:=by rw[gD];rfl
 rcases h with h|⟨h4,hs⟩
 .by_cases h1:rs.length+1<2
  .unfold cY lD;rw[hl,if_pos h1];exact⟨rfl,fun _=>.inl h1⟩
  .have h2:rs.length+1=2:=by omega
   unfold cY lD;rw[hl,if_neg h1,h2];by_cases h3:eB (dD ((rs++[b]).take 2)) 0 2=3
   .rw[if_pos h3,if_pos (by decide)];exact⟨rfl,fun _=>.inr ⟨by decide,h3⟩⟩
   .rw[if_neg h3,if_neg (by decide)];exact⟨rfl,fun h=>absurd h h3⟩
 .by_cases h1:rs.length<2
  .by_cases H3:rs.length+1<2
   .unfold cY lD;rw[hl,if_pos H3];exact⟨rfl,fun _=>.inl H3⟩
   .have h2:rs.length+1=2:=by omega
    unfold cY lD;rw[hl,if_neg H3,h2];by_cases h3:eB (dD ((rs++[b]).take 2)) 0 2=3
    .rw[if_pos h3,if_pos (by decide)];exact⟨rfl,fun _=>.inr ⟨by decide,h3⟩⟩
    .rw[if_neg h3,if_neg (by decide)];exact⟨rfl,fun h=>absurd h h3⟩
  .have ht:(rs++[b]).take 2=rs.take 2:=List.take_append_of_le_length (by omega);unfold cY lD;rw[hl,if_neg (by omega),ht,if_pos hs];by_cases h3:rs.length+1<4
   .rw[if_pos h3];exact⟨rfl,fun _=>.inr ⟨h3,hs⟩⟩
   .rw[if_neg h3,if_neg (by omega)];refine⟨rfl,fun h=>?_⟩;exfalso;revert h;show eB _ 1 2≠3;unfold eB;split
    .decide
    .split
     .decide
     .omega
def tR (len:Nat)(ds:List UInt8):Option Nat:=if ds.length=0\/9<ds.length\/(ds.head?=some 48/\1<len)then none else Lib.decFrom 0 ds
def xY (s:ByteArray):Option Int:=match s.data.toList with
 |45::r=>(tR (r.length+1) r).map fun(n:Nat)=>-(n:Int)
 |l=>(tR l.length l).map fun(n:Nat)=>(n:Int)
theorem Nk {b:UInt8}:∀{l:List UInt8} {acc:Nat},Lib.decFrom acc (l++[b])=(Lib.decFrom acc l).bind fun n=>(Lib.digitVal b).map fun d=>n*10+d
 |[],acc=>by
  simp only[List.nil_append,Lib.decFrom,Option.bind_some];cases Lib.digitVal b<;>rfl
 |x::l,acc=>by
  simp only[List.cons_append,Lib.decFrom];cases Lib.digitVal x with
  |none=>rfl
  |some d=>exact Nk (l:=l)
theorem Xo {d:Nat}(h:d<10):Lib.digitVal (UInt8.ofNat (48+d))=some d:=by
 unfold Lib.digitVal;have e:(UInt8.ofNat (48+d)).toNat=48+d:=by rw[UInt8.toNat_ofNat'];omega
 rw[e,if_pos (by omega)];congr 1;omega
theorem ZrI {b:UInt8}{d:Nat}(h:Lib.digitVal b=some d):d<10/\b=UInt8.ofNat (48+d):=by
 unfold Lib.digitVal at h;split at h
 .rename_i hb;cases h;refine⟨by omega,UInt8.toNat_inj.1 ?_⟩;rw[UInt8.toNat_ofNat'];omega
 .cases h
theorem SS {u:Nat}(h:u<10):Lib.decDigits u=[UInt8.ofNat (48+u)]:=Lib.decDigits_one h
theorem Fq {u:Nat}(h:¬u<10):Lib.decDigits u=Lib.decDigits (u / 10)++[UInt8.ofNat (48+u%10)]:=by
 conv=>lhs;rw[Lib.decDigits,dif_neg h]
theorem ZhK (u:Nat):Lib.decFrom 0 (Lib.decDigits u)=some u:=by
 induction u using Nat.strongRecOn with
 |_ u ih=>
  by_cases h:u<10
  .rw[SS h];simp only[Lib.decFrom,Xo h];congr 1;omega
  .rw[Fq h,Nk,ih (u / 10) (by omega),Option.bind_some,Xo (Nat.mod_lt _ (by decide)),uU];congr 1;omega
theorem SL (u:Nat):Lib.decDigits u≠[]:=by
 by_cases h:u<10
 .rw[SS h];simp
 .rw[Fq h];simp
theorem ZqD (u:Nat):(Lib.decDigits u).head?=some 48->u=0:=by
 induction u using Nat.strongRecOn with
 |_ u ih=>
  intro hh;by_cases h:u<10
  .rw[SS h]at hh;simp only[List.head?_cons,Option.some.injEq]at hh
   have:=congrArg UInt8.toNat hh
   rw[UInt8.toNat_ofNat']at this;have e:(48:UInt8).toNat=48:=rfl;omega
  .rw[Fq h]at hh;have h2:(Lib.decDigits (u / 10)++[UInt8.ofNat (48+u%10)]).head?=(Lib.decDigits (u / 10)).head?:=by
    cases hd:Lib.decDigits (u / 10)with
    |nil=>exact absurd hd (SL _)
    |cons c t=>rfl
   rw[h2]at hh
   have:=ih (u / 10) (by omega) hh
   omega
theorem canon:∀(k:Nat) (ds:List UInt8) (n:Nat),ds.length<=k->Lib.decFrom 0 ds=some n->ds≠[]->(ds.head?=some 48->ds.length=1)->ds=Lib.decDigits n
 |0,ds,n,hk,_,dA,_=>absurd (List.length_eq_zero_iff.1 (by omega)) dA
 |k+1,ds,n,hk,hf,dA,hh=>by
  obtain⟨l,b,rfl⟩:∃l b,ds=l++[b]:=⟨ds.dropLast,ds.getLast dA,(List.dropLast_concat_getLast dA).symm⟩;rw[Nk]at hf;rw[gD,List.length_singleton]at hk;cases hl:Lib.decFrom 0 l with
  |none=>rw[hl]at hf;cases hf
  |some v=>
   rw[hl,Option.bind_some]at hf;obtain⟨d,hd,rfl⟩:=dZ.1 hf;obtain⟨tW,rfl⟩:=ZrI hd;by_cases qN:l=[]
   .subst qN;cases hl;rw[Nat.zero_mul,rX,SS tW];rfl
   .have Ty:l.head?≠some 48:=fun e=>by
     have h1:(l++[UInt8.ofNat (48+d)]).head?=some 48:=by
      cases l with
      |nil=>exact absurd rfl qN
      |cons c t=>exact e
     have h2:=hh h1;rw[gD,List.length_singleton]at h2;exact qN (List.length_eq_zero_iff.1 (by omega))
    have gN:=canon k l v (by omega) hl qN (fun e=>absurd e Ty);have hv:v≠0:=fun e=>by
     subst e;rw[gN]at Ty;exact Ty (by rw[SS (by decide)];rfl)
    rw[Fq (by omega),show(v*10+d) / 10=v by omega,show(v*10+d)%10=d by omega,<-gN]
theorem ZkX {len:Nat}{ds:List UInt8}{n:Nat}(hlen:ds.length<=len)(h:tR len ds=some n):ds=Lib.decDigits n/\ds.length<=9/\(1<len->ds.head?≠some 48):=by
 unfold tR at h;split at h
 .cases h
 .rename_i hc;have h1:ds.length≠0:=fun e=>hc (.inl e)
  have h2:ds.length<=9:=Nat.le_of_not_lt fun e=>hc (.inr (.inl e))
  have h3:1<len->ds.head?≠some 48:=fun hl e=>hc (.inr (.inr ⟨e,hl⟩))
  refine⟨canon ds.length ds n (fG _) h (fun e=>h1 (by rw[e];rfl)) (fun e=>?_),h2,h3⟩;by_cases hl:1<len
  .exact absurd e (h3 hl)
  .omega
theorem ZnV {len u:Nat}(hlen:len=1->u<10)(h:(Lib.decDigits u).length<=9)(h0:1<len->u≠0\/len=(Lib.decDigits u).length):tR len (Lib.decDigits u)=some u:=by
 unfold tR;rw[if_neg,ZhK];rintro(e|e|⟨e1,e2⟩)
 .exact SL u (List.length_eq_zero_iff.1 e)
 .omega
 .have:=ZqD u e1
  subst this;rcases h0 e2 with h|h
  .exact h rfl
  .rw[h,SS (by decide)]at e2;exact absurd e2 (by decide)
theorem Zrg (k:Nat)(h:(Lib.decDigits k).length<=9):Lib.atoiAll (Lib.decDigits k)=.ok (k:Int):=by
 rw[Lib.atoiAll_short _ (by omega)];have mM:=Kv k;have hf:=ZhK k;have dA:=SL k;cases hd:Lib.decDigits k with
 |nil=>exact absurd hd dA
 |cons c r=>
  rw[hd]at hf;have h45:c≠45:=mM c (by rw[hd];exact List.mem_cons_self ..);have h43:c≠43:=fun e=>by
   subst e;simp only[Lib.decFrom]at hf
   have:Lib.digitVal 43=none:=by decide
   rw[this]at hf;cases hf
  have e45:(c==45)=false:=by simpa using h45
  have e43:(c==43)=false:=by simpa using h43
  simp only[Lib.atoi,e45,e43,Lib.decNat,List.isEmpty_cons,Bool.false_eq_true,if_false,hf,uU];rfl
theorem Zrf (k:Nat)(h:(Lib.decDigits k).length<=9):Lib.atoiAll (45::Lib.decDigits k)=.ok (-(k:Int)):=by
 rw[Lib.atoiAll_short _ (by rw[pB];omega)];have hf:=ZhK k;have dA:=SL k;have he:(Lib.decDigits k).isEmpty=false:=by
  cases hd:Lib.decDigits k with
  |nil=>exact absurd hd dA
  |cons c r=>rfl
 simp only[Lib.atoi,Lib.decNat,he,Bool.false_eq_true,if_false,hf,uU];rfl
theorem Zke (k:Nat):Lib.trimPrefix (Lib.decDigits k) [45]=Lib.decDigits k:=by
 have mM:=Kv k;cases hd:Lib.decDigits k with
 |nil=>rfl
 |cons c r=>
  have hc:c≠45:=mM c (by rw[hd];exact List.mem_cons_self ..);simp[Lib.trimPrefix,Lib.hasPrefix]
  try exact fun e=>absurd e.symm hc
theorem Zkd (l:List UInt8):Lib.trimPrefix (45::l) [45]=l:=by simp[Lib.trimPrefix,Lib.hasPrefix]
theorem ZnM {s:ByteArray}{v:Int}(h1:s.data.toList=Lib.itoa v)(h2:Lib.atoiAll (Lib.itoa v)=.ok v)(h3:(Lib.trimPrefix (Lib.itoa v) [45]).length<=9):lK s=some v:=by
 unfold lK;rw[h1,h2];have e:vW v=s:=by
  unfold vW;rw[<-h1]
 have e2:(trimB s ⟨#[45]⟩).size<=9:=by
  show(Lib.trimPrefix s.data.toList [45]).length<=9;rw[h1];exact h3
 exact if_pos ⟨e,e2⟩
theorem ZuJ {s:ByteArray}{v:Int}(h:xY s=some v):lK s=some v:=by
 unfold xY at h;split at h
 .rename_i r hr;obtain⟨n,hn,rfl⟩:=dZ.1 h;obtain⟨g1,g2,g3⟩:=ZkX (Nat.le_succ _) hn;have xF:n≠0:=fun e=>by
   subst e
   have:r.length≠0:=fun e=>by
    unfold tR at hn;rw[if_pos (.inl e)]at hn;cases hn
   exact g3 (by omega) (by rw[g1,SS (by decide)];rfl)
  have hi:Lib.itoa (-(n:Int))=45::Lib.decDigits n:=Lib.itoa_neg n (by omega);rw[g1]at g2;exact ZnM (by rw[hi,hr,g1]) (by rw[hi];exact Zrf n g2) (by rw[hi,Zkd];exact g2)
 .rename_i l hl;obtain⟨n,hn,rfl⟩:=dZ.1 h;obtain⟨g1,g2,_⟩:=ZkX (fG _) hn;have hi:Lib.itoa (n:Int)=Lib.decDigits n:=Lib.itoa_nonneg n;have EU:=g2;rw[g1]at EU;exact ZnM (by rw[hi,<-g1]) (by rw[hi];exact Zrg n EU) (by rw[hi,Zke];exact EU)
theorem ZuK {s:ByteArray}{v:Int}(h:lK s=some v):xY s=some v:=by
 unfold lK at h;split at h
 .split at h
  .rename_i u _ hc;cases h;obtain⟨h1,h2⟩:=hc;have hs:s.data.toList=Lib.itoa v:=by rw[<-h1];rfl
   have h3:(Lib.trimPrefix s.data.toList [45]).length<=9:=h2;rw[hs]at h3;unfold xY;rw[hs];by_cases Sw:v<0
   .obtain⟨k,rfl⟩:∃k:Nat,v = -(k:Int):=⟨v.natAbs,by omega⟩;rw[Lib.itoa_neg k (by omega)]at h3 ⊢;rw[Zkd]at h3;show(tR ((Lib.decDigits k).length+1) (Lib.decDigits k)).map (fun(n:Nat)=>-(n:Int))=_;rw[ZnV (fun e=>absurd e (by have:=List.length_pos_iff.2 (SL k);omega)) h3 (fun _=>.inl (by omega))];rfl
   .obtain⟨k,rfl⟩:∃k:Nat,v=(k:Int):=⟨v.toNat,by omega⟩;rw[Lib.itoa_nonneg]at h3 ⊢;rw[Zke]at h3;have hm:=ZnV (len:=(Lib.decDigits k).length) (u:=k) (fun e=>by
     by_cases hk:k<10
     .exact hk
     .rw[Fq hk,gD,List.length_singleton]at e
      have:=List.length_pos_iff.2 (SL (k / 10))
      omega) h3 (fun _=>.inr rfl)
    have mM:=Kv k;cases hd:Lib.decDigits k with
    |nil=>exact absurd hd (SL k)
    |cons c r=>
     rw[hd]at hm;have hc:c≠45:=mM c (by rw[hd];exact List.mem_cons_self ..);split
     .rename_i r' e;exact absurd (List.cons.inj e).1 hc
     .rw[hm];rfl
  .cases h
 .cases h
theorem ZuI (s:ByteArray):xY s=lK s:=by
 cases h:xY s with
 |some v=>exact(ZuJ h).symm
 |none=>
  cases h2:lK s with
  |none=>rfl
  |some v=>rw[ZuK h2]at h;cases h
def I4:List UInt8->List (List UInt8)
 |[]=>[[]]
 |c::r=>if c=32 then[]::I4 r else match I4 r with
  |h::t=>(c::h)::t
  |[]=>[[c]]
theorem Hw (c:UInt8)(r:List UInt8):I4 (c::r)=if c=32 then[]::I4 r else match I4 r with
  |h::t=>(c::h)::t
  |[]=>[[c]]:=rfl
theorem Zk9:∀l:List UInt8,(Lib.index l [32] = -1/\I4 l=[l])\/∃i:Nat,Lib.index l [32]=(i:Int)/\i<l.length/\I4 l=l.take i::I4 (l.drop (i+1))
 |[]=>.inl ⟨by decide,rfl⟩
 |c::r=>by
  by_cases hc:c=32
  .subst hc;refine .inr ⟨0,?_,by simp,?_⟩
   .simp[Lib.index]
   .simp[I4]
  .have hp:([32]:List UInt8).isPrefixOf (c::r)=false:=by
    simp[List.isPrefixOf];exact fun e=>absurd e.symm hc
   rcases Zk9 r with⟨h1,h2⟩|⟨i,h1,h2,h3⟩
   .refine .inl ⟨?_,?_⟩
    .unfold Lib.index;rw[hp,h1];rfl
    .rw[Hw,if_neg hc,h2]
   .refine .inr ⟨i+1,?_,by rw[pB];omega,?_⟩
    .unfold Lib.index;rw[hp,h1]
     have:((i:Int)==-1)=false:=by
      rw[beq_eq_false_iff_ne];omega
     rw[this];simp
    .rw[Hw,if_neg hc,h3];rfl
theorem Zkj:∀(k:Nat) (l:List UInt8),Lib.count l [32]=k->Lib.splitK [32] 0 k l=I4 l
 |k,l,hk=>by
  rcases Zk9 l with⟨h1,h2⟩|⟨i,h1,h2,h3⟩
  .have h0:k=0:=by rw[<-hk];exact Lib.count_miss h1
   subst h0;rw[h2];rfl
  .have hc:=Lib.count_hit (s:=l) (sub:=[32]) (by simp) h1;rw[hk]at hc;cases k with
   |zero=>omega
   |succ k=>
    have VB:Lib.count (l.drop (i+[32].length)) [32]=k:=by omega
    have ih:=Zkj k (l.drop (i+1)) VB;unfold Lib.splitK;rw[h1]
    have:((i:Int)==-1)=false:=by
     rw[beq_eq_false_iff_ne];omega
    rw[this,h3];simp only[Bool.false_eq_true,if_false,Nat.add_zero,List.length_singleton,H7];rw[ih]
termination_by k=>k
theorem Zpe (s:ByteArray):(xP s blank).map (·.data.toList)=I4 s.data.toList:=by
 unfold xP;rw[Lib.splitB_data];exact Zkj _ _ rfl
section

theorem Zff:∀{l r:List UInt8},(∀c∈l,c≠32)->I4 (l++32::r)=l::I4 r
 |[],r,_=>by
  rw[List.nil_append,Hw,if_pos rfl]
 |c::l,r,h=>by
  rw[List.cons_append,Hw,if_neg (h c (List.mem_cons_self ..)),Zff (fun x hx=>h x (List.mem_cons_of_mem _ hx))]
theorem Zfg:∀{l:List UInt8},(∀c∈l,c≠32)->I4 l=[l]
 |[],_=>rfl
 |c::l,h=>by
  rw[Hw,if_neg (h c (List.mem_cons_self ..)),Zfg (fun x hx=>h x (List.mem_cons_of_mem _ hx))]
theorem Zmg {a b:ByteArray}(h:a.data.toList=b.data.toList):a=b:=ByteArray.ext (yU.1 h)
theorem ZeQ:∀{l m:List ByteArray},l.map (·.data.toList)=m.map (·.data.toList)->l=m
 |[],[],_=>rfl
 |[],b::m,h=>by cases h
 |a::l,[],h=>by cases h
 |a::l,b::m,h=>by
  simp only[iL,List.cons.injEq]at h;rw[Zmg h.1,ZeQ h.2]
attribute [local irreducible] Bk.qU eY Bk.contra Bk.held Bk.span Bk.nums Bk.qF stM hZ
end
section
open Go.RowKit Go.Shelf
theorem Mf {P:Program}(w:World)(dT sT ty elem:TypeId){k:Nat}(g q dl dc sl sc:Nat)(a:Addr)(cs:Array Value)(T:TypeId)(ds:List Value)(hu:P.underlying dT=some (.slice elem))(hs:eH P elem=some k)
  (hg:w.heap[g]?=some (.cells cs T (0,0))) (hl:ds.length=Nat.min sl dl*k) (Ru:∀j v,ds[j]?=some v->w.cell? (a.add j)=some v) (dE:q+ds.length<=cs.size) (h1:∀v∈ds,v.oneCell'=true):
  (Builtin.copy_ #[dT,sT] ty #[.slice (some ⟨g,q,none⟩) dl dc,.slice (some a) sl sc]).run P w=.ok (goInt (Nat.min sl dl)) (w.setRow g (aR cs.toList q ds).toArray):=by
 have HO:=run_loadCells_list (P:=P) w a ds Ru;have bT:=run_storeCells_at P g q T ds 0 cs w hg (by simpa using dE) h1;simp only[Nat.add_zero]at bT;simp[Builtin.copy_,run_underlying hu,Builtin.lenOf,Builtin.firstCells,Go.Proofs.YtlllhbmbnjnoiaaGreatDoor.run_sizeOf hs,<-hl,HO,bT,aR]
def DS (TE:TypeId)(k b n:Nat)(Ka:List Value)(w:World)(e:Ending)(w':World):Prop:=
 ∃b' o' c' iH,e=.returned (.slice (some ⟨b',o',none⟩) (n+1) c')/\w'.heap[b']?=some (.cells iH TE (0,0))/\(∀j,j<(n+1)*k->iH[o'+j]?=Ka[j]?)/\o'+c'*k<=iH.size/\n+1<=c'/\c'<=maxLen/\(b'=b\/w.heap.size<=b')/\cW [b] w w'
theorem zG {a b:Nat}(h:a<=b):Nat.min a b=a:=Nat.min_eq_left h
theorem LC {a b:Nat}(h:b<=a):Nat.min a b=b:=Nat.min_eq_right h
theorem Fw (w:World)(bs:List Nat):cW bs w w.drew:=⟨rfl,rfl,rfl,fG _,fun _ _ _=>rfl⟩
structure V6 (f:FuncId)(S T:TypeId)(k:Nat):Prop where
 pos:0<k
 A3:prog.underlying S=some (.slice T)
 Iu:eH prog T=some k
 inf:∃i z,prog.info? T=some i/\i.zero=some z/\i.size=k/\(i.bytes=8\/i.bytes=32)/\z.cells.size=k
 last:∀(base:Option Addr) (n c vb vo vc:Nat) (w W2:World) (R:Value) (E:Ending->World->Prop),n<=c->c<=maxLen->(base=none->n=0/\c=0)->(∀ty,(Builtin.append_ #[S,S] ty #[.slice base n c,.slice (some ⟨vb,vo,none⟩) 1 vc]).run prog w=.ok R W2)->E (.returned R) W2->
  Calls prog f #[.slice base n c,.i n,.slice (some ⟨vb,vo,none⟩) 1 vc] w E
 shift:∀(b o n c i vb vo vc:Nat) (cb cv:Array Value) (w W1 W2:World) (E:Ending->World->Prop),w.heap[b]?=some (.cells cb T (0,0))->w.heap[vb]?=some (.cells cv T (0,0))->vb≠b->i<n->n+1<=c->o+c*k<=cb.size->c<=maxLen->
  (∀ty q q' dl dc sl sc,q=o+(i+1)*k->q'=o+i*k->dl=n+1-(i+1)->sl=n+1-i->(Builtin.copy_ #[S,S] ty #[.slice (some ⟨b,q,none⟩) dl dc,.slice (some ⟨b,q',none⟩) sl sc]).run prog w.drew=.ok (goInt ((n-i:Nat):Int)) W1)->
  (∀ty q dl dc,q=o+i*k->dl=n+1-i->(Builtin.copy_ #[S,S] ty #[.slice (some ⟨b,q,none⟩) dl dc,.slice (some ⟨vb,vo,none⟩) 1 vc]).run prog W1=.ok (goInt 1) W2)->E (.returned (.slice (some ⟨b,o,none⟩) (n+1) c)) W2->
  Calls prog f #[.slice (some ⟨b,o,none⟩) n c,.i i,.slice (some ⟨vb,vo,none⟩) 1 vc] w E
 grow:∀(b o n c i vb vo vc G:Nat) (uN C2 C3:Array Value) (w:World) (E:Ending->World->Prop),i<n->c<n+1->n<=c->n<=1000000->n+1<=G->G<=maxLen->
  (∀ty (j:Int),j=((n+1-i:Nat):Int)->(Builtin.append_ #[S,3] ty #[.slice (some ⟨b,o,none⟩) i c,.i j]).run prog w=.ok (.slice (some ⟨w.heap.size,0,none⟩) (n+1) G) (w.drew.alloc (.cells uN T)))->
  (∀(W:World),W.heap=(w.drew.alloc (.cells uN T)).heap->∀ty q dl dc,q=i*k->dl=n+1-i->(Builtin.copy_ #[S,S] ty #[.slice (some ⟨w.heap.size,q,none⟩) dl dc,.slice (some ⟨vb,vo,none⟩) 1 vc]).run prog W=.ok (goInt 1) (W.setRow w.heap.size C2))->
  (∀(W:World),W.heap=((w.drew.alloc (.cells uN T)).setRow w.heap.size C2).heap->∀ty q q' dl dc sl sc,q=(i+1)*k->q'=o+i*k->dl=n+1-(i+1)->sl=n-i->
   (Builtin.copy_ #[S,S] ty #[.slice (some ⟨w.heap.size,q,none⟩) dl dc,.slice (some ⟨b,q',none⟩) sl sc]).run prog W=.ok (goInt ((n-i:Nat):Int)) (W.setRow w.heap.size C3))->
  E (.returned (.slice (some ⟨w.heap.size,0,none⟩) (n+1) G)) ((((w.drew.alloc (.cells uN T)).setRow w.heap.size C2).drew).setRow w.heap.size C3)->
  Calls prog f #[.slice (some ⟨b,o,none⟩) n c,.i i,.slice (some ⟨vb,vo,none⟩) 1 vc] w E
theorem Ztx {f:FuncId}{S T:TypeId}{k:Nat}(F:V6 f S T k)(b o n c vb vo vc:Nat)(cb:Array Value)(dU news:List Value)(w:World)(hb:w.heap[b]?=some (.cells cb T (0,0)))(eP:n+1<=c)(dE:o+c*k<=cb.size)(D7:c<=maxLen)
  (n9:dU.length=n*k) (G4:∀j v,dU[j]?=some v->cb[o+j]?=some v) (sS:news.length=k) (G5:∀j v,news[j]?=some v->w.cell? ⟨vb,vo+j,none⟩=some v) (h1:∀v∈news,v.oneCell'=true):
  Calls prog f #[.slice (some ⟨b,o,none⟩) n c,.i n,.slice (some ⟨vb,vo,none⟩) 1 vc] w (DS T k b n (dU++news) w):=by
 have hk:=F.pos;have E1:=Nat.add_one_mul n k;have E4:=I1 k eP;have CT:c<=9223372036854775807:=by unfold maxLen at D7;omega
 obtain⟨i,z,hi,hz,fH,Z3,tT⟩:=F.inf;have hf:(Builtin.firstCells i.size 1 (.slice (some ⟨vb,vo,none⟩) 1 vc)).run prog w=.ok news.toArray w:=by
  rw[fH];exact run_firstCells_some (P:=prog) w k 1 ⟨vb,vo,none⟩ 1 vc news (by omega) (fun j u hj=>by rw[Addr.add_lit];exact G5 j u hj)
 have dF:∀ty,(Builtin.append_ #[S,S] ty #[.slice (some ⟨b,o,none⟩) n c,.slice (some ⟨vb,vo,none⟩) 1 vc]).run prog w=_:=fun ty=>
  Zgr (P:=prog) (w:=w) (ty:=ty) F.A3 hi b o n c cb hb (some ⟨vb,vo,none⟩) 1 vc news hf h1 eP (by rw[fH];omega)
 have gN:cb.toList.length=cb.size:=uV;have fin:DS T k b n (dU++news) w (.returned (.slice (some ⟨b,o,none⟩) (n+1) c)) (w.setRow b (aR cb.toList (o+n*k) news).toArray):=by
  refine⟨b,o,c,_,rfl,setRow_heap w b cb _ _ _ hb,fun j hj=>?_,?_,eP,D7,.inl rfl,cW.setRow w _ _⟩
  .rw[I0,A0 (by omega),yS,O3];split
   .rename_i h;rw[if_pos (by omega)];have hv:=bB (show j<dU.length by omega);rw[hv];exact G4 j _ hv
   .rename_i h;rw[if_pos (by omega),if_neg (by omega)];congr 1;omega
  .rw[yT,V1 (by omega),gN];exact dE
 rw[fH]at dF;exact F.last _ _ _ _ _ _ _ _ _ _ (by omega) D7 (fun h=>by cases h) dF fin
theorem Zn9 {f:FuncId}{S T:TypeId}{k:Nat}(F:V6 f S T k)(b:Nat)(base:Option Addr)(n c vb vo vc:Nat)(dU news:List Value)(w:World)(eP:c<n+1)(hn:n<=1000000)(qN:base=none->n=0/\c=0)(mB:n<=c)
  (n9:dU.length=n*k) (G4:∀j v,dU[j]?=some v->∃A,base=some A/\w.cell? (A.add j)=some v) (sS:news.length=k) (G5:∀j v,news[j]?=some v->w.cell? ⟨vb,vo+j,none⟩=some v):
  Calls prog f #[.slice base n c,.i n,.slice (some ⟨vb,vo,none⟩) 1 vc] w (DS T k b n (dU++news) w):=by
 have hk:=F.pos;have E1:=Nat.add_one_mul n k;obtain⟨i,z,hi,hz,fH,Z3,tT⟩:=F.inf;have hf:∀w',(∀A,w'.cell? A=w.cell? A)->(Builtin.firstCells i.size 1 (.slice (some ⟨vb,vo,none⟩) 1 vc)).run prog w'=.ok news.toArray w':=fun w' hw=>by
  rw[fH];exact run_firstCells_some (P:=prog) w' k 1 ⟨vb,vo,none⟩ 1 vc news (by omega) (fun j u hj=>by rw[Addr.add_lit,hw];exact G5 j u hj)
 have ho:∀w',(∀A,w'.cell? A=w.cell? A)->(Builtin.firstCells i.size n (.slice base n c)).run prog w'=.ok dU.toArray w':=fun w' hw=>by
  rw[fH];cases base with
  |none=>
   obtain⟨rfl,rfl⟩:=qN rfl;rw[List.length_eq_zero_iff.1 (n9.trans (Nat.zero_mul _))];exact run_firstCells_none w' k 0 0 0
  |some a=>exact run_firstCells_some (P:=prog) w' k n a n c dU n9 (fun j u hj=>by
    obtain⟨A,e,h⟩:=G4 j u hj;cases e;rw[hw];exact h)
 have dF:∀ty,(Builtin.append_ #[S,S] ty #[.slice base n c,.slice (some ⟨vb,vo,none⟩) 1 vc]).run prog w=_:=fun ty=>
  Zgs (P:=prog) (w:=w) (ty:=ty) F.A3 hi hz base n c (some ⟨vb,vo,none⟩) 1 vc dU news ho hf (by omega) (by omega) (growslice_fits (by omega) (by rcases Z3 with h|h<;>rw[h]<;>omega))
 have yL:=grownCap_ge w (n+1) c T;have hle:=grownCap_le_maxLen w (n+1) c T (by unfold maxLen;omega);have fin:DS T k b n (dU++news) w (.returned (.slice (some ⟨w.heap.size,0,none⟩) (n+1) (grownCap w (n+1) c T))) (w.drew.alloc (.cells ((dU++news).toArray++Builtin.zeroCells z.cells (grownCap w (n+1) c T-(n+1))) T)):=by
  refine⟨w.heap.size,0,_,_,rfl,heap_alloc_new w.drew _,fun j hj=>?_,?_,yL,hle,.inr (fG _),(Fw w _).trans (cW.Ev (Ext.al _ _) _)⟩
  .rw[rX,Array.getElem?_append_left (by rw[yT,gD];omega),I0]
  .rw[Array.size_append,yT,gD,size_zeroCells,tT,n9,sS,rX,<-E1,<-Nat.add_mul];exact Nat.le_of_eq (congrArg (·*k) (by omega))
 exact F.last _ _ _ _ _ _ _ _ _ _ mB (by unfold maxLen;omega) qN dF fin
theorem Zqm {f:FuncId}{S T:TypeId}{k:Nat}(F:V6 f S T k)(b o n c i vb vo vc:Nat)(cb cv:Array Value)(dU news:List Value)(w:World)(hb:w.heap[b]?=some (.cells cb T (0,0)))(hv:w.heap[vb]?=some (.cells cv T (0,0)))(UN:vb≠b)(hi:i<n)(eP:n+1<=c)(dE:o+c*k<=cb.size)(D7:c<=maxLen)
  (n9:dU.length=n*k) (G4:∀j v,dU[j]?=some v->cb[o+j]?=some v) (sS:news.length=k) (G5:∀j v,news[j]?=some v->cv[vo+j]?=some v) (Vs:∀v∈dU,v.oneCell'=true) (h1:∀v∈news,v.oneCell'=true):
  Calls prog f #[.slice (some ⟨b,o,none⟩) n c,.i i,.slice (some ⟨vb,vo,none⟩) 1 vc] w (DS T k b n (dU.take (i*k)++news++dU.drop (i*k)) w):=by
 have hk:=F.pos;have E1:=Nat.add_one_mul n k;have E2:=Nat.add_one_mul i k;have E3:n*k=i*k+(n-i)*k:=by rw[<-Nat.add_mul];congr 1;omega
 have E4:=I1 k eP;have CT:c<=9223372036854775807:=by unfold maxLen at D7;omega
 have gN:cb.toList.length=cb.size:=uV;obtain⟨C1,Vl⟩:∃C1,C1=(aR cb.toList (o+(i+1)*k) (dU.drop (i*k))).toArray:=⟨_,rfl⟩;obtain⟨C2,RF⟩:∃C2,C2=(aR C1.toList (o+i*k) news).toArray:=⟨_,rfl⟩;have nE:(dU.drop (i*k)).length=(n-i)*k:=by rw[uH,n9];omega
 have Dd:C1.toList.length=cb.size:=by rw[Vl];show(aR _ _ _).length=_;rw[V1 (by omega),gN]
 have RE:C2.size=cb.size:=by rw[RF,yT,V1 (by omega),Dd]
 have CR:∀ty q q' dl dc sl sc,q=o+(i+1)*k->q'=o+i*k->dl=n+1-(i+1)->sl=n+1-i->(Builtin.copy_ #[S,S] ty #[.slice (some ⟨b,q,none⟩) dl dc,.slice (some ⟨b,q',none⟩) sl sc]).run prog w.drew=.ok (goInt ((n-i:Nat):Int)) (w.drew.setRow b C1):=fun ty q q' dl dc sl sc e1 e2 e3 e4=>by
  subst e1 e2 e3 e4;have h:=Mf (P:=prog) (ty:=ty) w.drew S S T b (o+(i+1)*k) (n+1-(i+1)) dc (n+1-i) sc ⟨b,o+i*k,none⟩ cb T (dU.drop (i*k)) F.A3 F.Iu hb
   (by rw[nE,LC (by omega)];congr 1;omega) (fun j v hj=>by
    rw[Addr.add_lit];rw[mS]at hj
    have:=G4 _ v hj
    rw[<-Nat.add_assoc]at this;exact(cell_of_row w.drew b _ cb _ _ hb).trans this) (by omega) (fun v hv=>Vs v (List.mem_of_mem_drop hv))
  rw[LC (by omega),show n+1-(i+1)=n-i by omega,<-Vl]at h;rw[show n+1-(i+1)=n-i by omega];exact h
 have Bo:(w.drew.setRow b C1).heap[b]?=some (.cells C1 T (0,0)):=setRow_heap w.drew b cb _ _ _ hb;have CQ:∀ty q dl dc,q=o+i*k->dl=n+1-i->(Builtin.copy_ #[S,S] ty #[.slice (some ⟨b,q,none⟩) dl dc,.slice (some ⟨vb,vo,none⟩) 1 vc]).run prog (w.drew.setRow b C1)=.ok (goInt 1) ((w.drew.setRow b C1).setRow b C2):=fun ty q dl dc e1 e2=>by
  subst e1 e2;have h:=Mf (P:=prog) (ty:=ty) (w.drew.setRow b C1) S S T b (o+i*k) (n+1-i) dc 1 vc ⟨vb,vo,none⟩ C1 T news F.A3 F.Iu Bo
   (by rw[sS,zG (by omega),Nat.one_mul]) (fun j v hj=>by
    rw[Addr.add_lit,cell_setRow_other _ _ _ _ UN];exact(cell_of_row w.drew vb _ cv _ _ hv).trans (G5 j v hj)) (by rw[<-uV,Dd];omega) h1
  rw[zG (by omega),<-RF]at h;exact h
 have fin:DS T k b n (dU.take (i*k)++news++dU.drop (i*k)) w (.returned (.slice (some ⟨b,o,none⟩) (n+1) c)) ((w.drew.setRow b C1).setRow b C2):=by
  refine⟨b,o,c,C2,rfl,setRow_heap _ b C1 _ _ _ Bo,fun j hj=>?_,by omega,eP,D7,.inl rfl,((Fw w _).trans (cW.setRow _ _ _)).trans (cW.setRow _ _ _)⟩;have nU:(dU.take (i*k)).length=i*k:=by rw[gJ];omega
  rw[RF,I0,A0 (by omega),Vl,H9,yS,yS,nU];by_cases q1:j<i*k
  .rw[if_pos (by omega),if_pos q1,List.toList_toArray,A0 (by omega),if_pos (by omega),O3,mG,if_pos q1];have hv:=bB (show j<dU.length by omega);rw[hv];exact G4 j _ hv
  by_cases q2:j<(i+1)*k
  .rw[if_neg (by omega),if_pos (by omega),if_neg q1,if_pos (by omega)];congr 1;omega
  .rw[if_neg (by omega),if_neg (by omega),if_neg q1,if_neg (by omega),List.toList_toArray,A0 (by omega),if_neg (by omega),if_pos (by omega)];congr 1;omega
 exact F.shift _ _ _ _ _ _ _ _ cb cv _ _ _ _ hb hv UN hi eP dE D7 CR CQ fin
theorem Zty {f:FuncId}{S T:TypeId}{k:Nat}(F:V6 f S T k)(b o n c i vb vo vc:Nat)(cb cv:Array Value)(dU news:List Value)(w:World)(hb:w.heap[b]?=some (.cells cb T (0,0)))(hv:w.heap[vb]?=some (.cells cv T (0,0)))(hi:i<n)(eP:c<n+1)(mB:n<=c)(hn:n<=1000000)
  (n9:dU.length=n*k) (G4:∀j v,dU[j]?=some v->cb[o+j]?=some v) (sS:news.length=k) (G5:∀j v,news[j]?=some v->cv[vo+j]?=some v) (Vs:∀v∈dU,v.oneCell'=true) (h1:∀v∈news,v.oneCell'=true):
  Calls prog f #[.slice (some ⟨b,o,none⟩) n c,.i i,.slice (some ⟨vb,vo,none⟩) 1 vc] w (DS T k b n (dU.take (i*k)++news++dU.drop (i*k)) w):=by
 have hk:=F.pos;have E1:=Nat.add_one_mul n k;have E2:=Nat.add_one_mul i k;have E3:n*k=i*k+(n-i)*k:=by rw[<-Nat.add_mul];congr 1;omega
 have E5:(n+1-i)*k=(n-i)*k+k:=by rw[<-Nat.add_one_mul];congr 1;omega
 obtain⟨ti,z,PF,hz,fH,Z3,tT⟩:=F.inf;have Ch:b<w.heap.size:=(qE.1 hb).1;have hvw:vb<w.heap.size:=(qE.1 hv).1;have nU:(dU.take (i*k)).length=i*k:=by rw[gJ];omega
 have nE:(dU.drop (i*k)).length=(n-i)*k:=by rw[uH,n9];omega
 have hold:(Builtin.firstCells ti.size i (.slice (some ⟨b,o,none⟩) i c)).run prog w.drew=.ok (dU.take (i*k)).toArray w.drew:=by
  rw[fH];exact run_firstCells_some (P:=prog) w.drew k i ⟨b,o,none⟩ i c (dU.take (i*k)) nU (fun j u hj=>by
   rw[Addr.add_lit];rw[mG]at hj;split at hj
   .exact(cell_of_row w.drew b _ cb _ _ hb).trans (G4 j u hj)
   .cases hj)
 have PL:∀ty (q:Int),q=((n+1-i:Nat):Int)->(Builtin.append_ #[S,3] ty #[.slice (some ⟨b,o,none⟩) i c,.i q]).run prog w =
   .ok (.slice (some ⟨w.heap.size,0,none⟩) (n+1) (grownCap w (n+1) c T)) (w.drew.alloc (.cells ((dU.take (i*k)).toArray++Builtin.zeroCells z.cells (n+1-i)++Builtin.zeroCells z.cells (grownCap w (n+1) c T-(n+1))) T)):=fun ty q hq=>by
  subst hq;have h:=Lib.run_append_grow_zeros w S 3 ty T ti z .i64 .i64 F.A3 underlying3 PF hz (some ⟨b,o,none⟩) i c (dU.take (i*k)) hold (n+1-i) (by omega) (by omega) (by omega) (by omega) (by rcases Z3 with h|h<;>rw[h]<;>omega) (growslice_fits (by omega) (by rcases Z3 with h|h<;>rw[h]<;>omega));rw[show i+(n+1-i)=n+1 by omega]at h;exact h
 have yL:=grownCap_ge w (n+1) c T;have hle:=grownCap_le_maxLen w (n+1) c T (by unfold maxLen;omega);generalize grownCap w (n+1) c T=G at PL yL hle;obtain⟨uN,QZ⟩:∃uN:Array Value,uN=(dU.take (i*k)).toArray++Builtin.zeroCells z.cells (n+1-i)++Builtin.zeroCells z.cells (G-(n+1)):=⟨_,rfl⟩;rw[<-QZ]at PL;have E8:G*k=(n+1)*k+(G-(n+1))*k:=by rw[<-Nat.add_mul];congr 1;omega
 have hRl:uN.size=G*k:=by
  rw[QZ,Array.size_append,Array.size_append,yT,size_zeroCells,size_zeroCells,tT,nU];omega
 have hRt:∀j,j<i*k->uN[j]?=dU[j]?:=fun j hj=>by
  rw[QZ,Array.append_assoc,Array.getElem?_append_left (by rw[yT];omega),I0,mG,if_pos hj]
 obtain⟨C2,RF⟩:∃C2,C2=(aR uN.toList (i*k) news).toArray:=⟨_,rfl⟩;obtain⟨C3,Vk⟩:∃C3,C3=(aR C2.toList ((i+1)*k) (dU.drop (i*k))).toArray:=⟨_,rfl⟩;have hRL:uN.toList.length=G*k:=by rw[uV];exact hRl
 have RE:C2.toList.length=G*k:=by rw[RF];show(aR _ _ _).length=_;rw[V1 (by omega),hRL]
 have hC3l:C3.size=G*k:=by rw[Vk,yT,V1 (by omega),RE]
 have Bo:(w.drew.alloc (.cells uN T)).heap[w.heap.size]?=some (.cells uN T (0,0)):=heap_alloc_new w.drew _;have hh2:((w.drew.alloc (.cells uN T)).setRow w.heap.size C2).heap[w.heap.size]?=some (.cells C2 T (0,0)):=setRow_heap _ _ uN _ _ _ Bo;have CP:∀(W:World),W.heap=(w.drew.alloc (.cells uN T)).heap->∀ty q dl dc,q=i*k->dl=n+1-i->(Builtin.copy_ #[S,S] ty #[.slice (some ⟨w.heap.size,q,none⟩) dl dc,.slice (some ⟨vb,vo,none⟩) 1 vc]).run prog W=.ok (goInt 1) (W.setRow w.heap.size C2):=fun W hW ty q dl dc e1 e2=>by
  subst e1 e2;have rQ:W.heap[vb]?=some (.cells cv T (0,0)):=by rw[hW,heap_alloc_old w.drew _ hvw];exact hv
  have h:=Mf (P:=prog) (ty:=ty) W S S T w.heap.size (i*k) (n+1-i) dc 1 vc ⟨vb,vo,none⟩ uN T news F.A3 F.Iu (by rw[hW];exact Bo)
   (by rw[sS,zG (by omega),Nat.one_mul]) (fun j v hj=>by
    rw[Addr.add_lit];exact(cell_of_row W vb _ cv _ _ rQ).trans (G5 j v hj)) (by omega) h1
  rw[zG (by omega),<-RF]at h;exact h
 have CO:∀(W:World),W.heap=((w.drew.alloc (.cells uN T)).setRow w.heap.size C2).heap->∀ty q q' dl dc sl sc,q=(i+1)*k->q'=o+i*k->dl=n+1-(i+1)->sl=n-i->(Builtin.copy_ #[S,S] ty #[.slice (some ⟨w.heap.size,q,none⟩) dl dc,.slice (some ⟨b,q',none⟩) sl sc]).run prog W=.ok (goInt ((n-i:Nat):Int)) (W.setRow w.heap.size C3):=fun W hW ty q q' dl dc sl sc e1 e2 e3 e4=>by
  subst e1 e2 e3 e4;have nL:W.heap[b]?=some (.cells cb T (0,0)):=by rw[hW,setRow_other _ _ _ _ (by omega),heap_alloc_old w.drew _ Ch];exact hb
  have h:=Mf (P:=prog) (ty:=ty) W S S T w.heap.size ((i+1)*k) (n+1-(i+1)) dc (n-i) sc ⟨b,o+i*k,none⟩ C2 T (dU.drop (i*k)) F.A3 F.Iu (by rw[hW];exact hh2)
   (by rw[nE,zG (by omega)]) (fun j v hj=>by
    rw[Addr.add_lit];rw[mS]at hj
    have:=G4 _ v hj
    rw[<-Nat.add_assoc]at this;exact(cell_of_row W b _ cb _ _ nL).trans this) (by rw[<-uV,RE];omega) (fun v hv=>Vs v (List.mem_of_mem_drop hv))
  rw[zG (by omega),<-Vk]at h;exact h
 have fin:∀W:World,W=(((w.drew.alloc (.cells uN T)).setRow w.heap.size C2).drew).setRow w.heap.size C3->DS T k b n (dU.take (i*k)++news++dU.drop (i*k)) w (.returned (.slice (some ⟨w.heap.size,0,none⟩) (n+1) G)) W:=fun W hW=>by
  subst hW;refine⟨w.heap.size,0,G,C3,rfl,setRow_heap _ _ C2 _ _ _ hh2,fun j hj=>?_,by omega,yL,hle,.inr (fG _),?_⟩
  .rw[rX,Vk,I0,A0 (by omega),RF,H9,yS,yS,nU];by_cases q1:j<i*k
   .rw[if_pos (by omega),if_pos q1,List.toList_toArray,A0 (by omega),if_pos (by omega),O3,mG,if_pos q1];exact hRt j q1
   by_cases q2:j<(i+1)*k
   .rw[if_pos (by omega),if_neg q1,if_pos (by omega),List.toList_toArray,A0 (by omega),if_neg (by omega),if_pos (by omega)]
   .rw[if_neg (by omega),if_pos (by omega),if_neg q1,if_neg (by omega)];congr 1;omega
  .refine⟨rfl,rfl,rfl,by simp,fun k hk _=>?_⟩;rw[setRow_other _ _ _ _ (by omega)];show((w.drew.alloc (.cells uN T)).setRow w.heap.size C2).heap[k]?=_;rw[setRow_other _ _ _ _ (by omega),heap_alloc_old w.drew _ hk];rfl
 exact F.grow _ _ _ _ _ _ _ _ _ uN C2 C3 _ _ hi eP mB hn yL hle PL CP CO (fin _ rfl)
theorem ZuV:V6 237 27 89 4:=by
 refine⟨by decide,underlying27,by kernel_rfl,⟨_,_,rfl,rfl,rfl,by decide,rfl⟩,?_,?_,?_⟩
 .intro base n c vb vo vc w W2 R E G5 hc qN dF fin;have D7:c<=9223372036854775807:=by unfold maxLen at hc;omega
  cases base with
  |none=>
   obtain⟨rfl,rfl⟩:=qN rfl;go_enter func237,ntmps237;go_wp2_with (at_builtin;refine Lib.wpList_append_run _ rfl _ _ _ _ rfl _ _ rfl rfl _ _ (dF _) ?_)
   all_goals exact fin
  |some a=>
   obtain⟨ab,ao,asp⟩:=a;go_enter func237,ntmps237;go_wp2_with (at_builtin;refine Lib.wpList_append_run _ rfl _ _ _ _ rfl _ _ rfl rfl _ _ (dF _) ?_)
   all_goals exact fin
 .intro b o n c i vb vo vc cb cv w W1 W2 E hb hv UN hi eP dE hc CR CQ fin;have CT:c<=9223372036854775807:=by unfold maxLen at hc;omega
  have Sp:∀lb cc,(callFunc 283 #[.slice (some ⟨vb,vo,none⟩) 1 vc,.slice (some ⟨b,o+(i+1)*4,none⟩) lb cc]).run prog w=.ok (.value (.bool false)) w:=fun lb cc=>by
   rw[run_callFunc_extern func283 (by kernel_rfl) (by kernel_rfl) (by kernel_rfl) (e:=Extern.SlicesOverlaps.overlaps #[27,27] #[4]) (by kernel_rfl),
    Lib.run_overlaps_apart w 27 4 89 underlying27 4 (Go.Proofs.YtlllhbmbnjnoiaaGreatDoor.run_sizeOf (by kernel_rfl)) ⟨vb,vo,none⟩ ⟨b,o+(i+1)*4,none⟩ 1 vc lb cc UN 89 89 cv.size cb.size (by simp[World.shape?,hv]) (by simp[World.shape?,hb]) (by omega) (Lib.frozen_of_heap hv vo) (Lib.frozen_of_heap hv cv.size)]
   rfl
  have P5:¬((i:Int)=(n:Int)):=by omega
  have mixed:prog.follows .mixedOrders=true:=by kernel_rfl
  have pW:IntKind.i64.wrap ((i:Int)+1)=(i:Int)+1:=by rw[IntKind.wrap_i64];omega
  have sV:(0:Int)<=(i:Int)+1:=by omega
  have fU:i<=n:=by omega
  have HF:((i:Int)+1).toNat=i+1:=by omega
  have pP:¬(c=i+1):=by omega
  have QT:(i:Int)<=(n:Int)+1:=by omega
  have MN:¬(c=i):=by omega
  go_enter func237,ntmps237;go_wp2_with (simp only[Sp]);go_region_law_o (refine step_copy_runI rfl _ _ 27 27 rfl _ _ (by simp[Act.eval,Act.put]) (by simp[Act.eval,Act.put]) (CR _ _ _ _ _ _ _ (by omega) (by omega) (by omega) (by omega)) ?_);go_wp2_with (at_builtin;refine wpList_copy_runI _ rfl _ _ 27 27 rfl _ _ rfl rfl (CQ _ _ _ _ (by omega) (by omega)) ?_)
  all_goals exact fin
 .intro b o n c i vb vo vc G uN C2 C3 w E hi eP mB hn yL hle PL CP CO fin;have mixed:prog.follows .mixedOrders=true:=by kernel_rfl
  have W9:(c:Int)<(n:Int)+1:=by omega
  have P5:¬((i:Int)=(n:Int)):=by omega
  have pW:IntKind.i64.wrap ((i:Int)+1)=(i:Int)+1:=by rw[IntKind.wrap_i64];omega
  have sV:(0:Int)<=(i:Int)+1:=by omega
  have fU:i<=n:=by omega
  have HF:((i:Int)+1).toNat=i+1:=by omega
  have hGi:¬(G=i):=by omega
  have Vd:¬(G=i+1):=by omega
  have hci:¬(c=i):=by omega
  have Ve:G<=9223372036854775807:=by unfold maxLen at hle;omega
  have QT:(i:Int)<=(n:Int):=by omega
  go_enter func237,ntmps237;go_wp2_with (at_builtin;refine Lib.wpList_append_run _ rfl _ _ _ _ rfl _ _ rfl rfl _ _ (PL _ _ (by omega)) ?_);rw[CP ((w.alloc (.cells uN 89)).drew) rfl _ _ _ _ rfl rfl];simp only[Result.andThen];rw[Oper.upon_value];go_wp2;go_region_law_o (refine step_copy_runI rfl _ _ 27 27 rfl (.slice (some ⟨w.heap.size,(i+1)*4,none⟩) (n+1-(i+1)) (G-(i+1))) (.slice (some ⟨b,o+i*4,none⟩) (n-i) (c-i)) (by simp[Act.eval,Act.put]) (by simp[Act.eval,Act.put]) (CO _ (by rfl) 3 _ _ _ (G-(i+1)) _ (c-i) rfl rfl rfl rfl) ?_);go_wp2
  all_goals exact fin
theorem ZuW:V6 234 26 3 1:=by
 refine⟨by decide,underlying26,by kernel_rfl,⟨_,_,rfl,rfl,rfl,by decide,rfl⟩,?_,?_,?_⟩
 .intro base n c vb vo vc w W2 R E G5 hc qN dF fin;have D7:c<=9223372036854775807:=by unfold maxLen at hc;omega
  cases base with
  |none=>
   obtain⟨rfl,rfl⟩:=qN rfl;go_enter func234,ntmps234;go_wp2_with (at_builtin;refine Lib.wpList_append_run _ rfl _ _ _ _ rfl _ _ rfl rfl _ _ (dF _) ?_)
   all_goals exact fin
  |some a=>
   obtain⟨ab,ao,asp⟩:=a;go_enter func234,ntmps234;go_wp2_with (at_builtin;refine Lib.wpList_append_run _ rfl _ _ _ _ rfl _ _ rfl rfl _ _ (dF _) ?_)
   all_goals exact fin
 .intro b o n c i vb vo vc cb cv w W1 W2 E hb hv UN hi eP dE hc CR CQ fin;have CT:c<=9223372036854775807:=by unfold maxLen at hc;omega
  have Sp:∀lb cc,(callFunc 279 #[.slice (some ⟨vb,vo,none⟩) 1 vc,.slice (some ⟨b,o+(i+1),none⟩) lb cc]).run prog w=.ok (.value (.bool false)) w:=fun lb cc=>by
   rw[run_callFunc_extern func279 (by kernel_rfl) (by kernel_rfl) (by kernel_rfl) (e:=Extern.SlicesOverlaps.overlaps #[26,26] #[4]) (by kernel_rfl),
    Lib.run_overlaps_apart w 26 4 3 underlying26 1 (Go.Proofs.YtlllhbmbnjnoiaaGreatDoor.run_sizeOf (by kernel_rfl)) ⟨vb,vo,none⟩ ⟨b,o+(i+1),none⟩ 1 vc lb cc UN 3 3 cv.size cb.size (by simp[World.shape?,hv]) (by simp[World.shape?,hb]) (by omega) (Lib.frozen_of_heap hv vo) (Lib.frozen_of_heap hv cv.size)]
   rfl
  have P5:¬((i:Int)=(n:Int)):=by omega
  have mixed:prog.follows .mixedOrders=true:=by kernel_rfl
  have pW:IntKind.i64.wrap ((i:Int)+1)=(i:Int)+1:=by rw[IntKind.wrap_i64];omega
  have sV:(0:Int)<=(i:Int)+1:=by omega
  have fU:i<=n:=by omega
  have HF:((i:Int)+1).toNat=i+1:=by omega
  have pP:¬(c=i+1):=by omega
  have QT:(i:Int)<=(n:Int)+1:=by omega
  have MN:¬(c=i):=by omega
  go_enter func234,ntmps234;go_wp2_with (simp only[Sp]);go_region_law_o (refine step_copy_runI rfl _ _ 26 26 rfl _ _ (by simp[Act.eval,Act.put]) (by simp[Act.eval,Act.put]) (CR _ _ _ _ _ _ _ (by omega) (by omega) (by omega) (by omega)) ?_);go_wp2_with (at_builtin;refine wpList_copy_runI _ rfl _ _ 26 26 rfl _ _ rfl rfl (CQ _ _ _ _ (by omega) (by omega)) ?_)
  all_goals exact fin
 .intro b o n c i vb vo vc G uN C2 C3 w E hi eP mB hn yL hle PL CP CO fin;have mixed:prog.follows .mixedOrders=true:=by kernel_rfl
  have W9:(c:Int)<(n:Int)+1:=by omega
  have P5:¬((i:Int)=(n:Int)):=by omega
  have pW:IntKind.i64.wrap ((i:Int)+1)=(i:Int)+1:=by rw[IntKind.wrap_i64];omega
  have sV:(0:Int)<=(i:Int)+1:=by omega
  have fU:i<=n:=by omega
  have HF:((i:Int)+1).toNat=i+1:=by omega
  have hGi:¬(G=i):=by omega
  have Vd:¬(G=i+1):=by omega
  have hci:¬(c=i):=by omega
  have Ve:G<=9223372036854775807:=by unfold maxLen at hle;omega
  have QT:(i:Int)<=(n:Int):=by omega
  go_enter func234,ntmps234;go_wp2_with (at_builtin;refine Lib.wpList_append_run _ rfl _ _ _ _ rfl _ _ rfl rfl _ _ (PL _ _ (by omega)) ?_);rw[CP ((w.alloc (.cells uN 3)).drew) rfl _ _ _ _ (by omega) rfl];simp only[Result.andThen];rw[Oper.upon_value];go_wp2;go_region_law_o (refine step_copy_runI rfl _ _ 26 26 rfl (.slice (some ⟨w.heap.size,i+1,none⟩) (n+1-(i+1)) (G-(i+1))) (.slice (some ⟨b,o+i,none⟩) (n-i) (c-i)) (by simp[Act.eval,Act.put]) (by simp[Act.eval,Act.put]) (CO _ (by rfl) 3 _ _ _ (G-(i+1)) _ (c-i) (by omega) (by omega) rfl rfl) ?_);go_wp2
  all_goals exact fin
end
theorem ZlA {ρ:Site->Loc}{m:Mem}{w:World}{s:Site}{e n:Nat}{xs:List PV}(h:kO ρ m w s (.arr e n xs))(hr:(ρ s).real=true):
  ∃cs ds,w.heap[(ρ s).b]?=some (.cells cs e (0,0))/\(ρ s).o+(ρ s).cap*n<=cs.size/\xs.length<=(ρ s).cap/\(ρ s).cap<=maxLen/\Flat m ds n xs/\∀(j:Nat) v,ds[j]?=some v->cs[(ρ s).o+j]?=some v:=by
 obtain⟨hn,hB|⟨_,cs,g1,g2,g3,g4,g5⟩⟩:=h
 .rw[hB.1]at hr;cases hr
 have dE:(ρ s).o+xs.length*n<=cs.size:=by
  have:xs.length*n<=(ρ s).cap*n:=I1 _ g3
  omega
 refine⟨cs,(cs.toList.drop (ρ s).o).take (xs.length*n),g1,g2,g3,g4,⟨by rw[Hp dE],fun u hu=>?_,fun i x hi=>?_⟩,fun j v hj=>?_⟩
 .obtain⟨k,hk⟩:=iJ.1 hu;rw[c8]at hk;split at hk
  .rename_i aI;obtain⟨h1,h2,h3⟩:=Ht aI hn;obtain⟨q1,q2⟩:=g5 _ _ (bB h1);obtain⟨u',q3,q4,_⟩:=q2 _ _ (bB (show k%n<(xs[k / n]).cells.length by omega));rw[show(ρ s).o+k / n*n+k%n=(ρ s).o+k by omega,hk]at q3;cases q3;exact q4
  .cases hk
 .obtain⟨q1,q2⟩:=g5 i x hi;refine⟨q1,fun j c hj=>?_⟩;obtain⟨u,q3,_,q5⟩:=q2 j c hj;have rS:j<n:=by have:=(bZ.1 hj).1;omega
  have:=V4 (n:=n) (bZ.1 hi).1
  exact⟨u,by rw[c8,if_pos (by omega)];rw[<-q3];congr 1;omega,q5⟩
 .rw[c8]at hj;split at hj
  .exact hj
  .cases hj
theorem Flat.ZxW {m:Mem}{ds:List Value}{n:Nat}{xs:List PV}(h:Flat m ds n xs)(i:Nat)(hi:i<=xs.length):Flat m (ds.take (i*n)) n (xs.take i):=by
 have hl:i*n<=xs.length*n:=I1 _ hi;refine⟨by rw[gJ,gJ,h.len,Nat.min_eq_left hl,Nat.min_eq_left hi],fun u hu=>h.one u (List.mem_of_mem_take hu),fun k x hk=>?_⟩;rw[mG]at hk;split at hk
 .rename_i x5;obtain⟨k1,k2⟩:=h.get k x hk;refine⟨k1,fun j c hj=>?_⟩;obtain⟨u,q1,q2⟩:=k2 j c hj;have rS:j<n:=by have:=(bZ.1 hj).1;omega
  have:=V4 (n:=n) x5
  exact⟨u,by rw[mG,if_pos (by omega)];exact q1,q2⟩
 .cases hk
theorem Flat.Zx2 {m:Mem}{ds:List Value}{n:Nat}{xs:List PV}(h:Flat m ds n xs)(i:Nat):Flat m (ds.drop (i*n)) n (xs.drop i):=by
 refine⟨by rw[uH,uH,h.len,Nat.sub_mul],fun u hu=>h.one u (List.mem_of_mem_drop hu),fun k x hk=>?_⟩;rw[mS]at hk;obtain⟨k1,k2⟩:=h.get _ x hk;refine⟨k1,fun j c hj=>?_⟩;obtain⟨u,q1,q2⟩:=k2 j c hj;exact⟨u,by rw[mS,<-q1];congr 1;rw[Nat.add_mul];omega,q2⟩
theorem Zk8 {TE k b n:Nat}{Ka:List Value}{ys:List PV}{w w':World}{e:Ending}{m:Mem}{ρ:Site->Loc}{B:List (Site×aJ)}(hk:0<k)(hE:DS TE k b n Ka w e w')(hF:Flat m Ka k ys)(hy:ys.length=n+1)
  (hm:Le m w.mem) (xJ:b∈cJ ρ w B\/w.heap.size<=b) (sR:∀o,m b o=none):lE w m ρ B (fun r B'=>r=.vec (.ret 0) k 0 (n+1)/\B'=[(.ret 0,.arr TE k ys)]) e w':=by
 obtain⟨b',o',c',iH,rfl,g1,g2,g3,g4,g5,g6,g7⟩:=hE;have hu:=Q7 ρ (.ret 0) ⟨b',o',c',true⟩;have M3:∀b,w.heap.size<=b->∀o,m b o=none:=fun b hb o=>by
  cases hv:m b o with
  |none=>rfl
  |some v=>have:=AG (hm _ _ _ hv);omega
 have Au:∀o,m b' o=none:=by
  rcases g6 with rfl|g6
  .exact sR
  .exact M3 _ g6
 have look:∀s bx,List.lookup s [((.ret 0:Site),aJ.arr TE k ys)]=some bx->s=.ret 0/\bx=.arr TE k ys:=fun s bx h=>by
  by_cases e:s=.ret 0
  .subst e;rw[mT]at h;cases h;exact⟨rfl,rfl⟩
  .rw[jC e]at h;cases h
 have mN:Le m w'.mem:=fun a o v hv=>by
  have hw:=hm a o v hv;have aI:=AG hw;have dA:a≠b:=fun e=>by subst e;rw[sR o]at hv;cases hv
  exact(World.cell?_of_block (a:=⟨a,o,none⟩) (g7.block a aI (by simpa using dA))).trans hw
 refine⟨_,.vec (.ret 0) k 0 (n+1),[(.ret 0,.arr TE k ys)],iK ρ (.ret 0) ⟨b',o',c',true⟩,m,rfl,⟨rfl,rfl⟩,⟨fun s bx h=>?_,fun s s' bx Wf i h h' _ _=>?_,fun s bx i h hb o=>?_⟩,Le.refl m,mN,fun i=>z8 ρ _ (by simp),fun s bx i h hb=>?_,fun _ _ _ h=>.inl h,?_,?_⟩
 .obtain⟨rfl,rfl⟩:=look s bx h;refine⟨hk,.inr ⟨by rw[hu],iH,by rw[hu];exact g1,by rw[hu];exact g3,by rw[hu,hy];exact g4,by rw[hu];exact g5,fun i x hx=>?_⟩⟩;obtain⟨k1,k2⟩:=hF.get i x hx;refine⟨k1,fun j c hj=>?_⟩;obtain⟨u,q1,q2⟩:=k2 j c hj;have aI:=(bZ.1 q1).1;rw[hF.len,hy]at aI;exact⟨u,by rw[hu];show iH[o'+i*k+j]?=_;rw[<-q1,<-g2 _ aI,Nat.add_assoc],hF.one u (dK q1),q2⟩
 .rw[(look s bx h).1,(look s' Wf h').1]
 .obtain⟨rfl,rfl⟩:=look s bx h;obtain⟨_,q⟩:=DW rfl hb;rw[hu]at q;rw[<-q];exact Au o
 .obtain⟨rfl,rfl⟩:=look s bx h;obtain⟨_,q⟩:=DW rfl hb;rw[hu]at q;rw[<-q];show w.heap.size<=b'\/b'∈_;rcases g6 with rfl|g6
  .exact xJ.symm
  .exact .inl g6
 .have:=bO.vec (ρ:=iK ρ (.ret 0) ⟨b',o',c',true⟩) (m:=m) (.ret 0) k 0 (n+1) c' g4 (by rw[hu];simp) (by rw[hu])
  rw[hu]at this;simpa using this
 .refine⟨g7.os,g7.tape,g7.output,g7.size,fun i hi hn=>g7.block i hi (fun h=>?_)⟩;rw[rY]at h;subst h;rcases xJ with h|h
  .exact hn h
  .omega
theorem Wr {vs:Array Value}(h:vs.size=3):∃v u x,vs=#[v,u,x]:=by
 match vs,h with
 |⟨[v,u,x]⟩,_=>exact⟨v,u,x,rfl⟩
theorem LN {f:FuncId}{S T:TypeId}{k:Nat}(F:V6 f S T k)(hf:jM prog f)(xs:List PV)(x:PV)(i:Nat)(hi:i<=xs.length)(hx:xs.length<=1000000):
  cR prog f [.vec (.par 0) k 0 xs.length,.pv (.i i),.vec (.par 1) k 0 1] [(.par 0,.arr T k xs),(.par 1,.arr T k [x])] (fun r B=>r=.vec (.ret 0) k 0 (xs.length+1)/\B=[(.ret 0,.arr T k (lM xs i x))]):=by
 refine⟨hf,fun w m ρ vs hB mN fH lG=>?_⟩;obtain⟨v0,v1,v2,rfl⟩:=Wr (by simpa using fH);have h0:=lG 0 v0 _ rfl rfl;have h1:=(lG 1 v1 _ rfl rfl).nG;have h2:=lG 2 v2 _ rfl rfl;have zJ:v1=.i i:=by cases h1;rfl
 subst zJ;have b0:=hB.bx (.par 0) _ rfl;have b1:=hB.bx (.par 1) _ rfl;rcases h2.DQ with⟨cap1,rfl,c0,c1,c2⟩|⟨a,_,c0,_⟩
 .obtain⟨cv,ns,e1,_,_,_,eF,eN⟩:=ZlA b1 c2;have sS:ns.length=k:=by rw[eF.len];exact Nat.one_mul k
  have hvlt:(ρ (.par 1)).b<w.heap.size:=(qE.1 e1).1;rw[Nat.zero_mul,Nat.add_zero]at *;have CN:∀(j:Nat) v,ns[j]?=some v->w.cell? ⟨(ρ (.par 1)).b,(ρ (.par 1)).o+j,none⟩=some v:=fun j v hj=>(cell_of_row w _ _ cv _ _ e1).trans (eN j v hj)
  rcases h0.DQ with⟨cap,rfl,d0,d1,d2⟩|⟨a,rfl,d0,_⟩
  .obtain⟨cb,os,f1,f2,f3,f4,fF,fN⟩:=ZlA b0 d2;rw[Nat.zero_mul,Nat.add_zero];have dA:(ρ (.par 1)).b≠(ρ (.par 0)).b:=fun e=>by
    have:=hB.inj (.par 1) (.par 0) _ _ rfl rfl c2 d2 e
    cases this
   have n9:os.length=xs.length*k:=fF.len;have dE:(ρ (.par 0)).o+cap*k<=cb.size:=by
    have:cap*k<=(ρ (.par 0)).cap*k:=I1 _ (by omega)
    omega
   have hFl:Flat m (os.take (i*k)++ns++os.drop (i*k)) k (lM xs i x):=by
    have:=((fF.ZxW i hi).app eF).app (fF.Zx2 i)
    rw[H9 (xs.take i)]at this;exact this
   have xJ:(ρ (.par 0)).b∈cJ ρ w [(.par 0,.arr T k xs),(.par 1,.arr T k [x])]:=SV.2 ⟨_,List.mem_cons_self ..,xN d2⟩;have sR:=hB.off (.par 0) _ rfl d2;have post:=fun e w' (h:DS T k (ρ (.par 0)).b xs.length (os.take (i*k)++ns++os.drop (i*k)) w e w')=>Zk8 (ρ:=ρ) (B:=[(.par 0,.arr T k xs),(.par 1,.arr T k [x])]) F.pos h hFl (SU hi) mN.1 (.inl xJ) sR
   by_cases fU:i<xs.length
   .by_cases hr:xs.length+1<=cap
    .exact(Zqm F _ _ _ _ _ _ _ _ cb cv os ns w f1 e1 dA fU hr dE (by omega) n9 fN sS eN fF.one eF.one).mono post
    .exact(Zty F _ _ _ _ _ _ _ _ cb cv os ns w f1 e1 fU (by omega) d0 hx n9 fN sS eN fF.one eF.one).mono post
   .have he:i=xs.length:=by omega
    subst he;have ht:os.take (xs.length*k)++ns++os.drop (xs.length*k)=os++ns:=by rw[fO (by omega),List.drop_eq_nil_of_le (by omega),uG]
    rw[ht]at post;by_cases hr:xs.length+1<=cap
    .exact(Ztx F _ _ _ _ _ _ _ cb os ns w f1 hr dE (by omega) n9 fN sS CN eF.one).mono post
    .exact(Zn9 F (ρ (.par 0)).b _ _ _ _ _ _ os ns w (by omega) hx (fun h=>by cases h) d0 n9 (fun j v hj=>⟨_,rfl,by rw[Addr.add_lit];exact(cell_of_row w _ _ cb _ _ f1).trans (fN j v hj)⟩) sS CN).mono post
  .have BM:xs=[]:=List.length_eq_zero_iff.1 d0;subst BM;have G7:i=0:=Nat.le_zero.1 hi;subst G7;have post:=fun e w' (h:DS T k w.heap.size 0 ([]++ns) w e w')=>Zk8 (ρ:=ρ) (B:=[(.par 0,.arr T k []),(.par 1,.arr T k [x])]) F.pos h (ys:=[x]) eF rfl mN.1 (.inr (fG _)) (fun o=>by
    cases hv:m w.heap.size o with
    |none=>rfl
    |some v=>have:=AG (mN.1 _ _ _ hv);omega)
   exact(Zn9 F w.heap.size _ 0 0 _ _ _ [] ns w (by omega) (by omega) (fun _=>⟨rfl,rfl⟩) (by omega) (Nat.zero_mul k).symm (fun j v hj=>by simp at hj) sS CN).mono post
 .cases c0
def bdQ (r:Except Int (List Int))(l:List Ct)(ls ts rn:PV)(a b c d e:PV):Prop:=∃l',r=.ok l'/\a=aL l/\b=bI l'/\c=ls/\d=ts/\e=rn
def VO (W:aJ)(bad:List Int)(n:Int):AS:=⟨[(27,.ptr (.par 0) 0),(33,.vec (.loc 33 0) 1 0 bad.length),(34,.pv (.i (dI bad n))),(38,.vec (.loc 38 0) 1 0 1)],[(.loc 33 0,.arr 3 1 (bad.map iP)),(.loc 38 0,.arr 3 1 [iP n]),(.par 0,W)]⟩
theorem Eh (l:List Ct)(bad:List Int)(ls ts rn:PV)(n:Int)(hl:l.length<=1000)(hb:bad.length<=900)(hs:bad.Pairwise (·<·)):
  sZ prog 188 [.ptr (.par 0) 0,.pv (.aF false 1 [iP n])] [(.par 0,aO (aL l) (bI bad) ls ts rn)] (xW (bdQ (pS l bad n) l ls ts rn)) (uR (fun e=>pS l bad n=.error e)):=by
 have M7:=Yl l n (bI bad) ls ts rn hl;have vZ:=ZoM bad n hs (by omega);have HT:=LN ZuW ⟨_,_,func234,by kernel_rfl,rfl⟩ (bad.map iP) (iP n) (dI bad n) (by rw[fV];exact WI) (by rw[fV];omega);rw[<-ZhD (f:=iP),fV]at HT;refine cX L188 ?_;generalize hE:(fun e=>pS l bad n=.error e)=E;generalize hQ:bdQ (pS l bad n) l ls ts rn=Q;unfold pS at hE hQ;generalize(l.any fun y=>decide (y.num=n))=kn at hE hQ M7;show fM _ (.seq _ (.seq _ (.seq _ _))) _ _ _;cases kn with
 |false=>
  have VJ:E 7:=by rw[<-hE];rfl
  refine wX [_,_,_,_,_] ?_;simp[hold,aO,iP,aL];refine cM [.ptr (.par 0) 0,.pv (.i n)] [(.par 0,aO (aL l) (bI bad) ls ts rn)] 10 [.par 0] (by simp[aO,aL]) M7 (by simp[aO]) ?_;simp[aO];exact pF 7 VJ
 |true=>
 rw[if_pos rfl]at hE hQ;refine mH ?_;simp[hold,aO,iP,aL];refine cM [.ptr (.par 0) 0,.pv (.i n)] [(.par 0,aO (aL l) (bI bad) ls ts rn)] 10 [.par 0] (by simp[aO,aL]) M7 (by simp[aO]) ?_;simp[aO];refine cG [.bool true,.i 7] (gM 7) ?_;simp;refine mH ?_;simp[hold,bI];refine cG [.aF false 1 (bad.map iP),.i n] vZ ?_;simp[hold];by_cases hm:n∈bad
 .rw[if_pos hm]at hE;have II:E 6:=by rw[<-hE]
  refine wX [_,_] ?_;simp[hold,hm];exact pF 6 II
 rw[if_neg hm]at hQ;refine mH ?_;simp[hold,hm];refine cG [.bool true,.i 6] (gM 6) ?_;simp;refine FR ?_;have gN:=Zgh (bad.map iP) (by rw[fV];omega);simp[-List.map_cons,hold];refine DU (fun τ=>τ=VO (aO (aL l) (bI bad) ls ts rn) bad n) ?_ ?_
 .simp only[gO];refine⟨?_,?_⟩
  .simp[-List.map_cons,hold];refine O7 [] (fs:=[]) (xs:=[.aF false 1 (bad.map iP)]) (cs:=[]) rfl rfl gN ?_;rintro r B (⟨h,rfl,rfl⟩|⟨rfl,rfl⟩)
   .rw[List.map_eq_nil_iff]at h;subst h;simp[gO,gY];exact Sub.trans' (Sub.mk (by simp[AS.cI]) (by simp[AS.cI,bI,aO,iP,aL])) (cI 33 3 1 33 rfl (by decide))
   .simp[gO,gY];exact Sub.mk (by simp) (by simp[bI,aO,iP,aL])
  .refine⟨?_,trivial⟩;simp[-List.map_cons,gO,gY,hold];refine O7 [] (fs:=[]) (xs:=[.aF false 1 (bad.map iP)]) (cs:=[]) rfl rfl gN ?_;rintro r B (⟨h,rfl,rfl⟩|⟨rfl,rfl⟩)
   .rw[List.map_eq_nil_iff]at h;subst h;simp;exact Sub.trans' (Sub.mk (by simp[VO,AS.cI]) (by simp[VO,AS.cI,bI,aO,iP,aL])) (cI 33 3 1 33 rfl (by decide))
   .simp;exact Sub.mk (by simp[VO]) (by simp[VO,bI,aO,iP,aL])
 .rintro τ rfl;simp[VO,gO,gY];refine cL [.vec (.par 0) 1 0 bad.length,.pv (.i (dI bad n)),.vec (.par 1) 1 0 1] [(.par 0,.arr 3 1 (bad.map iP)),(.par 1,.arr 3 1 [iP n])] 39 [.loc 33 0,.loc 38 0] (by simp) HT ?_
  rintro r0 B0 ⟨rfl,rfl⟩;refine⟨by simp,by simp,?_⟩;have hle:bad.length+1<=(lM bad (dI bad n) n).length:=by rw[SU WI];exact fG _
  have jS:List.take (bad.length+1) ((lM bad (dI bad n) n).map iP)=(lM bad (dI bad n) n).map iP:=fO (by rw[fV,SU WI];exact fG _);simp[-List.map_cons,hold,aO,gO,gY];refine j3 (a:=aL l) (b:=bI (lM bad (dI bad n) n)) (c:=ls) (d:=ts) (e:=rn) [.loc 39 0] ?_ ?_
  .simp[aY,AS.cD,AV.cD,AV.aY,aJ.cD,aO,bI,jS,hle]
  .rw[<-hQ];exact⟨_,rfl,rfl,rfl,rfl,rfl,rfl⟩
def ltQ (r:Except Int (List Lt))(ct bd ts rn:PV)(a b c d e:PV):Prop:=∃l',r=.ok l'/\a=ct/\b=bd/\c=aS l'/\d=ts/\e=rn
def UD (W:aJ)(ls:List Lt)(x:Lt):AS:=⟨[(34,.ptr (.par 0) 0),(40,.vec (.loc 40 0) 4 0 ls.length),(41,.pv (.i (dI (ls.map Lt.num) x.num))),(52,.vec (.loc 52 0) 4 0 1)],[(.loc 40 0,.arr 89 4 (ls.map Lt.pv)),(.loc 52 0,.arr 89 4 [x.pv]),(.par 0,W)]⟩
theorem ZM (ct bd ts rn:PV)(ls:List Lt)(n p q:Int)(hn:JN n)(hl:ls.length<=900)(hs:(ls.map Lt.num).Pairwise (·<·))(cZ:∀y∈ls,vR y):
  sZ prog 189 [.ptr (.par 0) 0,.pv (.aF false 1 [iP n,iP p,iP q])] [(.par 0,aO ct bd (aS ls) ts rn)] (xW (ltQ (pL ls ⟨n,p,q,false⟩) ct bd ts rn)) (uR (fun e=>pL ls ⟨n,p,q,false⟩=.error e)):=by
 have D6:=Xq ls n ct bd ts rn hs (by omega) (fun y hy=>by obtain⟨h1,h2,_⟩:=cZ y hy;unfold JN at hn;exact wrap64 (by omega));have kN:=WI (l:=ls.map Lt.num) (x:=n);rw[fV]at kN;have HT:=LN ZuV ⟨_,_,func237,by kernel_rfl,rfl⟩ (ls.map Lt.pv) (Lt.pv ⟨n,p,q,false⟩) (dI (ls.map Lt.num) n) (by rw[fV];exact kN) (by rw[fV];omega);rw[<-ZhD (f:=Lt.pv),fV]at HT;have w1:=JT n 1 99;have w2:=JT p 4 30;have w3:=JT q 0 1000;refine cX L189 ?_;generalize hE:(fun e=>pL ls ⟨n,p,q,false⟩=.error e)=E;generalize hQ:ltQ (pL ls ⟨n,p,q,false⟩) ct bd ts rn=Q;unfold pL at hE hQ;dsimp only at hE hQ;show fM _ (.seq _ (.seq _ (.seq _ _))) _ _ _;generalize MH:(decide (1<=n)&&decide (n<=99))=c1 at hE hQ w1;generalize ES:(decide (4<=p)&&decide (p<=30))=c2 at hE hQ w2;generalize Cg:(decide (0<=q)&&decide (q<=1000))=c3 at hE hQ w3;by_cases hc:¬(c1=true/\c2=true/\c3=true)
 .rw[if_neg hc]at hE;have y1:E 2:=by rw[<-hE]
  refine wX [_,_,_,_,_,_,_,_,_,_,_,_,_,_,_,_] ?_;simp[hold,iP];refine cG [.i n,.i 1,.i 99] w1 ?_;cases c1 with
  |false=>
   simp[hold];exact pF 2 y1
  |true=>
  simp[hold];refine cG [.i p,.i 4,.i 30] w2 ?_;cases c2 with
  |false=>
   simp[hold];exact pF 2 y1
  |true=>
  simp[hold];refine cG [.i q,.i 0,.i 1000] w3 ?_;cases c3 with
  |false=>
   simp;exact pF 2 y1
  |true=>exact absurd ⟨rfl,rfl,rfl⟩ hc
 have hc:=Decidable.not_not.1 hc;rw[if_pos hc]at hE hQ;obtain⟨rfl,rfl,rfl⟩:=hc;refine mH ?_;simp[hold,iP];refine cG [.i n,.i 1,.i 99] w1 ?_;simp[hold];refine cG [.i p,.i 4,.i 30] w2 ?_;simp[hold];refine cG [.i q,.i 0,.i 1000] w3 ?_;simp;refine cG [.bool true,.i 2] (gM 2) ?_;simp[hold];refine mH ?_;simp[hold,aO,aS];refine cM [.ptr (.par 0) 0,.pv (.i n)] [(.par 0,aO ct bd (aS ls) ts rn)] 28 [.par 0] (by simp[aO,aS]) D6 (by simp[aO]) ?_;simp[-List.mem_map,aO];by_cases hm:n∈ls.map Lt.num
 .rw[if_pos hm]at hE;have II:E 6:=by rw[<-hE]
  refine wX [_,_] ?_;simp[-List.mem_map,hold,hm];exact pF 6 II
 rw[if_neg hm]at hQ;refine mH ?_;simp[-List.mem_map,hold,hm];refine cG [.bool true,.i 6] (gM 6) ?_;simp;refine FR ?_;have gN:=ZgX (ls.map Lt.pv) (by rw[fV];omega);simp[hold];refine DU (fun τ=>τ=UD (aO ct bd (aS ls) ts rn) ls ⟨n,p,q,false⟩) ?_ ?_
 .simp only[gO];refine⟨?_,?_⟩
  .simp[hold];refine O7 [] (fs:=[]) (xs:=[.aF false 4 (ls.map Lt.pv)]) (cs:=[]) rfl rfl gN ?_;rintro r B (⟨h,rfl,rfl⟩|⟨rfl,rfl⟩)
   .rw[List.map_eq_nil_iff]at h;subst h;simp[gO,gY];exact Sub.trans' (Sub.mk (by simp[AS.cI]) (by simp[AS.cI,aO,aS,Lt.pv])) (cI 40 89 4 40 rfl (by decide))
   .simp[gO,gY];exact Sub.mk (by simp) (by simp[aO,aS,Lt.pv])
  .refine⟨?_,trivial⟩;simp[gO,gY,hold];refine O7 [] (fs:=[]) (xs:=[.aF false 4 (ls.map Lt.pv)]) (cs:=[]) rfl rfl gN ?_;rintro r B (⟨h,rfl,rfl⟩|⟨rfl,rfl⟩)
   .rw[List.map_eq_nil_iff]at h;subst h;simp;exact Sub.trans' (Sub.mk (by simp[UD,AS.cI]) (by simp[UD,AS.cI,aO,aS,Lt.pv])) (cI 40 89 4 40 rfl (by decide))
   .simp;exact Sub.mk (by simp[UD]) (by simp[UD,aO,aS,Lt.pv])
 .rintro τ rfl;simp[UD,gO,gY];refine cL [.vec (.par 0) 4 0 ls.length,.pv (.i (dI (ls.map Lt.num) n)),.vec (.par 1) 4 0 1] [(.par 0,.arr 89 4 (ls.map Lt.pv)),(.par 1,.arr 89 4 [Lt.pv ⟨n,p,q,false⟩])] 53 [.loc 40 0,.loc 52 0] (by simp) HT ?_
  rintro r0 B0 ⟨rfl,rfl⟩;refine⟨by simp,by simp,?_⟩;have hle:ls.length+1<=(lM ls (dI (ls.map Lt.num) n) ⟨n,p,q,false⟩).length:=by rw[SU kN];exact fG _
  have jS:List.take (ls.length+1) ((lM ls (dI (ls.map Lt.num) n) ⟨n,p,q,false⟩).map Lt.pv)=(lM ls (dI (ls.map Lt.num) n) ⟨n,p,q,false⟩).map Lt.pv:=fO (by rw[fV,SU kN];exact fG _);simp[hold,aO,gO,gY];refine j3 (a:=ct) (b:=bd) (c:=aS (lM ls (dI (ls.map Lt.num) n) ⟨n,p,q,false⟩)) (d:=ts) (e:=rn) [.loc 53 0] ?_ ?_
  .simp[aY,AS.cD,AV.cD,AV.aY,aJ.cD,aO,aS,jS,hle]
  .rw[<-hQ];exact⟨_,rfl,rfl,rfl,rfl,rfl,rfl⟩
theorem Zvd (st:Wk)(hl:st.aA.length<=1000)(hb:st.bad.length<=900)(hs:st.bad.Pairwise (·<·)):EB st:=fun n _=>by
 refine(Eh st.aA st.bad (aS st.aK) (bH st.aH) (dL st.runs) n hl hb hs).mono ?_ ?_
 .rintro r B ⟨rfl,a,b,c,d,e,rfl,l',h1,rfl,rfl,rfl,rfl,rfl⟩;exact⟨rfl,_,_,_,_,_,rfl,{ st with bad:=l' },by rw[h1];rfl,rfl⟩
 .rintro x B ⟨m,rfl,h1,h2⟩;exact⟨m,rfl,by rw[h1];rfl,h2⟩
theorem ZuR (st:Wk)(hl:st.aK.length<=900)(hs:(st.aK.map Lt.num).Pairwise (·<·))(cZ:∀y∈st.aK,vR y):EA st:=fun n p m hn _ _=>by
 refine(ZM (aL st.aA) (bI st.bad) (bH st.aH) (dL st.runs) st.aK n p m hn hl hs cZ).mono ?_ ?_
 .rintro r B ⟨rfl,a,b,c,d,e,rfl,l',h1,rfl,rfl,rfl,rfl,rfl⟩;exact⟨rfl,_,_,_,_,_,rfl,{ st with aK:=l' },by rw[h1];rfl,rfl⟩
 .rintro x B ⟨m,rfl,h1,h2⟩;exact⟨m,rfl,by rw[h1];rfl,h2⟩
theorem Gh {F:Nat}(hF:407<F):WL sA (lI F):=fun k st s hk h hs=>
 ⟨h.next s,Dr hF st s (by omega) (h.ok (by omega)) (by have:=h.c;omega) (by have:=h.r;omega) h.s (Zvd st (by have:=h.c;omega) (by have:=h.b;omega) h.bs) (ZuR st (by have:=h.l;omega) h.s (fun x hx=>(h.lt x hx).1))⟩
theorem Fj (k:Nat)(w:Wk)(hk:k<=50)(h:sA k w):yY w:=h.ok (by omega)
theorem Zvm {F:Nat}(hF:407<F)(L:List ByteArray)(hl:L.length<=1000000):aD prog 10 [bJ L] (AX (lI F) L):=Zvl (Gh hF) rF Fj L hl
theorem Zmm {F:Nat}(hF:407<F)(L:List ByteArray)(hl:L.length<=1000000):aD prog 22 [bJ L] (GJ (lI F) L):=Zml (Gh hF) rF Fj L hl
theorem Zj8 {F:Nat}(hF:407<F)(L:List ByteArray)(hl:L.length<=1000000)(n:Int):aD prog 16 [bJ L,.i n] (AK (lI F) L n):=Zj7 (Gh hF) rF Fj L hl n (fun k w hk h=>by have:=h.b;omega)
section
open Go.RowKit Go.Shelf
theorem Zq0:(prog.info? 102).map (·.size)=some 2:=by kernel_rfl
theorem Zlr:∃j,prog.info? 102=some j/\j.size≠0:=by
 obtain⟨j,h1,h2⟩:=dZ.1 Zq0;exact⟨j,h1,by rw[h2];decide⟩
theorem Zq1:liesAt prog prog.depth 102 (2 / prog.cellsOf 102) 0 102 1=true:=by kernel_rfl
theorem ZtX (b:Nat)(v:Value)(w:World)(hb:w.heap[b]?=some (.cells #[.pointer (some ⟨b,0,none⟩),v] 102 (0,0))):
  Calls prog 78 #[.pointer (some ⟨b,0,none⟩)] w fun e w'=>e=.returned (.tuple #[])/\w'=w:=by
 have h0:w.cell? ⟨b,0,none⟩=some (.pointer (some ⟨b,0,none⟩)):=by rw[Lib.cell_of_heap hb];rfl
 obtain⟨j,hj,_⟩:=Zlr;go_enter func78,ntmps78;go_wp2;rw[Lib.run_neq_ptr_same w _ underlying100 hj];go_wp2;go_end0;exact⟨rfl,rfl⟩
theorem ZqS (b:Nat)(v:Value)(w:World)(hb:w.heap[b]?=some (.cells #[.pointer none,v] 102 (0,0))):
  Calls prog 78 #[.pointer (some ⟨b,0,none⟩)] w fun e w'=>e=.returned (.tuple #[])/\w'=w.setCell ⟨b,0,none⟩ (.pointer (some ⟨b,0,none⟩)):=by
 have h0:w.cell? ⟨b,0,none⟩=some (.pointer none):=by rw[Lib.cell_of_heap hb];rfl
 have hfz:w.frozen? ⟨b,0,none⟩=false:=Lib.frozen_of_heap hb 0;have HJ:w.shape? b=some (102,2):=by simp[World.shape?,hb]
 obtain⟨j,hj,hjs⟩:=Zlr;go_enter func78,ntmps78;go_wp2;rw[Lib.run_to_unsafe w ⟨b,0,none⟩ underlying100 underlying216 hj hjs HJ (Nat.zero_lt_succ 1)];simp only[Result.andThen];rw[Oper.upon_value];go_wp2;rw[run_callFunc_extern func117 (by kernel_rfl) (by kernel_rfl) (by kernel_rfl) (e:=Extern.AbiNoEscape.same) (by kernel_rfl)];rw[Lib.run_noEscape];simp only[Result.andThen];rw[Oper.upon_value];go_wp2;rw[Lib.run_from_unsafe w ⟨b,0,none⟩ underlying216 underlying100 hj HJ Zq1];simp only[Result.andThen];rw[Oper.upon_value];go_wp2;go_end0;exact⟨rfl,rfl⟩
theorem Zq (b n cap:Nat)(ad:Option Addr)(ad':Option Addr)(n' IU:Nat)(s:ByteArray)(w w1 w2:World)(mB:Calls prog 78 #[.pointer (some ⟨b,0,none⟩)] w fun e w'=>e=.returned (.tuple #[])/\w'=w1)
  (sV:w1.heap[b]?=some (.cells #[.pointer (some ⟨b,0,none⟩),.slice ad n cap] 102 (0,0))) (Us:∀ty,(Builtin.append_ #[63,9] ty #[.slice ad n cap,.string s]).run prog w1=.ok (.slice ad' n' IU) w2)
  (pP:w2.heap[b]?=some (.cells #[.pointer (some ⟨b,0,none⟩),.slice ad n cap] 102 (0,0))):
  Calls prog 40 #[.pointer (some ⟨b,0,none⟩),.string s] w fun e w'=>e=.returned (.tuple #[.i s.size,.nilIface])/\w'=w2.setCell ⟨b,1,none⟩ (.slice ad' n' IU):=by
 have c0:w1.cell? ⟨b,0,none⟩=some (.pointer (some ⟨b,0,none⟩)):=by rw[Lib.cell_of_heap sV];rfl
 have c1:w1.cell? ⟨b,1,none⟩=some (.slice ad n cap):=by rw[Lib.cell_of_heap sV];rfl
 have d0:w2.cell? ⟨b,0,none⟩=some (.pointer (some ⟨b,0,none⟩)):=by rw[Lib.cell_of_heap pP];rfl
 have d1:w2.cell? ⟨b,1,none⟩=some (.slice ad n cap):=by rw[Lib.cell_of_heap pP];rfl
 have f1:w2.frozen? ⟨b,1,none⟩=false:=Lib.frozen_of_heap pP 1;have e112:∀args w,(callFunc 78 args).run prog w=.ok (.enter 78 args) w:=enters_of func78 (by kernel_rfl) rfl;go_enter func40,ntmps40;go_wp2_with (go_at_fn 78;refine mB.mono ?_);rintro e w' ⟨rfl,rfl⟩;go_wp2_with (at_builtin;refine Lib.wpList_append_run _ rfl _ _ _ _ rfl _ _ rfl rfl _ _ (Us _) ?_);go_ret2;exact⟨rfl,rfl⟩
end
theorem cW.sub {bs cs:List Nat}{w w':World}(h:cW bs w w')(hs:∀k∈bs,k∈cs):cW cs w w':=⟨h.os,h.tape,h.output,h.size,fun k hk hn=>h.block k hk (fun hm=>hn (hs k hm))⟩
abbrev EC:TypeId:=102
abbrev V9:TypeId:=5
def xV (b:Nat):Value:=.pointer (some ⟨b,0,none⟩)
theorem Zl {q:Loc}{m:Mem}{w w2:World}{l:List UInt8}{v0:Value}{g n c:Nat}{cur:Array Value}(pP:w2.heap[q.b]?=some (.cells #[xV q.b,v0] EC (0,0)))(G8:w2.heap[g]?=some (.cells cur V9 (0,0)))(P9:g≠q.b)(hn:n=l.length)(MI:0<c)
  (G5:n<=c) (EP:c<=cur.size) (rT:c<=maxLen) (QO:∀(i:Nat) (b:UInt8),l[i]?=some b->cur[i]?=some (.int .u8 b.toNat)) (hk:cW (q.b::yW q w) w w2) (M3:g∈yW q w\/w.heap.size<=g):
  Z6 EC V9 l q m (w2.setCell ⟨q.b,1,none⟩ (.slice (some ⟨g,0,none⟩) n c))/\cW (q.b::yW q w) w (w2.setCell ⟨q.b,1,none⟩ (.slice (some ⟨g,0,none⟩) n c))/\∀k∈yW q (w2.setCell ⟨q.b,1,none⟩ (.slice (some ⟨g,0,none⟩) n c)),k∈yW q w\/w.heap.size<=k:=by
 subst hn;obtain⟨c,rfl⟩:∃k,c=k+1:=⟨c-1,by omega⟩;rw[setCell_eq_setRow _ _ _ _ _ _ _ pP];have h3:(w2.setRow q.b (#[xV q.b,v0].setIfInBounds 1 (.slice (some ⟨g,0,none⟩) l.length (c+1)))).heap[q.b]?=some (.cells #[xV q.b,.slice (some ⟨g,0,none⟩) l.length (c+1)] EC (0,0)):=setRow_heap _ _ _ _ _ _ pP;refine⟨⟨_,_,h3,.inr rfl,.inr ⟨g,c,cur,rfl,P9,by rw[setRow_other _ _ _ _ P9];exact G8,G5,EP,rT,QO⟩⟩,hk.trans ((cW.setRow _ _ _).sub (fun k h=>by rw[rY]at h;subst h;exact List.mem_cons_self ..)),fun k h=>?_⟩;rw[Hu h3,rY]at h;subst h;exact M3
theorem Zo6 {q:Loc}{m:Mem}{w:World}{l:List UInt8}(s:ByteArray)(hs:0<s.size)(hl:l.length+s.size<=1000000)(h:Z6 EC V9 l q m w):
  Calls prog 40 #[xV q.b,.string s] w fun e w'=>e=.returned (.tuple #[.i s.size,.nilIface])/\Z6 EC V9 (l++s.data.toList) q m w'/\cW (q.b::yW q w) w w'/\∀k∈yW q w',k∈yW q w\/w.heap.size<=k:=by
 obtain⟨p,v,hb,hp,hv⟩:=h;obtain⟨w1,mB,sV,gZ⟩:∃w1,(Calls prog 78 #[xV q.b] w fun e w'=>e=.returned (.tuple #[])/\w'=w1)/\w1.heap[q.b]?=some (.cells #[xV q.b,v] EC (0,0))/\cW [q.b] w w1:=by
  rcases hp with rfl|rfl
  .refine⟨_,ZqS q.b v w hb,?_,?_⟩
   .rw[setCell_eq_setRow _ _ _ _ _ _ _ hb];exact setRow_heap _ _ _ _ _ _ hb
   .rw[setCell_eq_setRow _ _ _ _ _ _ _ hb];exact cW.setRow _ _ _
  .exact⟨w,ZtX q.b v w hb,hb,cW.tI _ _⟩
 have xJ:q.b<w.heap.size:=(qE.1 hb).1;have Co:q.b<w1.heap.size:=(qE.1 sV).1;have fH:=gZ.size;have QC:cW (q.b::yW q w) w w1:=gZ.sub (fun k h=>by rw[rY]at h;subst h;exact List.mem_cons_self ..);obtain⟨i,z,hi,hz,W9,P5,Jd⟩:∃i z,prog.info? 5=some i/\i.zero=some z/\i.size=1/\i.bytes=1/\z.cells.size=1:=by
  have h:(prog.info? 5).map (fun i=>(i.zero,i.size,i.bytes))=some (some (.int .u8 0),1,1):=by kernel_rfl
  cases h':prog.info? 5 with
  |none=>rw[h']at h;simp at h
  |some i=>
   rw[h',uU,Option.some.injEq,Prod.mk.injEq,Prod.mk.injEq]at h;exact⟨i,_,rfl,h.1,h.2.1,h.2.2,rfl⟩
 have PI:∀w',(Builtin.firstCells i.size s.size (.string s)).run prog w'=.ok (Lib.strCells s).toArray w':=fun w'=>Lib.run_firstCells_string w' i.size s
 have X4:=Lib.strCells_length s;have nE:s.data.toList.length=s.size:=rfl;have UP:∀(j:Nat) (b:UInt8),s.data.toList[j]?=some b->(Lib.strCells s)[j]?=some (.int .u8 b.toNat):=fun j b hj=>by
  unfold Lib.strCells;rw[bW,hj];rfl
 rcases hv with⟨rfl,rfl⟩|⟨g,c,cur,rfl,P9,hg,h1,h2,h3,h4⟩
 .have dF:∀ty,(Builtin.append_ #[63,9] ty #[.slice none 0 0,.string s]).run prog w1=_:=fun ty=>
   Zer (P:=prog) (w:=w1) (ty:=ty) underlying63 underlying9 hi hz none 0 0 s s.size rfl [] (Lib.strCells s) (fun w' _=>run_firstCells_none w' i.size 0 0 0) (fun w' _=>PI w') (by omega) (by omega) (growslice_fits (by omega) (by rw[P5];omega))
  have yL:=grownCap_ge w1 (0+s.size) 0 V9;have hle:=grownCap_le_maxLen w1 (0+s.size) 0 V9 (by unfold maxLen;omega);generalize grownCap w1 (0+s.size) 0 V9=G at dF yL hle;have pP:(w1.drew.alloc (.cells (([]++Lib.strCells s).toArray++Builtin.zeroCells z.cells (G-(0+s.size))) V9)).heap[q.b]?=some (.cells #[xV q.b,.slice none 0 0] EC (0,0)):=by rw[heap_alloc_old w1.drew _ Co];exact sV
  refine(Zq q.b 0 0 none _ _ _ s w w1 _ mB sV dF pP).mono ?_;rintro e w' ⟨rfl,rfl⟩;refine⟨rfl,Zl pP (heap_alloc_new w1.drew _) (by show w1.heap.size≠q.b;omega) ?_ (by omega) yL ?_ hle (fun j b hj=>?_) (QC.trans ((Fw w1 _).trans (cW.Ev (Ext.al _ _) _))) (.inr fH)⟩
  .rw[gD,nE];rfl
  .rw[Array.size_append,yT,gD,size_zeroCells,Jd,X4,List.length_nil];omega
  .have aI:=(bZ.1 hj).1;rw[List.nil_append]at hj aI ⊢;rw[Array.getElem?_append_left (by rw[yT,X4];omega),I0];exact UP j b hj
 .have hgl:g<w.heap.size:=(qE.1 hg).1;have QM:w1.heap[g]?=some (.cells cur V9 (0,0)):=by rw[gZ.block g hgl (by simpa using P9)];exact hg
  have HR:yW q w=[g]:=Hu hb;by_cases eP:l.length+s.size<=c+1
  .have dF:∀ty,(Builtin.append_ #[63,9] ty #[.slice (some ⟨g,0,none⟩) l.length (c+1),.string s]).run prog w1=_:=fun ty=>
    Zgq (P:=prog) (w:=w1) (ty:=ty) underlying63 underlying9 hi g 0 l.length (c+1) cur QM s s.size rfl (Lib.strCells s) (PI w1) (Lib.strCells_oneCell s) eP (by rw[W9,X4];omega)
   have pP:(w1.setRow g (aR cur.toList (0+l.length*i.size) (Lib.strCells s)).toArray).heap[q.b]?=some (.cells #[xV q.b,.slice (some ⟨g,0,none⟩) l.length (c+1)] EC (0,0)):=by rw[setRow_other _ _ _ _ (Ne.symm P9)];exact sV
   refine(Zq q.b l.length (c+1) _ _ _ _ s w w1 _ mB sV dF pP).mono ?_;rintro e w' ⟨rfl,rfl⟩;have gN:cur.toList.length=cur.size:=uV;refine⟨rfl,Zl pP (setRow_heap _ _ cur _ _ _ QM) P9 ?_ (by omega) eP ?_ h3 (fun j b hj=>?_) (QC.trans ((cW.setRow _ _ _).sub (fun k h=>by rw[rY]at h;subst h;rw[HR];simp))) (.inl (by rw[HR];simp))⟩
   .rw[gD,nE]
   .rw[yT,V1 (by rw[W9,X4];omega),gN];exact h2
   .rw[I0,A0 (by rw[W9,X4];omega),W9,rX,Nat.mul_one,X4];rw[yS]at hj;split at hj
    .rename_i aI;rw[if_pos aI,O3];exact h4 j b hj
    .rename_i aI
     have:=(bZ.1 hj).1
     rw[if_neg aI,if_pos (by omega)];exact UP _ b hj
  .have CA:∀w',(∀A,w'.cell? A=w1.cell? A)->(Builtin.firstCells i.size l.length (.slice (some ⟨g,0,none⟩) l.length (c+1))).run prog w'=.ok (l.map fun b=>Value.int .u8 b.toNat).toArray w':=fun w' hw=>by
    rw[W9];refine run_firstCells_some (P:=prog) w' 1 l.length ⟨g,0,none⟩ l.length (c+1) _ (by rw[fV];omega) (fun j u hj=>?_);rw[bW]at hj;obtain⟨b,nL,rfl⟩:=dZ.1 hj;rw[Addr.add_lit,hw,rX];exact(cell_of_row w1 g j cur _ _ QM).trans (h4 j b nL)
   have dF:∀ty,(Builtin.append_ #[63,9] ty #[.slice (some ⟨g,0,none⟩) l.length (c+1),.string s]).run prog w1=_:=fun ty=>
    Zer (P:=prog) (w:=w1) (ty:=ty) underlying63 underlying9 hi hz (some ⟨g,0,none⟩) l.length (c+1) s s.size rfl (l.map fun b=>Value.int .u8 b.toNat) (Lib.strCells s) CA (fun w' _=>PI w') (by omega) (by omega) (growslice_fits (by omega) (by rw[P5];omega))
   have yL:=grownCap_ge w1 (l.length+s.size) (c+1) V9;have hle:=grownCap_le_maxLen w1 (l.length+s.size) (c+1) V9 (by unfold maxLen;omega);generalize grownCap w1 (l.length+s.size) (c+1) V9=G at dF yL hle;have pP:(w1.drew.alloc (.cells (((l.map fun b=>Value.int .u8 b.toNat)++Lib.strCells s).toArray++Builtin.zeroCells z.cells (G-(l.length+s.size))) V9)).heap[q.b]?=some (.cells #[xV q.b,.slice (some ⟨g,0,none⟩) l.length (c+1)] EC (0,0)):=by rw[heap_alloc_old w1.drew _ Co];exact sV
   refine(Zq q.b l.length (c+1) _ _ _ _ s w w1 _ mB sV dF pP).mono ?_;rintro e w' ⟨rfl,rfl⟩;refine⟨rfl,Zl pP (heap_alloc_new w1.drew _) (by show w1.heap.size≠q.b;omega) ?_ (by omega) yL ?_ hle (fun j b hj=>?_) (QC.trans ((Fw w1 _).trans (cW.Ev (Ext.al _ _) _))) (.inr fH)⟩
   .rw[gD,nE]
   .rw[Array.size_append,yT,gD,fV,size_zeroCells,Jd,X4];omega
   .have aI:=(bZ.1 hj).1;rw[gD,nE]at aI;rw[Array.getElem?_append_left (by rw[yT,gD,fV,X4];omega),I0];rw[yS]at hj ⊢;rw[fV];split at hj
    .rename_i h;rw[if_pos h,bW,hj];rfl
    .rename_i h;rw[if_neg h];exact UP _ b hj
section
open Go.RowKit Go.Sort
theorem Zom {w w':World}(h:Below w.heap.size w w'):Ext w w':=⟨h.os,h.tape,h.output,h.size,h.block⟩
def vV (xs:List ByteArray)(sep:ByteArray):ByteArray:=⟨(Lib.join (xs.map (·.data.toList)) sep.data.toList).toArray⟩
theorem ZuU (xs:List ByteArray)(sep:ByteArray)(h1:xs.length<=1000000)(hlen:(Lib.join (xs.map (·.data.toList)) sep.data.toList).length<=140737488355328):aD prog 90 [bJ xs,.str sep] (.str (vV xs sep)):=by
 refine Mu ⟨_,_,func90,by kernel_rfl,rfl⟩ fun w m vs hg hm fH lG=>?_
 obtain⟨v,u,rfl⟩:=IY fH;obtain rfl:=SQ (lG 1 u _ rfl rfl);have hv:=lG 0 v _ rfl rfl;unfold bJ at hv;generalize hX:xs.map PV.str=X at hv;cases hv with
 |aF a cap nn n ys ds l0 l1 l2 l3 l4 l5 l6 l7=>
 cases xs with
 |nil=>
  subst hX;exact(strings_Join_none a cap sep w).mono fun e w' ⟨k1,k2⟩=>⟨_,k1,k2▸Ext.tI _,.str _⟩
 |cons x0 r=>
  have hl:X.length=(x0::r).length:=by rw[<-hX,fV]
  obtain⟨b,o,rfl,_⟩:=l5 0 (.str x0) (by rw[<-hX];rfl);have hc:∀(j:Nat) x,(x0::r)[j]?=some x->w.cell? ⟨b,o+j,none⟩=some (.string x):=fun j x hj=>by
   have Uu:X[j]?=some (.str x):=by rw[<-hX,bW,hj];rfl
   obtain⟨b',o',e,p5⟩:=l5 j _ Uu;cases e;obtain⟨q1,q2,_⟩:=l6 j _ Uu;obtain⟨d,hd⟩:∃d,(ds j)[0]?=some d:=⟨(ds j)[0]'(by omega),bB _⟩;have Sf:=l7 j _ 0 d _ Uu hd rfl;obtain rfl:=SQ Sf
   have:=hm _ _ _ (p5.get 0 _ hd)
   rw[Nat.mul_one,Nat.add_zero]at this;exact this
  have Ur:=hc 0 x0 rfl;rw[hl];exact(strings_Join b o cap (x0::r) sep w hc (AG Ur) (by omega) (by omega) hlen).mono fun e w' ⟨k1,k2⟩=>⟨_,k1,Zom k2,.str _⟩
end
inductive Wd where
 |num (n:Int)
 |kM (s:ByteArray)
def Wd.pv:Wd->PV
 |.num n=>.iface 3 (.i n)
 |.kM s=>.iface 9 (.str s)
def Wd.b:Wd->ByteArray
 |.num n=>vW n
 |.kM s=>s
def Wd.ok:Wd->Prop
 |.num n=>-9223372036854775808<=n/\n<=9223372036854775807
 |.kM _=>True
def ZT (ws:List Wd)(k:Nat):AS:=
 ⟨[(3,.vec (.loc 22 0) 1 0 k),(8,.pv (.aF false 1 (ws.map Wd.pv))),(9,.pv (.i ws.length)),(10,.pv (.i (k:Int)))],[(.loc 22 0,.arr 9 1 (((ws.take k).map Wd.b).map .str))]⟩
theorem Gq (ws:List Wd)(hl:ws.length<=1000)(hw:∀x∈ws,x.ok)(hlen:(Lib.join ((ws.map Wd.b).map (·.data.toList)) blank.data.toList).length<=140737488355328):aD prog 44 [.aF false 1 (ws.map Wd.pv)] (.str (vV (ws.map Wd.b) blank)):=by
 have VC:=ZuU (ws.map Wd.b) blank (by rw[fV];omega) hlen;refine N6 [] L44 ?_;intro R hR;simp[L44];refine eO (fun m τ=>∃k:Nat,k<=ws.length/\m=ws.length-k/\τ=ZT ws k) ⟨ws.length,ZT ws 0,Sub.trans' (Sub.mk (by simp[AS.cI]) (by simp[AS.cI])) (cI 22 9 1 3 rfl (by decide)),0,gV _,rfl,rfl⟩ ?_;rintro J hJ m τ ⟨k,hk,rfl,rfl⟩;by_cases aI:k<ws.length
 .obtain⟨x,hx⟩:∃x,ws[k]?=some x:=⟨ws[k],bB aI⟩;have hg:(ws.map Wd.pv)[k]?=some x.pv:=by rw[bW,hx];rfl
  have PA:=hw x (dK hx);have UM:=bN (k:=k) (by omega);have gZ:k+1<=1000000:=by omega
  have PX:min k ws.length=k:=Nat.min_eq_left (by omega);have hn:=hJ (ws.length-(k+1)) _ ⟨k+1,aI,rfl,rfl⟩;unfold ZT at hn;rw[mJ,hx,mF,mF]at hn;have aG:ws.length-(k+1)<ws.length-k:=by omega
  have yI:(((ws.take k).map Wd.b).map PV.str).length=k:=by rw[fV,fV,gJ];omega
  unfold ZT;generalize((ws.take k).map Wd.b).map PV.str=T at hn yI ⊢;cases x with
  |num n=>
   simp only[Wd.pv]at hg;simp[aI,↓hg];refine cG [.i n] (Xx n PA) ?_;simp[aP,gZ,yI,UM];exact⟨_,_,aG,Sub.mk (by simp) (by simp[Wd.b]),hn⟩
  |kM s=>
   simp only[Wd.pv]at hg;simp[aI,↓hg,aP,gZ,UM,yI];refine⟨_,_,aG,Sub.trans' (Sub.mk ?_ ?_) (j8 22 3 (T++[.str s]) (s:=.loc 29 0) (e:=9) rfl rfl ?_ rfl),hn⟩
   .simp[AS.j8]
   .simp[AS.j8,Wd.b]
   .simp[yI]
 .have he:k=ws.length:=by omega
  subst he;have jS:ws.take ws.length=ws:=nF;unfold ZT;rw[jS];have hm:List.take ws.length ((ws.map Wd.b).map PV.str)=(ws.map Wd.b).map PV.str:=fO (by simp);simp[-List.map_map];refine .inl (cP [.loc 22 0] [bJ (ws.map Wd.b),.str blank] (by simp) (by simp[-List.map_map,bJ,blank,hm]) VC ?_);simp;rw[<-hR];exact⟨rfl,rfl⟩
def kT (S:Int->Int->Bool)(ts:List Tt)(n:Int):Nat:=(ts.filter fun t=>decide (t.gA=n)&&S t.item t.day).length
theorem ZlV {S:Int->Int->Bool}{ts:List Tt}{n:Int}{k:Nat}{t:Tt}(h:ts[k]?=some t):kT S (ts.take (k+1)) n=kT S (ts.take k) n+(if(decide (t.gA=n)&&S t.item t.day)=true then 1 else 0):=by
 unfold kT;rw[mJ,h,F2,gD];congr 1;simp only[Option.toList,xL,List.filter_nil];cases(decide (t.gA=n)&&S t.item t.day)<;>simp
theorem Zw {S:Int->Int->Bool}{ts:List Tt}{n:Int}:kT S ts n<=ts.length:=O1 _ _
def GA:ByteArray:=⟨#[108,111,116]⟩
def Kz:ByteArray:=⟨#[116,101,115,116,115]⟩
def FO:ByteArray:=⟨#[112,97,115,115,101,100]⟩
def TA:ByteArray:=⟨#[114,101,99,97,108,108,101,100]⟩
def eI (ws:List Wd):ByteArray:=vV (ws.map Wd.b) blank
def s3 (ws:List Wd):Prop:=(Lib.join ((ws.map Wd.b).map (·.data.toList)) blank.data.toList).length<=140737488355328
def G0 (x:Lt)(many:Nat)(v:Int):List Wd:=[.kM GA,.num x.num,.kM Kz,.num many,.kM (zD v)]
def LJ (x:Lt)(many:Nat)(v:Int):ByteArray:=if x.passed=true then eI [.kM (eI (G0 x many v)),.kM FO]else eI (G0 x many v)
def WT (x:Lt)(many:Nat)(v:Int):ByteArray:=if(x.passed&&!decide (v=1))=true then eI [.kM (LJ x many v),.kM TA]else LJ x many v
def UG (W:aJ)(x:Lt)(S:Int->Int->Bool)(ts:List Tt)(k:Nat):AS:=
 ⟨[(0,.ptr (.par 0) 0),(3,.ptr (.loc 3 0) 0),(5,.pv (.i ((kT S (ts.take k) x.num:Nat):Int))),(13,.pv (.aF false 4 (ts.map Tt.pv))),(14,.pv (.i ts.length)),(15,.pv (.i (k:Int)))],
  [(.loc 3 0,.cells [.pv (.i x.num),.pv (.i x.pieces),.pv (.i x.limit),.pv (.bool x.passed)]),(.par 0,W)]⟩
theorem Zqc (l:List Ct)(bad:List Int)(ls:PV)(ts:List Tt)(rn:PV)(x:Lt)(hl:l.length<=1000)(hb:bad.length<=1000)(ht:ts.length<=900)(hx:vR x)(dE:zB l bad ts)
  (j0:s3 (G0 x (kT (stM l bad) ts x.num) (cH l bad ts x))) (j1:s3 [.kM (eI (G0 x (kT (stM l bad) ts x.num) (cH l bad ts x))),.kM FO]) (j2:s3 [.kM (LJ x (kT (stM l bad) ts x.num) (cH l bad ts x)),.kM TA]):
  cR prog 41 [.ptr (.par 0) 0,.pv x.pv] [(.par 0,aO (aL l) (bI bad) ls (bH ts) rn)] (fun r B=>r=.pv (.str (WT x (kT (stM l bad) ts x.num) (cH l bad ts x)))/\B=[(.par 0,aO (aL l) (bI bad) ls (bH ts) rn)]):=by
 have oJ:=Nc l bad ls ts rn x hl hb ht hx.2.2.1 hx.2.2.2 dE;have HE:hZ (stM l bad) (nM l bad x.limit) x.num ts []=cH l bad ts x:=rfl;rw[HE]at oJ;have lW:=Zgp l bad ls ts rn x hl hb ht hx.2.2.1 hx.2.2.2 dE;rw[Lt.pv]at oJ lW;refine N7 [.par 0] L41 ?_;intro R hR;simp[L41,aO,Lt.pv,bH];refine eO (fun m τ=>∃k:Nat,k<=ts.length/\m=ts.length-k/\τ=UG (aO (aL l) (bI bad) ls (bH ts) rn) x (stM l bad) ts k) ⟨ts.length,UG (aO (aL l) (bI bad) ls (bH ts) rn) x (stM l bad) ts 0,Sub.mk (by simp[kT]) (by simp[aO,bH]),0,gV _,rfl,rfl⟩ ?_;rintro J hJ m τ ⟨k,hk,rfl,rfl⟩;by_cases aI:k<ts.length
 .obtain⟨t,LS⟩:∃t,ts[k]?=some t:=⟨ts[k],bB aI⟩;have hg:(ts.map Tt.pv)[k]?=some t.pv:=by rw[bW,LS];rfl
  simp only[Tt.pv]at hg;have hw:=bN (k:=k) (by omega);have G6:=Zw (S:=stM l bad) (ts:=ts.take k) (n:=x.num);rw[gJ]at G6;have sO:=bN (k:=kT (stM l bad) (ts.take k) x.num) (by omega);have aG:ts.length-(k+1)<ts.length-k:=by omega
  have hn:=hJ (ts.length-(k+1)) _ ⟨k+1,aI,rfl,rfl⟩;unfold UG at hn;rw[ZlV LS]at hn;have vZ:=Gw l bad ls (bH ts) rn hl hb x.num t.item t.day t.rd;have e1:decide (((fA l bad).c6 t.item t.day).2=0)=stM l bad t.item t.day:=rfl;rw[e1]at vZ;clear e1;by_cases nU:t.gA=x.num
  .rw[decide_eq_true nU,Bool.true_and]at hn;simp[UG,aO,bH,aI,↓hg,aP,nU];refine cM [.ptr (.par 0) 0,.pv (.agg [.i x.num,.i t.item,.i t.day,.i t.rd])] [(.par 0,aO (aL l) (bI bad) ls (bH ts) rn)] 27 [.par 0] (by simp[aO,bI,bH]) vZ (by simp[aO]) ?_;cases Af:stM l bad t.item t.day with
   |true=>
    rw[Af,if_pos rfl]at hn;simp[aO,hw,sO];exact⟨_,_,aG,Sub.mk (by simp) (by simp[aO,bH,bI]),hn⟩
   |false=>
    rw[Af,if_neg (by simp)]at hn;simp[aO,hw];exact⟨_,_,aG,Sub.mk (by simp) (by simp[aO,bH,bI]),hn⟩
  .rw[decide_eq_false nU,Bool.false_and,if_neg (by simp)]at hn;simp[UG,aO,bH,aI,↓hg,aP,nU,hw];exact⟨_,_,aG,Sub.mk (by simp) (by simp[aO,bH,bI]),hn⟩
 have he:k=ts.length:=by omega
 subst he;unfold UG;rw[nF];have S7:=Zw (S:=stM l bad) (ts:=ts) (n:=x.num);generalize kT (stM l bad) ts x.num=many at S7 j0 j1 j2 hR ⊢;generalize cH l bad ts x=v at oJ lW j0 j1 j2 hR;simp[aO];refine DU (fun τ=>τ=⟨[(0,.ptr (.par 0) 0),(3,.ptr (.loc 3 0) 0),(32,.pv (.iface 9 (.str GA))),(35,.pv (.iface 3 (.i x.num))),(36,.pv (.iface 9 (.str Kz))),(38,.pv (.iface 3 (.i many))),(43,.pv (.iface 9 (.str (zD v))))],[(.loc 3 0,.cells [.pv (.i x.num),.pv (.i x.pieces),.pv (.i x.limit),.pv (.bool x.passed)]),(.par 0,aO (aL l) (bI bad) ls (bH ts) rn)]⟩) ?_ ?_
 .simp[gO,gY]
  repeat' apply And.intro
  all_goals
   refine cM [.ptr (.par 0) 0,.pv (.agg [.i x.num,.i x.pieces,.i x.limit,.bool x.passed])] [(.par 0,aO (aL l) (bI bad) ls (bH ts) rn)] 41 [.par 0] (by simp[aO,bI,bH]) oJ (by simp[aO]) ?_;simp[aO,gO,gY]
   repeat' apply And.intro
   all_goals
    first
     |refine .inl (cQ [] [.int .u8 v] (ZrB v) ?_)
     |refine cQ [] [.int .u8 v] (ZrB v) ?_
    simp
    repeat' apply And.intro
    all_goals exact Sub.mk (by simp[GA,Kz]) (by simp[bI,bH])
 .rintro τ rfl;simp[gO,gY,aO];have w0:=Gq (G0 x many v) (show(5:Nat)<=1000 by decide) (fun y hy=>by
   simp[G0]at hy;rcases hy with rfl|rfl|rfl|rfl|rfl
   .trivial
   .have h1:=hx.1;have h2:=hx.2.1;exact⟨by omega,by omega⟩
   .trivial
   .exact⟨by omega,by omega⟩
   .trivial) j0
  refine .inl (cP [.loc 44 0] [.aF false 1 ((G0 x many v).map Wd.pv)] (by simp) (by simp[G0,Wd.pv]) w0 ?_);have e0:vV ((G0 x many v).map Wd.b) blank=eI (G0 x many v):=rfl;rw[e0];unfold WT LJ at hR;unfold LJ at j2;cases hp:x.passed with
  |false=>
   rw[hp]at hR lW;rw[Bool.false_and]at hR lW;rw[if_neg (by simp),if_neg (by simp)]at hR;generalize eI (G0 x many v)=s0 at hR;simp;refine cM [.ptr (.par 0) 0,.pv (.agg [.i x.num,.i x.pieces,.i x.limit,.bool false])] [(.par 0,aO (aL l) (bI bad) ls (bH ts) rn)] 55 [.par 0] (by simp[aO,bI,bH]) lW (by simp[aO]) ?_;simp[aO];rw[<-hR];exact⟨rfl,by simp[aO,bI,bH]⟩
  |true=>
   rw[hp]at hR lW j2;rw[Bool.true_and]at hR lW;rw[if_pos rfl]at hR j2;generalize eI (G0 x many v)=s0 at hR j1 j2;have w1:=Gq [.kM s0,.kM FO] (show(2:Nat)<=1000 by decide) (fun y hy=>by
    simp at hy;rcases hy with rfl|rfl<;>trivial) j1
   simp;refine .inl (cP [.loc 51 0] [.aF false 1 ([Wd.kM s0,.kM FO].map Wd.pv)] (by simp) (by simp[Wd.pv,FO]) w1 ?_);have e1:vV ([Wd.kM s0,.kM FO].map Wd.b) blank=eI [.kM s0,.kM FO]:=rfl;rw[e1];generalize eI [.kM s0,.kM FO]=s1 at hR j2;have w2:=Gq [.kM s1,.kM TA] (show(2:Nat)<=1000 by decide) (fun y hy=>by
    simp at hy;rcases hy with rfl|rfl<;>trivial) j2
   simp;refine cM [.ptr (.par 0) 0,.pv (.agg [.i x.num,.i x.pieces,.i x.limit,.bool true])] [(.par 0,aO (aL l) (bI bad) ls (bH ts) rn)] 55 [.par 0] (by simp[aO,bI,bH]) lW (by simp[aO]) ?_;by_cases zJ:v=1
   .rw[if_neg (by simp[zJ])]at hR;simp[aO,zJ];rw[<-hR];exact⟨rfl,by simp[aO,bI,bH]⟩
   .rw[if_pos (by simp[zJ])]at hR;simp[aO,zJ];refine .inl (cP [.loc 59 0] [.aF false 1 ([Wd.kM s1,.kM TA].map Wd.pv)] (by simp) (by simp[Wd.pv,TA]) w2 ?_);simp;rw[<-hR];exact⟨rfl,by simp[aO,bI,bH]⟩
section
open Go.RowKit Go.Shelf
abbrev oR (l:List UInt8):aJ:=.ext (DD EC V9 l)
theorem Od (l:List UInt8)(s:ByteArray)(hs:0<s.size)(hl:l.length+s.size<=1000000):
  cR prog 40 [.ptr (.par 0) 0,.pv (.str s)] [(.par 0,oR l)] (fun r B=>r=.pv (.bL [.i s.size,.eV])/\B=[(.par 0,oR (l++s.data.toList))]):=by
 refine⟨⟨_,_,func40,by kernel_rfl,rfl⟩,fun w m ρ vs hB mN fH lG=>?_⟩;obtain⟨v0,v1,rfl⟩:=IY (by simpa using fH);have h0:=lG 0 v0 _ rfl rfl;have h1:=(lG 1 v1 _ rfl rfl).nG;have PE:v0=xV (ρ (.par 0)).b:=by cases h0;rfl
 have zJ:v1=.string s:=by cases h1;rfl
 subst PE zJ;obtain⟨hr,tX⟩:=hB.bx (.par 0) _ rfl;have mO:cJ ρ w [(.par 0,oR l)]=(ρ (.par 0)).b::yW (ρ (.par 0)) w:=by simp[cJ,hr,ins,DD]
 have look:∀s' bx,List.lookup s' [((.par 0:Site),oR (l++s.data.toList))]=some bx->s'=.par 0/\bx=oR (l++s.data.toList):=fun s' bx h=>by
  by_cases e:s'=.par 0
  .subst e;rw[mT]at h;cases h;exact⟨rfl,rfl⟩
  .rw[jC e]at h;cases h
 have iS:=hB.free (by simp);rw[mO]at iS;refine(Zo6 (m:=m) s hs hl tX).mono ?_;rintro e w' ⟨rfl,k1,k2,k3⟩;have Sz:Le m w'.mem:=fun a o v hv=>by
  have hw:=mN.1 a o v hv;exact(World.cell?_of_block (a:=⟨a,o,none⟩) (k2.block a (AG hw) (fun h=>by rw[iS a h o]at hv;cases hv))).trans hw
 have IB:∀k,fK ρ w' (.par 0) (oR (l++s.data.toList)) k->k∈(ρ (.par 0)).b::yW (ρ (.par 0)) w\/w.heap.size<=k:=fun k h=>by
  rcases h with⟨_,rfl⟩|h
  .exact .inl (List.mem_cons_self ..)
  .rcases k3 k h with h|h
   .exact .inl (List.mem_cons_of_mem _ h)
   .exact .inr h
 refine⟨_,.pv (.bL [.i s.size,.eV]),[(.par 0,oR (l++s.data.toList))],ρ,m,rfl,⟨rfl,rfl⟩,⟨fun s' bx h=>?_,fun s' Iv bx Wf i h h' _ _=>?_,fun s' bx i h hb o=>?_⟩,Le.refl m,Sz,fun _=>rfl,fun s' bx i h hb=>?_,fun _ _ _ h=>.inl h,?_,?_⟩
 .obtain⟨rfl,rfl⟩:=look s' bx h;exact⟨hr,k1⟩
 .rw[(look s' bx h).1,(look Iv Wf h').1]
 .obtain⟨rfl,rfl⟩:=look s' bx h;rcases IB i hb with h|h
  .exact iS i h o
  .cases hv:m i o with
   |none=>rfl
   |some v=>have:=AG (mN.1 _ _ _ hv);omega
 .obtain⟨rfl,rfl⟩:=look s' bx h;rw[mO];exact(IB i hb).symm
 .refine .pv _ _ (.bL _ _ rfl (fun j d c h h'=>?_))
  match j,h,h' with
  |0,h,h'=>cases h;cases h';exact .int _ _
  |1,h,h'=>cases h;cases h';exact .eV
 .rw[mO];exact k2
theorem Zpd (b g c:Nat)(p:Value)(cur:Array Value)(l:List UInt8)(w:World)(IC:w.heap[b]?=some (.cells #[p,.slice (some ⟨g,0,none⟩) l.length (c+1)] 102 (0,0)))(h0:l≠[])
  (hg:w.heap[g]?=some (.cells cur 5 (0,0))) (G5:l.length<=cur.size) (rT:l.length<=maxLen) (QO:∀(i:Nat) (b:UInt8),l[i]?=some b->cur[i]?=some (.int .u8 b.toNat)):
  Calls prog 47 #[.pointer (some ⟨b,0,none⟩)] w fun e w'=>e=.returned (.string ⟨l.toArray⟩)/\w'=w.drew.freeze ⟨g,0,none⟩ l.length:=by
 have c1:w.drew.cell? ⟨b,1,none⟩=some (.slice (some ⟨g,0,none⟩) l.length (c+1)):=by
  have:w.drew.heap[b]?=some (.cells #[p,.slice (some ⟨g,0,none⟩) l.length (c+1)] 102 (0,0)):=IC
  rw[Lib.cell_of_heap this];rfl
 have hSD:∀ts ty,(Builtin.unsafeSliceData_ ts ty #[.slice (some ⟨g,0,none⟩) l.length (c+1)]).run prog w.drew=.ok (.pointer (some ⟨g,0,none⟩)) w.drew:=fun ts ty=>
  Lib.run_unsafeSliceData_row _ _ _ _ _ _ (by omega)
 have hUS:∀ty,(Builtin.unsafeString_ #[182,3] ty #[.pointer (some ⟨g,0,none⟩),.i l.length]).run prog w.drew=.ok (.string ⟨l.toArray⟩) (w.drew.freeze ⟨g,0,none⟩ l.length):=fun ty=>by
  refine Lib.run_unsafeString_row w.drew 182 3 ty 5 underlying182 (by kernel_rfl) g cur.size (by have Uc:w.drew.heap[g]?=some (.cells cur 5 (0,0)):=hg;simp[World.shape?,Uc]) l h0 G5 (by unfold maxLen at rT;omega) ?_;intro j x hx;rw[Addr.add_lit,rX];exact(cell_of_row w.drew g j cur _ _ hg).trans (QO j x hx)
 have mixed:=mixed;go_enter func47,ntmps47;go_wp2;go_region_o
 all_goals (go_wp2;go_ret;exact⟨rfl,rfl⟩)
theorem YG (l:List UInt8)(h0:l≠[]):
  cR prog 47 [.ptr (.par 0) 0] [(.par 0,oR l)] (fun r B=>r=.pv (.str ⟨l.toArray⟩)/\B=[]):=by
 refine⟨⟨_,_,func47,by kernel_rfl,rfl⟩,fun w m ρ vs hB mN fH lG=>?_⟩;obtain⟨v0,rfl⟩:=RY (by simpa using fH);have h0':=lG 0 v0 _ rfl rfl;have PE:v0=.pointer (some ⟨(ρ (.par 0)).b,0,none⟩):=by cases h0';rfl
 subst PE;obtain⟨hr,tX⟩:=hB.bx (.par 0) _ rfl;have mO:cJ ρ w [(.par 0,oR l)]=(ρ (.par 0)).b::yW (ρ (.par 0)) w:=by simp[cJ,hr,ins,DD]
 have iS:=hB.free (by simp);rw[mO]at iS;obtain⟨p,v,hb,_,⟨_,h⟩|⟨g,c,cur,rfl,P9,hg,h1,h2,h3,h4⟩⟩:=tX
 .exact absurd h h0
 have HR:yW (ρ (.par 0)) w=[g]:=Hu hb;rw[HR]at mO iS;refine(Zpd (ρ (.par 0)).b g c p cur l w hb h0 hg (by omega) (by omega) h4).mono ?_;rintro e w' ⟨rfl,rfl⟩;have hk:cW [g] w (w.drew.freeze ⟨g,0,none⟩ l.length):=by
  unfold World.freeze;split
  .exact Fw w _
  .exact⟨rfl,rfl,rfl,by rw[Array.size_modify];exact fG _,fun k hk hn=>by
    have dA:g≠k:=fun e=>hn (by simp[e])
    simp only[Array.getElem?_modify];rw[if_neg dA];rfl⟩
 refine⟨_,.pv (.str ⟨l.toArray⟩),[],ρ,m,rfl,⟨rfl,rfl⟩,vA.nil _ _ _,Le.refl m,fun a o v hv=>?_,fun _=>rfl,fun s' bx i h hb=>by simp[List.lookup]at h,fun _ _ _ h=>.inl h,.pv _ _ (.str _),?_⟩
 .have hw:=mN.1 a o v hv;exact(World.cell?_of_block (a:=⟨a,o,none⟩) (hk.block a (AG hw) (fun h=>by rw[iS a (List.mem_cons_of_mem _ h) o]at hv;cases hv))).trans hw
 .rw[mO];exact hk.sub (fun k h=>List.mem_cons_of_mem _ h)
end
def Ya:ByteArray:=⟨#[99,101,114,116,115]⟩
def AM:ByteArray:=⟨#[104,101,108,100]⟩
def OH:ByteArray:=⟨#[98,97,100]⟩
def rH:ByteArray:=⟨#[101,110,100]⟩
def tC (w:Wk)(x:Lt):ByteArray:=WT x (kT (stM w.aA w.bad) w.aH x.num) (cH w.aA w.bad w.aH x)
def sN (w:Wk)(k:Nat):List UInt8:=(w.aK.take k).flatMap fun x=>(tC w x).data.toList++[10]
def zO (w:Wk):Nat:=((fA w.aA w.bad).NK []).1.length
def sX (F:Nat)(w:Wk):Int:=match(uL w.runs).JG F with
 |.bL [_,.int _ y,_]=>y
 |_=>0
def H4 (w:Wk):List Wd:=[.kM Ya,.num w.aA.length,.kM AM,.num (zO w),.kM OH,.num w.bad.length]
def AU (F:Nat)(w:Wk):List UInt8:=sN w w.aK.length++((eI (H4 w)).data.toList++[10])++((eI [.kM rH,.num (sX F w)]).data.toList++[10])
def GG (F:Nat)(L:List ByteArray):PV:=if wY L=0 then .bL [.str ⟨(AU F (cU (lI F) jV L).1).toArray⟩,.i 0]else .bL [.str ⟨#[]⟩,.i 3]
theorem Zif {w:Wk}{k:Nat}{x:Lt}(h:w.aK[k]?=some x):sN w (k+1)=sN w k++((tC w x).data.toList++[10]):=by
 unfold sN;rw[mJ,h,List.flatMap_append];simp
theorem ZfQ (x:Wd)(r:List Wd):(Lib.join (((x::r).map Wd.b).map (·.data.toList)) blank.data.toList).length=r.length+(x.b.size+(r.map fun y=>y.b.size).sum):=by
 rw[iL,iL,Lib.join_length]
 have:∀l:List Wd,Lib.lens ((l.map Wd.b).map (·.data.toList))=(l.map fun y=>y.b.size).sum:=fun l=>by
  unfold Lib.lens;rw[List.map_map,List.map_map];rfl
 have h2:=this (x::r);rw[iL,iL]at h2;rw[h2,fV,fV];simp[blank]
theorem Hc (x:Wd)(r:List Wd):(eI (x::r)).size=r.length+(x.b.size+(r.map fun y=>y.b.size).sum):=by
 rw[<-ZfQ];rfl
theorem XP (n:Int)(h0:-9223372036854775808<=n)(h1:n<=9223372036854775807):(vW n).size<=21:=Lib.itoa_length_le n h0 h1
theorem ZlO (v:Int):(zD v).size<=8:=by
 unfold zD;split
 .exact fG 8
 .split
  .exact fG 8
  .exact tH rfl
theorem Zp8 (x:Lt)(hx:vR x)(many:Nat)(hm:many<=1000)(v:Int):(eI (G0 x many v)).size<=62:=by
 unfold G0;rw[Hc];have h1:=XP x.num (by have:=hx.1;omega) (by have:=hx.2.1;omega);have h2:=XP many (by omega) (by omega);have h3:=ZlO v;have e1:GA.size=3:=rfl;have e2:Kz.size=5:=rfl;simp[Wd.b];omega
theorem Zit (x:Lt)(hx:vR x)(many:Nat)(hm:many<=1000)(v:Int):
  s3 (G0 x many v)/\s3 [.kM (eI (G0 x many v)),.kM FO]/\s3 [.kM (LJ x many v),.kM TA]/\(WT x many v).size<=100:=by
 have h0:=Zp8 x hx many hm v;have e1:FO.size=6:=rfl;have e2:TA.size=8:=rfl;have h1:(LJ x many v).size<=70:=by
  unfold LJ;split
  .rw[Hc];simp[Wd.b];omega
  .omega
 refine⟨?_,?_,?_,?_⟩
 .have:(Lib.join (((G0 x many v).map Wd.b).map (·.data.toList)) blank.data.toList).length=(eI (G0 x many v)).size:=rfl
  unfold s3;omega
 .unfold s3;rw[ZfQ];simp[Wd.b];omega
 .unfold s3;rw[ZfQ];simp[Wd.b];omega
 .unfold WT;split
  .rw[Hc];simp[Wd.b];omega
  .omega
theorem ZgH (S:Int->Int->Bool)(ts:List Tt)(n:Int)(h:ts.length<=900):kT S ts n<=1000:=by
 have:=Zw (S:=S) (ts:=ts) (n:=n)
 omega
theorem Zhe {w:Wk}(cZ:yY w):∀k,(sN w k).length<=k*101
 |0=>fG 0
 |k+1=>by
  have ih:=Zhe cZ k;cases h:w.aK[k]? with
  |none=>unfold sN at ih ⊢;rw[mJ,h];simp at ih ⊢;omega
  |some x=>
   rw[Zif h,gD,gD];have h2:=(Zit x (cZ.lt x (dK h)) _ (ZgH (stM w.aA w.bad) w.aH x.num cZ.t) (cH w.aA w.bad w.aH x)).2.2.2
   have:(tC w x).data.toList.length=(tC w x).size:=rfl
   have e:(tC w x).size<=100:=h2;simp only[pB,List.length_nil];omega
theorem ZqF (w:Wk)(h1:w.aA.length<=1000)(h2:w.bad.length<=1000)(h3:zO w<=1000000):s3 (H4 w)/\(eI (H4 w)).size<=90:=by
 have a1:=XP w.aA.length (by omega) (by omega);have a2:=XP w.bad.length (by omega) (by omega);have a3:=XP (zO w) (by omega) (by omega);have e1:Ya.size=5:=rfl;have e2:AM.size=4:=rfl;have e3:OH.size=3:=rfl;have h:(eI (H4 w)).size<=90:=by
  unfold H4;rw[Hc];simp[Wd.b];omega
 refine⟨?_,h⟩
 have:(Lib.join (((H4 w).map Wd.b).map (·.data.toList)) blank.data.toList).length=(eI (H4 w)).size:=rfl
 unfold s3;omega
theorem Zqz (n:Int)(h0:-9223372036854775808<=n)(h1:n<=9223372036854775807):s3 [.kM rH,.num n]/\(eI [.kM rH,.num n]).size<=30:=by
 have a1:=XP n h0 h1;have e1:rH.size=3:=rfl;have h:(eI [.kM rH,.num n]).size<=30:=by
  rw[Hc];simp[Wd.b];omega
 refine⟨?_,h⟩
 have:(Lib.join (([Wd.kM rH,.num n].map Wd.b).map (·.data.toList)) blank.data.toList).length=(eI [.kM rH,.num n]).size:=rfl
 unfold s3;omega
theorem ZsK (x:ByteArray):(x++(⟨#[10]⟩:ByteArray)).data.toList=x.data.toList++[10]:=by
 rw[ByteArray.data_append,Array.toList_append]
theorem AW (l:List UInt8)(x:ByteArray)(hl:l.length+(x.size+1)<=1000000):
  cR prog 39 [.pv (.str x),.ptr (.par 0) 0] [(.par 0,oR l)] (fun r B=>r=.pv (.bL [])/\B=[(.par 0,oR (l++(x.data.toList++[10])))]):=by
 have fH:(x++(⟨#[10]⟩:ByteArray)).size=x.size+1:=by rw[ByteArray.size_append];rfl
 have hw:=Od l (x++⟨#[10]⟩) (by omega) (by omega);rw[ZsK]at hw;refine cB [.par 0] L39 ?_;have Un:(x.size+ByteArray.size ⟨#[10]⟩).ble 9223372036854775807=true:=by
  rw[Nat.ble_eq]
  have:ByteArray.size ⟨#[10]⟩=1:=rfl
  omega
 simp[L39,Un];generalize x++(⟨#[10]⟩:ByteArray)=y at hw ⊢;refine cM [.ptr (.par 0) 0,.pv (.str y)] [(.par 0,oR l)] 5 [.par 0] (by simp) hw (by simp) ?_;simp
theorem ZtN {F:Nat}(w:Wk):0<=sX F w/\sX F w<=40:=by
 unfold sX Qn.Qu.JG;by_cases hc:(uL w.runs).check≠0
 .rw[if_pos hc];exact⟨Int.le_refl 0,show(0:Int)<=40 by decide⟩
 .rw[if_neg hc];cases hl:(uL w.runs).DO F with
  |none=>exact⟨Int.le_refl 0,show(0:Int)<=40 by decide⟩
  |some p=>
   have:=(Qn.B9 (Qn.Qu.Kl (Decidable.not_not.1 hc)) _ _ _ Qn.PW.nil (Qn.oD (q:=uL w.runs)) p hl).l
   exact⟨by simp,by simp;omega⟩
theorem Zld (w:Wk):zO w<=1000000:=by
 have h:=Gn (b:=fA w.aA w.bad) (bad:=[]);unfold zO Bk.NK;split
 .split
  .exact lC h (by decide)
  .exact gV _
 .exact gV _
def Iw (w:Wk)(k:Nat):AS:=
 ⟨[(5,.ptr (.loc 23 0) 0),(7,.ptr (.loc 7 0) 0),(8,.fn 39 [] [.ptr (.loc 7 0) 0]),(31,.pv (aS w.aK)),(32,.pv (.i w.aK.length)),(33,.pv (.i (k:Int)))],
  [(.loc 23 0,w.box),(.loc 7 0,oR (sN w k))]⟩
theorem Zru {F:Nat}(hF:407<F)(L:List ByteArray)(hl:L.length<=1000000):aD prog 20 [bJ L] (GG F L):=by
 have rA:=SR L hl;refine T8 L20 ?_;intro R hR;unfold GG at hR;by_cases hc:wY L=0
 .obtain⟨Bd,pO⟩:=Ge hc;rw[hc]at rA;have zL:=Lf (Gh hF) rF L (by omega) pO;have cZ:=Fj _ _ (by omega) (WZ (Gh hF) (l:=L) (by omega) rF pO);rw[if_pos hc]at hR;generalize cU (lI F) jV L=q at zL cZ hR;obtain⟨w,es⟩:=q;dsimp only at zL cZ hR;have kN:=cZ.l;simp[L20];refine cG [bJ L] rA ?_;simp;refine .inl (O7 [] (fs:=[]) (xs:=[bJ L]) (cs:=[]) (d:=23) rfl rfl zL ?_);rintro r B ⟨rfl,rfl⟩;refine⟨by simp[Wk.box,aO],?_⟩;simp[Wk.box,aO,aS];refine eO (fun m τ=>∃k:Nat,k<=w.aK.length/\m=w.aK.length-k/\τ=Iw w k) ⟨w.aK.length,Iw w 0,Sub.mk (by simp[aS]) (by simp[Wk.box,aO,aS];simp[sN]),0,gV _,rfl,rfl⟩ ?_;rintro J hJ m τ ⟨k,hk,rfl,rfl⟩;by_cases aI:k<w.aK.length
  .obtain⟨x,hx⟩:∃x,w.aK[k]?=some x:=⟨w.aK[k],bB aI⟩;have hg:(w.aK.map Lt.pv)[k]?=some x.pv:=by rw[bW,hx];rfl
   have PA:=cZ.lt x (dK hx);obtain⟨j0,j1,j2,fH⟩:=Zit x PA _ (ZgH (stM w.aA w.bad) w.aH x.num cZ.t) (cH w.aA w.bad w.aH x);have lW:=Zqc w.aA w.bad (aS w.aK) w.aH (dL w.runs) x cZ.c cZ.b cZ.t PA cZ.fit j0 j1 j2;have n7:=Zhe cZ k;have LV:=AW (sN w k) (tC w x) (by unfold tC;omega);rw[<-Zif hx]at LV;unfold tC at LV;simp only[Lt.pv]at hg;rw[Lt.pv]at lW;have hw:=bN (k:=k) (by omega);have hn:=hJ (w.aK.length-(k+1)) _ ⟨k+1,aI,rfl,rfl⟩;have aG:w.aK.length-(k+1)<w.aK.length-k:=by omega
   generalize WT x (kT (stM w.aA w.bad) w.aH x.num) (cH w.aA w.bad w.aH x)=s at lW LV;simp[Iw,Wk.box,aO,aS,aI,↓hg,aP];refine cM [.ptr (.par 0) 0,.pv (.agg [.i x.num,.i x.pieces,.i x.limit,.bool x.passed])] [(.par 0,aO (aL w.aA) (bI w.bad) (aS w.aK) (bH w.aH) (dL w.runs))] 40 [.loc 23 0] (by simp[aO,aS]) lW (by simp[aO]) ?_;simp[aO];refine cM [.pv (.str s),.ptr (.par 0) 0] [(.par 0,oR (sN w k))] 41 [.loc 7 0] (by simp) LV (by simp) ?_;simp[hw];exact⟨_,_,aG,Sub.mk (by simp[aS]) (by simp[Wk.box,aO,aS]),hn⟩
  .have he:k=w.aK.length:=by omega
   subst he;have n7:=Zhe cZ w.aK.length;have UQ:=Ln w.aA w.bad (aS w.aK) (bH w.aH) (dL w.runs) cZ.c cZ.b;have Tz:cR prog 42 ([(fA w.aA w.bad).pv,.emp (some true)].map .pv) [] (fun r B=>r=.pv (J7 ((fA w.aA w.bad).NK []))/\B=[]):=by
    refine cR.Xg (xs:=[(fA w.aA w.bad).pv,.emp (some true)]) (ys:=[(fA w.aA w.bad).pv,.aF false 1 ([].map aN)]) (Zvn (fA w.aA w.bad) (show qV.length<=1000 by decide) (lC (O1 _ _) cZ.c) [] (gV _)) rfl ?_;intro j x y m v h1 h2 hr
    match j with
    |0=>simp at h1 h2;subst h1 h2;exact hr
    |1=>simp at h1 h2;subst h1 h2;exact AB hr
    |j+2=>simp at h1
   have VC:=ZqF w cZ.c cZ.b (Zld w);have Z2:=Gq (H4 w) (show(6:Nat)<=1000 by decide) (fun y hy=>by
    have h1:=cZ.c;have h2:=cZ.b;have h3:=Zld w;simp[H4]at hy;rcases hy with rfl|rfl|rfl|rfl|rfl|rfl
    .trivial
    .exact⟨by omega,by omega⟩
    .trivial
    .exact⟨by omega,by omega⟩
    .trivial
    .exact⟨by omega,by omega⟩) VC.1
   have ebd:=ZtN (F:=F) w;have Jp:=Zqz (sX F w) (by omega) (by omega);have hed:=Gq [.kM rH,.num (sX F w)] (show(2:Nat)<=1000 by decide) (fun y hy=>by
    simp at hy;rcases hy with rfl|rfl
    .trivial
    .exact⟨by omega,by omega⟩) Jp.1
   have eC:vV ((H4 w).map Wd.b) blank=eI (H4 w):=rfl;have eE:vV ([Wd.kM rH,.num (sX F w)].map Wd.b) blank=eI [.kM rH,.num (sX F w)]:=rfl;rw[eC]at Z2;rw[eE]at hed;have p1:=AW (sN w w.aK.length) (eI (H4 w)) (by omega);have p2:=AW (sN w w.aK.length++((eI (H4 w)).data.toList++[10])) (eI [.kM rH,.num (sX F w)]) (by
    have:(eI (H4 w)).data.toList.length=(eI (H4 w)).size:=rfl
    simp only[gD,pB,List.length_nil];omega)
   have bT:=YG (AU F w) (by unfold AU;simp);have US:=Znp (w.runs.map Qn.Rq.pv) (aL w.aA) (bI w.bad) (aS w.aK) (bH w.aH);have VE:=Qn.wL hF (uL w.runs) (show(2:Nat)<=1000000 by decide) (show w.runs.length<=1000000 by have:=cZ.r;omega) (fun l hl=>by
    simp[uL]at hl;rcases hl with rfl|rfl<;>decide)
   obtain⟨ex,ee,Bz⟩:∃x e,(uL w.runs).JG F=.bL [x,.i (sX F w),.i e]:=by
    obtain⟨x,y,h⟩:=Zor F (uL w.runs);exact⟨x,_,by rw[h];unfold sX;rw[h]⟩
   rw[Bz]at VE;clear Bz n7 VC Jp eC eE;unfold AU at bT hR;generalize hCW:eI (H4 w)=cw at *;generalize hEW:eI [.kM rH,.num (sX F w)]=ew at *;generalize hRT:sN w w.aK.length=rt at *;simp[Iw,Wk.box,aO,hRT];refine cM [.ptr (.par 0) 0] [(.par 0,aO (aL w.aA) (bI w.bad) (aS w.aK) (bH w.aH) (dL w.runs))] 45 [.loc 23 0] (by simp[aO,bI]) UQ (by simp[aO]) ?_;simp[aO];refine .inl (cQ [] [(fA w.aA w.bad).pv,.emp (some true)] Tz ?_);simp[J7,aL];refine .inl (cP [.loc 70 0] [.aF false 1 ((H4 w).map Wd.pv)] (by simp) (by simp[H4,Wd.pv,Ya,AM,OH,zO]) Z2 ?_);simp;refine cM [.pv (.str cw),.ptr (.par 0) 0] [(.par 0,oR rt)] 72 [.loc 7 0] (by simp) p1 (by simp) ?_;simp;refine cM [.ptr (.par 0) 0] [(.par 0,aO (aL w.aA) (bI w.bad) (aS w.aK) (bH w.aH) (.aF false 3 (w.runs.map Qn.Rq.pv)))] 75 [.loc 23 0] (by simp[aO,bI,dL,aL]) US (by simp[aO]) ?_;simp[aO];refine .inl (cQ [] [(uL w.runs).pv] VE ?_);simp;refine .inl (cP [.loc 84 0] [.aF false 1 ([Wd.kM rH,.num (sX F w)].map Wd.pv)] (by simp) (by simp[Wd.pv,rH]) hed ?_);simp;refine cM [.pv (.str ew),.ptr (.par 0) 0] [(.par 0,oR (rt++(cw.data.toList++[10])))] 86 [.loc 7 0] (by simp) p2 (by simp) ?_;simp;refine cM [.ptr (.par 0) 0] [(.par 0,oR (rt++(cw.data.toList++[10])++(ew.data.toList++[10])))] 87 [.loc 7 0] (by simp) bT (by simp) ?_;simp;rw[<-hR];exact⟨by simp,rfl⟩
 .have h3:=Gg hc;rw[h3]at rA;rw[if_neg hc]at hR;simp[L20];refine cG [bJ L] rA ?_;simp;rw[<-hR];exact⟨rfl,rfl⟩
theorem Yh {s:ByteArray}{k:Nat}{b:UInt8}(h:s.data.toList[k]?=some b):AP s (k:Int)=some b:=by
 unfold AP;rw[O3]at h;obtain⟨hl,he⟩:=qE.1 h;have hk:k<s.size:=hl;rw[if_pos (by omega),H7,getElem?_pos s k hk];exact congrArg some he
def s6 (L:List ByteArray):Bool:=L.all (fun s=>decide (s.size<=200))&&decide (L.length<=50)
theorem Zkg {α:Type}{l:List α}{p:α->Bool}{k:Nat}{x:α}(h:l[k]?=some x):(l.take (k+1)).all p=((l.take k).all p&&p x):=by
 rw[mJ,h,List.all_append];simp
theorem Zi2 {α:Type}{l:List α}{p:α->Bool}{x:α}(h:x∈l)(hp:p x=false):l.all p=false:=by
 rw[List.all_eq_false];exact⟨x,h,by simp[hp]⟩
theorem Zpu (L:List ByteArray)(hl:L.length<=1000000):aD prog 33 [bJ L] (.bool (s6 L)):=by
 refine T8 L33 ?_;intro R hR;simp[L33,bJ];refine eO (fun m τ=>∃k:Nat,k<=L.length/\m=L.length-k/\(L.take k).all (fun s=>decide (s.size<=200))=true/\τ=⟨[(0,.pv (.aF false 1 (L.map .str))),(3,.pv (.i (k:Int)))],[]⟩)
  ⟨L.length,⟨[(0,.pv (.aF false 1 (L.map .str))),(3,.pv (.i ((0:Nat):Int)))],[]⟩,Sub.mk (by simp) (by simp),0,gV _,rfl,rfl,rfl⟩ ?_
 rintro J hJ m τ ⟨k,hk,rfl,eS,rfl⟩;by_cases aI:k<L.length
 .obtain⟨s,hx⟩:∃s,L[k]?=some s:=⟨L[k],bB aI⟩;have hg:(L.map PV.str)[k]?=some (.str s):=by rw[bW,hx];rfl
  have hw:=bN (k:=k) (by omega);have aG:L.length-(k+1)<L.length-k:=by omega
  by_cases h2:200<s.size
  .have hf:s6 L=false:=by unfold s6;rw[Zi2 (dK hx) (by simpa using h2)];rfl
   have uA:(200:Int)<(s.size:Int):=by omega
   rw[hf]at hR;simp[aI,↓hg,uA];rw[<-hR];exact⟨rfl,by simp⟩
  .have hn:=hJ (L.length-(k+1)) _ ⟨k+1,aI,rfl,by rw[Zkg hx,eS];simp;omega,rfl⟩;have uA:¬(200:Int)<(s.size:Int):=by omega
   simp[aI,↓hg,uA,hw];exact⟨_,_,aG,Sub.mk (by simp) (by simp),hn⟩
 .have he:k=L.length:=by omega
  subst he;rw[nF]at eS;have hf:s6 L=decide (L.length<=50):=by unfold s6;rw[eS,Bool.true_and]
  rw[hf]at hR;simp;rw[<-hR];exact⟨by simp;try omega,by simp⟩
def rG (L:List ByteArray):Bool:=(L.take 56).all (fun s=>decide (s.size<=210))&&decide (L.length<=55)
theorem Zt0 (L:List ByteArray)(hl:L.length<=9223372036854775807):aD prog 8 [bJ L] (.bool (rG L)):=by
 refine T8 L8 ?_;intro R hR;simp[L8,bJ];refine eO (fun m τ=>∃k:Nat,k<=L.length/\k<=56/\m=L.length-k/\(L.take k).all (fun s=>decide (s.size<=210))=true/\τ=⟨[(0,.pv (.aF false 1 (L.map .str))),(3,.pv (.i (k:Int)))],[]⟩)
  ⟨L.length,⟨[(0,.pv (.aF false 1 (L.map .str))),(3,.pv (.i ((0:Nat):Int)))],[]⟩,Sub.mk (by simp) (by simp),0,gV _,gV _,rfl,rfl,rfl⟩ ?_
 rintro J hJ m τ ⟨k,hk,D3,rfl,eS,rfl⟩;by_cases aI:k<L.length
 .have iY:((k:Int)<(L.length:Int)):=by omega
  by_cases h6:k<56
  .obtain⟨s,hx⟩:∃s,L[k]?=some s:=⟨L[k],bB aI⟩;have hg:(L.map PV.str)[k]?=some (.str s):=by rw[bW,hx];rfl
   have hw:=bN (k:=k) (by omega);have aG:L.length-(k+1)<L.length-k:=by omega
   have VK:((k:Int)<56):=by omega
   by_cases h2:210<s.size
   .have hm:s∈L.take 56:=dK (i:=k) (by rw[mG,if_pos h6];exact hx);have hf:rG L=false:=by unfold rG;rw[Zi2 hm (by simpa using h2)];rfl
    rw[hf]at hR;have uA:(210:Int)<(s.size:Int):=by omega
    simp[iY,VK,↓hg,uA];rw[<-hR];exact⟨rfl,by simp⟩
   .have hn:=hJ (L.length-(k+1)) _ ⟨k+1,aI,h6,rfl,by rw[Zkg hx,eS];simp;omega,rfl⟩;have uA:¬(210:Int)<(s.size:Int):=by omega
    simp[iY,VK,↓hg,uA,hw];exact⟨_,_,aG,Sub.mk (by simp) (by simp),hn⟩
  .have he:k=56:=by omega
   subst he;have hf:rG L=false:=by unfold rG;rw[eS,decide_eq_false (by omega)];rfl
   rw[hf]at hR;have h55:¬(L.length:Int)<=55:=by omega
   have HP:(56:Int)<(L.length:Int):=by omega
   clear aI iY h6;simp[HP,h55];rw[<-hR];exact⟨rfl,by simp⟩
 .have he:k=L.length:=by omega
  subst he;rw[nF]at eS;have hf:rG L=decide (L.length<=55):=by unfold rG;rw[fO D3,eS,Bool.true_and]
  rw[hf]at hR;simp;rw[<-hR];exact⟨by simp;try omega,by simp⟩
theorem Zt1 (L:List ByteArray)(hl:L.length<=1000000):aD prog 11 [bJ L] (bJ L):=by
 refine cR.U8 ?_;refine cF [.loc 5 0] L11 ?_;have h4:List.take L.length (L.map PV.str)=L.map PV.str:=fO (by rw[fV];exact fG _);simp[L11,bJ,aP,hl,h4]
def JP (L:List ByteArray):Int:=if s6 L=true then 0 else 3
theorem Zq5 (L:List ByteArray)(hl:L.length<=1000000):aD prog 12 [bJ L] (.i (JP L)):=by
 refine cS L12 ?_;simp[L12];refine cG [bJ L] (Zpu L hl) ?_;unfold JP;cases h:s6 L<;>simp
def tA:List ByteArray:=[⟨#[99,101,114,116,32,49,32,50,32,48,32,49,48,32,49,48,48,32,45,49,32,49]⟩,⟨#[108,111,116,32,55,32,56,32,53,48,48]⟩,⟨#[116,101,115,116,32,55,32,50,32,50,48,32,53,49,49]⟩,⟨#[116,101,115,116,32,55,32,50,32,50,48,32,53,49,48]⟩]
def tB:List ByteArray:=[⟨#[116,101,115,116,32,55,32,51,32,50,48,32,54,48,48]⟩,⟨#[98,97,100,32,49]⟩,⟨#[116,101,115,116,32,55,32,50,32,50,48,32,54,48,48]⟩]
def Yr:ByteArray:=⟨#[108,111,116,32,55,32,116,101,115,116,115,32,50,32,111,112,101,110,10,99,101,114,116,115,32,49,32,104,101,108,100,32,49,32,98,97,100,32,48,10,101,110,100,32,48,10]⟩
def SM:ByteArray:=⟨#[123,48,48,49,58,57,57,56,58,48,48,49,48,57,125,97,10]⟩
theorem Zc:cR prog 28 [] [] (fun r B=>r=.vec (.ret 0) 1 0 4/\B=[(.ret 0,.arr 9 1 (tA.map .str))]):=by
 refine cB [.loc 1 0] L28 ?_;simp[L28,tA]
theorem ZoN (A B:List Int)(hA:A.length<=1000000):aD prog 19 [.aF false 1 (A.map iP),.aF false 1 (B.map iP)] (.bool (decide (A=B))):=by
 refine T8 L19 ?_;intro R hR;by_cases hl:A.length=B.length
 .have lH:((A.length:Int)=(B.length:Int)):=by omega
  simp[L19,hl];refine eO (fun m τ=>∃k:Nat,k<=A.length/\m=A.length-k/\A.take k=B.take k/\τ=⟨[(0,.pv (.aF false 1 (A.map iP))),(1,.pv (.aF false 1 (B.map iP))),(5,.pv (.i (k:Int)))],[]⟩)
   ⟨A.length,⟨[(0,.pv (.aF false 1 (A.map iP))),(1,.pv (.aF false 1 (B.map iP))),(5,.pv (.i ((0:Nat):Int)))],[]⟩,Sub.mk (by simp) (by simp),0,gV _,rfl,rfl,rfl⟩ ?_
  rintro J hJ m τ ⟨k,hk,rfl,wA,rfl⟩;by_cases aI:k<A.length
  .obtain⟨s,hx⟩:∃s,A[k]?=some s:=⟨A[k],bB aI⟩;obtain⟨t,hy⟩:∃t,B[k]?=some t:=⟨B[k]'(by omega),bB (by omega)⟩;have hg:(A.map iP)[k]?=some (.i s):=by rw[bW,hx];rfl
   have G8:(B.map iP)[k]?=some (.i t):=by rw[bW,hy];rfl
   have kH:k<B.length:=by omega
   have hw:=bN (k:=k) (by omega);have aG:A.length-(k+1)<A.length-k:=by omega
   by_cases h2:s=t
   .have hn:=hJ (A.length-(k+1)) _ ⟨k+1,aI,rfl,by rw[mJ,mJ,hx,hy,wA,h2],rfl⟩;simp[aI,↓hg,↓G8,h2,hw];exact⟨_,_,aG,Sub.mk (by simp) (by simp),hn⟩
   .have hf:decide (A=B)=false:=by
     rw[decide_eq_false_iff_not];intro e;rw[e,hy]at hx;cases hx;exact h2 rfl
    rw[hf]at hR;simp[aI,↓hg,↓G8,h2];rw[<-hR];exact⟨rfl,by simp⟩
  .have he:k=A.length:=by omega
   subst he;rw[nF,hl,nF]at wA;have hf:decide (A=B)=true:=by rw[decide_eq_true_eq];exact wA
   rw[hf]at hR;simp;rw[<-hR];exact⟨rfl,by simp⟩
 .have lH:¬((A.length:Int)=(B.length:Int)):=by omega
  have hf:decide (A=B)=false:=by
   rw[decide_eq_false_iff_not];intro e;exact hl (by rw[e])
  rw[hf]at hR;simp[L19,hl,lH];rw[<-hR];exact⟨rfl,by simp⟩
theorem Zr8:AX (lI 408) (tA++tB)=.bL [(cU (lI 408) jV (tA++tB)).1.pv,.aF false 1 ([0,0,0,0,10,0,10].map iE),.i 0]:=by
 unfold AX;have h1:wY (tA++tB)=0:=by decide +kernel
 have h2:(cU (lI 408) jV (tA++tB)).2=[0,0,0,0,10,0,10]:=by decide +kernel
 rw[if_pos h1,h2]
theorem Zjd {L:List ByteArray}(h:s6 L=true):L.length<=50/\∀s∈L,s.size<=200:=by
 unfold s6 at h;rw[dJ,decide_eq_true_eq,rC]at h;exact⟨h.2,fun s hs=>by simpa using h.1 s hs⟩
def Wk.cells (w:Wk):List AV:=[.pv (.aF false 7 (w.aA.map Ct.pv)),.pv (.aF false 1 (w.bad.map iP)),.pv (.aF false 4 (w.aK.map Lt.pv)),.pv (.aF false 4 (w.aH.map Tt.pv)),.pv (.aF false 3 (w.runs.map Qn.Rq.pv))]
section
variable {D:Wk->ByteArray->Wk×Int}
def W8 (D:Wk->ByteArray->Wk×Int):Wk->List ByteArray->List ByteArray
 |_,[]=>[]
 |st,s::l=>if(D st s).2=0 then s::W8 D (D st s).1 l else W8 D (D st s).1 l
end
section
attribute [local irreducible] Bk.qU eY Bk.contra Bk.held Bk.span Bk.nums Bk.qF stM hZ
end
def JL:List PV:=qV.map It.pv
def ZR (w:Wk)(n:Int)(k:Nat):AS:=⟨[(1,.pv (.i n)),(2,.ptr (.loc 2 0) 0),(5,.pv (.i (k:Int)))],[(.loc 2 0,.cells w.cells)]⟩
theorem Yz {α:Type}{l:List α}{k:Nat}{x:α}(h:l[k]?=some x):l.drop k=x::l.drop (k+1):=by
 obtain⟨hl,he⟩:=bZ.1 h;rw[y8 hl,he]
theorem Zkz (w:Wk)(hl:w.aA.length<=1000)(n:Int):aD prog 17 [w.pv,.i n] (.bool (kn w n)):=by
 refine cS L17 ?_;obtain⟨V,hV⟩:∃V,V=kn w n:=⟨_,rfl⟩;rw[<-hV];generalize hR:(fun(r:AV) (B:List (Site×aJ))=>r=.pv (.bool V)/\B=[])=R;simp[L17,Wk.pv,aL,bI,aS,bH,dL];refine eO (fun m τ=>∃k:Nat,k<=w.aA.length/\m=w.aA.length-k/\V=(w.aA.drop k).any (fun y=>decide (y.num=n))/\τ=ZR w n k) ⟨w.aA.length,ZR w n 0,Sub.mk (by simp) (by simp[Wk.cells]),0,gV _,rfl,hV,rfl⟩ ?_;rintro J hJ m τ ⟨k,hk,rfl,hv,rfl⟩;by_cases aI:k<w.aA.length
 .obtain⟨x,hx⟩:∃x,w.aA[k]?=some x:=⟨w.aA[k],bB aI⟩;have hg:(w.aA.map Ct.pv)[k]?=some (.agg [.i x.num,.i x.it,.i x.src,.i x.day,.i x.valid,.i x.diff.lo,.i x.diff.hi]):=by rw[bW,hx];rfl
  have hw:=bN (k:=k) (by omega);have aG:w.aA.length-(k+1)<w.aA.length-k:=by omega
  rw[Yz hx,List.any_cons]at hv;by_cases hn:x.num=n
  .have zJ:V=true:=by rw[hv,decide_eq_true hn];rfl
   subst zJ;simp[ZR,Wk.cells,aI,↓hg,hn,aP];rw[<-hR];exact⟨rfl,rfl⟩
  .have aB:=hJ _ _ ⟨k+1,aI,rfl,by rw[hv,decide_eq_false hn,Bool.false_or],rfl⟩;simp[ZR,Wk.cells,aI,↓hg,hn,hw,aP];exact⟨_,_,aG,Sub.mk (by simp) (by simp[Wk.cells]),aB⟩
 have he:k=w.aA.length:=by omega
 subst he;rw[List.drop_length]at hv;have zJ:V=false:=hv;subst zJ;simp[ZR,Wk.cells];rw[<-hR];exact⟨rfl,rfl⟩
def MV:List Lt->Int->Nat->Int
 |[],_,_=>-1
 |x::l,n,k=>if x.num=n then(k:Int)else MV l n (k+1)
def Dp (w:Wk)(n:Int)(k:Nat):AS:=⟨[(1,.pv (.i n)),(2,.ptr (.loc 2 0) 0),(5,.pv (.i (k:Int)))],[(.loc 2 0,.cells w.cells)]⟩
theorem Yt (w:Wk)(hl:w.aK.length<=1000)(n:Int):aD prog 108 [w.pv,.i n] (.i (MV w.aK n 0)):=by
 refine cS L108 ?_;obtain⟨V,hV⟩:∃V,V=MV w.aK n 0:=⟨_,rfl⟩;rw[<-hV];generalize hR:(fun(r:AV) (B:List (Site×aJ))=>r=.pv (.i V)/\B=[])=R;simp[L108,Wk.pv,aL,bI,aS,bH,dL];refine eO (fun m τ=>∃k:Nat,k<=w.aK.length/\m=w.aK.length-k/\V=MV (w.aK.drop k) n k/\τ=Dp w n k) ⟨w.aK.length,Dp w n 0,Sub.mk (by simp) (by simp[Wk.cells]),0,gV _,rfl,hV,rfl⟩ ?_;rintro J hJ m τ ⟨k,hk,rfl,hv,rfl⟩;by_cases aI:k<w.aK.length
 .obtain⟨x,hx⟩:∃x,w.aK[k]?=some x:=⟨w.aK[k],bB aI⟩;have hg:(w.aK.map Lt.pv)[k]?=some (.agg [.i x.num,.i x.pieces,.i x.limit,.bool x.passed]):=by rw[bW,hx];rfl
  have hw:=bN (k:=k) (by omega);have aG:w.aK.length-(k+1)<w.aK.length-k:=by omega
  rw[Yz hx]at hv;unfold MV at hv;by_cases hn:x.num=n
  .rw[if_pos hn]at hv;subst hv;simp[Dp,Wk.cells,aI,↓hg,hn,aP];rw[<-hR];exact⟨rfl,rfl⟩
  .rw[if_neg hn]at hv;have aB:=hJ _ _ ⟨k+1,aI,rfl,hv,rfl⟩;simp[Dp,Wk.cells,aI,↓hg,hn,hw,aP];exact⟨_,_,aG,Sub.mk (by simp) (by simp[Wk.cells]),aB⟩
 have he:k=w.aK.length:=by omega
 subst he;rw[List.drop_length]at hv;have zJ:V = -1:=hv;subst zJ;simp[Dp,Wk.cells];rw[<-hR];exact⟨rfl,rfl⟩
theorem ZkA:aD prog 77 [] (aT qV):=by
 refine cF [.loc 8 0] L77 ?_;simp[L77,aT,qV,It.pv]
theorem ZsM (p:Int):aD prog 96 [.i p] (eD p):=by
 refine cF [.loc 6 0] L96 ?_;simp[L96,eD,dW,aP]
theorem Zpv (l:List PV):aD prog 52 [.aF false 3 l] (.agg [WH,.aF false 3 l]):=by
 refine cR.U8 ?_;refine cF [.loc 4 0,.loc 5 0] L52 ?_;simp[L52,aP];intro m v h;refine Zr1 (cs:=[.aF false 1 [.aF false 2 [.agg [.i 10,.i 13]],.emp (some true)],.aF false 3 l]) (iH:=[WH,.aF false 3 l]) rfl (fun i c c' d h1 h2 hd=>?_) h
 match i with
 |0=>cases h1;cases h2;exact FW 5 _ _ rfl _ _ hd
 |1=>cases h1;cases h2;exact hd
def TZ (k:Nat):List (Nat×AV):=[(1,.ptr (.loc 1 0) 0),(2,.ptr (.loc 2 0) 0),(3,.ptr (.loc 3 0) 0),(4,.pv (.i (k:Int)))]
def TX (w:Wk)(Y:List Ct):List (Site×aJ):=[(.loc 32 0,.arr 82 7 (Y.map Ct.pv)),(.loc 3 0,.cells [.pv (.aF false 4 JL),.vec (.loc 32 0) 7 0 Y.length]),(.loc 1 0,.cells w.cells),(.loc 2 0,.cells [.pv (.emp (some true)),.pv (.emp (some true))])]
def Ix (w:Wk)(k:Nat):AS:=⟨TZ k,TX w (fR (w.aA.take k) w.bad)⟩
theorem Yq (w:Wk)(hl:w.aA.length<=1000)(hb:w.bad.length<=1000):aD prog 38 [w.pv] (fA w.aA w.bad).pv:=by
 have HT:aD prog 77 [] (.aF false 4 JL):=ZkA;refine N6 [.loc 32 0] L38 ?_;intro R hR;simp[L38,Wk.pv,aL,bI];refine .inl<|cQ [] [] HT ?_;simp[aM];refine eO (fun m τ=>∃k:Nat,k<=w.aA.length/\m=w.aA.length-k/\τ=Ix w k) ⟨w.aA.length,Ix w 0,Sub.trans' (Sub.mk (by simp[TZ,AS.lY]) (by simp[TX,AS.lY,Wk.cells,aS,bH,dL,fR])) (lY 32 82 7 (s:=.loc 3 0) (cs:=[.pv (.aF false 4 JL),.pv (.emp (some true))]) 1 rfl rfl (by decide)),0,by omega,rfl,rfl⟩ ?_;rintro J hJ m τ ⟨k,hk,rfl,rfl⟩;by_cases aI:k<w.aA.length
 .obtain⟨x,hx⟩:∃x,w.aA[k]?=some x:=⟨w.aA[k],bB aI⟩;have hg:(w.aA.map Ct.pv)[k]?=some (.agg [.i x.num,.i x.it,.i x.src,.i x.day,.i x.valid,.i x.diff.lo,.i x.diff.hi]):=by rw[bW,hx];rfl
  have hw:=bN (k:=k) (by omega);have aB:=hJ _ _ ⟨k+1,aI,rfl,rfl⟩;have aG:w.aA.length-(k+1)<w.aA.length-k:=by omega
  have eJ:fR (w.aA.take (k+1)) w.bad=fR (w.aA.take k) w.bad++(if(!wQ w.bad x)=true then[x]else[]):=by
   unfold fR;rw[mJ,hx,F2];congr 1;simp only[Option.toList,xL,List.filter_nil]
  have lZ:(fR (w.aA.take k) w.bad).length<=1000:=lC (O1 _ _) (by rw[gJ];omega);have VD:aD prog 76 [.aF false 1 (w.bad.map iP),.i x.num] (.bool (wQ w.bad x)):=by
   have h:=wH w.bad x.num (by omega);have e:w.bad.contains x.num=wQ w.bad x:=by
    rw[qS,ZhR,jB]
   rw[e]at h;exact h
  unfold Ix at aB ⊢;rw[eJ]at aB;clear hJ eJ;generalize fR (w.aA.take k) w.bad=Y at *;have hY:(Y.map Ct.pv).take Y.length=Y.map Ct.pv:=fO (by simp);have hY6:Y.length<=999999:=by omega
  have hY7:Y.length+1<=1000000:=by omega
  simp[TZ,TX,Wk.cells,aI,↓hg,aP];refine cG [.aF false 1 (w.bad.map iP),.i x.num] VD ?_;cases Ci:wQ w.bad x with
  |true=>
   rw[Ci,if_neg (by simp),uG]at aB;simp[hw];exact⟨_,_,aG,Sub.mk (by simp[TZ]) (by simp[TX,Wk.cells]),aB⟩
  |false=>
   rw[Ci,if_pos (show(!false)=true from rfl)]at aB;simp[hw,↓hg,aP,hY7];exact⟨_,_,aG,Sub.mk (by simp[TZ]) (by simp[TX,Wk.cells,Ct.pv]),aB⟩
 have he:k=w.aA.length:=by omega
 subst he;clear hJ;unfold Ix;rw[nF];have jI:(fA w.aA w.bad).pv=.agg [.aF false 4 JL,.aF false 7 ((fR w.aA w.bad).map Ct.pv)]:=rfl;rw[jI]at hR;generalize fR w.aA w.bad=Z at *;have hmZ:(Z.map Ct.pv).take Z.length=Z.map Ct.pv:=fO (by simp);simp[TZ,TX,Wk.cells,hmZ];rw[<-hR];exact⟨rfl,rfl⟩
section
section
variable {P:Program}{K:AV->AS->Prop}{σ:AS}
theorem Zlq (fz:List Site){f:bA}{args:List bA}{d:Nat}{g:FuncId}{fs xs cs:List PV}{l:List AV}(h1:(aM fz σ).o f=.pv (.fn g fs cs))(h2:(aM fz σ).tO args=some xs)
  (hc:cR P g ((fs++xs++cs).map .pv) [] (fun r B=>r=.ptr (.ret 0) 0/\B=[(.ret 0,.cells l)])) (hr:oE (.ptr (.ret 0) 0) [(.ret 0,.cells l)]) (hK:K (.ptr (.loc d 0) 0) (((aM fz σ).bG d).lT (nO d [(.ret 0,.cells l)]))):yV P f args d K σ:=
 .inr ⟨fz,g,fs,xs,cs,h1,h2,hc.mono (fun _ _ ⟨h,h'⟩=>by subst h h';exact⟨hr,hK⟩)⟩
end
attribute [local irreducible] Bk.held Bk.nums Bk.iG Bk.span
end
section
section
attribute [local irreducible] Bk.qU eY Bk.contra Bk.held Bk.span Bk.nums Bk.qF
theorem ZtF {l:List Ct}{bad:List Int}(hl:Bk.ok ⟨qV,l⟩){i d:Int}(h0:0<=i)(h1:i<=5)(h2:0<=d)(h3:d<=1000):(fA l bad).qF i d=stM l bad i d:=by
 have h:=Zvh (FU (bad:=bad) hl) h0 (show i<((fA l bad).items.length:Int) by show i<(6:Int);omega) h2 h3;have hs:stM l bad i d=decide ((fA l bad).uW i d=0):=by unfold stM;rw[Zls]
 rw[hs,h];cases(fA l bad).qF i d<;>rfl
end
attribute [local irreducible] Bk.qU eY Bk.contra Bk.held Bk.span Bk.nums Bk.iG stM
theorem Zib (w:Wk)(hk:Bk.ok ⟨qV,w.aA⟩)(hl:w.aA.length<=1000)(hb:w.bad.length<=1000)(gA item day rd:Int)(h0:0<=item)(h1:item<=5)(h2:0<=day)(h3:day<=1000):aD prog 18 [w.pv,.agg [.i gA,.i item,.i day,.i rd]] (.bool (stM w.aA w.bad item day)):=by
 have lW:=Yq w hl hb;have VD:=Znd (fA w.aA w.bad) (FU hk) item day h0 (show item<(6:Int) by omega);rw[ZtF hk h0 h1 h2 h3]at VD;refine T8 L18 ?_;intro R hR;generalize stM w.aA w.bad item day=V at *;have jI:w.pv=.agg [.aF false 7 (w.aA.map Ct.pv),.aF false 1 (w.bad.map iP),.aF false 4 (w.aK.map Lt.pv),.aF false 4 (w.aH.map Tt.pv),.aF false 3 (w.runs.map Qn.Rq.pv)]:=rfl;rw[jI]at lW ⊢;generalize(fA w.aA w.bad).pv=bp at *;simp[L18];refine cQ [] [_] lW ?_;simp[aM];refine cG [bp,.i item,.i day] VD ?_;simp;rw[<-hR];exact⟨rfl,rfl⟩
theorem ZsR (w:Wk)(hk:Bk.ok ⟨qV,w.aA⟩)(hl:w.aA.length<=1000)(hb:w.bad.length<=1000)(t:Tt)(limit:Int)(h0:0<=t.item)(h1:t.item<=5)(h2:0<=t.day)(h3:t.day<=1000)(hs:stM w.aA w.bad t.item t.day=true)(hc:(fA w.aA w.bad).contra=false)
  (dE:IntKind.i64.wrap (t.rd+((fA w.aA w.bad).uY t.item t.day).1.lo)=t.rd+((fA w.aA w.bad).uY t.item t.day).1.lo):
  aD prog 94 [w.pv,.agg [.i t.gA,.i t.item,.i t.day,.i t.rd],.i limit] (.bool (nM w.aA w.bad limit t)):=by
 have lW:=Yq w hl hb;have cZ:=FU (bad:=w.bad) hk;have K1:=Zrv (fA w.aA w.bad) cZ;have HQ:=Yu (fA w.aA w.bad) cZ ((fA w.aA w.bad).span ((fA w.aA w.bad).held [])) ((fA w.aA w.bad).held []) Gn t.item t.day 1000 h0 (show t.item<(6:Int) by omega) ⟨h2,h3⟩ (fun c hc h=>Zh5 cZ hc h);have hM:((fA w.aA w.bad).uY t.item t.day).1=(fA w.aA w.bad).kD ((fA w.aA w.bad).held []) ((fA w.aA w.bad).span ((fA w.aA w.bad).held [])) t.item t.day 1000:=by
  unfold Bk.uY;unfold stM at hs;rw[Zls]at hs;rw[if_pos (of_decide_eq_true hs),hc];rfl
 unfold nM;rw[hM]at dE ⊢;refine cS L94 ?_;generalize(fA w.aA w.bad).kD ((fA w.aA w.bad).held []) ((fA w.aA w.bad).span ((fA w.aA w.bad).held [])) t.item t.day 1000=sp at *;obtain⟨V,hV⟩:∃V,V=decide (limit<=t.rd+sp.lo):=⟨_,rfl⟩;rw[<-hV];generalize hR:(fun(r:AV) (B:List (Site×aJ))=>r=.pv (.bool V)/\B=[])=R;have jI:w.pv=.agg [.aF false 7 (w.aA.map Ct.pv),.aF false 1 (w.bad.map iP),.aF false 4 (w.aK.map Lt.pv),.aF false 4 (w.aH.map Tt.pv),.aF false 3 (w.runs.map Qn.Rq.pv)]:=rfl;have Vm:(fA w.aA w.bad).pv=.agg [.aF false 4 JL,.aF false 7 ((fR w.aA w.bad).map Ct.pv)]:=rfl;rw[jI]at lW ⊢;rw[Vm]at lW HQ K1;generalize(fA w.aA w.bad).span ((fA w.aA w.bad).held [])=S at *;generalize(fA w.aA w.bad).held []=H at *;simp[L94];refine .inl<|cQ [] [_] lW ?_;simp[aM];refine DU (fun τ=>τ=⟨[(11,.pv (.i t.rd)),(20,.pv (.i sp.lo)),(22,.pv (.i limit))],[]⟩) ?_ ?_
 .simp[gO,gY]
  repeat' apply And.intro
  all_goals
   first|refine Zlq [] (fs:=[]) (xs:=[_]) (cs:=[]) rfl rfl K1 ?_ ?_|refine .inl<|Zlq [] (fs:=[]) (xs:=[_]) (cs:=[]) rfl rfl K1 ?_ ?_
   .simp[oE]
   simp[aM,nO,iN,gO,gY]
   repeat' apply And.intro
   all_goals
    refine cM [.pv (.agg [.aF false 4 JL,.aF false 7 ((fR w.aA w.bad).map Ct.pv)]),.ptr (.par 0) 0,.pv (.i t.item),.pv (.i t.day),.pv (.i 1000)] (laid 0 (P2 S H)) 19 [.loc 14 0] (by simp[laid,P2]) HQ (by simp[laid,P2]) ?_;simp[laid,P2,Cr.pv];exact Sub.mk (by simp) (by simp)
 rintro τ rfl;have nE:decide (limit<=t.rd+sp.lo)=V:=hV.symm;simp[-decide_eq_true_eq,-decide_eq_false_iff_not,dE,nE];rw[<-hR];exact⟨rfl,rfl⟩
end
section
def pI (p:Int)(rs:List Bool)(c:Int)(i:Nat):AS:=⟨[(1,.vec (.par 0) 1 0 rs.length),(2,.ptr (.loc 2 0) 0),(7,.pv (.i ((2*i:Nat):Int))),(8,.pv (.i c)),(9,.pv (.i (i:Int)))],[(.loc 2 0,.cells [.pv (.i p),.pv (.aF false 3 [dW 0,dW 1])]),(.par 0,.arr 4 1 (rs.map .bool))]⟩
def tN (p:Int)(rs:List Bool)(c:Int)(i k:Nat):AS:=⟨(10,.ptr (.loc 10 0) 0)::(11,.pv (.i (k:Int)))::(pI p rs c i).tm,(.loc 10 0,.cells [.pv (.i 2),.pv (.i (i:Int)),.pv (.i 2)])::(pI p rs c i).bx⟩
theorem ZrV:∀l:List Bool,0<=dD l/\dD l<=l.length
 |[]=>by decide
 |x::l=>by
  obtain⟨h1,h2⟩:=ZrV l;unfold dD;rw[pB]
  split<;>omega
theorem Lr:∀l m:List Bool,dD (l++m)=dD l+dD m
 |[],m=>by simp[dD]
 |x::l,m=>by
  show(if x=true then 1 else 0)+dD (l++m)=(if x=true then 1 else 0)+dD l+dD m;rw[Lr l m,Int.add_assoc]
theorem ZuC {rs:List Bool}(h:rs.length<2):cY rs=(3,2-(rs.length:Int),0):=by unfold cY;rw[if_pos h]
theorem ZuB {rs:List Bool}(h:¬rs.length<2)(he:(cY rs).2.2=0)(hs:eB (dD (rs.take 2)) 0 2≠3):rs.length=2/\cY rs=(eB (dD (rs.take 2)) 0 2,0,0):=by
 unfold cY at *;rw[if_neg h,if_neg hs]at *;split at he
 .cases he
 .rename_i h2;exact⟨by omega,by rw[if_neg h2]⟩
theorem ZuA {rs:List Bool}(h:¬rs.length<2)(hs:eB (dD (rs.take 2)) 0 2=3)(h4:rs.length<4):cY rs=(3,4-(rs.length:Int),0):=by
 unfold cY;rw[if_neg h,if_pos hs,if_pos h4]
theorem Zuz {rs:List Bool}(hs:eB (dD (rs.take 2)) 0 2=3)(h4:rs.length=4):cY rs=(eB (dD (rs.take 4)) 1 2,0,0):=by
 unfold cY;rw[if_neg (by omega),if_pos hs,if_neg (by omega),if_neg (by omega)];have h1:dD (rs.take 2)=1:=by
  unfold eB at hs;split at hs
  .cases hs
  .split at hs
   .cases hs
   .omega
 have h2:rs.take 4=rs.take 2++(rs.drop 2).take 2:=by rw[show 4=2+2 from rfl,List.take_add]
 rw[h2,Lr,h1]
theorem ZsL (p:Int)(rs:List Bool)(h4:rs.length<=4)(he:(cY rs).2.2=0):cR prog 95 [.pv (eD p),.vec (.par 0) 1 0 rs.length] [(.par 0,.arr 4 1 (rs.map .bool))] (fun r B=>r=.pv (.bL [.i (cY rs).1,.i (cY rs).2.1,.bool true])/\B=[(.par 0,.arr 4 1 (rs.map .bool))]):=by
 refine cB [.par 0] L95 ?_;obtain⟨V,hV⟩:∃V,V=cY rs:=⟨_,rfl⟩;rw[<-hV];generalize hR:(fun(r:AV) (B:List (Site×aJ))=>r=.pv (.bL [.i V.1,.i V.2.1,.bool true])/\B=[(.par 0,.arr 4 1 (rs.map .bool))])=R;have inner:∀(c0:Int) (i k:Nat),k<2*i+2->2*i+2<=rs.length->∃b,(rs.map PV.bool)[k]?=some (.bool b)/\dD (rs.take (k+1))=dD (rs.take k)+(if b=true then 1 else 0):=fun c0 i k h1 h2=>by
  have hk:k<rs.length:=by omega
  exact⟨rs[k],by rw[bW,bB hk];rfl,ZiP (bB hk)⟩
 have jL:=fun k=>ZrV (rs.take k)
 have k1:IntKind.i64.wrap 1=1:=rfl;have k2:IntKind.i64.wrap 2=2:=rfl;have k4:IntKind.i64.wrap 4=4:=rfl;simp[L95,eD];refine eO (fun m τ=>∃i:Nat,((i=0/\m=1)\/(i=1/\m=0/\¬rs.length<2/\eB (dD (rs.take 2)) 0 2=3))/\τ=pI p rs (dD (rs.take (2*i))) i) ⟨1,pI p rs 0 0,Sub.mk (by simp[pI,dD]) (by simp[pI]),0,.inl ⟨rfl,rfl⟩,rfl⟩ ?_;rintro J hJ m τ ⟨i,hi,rfl⟩;rcases hi with⟨rfl,rfl⟩|⟨rfl,rfl,h2,hs⟩
 .by_cases h2:rs.length<2
  .have uA:(rs.length:Int)<2:=by omega
   have w1:IntKind.i64.wrap (2-(rs.length:Int))=2-(rs.length:Int):=wrap64 (by omega);rw[ZuC h2]at hV;subst hV;simp[pI,dW,h2,uA,w1,k1,k2,k4];rw[<-hR];exact⟨by simp,by simp⟩
  have uA:¬(rs.length:Int)<2:=by omega
  simp[pI,dW,h2,uA,k1,k2,k4];refine eO (fun m τ=>∃k:Nat,k<=2/\m=2-k/\τ=tN p rs (dD (rs.take k)) 0 k) ⟨2,tN p rs 0 0 0,Sub.mk (by simp[tN,pI,dD]) (by simp[tN,pI,dW]),0,gV _,rfl,rfl⟩ ?_;rintro J2 uS m τ ⟨k,hk,rfl,rfl⟩;by_cases aI:k<2
  .obtain⟨b,hg,nV⟩:=inner 0 0 k (by omega) (by omega);have hw:=bN (k:=k) (by omega);have iY:(k:Int)<2:=by omega
   have xG:k<rs.length:=by omega
   have aB:=uS _ _ ⟨k+1,aI,rfl,rfl⟩;have aG:2-(k+1)<2-k:=by omega
   obtain⟨b1,b2⟩:=jL k;rw[gJ]at b2;rw[nV]at aB;clear uS nV;generalize dD (rs.take k)=c at *;have wc:IntKind.i64.wrap (c+1)=c+1:=wrap64 (by omega);cases b with
   |true=>
    simp[-getElem?_pos,-List.getElem?_map,tN,pI,dW,aI,iY,xG,hg,hw,wc,k1,k2,k4,cV,aP];exact⟨_,_,aG,Sub.mk (by simp[tN,pI]) (by simp[tN,pI,dW]),aB⟩
   |false=>
    rw[if_neg (by decide),Int.add_zero]at aB;simp[-getElem?_pos,-List.getElem?_map,tN,pI,dW,aI,iY,xG,hg,hw,wc,k1,k2,k4,cV,aP];exact⟨_,_,aG,Sub.mk (by simp[tN,pI]) (by simp[tN,pI,dW]),aB⟩
  have sH:k=2:=by omega
  subst sH;clear uS aI hk;by_cases hs:eB (dD (rs.take 2)) 0 2=3
  .have aB:=hJ _ _ ⟨1,.inr ⟨rfl,rfl,h2,hs⟩,rfl⟩;have c1:dD (rs.take 2)=1:=by
    unfold eB at hs;split at hs
    .cases hs
    .split at hs
     .cases hs
     .omega
   rw[c1]at aB ⊢;simp[tN,pI,dW,k1,k2,k4];exact⟨_,_,by decide,Sub.mk (by simp[pI]) (by simp[pI,dW]),aB⟩
  .obtain⟨qZ,hp⟩:=ZuB h2 he hs;rw[hp]at hV;subst hV;clear hJ;unfold eB at *;by_cases c1:dD (rs.take 2)<=0
   .rw[if_pos c1]at hR;simp[tN,pI,dW,c1,qZ,k1,k2,k4];rw[<-hR];exact⟨by simp,by simp⟩
   .rw[if_neg c1]at hs hR;by_cases c2:2<=dD (rs.take 2)
    .rw[if_pos c2]at hR;simp[tN,pI,dW,c1,c2,qZ,k1,k2,k4];rw[<-hR];exact⟨by simp,by simp⟩
    .rw[if_neg c2]at hs;exact absurd rfl hs
 .have c1:dD (rs.take 2)=1:=by
   unfold eB at hs;split at hs
   .cases hs
   .split at hs
    .cases hs
    .have:=jL 2;omega
  clear hJ;by_cases RJ:rs.length<4
  .have h5:(rs.length:Int)<4:=by omega
   have w1:IntKind.i64.wrap (4-(rs.length:Int))=4-(rs.length:Int):=wrap64 (by omega);rw[ZuA h2 hs RJ]at hV;subst hV;simp[pI,dW,RJ,h5,w1,k1,k2,k4];rw[<-hR];exact⟨by simp,by simp⟩
  have Tk:rs.length=4:=by omega
  have h5:¬(rs.length:Int)<4:=by omega
  rw[Zuz hs Tk]at hV;subst hV;simp[pI,dW,RJ,h5,k1,k2,k4];refine eO (fun m τ=>∃k:Nat,2<=k/\k<=4/\m=4-k/\τ=tN p rs (dD (rs.take k)) 1 k) ⟨2,tN p rs (dD (rs.take 2)) 1 2,Sub.mk (by simp[tN,pI]) (by simp[tN,pI,dW]),2,by decide,by decide,rfl,rfl⟩ ?_;rintro J2 uS m τ ⟨k,QD,hk,rfl,rfl⟩;by_cases aI:k<4
  .obtain⟨b,hg,nV⟩:=inner 0 1 k (by omega) (by omega);have hw:=bN (k:=k) (by omega);have iY:(k:Int)<4:=by omega
   have xG:k<rs.length:=by omega
   have aB:=uS _ _ ⟨k+1,by omega,aI,rfl,rfl⟩;have aG:4-(k+1)<4-k:=by omega
   obtain⟨b1,b2⟩:=jL k;rw[gJ]at b2;rw[nV]at aB;clear uS nV;generalize dD (rs.take k)=c at *;have wc:IntKind.i64.wrap (c+1)=c+1:=wrap64 (by omega);cases b with
   |true=>
    simp[-getElem?_pos,-List.getElem?_map,tN,pI,dW,aI,iY,xG,hg,hw,wc,k1,k2,k4,cV,aP];exact⟨_,_,aG,Sub.mk (by simp[tN,pI]) (by simp[tN,pI,dW]),aB⟩
   |false=>
    rw[if_neg (by decide),Int.add_zero]at aB;simp[-getElem?_pos,-List.getElem?_map,tN,pI,dW,aI,iY,xG,hg,hw,wc,k1,k2,k4,cV,aP];exact⟨_,_,aG,Sub.mk (by simp[tN,pI]) (by simp[tN,pI,dW]),aB⟩
  have hk4:k=4:=by omega
  subst hk4;clear uS aI hk;unfold eB at hR;generalize dD (rs.take 4)=C at *;by_cases c3:C<=1
  .rw[if_pos c3]at hR;simp[tN,pI,dW,c3,Tk,k1,k2,k4];rw[<-hR];exact⟨by simp,by simp⟩
  .have c4:2<=C:=by omega
   rw[if_neg c3,if_pos c4]at hR;simp[tN,pI,dW,c3,c4,Tk,k1,k2,k4];rw[<-hR];exact⟨by simp,by simp⟩
attribute [local irreducible] Bk.qU eY Bk.contra Bk.held Bk.span Bk.nums Bk.iG Bk.qF stM nM
def KO (k:Nat)(rs:List Bool):List (Nat×AV):=[(2,.ptr (.loc 2 0) 0),(3,.ptr (.loc 3 0) 0),(6,.vec (.loc 49 0) 1 0 rs.length),(7,.pv (.i (k:Int)))]
def KN (w:Wk)(x:Lt)(rs:List Bool):List (Site×aJ):=[(.loc 49 0,.arr 4 1 (rs.map .bool)),(.loc 3 0,.cells [.pv (.i x.num),.pv (.i x.pieces),.pv (.i x.limit),.pv (.bool x.passed)]),(.loc 2 0,.cells w.cells)]
def KP (w:Wk)(x:Lt)(rs:List Bool)(k:Nat):AS:=⟨KO k rs,KN w x rs⟩
theorem Zm {n:Nat}(w:Wk)(hI:sA n w)(hn:n<=100)(hc:(fA w.aA w.bad).contra=false)(x:Lt):
  aD prog 48 [w.pv,x.pv] (.bL [.i (qY (stM w.aA w.bad) (nM w.aA w.bad x.limit) x.num w.aH []).1,.i ((qY (stM w.aA w.bad) (nM w.aA w.bad x.limit) x.num w.aH []).2:Nat)]):=by
 have gN:=hI.c;have xJ:=hI.b;have nU:=hI.t;obtain⟨V,hV⟩:∃V,V=qY (stM w.aA w.bad) (nM w.aA w.bad x.limit) x.num w.aH []:=⟨_,rfl⟩;rw[<-hV];refine T8 L48 ?_;intro R hR;simp[L48,Wk.pv,Lt.pv,aL,bI,aS,bH,dL];refine eO (fun m τ=>∃(k:Nat) (rs:List Bool),k<=w.aH.length/\m=w.aH.length-k/\lD rs/\τ=KP w x rs k/\qY (stM w.aA w.bad) (nM w.aA w.bad x.limit) x.num (w.aH.drop k) rs=V)
  ⟨w.aH.length,KP w x [] 0,Sub.trans' (Sub.mk (by simp[KO,AS.cI]) (by simp[KN,AS.cI,Wk.cells])) (cI 49 4 1 6 rfl (by decide)),0,[],gV _,rfl,ZkL,rfl,hV.symm⟩ ?_
 rintro J hJ m τ ⟨k,rs,hk,rfl,ho,rfl,hv⟩;by_cases aI:k<w.aH.length
 .obtain⟨t,hx⟩:∃t,w.aH[k]?=some t:=⟨w.aH[k],bB aI⟩;have gQ:t∈w.aH:=dK hx;have hg:(w.aH.map Tt.pv)[k]?=some (.agg [.i t.gA,.i t.item,.i t.day,.i t.rd]):=by rw[bW,hx];rfl
  obtain⟨q1,q2,q3,q4,_⟩:=hI.tt t gQ;rw[Yz hx,Zv]at hv;have hw:=bN (k:=k) (by omega);have aG:w.aH.length-(k+1)<w.aH.length-k:=by omega
  have eJ:∀xT,lD xT->qY (stM w.aA w.bad) (nM w.aA w.bad x.limit) x.num (w.aH.drop (k+1)) xT=V->J (w.aH.length-(k+1)) (KP w x xT (k+1)):=fun xT h1 h2=>hJ _ _ ⟨k+1,xT,aI,rfl,h1,rfl,h2⟩
  clear hJ;have jI:w.pv=.agg [.aF false 7 (w.aA.map Ct.pv),.aF false 1 (w.bad.map iP),.aF false 4 (w.aK.map Lt.pv),.aF false 4 (w.aH.map Tt.pv),.aF false 3 (w.runs.map Qn.Rq.pv)]:=rfl;have vZ:=Zib w hI.bk (by omega) (by omega) t.gA t.item t.day t.rd (by omega) q2 q3 q4;rw[jI]at vZ;by_cases kN:t.gA=x.num
  case neg=>
   rw[if_neg (by rintro⟨h,_⟩;exact kN h)]at hv;have hn:=eJ rs ho hv;simp[KP,KO,KN,Wk.cells,aI,↓hg,aP,kN,hw];exact⟨_,_,aG,Sub.mk (by simp[KO]) (by simp[KN,Wk.cells]),hn⟩
  simp[KP,KO,KN,Wk.cells,aI,↓hg,aP,kN];rw[kN]at vZ;refine cG [_,_] vZ ?_;cases hs:stM w.aA w.bad t.item t.day with
  |false=>
   rw[if_neg (by rintro⟨_,h⟩;rw[hs]at h;cases h)]at hv;have hn:=eJ rs ho hv;simp[hw];exact⟨_,_,aG,Sub.mk (by simp[KO,KP]) (by simp[KP,KN,Wk.cells]),hn⟩
  |true=>
   rw[if_pos ⟨kN,hs⟩]at hv;have x6:=ZsR w hI.bk (by omega) (by omega) t x.limit (by omega) q2 q3 q4 hs hc (hI.fit t gQ);rw[jI,kN]at x6;obtain⟨bT,e1⟩:=(⟨ho.step,rfl⟩:(∀b,(cY (rs++[b])).2.2=0/\((cY (rs++[b])).1=3->lD (rs++[b])))/\0=0);clear e1;have RJ:=ho.len;have h16:rs.length<=999999:=by omega
   have h17:rs.length+1<=1000000:=by omega
   simp[↓hg,aP];rw[kN];refine cG [_,_,_] x6 ?_;generalize nM w.aA w.bad x.limit t=b0 at *;have IA:∃b,b=!b0:=⟨_,rfl⟩;obtain⟨b,hb⟩:=IA;rw[<-hb]at hv;have jS:List.take (rs.length+1) (rs.map PV.bool++[PV.bool b])=(rs++[b]).map PV.bool:=by
    rw[fO (by simp),mF];rfl
   simp[aP,h17,<-hb]
   try rw[jS]
   refine .inl<|cQ [] [_] (ZsM x.pieces) ?_;simp[aM];have lZ:=ZsL x.pieces (rs++[b]) (by rw[gD];simp;omega) (bT b).1;refine xM (gE:=[.pv (eD x.pieces),.vec (.par 0) 1 0 (rs++[b]).length]) (B:=[(.par 0,.arr 4 1 ((rs++[b]).map .bool))]) (fs:=[]) (cs:=[]) 55 [.loc 49 0] rfl rfl rfl ?_ ?_ ?_ lZ ?_
   .first|rfl|simp
   .first|rfl|simp
   .first|rfl|simp
   rintro r0 B0 ⟨rfl,rfl⟩;refine⟨rfl,by simp,?_⟩;obtain⟨EJ,pO⟩:=bT b;have hn:=eJ (rs++[b]);have yI:(rs++[b]).length=rs.length+1:=by rw[gD];rfl
   generalize cY (rs++[b])=pm at hv EJ pO ⊢;obtain⟨v,mo,er⟩:=pm;dsimp only at EJ pO hv;by_cases h3:v=3
   .subst h3;rw[if_pos rfl]at hv;have hn:=hn (pO rfl) hv;simp[hw];exact⟨_,_,aG,Sub.mk (by simp[KO]) (by simp[KN,Wk.cells]),hn⟩
   .rw[if_neg h3]at hv;simp[h3];rw[<-hR,<-hv,yI];exact⟨rfl,by simp⟩
 have he:k=w.aH.length:=by omega
 subst he;rw[List.drop_length,Ztk]at hv;clear hJ;simp[KP,KO,KN,Wk.cells];rw[<-hR,<-hv];exact⟨rfl,rfl⟩
end
def sM (w:Wk)(r:Except Int Wk):PV:=match r with
 |.ok u=>.bL [u.pv,.i 0]
 |.error e=>.bL [w.pv,.i e]
theorem Xt {l:List Int}{n:Int}{i:Nat}(hs:l.Pairwise (·<·))(hi:i<=l.length)(h1:∀(k:Nat) (y:Int),k<i->l[k]?=some y->y<n)(h2:∀y,l[i]?=some y->n<=y):dI l n=i:=by
 refine Cut.is ⟨fG _,hi,h1,fun k y hk hy=>?_⟩;obtain⟨l1,e1⟩:=bZ.1 hy;have yJ:i<l.length:=by omega
 have h3:=h2 l[i] (bB yJ);by_cases he:i=k
 .subst he;rw[e1]at h3;exact h3
 .have:=Q2.1 hs i k yJ l1 (by omega)
  omega
def Ke (w:Wk)(n:Int)(k:Nat):AS:=⟨[(1,.pv (.i n)),(2,.ptr (.loc 2 0) 0),(4,.ptr (.loc 4 0) 0),(6,.ptr (.loc 6 0) 0),(7,.pv (.i (k:Int)))],
 [(.loc 44 0,.arr 3 1 ((w.bad.take k).map iP)),(.loc 6 0,.cells [.pv (.aF false 7 (w.aA.map Ct.pv)),.vec (.loc 44 0) 1 0 k,.pv (.aF false 4 (w.aK.map Lt.pv)),.pv (.aF false 4 (w.aH.map Tt.pv)),.pv (.aF false 3 (w.runs.map Qn.Rq.pv))]),(.loc 2 0,.cells w.cells),(.loc 4 0,.cells [.pv (.emp (some true)),.pv (.emp (some true)),.pv (.emp (some true)),.pv (.emp (some true)),.pv (.emp (some true))])]⟩
theorem Zux {q:Nat}(w:Wk)(hI:sA q w)(hq:q<=100)(n:Int):aD prog 60 [w.pv,.i n] (sM w ((pS w.aA w.bad n).map fun l=>{ w with bad:=l })):=by
 have gN:=hI.c;have xJ:=hI.b;have M7:=Zkz w (by omega) n;have VD:aD prog 76 [.aF false 1 (w.bad.map iP),.i n] (.bool (decide (n∈w.bad))):=by
  have h:=wH w.bad n (by omega);have e:w.bad.contains n=decide (n∈w.bad):=by
   rw[qS,jB,decide_eq_true_eq]
  rw[e]at h;exact h
 have jI:w.pv=.agg [.aF false 7 (w.aA.map Ct.pv),.aF false 1 (w.bad.map iP),.aF false 4 (w.aK.map Lt.pv),.aF false 4 (w.aH.map Tt.pv),.aF false 3 (w.runs.map Qn.Rq.pv)]:=rfl;refine cF [.loc 61 0] L60 ?_;obtain⟨V,hV⟩:∃V,V=sM w ((pS w.aA w.bad n).map fun l=>{ w with bad:=l }):=⟨_,rfl⟩;rw[<-hV];generalize hR:(fun(r:AV) (B:List (Site×aJ))=>r=.pv V/\B=[])=R;rw[jI]at M7 ⊢;simp[L60];refine cG [_,_] M7 ?_;cases mA:kn w n with
 |false=>
  have hv:V=.bL [w.pv,.i 7]:=by
   rw[hV];unfold pS;rw[if_neg (by unfold kn at mA;rw[mA];decide)];rfl
  subst hv;simp;rw[<-hR];exact⟨by simp[jI],by simp⟩
 |true=>
 simp;refine cG [_,_] VD ?_;by_cases hb:n∈w.bad
 .have hv:V=.bL [w.pv,.i 6]:=by
   rw[hV];unfold pS;rw[if_pos (by unfold kn at mA;exact mA),if_pos hb];rfl
  subst hv;simp[hb];rw[<-hR];exact⟨by simp[jI],by simp⟩
 have hv:V=.bL [.agg [.aF false 7 (w.aA.map Ct.pv),.aF false 1 ((w.bad.take (dI w.bad n)++n::w.bad.drop (dI w.bad n)).map iP),.aF false 4 (w.aK.map Lt.pv),.aF false 4 (w.aH.map Tt.pv),.aF false 3 (w.runs.map Qn.Rq.pv)],.i 0]:=by
  rw[hV];unfold pS;rw[if_pos (by unfold kn at mA;exact mA),if_neg hb];rfl
 clear hV;simp[hb];refine eO (fun m τ=>∃k:Nat,k<=w.bad.length/\m=w.bad.length-k/\(∀(j:Nat) (y:Int),j<k->w.bad[j]?=some y->y<n)/\τ=Ke w n k) ⟨w.bad.length,Ke w n 0,Sub.trans' (Sub.mk (by simp[AS.lY]) (by simp[AS.lY,Wk.cells])) (lY 44 3 1 (s:=.loc 6 0) (cs:=[.pv (.aF false 7 (w.aA.map Ct.pv)),.pv (.emp (some true)),.pv (.aF false 4 (w.aK.map Lt.pv)),.pv (.aF false 4 (w.aH.map Tt.pv)),.pv (.aF false 3 (w.runs.map Qn.Rq.pv))]) 1 rfl rfl (by decide)),0,gV _,rfl,(fun j y h=>absurd h (Nat.not_lt_zero j)),rfl⟩ ?_;rintro J hJ m τ ⟨k,hk,rfl,kN,rfl⟩;have Be:¬(k<w.bad.length/\∃y,w.bad[k]?=some y/\y<n)->dI w.bad n=k:=fun h=>Xt hI.bs hk kN fun y hy=>by
  have xG:=(bZ.1 hy).1;by_cases R8:y<n
  .exact absurd ⟨xG,y,hy,R8⟩ h
  .omega
 by_cases pZ:k<w.bad.length/\∃y,w.bad[k]?=some y/\y<n
 .obtain⟨aI,y,hy,R8⟩:=pZ;have hg:(w.bad.map iP)[k]?=some (.i y):=by rw[bW,hy];rfl
  have hw:=bN (k:=k) (by omega);have aB:=hJ _ _ ⟨k+1,aI,rfl,(fun j z hj hz=>by
   by_cases he:j=k
   .subst he;rw[hy]at hz;cases hz;exact R8
   .exact kN j z (by omega) hz),rfl⟩
  have aG:w.bad.length-(k+1)<w.bad.length-k:=by omega
  have jS:(w.bad.take (k+1)).map iP=(w.bad.take k).map iP++[.i y]:=by rw[mJ,hy,mF];rfl
  have nU:((w.bad.take k).map iP).length=k:=by rw[fV,gJ];omega
  have D3:k+1<=1000000:=by omega
  unfold Ke at aB ⊢;rw[jS]at aB;clear hJ;generalize QX:(w.bad.take k).map iP=TL at *;have T4:TL.take k=TL:=fO (by omega);simp[Wk.cells,aI,↓hg,R8,aP,hw,D3,nU];exact⟨_,_,aG,Sub.mk (by simp) (by simp[Wk.cells]),aB⟩
 have wE:=Be pZ;clear hJ Be;rw[wE]at hv;have nU:((w.bad.take k).map iP).length=k:=by rw[fV,gJ];omega
 have CJ:(w.bad.take k++n::w.bad.drop k).map iP=(w.bad.take k).map iP++[.i n]++(w.bad.map iP).drop k:=by
  rw[mF,iL,List.map_drop,H9];rfl
 rw[CJ]at hv;subst hv;have D3:k+1<=1000000:=by omega
 have pW:IntKind.i64.wrap (k:Int)=(k:Int):=wrap64 (by omega);have X2:(w.bad.map iP).take w.bad.length=w.bad.map iP:=fO (by simp);have nE:((w.bad.map iP).drop k).length=w.bad.length-k:=by rw[uH,fV]
 have VA:k+1+(w.bad.length-k)<=1000000:=by omega
 unfold Ke;generalize QX:(w.bad.take k).map iP=TL at *;have T4:TL.take k=TL:=fO (by omega);have hT3:(TL++[PV.i n]).take (k+1)=TL++[PV.i n]:=fO (by rw[gD];simp;omega);have Cf:k+1+(w.bad.length-k)<=k+(w.bad.length-k+1):=by omega
 have QY:(TL++PV.i n::(w.bad.map iP).drop k).take (k+1+(w.bad.length-k))=TL++PV.i n::(w.bad.map iP).drop k:=fO (by rw[gD,pB,nU,nE];omega);by_cases aI:k<w.bad.length
 .obtain⟨y,hy⟩:∃y,w.bad[k]?=some y:=⟨w.bad[k],bB aI⟩;have hg:(w.bad.map iP)[k]?=some (.i y):=by rw[bW,hy];rfl
  have R8:¬y<n:=fun h=>pZ ⟨aI,y,hy,h⟩
  simp[-List.map_drop,Wk.cells,aI,↓hg,R8,aP,D3,VA,nU,pW,nE,hk,X2,Cf,QY];rw[<-hR];exact⟨by simp[-List.map_drop,H9],by simp⟩
 .simp[-List.map_drop,Wk.cells,aI,aP,D3,VA,nU,pW,nE,hk,X2,Cf,QY];rw[<-hR];exact⟨by simp[-List.map_drop,H9],by simp⟩
end Go.Proofs.YtlllhbmbnjnoiaaGreatDoor
