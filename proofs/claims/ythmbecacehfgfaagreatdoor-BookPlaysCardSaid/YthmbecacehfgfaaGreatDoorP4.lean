import Derived.Test.YthmbecacehfgfaaGreatDoorP3
import Derived.Test.YthmbecacehfgfaaGreatDoorP2
import Derived.Test.YthmbecacehfgfaaGreatDoorRows
import Derived.Test.YthmbecacehfgfaaGreatDoorP1
import Derived.WalkKit
import Derived.ProofKit
import Derived.OpenShut
import Derived.Handed
import Derived.Lay
import Derived.MakeChecks
import Derived.LaidLaws
import Derived.Lib.LaidTab
import Derived.Lib.LaidU8
import Derived.Shelf.Vars
import Derived.Lib.AtoiTie
import Derived.Test.YthmbecacehfgfaaGreatDoorP0
import Derived.Test.YthmbecacehfgfaaGreatDoorProg
import Derived.Shelf.Spec.SlicesInsertGrow
import Derived.StillTailTactics
import Derived.Deep.QuietTactic
import Derived.BigQuiet
import Derived.Lib.Builder
import Derived.Shelf.Strings.BuilderX
import Derived.Shelf.RegionOpenPlain
import Derived.Lib.Strings
import Derived.Lib.Walk
import Derived.Lib.AppendStr
import Derived.Lib.AppendZeros
import Derived.Lib.UnsafeStr
import Derived.Laws.Externs
import Derived.Lib.ItoaLen
set_option linter.unusedSimpArgs false
set_option linter.unusedVariables false
set_option maxHeartbeats 32000000
set_option maxRecDepth 100000
namespace Go.Proofs.YthmbecacehfgfaaGreatDoor.Qn
open Go.RowKit
open Go.Proofs.Tryz Go.Proofs.YthmbecacehfgfaaGreatDoor.Tryz
def Qu.I3 (q:Qu)(p:List (List Int)):List (List Int):=p.map (·.take q.ms.length)
def Qu.JP (F:Nat)(q:Qu):PV:=if q.check≠0 then .bM [eG [],.i 0,.i q.check]else match q.DW F with
 |none=>.bM [eG [],.i 0,.i 9]
 |some p=>.bM [eG (q.I3 p),.i p.length,.i 0]
theorem Zle {m:Mem}{v:Value}{a b:PV}(h:dG m v (.bM [.emp (some true),a,b])):dG m v (.bM [eG [],a,b]):=by
 refine Yl ?_ ?_ h
 .rfl
 intro j c c' d h1 h2 hd
 match j with
 |0=>simp at h1 h2;subst h1 h2;exact AM hd
 |1=>simp at h1 h2;subst h1 h2;exact hd
 |2=>simp at h1 h2;subst h1 h2;exact hd
 |j+3=>simp at h1
theorem wM {F:Nat}(hF:407<F)(q:Qu)(h1:q.ms.length<=1000000)(h2:q.rs.length<=1000000)(h3:∀l∈q.ms,l.length<=1000000):aD prog 31 [q.pv] (q.JP F):=by
 refine cN.j4 ?_;obtain⟨OUT,IQ⟩:∃z,z=q.JP F:=⟨_,rfl⟩;rw[<-IQ];refine O1 [.loc 38 0] L31 ?_;intro R hR;simp[L31,Qu.pv];refine cG [q.pv] (WR q h1 h2 h3) ?_;by_cases hc:q.check=0
 .have hq:=Qu.Ks hc;have Am:=hq.m;have Bb:=ZN hF q hq;have hO:OUT=match q.DW F with
   |none=>.bM [eG [],.i 0,.i 9]
   |some p=>.bM [eG (q.I3 p),.i p.length,.i 0]:=by rw[IQ];unfold Qu.JP;rw[if_neg (by simpa using hc)]
  have hPW:∀p,q.DW F=some p->PW q p:=fun p hp=>B9 hq _ _ _ PW.nil (oF (q:=q)) p hp
  clear IQ;generalize q.DW F=LAY at *;simp[hc];refine cL [.pv q.pv] [] 17 [] rfl Bb ?_
  intro x B hx;cases LAY with
  |none=>
   obtain⟨rfl,rfl⟩:=hx;refine⟨rfl,by simp,?_⟩;simp;rw[<-hR];refine⟨_,rfl,rfl,fun m v h=>?_⟩;rw[hO];exact Zle h
  |some p=>
   obtain⟨rfl,rfl⟩:=hx;refine⟨rfl,by simp,?_⟩;have hpw:=hPW p rfl;have mJ:=hpw.l;simp;refine dY (fun n τ=>∃k:Nat,k<=p.length/\n=p.length-k/\τ=⟨[(1,.ptr (.loc 1 0) 0),(2,.vec (.loc 38 0) 1 0 k),(25,.vec (.loc 17 1) 4 0 p.length),(26,.pv (.i p.length)),(27,.pv (.i k))],[(.loc 38 0,.arr 26 1 ((q.I3 p).take k |>.map bT)),(.loc 1 0,.cells q.cells),(.loc 17 1,.arr 151 4 (jS p))]⟩)
    ⟨p.length,⟨[(1,.ptr (.loc 1 0) 0),(2,.vec (.loc 38 0) 1 0 0),(25,.vec (.loc 17 1) 4 0 p.length),(26,.pv (.i p.length)),(27,.pv (.i 0))],[(.loc 38 0,.arr 26 1 []),(.loc 1 0,.cells q.cells),(.loc 17 1,.arr 151 4 (jS p))]⟩,Sub.trans' (Sub.mk (by simp[AS.cT]) (by simp[AS.cT,Qu.cells])) (cT 38 26 1 2 rfl (by decide)),0,fT _,rfl,by simp⟩ ?_
   rintro J hJ n τ ⟨k,hk,rfl,rfl⟩;by_cases aI:k<p.length
   .obtain⟨l,hl⟩:∃l,p[k]?=some l:=⟨p[k],aX aI⟩;have h4:=hpw.f l (dL hl);have hg:(jS p)[k]?=some (.agg (l.map (PV.int .i64))):=by rw[jS,bR,hl];rfl
    have gS:(q.I3 p)[k]?=some (l.take q.ms.length):=by rw[Qu.I3,bR,hl];rfl
    have hw:=jH (k:=k) (by omega);have aH:p.length-(k+1)<p.length-k:=by omega
    have aB:=hJ _ _ ⟨k+1,aI,rfl,rfl⟩;have iH:((q.I3 p).take (k+1)).map bT=((q.I3 p).take k).map bT++[bT (l.take q.ms.length)]:=by rw[OA gS];simp
    have sQ:k+1<=1000000:=by omega
    have hk5:k<=999999:=by omega
    have mI:(((q.I3 p).take k).map bT).length=k:=by simp[Qu.I3];omega
    have nY:=ZqI (l.take q.ms.length) (by rw[gI];omega);have Q0:(jS p).length=p.length:=by simp[jS]
    match l,h4 with
    |[a,b,c,d],_=>
    have UR:(([a,b,c,d]:List Int).map (PV.int .i64)).take q.ms.length=(([a,b,c,d]:List Int).take q.ms.length).map aN:=by rw[<-List.map_take];rfl
    simp only[iQ,List.map_nil]at UR hg;clear hJ hPW Bb;generalize D9:((q.I3 p).take k).map bT=TL at *;generalize hRW:([a,b,c,d]:List Int).take q.ms.length=RW at *;simp[-List.map_take,Qu.cells,aI,↓hg,cO,aP,Am,UR];refine .inl (cP [] [bT RW] rfl ?_ nY ?_)
    .simp[aM,bT]
    simp[-List.map_take,aM,aP,sQ,mI,hw,bT];refine⟨_,_,aH,Sub.mk ?_ ?_,aB⟩
    .simp
    .simp[-List.map_take,iH,Qu.cells,bT]
   .have he:k=p.length:=by omega
    subst he;have EW:((q.I3 p).take p.length).map bT=(q.I3 p).map bT:=by rw[fH (by simp[Qu.I3])]
    have mK:((q.I3 p).map bT).take p.length=(q.I3 p).map bT:=fH (by simp[Qu.I3]);have Ut:(q.I3 p).length=p.length:=by simp[Qu.I3]
    simp[-List.map_take,EW,mK,Ut];rw[<-hR];refine⟨_,rfl,rfl,fun m v h=>?_⟩;rw[hO];exact h
 .have hO:OUT=.bM [eG [],.i 0,.i q.check]:=by rw[IQ];unfold Qu.JP;rw[if_pos (by simpa using hc)]
  simp[hc];rw[<-hR];refine⟨_,rfl,rfl,fun m v h=>?_⟩;rw[hO];exact Zle h
end Go.Proofs.YthmbecacehfgfaaGreatDoor.Qn
namespace Go.Proofs.YthmbecacehfgfaaGreatDoor
open Go.RowKit
open Go.Proofs.Tryz Go.Proofs.YthmbecacehfgfaaGreatDoor.Tryz
def uK (rs:List Qn.Rq):Qn.Qu:=⟨[[⟨10,13⟩],[]],rs⟩
def dI (rs:List Qn.Rq):PV:=.aE false 3 (rs.map Qn.Rq.pv)
def fK (F:Nat)(q:Qn.Qu):Int:=if q.check≠0 then q.check else match q.DW F with
 |none=>9
 |some _=>0
theorem Zol (F:Nat)(q:Qn.Qu):∃x y,q.JP F=.bM [x,.i y,.i (fK F q)]:=by
 unfold Qn.Qu.JP fK;split
 .exact⟨_,_,rfl⟩
 .cases q.DW F with
  |none=>exact⟨_,_,rfl⟩
  |some p=>exact⟨_,_,rfl⟩
def pJ (h r o:Int):Qn.Rq:=⟨h,r,[!decide (o=2),!decide (o=1)]⟩
def runM (F:Nat)(rs:List Qn.Rq)(h r o:Int):Except Int (List Qn.Rq):=
 if(decide (1<=h)&&decide (h<=40))=true/\(decide (0<=r)&&decide (r<=40))=true/\(decide (1<=o)&&decide (o<=3))=true then
  (if rs.length<6 then(if fK F (uK (rs++[pJ h r o]))=0 then .ok (rs++[pJ h r o])else .error 9)else .error 3)
 else .error 2
def rnQ (r:Except Int (List Qn.Rq))(ct bd ls ts:PV)(a b c d e:PV):Prop:=∃xU,r=.ok xU/\a=ct/\b=bd/\c=ls/\d=ts/\e=dI xU
theorem YJ {F:Nat}(hF:407<F)(rs:List Qn.Rq)(ct bd ls ts:PV)(h r o:Int)(hr:rs.length<=900):
  sX prog 166 [.ptr (.par 0) 0,.pv (.aE false 1 [iP h,iP r,iP o])] [(.par 0,aO ct bd ls ts (dI rs))] (xX (rnQ (runM F rs h r o) ct bd ls ts)) (uQ (fun e=>runM F rs h r o=.error e)):=by
 have w1:=KB h 1 40;have w2:=KB r 0 40;have w3:=KB o 1 3;refine cX L166 ?_;generalize hE:(fun e=>runM F rs h r o=.error e)=E;generalize hQ:rnQ (runM F rs h r o) ct bd ls ts=Q;unfold runM at hE hQ;generalize(decide (1<=h)&&decide (h<=40))=c1 at w1 hE hQ;generalize(decide (0<=r)&&decide (r<=40))=c2 at w2 hE hQ;generalize(decide (1<=o)&&decide (o<=3))=c3 at w3 hE hQ;show fO _ (.seq _ (.seq _ (.seq _ _))) _ _ _;by_cases hc:¬(c1=true/\c2=true/\c3=true)
 .have AA:E 2:=by rw[<-hE,if_neg hc]
  refine wZ [_,_,_,_,_,_,_,_,_,_,_,_,_,_,_,_] ?_;simp[hold,iP];refine cG [.i h,.i 1,.i 40] w1 ?_;cases c1 with
  |false=>
   simp[hold];exact pF 2 AA
  |true=>
  simp[hold];refine cG [.i r,.i 0,.i 40] w2 ?_;cases c2 with
  |false=>
   simp[hold];exact pF 2 AA
  |true=>
  simp[hold];refine cG [.i o,.i 1,.i 3] w3 ?_;cases c3 with
  |false=>
   simp;exact pF 2 AA
  |true=>exact absurd ⟨rfl,rfl,rfl⟩ hc
 have hc:=Decidable.not_not.1 hc;rw[if_pos hc]at hE hQ;obtain⟨rfl,rfl,rfl⟩:=hc;refine mH ?_;simp[hold,iP];refine cG [.i h,.i 1,.i 40] w1 ?_;simp[hold];refine cG [.i r,.i 0,.i 40] w2 ?_;simp[hold];refine cG [.i o,.i 1,.i 3] w3 ?_;simp;refine cG [.bool true,.i 2] (gQ 2) ?_;simp[hold];by_cases h6:¬rs.length<6
 .rw[if_neg h6]at hE;have Vp:E 3:=by rw[<-hE]
  have Vx:¬(rs.length:Int)<6:=by omega
  refine wZ [_,_,_,_,_,_,_] ?_;simp[hold,aO,dI,Vx];exact pF 3 Vp
 have h6:=Decidable.not_not.1 h6;rw[if_pos h6]at hE hQ;have Vx:(rs.length:Int)<6:=by omega
 refine mH ?_;simp[hold,aO,dI,Vx];refine cG [.bool true,.i 3] (gQ 3) ?_;simp;refine mH ?_;simp[hold,setAt,aP];have ES:=ZoE (rs.map Qn.Rq.pv) h r [.bool (!decide (o=2)),.bool (!decide (o=1))] (.aE false 1 [.bool (!decide (o=2)),.bool (!decide (o=1))]) rfl (by rw[fQ];omega);refine .inl (cP [.loc 52 0] [.aE false 3 (rs.map Qn.Rq.pv),.agg [.i h,.i r,.aE false 1 [.bool (!decide (o=2)),.bool (!decide (o=1))]]] (by simp) (by simp[AS.cH,AV.cH,AV.bB,aL.cH]) ES ?_);have H0:rs.map Qn.Rq.pv++[.agg [.i h,.i r,.aE false 1 [.bool (!decide (o=2)),.bool (!decide (o=1))]]]=(rs++[pJ h r o]).map Qn.Rq.pv:=by rw[lI];rfl
 rw[H0];have RD:(rs++[pJ h r o]).length<=7:=by rw[gE];simp;omega
 generalize rs++[pJ h r o]=L at hE hQ RD ⊢;clear H0 ES;simp[AS.cH,AV.cH,AV.bB,aL.cH,AS.tidy];have UT:=Zni (L.map Qn.Rq.pv) ct bd ls ts;have VF:=Qn.wM hF (uK L) (show(2:Nat)<=1000000 by decide) (show L.length<=1000000 by omega) (fun l hl=>by
  simp[uK]at hl;rcases hl with rfl|rfl<;>decide)
 obtain⟨ex,ey,Bw⟩:=Zol F (uK L);rw[Bw]at VF;generalize fK F (uK L)=er at hE hQ VF;clear Bw;refine mH ?_;simp[hold];refine cM [.ptr (.par 0) 0] [(.par 0,aO ct bd ls ts (.aE false 3 (L.map Qn.Rq.pv)))] 60 [.par 0] (by simp[aO]) UT (by simp[aO]) ?_;simp[aO];refine .inl (cQ [] [(uK L).pv] VF ?_);simp;by_cases h0:¬er=0
 .rw[if_neg h0]at hE;have Vo:E 9:=by rw[<-hE]
  refine Gc [_,_] ?_;simp[hold,h0];exact pF 9 Vo
 have h0:=Decidable.not_not.1 h0;rw[if_pos h0]at hQ;refine GB ?_;simp[hold,h0];refine cG [.bool true,.i 9] (gQ 9) ?_;simp[hold];refine l9 (a:=ct) (b:=bd) (c:=ls) (d:=ts) (e:=dI L) [] ?_ ?_
 .simp[bB,aO,dI]
 .rw[<-hQ];exact⟨_,rfl,rfl,rfl,rfl,rfl,rfl⟩
theorem Zt8 (l:List PV)(g:FuncId)(fs cs:List PV)(q:PV->Bool)(hq:∀x∈l,aD prog g (fs++[x]++cs) (.bool (q x)))(hl:l.length<=1000000)(hc:∀x∈l,∃s,x=.str s):
  aD prog 71 [.aE false 1 l,.fn g fs cs] (.bool (l.any q)):=
 wS 115 (SU (row:=false) hq hl (fun x hx=>by obtain⟨s,rfl⟩:=hc x hx;exact⟨rfl,by simp⟩))
theorem Zrj (x:PV)(g:FuncId)(fs cs:List PV)(b:Bool)(hx:∃s,x=.str s)(hq:aD prog g (fs++[x]++cs) (.bool b)):
  aD prog 72 [x,.ref [.fn g fs cs]] (.bool (!b)):=by
 obtain⟨s,rfl⟩:=hx;refine cS L72 ?_;simp[L72];refine gG (k:=0) rfl rfl hq rfl ?_;simp
theorem Zuc (l:List PV)(g:FuncId)(fs cs:List PV)(q:PV->Bool)(hq:∀x∈l,aD prog g (fs++[x]++cs) (.bool (q x)))(hl:l.length<=1000000)(hc:∀x∈l,∃s,x=.str s):
  aD prog 36 [.aE false 1 l,.fn g fs cs] (.bool (l.all q)):=by
 refine cS L36 ?_;simp[L36];refine gG (k:=4) rfl rfl (Zt8 l 72 [] [.ref [.fn g fs cs]] (fun x=>!q x) (fun x hx=>Zrj x g fs cs (q x) (hc x hx) (hq x hx)) hl hc) rfl ?_;simp[List.not_any_eq_all_not]
theorem ZlM (l:List Ct)(bad:List Int)(ls:PV)(ts:List Tt)(rn:PV)(x:Lt)(hl:l.length<=1000)(hb:bad.length<=1000)(ht:ts.length<=900)(h4:4<=x.pieces)(RP:x.pieces<=30)(dE:zB l bad ts):
  cN prog 56 [.ptr (.par 0) 0,.pv x.pv] [(.par 0,aO (aK l) (bG bad) ls (bE ts) rn)] (fun r B=>r=.pv (.bool (x.passed&&!decide (cW l bad ts x=1)))/\B=[(.par 0,aO (aK l) (bG bad) ls (bE ts) rn)]):=by
 have qK:=Ny l bad ls ts rn x hl hb ht h4 RP dE;have HM:iC (stM l bad) (oY l bad x.limit) x.num ts []=cW l bad ts x:=rfl;rw[HM]at qK;generalize cW l bad ts x=v at qK ⊢;rw[Lt.pv]at qK;refine cB [.par 0] L56 ?_;cases hp:x.passed with
 |false=>simp[L56,aO,Lt.pv,hp]
 |true=>
  rw[hp]at qK;simp[L56,aO,Lt.pv,hp];refine cM [.ptr (.par 0) 0,.pv (.agg [.i x.num,.i x.pieces,.i x.limit,.bool true])] [(.par 0,aO (aK l) (bG bad) ls (bE ts) rn)] 10 [.par 0] (by simp[aO]) qK (by simp[aO]) ?_;simp[aO,bG]
def zD (v:Int):ByteArray:=if v=1 then⟨#[97,99,99,101,112,116,101,100]⟩else if v=2 then⟨#[114,101,106,101,99,116,101,100]⟩else⟨#[111,112,101,110]⟩
theorem Zrx (v:Int):aD prog 54 [.int .u8 v] (.str (zD v)):=by
 refine cS L54 ?_;unfold zD;by_cases h1:v=1
 .simp[L54,h1]
 .by_cases h2:v=2
  .simp[L54,h2]
  .simp[L54,h1,h2]
theorem ZsG (s:ByteArray):aD prog 35 [.str s] (.bool (decide (s.size<=200))):=by
 refine cS L35 ?_;by_cases h:s.size<=200
 .have h':(s.size:Int)<=200:=by omega
  simp[L35,h,h']
 .have h':¬(s.size:Int)<=200:=by omega
  simp[L35,h,h']
def bS (l:List ByteArray):PV:=.aE false 1 (l.map .str)
def IX (l:List ByteArray):Bool:=l.all fun s=>decide (s.size<=200)
def yX (l:List ByteArray):Int:=if 50<l.length then 3 else if IX l=true then 0 else 3
theorem Zrn (l:List ByteArray)(hl:l.length<=1000000):aD prog 36 [bS l,.fn 35 [] []] (.bool (IX l)):=by
 have h:=Zuc (l.map .str) 35 [] [] (fun x=>match x with
  |.str s=>decide (s.size<=200)
  |_=>false) (fun x hx=>by
   obtain⟨s,_,rfl⟩:=iL.1 hx;exact ZsG s) (by rw[fQ];exact hl) (fun x hx=>by
   obtain⟨s,_,rfl⟩:=iL.1 hx;exact⟨s,rfl⟩)
 rw[List.all_map]at h;exact h
theorem WR (l:List ByteArray)(hl:l.length<=1000000):aD prog 17 [bS l] (.i (yX l)):=by
 have ha:=Zrn l hl;refine cS L17 ?_;unfold yX;by_cases h:50<l.length
 .have h':(50:Int)<(l.length:Int):=by omega
  simp[L17,bS,h,h']
 .have h':¬(50:Int)<(l.length:Int):=by omega
  unfold bS at ha;cases hf:IX l with
  |true=>
   rw[hf]at ha;simp[L17,bS,h,h'];refine gG (k:=4) (fs:=[]) (xs:=[.aE false 1 (l.map .str),.fn 35 [] []]) (cs:=[]) rfl rfl ha rfl ?_;simp
  |false=>
   rw[hf]at ha;simp[L17,bS,h,h'];refine gG (k:=4) (fs:=[]) (xs:=[.aE false 1 (l.map .str),.fn 35 [] []]) (cs:=[]) rfl rfl ha rfl ?_;simp
section
def dg (n:Nat):Nat:=48+n%10
def nA (many i:Int)(n:Nat)(c0 c1 c2 c3 c4:Nat):AS:=
 ⟨[(0,.pv (.i n)),(1,.pv (.i many)),(5,.ptr (.loc 5 0) 0),(6,.pv (.i i))],[(.loc 5 0,.cells [.pv (.int .u8 c0),.pv (.int .u8 c1),.pv (.int .u8 c2),.pv (.int .u8 c3),.pv (.int .u8 c4)])]⟩
attribute [local simp] Pd wr1 Il wr3 Ik Ij
theorem j8:IntKind.i64.wrap (-1) = -1:=by decide
theorem dq (n:Nat)(hn:n<1000000000000):IntKind.i64.wrap ((n:Int) / 10)=((n / 10:Nat):Int):=by rw[wrap64 (by omega)];omega
theorem dr (n:Nat):IntKind.u8.wrap (IntKind.i64.wrap (48+(n:Int).tmod 10))=((dg n:Nat):Int):=by
 have h:(n:Int).tmod 10=((n%10:Nat):Int):=by rw[Int.tmod_eq_emod_of_nonneg (by omega)];rfl
 rw[h,wrap64 (by omega),show IntKind.u8.wrap (48+((n%10:Nat):Int))=(48+((n%10:Nat):Int))%256 from rfl];unfold dg;omega
theorem ZiH (n:Nat)(hn:n<1000000):aD prog 114 [.i n,.i 3] (.str ⟨#[.ofNat (dg (n / 10 / 10)),.ofNat (dg (n / 10)),.ofNat (dg n)]⟩):=by
 refine cS L114 ?_;simp[L114];refine dY (fun m τ=>(m=3/\τ=nA 3 2 n 0 0 0 0 0)\/(m=2/\τ=nA 3 1 (n / 10) 0 0 (dg n) 0 0)\/(m=1/\τ=nA 3 0 (n / 10 / 10) 0 (dg (n / 10)) (dg n) 0 0)\/(m=0/\τ=nA 3 (-1) (n / 10 / 10 / 10) (dg (n / 10 / 10)) (dg (n / 10)) (dg n) 0 0)) ⟨3,nA 3 2 n 0 0 0 0 0,Sub.mk (by simp[nA]) (by simp[nA]),.inl ⟨rfl,rfl⟩⟩ ?_;rintro J hJ m τ (⟨rfl,rfl⟩|⟨rfl,rfl⟩|⟨rfl,rfl⟩|⟨rfl,rfl⟩)
 .have hj:=hJ 2 _ (.inr (.inl ⟨rfl,rfl⟩));have h1:=dq n (by omega);have h2:=dr n;simp[nA,cO,aP,h1,h2];exact⟨_,_,by decide,Sub.mk (by simp) (by simp),hj⟩
 .have hj:=hJ 1 _ (.inr (.inr (.inl ⟨rfl,rfl⟩)));have h1:=dq (n / 10) (by omega);have h2:=dr (n / 10);generalize n / 10=k at hj h1 h2 ⊢;simp[nA,setAt,cO,aP,h1,h2];exact⟨_,_,by decide,Sub.mk (by simp[nA]) (by simp[nA]),hj⟩
 .have hj:=hJ 0 _ (.inr (.inr (.inr ⟨rfl,rfl⟩)));have h1:=dq (n / 10 / 10) (by omega);have h2:=dr (n / 10 / 10);generalize n / 10 / 10=k at hj h1 h2 ⊢;simp[nA,setAt,cO,aP,h1,h2,j8];exact⟨_,_,by decide,Sub.mk (by simp[nA]) (by simp[nA]),hj⟩
 .simp[nA,setAt,cO,aP,OW,AS.cH,AV.cH,AV.bB,aL.cH,EB,NU]
theorem Zoq (n:Nat)(hn:n<1000000):aD prog 114 [.i n,.i 5] (.str ⟨#[.ofNat (dg (n / 10 / 10 / 10 / 10)),.ofNat (dg (n / 10 / 10 / 10)),.ofNat (dg (n / 10 / 10)),.ofNat (dg (n / 10)),.ofNat (dg n)]⟩):=by
 refine cS L114 ?_;simp[L114];refine dY (fun m τ=>(m=5/\τ=nA 5 4 n 0 0 0 0 0)\/(m=4/\τ=nA 5 3 (n / 10) 0 0 0 0 (dg n))\/(m=3/\τ=nA 5 2 (n / 10 / 10) 0 0 0 (dg (n / 10)) (dg n))\/(m=2/\τ=nA 5 1 (n / 10 / 10 / 10) 0 0 (dg (n / 10 / 10)) (dg (n / 10)) (dg n))\/(m=1/\τ=nA 5 0 (n / 10 / 10 / 10 / 10) 0 (dg (n / 10 / 10 / 10)) (dg (n / 10 / 10)) (dg (n / 10)) (dg n))\/(m=0/\τ=nA 5 (-1) (n / 10 / 10 / 10 / 10 / 10) (dg (n / 10 / 10 / 10 / 10)) (dg (n / 10 / 10 / 10)) (dg (n / 10 / 10)) (dg (n / 10)) (dg n))) ⟨5,nA 5 4 n 0 0 0 0 0,Sub.mk (by simp[nA]) (by simp[nA]),.inl ⟨rfl,rfl⟩⟩ ?_;rintro J hJ m τ (⟨rfl,rfl⟩|⟨rfl,rfl⟩|⟨rfl,rfl⟩|⟨rfl,rfl⟩|⟨rfl,rfl⟩|⟨rfl,rfl⟩)
 .have hj:=hJ 4 _ (.inr (.inl ⟨rfl,rfl⟩));have h1:=dq (n) (by omega);have h2:=dr (n);simp[nA,setAt,cO,aP,h1,h2,OW,UC,j8];exact⟨_,_,by decide,Sub.mk (by simp[nA]) (by simp[nA]),hj⟩
 .have hj:=hJ 3 _ (.inr (.inr (.inl ⟨rfl,rfl⟩)));have h1:=dq (n / 10) (by omega);have h2:=dr (n / 10);generalize n / 10=k at hj h1 h2 ⊢;simp[nA,setAt,cO,aP,h1,h2,OW,UC,j8];exact⟨_,_,by decide,Sub.mk (by simp[nA]) (by simp[nA]),hj⟩
 .have hj:=hJ 2 _ (.inr (.inr (.inr (.inl ⟨rfl,rfl⟩))));have h1:=dq (n / 10 / 10) (by omega);have h2:=dr (n / 10 / 10);generalize n / 10 / 10=k at hj h1 h2 ⊢;simp[nA,setAt,cO,aP,h1,h2,OW,UC,j8];exact⟨_,_,by decide,Sub.mk (by simp[nA]) (by simp[nA]),hj⟩
 .have hj:=hJ 1 _ (.inr (.inr (.inr (.inr (.inl ⟨rfl,rfl⟩)))));have h1:=dq (n / 10 / 10 / 10) (by omega);have h2:=dr (n / 10 / 10 / 10);generalize n / 10 / 10 / 10=k at hj h1 h2 ⊢;simp[nA,setAt,cO,aP,h1,h2,OW,UC,j8];exact⟨_,_,by decide,Sub.mk (by simp[nA]) (by simp[nA]),hj⟩
 .have hj:=hJ 0 _ (.inr (.inr (.inr (.inr (.inr (⟨rfl,rfl⟩))))));have h1:=dq (n / 10 / 10 / 10 / 10) (by omega);have h2:=dr (n / 10 / 10 / 10 / 10);generalize n / 10 / 10 / 10 / 10=k at hj h1 h2 ⊢;simp[nA,setAt,cO,aP,h1,h2,OW,UC,j8];exact⟨_,_,by decide,Sub.mk (by simp[nA]) (by simp[nA]),hj⟩
 .simp[nA,setAt,cO,aP,nI5,AS.cH,AV.cH,AV.bB,aL.cH,EB,NU]
end
def sW:List UInt8->Nat->Nat
 |[],_=>0
 |b::r,j=>(j+1)*(b.toNat+1)+sW r (j+1)
theorem ZiL {b:UInt8}:∀{l:List UInt8} {j:Nat},sW (l++[b]) j=sW l j+(j+l.length+1)*(b.toNat+1)
 |[],j=>by simp[sW]
 |x::l,j=>by
  simp only[List.cons_append,sW,pA];rw[ZiL (l:=l),show j+1+l.length+1=j+(l.length+1)+1 by omega];omega
theorem Zk:∀{l:List UInt8} {j:Nat},sW l j<=l.length*((j+l.length)*256)
 |[],j=>by simp[sW]
 |x::l,j=>by
  have ih:=Zk (l:=l) (j:=j+1);have hx:x.toNat+1<=256:=x.toNat_lt;simp only[sW,pA];have h1:(j+1)*(x.toNat+1)<=(j+(l.length+1))*256:=Nat.mul_le_mul (by omega) hx;have h2:l.length*((j+1+l.length)*256)=l.length*((j+(l.length+1))*256):=by rw[show j+1+l.length=j+(l.length+1) by omega]
  have e:(l.length+1)*((j+(l.length+1))*256)=(j+(l.length+1))*256+l.length*((j+(l.length+1))*256):=by rw[Nat.succ_mul,Nat.add_comm]
  rw[e];exact Nat.add_le_add h1 (lJ ih (Nat.le_of_eq h2))
def rQ (s:ByteArray)(i:Nat):Nat:=11*(i+1)+sW s.data.toList 0
def uC (n:Nat):ByteArray:=⟨#[.ofNat (dg (n / 10 / 10)),.ofNat (dg (n / 10)),.ofNat (dg n)]⟩
def s3 (n:Nat):ByteArray:=⟨#[.ofNat (dg (n / 10 / 10 / 10 / 10)),.ofNat (dg (n / 10 / 10 / 10)),.ofNat (dg (n / 10 / 10)),.ofNat (dg (n / 10)),.ofNat (dg n)]⟩
def A9 (s:ByteArray)(i:Nat):ByteArray:=⟨#[123]⟩++uC s.size++⟨#[58]⟩++uC (999-s.size)++⟨#[58]⟩++s3 (rQ s i%99991)++⟨#[125]⟩++s++⟨#[10]⟩
def YQ (s:ByteArray)(i k:Nat):AS:=⟨[(0,.pv (.str s)),(5,.pv (.i ((11*(i+1)+sW (s.data.toList.take k) 0:Nat):Int))),(12,.pv (.aE false 1 (qE s))),(13,.pv (.i s.size)),(14,.pv (.i (k:Int)))],[]⟩
theorem ZpB (s:ByteArray)(i:Nat)(hs:s.size<=999)(hi:i<=1000):aD prog 70 [.str s,.i i] (.str (A9 s i)):=by
 refine V1 L70 ?_;intro R hR;have fG:s.data.toList.length=s.size:=rfl;have xJ:(qE s).length=s.size:=by simp[qE]
 have G4:IntKind.i64.wrap ((i:Int)+1)=(i:Int)+1:=wrap64 (by omega);have pV:IntKind.i64.wrap (11*((i:Int)+1))=11*((i:Int)+1):=wrap64 (by omega);have PQ:s.size<=1000000:=by omega
 simp[L70,G4,pV,PQ,xJ,aP];refine dY (fun m τ=>∃k:Nat,k<=s.size/\m=s.size-k/\τ=YQ s i k) ⟨s.size,YQ s i 0,Sub.mk (by simp[sW]) (by simp),0,fT _,rfl,rfl⟩ ?_;rintro J hJ m τ ⟨k,hk,rfl,rfl⟩;by_cases aI:k<s.size
 .obtain⟨b,hx⟩:∃b,s.data.toList[k]?=some b:=⟨s.data.toList[k]'(by omega),aX _⟩;have hg:(qE s)[k]?=some (.int .u8 b.toNat):=by
   unfold qE;rw[bR,hx];rfl
  have hn:=hJ (s.size-(k+1)) _ ⟨k+1,aI,rfl,rfl⟩;unfold YQ at hn;have iH:s.data.toList.take (k+1)=s.data.toList.take k++[b]:=by rw[lX,hx];rfl
  rw[iH,ZiL,gI,Nat.min_eq_left (by omega)]at hn;have gS:=Zk (l:=s.data.toList.take k) (j:=0);rw[gI,Nat.min_eq_left (by omega)]at gS;have sS:b.toNat+1<=256:=b.toNat_lt;have QF:k*((0+k)*256)<=999*(999*256):=Nat.mul_le_mul (by omega) (by omega);have UW:(0+k+1)*(b.toNat+1)<=1000*256:=Nat.mul_le_mul (by omega) sS;unfold YQ;generalize sW (s.data.toList.take k) 0=C at hn gS ⊢;have sL:=bA (k:=k) (by omega);have hw3:IntKind.i64.wrap ((b.toNat:Int)+1)=(b.toNat:Int)+1:=wrap64 (by omega);have T6:((k:Int)+1)*((b.toNat:Int)+1)=(((0+k+1)*(b.toNat+1):Nat):Int):=by rw[rT];rfl
  have PI:IntKind.i64.wrap (b.toNat:Int)=b.toNat:=wrap64 (by omega);generalize(0+k+1)*(b.toNat+1)=P at hn UW T6;have ZX:IntKind.i64.wrap (((k:Int)+1)*((b.toNat:Int)+1))=P:=by rw[T6];exact wrap64 (by omega)
  have hw5:IntKind.i64.wrap (11*((i:Int)+1)+(C:Int)+(P:Int))=11*((i:Int)+1)+((C:Int)+(P:Int)):=by rw[wrap64 (by omega)];omega
  simp[aI,↓hg,sL,hw3,ZX,hw5,PI];exact⟨_,_,(by omega:s.size-(k+1)<s.size-k),Sub.mk (by simp) (by simp),hn⟩
 .have he:k=s.size:=by omega
  subst he;have gS:=Zk (l:=s.data.toList) (j:=0);rw[fG]at gS;have QF:s.size*((0+s.size)*256)<=999*(999*256):=Nat.mul_le_mul (by omega) (by omega);unfold YQ;rw[fH (by omega)];have h1:aD prog 114 [.i s.size,.i 3] (.str (uC s.size)):=ZiH s.size (by omega);have h2:aD prog 114 [.i ((999-s.size:Nat):Int),.i 3] (.str (uC (999-s.size))):=ZiH (999-s.size) (by omega);have h3:aD prog 114 [.i ((rQ s i%99991:Nat):Int),.i 5] (.str (s3 (rQ s i%99991))):=Zoq (rQ s i%99991) (by omega);have z1:(uC s.size).size=3:=rfl;have z2:(uC (999-s.size)).size=3:=rfl;have z3:(s3 (rQ s i%99991)).size=5:=rfl;have nG:A9 s i=⟨#[123]⟩++uC s.size++⟨#[58]⟩++uC (999-s.size)++⟨#[58]⟩++s3 (rQ s i%99991)++⟨#[125]⟩++s++⟨#[10]⟩:=rfl;have q1:(⟨#[123]⟩:ByteArray).size=1:=rfl;have q2:(⟨#[58]⟩:ByteArray).size=1:=rfl;have q3:(⟨#[125]⟩:ByteArray).size=1:=rfl;have q4:(⟨#[10]⟩:ByteArray).size=1:=rfl;rw[nG]at hR;have hw6:IntKind.i64.wrap (999-(s.size:Int))=((999-s.size:Nat):Int):=by rw[wrap64 (by omega)];omega
  have tD:(11*(i+1)+sW s.data.toList 0:Nat)=rQ s i:=rfl;rw[tD];have II:rQ s i<=1000000000:=by unfold rQ;omega
  have yH:(rQ s i:Int).tmod 99991=((rQ s i%99991:Nat):Int):=by rw[Int.tmod_eq_emod_of_nonneg (by omega)];rfl
  clear nG tD;generalize s3 (rQ s i%99991)=D5 at h3 z3 hR;generalize uC s.size=D1 at h1 z1 hR;generalize uC (999-s.size)=D2 at h2 z2 hR;generalize rQ s i=C at h3 yH;simp;refine cG [.i s.size,.i 3] h1 ?_;simp[ByteArray.size_append,z1,q1,q2,hw6,aP];refine cG [.i ((999-s.size:Nat):Int),.i 3] h2 ?_;simp[ByteArray.size_append,z1,z2,q1,q2,yH,aP];refine cG [.i ((C%99991:Nat):Int),.i 5] h3 ?_;have qN:15+s.size<=9223372036854775807:=by omega
  have Cj:15+s.size+1<=9223372036854775807:=by omega
  simp[ByteArray.size_append,z1,z2,z3,q1,q2,q3,q4,aP,qN,Cj];rw[<-hR];exact⟨rfl,rfl⟩
theorem Zvc (a b:ByteArray):(a++b).data.toList=a.data.toList++b.data.toList:=by
 rw[ByteArray.data_append,Array.toList_append]
def n7 (s:ByteArray)(i:Nat):List UInt8:=(A9 s i).data.toList
def Uq (s:ByteArray)(i:Nat):List UInt8:=58::((uC (999-s.size)).data.toList++58::((s3 (rQ s i%99991)).data.toList++[125]))
theorem ZsU (s:ByteArray)(i:Nat):n7 s i=123::((uC s.size).data.toList++(Uq s i++(s.data.toList++[10]))):=by
 unfold n7 A9 Uq;simp only[Zvc,I0];rfl
theorem ZtF (s:ByteArray)(i:Nat):(Uq s i).length=11:=rfl
theorem Zkx (s:ByteArray)(i:Nat):(n7 s i).length=16+s.size:=by
 rw[ZsU,pA,gE,gE,ZtF,gE];show 3+(11+(s.size+1))+1=16+s.size;omega
def kD:List ByteArray->Nat->List UInt8
 |[],_=>[]
 |s::r,i=>n7 s i++kD r (i+1)
theorem ZgK {s:ByteArray}:∀{l:List ByteArray} {i:Nat},kD (l++[s]) i=kD l i++n7 s (i+l.length)
 |[],i=>by simp[kD]
 |x::l,i=>by
  simp only[List.cons_append,kD,pA];rw[ZgK (l:=l),I0,show i+1+l.length=i+(l.length+1) by omega]
structure Wk where
 aA:List Ct
 bad:List Int
 aJ:List Lt
 aG:List Tt
 runs:List Qn.Rq
def Wk.box (w:Wk):aL:=aO (aK w.aA) (bG w.bad) (aU w.aJ) (bE w.aG) (dI w.runs)
def jW:Wk:=⟨[],[],[],[],[]⟩
def Fg (I:Nat->Wk->Prop)(D:Wk->ByteArray->Wk×Int):Prop:=∀k st s,k<150->I k st->s.size<=200->I (k+1) (D st s).1/\cN prog 37 [.ptr (.par 0) 0,.pv (.str s)] [(.par 0,st.box)] (fun r B=>r=.pv (.i (D st s).2)/\B=[(.par 0,(D st s).1.box)])
def dA (D:Wk->ByteArray->Wk×Int):Wk->List ByteArray->Wk×List Int
 |st,[]=>(st,[])
 |st,s::l=>((dA D (D st s).1 l).1,(D st s).2::(dA D (D st s).1 l).2)
theorem ZeD {D:Wk->ByteArray->Wk×Int}{s:ByteArray}:∀{l:List ByteArray} {st:Wk},dA D st (l++[s])=((D (dA D st l).1 s).1,(dA D st l).2++[(D (dA D st l).1 s).2])
 |[],st=>rfl
 |x::l,st=>by
  simp only[List.cons_append,dA];rw[ZeD (l:=l)]
theorem Hk {D:Wk->ByteArray->Wk×Int}:∀{l:List ByteArray} {st:Wk},(dA D st l).2.length=l.length
 |[],st=>rfl
 |x::l,st=>by simp only[dA,pA,Hk (l:=l)]
theorem Hj {D:Wk->ByteArray->Wk×Int}{I:Nat->Wk->Prop}(hN:Fg I D):∀{l:List ByteArray} {k:Nat} {st:Wk},k+l.length<=150->I k st->(∀s∈l,s.size<=200)->I (k+l.length) (dA D st l).1
 |[],k,st,_,h,_=>h
 |x::l,k,st,hk,h,hl=>by
  rw[pA]at hk
  have:=Hj hN (l:=l) (k:=k+1) (by omega) (hN k st x (by omega) h (hl x (List.mem_cons_self ..))).1 (fun s hs=>hl s (List.mem_cons_of_mem _ hs))
  rw[show k+1+l.length=k+(x::l).length by rw[pA];omega]at this;exact this
def iE (n:Int):PV:=.i n
def GY (L:List ByteArray)(W:aL)(es:List Int)(k:Nat):AS:=
 ⟨[(4,.ptr (.loc 9 0) 0),(5,.vec (.loc 21 0) 1 0 es.length),(10,.pv (.aE false 1 (L.map .str))),(11,.pv (.i L.length)),(12,.pv (.i (k:Int)))],
  [(.loc 9 0,W),(.loc 21 0,.arr 33 1 (es.map iE))]⟩
theorem FR (k:Nat):AV.Wk (.pv (.emp (some true))) (.pv (.aE false k [])):=KU fun m v h=>AM h
theorem Xx {I:Nat->Wk->Prop}{D:Wk->ByteArray->Wk×Int}(hN:Fg I D)(h0:I 0 jW)(L:List ByteArray)(hl:L.length<=150)(hs:∀s∈L,s.size<=200):
  cN prog 18 [.pv (bS L)] [] (fun r B=>r=.bM [.ptr (.ret 0) 0,.vec (.ret 1) 1 0 L.length]/\B=[(.ret 0,(dA D jW L).1.box),(.ret 1,.arr 33 1 ((dA D jW L).2.map iE))]):=by
 refine O2 [.loc 9 0,.loc 21 0] L18 ?_;intro R hR;simp[L18,bS];refine dY (fun m τ=>∃k:Nat,k<=L.length/\m=L.length-k/\τ=GY L (dA D jW (L.take k)).1.box (dA D jW (L.take k)).2 k) ⟨L.length,GY L jW.box [] 0,?_,0,fT _,rfl,rfl⟩ ?_
 .refine Sub.trans' ?_ (cT 21 33 1 5 rfl (by decide));refine Sub.trans' ?_ (Sub.aY (s:=.loc 9 0) (i:=0) _ rfl rfl (FR 7));refine Sub.trans' ?_ (Sub.aY (s:=.loc 9 0) (i:=1) _ rfl rfl (FR 1));refine Sub.trans' ?_ (Sub.aY (s:=.loc 9 0) (i:=2) _ rfl rfl (FR 4));refine Sub.trans' ?_ (Sub.aY (s:=.loc 9 0) (i:=3) _ rfl rfl (FR 4));refine Sub.trans' ?_ (Sub.aY (s:=.loc 9 0) (i:=4) _ rfl rfl (FR 3));exact Sub.mk (by simp[AS.cT]) (by simp[AS.cT,Wk.box,jW,aO,aK,bG,aU,bE,dI])
 rintro J hJ m τ ⟨k,hk,rfl,rfl⟩;have qA:=Hk (D:=D) (l:=L.take k) (st:=jW);rw[gI,Nat.min_eq_left hk]at qA;by_cases aI:k<L.length
 .obtain⟨s,hx⟩:∃s,L[k]?=some s:=⟨L[k],aX aI⟩;have gU:s∈L:=dL hx;have hg:(L.map PV.str)[k]?=some (.str s):=by rw[bR,hx];rfl
  have iH:L.take (k+1)=L.take k++[s]:=by rw[lX,hx];rfl
  have hinv:=Hj hN (l:=L.take k) (st:=jW) (by rw[gI];omega) h0 (fun s Z5=>hs s (List.mem_of_mem_take Z5));have hn:=hJ (L.length-(k+1)) _ ⟨k+1,aI,rfl,rfl⟩;rw[iH,ZeD]at hn;have hc:=(hN _ _ s (by rw[gI];omega) hinv (hs s gU)).2;have hw:=bA (k:=k) (by omega);have h1:(dA D jW (L.take k)).2.length+1<=1000000:=by omega
  have aH:L.length-(k+1)<L.length-k:=by omega
  generalize dA D jW (L.take k)=q at hn hc h1 ⊢;obtain⟨st,es⟩:=q;dsimp only at hn hc h1 ⊢;generalize D st s=q' at hn hc;obtain⟨st',e⟩:=q';dsimp only at hn hc;simp[GY,aI,↓hg,Wk.box,aO];refine cM [.ptr (.par 0) 0,.pv (.str s)] [(.par 0,st.box)] 19 [.loc 9 0] (by simp[Wk.box,aO]) hc (by simp[Wk.box,aO]) ?_;simp[Wk.box,aO,h1,aP,hw];exact⟨_,_,aH,Sub.mk (by simp) (by simp[Wk.box,aO,iE]),hn⟩
 .have he:k=L.length:=by omega
  subst he;rw[nC]at qA ⊢;simp[GY,Wk.box,aO,qA];rw[<-hR];exact⟨rfl,by simp[Wk.box,aO]⟩
theorem Gv {f:FuncId}{n:Nat}(e b:Nat)(l:List PV)(hl:l.length<=1000000)(hL:fV prog f=some (UI e n b):=by kernel_rfl)(hb:b<=1000:=by decide)(hn:0<n:=by decide):aD prog f [.aE false n l] (.aE false n l):=by
 cases l with
 |nil=>
  refine cN.j4 ?_;refine Oj [.loc 7 0] mixed hL (tG rfl) ?_;simp[UI,dH,x3,aP,bY,B4,hn,hb];exact fun m v h=>AM h
 |cons a l=>
  refine Oj [.loc 7 0] mixed hL (tG rfl) ?_;have h1:l.length+1<=1000000:=by simpa using hl
  have h2:l.length<=999999:=by omega
  have hm:List.take l.length l=l:=fH (fE _);simp[UI,dH,aP,h2,hm,hn,hb]
theorem ZjC (l:List PV)(hl:l.length<=1000000):aD prog 40 [.aE false 1 l] (.aE false 1 l):=Gv 3 8 l hl
theorem Zl1 (l:List PV)(hl:l.length<=1000000):aD prog 39 [.aE false 7 l] (.aE false 7 l):=Gv 76 56 l hl
theorem Zl0 (l:List PV)(hl:l.length<=1000000):aD prog 41 [.aE false 4 l] (.aE false 4 l):=Gv 77 32 l hl
theorem ZlZ (l:List PV)(hl:l.length<=1000000):aD prog 42 [.aE false 4 l] (.aE false 4 l):=Gv 78 32 l hl
theorem Zl2 (l:List PV)(hl:l.length<=1000000):aD prog 38 [.aE false 1 l] (.aE false 1 l):=Gv 4 1 l hl
def Wk.pv (w:Wk):PV:=.agg [aK w.aA,bG w.bad,aU w.aJ,bE w.aG,dI w.runs]
def Dy (w:Wk)(k:Nat):AS:=
 ⟨[(1,.ptr (.loc 1 0) 0),(2,.ptr (.loc 2 0) 0),(3,.vec (.loc 23 0) 3 0 k),(7,.pv (.aE false 3 (w.runs.map Qn.Rq.pv))),(8,.pv (.i w.runs.length)),(9,.pv (.i (k:Int)))],
  [(.loc 1 0,.cells [.pv (aK w.aA),.pv (bG w.bad),.pv (aU w.aJ),.pv (bE w.aG),.pv (dI w.runs)]),(.loc 2 0,.cells [.pv (.emp (some true)),.pv (.emp (some true)),.pv (.emp (some true)),.pv (.emp (some true)),.pv (.emp (some true))]),(.loc 23 0,.arr 79 3 ((w.runs.take k).map Qn.Rq.pv))]⟩
theorem ZqC (w:Wk)(h1:w.aA.length<=1000)(h2:w.bad.length<=1000)(h3:w.aJ.length<=1000)(h4:w.aG.length<=1000)(h5:w.runs.length<=1000)(h6:∀r∈w.runs,r.on.length<=1000):aD prog 19 [w.pv] w.pv:=by
 refine O1 [.loc 23 0] L19 ?_;intro R hR;simp[L19,Wk.pv,dI];refine dY (fun m τ=>∃k:Nat,k<=w.runs.length/\m=w.runs.length-k/\τ=Dy w k) ⟨w.runs.length,Dy w 0,Sub.trans' (Sub.mk (by simp[AS.cT]) (by simp[AS.cT,dI])) (cT 23 79 3 3 rfl (by decide)),0,fT _,rfl,rfl⟩ ?_;rintro J hJ m τ ⟨k,hk,rfl,rfl⟩;by_cases aI:k<w.runs.length
 .obtain⟨r,hx⟩:∃r,w.runs[k]?=some r:=⟨w.runs[k],aX aI⟩;have hg:(w.runs.map Qn.Rq.pv)[k]?=some r.pv:=by rw[bR,hx];rfl
  simp only[Qn.Rq.pv,Qn.X3]at hg;have Q2:=h6 r (dL hx);have hw:=bA (k:=k) (by omega);have iB:k+1<=1000000:=by omega
  have QB:min k w.runs.length=k:=Nat.min_eq_left (by omega);have hn:=hJ (w.runs.length-(k+1)) _ ⟨k+1,aI,rfl,rfl⟩;unfold Dy at hn;rw[lX,hx,lI]at hn;simp[Dy,aI,↓hg,aP];refine cQ [] [.aE false 1 (r.on.map .bool)] (Zl2 (r.on.map .bool) (by rw[fQ];omega)) ?_;simp[-List.map_take,aM,aP,iB,QB,hw];exact⟨_,_,(by omega:w.runs.length-(k+1)<w.runs.length-k),Sub.mk (by simp) (by simp[Qn.Rq.pv,Qn.X3]),hn⟩
 .have he:k=w.runs.length:=by omega
  subst he;have iH:w.runs.take w.runs.length=w.runs:=nC;simp[Dy,iH,aK];refine cQ [] [.aE false 7 (w.aA.map Ct.pv)] (Zl1 (w.aA.map Ct.pv) (by rw[fQ];omega)) ?_;simp[aM,bG];refine cQ [] [.aE false 1 (w.bad.map iP)] (ZjC (w.bad.map iP) (by rw[fQ];omega)) ?_;simp[aM,aU];refine cQ [] [.aE false 4 (w.aJ.map Lt.pv)] (Zl0 (w.aJ.map Lt.pv) (by rw[fQ];omega)) ?_;simp[aM,bE];refine .inl (cP [.loc 23 0] [.aE false 4 (w.aG.map Tt.pv)] (by simp) (by simp[aM,AS.cH,AV.cH,AV.bB,aL.cH]) (ZlZ (w.aG.map Tt.pv) (by rw[fQ];omega)) ?_);have htr:List.take w.runs.length (w.runs.map Qn.Rq.pv)=w.runs.map Qn.Rq.pv:=fH (by simp);simp[-List.map_take,aM,AS.cH,AV.cH,AV.bB,aL.cH,AS.tidy,htr,oH,bB];rw[<-hR];exact⟨by simp[Wk.pv,aK,bG,aU,bE,dI],by simp⟩
structure F4 (w:Wk):Prop where
 c:w.aA.length<=1000
 b:w.bad.length<=1000
 l:w.aJ.length<=900
 t:w.aG.length<=900
 r:w.runs.length<=1000
 lt:∀x∈w.aJ,vS x
 fit:zB w.aA w.bad w.aG
 on:∀r∈w.runs,r.on.length<=1000
theorem Ni {l:List ByteArray}(h:yX l=0):l.length<=50/\∀s∈l,s.size<=200:=by
 unfold yX at h;split at h
 .cases h
 .split at h
  .rename_i h1 h2;refine⟨by omega,fun s hs=>?_⟩
   have:=qZ.1 h2 s hs
   simpa using this
  .cases h
theorem Nj {l:List ByteArray}(h:yX l≠0):yX l=3:=by
 unfold yX at h ⊢;split
 .rfl
 .split
  .rename_i h1 h2;rw[if_neg h1,if_pos h2]at h;exact absurd rfl h
  .rfl
def n9 (D:Wk->ByteArray->Wk×Int)(L:List ByteArray):PV:=if yX L=0 then .bM [(dA D jW L).1.pv,.aE false 1 ((dA D jW L).2.map iE),.i 0]else .bM [jW.pv,.aE false 1 [],.i 3]
theorem Zvj {I:Nat->Wk->Prop}{D:Wk->ByteArray->Wk×Int}(hN:Fg I D)(h0:I 0 jW)(hI:∀k w,k<=50->I k w->F4 w)(L:List ByteArray)(hl:L.length<=1000000):aD prog 6 [bS L] (n9 D L):=by
 have tW:=WR L hl;refine cN.j4 ?_;refine O1 [.loc 15 1] L6 ?_;intro R hR;unfold n9 at hR;by_cases hc:yX L=0
 .obtain⟨Js,qV⟩:=Ni hc;rw[hc]at tW;have Q1:=Xx hN h0 L (by omega) qV;have cU:=hI _ _ (by omega) (Hj hN (l:=L) (by omega) h0 qV);have qA:=Hk (D:=D) (l:=L) (st:=jW);rw[if_pos hc]at hR;generalize dA D jW L=q at Q1 cU qA hR;obtain⟨w,es⟩:=q;dsimp only at Q1 cU qA hR;have mD:=ZqC w cU.c cU.b (by have:=cU.l;omega) (by have:=cU.t;omega) cU.r cU.on;simp[L6];refine cG [bS L] tW ?_;simp;refine .inl (R7 [] (fs:=[]) (xs:=[bS L]) (cs:=[]) (d:=15) rfl rfl Q1 ?_);rintro r B ⟨rfl,rfl⟩;refine⟨by simp[Wk.box,aO],?_⟩;simp[Wk.box,aO];have hm:List.take L.length (es.map iE)=es.map iE:=fH (by rw[fQ];omega);have hle:L.length<=es.length:=by omega
  refine .inl (cP [.loc 15 1] [w.pv] (by simp) (by simp[Wk.pv]) mD ?_);simp[Wk.pv,hm,hle];rw[<-hR];exact⟨_,rfl,by simp,fun m v h=>h⟩
 .have h3:=Nj hc;rw[h3]at tW;rw[if_neg hc]at hR;simp[L6];refine cG [bS L] tW ?_;simp;rw[<-hR];exact⟨_,rfl,rfl,GH 5 _ _ rfl⟩
def bP (l:List UInt8):List PV:=l.map fun b=>.int .u8 b.toNat
theorem Lf {l:List UInt8}:(bP l).length=l.length:=fQ _
theorem Zvd {a b:List UInt8}:bP (a++b)=bP a++bP b:=lI
theorem Zlc:∀{l:List ByteArray} {i:Nat},(∀s∈l,s.size<=200)->(kD l i).length<=216*l.length
 |[],i,_=>by simp[kD]
 |s::l,i,h=>by
  have h1:=Zlc (l:=l) (i:=i+1) (fun s hs=>h s (List.mem_cons_of_mem _ hs));have h2:=h s (List.mem_cons_self ..);simp only[kD,gE,Zkx,pA];omega
def Dm (L:List ByteArray)(F:List UInt8)(k:Nat):AS:=
 ⟨[(3,.vec (.loc 17 0) 1 0 F.length),(6,.pv (.aE false 1 (L.map .str))),(7,.pv (.i L.length)),(8,.pv (.i (k:Int)))],[(.loc 17 0,.arr 5 1 (bP F))]⟩
theorem Zu1 (L:List ByteArray)(hl:L.length<=1000)(hs:∀s∈L,s.size<=200):aD prog 34 [bS L] (.aE false 1 (bP (kD L 0))):=by
 refine O1 [.loc 17 0] L34 ?_;intro R hR;simp[L34,bS];refine dY (fun m τ=>∃k:Nat,k<=L.length/\m=L.length-k/\τ=Dm L (kD (L.take k) 0) k) ⟨L.length,Dm L [] 0,Sub.trans' (Sub.mk (by simp[AS.cT]) (by simp[AS.cT,bP])) (cT 17 5 1 3 rfl (by decide)),0,fT _,rfl,rfl⟩ ?_;rintro J hJ m τ ⟨k,hk,rfl,rfl⟩;by_cases aI:k<L.length
 .obtain⟨s,hx⟩:∃s,L[k]?=some s:=⟨L[k],aX aI⟩;have fG:=hs s (dL hx);have hg:(L.map PV.str)[k]?=some (.str s):=by rw[bR,hx];rfl
  have iH:L.take (k+1)=L.take k++[s]:=by rw[lX,hx];rfl
  have hn:=hJ (L.length-(k+1)) _ ⟨k+1,aI,rfl,rfl⟩;have qA:=Zlc (l:=L.take k) (i:=0) (fun s Z5=>hs s (List.mem_of_mem_take Z5));have oB:=ZpB s k (by omega) (by omega);have tT:=Zkx s k;rw[iH,ZgK,gI,Nat.min_eq_left hk,rT]at hn;rw[gI,Nat.min_eq_left hk]at qA;unfold n7 at hn tT;unfold Dm at hn;rw[Zvd,gE]at hn;have Ch:bP (A9 s k).data.toList=qE (A9 s k):=rfl;have xJ:(qE (A9 s k)).length=(A9 s k).data.toList.length:=Lf;rw[Ch,<-xJ]at hn;rw[<-xJ]at tT;generalize kD (L.take k) 0=F at hn qA ⊢;clear Ch xJ;generalize A9 s k=R at hn tT oB;have hw:=bA (k:=k) (by omega);have aH:L.length-(k+1)<L.length-k:=by omega
  have h1:F.length+(qE R).length<=1000000:=by omega
  simp[Dm,aI,↓hg];refine cG [.str s,.i k] oB ?_;simp[Lf,h1,hw,aP];exact⟨_,_,aH,Sub.mk (by simp) (by simp),hn⟩
 .have he:k=L.length:=by omega
  subst he;rw[nC];have hm:List.take (kD L 0).length (bP (kD L 0))=bP (kD L 0):=fH (by rw[Lf];exact fE _);simp[Dm,hm,Lf];rw[<-hR];exact⟨rfl,by simp⟩
def GK (L:List ByteArray):PV:=if yX L=0 then .bM [.aE false 1 (bP (kD L 0)),.i 0]else .bM [.aE false 1 [],.i 3]
theorem Zui (L:List ByteArray)(hl:L.length<=1000000):aD prog 15 [bS L] (GK L):=by
 have tW:=WR L hl;refine cN.j4 ?_;refine O1 [] L15 ?_;intro R hR;unfold GK at hR;by_cases hc:yX L=0
 .obtain⟨Js,qV⟩:=Ni hc;rw[hc]at tW;rw[if_pos hc]at hR;have hf:=Zu1 L (by omega) qV;simp[L15];refine cG [bS L] tW ?_;simp;refine .inl (cQ [] [bS L] hf ?_);simp;rw[<-hR];exact⟨_,rfl,by simp,fun m v h=>h⟩
 .have h3:=Nj hc;rw[h3]at tW;rw[if_neg hc]at hR;simp[L15];refine cG [bS L] tW ?_;simp;rw[<-hR];exact⟨_,rfl,rfl,GH 5 _ _ rfl⟩
section
open Go.RowKit Go.ChangeShapes Go.WideShapes Go.ChangeAt Go.Deep
section
variable {H:Type}{enc:TypeId×Value->H}{W:World}{sp:Nat->Bool}{held:Bool}{r:Reach}{base:Nat}
theorem Wm:prog.cellsOf 9=1:=by kernel_rfl
theorem ZsS {v:Value}{fuel:Nat}{x:DataW H×List MemPlace}(cU:Value.okWide prog W r base 22 v)(h:DataW.trod enc prog W 0 sp held fuel 22 v.cells.toList=some x):
  ∃L:List ByteArray,L.length<=9223372036854775807/\dG W.mem v (bS L):=by
 obtain⟨_,_,_,rfl⟩:=okWide_slice underlying22 cU;obtain⟨l,_,h1,h2⟩:=Znb (n:=1) PV.str (fun _=>True) underlying22 Wm (by omega) h (fun k cs y hy hl=>by
  obtain⟨s,rfl,_,_⟩:=DataW.trod_string underlying9 hy;exact⟨s,trivial,rfl,rfl,fun d hd=>by simp at hd;subst hd;rfl,fun j d c h1 h2=>by
   match j,h1,h2 with
   |0,h1,h2=>cases h1;cases h2;exact .str _⟩)
 exact⟨l,h1,h2⟩
end
theorem ZhW {W:World}{n:String}{g:Nat}{d:DataW Unit}{s:String}{x:DataW Unit}(hg:prog.globalNamed n=some g)(hy:(prog.globals[g]?).map (·.type)=some 89)(hd:d=.iface s x)(h:Lib.VarReads prog W n d):∃t p,W.mem g 0=some (.iface t p):=by
 subst hd;obtain⟨g',t,cs,fuel,p,Bp,Sc,T4,hd⟩:=h;obtain rfl:=Option.some.inj (hg.symm.trans Bp);obtain rfl:=Option.some.inj (hy.symm.trans Sc);obtain⟨f1,u,v,EZ,_,_⟩:=iface_of_trod underlying89 hd
 have:=World.var?_cell hg T4 0
 rw[<-O7,EZ]at this;exact⟨u,v,this⟩
theorem Zsf {W : World} (h : Lib.VarReads prog W "internal/strconv.uint64pow10" Rows.laid_internal_strconv_uint64pow10) : ∃ t fr, W.heap[0]? = some (.cells (Lib.pow10Tab.map (Value.int .u64)).toArray t fr) := by
 have e:(Rows.laid_internal_strconv_uint64pow10:DataW Unit)=Lib.tabData .u64 Lib.pow10Tab:=by rfl
 rw[e]at h;obtain⟨g,t,cs,fuel,p,hg,Sc,T4,hd⟩:=h;obtain rfl := Option.some.inj ((show prog.globalNamed "internal/strconv.uint64pow10" = some 0 by kernel_rfl).symm.trans hg);obtain rfl:=Option.some.inj ((show(prog.globals[0]?).map (·.type)=some 337 by kernel_rfl).symm.trans Sc);have EZ:=Lib.cells_of_tab underlying337 underlying290 (by kernel_rfl) (by kernel_rfl) hd;unfold World.var? at T4;rw[hg,Option.bind_some]at T4;split at T4
 .rename_i iK t fr hh;obtain rfl:=Option.some.inj T4;exact⟨t,fr,by rw[hh,<-EZ]⟩
 .cases T4
theorem ZtK {W : World} (hs : W.ShapedOpen prog) (h5 : Lib.VarReads prog W "internal/strconv.uint64pow10" Rows.laid_internal_strconv_uint64pow10) (h1 : Lib.VarReads prog W "strconv.ErrSyntax" Rows.laid_strconv_ErrSyntax) (h2 : Lib.VarReads prog W "strconv.ErrRange" Rows.laid_strconv_ErrRange) : nL W.mem W := by
 have h5:=Zsf h5;refine⟨Proofs.cell_of_shapedOpen_int (zero:=#[.i 0]) (t:=3) hs (of_decide_eq_true (by kernel_rfl)) (by kernel_rfl) rfl (by kernel_rfl) (by kernel_rfl) underlying3,
  ZhW (n := "strconv.ErrSyntax") (by kernel_rfl) (by kernel_rfl) rfl h1,
  ZhW (n := "strconv.ErrRange") (by kernel_rfl) (by kernel_rfl) rfl h2, ?_, h5⟩
 obtain⟨t,fr,h⟩:=h5;exact⟨_,(cell_of_row W _ 0 _ _ _ h).trans rfl⟩
end
section
open Go.RowKit Go.ChangeShapes Go.WideShapes Go.ChangeAt Go.Deep
theorem own:ownKnob prog.godebug=none:=by kernel_rfl
theorem LX:laidOutB prog=true:=by kernel_rfl
theorem Zry:mapsRowed prog=true:=by kernel_rfl
theorem Dl:((List.range prog.types.size).all fun t=>match prog.underlying t with|some (.slice e)=>decide (0<prog.cellsOf e)|_=>true)=true:=by kernel_rfl
theorem Zjw {H:Type}{enc:TypeId×Value->H}{a:Assume}{C:Checked}{os:Os}{f:FuncId}{fn:Func}{s:ChangeSpec}{conds:List PathCond}{apart fresh handsOn again:Bool}{X:World->Array Value->Prop}
  (hX:∀(w w':World) (args:Array Value),w.heap=w'.heap->X w args->X w' args)
  (own:ownKnob C.prog.godebug=none) (started:os.Started) (OU:C.prog.inits.idxOf? f=none) (pZ:C.prog.funcs[f]?=some fn)
  (witness:∃(w:World) (tape:Tape) (i:Input),w.os=os/\(w.forCall tape i).Shaped C.prog/\i.vars=[]/\Input.okWide C.prog (w.forCall tape i) .any w.heap.size f i/\
   ((s.pre enc C.prog fn conds apart (w.forCall tape i).memory i.args/\X (w.forCall tape i).memory i.args)/\sizedMet enc C.prog fn (OpenSpec.ofChange s) apart (w.forCall tape i).memory i.args)/\a.holds C.prog (lone (Frame.enter C.prog f i.args .normal) [] (w.forCall tape i)))
  (DJ:∀(W:World) (base:Nat) (args:Array Value) (ds gs:List (DataW H)) (before:List MemPlace),
   (∀(j:Nat) t v,fn.params[j]?=some t->args[j]?=some v->Value.okWide C.prog W .any base t v)->
   DataW.Whole enc C.prog fn.params.toList s.vars apart W args.toList ds gs before->X W args->W.ShapedOpen C.prog->
   Calls C.prog f args W fun e W'=>∃v,e=.returned v/\s.post enc C.prog fn apart fresh handsOn again W args v W'):
  ReturnsInHanded a C os f .any (fun w args=>(s.pre enc C.prog fn conds apart w args/\X w args)/\sizedMet enc C.prog fn (OpenSpec.ofChange s) apart w args) (s.post enc C.prog fn apart fresh handsOn again):=by
 refine returnsInHanded_of_calls own started OU witness ?_;intro w tape i _ HR _ cU St _;obtain⟨_,_,_,fn',Ul,_,_,_,_,nW⟩:=cU;have e:fn'=fn:=Option.some.inj (Ul.symm.trans pZ);subst e;obtain⟨⟨⟨ds,gs,before,hw,_⟩,hx⟩,_⟩:=St;have HL:=DataW.Whole.of_heap (w':=w.forCall tape i) (by rfl) hw;refine(DJ (w.forCall tape i) w.heap.size i.args ds gs before nW HL (hX _ _ _ (by rfl) hx) HR).mono fun e W' ⟨v,he,hp⟩=>?_
 subst he;exact ChangeSpec.post_blind hp
end
theorem Zu3 (u:Nat):u<10^(Lib.decDigits u).length:=by
 induction u using Nat.strongRecOn with
 |_ u ih=>
  unfold Lib.decDigits;split
  .simp;omega
  .have:=ih (u / 10) (by omega)
   rw[gE,List.length_singleton,Nat.pow_succ];omega
theorem Lg (u:Nat):∀c∈Lib.decDigits u,c≠45:=by
 have hd:∀d:Fin 10,UInt8.ofNat (48+d.1)≠45:=by decide
 induction u using Nat.strongRecOn with
 |_ u ih=>
  intro c hc;unfold Lib.decDigits at hc;split at hc
  .rename_i h;rw[rU]at hc;subst hc;exact hd ⟨u,h⟩
  .rcases sE.1 hc with h|h
   .exact ih (u / 10) (by omega) c h
   .rw[rU]at h;subst h;exact hd ⟨u%10,by omega⟩
theorem ZiI (u:Nat)(h:(Lib.decDigits u).length<=9):u<1000000000:=
 Nat.lt_of_lt_of_le (Zu3 u) (Nat.pow_le_pow_right (by decide) h)
theorem Zs7 {s:ByteArray}{v:Int}(h:lM s=some v):-1000000000<v/\v<1000000000:=by
 unfold lM at h;split at h
 .split at h
  .rename_i u _ hc;cases h;obtain⟨h1,h2⟩:=hc;subst h1;have h3:(Lib.trimPrefix (Lib.itoa v) [45]).length<=9:=h2;by_cases Te:v<0
   .obtain⟨k,rfl⟩:∃k:Nat,v = -(k:Int):=⟨v.natAbs,by omega⟩;rw[Lib.itoa_neg k (by omega)]at h3;have h4:Lib.trimPrefix (45::Lib.decDigits k) [45]=Lib.decDigits k:=by simp[Lib.trimPrefix,Lib.hasPrefix]
    rw[h4]at h3
    have:=ZiI k h3
    omega
   .obtain⟨k,rfl⟩:∃k:Nat,v=(k:Int):=⟨v.toNat,by omega⟩;rw[Lib.itoa_nonneg]at h3;have h4:Lib.trimPrefix (Lib.decDigits k) [45]=Lib.decDigits k:=by
     have mP:=Lg k;cases hd:Lib.decDigits k with
     |nil=>rfl
     |cons c r=>
      have hc:c≠45:=mP c (by rw[hd];exact List.mem_cons_self ..);simp[Lib.trimPrefix,Lib.hasPrefix]
      try exact fun e=>absurd e.symm hc
    rw[h4]at h3
    have:=ZiI k h3
    omega
  .cases h
 .cases h

def OZ (w:Wk)(n:Int)(t:Tt):Bool:=stM w.aA w.bad t.item t.day&&!stM w.aA (w.bad++[n]) t.item t.day
def W9 (w:Wk)(n:Int):Nat->List Int
 |0=>[]
 |k+1=>W9 w n k++(match w.aG[k]? with
  |some t=>if OZ w n t=true then[(k:Int)]else[]
  |none=>[])
theorem Zo2 {w:Wk}{n:Int}{k:Nat}{t:Tt}(h:w.aG[k]?=some t):W9 w n (k+1)=W9 w n k++(if OZ w n t=true then[(k:Int)]else[]):=by
 rw[W9,h]
theorem Zmj {w:Wk}{n:Int}:∀{k:Nat},(W9 w n k).length<=k
 |0=>fE _
 |k+1=>by
  have ih:=Zmj (w:=w) (n:=n) (k:=k);rw[W9,gE];split
  .split<;>simp<;>omega
  .simp;omega
def kn (w:Wk)(n:Int):Bool:=w.aA.any fun x=>decide (x.num=n)
def AX (D:Wk->ByteArray->Wk×Int)(L:List ByteArray)(n:Int):PV:=if yX L=0 then(if kn (dA D jW L).1 n=true then .bM [.aE false 1 ((W9 (dA D jW L).1 n (dA D jW L).1.aG.length).map iP),.i 0]else .bM [.aE false 1 [],.i 7])else .bM [.aE false 1 [],.i 3]
def OX (w:Wk)(n:Int):aL:=aO (aK w.aA) (bG (w.bad++[n])) (aU w.aJ) (bE w.aG) (dI w.runs)
def Io (w:Wk)(n:Int)(l:List Int)(k:Nat):AS:=
 ⟨[(7,.ptr (.loc 20 0) 0),(9,.ptr (.loc 32 0) 0),(10,.vec (.loc 67 0) 1 0 l.length),(48,.pv (.aE false 4 (w.aG.map Tt.pv))),(49,.pv (.i w.aG.length)),(50,.pv (.i (k:Int)))],
  [(.loc 20 0,w.box),(.loc 32 0,OX w n),(.loc 67 0,.arr 3 1 (l.map iP))]⟩
theorem Zj1 {I:Nat->Wk->Prop}{D:Wk->ByteArray->Wk×Int}(hN:Fg I D)(h0:I 0 jW)(hI:∀k w,k<=50->I k w->F4 w)(L:List ByteArray)(hl:L.length<=1000000)(n:Int)(hb9:∀k w,k<=50->I k w->w.bad.length<=900):aD prog 13 [bS L,.i n] (AX D L n):=by
 have tW:=WR L hl;refine cN.j4 ?_;refine O1 [.loc 67 0] L13 ?_;intro R hR;unfold AX at hR;by_cases hc:yX L=0
 .obtain⟨Js,qV⟩:=Ni hc;rw[hc]at tW;have Q1:=Xx hN h0 L (by omega) qV;have gA:=Hj hN (l:=L) (by omega) h0 qV;have cU:=hI _ _ (by omega) gA;have Uy:=hb9 _ _ (by omega) gA;clear gA;rw[if_pos hc]at hR;generalize dA D jW L=q at Q1 cU hR Uy;obtain⟨w,es⟩:=q;dsimp only at Q1 cU hR Uy;have hto:=cU.t;have N4:=Yw w.aA n (bG w.bad) (aU w.aJ) (bE w.aG) (dI w.runs) cU.c;have mC:(w.aA.any fun x=>decide (x.num=n))=kn w n:=rfl;rw[mC]at N4;clear mC;simp[L13];refine cG [bS L] tW ?_;simp;refine .inl (R7 [] (fs:=[]) (xs:=[bS L]) (cs:=[]) (d:=20) rfl rfl Q1 ?_);rintro r B ⟨rfl,rfl⟩;refine⟨by simp[Wk.box,aO],?_⟩;simp[Wk.box,aO];refine cM [.ptr (.par 0) 0,.pv (.i n)] [(.par 0,aO (aK w.aA) (bG w.bad) (aU w.aJ) (bE w.aG) (dI w.runs))] 25 [.loc 20 0] (by simp[aO]) N4 (by simp[aO]) ?_;cases hkv:kn w n with
  |false=>
   rw[hkv,if_neg (by simp)]at hR;simp[aO];rw[<-hR];exact⟨_,rfl,by simp,GH 5 _ _ rfl⟩
  |true=>
  rw[hkv,if_pos rfl]at hR;simp[aO,bG];refine .inl (cQ [] [.aE false 1 (w.bad.map iP),.i n] (Zl5 (w.bad.map iP) n (by rw[fQ];omega)) ?_);have H0:w.bad.map iP++[.i n]=(w.bad++[n]).map iP:=by rw[lI];rfl
  rw[H0];have DF:(w.bad++[n]).length<=1000:=by rw[gE];simp;omega
  simp[-List.map_append,bE];refine dY (fun m τ=>∃k:Nat,k<=w.aG.length/\m=w.aG.length-k/\τ=Io w n (W9 w n k) k) ⟨w.aG.length,Io w n [] 0,Sub.trans' (Sub.mk (by simp[AS.cT]) (by simp[-List.map_append,OX,AS.cT,Wk.box,aO,bE,bG,aK])) (cT 67 3 1 10 rfl (by decide)),0,fT _,rfl,rfl⟩ ?_;rintro J hJ m τ ⟨k,hk,rfl,rfl⟩;by_cases aI:k<w.aG.length
  .obtain⟨t,hx⟩:∃t,w.aG[k]?=some t:=⟨w.aG[k],aX aI⟩;have hg:(w.aG.map Tt.pv)[k]?=some t.pv:=by rw[bR,hx];rfl
   simp only[Tt.pv]at hg;have ET:=Gs w.aA w.bad (aU w.aJ) (bE w.aG) (dI w.runs) cU.c cU.b t.fU t.item t.day t.rd;have qV:=Gs w.aA (w.bad++[n]) (aU w.aJ) (bE w.aG) (dI w.runs) cU.c DF t.fU t.item t.day t.rd;have e1:decide (((fB w.aA w.bad).j5 t.item t.day).2=0)=stM w.aA w.bad t.item t.day:=rfl;have e2:decide (((fB w.aA (w.bad++[n])).j5 t.item t.day).2=0)=stM w.aA (w.bad++[n]) t.item t.day:=rfl;rw[e1]at ET;rw[e2]at qV;have hw:=bA (k:=k) (by omega);have p7:=Zmj (w:=w) (n:=n) (k:=k);have h1:(W9 w n k).length+1<=1000000:=by omega
   have hn:=hJ (w.aG.length-(k+1)) _ ⟨k+1,aI,rfl,rfl⟩;rw[Zo2 hx]at hn;unfold OZ at hn;have aH:w.aG.length-(k+1)<w.aG.length-k:=by omega
   clear e1 e2 hJ;generalize W9 w n k=RL at hn h1 ⊢;generalize stM w.aA w.bad t.item t.day=a1 at hn ET;generalize stM w.aA (w.bad++[n]) t.item t.day=a2 at hn qV;simp[-List.map_append,Io,OX,Wk.box,aO,bE,aI,↓hg,aP];refine cM [.ptr (.par 0) 0,.pv (.agg [.i t.fU,.i t.item,.i t.day,.i t.rd])] [(.par 0,aO (aK w.aA) (bG w.bad) (aU w.aJ) (bE w.aG) (dI w.runs))] 57 [.loc 20 0] (by simp[aO,bG,bE]) ET (by simp[aO]) ?_;cases a1 with
   |false=>
    rw[if_neg (by simp),wW]at hn;simp[-List.map_append,aO,hw];exact⟨_,_,aH,Sub.mk (by simp) (by simp[-List.map_append,OX,Wk.box,aO,bE,bG]),hn⟩
   |true=>
    simp[-List.map_append,aO];refine cM [.ptr (.par 0) 0,.pv (.agg [.i t.fU,.i t.item,.i t.day,.i t.rd])] [(.par 0,aO (aK w.aA) (bG (w.bad++[n])) (aU w.aJ) (bE w.aG) (dI w.runs))] 61 [.loc 32 0] (by simp[-List.map_append,aO,bG,bE]) qV (by simp[aO]) ?_;cases a2 with
    |false=>
     rw[if_pos (by simp)]at hn;simp[-List.map_append,aO,h1,aP,hw];exact⟨_,_,aH,Sub.mk (by simp) (by simp[-List.map_append,OX,Wk.box,aO,bE,bG];simp[iP]),hn⟩
    |true=>
     rw[if_neg (by simp),wW]at hn;simp[-List.map_append,aO,hw];exact⟨_,_,aH,Sub.mk (by simp) (by simp[-List.map_append,OX,Wk.box,aO,bE,bG]),hn⟩
  .have he:k=w.aG.length:=by omega
   subst he;have hm:List.take (W9 w n w.aG.length).length ((W9 w n w.aG.length).map iP)=(W9 w n w.aG.length).map iP:=fH (by simp);simp[-List.map_append,Io,OX,Wk.box,aO,hm];rw[<-hR];exact⟨_,rfl,by simp,fun m v h=>h⟩
 .have h3:=Nj hc;rw[h3]at tW;rw[if_neg hc]at hR;simp[L13];refine cG [bS L] tW ?_;simp;rw[<-hR];exact⟨_,rfl,rfl,GH 5 _ _ rfl⟩
def Wk.next (st:Wk)(r:Except Int Wk):Wk×Int:=match r with
 |.ok w=>(w,0)
 |.error e=>(st,e)
def uD (r:Except Int Wk)(a b c d e:PV):Prop:=∃w,r=.ok w/\aO a b c d e=w.box
theorem Zr1 {f:FuncId}{xs:List AV}{B:List (Site×aL)}{r:Except Int Wk}(h:sX prog f xs B (xX (uD r)) (uQ (fun e=>r=.error e))):
  cN prog f xs B (xX (uD r))\/v8 prog f xs B (uQ (fun e=>r=.error e)):=by
 cases r with
 |ok w=>exact .inl (h.ret (fun x B' ⟨n,_,h1,_⟩=>by cases h1))
 |error e=>exact .inr (h.B3 (fun r B' ⟨_,a,b,c,d,e',_,w,h1,_⟩=>by cases h1))
theorem ZuJ (st:Wk)(s:ByteArray)(r:Except Int Wk)(hl:sX prog 74 [.ptr (.par 0) 0,.pv (.str s)] [(.par 0,st.box)] (xX (uD r)) (uQ (fun e=>r=.error e))):
  cN prog 37 [.ptr (.par 0) 0,.pv (.str s)] [(.par 0,st.box)] (fun x B=>x=.pv (.i (st.next r).2)/\B=[(.par 0,(st.next r).1.box)]):=by
 cases r with
 |ok w=>
  refine Zta ((hl.ret (fun x B' ⟨n,_,h1,_⟩=>by cases h1)).mono ?_);rintro x B ⟨rfl,a,b,c,d,e,rfl,w',h1,h2⟩;cases h1;exact⟨rfl,by rw[h2];rfl⟩
 |error n=>
  refine Ztb ((hl.B3 (fun r B' ⟨_,a,b,c,d,e',_,w,h1,_⟩=>by cases h1)).mono ?_);rintro x B ⟨m,rfl,h1,a,b,c,d,e,rfl⟩;cases h1;exact⟨rfl,a,b,c,d,e,rfl⟩
def pT (tF:FuncId->List Int->Except Int Wk)(s:ByteArray):Except Int Wk:=match P0 s with
 |none=>.error 4
 |some (g,nums)=>tF g nums
theorem ZuR (st:Wk)(tF:FuncId->List Int->Except Int Wk)(s:ByteArray)(hs:s.size<=1000)
  (hw:∀g nums,P0 s=some (g,nums)->sX prog g [.ptr (.par 0) 0,.pv (.aE false 1 (nums.map iP))] [(.par 0,st.box)] (xX (uD (tF g nums))) (uQ (fun e=>tF g nums=.error e))):
  sX prog 74 [.ptr (.par 0) 0,.pv (.str s)] [(.par 0,st.box)] (xX (uD (pT tF s))) (uQ (fun e=>pT tF s=.error e)):=by
 refine ZuQ s hs (fun h=>?_) (fun g nums h=>?_)
 .unfold pT;rw[h]
 .have e:pT tF s=tF g nums:=by unfold pT;rw[h]
  rw[e];exact Zr1 (hw g nums h)
theorem ZuD (st:Wk)(n:Int)(hn:-1000000000<n/\n<1000000000)(h:F4 st)(hs:(st.aJ.map Lt.num).Pairwise (·<·)):
  sX prog 165 [.ptr (.par 0) 0,.pv (.aE false 1 [iP n])] [(.par 0,st.box)] (xX (uD ((jK (cW st.aA st.bad st.aG) st.aJ n).map fun l=>{ st with aJ:=l }))) (uQ (fun e=>(jK (cW st.aA st.bad st.aG) st.aJ n).map (fun l=>{ st with aJ:=l })=.error e)):=by
 refine(ZuC st.aA st.bad st.aJ st.aG (dI st.runs) n hn h.c h.b h.l h.t hs h.lt h.fit).mono ?_ ?_
 .rintro r B ⟨rfl,a,b,c,d,e,rfl,l',h1,rfl,rfl,rfl,rfl,rfl⟩;exact⟨rfl,_,_,_,_,_,rfl,{ st with aJ:=l' },by rw[h1];rfl,rfl⟩
 .rintro x B ⟨m,rfl,h1,h2⟩;exact⟨m,rfl,by rw[h1];rfl,h2⟩
theorem Zul (st:Wk)(q:Tt)(hn:-1000000000<q.fU/\q.fU<1000000000)(h:F4 st)(hs:(st.aJ.map Lt.num).Pairwise (·<·)):
  sX prog 164 [.ptr (.par 0) 0,.pv (.aE false 1 [iP q.fU,iP q.item,iP q.day,iP q.rd])] [(.par 0,st.box)] (xX (uD ((kP (stM st.aA st.bad) (cW st.aA st.bad st.aG) st.aJ st.aG q).map fun l=>{ st with aG:=l }))) (uQ (fun e=>(kP (stM st.aA st.bad) (cW st.aA st.bad st.aG) st.aJ st.aG q).map (fun l=>{ st with aG:=l })=.error e)):=by
 refine(Zuk st.aA st.bad st.aJ st.aG (dI st.runs) q hn h.c h.b h.l h.t hs h.lt h.fit).mono ?_ ?_
 .rintro r B ⟨rfl,a,b,c,d,e,rfl,l',h1,rfl,rfl,rfl,rfl,rfl⟩;exact⟨rfl,_,_,_,_,_,rfl,{ st with aG:=l' },by rw[h1];rfl,rfl⟩
 .rintro x B ⟨m,rfl,h1,h2⟩;exact⟨m,rfl,by rw[h1];rfl,h2⟩
theorem Zu7 (st:Wk)(x:Ct)(hl:st.aA.length<=900)(hb:st.bad.length<=1000):
  sX prog 161 [.ptr (.par 0) 0,.pv (.aE false 1 [iP x.num,iP x.it,iP x.src,iP x.day,iP x.valid,iP x.diff.lo,iP x.diff.hi])] [(.par 0,st.box)] (xX (uD ((mB st.aA st.bad x).map fun l=>{ st with aA:=l }))) (uQ (fun e=>(mB st.aA st.bad x).map (fun l=>{ st with aA:=l })=.error e)):=by
 refine(Zu6 st.aA st.bad (aU st.aJ) (bE st.aG) (dI st.runs) x hl hb).mono ?_ ?_
 .rintro r B ⟨rfl,a,b,c,d,e,rfl,l',h1,rfl,rfl,rfl,rfl,rfl⟩;exact⟨rfl,_,_,_,_,_,rfl,{ st with aA:=l' },by rw[h1];rfl,rfl⟩
 .rintro x B ⟨m,rfl,h1,h2⟩;exact⟨m,rfl,by rw[h1];rfl,h2⟩
theorem YK {F:Nat}(hF:407<F)(st:Wk)(h r o:Int)(hr:st.runs.length<=900):
  sX prog 166 [.ptr (.par 0) 0,.pv (.aE false 1 [iP h,iP r,iP o])] [(.par 0,st.box)] (xX (uD ((runM F st.runs h r o).map fun l=>{ st with runs:=l }))) (uQ (fun e=>(runM F st.runs h r o).map (fun l=>{ st with runs:=l })=.error e)):=by
 refine(YJ hF st.runs (aK st.aA) (bG st.bad) (aU st.aJ) (bE st.aG) h r o hr).mono ?_ ?_
 .rintro r' B ⟨rfl,a,b,c,d,e,rfl,l',h1,rfl,rfl,rfl,rfl,rfl⟩;exact⟨rfl,_,_,_,_,_,rfl,{ st with runs:=l' },by rw[h1];rfl,rfl⟩
 .rintro x B ⟨m,rfl,h1,h2⟩;exact⟨m,rfl,by rw[h1];rfl,h2⟩
def JW (v:Int):Prop:=-1000000000<v/\v<1000000000
theorem Zhi:∀{r:List ByteArray} {l:List Int},mO r=some l->l.length=r.length/\∀v∈l,JW v
 |[],l,h=>by cases h;exact⟨rfl,fun v hv=>by cases hv⟩
 |x::r,l,h=>by
  rw[Nq]at h;cases hx:lM x with
  |none=>rw[hx]at h;cases h
  |some n=>
   rw[hx]at h;obtain⟨l',h1,rfl⟩:=eA.1 h;obtain⟨h2,h3⟩:=Zhi h1;refine⟨by rw[pA,pA,h2],fun v hv=>?_⟩;rcases jQ.1 hv with rfl|hv
   .exact Zs7 hx
   .exact h3 v hv
theorem ZsZ {s:ByteArray}{g:FuncId}{nums:List Int}(h:P0 s=some (g,nums)):∃l0 k,gY l0=some (k,g)/\nums.length=k/\∀v∈nums,JW v:=by
 unfold P0 at h;split at h
 .cases h
 .rename_i l0 r _;split at h
  .rename_i k g' hw;split at h
   .rename_i hr;obtain⟨l,h1,h2⟩:=eA.1 h;cases h2;obtain⟨h3,h4⟩:=Zhi h1;exact⟨l0,k,hw,by omega,h4⟩
   .cases h
  .cases h
def pQ (l:List Ct)(bad:List Int)(n:Int):Except Int (List Int):=
 if(l.any fun y=>decide (y.num=n))=true then(if n∈bad then .error 6 else .ok (bad.take (dJ bad n)++n::bad.drop (dJ bad n)))else .error 7
def pK (ls:List Lt)(x:Lt):Except Int (List Lt):=
 if(decide (1<=x.num)&&decide (x.num<=99))=true/\(decide (4<=x.pieces)&&decide (x.pieces<=30))=true/\(decide (0<=x.limit)&&decide (x.limit<=1000))=true then
  (if x.num∈ls.map Lt.num then .error 6 else .ok (ls.take (dJ (ls.map Lt.num) x.num)++x::ls.drop (dJ (ls.map Lt.num) x.num)))
 else .error 2
def tF (F:Nat)(st:Wk)(g:FuncId)(nums:List Int):Except Int Wk:=
 if g=161 then(match nums with
  |[a,b,c,d,e,f,h]=>(mB st.aA st.bad { num:=a,it:=b,src:=c,day:=d,valid:=e,diff:=⟨f,h⟩}).map fun l=>{ st with aA:=l }
  |_=>.error 4)
 else if g=162 then(match nums with
  |[n]=>(pQ st.aA st.bad n).map fun l=>{ st with bad:=l }
  |_=>.error 4)
 else if g=163 then(match nums with
  |[n,p,m]=>(pK st.aJ ⟨n,p,m,false⟩).map fun l=>{ st with aJ:=l }
  |_=>.error 4)
 else if g=164 then(match nums with
  |[a,b,c,d]=>(kP (stM st.aA st.bad) (cW st.aA st.bad st.aG) st.aJ st.aG ⟨a,b,c,d⟩).map fun l=>{ st with aG:=l }
  |_=>.error 4)
 else if g=165 then(match nums with
  |[n]=>(jK (cW st.aA st.bad st.aG) st.aJ n).map fun l=>{ st with aJ:=l }
  |_=>.error 4)
 else(match nums with
  |[h,r,o]=>(runM F st.runs h r o).map fun l=>{ st with runs:=l }
  |_=>.error 4)
def EK (st:Wk):Prop:=∀n,JW n->sX prog 162 [.ptr (.par 0) 0,.pv (.aE false 1 [iP n])] [(.par 0,st.box)] (xX (uD ((pQ st.aA st.bad n).map fun l=>{ st with bad:=l }))) (uQ (fun e=>(pQ st.aA st.bad n).map (fun l=>{ st with bad:=l })=.error e))
def EJ (st:Wk):Prop:=∀n p m,JW n->JW p->JW m->sX prog 163 [.ptr (.par 0) 0,.pv (.aE false 1 [iP n,iP p,iP m])] [(.par 0,st.box)] (xX (uD ((pK st.aJ ⟨n,p,m,false⟩).map fun l=>{ st with aJ:=l }))) (uQ (fun e=>(pK st.aJ ⟨n,p,m,false⟩).map (fun l=>{ st with aJ:=l })=.error e))
theorem Wh {F:Nat}(hF:407<F)(st:Wk)(h:F4 st)(hc:st.aA.length<=900)(hr:st.runs.length<=900)(hs:(st.aJ.map Lt.num).Pairwise (·<·))(hB:EK st)(hL:EJ st){l0:ByteArray}{k:Nat}{g:FuncId}{nums:List Int}(hw:gY l0=some (k,g))(hk:nums.length=k)(hn:∀v∈nums,JW v):
  sX prog g [.ptr (.par 0) 0,.pv (.aE false 1 (nums.map iP))] [(.par 0,st.box)] (xX (uD (tF F st g nums))) (uQ (fun e=>tF F st g nums=.error e)):=by
 unfold gY at hw;split at hw
 .cases hw
  match nums,hk,hn with
  |[a,b,c,d,e,f,i],_,_=>exact Zu7 st { num:=a,it:=b,src:=c,day:=d,valid:=e,diff:=⟨f,i⟩} hc h.b
 split at hw
 .cases hw
  match nums,hk,hn with
  |[n],_,hn=>exact hB n (hn n (by simp))
 split at hw
 .cases hw
  match nums,hk,hn with
  |[n,p,m],_,hn=>exact hL n p m (hn n (by simp)) (hn p (by simp)) (hn m (by simp))
 split at hw
 .cases hw
  match nums,hk,hn with
  |[a,b,c,d],_,hn=>exact Zul st ⟨a,b,c,d⟩ (hn a (by simp)) h hs
 split at hw
 .cases hw
  match nums,hk,hn with
  |[n],_,hn=>exact ZuD st n (hn n (by simp)) h hs
 split at hw
 .cases hw
  match nums,hk,hn with
  |[a,r,o],_,_=>exact YK hF st a r o hr
 cases hw
def lS (F:Nat)(st:Wk)(s:ByteArray):Wk×Int:=st.next (pT (tF F st) s)
theorem Dr {F:Nat}(hF:407<F)(st:Wk)(s:ByteArray)(hz:s.size<=1000)(h:F4 st)(hc:st.aA.length<=900)(hr:st.runs.length<=900)(hs:(st.aJ.map Lt.num).Pairwise (·<·))(hB:EK st)(hL:EJ st):
  cN prog 37 [.ptr (.par 0) 0,.pv (.str s)] [(.par 0,st.box)] (fun x B=>x=.pv (.i (lS F st s).2)/\B=[(.par 0,(lS F st s).1.box)]):=
 ZuJ st s _ (ZuR st _ s hz fun g nums hp=>by
  obtain⟨l0,k,h1,h2,h3⟩:=ZsZ hp;exact Wh hF st h hc hr hs hB hL h1 h2 h3)
section
attribute [local irreducible] Bk.held Bk.nums Bk.iS
set_option linter.unusedSimpArgs false
theorem ZtB (b:Bk)(hb:b.ok)(c:Ct)(hc:c∈b.aA)(bad held:List Int)(h1:bad.length<=1000000)(h2:held.length<=1000000):aD prog 216 [b.pv,c.pv,.aE false 1 (bad.map aN),.aE false 1 (held.map aN)] (.bool (b.R4 bad held c)):=by
 obtain⟨_,_,_,_,_,s0,s1,_⟩:=wY hb hc;obtain⟨j,hj,xH,z,hz,D8,pX⟩:=Mf s0 s1;have gS:=hb.c;obtain⟨P,hP⟩:∃P:Ct->Bool,P=fun o=>yY c o&&held.contains o.num:=⟨_,rfl⟩
 have hT:b.R4 bad held c=((z.gZ||(b.aA.take b.aA.length).any P)&&!bad.contains c.num):=by
  rw[nC,hP,<-D8];rfl
 rw[hT];clear hT;refine cS L216 ?_;simp[-getElem?_pos,-List.getElem?_map,-List.take_length,L216,Bk.pv,aS,aK,Ct.pv,hj,xH,pX];refine dY (fun n τ=>∃k:Nat,k<=b.aA.length/\n=b.aA.length-k/\τ=⟨[(2,.pv (.aE false 1 (bad.map aN))),(3,.pv (.aE false 1 (held.map aN))),(4,.ptr (.loc 4 0) 0),(5,.ptr (.loc 5 0) 0),(9,.pv (.bool (z.gZ||(b.aA.take k).any P))),(10,.pv (.i k))],[(.loc 4 0,.cells b.cells),(.loc 5 0,.cells c.cells)]⟩)
  ⟨b.aA.length,⟨[(2,.pv (.aE false 1 (bad.map aN))),(3,.pv (.aE false 1 (held.map aN))),(4,.ptr (.loc 4 0) 0),(5,.ptr (.loc 5 0) 0),(9,.pv (.bool (z.gZ||(b.aA.take 0).any P))),(10,.pv (.i 0))],[(.loc 4 0,.cells b.cells),(.loc 5 0,.cells c.cells)]⟩,Sub.mk (by simp) (by simp[Bk.cells,aS,aK,Ct.cells,hj]),0,by omega,rfl,rfl⟩ ?_
 rintro J hJ n τ ⟨k,hk,rfl,rfl⟩;by_cases aI:k<b.aA.length
 .obtain⟨o,ho,M5,pY⟩:=zS aI;have hw:=bA (k:=k) (by omega);have aB:=hJ _ _ ⟨k+1,aI,rfl,rfl⟩;rw[WV ho,<-Bool.or_assoc]at aB;have aH:b.aA.length-(k+1)<b.aA.length-k:=by omega
  have hr:=ZsR c o (Zeg hb M5);have hh:=wI held o.num h2;have H3:P o=(yY c o&&held.contains o.num):=by rw[hP]
  clear hJ hP;generalize(z.gZ||(b.aA.take k).any P)=A at *;cases A
  case true=>
   simp[Bk.cells,aS,aK,Ct.cells,aI,pY,hw];exact⟨_,_,aH,Sub.mk (by simp) (by simp[Bk.cells,aS,aK,Ct.cells]),aB⟩
  case false=>
  simp[-getElem?_pos,-List.getElem?_map,Bk.cells,aS,aK,Ct.cells,aI,pY,hw];refine AP (k:=0) (fs:=[]) (xs:=[c.pv,o.pv]) (cs:=[]) rfl rfl hr rfl ?_;cases e1:yY c o
  .rw[e1,Bool.false_and]at H3;rw[H3]at aB;simp[Bk.cells,aS,aK,Ct.cells,aI,pY,hw];exact⟨_,_,aH,Sub.mk (by simp) (by simp[Bk.cells,aS,aK,Ct.cells]),aB⟩
  rw[e1,Bool.true_and]at H3;rw[H3]at aB;simp[-getElem?_pos,-List.getElem?_map,Bk.cells,aS,aK,Ct.cells,aI,pY,hw];refine cG [.aE false 1 (held.map aN),.i o.num] hh ?_;simp[Bk.cells,aS,aK,Ct.cells,aI,pY,hw];exact⟨_,_,aH,Sub.mk (by simp) (by simp[Bk.cells,aS,aK,Ct.cells]),aB⟩
 have he:k=b.aA.length:=by omega
 subst he;clear hJ;have hh:=wI bad c.num h1;generalize(z.gZ||(b.aA.take b.aA.length).any P)=A at *;cases A
 .simp[Bk.cells,aS,aK,Ct.cells]
 simp[Bk.cells,aS,aK,Ct.cells];refine cG [.aE false 1 (bad.map aN),.i c.num] hh ?_;simp
end
section
theorem ZfV {b:Bk}{bad:List Int}:∀k,(b.iS bad k).length<=k
 |0=>fE _
 |k+1=>by
  rw[Gy,gE]
  have:=ZfV (b:=b) (bad:=bad) k
  split<;>simp<;>omega
theorem ZiB {b:Bk}(hb:b.ok){bad:List Int}:b.iS bad 1=[]:=by
 have h0:b.iS bad 0=[]:=rfl;rw[Gy,h0,if_neg]
 .rfl
 rw[Bool.not_eq_true,List.any_eq_false];intro c hc
 have:=(wY hb hc).1
 simp;omega
attribute [local irreducible] Bk.held Bk.nums Bk.iS
def nF (b:Bk)(bad:List Int)(n:Nat):AS:=⟨[(1,.pv (.aE false 1 (bad.map aN))),(2,.ptr (.loc 2 0) 0),(5,.vec (.loc 46 0) 1 0 (b.iS bad n).length),(6,.pv (.i n))],[(.loc 46 0,.arr 3 1 ((b.iS bad n).map aN)),(.loc 2 0,.cells b.cells)]⟩
def A7 (b:Bk)(bad:List Int)(n:Nat)(is:Bool)(i:Nat):AS:=⟨(7,.pv (.bool is))::(8,.pv (.i i))::(nF b bad n).tm,(nF b bad n).bx⟩
theorem ZsN (b:Bk)(hb:b.ok)(bad:List Int)(h1:bad.length<=1000000):cN prog 169 ([b.pv,.aE false 1 (bad.map aN)].map .pv) [] (fun r B=>r=.pv (.aE false 1 ((b.held bad).map aN))/\B=[]):=by
 have gS:=hb.c;refine cF [.loc 46 0] L169 ?_;have hHB:b.held bad=b.iS bad 1000:=by unfold Bk.held;rfl
 rw[hHB];generalize hR:(fun(r:AV) (B:List (Site×aL))=>r=.pv (.aE false 1 ((b.iS bad 1000).map aN))/\B=[])=R;simp[L169,Bk.pv];refine dY (fun m τ=>∃n:Nat,n<=1000/\m=1000-n/\τ=nF b bad n) ⟨999,nF b bad 1,Sub.trans' (Sub.mk (by simp[AS.cT,ZiB hb]) (by simp[AS.cT,Bk.cells,ZiB hb])) (cT 46 3 1 5 rfl (by decide)),1,by omega,rfl,rfl⟩ ?_;rintro J hJ m τ ⟨n,hn,rfl,rfl⟩;have HV:=ZfV (b:=b) (bad:=bad) n;by_cases aI:n<1000
 .have hw:IntKind.i64.wrap ((n:Int)+1)=((n+1:Nat):Int):=bA (by omega);have hle:decide ((n:Int)<=999)=true:=by simp;omega
  have aB:=hJ _ _ ⟨n+1,aI,rfl,rfl⟩;have aH:1000-(n+1)<1000-n:=by omega
  obtain⟨P,hP⟩:∃P:Ct->Bool,P=fun o=>decide (o.num=(n:Int))&&b.R4 bad (b.iS bad n) o:=⟨_,rfl⟩
  have eK:b.iS bad (n+1)=b.iS bad n++(if(b.aA.take b.aA.length).any P=true then[(n:Int)]else[]):=by
   rw[Gy,nC,hP]
  clear hJ;simp[-List.take_length,-decide_eq_true_eq,-decide_eq_false_iff_not,nF,Bk.cells,hle];refine dY (fun m τ=>∃i:Nat,i<=b.aA.length/\m=b.aA.length-i/\τ=A7 b bad n ((b.aA.take i).any P) i) ⟨b.aA.length,A7 b bad n ((b.aA.take 0).any P) 0,Sub.mk (by simp[nF]) (by simp[nF,Bk.cells]),0,by omega,rfl,rfl⟩ ?_;rintro J2 uS m τ ⟨i,hi,rfl,rfl⟩;by_cases iO:i<b.aA.length
  .obtain⟨o,ho,M5,pY⟩:=zS iO;have p5:=bA (k:=i) (by omega);have cA:=uS _ _ ⟨i+1,iO,rfl,rfl⟩;rw[WV ho]at cA;have gM:b.aA.length-(i+1)<b.aA.length-i:=by omega
   have hh:=ZtB b hb o M5 bad (b.iS bad n) h1 (by omega);have H3:P o=(decide (o.num=(n:Int))&&b.R4 bad (b.iS bad n) o):=by rw[hP]
   clear uS hP aB eK;generalize hA:(b.aA.take i).any P=A at *;have hU:((b.iS bad n).map aN).take (b.iS bad n).length=(b.iS bad n).map aN:=fH (by simp);cases A
   case true=>
    simp[A7,nF,Bk.cells,aS,aK,iO,p5];exact⟨_,_,gM,Sub.mk (by simp[nF]) (by simp[nF,Bk.cells,aS,aK]),cA⟩
   case false=>
   cases e1:decide (o.num=(n:Int))
   .rw[e1,Bool.false_and]at H3;rw[H3]at cA;simp[-getElem?_pos,-List.getElem?_map,-decide_eq_true_eq,-decide_eq_false_iff_not,A7,nF,Bk.cells,aS,aK,iO,pY,p5,e1];exact⟨_,_,gM,Sub.mk (by simp[A7,nF]) (by simp[A7,nF,Bk.cells,aS,aK]),cA⟩
   rw[e1,Bool.true_and]at H3;rw[H3]at cA;simp[-getElem?_pos,-List.getElem?_map,-decide_eq_true_eq,-decide_eq_false_iff_not,A7,nF,Bk.cells,aS,aK,iO,pY,e1];refine gG (k:=0) (fs:=[]) (xs:=[b.pv,o.pv,.aE false 1 (bad.map aN),.aE false 1 ((b.iS bad n).map aN)]) (cs:=[]) rfl (by simp[jI,AV.snap,AV.FL,Bk.pv,aS,aK,Ct.pv,hU]) hh rfl ?_;simp[p5];exact⟨_,_,gM,Sub.mk (by simp[nF]) (by simp[nF,Bk.cells,aS,aK]),cA⟩
  have he:i=b.aA.length:=by omega
  subst he;clear uS hP;generalize(b.aA.take b.aA.length).any P=A at *;cases A
  .rw[if_neg (by simp),wW]at eK;simp[A7,nF,Bk.cells,aS,aK,hw];exact⟨_,_,aH,Sub.mk (by simp[eK]) (by simp[Bk.cells,aS,aK,eK]),aB⟩
  .rw[if_pos rfl]at eK;have sQ:(b.iS bad n).length<=999999:=by omega
   have hU:((b.iS bad n).map aN).take (b.iS bad n).length=(b.iS bad n).map aN:=fH (by simp);simp[A7,nF,Bk.cells,aS,aK,hw,aP,sQ];refine⟨_,_,aH,Sub.mk ?_ ?_,aB⟩
   .simp[eK]
   .simp[Bk.cells,aS,aK,eK,aN]
 have he:n=1000:=by omega
 subst he;clear hJ;have hU:((b.iS bad 1000).map aN).take (b.iS bad 1000).length=(b.iS bad 1000).map aN:=fH (by simp);simp[nF,Bk.cells,hU];rw[<-hR];simp
end
section
theorem Zkq (r:Cr):(jC r.lo (-100000) r.hi&&decide (r.hi<=100000))=r.okB:=by
 unfold Cr.okB A1 jC;rw[qQ];simp;omega
def It.dJ (x:It):Bool:=jC x.dR 0 100&&x.val.okB&&(x.gZ||(decide (x.val.lo=0)&&decide (x.val.hi=0)))
theorem It.ZxO (x:It):x.okB=x.dJ:=by
 unfold It.okB It.dJ;congr 2;obtain⟨d,s,⟨lo,hi⟩⟩:=x;rw[qQ];simp
def kA (x y:Ct):Bool:=(decide (x.num=y.num)&&decide (x≠y))||(decide (y.num<x.num)&&decide (x.day<y.day))
theorem Zmq {b:Bk}:b.zY=!(b.aA.all fun x=>b.aA.all fun y=>!kA x y):=by
 have e:b.zY=b.aA.any fun x=>b.aA.any fun y=>kA x y:=rfl
 rw[e,qQ];simp
theorem Zpu (b:Bk)(h1:b.items.length<=1000)(h2:b.aA.length<=1000):aD prog 77 [b.pv] (.i b.fault):=by
 have qN:b.xK=(decide (8<b.items.length)||decide (24<b.aA.length)):=rfl;have lQ:b.bad=(!(b.items.all It.okB)||!(b.aA.all b.uX)):=rfl;obtain⟨F,hF⟩:∃F,b.fault=F:=⟨_,rfl⟩;have f3:b.xK=true->F=3:=fun h=>by rw[<-hF,Zf3 h]
 have f1:b.xK=false->b.bad=true->F=1:=fun h h'=>by rw[<-hF,Zf4 h h']
 have f6:b.xK=false->b.bad=false->b.zY=true->F=6:=fun h h' Wb=>by rw[<-hF,Zf2 h h' Wb]
 have f0:b.xK=false->b.bad=false->b.zY=false->F=0:=fun h h' Wb=>by rw[<-hF,Gu h h' Wb]
 rw[hF];clear hF;refine cS L77 ?_;by_cases c1:8<b.items.length
 .have k1:(8:Int)<(b.items.length:Int):=by omega
  have C0:¬((b.items.length:Int)<=8):=by omega
  simp[L77,Bk.pv,aS,aK,k1,f3 (by rw[qN];simp[c1])]
 have d1:decide ((8:Int)<(b.items.length:Int))=false:=by simp;omega
 by_cases c2:24<b.aA.length
 .have d2:decide ((24:Int)<(b.aA.length:Int))=true:=by simp;omega
  simp[-decide_eq_true_eq,-decide_eq_false_iff_not,L77,Bk.pv,aS,aK,d1,d2,f3 (by rw[qN];simp[c2])]
 have d2:decide ((24:Int)<(b.aA.length:Int))=false:=by simp;omega
 have HG:b.xK=false:=by rw[qN];simp[c1,c2]
 have f1:=f1 HG;have f6:=f6 HG;have f0:=f0 HG;clear f3 qN HG;simp[-decide_eq_true_eq,-decide_eq_false_iff_not,L77,Bk.pv,aS,aK,d1,d2];refine dY (fun n τ=>∃k:Nat,k<=b.items.length/\n=b.items.length-k/\(∀(j:Nat) (x:It),j<k->b.items[j]?=some x->x.okB=true)/\τ=⟨[(1,.ptr (.loc 1 0) 0),(3,.pv (.i k))],[(.loc 1 0,.cells b.cells)]⟩)
  ⟨b.items.length,⟨[(1,.ptr (.loc 1 0) 0),(3,.pv (.i 0))],[(.loc 1 0,.cells b.cells)]⟩,Sub.mk (by simp) (by simp[Bk.cells,aS,aK]),0,by omega,rfl,(fun j x hj=>by omega),rfl⟩ ?_
 rintro J hJ n τ ⟨k,hk,rfl,hinv,rfl⟩;by_cases aI:k<b.items.length
 .obtain⟨z,hz⟩:∃z,b.items[k]?=some z:=⟨b.items[k],aX aI⟩;have pX:(b.items.map It.pv)[k]?=some (.agg [.i z.dR,.bool z.gZ,.i z.val.lo,.i z.val.hi]):=by rw[bR,hz];rfl
  have hw:=bA (k:=k) (by omega);have cU:=It.ZxO z;unfold It.dJ at cU;have jO:z.okB=false->F=1:=fun h=>f1 (by rw[lQ,Ld hz h];rfl)
  have aB:=fun h:z.okB=true=>hJ _ _ ⟨k+1,aI,rfl,Mx hinv hz h,rfl⟩
  have gA:=yD z.dR 0 100;have jM:=Zm0 z.val;rw[Zkq]at jM;have aH:b.items.length-(k+1)<b.items.length-k:=by omega
  clear hJ;simp[-decide_eq_true_eq,-decide_eq_false_iff_not,Bk.cells,aS,aK,aI,↓pX];refine cG [.i z.dR,.i 0,.i 100] gA ?_;cases e1:jC z.dR 0 100
  .rw[e1]at cU;simp[jO cU]
  simp[-decide_eq_true_eq,-decide_eq_false_iff_not];refine cG [z.val.pv] jM ?_;cases e2:z.val.okB
  .rw[e1,e2]at cU;simp[jO cU]
  rw[e1,e2]at cU;cases e3:z.gZ
  .cases e4:decide (z.val.lo=0)
   .rw[e3,e4]at cU;simp[-decide_eq_true_eq,-decide_eq_false_iff_not,e4,jO cU]
   .cases e5:decide (z.val.hi=0)
    .rw[e3,e4,e5]at cU;simp[-decide_eq_true_eq,-decide_eq_false_iff_not,e4,e5,jO cU]
    .rw[e3,e4,e5]at cU;have aB:=aB cU;simp[-decide_eq_true_eq,-decide_eq_false_iff_not,e4,e5,hw];exact⟨_,_,aH,Sub.mk (by simp) (by simp[Bk.cells,aS,aK]),aB⟩
  .rw[e3]at cU;have aB:=aB cU;simp[-decide_eq_true_eq,-decide_eq_false_iff_not,hw];exact⟨_,_,aH,Sub.mk (by simp) (by simp[Bk.cells,aS,aK]),aB⟩
 have he:k=b.items.length:=by omega
 subst he;have eS:=Ly hinv;rw[eS]at lQ;clear hJ hinv;have HY:∀i:Int,b.uJ i=true->∃j:Nat,i=j/\j<b.items.length/\∃z,b.items[j]?=some z/\b.item i=z:=fun i hi=>by
  unfold Bk.uJ jC at hi;simp only[dK,decide_eq_true_eq]at hi;refine⟨i.toNat,by omega,by omega,b.items[i.toNat]'(by omega),aX _,?_⟩;unfold Bk.item;rw[aX (by omega)];rfl
 have Jq:IntKind.i64.wrap ((b.items.length:Int)-1)=(b.items.length:Int)-1:=wrap64 (by omega);simp[Bk.cells,aS,aK];refine dY (fun n τ=>∃k:Nat,k<=b.aA.length/\n=b.aA.length-k/\(∀(j:Nat) (x:Ct),j<k->b.aA[j]?=some x->b.uX x=true)/\τ=⟨[(1,.ptr (.loc 1 0) 0),(5,.pv (.i k))],[(.loc 1 0,.cells b.cells)]⟩)
  ⟨b.aA.length,⟨[(1,.ptr (.loc 1 0) 0),(5,.pv (.i 0))],[(.loc 1 0,.cells b.cells)]⟩,Sub.mk (by simp) (by simp[Bk.cells,aS,aK]),0,by omega,rfl,(fun j x hj=>by omega),rfl⟩ ?_
 rintro J hJ n τ ⟨k,hk,rfl,hinv,rfl⟩;by_cases aI:k<b.aA.length
 .obtain⟨c,hc⟩:∃c,b.aA[k]?=some c:=⟨b.aA[k],aX aI⟩;have y8:(b.aA.map Ct.pv)[k]?=some (.agg [.i c.num,.i c.it,.i c.src,.i c.day,.i c.valid,.i c.diff.lo,.i c.diff.hi]):=by rw[bR,hc];rfl
  have hw:=bA (k:=k) (by omega);have cU:b.uX c=(jC c.num 1 999&&b.uJ c.it&&!(b.item c.it).gZ&&b.uJ c.src&&decide (c.src≠c.it)&&jC c.day 0 1000&&jC c.valid 0 1000&&c.diff.okB):=rfl;have jO:b.uX c=false->F=1:=fun h=>f1 (by rw[lQ,Ld hc h];rfl)
  have aB:=fun h:b.uX c=true=>hJ _ _ ⟨k+1,aI,rfl,Mx hinv hc h,rfl⟩
  have QN:=yD c.num 1 999;have QM:aD prog 120 [.i c.it,.i 0,.i ((b.items.length:Int)-1)] (.bool (b.uJ c.it)):=yD c.it 0 _;have Uc:aD prog 120 [.i c.src,.i 0,.i ((b.items.length:Int)-1)] (.bool (b.uJ c.src)):=yD c.src 0 _;have Ub:=yD c.day 0 1000;have Ua:=yD c.valid 0 1000;have jM:=Zm0 c.diff;rw[Zkq]at jM;have hi4:=HY c.it;have aH:b.aA.length-(k+1)<b.aA.length-k:=by omega
  clear hJ;simp[-decide_eq_true_eq,-decide_eq_false_iff_not,Bk.cells,aS,aK,aI,↓y8];refine cG [.i c.num,.i 1,.i 999] QN ?_;cases e1:jC c.num 1 999
  .rw[e1]at cU;simp[jO (by rw[cU];simp)]
  simp[-decide_eq_true_eq,-decide_eq_false_iff_not,Jq];refine cG [.i c.it,.i 0,.i ((b.items.length:Int)-1)] QM ?_;cases e2:b.uJ c.it
  .rw[e2]at cU;simp[jO (by rw[cU];simp)]
  obtain⟨j,hj,xH,z,hz,D8⟩:=hi4 e2;have pX:(b.items.map It.pv)[j]?=some (.agg [.i z.dR,.bool z.gZ,.i z.val.lo,.i z.val.hi]):=by rw[bR,hz];rfl
  simp[-decide_eq_true_eq,-decide_eq_false_iff_not,Jq];refine cG [.i c.src,.i 0,.i ((b.items.length:Int)-1)] Uc ?_;cases e3:b.uJ c.src
  .rw[e3]at cU;simp[jO (by rw[cU];simp)]
  cases e4:decide (c.src=c.it)
  case true=>
   have Wf:decide (c.src≠c.it)=false:=by simpa using e4
   simp[-decide_eq_true_eq,-decide_eq_false_iff_not,e4,jO (by rw[cU,Wf];simp)]
  case false=>
  have Wf:decide (c.src≠c.it)=true:=by simpa using e4
  rw[e1,e2,e3,Wf,D8]at cU;have e4j:decide (c.src=(j:Int))=false:=by rw[<-hj];exact e4
  cases e5:z.gZ
  case true=>
   rw[e5]at cU pX;simp[-decide_eq_true_eq,-decide_eq_false_iff_not,e4j,hj,↓pX,jO (by rw[cU];simp)]
  case false=>
  rw[e5]at cU pX;simp[-decide_eq_true_eq,-decide_eq_false_iff_not,e4j,hj,↓pX];refine cG [.i c.day,.i 0,.i 1000] Ub ?_;cases e6:jC c.day 0 1000
  .rw[e6]at cU;simp[jO (by rw[cU];simp)]
  simp[-decide_eq_true_eq,-decide_eq_false_iff_not];refine cG [.i c.valid,.i 0,.i 1000] Ua ?_;cases e7:jC c.valid 0 1000
  .rw[e7]at cU;simp[jO (by rw[cU];simp)]
  simp[-decide_eq_true_eq,-decide_eq_false_iff_not];refine cG [c.diff.pv] jM ?_;cases e8:c.diff.okB
  .rw[e8]at cU;simp[jO (by rw[cU];simp)]
  rw[e6,e7,e8]at cU;have aB:=aB (by rw[cU];rfl);simp[-decide_eq_true_eq,-decide_eq_false_iff_not,hw];exact⟨_,_,aH,Sub.mk (by simp) (by simp[Bk.cells,aS,aK]),aB⟩
 have he:k=b.aA.length:=by omega
 subst he;have eS:=Ly hinv;rw[eS]at lQ;clear hJ hinv;have f6:=f6 lQ;have f0:=f0 lQ;clear f1;have Z3:=Zmq (b:=b);simp[Bk.cells,aS,aK];refine dY (fun n τ=>∃k:Nat,k<=b.aA.length/\n=b.aA.length-k/\(∀(j:Nat) (x:Ct),j<k->b.aA[j]?=some x->(b.aA.all fun y=>!kA x y)=true)/\τ=⟨[(1,.ptr (.loc 1 0) 0),(7,.pv (.i k))],[(.loc 1 0,.cells b.cells)]⟩)
  ⟨b.aA.length,⟨[(1,.ptr (.loc 1 0) 0),(7,.pv (.i 0))],[(.loc 1 0,.cells b.cells)]⟩,Sub.mk (by simp) (by simp[Bk.cells,aS,aK]),0,by omega,rfl,(fun j x hj=>by omega),rfl⟩ ?_
 rintro J hJ n τ ⟨k,hk,rfl,hinv,rfl⟩;by_cases aI:k<b.aA.length
 .obtain⟨c,hc⟩:∃c,b.aA[k]?=some c:=⟨b.aA[k],aX aI⟩;have y8:(b.aA.map Ct.pv)[k]?=some (.agg [.i c.num,.i c.it,.i c.src,.i c.day,.i c.valid,.i c.diff.lo,.i c.diff.hi]):=by rw[bR,hc];rfl
  have hw:=bA (k:=k) (by omega);have aB:=fun h:(b.aA.all fun y=>!kA c y)=true=>hJ _ _ ⟨k+1,aI,rfl,Mx (p:=fun x=>b.aA.all fun y=>!kA x y) hinv hc h,rfl⟩
  have mP:(b.aA.all fun y=>!kA c y)=false->F=6:=fun h=>f6 (by rw[Z3,Ld (p:=fun x=>b.aA.all fun y=>!kA x y) hc h];rfl)
  have aH:b.aA.length-(k+1)<b.aA.length-k:=by omega
  clear hJ;simp[Bk.cells,aS,aK,aI];refine dY (fun n τ=>∃i:Nat,i<=b.aA.length/\n=b.aA.length-i/\(∀(j:Nat) (x:Ct),j<i->b.aA[j]?=some x->(!kA c x)=true)/\τ=⟨[(1,.ptr (.loc 1 0) 0),(7,.pv (.i k)),(8,.pv (.i i))],[(.loc 1 0,.cells b.cells)]⟩)
   ⟨b.aA.length,⟨[(1,.ptr (.loc 1 0) 0),(7,.pv (.i k)),(8,.pv (.i 0))],[(.loc 1 0,.cells b.cells)]⟩,Sub.mk (by simp) (by simp[Bk.cells,aS,aK]),0,by omega,rfl,(fun j x hj=>by omega),rfl⟩ ?_
  rintro J2 uS n τ ⟨i,hi,rfl,ML,rfl⟩;by_cases iO:i<b.aA.length
  .obtain⟨y,hy⟩:∃c,b.aA[i]?=some c:=⟨b.aA[i],aX iO⟩;have IC:(b.aA.map Ct.pv)[i]?=some (.agg [.i y.num,.i y.it,.i y.src,.i y.day,.i y.valid,.i y.diff.lo,.i y.diff.hi]):=by rw[bR,hy];rfl
   have p5:=bA (k:=i) (by omega);have cA:=fun h:(!kA c y)=true=>uS _ _ ⟨i+1,iO,rfl,Mx (p:=fun x=>!kA c x) ML hy h,rfl⟩
   have PZ:(!kA c y)=false->F=6:=fun h=>mP (Ld (p:=fun x=>!kA c x) hy h)
   have hP:kA c y=((decide (c.num=y.num)&&!decide (c=y))||(decide (y.num<c.num)&&decide (c.day<y.day))):=by simp[kA]
   have heq:gV (.agg [.i c.num,.i c.it,.i c.src,.i c.day,.i c.valid,.i c.diff.lo,.i c.diff.hi]) (.agg [.i y.num,.i y.it,.i y.src,.i y.day,.i y.valid,.i y.diff.lo,.i y.diff.hi])=decide (c=y):=ZrP;have gM:b.aA.length-(i+1)<b.aA.length-i:=by omega
   clear uS;simp[-decide_eq_true_eq,-decide_eq_false_iff_not,Bk.cells,aS,aK,iO,↓y8];refine FV ⟨[(1,.ptr (.loc 1 0) 0),(7,.pv (.i k)),(8,.pv (.i i)),(9,.ptr (.loc 9 0) 0),(10,.ptr (.loc 10 0) 0),(151,.pv y.pv)],[(.loc 1 0,.cells b.cells),(.loc 9 0,.cells c.cells),(.loc 10 0,.cells (List.replicate 7 (.pv (.i 0))))]⟩ ?_ ?_
   .simp[gN,gW,↓IC]
    repeat' (with_reducible refine And.intro ?_ ?_)
    all_goals
     refine Sub.mk ?_ ?_
     .simp[Ct.pv]
     .simp[Ct.cells,Bk.cells,aS,aK]
   .cases a1:decide (c.num=y.num)
    .simp[-decide_eq_true_eq,-decide_eq_false_iff_not,gN,gW,Ct.pv,Ct.cells,Bk.cells,List.replicate,-gV,a1];trace_state;cases a3:decide (y.num<c.num)
     .have cA:=cA (by rw[hP,a1,a3];rfl);simp[-decide_eq_true_eq,-decide_eq_false_iff_not,aS,aK,-gV,p5];exact⟨_,_,gM,Sub.mk (by simp) (by simp[Bk.cells,aS,aK]),cA⟩
     .cases a4:decide (c.day<y.day)
      .have cA:=cA (by rw[hP,a1,a3,a4];rfl);simp[-decide_eq_true_eq,-decide_eq_false_iff_not,aS,aK,-gV,p5];exact⟨_,_,gM,Sub.mk (by simp) (by simp[Bk.cells,aS,aK]),cA⟩
      .have hF:=PZ (by rw[hP,a1,a3,a4];rfl);simp[-decide_eq_true_eq,-decide_eq_false_iff_not,aS,aK,-gV,hF]
    .cases a2:decide (c=y)
     .have hF:=PZ (by rw[hP,a1,a2];rfl);simp[-decide_eq_true_eq,-decide_eq_false_iff_not,gN,gW,Ct.pv,Ct.cells,Bk.cells,List.replicate,heq,-gV,a1,a2,hF]
     .simp[-decide_eq_true_eq,-decide_eq_false_iff_not,gN,gW,Ct.pv,Ct.cells,Bk.cells,List.replicate,heq,-gV,a1,a2];cases a3:decide (y.num<c.num)
      .have cA:=cA (by rw[hP,a1,a2,a3];rfl);simp[-decide_eq_true_eq,-decide_eq_false_iff_not,aS,aK,-gV,p5];exact⟨_,_,gM,Sub.mk (by simp) (by simp[Bk.cells,aS,aK,Ct.cells]),cA⟩
      .cases a4:decide (c.day<y.day)
       .have cA:=cA (by rw[hP,a1,a2,a3,a4];rfl);simp[-decide_eq_true_eq,-decide_eq_false_iff_not,aS,aK,-gV,p5];exact⟨_,_,gM,Sub.mk (by simp) (by simp[Bk.cells,aS,aK]),cA⟩
       .have hF:=PZ (by rw[hP,a1,a2,a3,a4];rfl);simp[-decide_eq_true_eq,-decide_eq_false_iff_not,aS,aK,-gV,hF]
  .have he:i=b.aA.length:=by omega
   subst he;have aB:=aB (Ly (p:=fun x=>!kA c x) ML);simp[Bk.cells,aS,aK,hw];exact⟨_,_,aH,Sub.mk (by simp) (by simp[Bk.cells,aS,aK]),aB⟩
 have he:k=b.aA.length:=by omega
 subst he;have hF:=f0 (by rw[Z3,Ly (p:=fun x=>b.aA.all fun y=>!kA x y) hinv];rfl);simp[Bk.cells,aS,aK,hF]
attribute [local irreducible] Bk.held Bk.nums Bk.iS
set_option linter.unusedSimpArgs false
theorem Zkw (b:Bk)(hb:b.ok):cN prog 169 ([b.pv,.emp (some true)].map .pv) [] (fun r B=>r=.pv (.aE false 1 ((b.held []).map aN))/\B=[]):=by
 have h:=ZsN b hb [] (fT _);refine cN.Ku (xs:=[b.pv,.emp (some true)]) (ys:=[b.pv,.aE false 1 []]) h rfl ?_;intro j x y m v h1 h2 hr
 match j with
 |0=>simp at h1 h2;subst h1 h2;exact hr
 |1=>simp at h1 h2;subst h1 h2;exact AM hr
 |j+2=>simp at h1
theorem Gj {b:Bk}{bad:List Int}:(b.held bad).length<=1000:=by
 have:b.held bad=b.iS bad 1000:=by unfold Bk.held;rfl
 rw[this];exact ZfV 1000
theorem Zm7 (b:Bk)(hb:b.ok)(item day:Int)(h0:0<=item)(h1:item<b.items.length):aD prog 127 [b.pv,.i item,.i day] (.bool (b.rA item day)):=by
 obtain⟨j,hj,xH,z,hz,D8,pX⟩:=Mf h0 h1;have gS:=hb.c;obtain⟨P,hP⟩:∃P:Ct->Bool,P=fun o=>decide (o.it=item)&&o.on day&&(b.held []).contains o.num:=⟨_,rfl⟩
 have hT:b.rA item day=(z.gZ||(b.aA.take b.aA.length).any P):=by
  rw[nC,<-D8];unfold Bk.rA;rw[Ze hb];congr 1;rw[qQ,oT,oT];constructor
  .rintro⟨o,ho,h⟩;refine⟨o,ho,?_⟩;rw[hP];simp only[Bk.pS,dK]at h ⊢;exact⟨h.1.2,h.2⟩
  .rintro⟨o,ho,h⟩;refine⟨o,ho,?_⟩;rw[hP]at h;have pN:=(wY hb ho).2.1;simp only[Bk.pS,dK,decide_eq_true_eq]at h ⊢;exact⟨⟨by omega,h.1⟩,h.2⟩
 rw[hT];clear hT;have hlen:=Gj (b:=b) (bad:=[]);have N7:=Zkw b hb;refine cS L127 ?_;cases hs:z.gZ
 case true=>
  rw[hs]at pX;simp[L127,Bk.pv,aS,aK,hj,pX]
 case false=>
 rw[hs]at pX;simp[-List.take_length,L127,Bk.pv,aS,aK,hj,pX];refine .inl (cQ [] [b.pv,.emp (some true)] N7 ?_);generalize b.held []=H at *;simp[-List.take_length,aM];subst hj;refine dY (fun n τ=>∃k:Nat,k<=b.aA.length/\n=b.aA.length-k/\(b.aA.take k).any P=false/\τ=⟨[(1,.pv (.i j)),(2,.pv (.i day)),(3,.ptr (.loc 3 0) 0),(7,.pv (.aE false 1 (H.map aN))),(8,.pv (.i k))],[(.loc 3 0,.cells b.cells)]⟩)
  ⟨b.aA.length,⟨[(1,.pv (.i j)),(2,.pv (.i day)),(3,.ptr (.loc 3 0) 0),(7,.pv (.aE false 1 (H.map aN))),(8,.pv (.i 0))],[(.loc 3 0,.cells b.cells)]⟩,Sub.mk (by simp) (by simp[Bk.cells,aS,aK]),0,by omega,rfl,rfl,rfl⟩ ?_
 rintro J hJ n τ ⟨k,hk,rfl,hinv,rfl⟩;by_cases aI:k<b.aA.length
 .obtain⟨o,ho,M5,pY⟩:=zS aI;have hw:=bA (k:=k) (by omega);have aB:=fun h:P o=false=>hJ _ _ ⟨k+1,aI,rfl,(by rw[WV ho,hinv,h];rfl),rfl⟩
  have PF:P o=true->(b.aA.take b.aA.length).any P=true:=fun h=>by
   rw[nC,oT];exact⟨o,M5,h⟩
  have aH:b.aA.length-(k+1)<b.aA.length-k:=by omega
  have hv:=Zfi o day (Zeg hb M5);have hh:=wI H o.num (by omega);have H3:P o=(decide (o.it=(j:Int))&&o.on day&&H.contains o.num):=by rw[hP]
  generalize(b.aA.take b.aA.length).any P=T at *;clear hJ hP;cases e1:decide (o.it=(j:Int))
  .have aB:=aB (by rw[H3,e1];rfl);simp[-getElem?_pos,-List.getElem?_map,-decide_eq_true_eq,-decide_eq_false_iff_not,Bk.cells,aS,aK,aI,pY,hw,e1];exact⟨_,_,aH,Sub.mk (by simp) (by simp[Bk.cells,aS,aK]),aB⟩
  simp[-getElem?_pos,-List.getElem?_map,-decide_eq_true_eq,-decide_eq_false_iff_not,Bk.cells,aS,aK,aI,pY,e1];refine cG [o.pv,.i day] hv ?_;cases e2:o.on day
  .have aB:=aB (by rw[H3,e1,e2];rfl);simp[-decide_eq_true_eq,-decide_eq_false_iff_not,hw];exact⟨_,_,aH,Sub.mk (by simp) (by simp[Bk.cells,aS,aK]),aB⟩
  simp[-decide_eq_true_eq,-decide_eq_false_iff_not,Bk.cells,aS,aK,aI,pY,hw,e1];refine cG [.aE false 1 (H.map aN),.i o.num] hh ?_;cases e3:H.contains o.num
  .have aB:=aB (by rw[H3,e1,e2,e3];rfl);simp[-decide_eq_true_eq,-decide_eq_false_iff_not,Bk.cells,aS,aK,aI,pY,hw,e1];exact⟨_,_,aH,Sub.mk (by simp) (by simp[Bk.cells,aS,aK]),aB⟩
  have hT:=PF (by rw[H3,e1,e2,e3];rfl);subst hT;simp[-decide_eq_true_eq,-decide_eq_false_iff_not]
 have he:k=b.aA.length:=by omega
 subst he;rw[hinv];simp[Bk.cells,aS,aK]
end
section
theorem Zts {a b:Int}:(if a<b then b else a)=max a b:=by
 rw[Int.max_def];split<;>split<;>omega
theorem Ztr {a b:Int}:(if b<a then b else a)=min a b:=by
 rw[Int.min_def];split<;>split<;>omega
def y0 (S:Int->Cr)(H:List Int)(i:Nat):PV:=if i<2000 then(.i (if i%2=0 then(S ((i / 2:Nat):Int)).lo else(S ((i / 2:Nat):Int)).hi))else .aE false 1 (H.map aN)
def rZ (S:Int->Cr)(H:List Int):List AV:=(List.range 2001).map fun i:Nat=>.pv (y0 S H i)
variable {S:Int->Cr}{H:List Int}
theorem Hr:(rZ S H).length=2001:=by unfold rZ;simp
theorem JZ {i:Nat}(h:i<2001):(rZ S H)[i]?=some (.pv (y0 S H i)):=by
 unfold rZ;rw[bR,List.getElem?_range h];rfl
theorem Zc7:(rZ S H)[2000]?=some (.pv (.aE false 1 (H.map aN))):=by
 rw[JZ (by omega)];unfold y0;rw[if_neg (by omega)]
theorem Zum {n:Nat}(h:n<1000):y0 S H (n*2)=.i (S n).lo:=by
 unfold y0;rw[if_pos (by omega),if_pos (by omega),show n*2 / 2=n by omega]
theorem Zun {n:Nat}(h:n<1000):y0 S H (n*2+1)=.i (S n).hi:=by
 unfold y0;rw[if_pos (by omega),if_neg (by omega),show(n*2+1) / 2=n by omega]
theorem Zsh {n:Nat}(h:n<1000):((rZ S H).drop (n*2)).take 2=[.pv (.i (S n).lo),.pv (.i (S n).hi)]:=by
 apply List.ext_getElem?;intro k;rw[mG]
 match k with
 |0=>rw[if_pos (by omega),mW,Nat.add_zero,JZ (by omega),Zum h];rfl
 |1=>rw[if_pos (by omega),mW,JZ (by omega),Zun h];rfl
 |k+2=>rw[if_neg (by omega)];rfl
theorem Zsg {n:Nat}(h:n<1000){a:Cr}:aR (rZ S H) (n*2) [.pv (.i a.lo),.pv (.i a.hi)]=rZ (fun m=>if m=(n:Int)then a else S m) H:=by
 unfold aR;apply List.ext_getElem?;intro k;have hl:((rZ S H).take (n*2)).length=n*2:=by rw[gI,Hr];omega
 have qW:([AV.pv (.i a.lo),AV.pv (.i a.hi)]:List AV).length=2:=rfl;by_cases h1:k<n*2
 .rw[I0,List.getElem?_append_left (by omega),mG,if_pos h1,JZ (by omega),JZ (by omega)];unfold y0;simp only;rw[if_neg (by omega:¬(((k / 2:Nat):Int)=(n:Int)))]
 .by_cases h2:k<n*2+2
  .rw[List.getElem?_append_left (by rw[gE,hl,qW];omega),List.getElem?_append_right (by omega),hl,JZ (by omega)];unfold y0;simp only;rw[if_pos (by omega:k<2000),if_pos (by omega:((k / 2:Nat):Int)=(n:Int))];rcases(by omega:k=n*2\/k=n*2+1)with rfl|rfl
   .rw[Nat.sub_self,if_pos (by omega)];rfl
   .rw[show n*2+1-n*2=1 by omega,if_neg (by omega)];rfl
  .rw[List.getElem?_append_right (by rw[gE,hl,qW];omega),gE,hl,qW,mW,show n*2+2+(k-(n*2+2))=k by omega];by_cases h3:k<2001
   .rw[JZ h3,JZ h3];unfold y0;simp only;rw[if_neg (by omega:¬(((k / 2:Nat):Int)=(n:Int)))]
   .rw[List.getElem?_eq_none (by rw[Hr];omega),List.getElem?_eq_none (by rw[Hr];omega)]
theorem Ze9 (d:Nat):AV.qR d (rZ S H)=false:=Zfz _
theorem Zfa (q:Site->Bool):AV.hZ q (rZ S H)=true:=ZfA _
theorem ZcJ (d:Nat):(rZ S H).map (AV.bI d)=rZ S H:=Zfx _
theorem Ze8 (g:Site->Site):AV.iR g (rZ S H)=rZ S H:=Zfy _
attribute [irreducible] rZ
attribute [local irreducible] Bk.held Bk.nums Bk.iS Bk.span
attribute [simp] Ze9 Zfa ZcJ Ze8 Zc7 Hr
def P5 (S:Int->Cr)(H:List Int):List aL:=[.cells (rZ S H)]
def BE (b:Bk)(item day below:Int)(z:It)(S:Int->Cr)(H:List Int)(r:Cr)(k:Nat):AS:=⟨[(1,.ptr (.par 0) 0),(2,.pv (.i item)),(3,.pv (.i day)),(4,.pv (.i below)),(5,.ptr (.loc 5 0) 0),(10,.ptr (.loc 10 0) 0),(11,.ptr (.loc 11 0) 0),(12,.ptr (.loc 12 0) 0),(13,.pv (.i k))],
 [(.loc 12 0,.cells [.pv (.i r.lo),.pv (.i r.hi)]),(.loc 11 0,.cells [.pv (.i z.dR),.pv (.bool false),.pv (.i z.val.lo),.pv (.i z.val.hi)]),(.loc 10 0,.cells [.pv (.i 0),.pv (.i 0)]),(.loc 5 0,.cells b.cells),(.par 0,.cells (rZ S H))]⟩
theorem Zs (b:Bk)(hb:b.ok)(S:Int->Cr)(H:List Int)(hH:H.length<=1000)(item day below:Int)(h0:0<=item)(h1:item<b.items.length)(hd:0<=day/\day<=1000)(hS:∀c∈b.aA,c.num∈H->(S c.num).lV 1000000000000):
  cN prog 123 [.pv b.pv,.ptr (.par 0) 0,.pv (.i item),.pv (.i day),.pv (.i below)] (laid 0 (P5 S H)) (fun r B=>r=.pv (b.kF H S item day below).pv/\B=laid 0 (P5 S H)):=by
 obtain⟨j,hj,xH,z,hz,D8,pX⟩:=Mf h0 h1;have gS:=hb.c;obtain⟨d0,d1,_,_⟩:=Zy hb h0 h1;rw[D8]at d0 d1;obtain⟨R,hR⟩:∃R,b.kF H S item day below=R:=⟨_,rfl⟩;rw[hR];refine cB [.par 0] L123 ?_;cases hs:z.gZ
 case true=>
  have hv:R=z.val:=by rw[<-hR];unfold Bk.kF;rw[D8,if_pos hs]
  rw[hs]at pX;subst hj;simp[L123,Bk.pv,aS,aK,laid,P5,pX];rw[hv];rfl
 case false=>
 rw[hs]at pX;obtain⟨Q,hQ⟩:∃Q:Ct->Bool,Q=fun c=>Bk.pS item day below c&&H.contains c.num:=⟨_,rfl⟩
 obtain⟨F,hF⟩:∃F:Cr->Ct->Cr,F=fun r c=>r.cut ((S c.num).wider (z.dR*(day-c.day))):=⟨_,rfl⟩
 have Jx:R=((b.aA.take b.aA.length).filter Q).foldl F I4:=by
  rw[<-hR,Hu (by rw[D8];exact hs),nC,hQ,hF,D8]
 clear hR;subst Jx;obtain⟨E,hE⟩:∃E:Nat->Cr,E=fun k=>((b.aA.take k).filter Q).foldl F I4:=⟨_,rfl⟩
 have hEe:((b.aA.take b.aA.length).filter Q).foldl F I4=E b.aA.length:=by rw[hE]
 rw[hEe];have hE0:E 0=I4:=by rw[hE];rfl
 have Vn:∀(k:Nat) (o:Ct),b.aA[k]?=some o->E (k+1)=if Q o=true then F (E k) o else E k:=fun k o ho=>by
  rw[hE];simp only;rw[lX,ho,H9,List.foldl_append];cases hq:Q o<;>simp[hq]
 clear hE hEe;subst hj;simp[L123,Bk.pv,aS,aK,laid,P5,pX,-aT];refine dY (fun n τ=>∃k:Nat,k<=b.aA.length/\n=b.aA.length-k/\τ=BE b j day below z S H (E k) k) ⟨b.aA.length,BE b j day below z S H (E 0) 0,Sub.mk (by simp) (by simp[Bk.cells,aS,aK,hE0,I4]),0,by omega,rfl,rfl⟩ ?_;rintro J hJ n τ ⟨k,hk,rfl,rfl⟩;by_cases aI:k<b.aA.length
 .obtain⟨o,ho,M5,pY⟩:=zS aI;have hw:=bA (k:=k) (by omega);have aB:=hJ _ _ ⟨k+1,aI,rfl,rfl⟩;rw[Vn k o ho]at aB;have aH:b.aA.length-(k+1)<b.aA.length-k:=by omega
  have hv:=Zfi o day (Zeg hb M5);have hh:=wI H o.num (by omega);have VI:Q o=(decide (o.num<below)&&(decide (o.it=(j:Int))&&o.on day)&&H.contains o.num):=by rw[hQ];rfl
  have hSo:=hS o M5;have jO:=wY hb M5;have hFo:F (E k) o=(E k).cut ((S o.num).wider (z.dR*(day-o.day))):=by rw[hF]
  have CU:=Xv hb M5 (day:=day);generalize E k=R at *;clear hJ hQ hF Vn hS;obtain⟨on,oi,os,od,ov,⟨ol,oh⟩⟩:=o;simp only at jO pY VI CU hSo hFo;have FE:decide (below<=on)=!(decide (on<below)):=by
   rw[qQ];simp
  cases e1:decide (oi=(j:Int))
  .have hq:¬(Q ⟨on,oi,os,od,ov,⟨ol,oh⟩⟩=true):=by rw[VI,e1];simp
   rw[if_neg hq]at aB;simp[-getElem?_pos,-List.getElem?_map,-decide_eq_true_eq,-decide_eq_false_iff_not,BE,Bk.cells,aS,aK,aI,pY,hw,e1,-aT];exact⟨_,_,aH,Sub.mk (by simp) (by simp[Bk.cells,aS,aK]),aB⟩
  cases e2:decide (on<below)
  .have hq:¬(Q ⟨on,oi,os,od,ov,⟨ol,oh⟩⟩=true):=by rw[VI,e2];simp
   rw[if_neg hq]at aB;rw[e2]at FE;simp[-getElem?_pos,-List.getElem?_map,-decide_eq_true_eq,-decide_eq_false_iff_not,BE,Bk.cells,aS,aK,aI,pY,hw,e1,FE,-aT];exact⟨_,_,aH,Sub.mk (by simp[BE]) (by simp[BE,Bk.cells,aS,aK]),aB⟩
  rw[e2]at FE;simp[-getElem?_pos,-List.getElem?_map,-decide_eq_true_eq,-decide_eq_false_iff_not,BE,Bk.cells,aS,aK,aI,pY,e1,FE,-aT];refine AP (k:=0) (fs:=[]) (xs:=[Ct.pv ⟨on,oi,os,od,ov,⟨ol,oh⟩⟩,.i day]) (cs:=[]) rfl rfl hv rfl ?_;cases e3:Ct.on ⟨on,oi,os,od,ov,⟨ol,oh⟩⟩ day
  .have hq:¬(Q ⟨on,oi,os,od,ov,⟨ol,oh⟩⟩=true):=by rw[VI,e3];simp
   rw[if_neg hq]at aB;simp[-decide_eq_true_eq,-decide_eq_false_iff_not,hw,-aT];exact⟨_,_,aH,Sub.mk (by simp) (by simp[Bk.cells,aS,aK]),aB⟩
  simp[-getElem?_pos,-List.getElem?_map,-decide_eq_true_eq,-decide_eq_false_iff_not,-aT];refine cG [.aE false 1 (H.map aN),.i on] hh ?_;cases e4:H.contains on
  .have hq:¬(Q ⟨on,oi,os,od,ov,⟨ol,oh⟩⟩=true):=by rw[VI,e4];simp
   rw[if_neg hq]at aB;simp[-decide_eq_true_eq,-decide_eq_false_iff_not,BE,Bk.cells,aS,aK,aI,pY,hw,-aT];exact⟨_,_,aH,Sub.mk (by simp[BE]) (by simp[BE,Bk.cells,aS,aK]),aB⟩
  have hq:Q ⟨on,oi,os,od,ov,⟨ol,oh⟩⟩=true:=by rw[VI,e1,e2,e3,e4];rfl
  rw[if_pos hq,hFo]at aB;have p6:=hSo (jF.1 e4);have D4:=CU e3;rw[of_decide_eq_true e1,D8]at D4;unfold Cr.lV at p6;have w1:IntKind.i64.wrap (day-od)=day-od:=wrap64 (by omega);obtain⟨far,MO⟩:∃far,z.dR*(day-od)=far:=⟨_,rfl⟩;rw[MO]at aB D4;have w2:IntKind.i64.wrap (z.dR*(day-od))=far:=by rw[MO];exact wrap64 (by omega)
  obtain⟨nn,rfl⟩:∃nn:Nat,on=nn:=⟨on.toNat,by omega⟩;have M6:nn<1000:=by omega
  have Sh:=Zsh (S:=S) (H:=H) M6;have sO:nn*2<=1999:=by omega
  have w3:IntKind.i64.wrap ((S nn).lo-far)=(S nn).lo-far:=wrap64 (by omega);have w4:IntKind.i64.wrap ((S nn).hi+far)=(S nn).hi+far:=wrap64 (by omega);unfold Cr.cut Cr.wider Cr.plus at aB;simp only[<-Int.sub_eq_add_neg]at aB;clear p6 D4 MO hq e1 e2 e3 e4;simp[-decide_eq_true_eq,-decide_eq_false_iff_not,hw,w1,w2,w3,w4,Sh,sO,M6,cO,aP,-aT];exact⟨_,_,aH,Sub.mk (by simp) (by simp[Bk.cells,aS,aK,Zts,Ztr]),aB⟩
 have he:k=b.aA.length:=by omega
 subst he;clear hJ Vn hF hQ;generalize E b.aA.length=R at *;simp[BE,Bk.cells,aS,aK,-aT];simp[Cr.pv]
end
section
def Bk.xR (b:Bk)(k:Nat)(m:Int):Cr:=if((b.held []).take k).contains m=true then b.span (b.held []) m else⟨0,0⟩
theorem Zmy {b:Bk}{held:List Int}{m:Int}(h:held.contains m=false):b.span held m=⟨0,0⟩:=by
 have key:∀k,b.FM held k m=⟨0,0⟩:=fun k=>by
  induction k with
  |zero=>rfl
  |succ k ih=>
   rw[Zel];split
   .rw[if_neg (by rw[h];simp)]
   .exact ih
 exact key 1000
theorem Zjt {b:Bk}{bad:List Int}:(b.held bad).Pairwise (·<·):=(ZcR 1000).1
attribute [local irreducible] Bk.held Bk.nums Bk.iS Bk.span
theorem Zi4 {l:List Int}(hs:l.Pairwise (·<·)){k:Nat}{n x:Int}(h:l[k]?=some n):x∈l.take k↔x∈l/\x<n:=by
 obtain⟨h2,e2⟩:=bZ.1 h;have hs:=R0.1 hs;constructor
 .intro hx;obtain⟨i,hi⟩:=iM.1 hx;rw[mG]at hi;split at hi
  .rename_i qM;obtain⟨h1,e1⟩:=bZ.1 hi
   have:=hs i k h1 h2 qM
   rw[e1,e2]at this;exact⟨dL hi,this⟩
  .cases hi
 .rintro⟨hx,aI⟩;obtain⟨i,hi⟩:=iM.1 hx;obtain⟨h1,e1⟩:=bZ.1 hi;rw[iM];refine⟨i,?_⟩;rw[mG,if_pos,hi];rcases Nat.lt_trichotomy i k with qM|qM|qM
  .exact qM
  .subst qM;rw[e1]at e2;omega
  .have:=hs k i h2 h1 qM
   rw[e1,e2]at this;omega
theorem Zh3 {b:Bk}{k:Nat}{n:Int}(h:(b.held [])[k]?=some n){m:Int}(hm:m<n):b.xR k m=b.span (b.held []) m:=by
 unfold Bk.xR;split
 .rfl
 .rename_i hc;rw[Zmy];cases hx:(b.held []).contains m
  .rfl
  .exact absurd (jF.2 ((Zi4 Zjt h).2 ⟨jF.1 hx,hm⟩)) hc
theorem Zpb {b:Bk}:b.xR (b.held []).length=b.span (b.held []):=by
 funext m;unfold Bk.xR;rw[nC];split
 .rfl
 .rename_i hc;rw[Zmy (by simpa using hc)]
theorem Zpa {b:Bk}:b.xR 0=fun _=>⟨0,0⟩:=by
 funext m;unfold Bk.xR;rw[if_neg (by simp)]
theorem Zg4 {b:Bk}{k:Nat}{n:Int}(h:(b.held [])[k]?=some n):(fun m=>if m=n then b.span (b.held []) n else b.xR k m)=b.xR (k+1):=by
 funext m;unfold Bk.xR;rw[lX,h];by_cases e:m=n
 .subst e;rw[if_pos rfl,if_pos (by simp)]
 .rw[if_neg e]
  have:(((b.held []).take k++(some n).toList).contains m)=((b.held []).take k).contains m:=by
   rw[qQ,jF,jF,sE];simp[e]
  rw[this]
theorem ZmD {b:Bk}{k:Nat}{n:Int}(h:(b.held [])[k]?=some n):(fun m=>if m=n then b.span (b.held []) n else b.xR (k+1) m)=b.xR (k+1):=by
 rw[<-Zg4 h];funext m;by_cases e:m=n
 .simp only[if_pos e]
 .simp only[if_neg e]
theorem ZmC {b:Bk}(hb:b.ok){k:Nat}{c:Ct}(hc:c∈b.aA):(b.xR k c.num).lV 1000000000000:=by
 unfold Bk.xR;split
 .rename_i h;have hx:c.num∈b.held []:=List.mem_of_mem_take (jF.1 h);have k1:=XL hb c hc hx;have k2:=wY hb hc;unfold Cr.lV at k1 ⊢;omega
 .unfold Cr.lV;simp only;omega
def Bk.uO (b:Bk)(k:Nat)(n:Int)(i:Nat):Int->Cr:=if((b.aA.take i).any fun c=>decide (c.num=n))=true then b.xR (k+1)else b.xR k
theorem ZmE {b:Bk}{k:Nat}{n:Int}{i:Nat}(h:(b.held [])[k]?=some n){m:Int}(hm:m<n):b.uO k n i m=b.span (b.held []) m:=by
 unfold Bk.uO;split
 .rw[<-Zg4 h];simp only;rw[if_neg (by omega),Zh3 h hm]
 .exact Zh3 h hm
theorem Zpd {b:Bk}{k:Nat}{n:Int}{i:Nat}{c:Ct}(hc:b.aA[i]?=some c)(h:decide (c.num=n)=false):b.uO k n (i+1)=b.uO k n i:=by
 unfold Bk.uO;rw[WV hc,h,Bool.or_false]
theorem Zso {b:Bk}{k:Nat}{n:Int}{i:Nat}{c:Ct}(hk:(b.held [])[k]?=some n)(hc:b.aA[i]?=some c)(h:c.num=n):(fun m=>if m=n then b.span (b.held []) n else b.uO k n i m)=b.uO k n (i+1):=by
 have:b.uO k n (i+1)=b.xR (k+1):=by
  unfold Bk.uO;rw[WV hc,decide_eq_true h,Bool.or_true,if_pos rfl]
 rw[this];unfold Bk.uO;split
 .exact ZmD hk
 .exact Zg4 hk
theorem Zsp {b:Bk}(hb:b.ok){k:Nat}{n:Int}{i:Nat}{c:Ct}(hc:c∈b.aA):(b.uO k n i c.num).lV 1000000000000:=by
 unfold Bk.uO;split
 .exact ZmC hb hc
 .exact ZmC hb hc
theorem Zpf {b:Bk}(hb:b.ok){k:Nat}{n:Int}(hk:(b.held [])[k]?=some n):b.uO k n b.aA.length=b.xR (k+1):=by
 unfold Bk.uO;rw[if_pos];rw[nC,oT];obtain⟨c,hc,e,_⟩:=(KI hb).1 (dL hk);exact⟨c,hc,by simp[e]⟩
theorem Zpc {b:Bk}{k:Nat}{n:Int}:b.uO k n 0=b.xR k:=by
 unfold Bk.uO;rw[if_neg (by simp)]
theorem Zpe {b:Bk}(hb:b.ok){k:Nat}{n:Int}{i:Nat}{c:Ct}(hk:(b.held [])[k]?=some n)(hc:c∈b.aA)(h:c.num=n):(b.kF (b.held []) (b.uO k n i) c.src c.day c.num).plus c.diff=b.span (b.held []) n/\(b.kF (b.held []) (b.uO k n i) c.src c.day c.num).lV 2000000000:=by
 have hx:(b.held []).contains n=true:=jF.2 (dL hk);have hg:b.get n=c:=by rw[<-h];exact u9 hb hc
 obtain⟨g1,g2⟩:=Zkf hb ((x4 hb).2 ⟨c,hc,h⟩) hx;rw[hg]at g1 g2;have e:b.kF (b.held []) (b.uO k n i) c.src c.day c.num=b.kF (b.held []) (b.span (b.held [])) c.src c.day n:=by
  rw[h];exact Zdp fun m hm=>ZmE hk hm
 rw[e];exact⟨g1.symm,g2⟩
theorem Zo6 {H:List Int}:List.replicate 2000 (AV.pv (.i 0))++[.pv (.aE false 1 (H.map aN))]=rZ (fun _=>⟨0,0⟩) H:=by
 apply List.ext_getElem?;intro k;by_cases h:k<2000
 .rw[List.getElem?_append_left (by rw[List.length_replicate];exact h),List.getElem?_replicate,if_pos h,JZ (by omega)];unfold y0;rw[if_pos h];simp
 .by_cases h2:k=2000
  .subst h2;rw[Zc7];rfl
  .rw[List.getElem?_eq_none (by simp;omega),List.getElem?_eq_none (by rw[Hr];omega)]
def BA (S:Int->Cr)(H:List Int):List PV:=(List.range 2001).map (y0 S H)
theorem ZhX {α:Type}{f:α->PV}:∀l:List α,eB (l.map fun x=>.pv (f x))=some (l.map f)
 |[]=>rfl
 |x::l=>by simp only[iQ,eB,ZhX l]
theorem Zo7 {S:Int->Cr}{H:List Int}:eB (rZ S H)=some (BA S H):=by
 unfold rZ BA;exact ZhX _
theorem Zo5 {S:Int->Cr}{H:List Int}:(BA S H).map AV.pv=rZ S H:=by
 unfold rZ BA;rw[List.map_map];rfl
theorem Zpz {a b:AV}:List.drop 2001 (List.replicate 2000 a++[b])=[]:=List.drop_of_length_le (by simp)
attribute [irreducible] BA
attribute [local irreducible] Bk.xR Bk.uO
def S3 (b:Bk)(S:Int->Cr)(k:Nat):AS:=⟨[(1,.ptr (.loc 1 0) 0),(3,.ptr (.loc 11 0) 0),(4,.pv (.i k))],[(.loc 11 0,.cells (rZ S (b.held []))),(.loc 1 0,.cells b.cells)]⟩
def XY (b:Bk)(S:Int->Cr)(k i:Nat):AS:=⟨(5,.pv (.i i))::(S3 b S k).tm,(S3 b S k).bx⟩
theorem Zrq (b:Bk)(hb:b.ok):cN prog 122 [.pv b.pv] [] (fun r B=>r=.ptr (.ret 0) 0/\B=[(.ret 0,.cells (rZ (b.span (b.held [])) (b.held [])))]):=by
 have hlen:=Gj (b:=b) (bad:=[]);have gS:=hb.c;have N7:=Zkw b hb;refine cE L122 ?_;generalize hR:(fun(r:AV) (B:List (Site×aL))=>r=.ptr (.ret 0) 0/\B=[(.ret 0,.cells (rZ (b.span (b.held [])) (b.held [])))])=R;simp[-List.reduceReplicate,L122,Bk.pv,-aT];refine .inl (cQ [] [b.pv,.emp (some true)] N7 ?_);have hz:=Zo6 (H:=b.held []);simp[-List.take_length,-List.reduceReplicate,aM,hz,Zpz,Zo7,Zo5,-aT];refine dY (fun m τ=>∃k:Nat,k<=(b.held []).length/\m=(b.held []).length-k/\τ=S3 b (b.xR k) k) ⟨(b.held []).length,S3 b (b.xR 0) 0,Sub.mk (by simp) (by simp[Bk.cells,Zpa]),0,by omega,rfl,rfl⟩ ?_;rintro J hJ m τ ⟨k,hk,rfl,rfl⟩;by_cases aI:k<(b.held []).length
 .obtain⟨n,hn⟩:∃n,(b.held [])[k]?=some n:=⟨_,aX aI⟩;have Jw:((b.held []).map aN)[k]?=some (.i n):=by rw[bR,hn];rfl
  have hw:=bA (k:=k) (by omega);have aB:=hJ _ _ ⟨k+1,aI,rfl,rfl⟩;have aH:(b.held []).length-(k+1)<(b.held []).length-k:=by omega
  clear hJ;simp[-getElem?_pos,-List.getElem?_map,S3,Bk.cells,aI,-aT];refine dY (fun m τ=>∃i:Nat,i<=b.aA.length/\m=b.aA.length-i/\τ=XY b (b.uO k n i) k i) ⟨b.aA.length,XY b (b.uO k n 0) k 0,Sub.mk (by simp[S3]) (by simp[S3,Bk.cells,Zpc]),0,by omega,rfl,rfl⟩ ?_;rintro J2 uS m τ ⟨i,hi,rfl,rfl⟩;by_cases iO:i<b.aA.length
  .obtain⟨o,ho,M5,pY⟩:=zS iO;have p5:=bA (k:=i) (by omega);have cA:=uS _ _ ⟨i+1,iO,rfl,rfl⟩;have gM:b.aA.length-(i+1)<b.aA.length-i:=by omega
   clear uS aB;cases e1:decide (o.num=n)
   .rw[Zpd ho e1]at cA;simp[-getElem?_pos,-List.getElem?_map,-decide_eq_true_eq,-decide_eq_false_iff_not,XY,S3,Bk.cells,aS,aK,iO,pY,Jw,p5,e1,-aT];exact⟨_,_,gM,Sub.mk (by simp[S3]) (by simp[S3,Bk.cells,aS,aK]),cA⟩
   have Kf:o.num=n:=of_decide_eq_true e1;have jO:=wY hb M5;obtain⟨g1,g2⟩:=Zpe (i:=i) hb hn M5 Kf;have nH:=Zso (i:=i) hn ho Kf;have mS:=Zs b hb (b.uO k n i) (b.held []) (by omega) o.src o.day o.num jO.2.2.2.2.2.1 jO.2.2.2.2.2.2.1 ⟨jO.2.2.2.2.2.2.2.2.1,jO.2.2.2.2.2.2.2.2.2.1⟩ (fun c hc _=>Zsp hb hc);obtain⟨nn,Tb⟩:∃nn:Nat,n=nn:=⟨n.toNat,by omega⟩;have M6:nn<1000:=by omega
   rw[<-nH]at cA;generalize b.uO k n i=S at *;generalize b.span (b.held []) n=T at *;obtain⟨R,Jx⟩:∃R,b.kF (b.held []) S o.src o.day o.num=R:=⟨_,rfl⟩;rw[Jx]at g1 g2 mS;clear Jx nH;have Cl:=jO.2.2.2.2.2.2.2.2.2.2.2.2.1;unfold Cr.lV at Cl g2;have w1:IntKind.i64.wrap (R.lo+o.diff.lo)=T.lo:=by rw[<-g1];exact wrap64 (by omega)
   have w2:IntKind.i64.wrap (R.hi+o.diff.hi)=T.hi:=by rw[<-g1];exact wrap64 (by omega)
   clear jO Cl g1 g2;subst Tb;have jN:=Zsg (S:=S) (H:=b.held []) M6 (a:=T);have sO:nn*2<=1999:=by omega
   simp[-getElem?_pos,-List.getElem?_map,-decide_eq_true_eq,-decide_eq_false_iff_not,XY,S3,Bk.cells,aS,aK,iO,pY,Jw,Kf,-aT];refine xM (gF:=[.pv b.pv,.ptr (.par 0) 0,.pv (.i o.src),.pv (.i o.day),.pv (.i nn)]) (B:=laid 0 (P5 S (b.held []))) (fs:=[]) (cs:=[]) 51 [.loc 11 0] ?_ rfl rfl ?_ ?_ ?_ (by rw[Kf]at mS;exact mS) ?_
   .simp
   .simp[laid,P5]
   .rfl
   .rfl
   rintro r0 B0 ⟨rfl,rfl⟩;refine⟨rfl,by simp[laid,P5],?_⟩;simp[-decide_eq_true_eq,-decide_eq_false_iff_not,laid,P5,Cr.pv,w1,w2,M6,cO,aP,sO,p5,-aT];exact⟨_,_,gM,Sub.mk (by simp[S3]) (by simp[S3,Bk.cells,aS,aK];rw[<-jN];simp[aR]),cA⟩
  have he:i=b.aA.length:=by omega
  subst he;clear uS;rw[Zpf hb hn];simp[XY,S3,Bk.cells,aS,aK,hw,-aT];exact⟨_,_,aH,Sub.mk (by simp) (by simp[Bk.cells,aS,aK]),aB⟩
 have he:k=(b.held []).length:=by omega
 subst he;clear hJ;rw[Zpb];simp[-getElem?_pos,-List.getElem?_map,S3,Bk.cells,-aT];refine⟨[.loc 11 0],?_⟩;simp;rw[<-hR];exact⟨rfl,rfl⟩
end
section
attribute [local irreducible] Bk.held Bk.nums Bk.iS Bk.span
theorem Zh2 {b:Bk}(hb:b.ok){c:Ct}(hc:c∈b.aA)(h:c.num∈b.held []):(b.span (b.held []) c.num).lV 1000000000000:=by
 have k1:=XL hb c hc h;have k2:=wY hb hc;unfold Cr.lV at k1 ⊢;omega
theorem Znc (b:Bk)(hb:b.ok):aD prog 79 [b.pv] (.bool b.contra):=by
 have hlen:=Gj (b:=b) (bad:=[]);have gS:=hb.c;have K6:=Zrq b hb;obtain⟨P,hP⟩:∃P:Ct->Bool,P=fun c=>(b.held []).contains c.num&&decide ((b.kF (b.held []) (b.span (b.held [])) c.it c.day 1000).hi<(b.kF (b.held []) (b.span (b.held [])) c.it c.day 1000).lo):=⟨_,rfl⟩
 have hT:b.contra=(b.aA.take b.aA.length).any P:=by
  rw[nC,hP];rfl
 rw[hT];clear hT;obtain⟨T,hT⟩:∃T,(b.aA.take b.aA.length).any P=T:=⟨_,rfl⟩;rw[hT];refine cS L79 ?_;simp[L79,Bk.pv];refine xM (gF:=[.pv b.pv]) (B:=[]) (fs:=[]) (cs:=[]) 8 [] ?_ rfl rfl rfl ?_ ?_ K6 ?_
 .simp
 .rfl
 .rfl
 rintro r0 B0 ⟨rfl,rfl⟩;refine⟨rfl,by simp,?_⟩;simp;refine dY (fun m τ=>∃k:Nat,k<=b.aA.length/\m=b.aA.length-k/\(b.aA.take k).any P=false/\τ=⟨[(1,.ptr (.loc 1 0) 0),(3,.ptr (.loc 8 0) 0),(4,.pv (.i k))],[(.loc 8 0,.cells (rZ (b.span (b.held [])) (b.held []))),(.loc 1 0,.cells b.cells)]⟩)
  ⟨b.aA.length,⟨[(1,.ptr (.loc 1 0) 0),(3,.ptr (.loc 8 0) 0),(4,.pv (.i 0))],[(.loc 8 0,.cells (rZ (b.span (b.held [])) (b.held []))),(.loc 1 0,.cells b.cells)]⟩,Sub.mk (by simp) (by simp[Bk.cells]),0,by omega,rfl,rfl,rfl⟩ ?_
 rintro J hJ m τ ⟨k,hk,rfl,hinv,rfl⟩;by_cases aI:k<b.aA.length
 .obtain⟨o,ho,M5,pY⟩:=zS aI;have hw:=bA (k:=k) (by omega);have aB:=fun h:P o=false=>hJ _ _ ⟨k+1,aI,rfl,(by rw[WV ho,hinv,h];rfl),rfl⟩
  have PF:P o=true->T=true:=fun h=>by
   rw[<-hT,nC,oT];exact⟨o,M5,h⟩
  have aH:b.aA.length-(k+1)<b.aA.length-k:=by omega
  have jO:=wY hb M5;have hh:=wI (b.held []) o.num (by omega);have H3:P o=((b.held []).contains o.num&&decide ((b.kF (b.held []) (b.span (b.held [])) o.it o.day 1000).hi<(b.kF (b.held []) (b.span (b.held [])) o.it o.day 1000).lo)):=by rw[hP]
  have mS:=Zs b hb (b.span (b.held [])) (b.held []) (by omega) o.it o.day 1000 jO.2.2.1 jO.2.2.2.1 ⟨jO.2.2.2.2.2.2.2.2.1,jO.2.2.2.2.2.2.2.2.2.1⟩ (fun c hc h=>Zh2 hb hc h);generalize b.span (b.held [])=S at *;generalize b.kF (b.held []) S o.it o.day 1000=R at *;clear hJ hP jO;simp[-getElem?_pos,-List.getElem?_map,-decide_eq_true_eq,-decide_eq_false_iff_not,Bk.cells,aS,aK,aI,pY];refine xM (gF:=[.pv b.pv,.ptr (.par 0) 0,.pv (.i o.it),.pv (.i o.day),.pv (.i 1000)]) (B:=laid 0 (P5 S (b.held []))) (fs:=[]) (cs:=[]) 27 [.loc 8 0] ?_ rfl rfl ?_ ?_ ?_ mS ?_
  .simp
  .simp[laid,P5]
  .rfl
  .rfl
  rintro r0 B0 ⟨rfl,rfl⟩;refine⟨rfl,by simp[laid,P5],?_⟩;simp[-getElem?_pos,-List.getElem?_map,-decide_eq_true_eq,-decide_eq_false_iff_not,laid,P5,Cr.pv];refine AP (k:=0) (fs:=[]) (xs:=[.aE false 1 ((b.held []).map aN),.i o.num]) (cs:=[]) rfl rfl hh rfl ?_;cases e1:(b.held []).contains o.num
  .have aB:=aB (by rw[H3,e1];rfl);simp[-decide_eq_true_eq,-decide_eq_false_iff_not,hw];exact⟨_,_,aH,Sub.mk (by simp) (by simp[Bk.cells,aS,aK]),aB⟩
  cases e2:decide (R.hi<R.lo)
  .have aB:=aB (by rw[H3,e1,e2];rfl);simp[-decide_eq_true_eq,-decide_eq_false_iff_not,hw,e2];exact⟨_,_,aH,Sub.mk (by simp) (by simp[Bk.cells,aS,aK]),aB⟩
  have Cx:=PF (by rw[H3,e1,e2];rfl);subst Cx;simp[-decide_eq_true_eq,-decide_eq_false_iff_not,e2]
 have he:k=b.aA.length:=by omega
 subst he;rw[hinv]at hT;subst hT;simp[Bk.cells,aS,aK]
end


section
attribute [local irreducible] Bk.held Bk.nums Bk.iS Bk.span
end
section

attribute [local irreducible] Bk.held Bk.nums Bk.iS Bk.span
section
variable {b b':Bk}{t:Int}
theorem ZtE (hb:b.ok){item day:Int}(h:b.rA item day=true):(b.item item).gZ=true\/∃o∈b.aA,Bk.pS item day 1000 o=true/\o.num∈b.held []:=by
 unfold Bk.rA at h;rw[rR,Ze hb,oT]at h;rcases h with h|⟨o,ho,h⟩
 .exact .inl h
 .rw[dK,jF]at h;exact .inr ⟨o,ho,h.1,h.2⟩
theorem Zre {item day:Int}(h:b.uW item day=0):b.rA item day=true:=by
 unfold Bk.uW at h;split at h
 .split at h
  .split at h
   .assumption
   .cases h
  .cases h
 .rename_i h0;exact absurd h h0
theorem Zrd {item day:Int}(h:b.uW item day=0):0<=item/\item<b.items.length/\0<=day/\day<=1000:=by
 unfold Bk.uW at h;split at h
 .split at h
  .rename_i h1;unfold Bk.uJ jC at h1;simp only[dK,decide_eq_true_eq]at h1;omega
  .cases h
 .rename_i h0;exact absurd h h0
theorem ZmB (hb:b.ok)(item day:Int):(b.uY item day).1.lV 1000000000:=by
 unfold Bk.uY;split
 .rename_i h;split
  .unfold Cr.lV;simp only;omega
  .obtain⟨h1,h2,_⟩:=Zrd h
   have:=Zx hb (held:=b.held []) (S:=b.span (b.held [])) (item:=item) (day:=day) (below:=1000) (A:=300000*1000) h1 h2 (by omega) (by omega) (ZtE hb (Zre h)) (fun o ho _ PU=>by
    have:=XL hb o ho PU
    have:=(wY hb ho).2.1
    unfold Cr.lV at *
    omega)
   show Cr.lV (b.kF (b.held []) (b.span (b.held [])) item day 1000) 1000000000;unfold Cr.lV at *;omega
 .unfold Cr.lV;simp only;omega
end
end
section
attribute [local irreducible] Bk.rV fK
theorem Zjk {y x:Int}{r:List Int}(h:y<x):dJ (y::r) x=dJ r x+1:=by
 unfold dJ;rw[xL,if_pos (by simpa using h)];rfl
theorem Zjl {y x:Int}{r:List Int}(hs:(y::r).Pairwise (·<·))(h:¬y<x):dJ (y::r) x=0:=by
 obtain⟨h1,_⟩:=H8.1 hs;unfold dJ;rw[xL,if_neg (by simpa using h)];rw[List.length_eq_zero_iff,List.filter_eq_nil_iff];intro z hz
 have:=h1 z hz
 simp;omega
theorem WK {l:List Int}{x:Int}:dJ l x<=l.length:=R3 _ _
def lO {α:Type}(l:List α)(i:Nat)(x:α):List α:=l.take i++x::l.drop i
theorem Gk {α:Type}{l:List α}{i:Nat}{x z:α}:z∈lO l i x↔z=x\/z∈l:=by
 unfold lO;rw[sE,jQ];constructor
 .rintro(h|h|h)
  .exact .inr (List.mem_of_mem_take h)
  .exact .inl h
  .exact .inr (List.mem_of_mem_drop h)
 .rintro(h|h)
  .exact .inr (.inl h)
  .rw[<-List.take_append_drop i l]at h;rcases sE.1 h with h|h
   .exact .inl h
   .exact .inr (.inr h)
theorem SV {α:Type}{l:List α}{i:Nat}{x:α}(h:i<=l.length):(lO l i x).length=l.length+1:=by
 unfold lO;rw[gE,pA,gI,uG];omega
theorem ZhB {α β:Type}{f:α->β}{l:List α}{i:Nat}{x:α}:(lO l i x).map f=lO (l.map f) i (f x):=by
 unfold lO;rw[lI,iQ,List.map_take,List.map_drop]
theorem Zdz {x:Int}:∀{l:List Int},l.Pairwise (·<·)->x∉l->(lO l (dJ l x) x).Pairwise (·<·)
 |[],_,_=>by simp[lO,dJ]
 |y::r,hs,hn=>by
  obtain⟨h1,h2⟩:=H8.1 hs;by_cases hy:y<x
  .rw[Zjk hy];have ih:=Zdz h2 (fun h=>hn (List.mem_cons_of_mem _ h));show(y::lO r (dJ r x) x).Pairwise (·<·);refine H8.2 ⟨fun z hz=>?_,ih⟩;rcases Gk.1 hz with rfl|h
   .exact hy
   .exact h1 z h
  .rw[Zjl hs hy];show(x::y::r).Pairwise (·<·);have ZV:x<y:=by
    have:x≠y:=fun e=>hn (by rw[e];exact List.mem_cons_self ..)
    omega
   refine H8.2 ⟨fun z hz=>?_,hs⟩;rcases jQ.1 hz with rfl|h
   .exact ZV
   .have:=h1 z h;omega
structure sG (k:Nat)(st:Wk):Prop where
 c:st.aA.length<=k
 b:st.bad.length<=k
 l:st.aJ.length<=k
 t:st.aG.length<=k
 r:st.runs.length<=k
 bk:Bk.ok ⟨qS,st.aA⟩
 bs:st.bad.Pairwise (·<·)
 bn:∀n∈st.bad,∃y∈st.aA,y.num=n
 s:(st.aJ.map Lt.num).Pairwise (·<·)
 lt:∀x∈st.aJ,vS x/\0<=x.limit/\x.limit<=1000
 tt:∀t∈st.aG,2<=t.item/\t.item<=5/\0<=t.day/\t.day<=1000/\0<=t.rd/\t.rd<=2000/\∃x∈st.aJ,x.num=t.fU
 on:∀r∈st.runs,∃h q o,r=pJ h q o/\1<=h/\h<=40/\0<=q/\q<=40/\1<=o/\o<=3
 r6:st.runs.length<=6
theorem Zix:Bk.ok ⟨qS,[]⟩:=Bk.V7.1 (by decide)
theorem vB:sG 0 jW:=⟨fE _,fE _,fE _,fE _,fE _,Zix,.nil,fun n h=>(by cases h),.nil,fun x h=>(by cases h),fun t h=>(by cases h),fun r h=>(by cases h),by decide⟩
theorem sG.mono {k k':Nat}{st:Wk}(h:sG k st)(hk:k<=k'):sG k' st:=
 ⟨lJ h.c hk,lJ h.b hk,lJ h.l hk,lJ h.t hk,lJ h.r hk,h.bk,h.bs,h.bn,h.s,h.lt,h.tt,h.on,h.r6⟩
theorem GF {l:List Ct}{bad:List Int}(h:Bk.ok ⟨qS,l⟩):(fB l bad).ok:=
 ⟨h.i,lJ (R3 _ _) h.c,h.it,fun x hx=>h.ct x (iY.1 hx).1,fun x hx y hy=>h.one x (iY.1 hx).1 y (iY.1 hy).1,fun x hx y hy=>h.day x (iY.1 hx).1 y (iY.1 hy).1⟩
theorem sG.fit {k:Nat}{st:Wk}(h:sG k st):zB st.aA st.bad st.aG:=fun t ht=>by
 have h1:=ZmB (GF (bad:=st.bad) h.bk) t.item t.day;obtain⟨_,_,_,_,h2,h3,_⟩:=h.tt t ht;unfold Cr.lV at h1;exact wrap64 (by omega)
theorem sG.ok {k:Nat}{st:Wk}(h:sG k st)(hk:k<=150):F4 st:=
 ⟨by have:=h.c;omega,by have:=h.b;omega,by have:=h.l;omega,by have:=h.t;omega,by have:=h.r;omega,fun x hx=>(h.lt x hx).1,h.fit,fun r hr=>by
  obtain⟨a,b,c,rfl,_⟩:=h.on r hr;show 2<=1000
  omega⟩
theorem AL {α β:Type}{r:Except Int α}{f:α->β}{w:β}(h:r.map f=.ok w):∃l,r=.ok l/\w=f l:=by
 cases r with
 |ok l=>cases h;exact⟨l,rfl,rfl⟩
 |error e=>cases h
theorem Zlj {l l':List Ct}{bad:List Int}{x:Ct}(h:mB l bad x=.ok l'):l'=l++[x]/\Bk.ok ⟨qS,l++[x]⟩/\(fB (l++[x]) bad).rV.2=7/\∀y∈l,y.num≠x.num:=by
 unfold mB at h;split at h
 .cases h
 .rename_i h0;split at h
  .rename_i h1;split at h
   .rename_i h2;cases h;refine⟨rfl,Bk.V7.1 h1,h2,fun y hy e=>h0 ?_⟩;exact oT.2 ⟨y,hy,by simpa using e⟩
   .cases h
  .cases h
theorem ZoM {l:List Ct}{bad b':List Int}{n:Int}(h:pQ l bad n=.ok b'):(∃y∈l,y.num=n)/\n∉bad/\b'=lO bad (dJ bad n) n:=by
 unfold pQ at h;split at h
 .rename_i h0;split at h
  .cases h
  .rename_i h1;cases h;obtain⟨y,hy,e⟩:=oT.1 h0;exact⟨⟨y,hy,by simpa using e⟩,h1,rfl⟩
 .cases h
theorem Ztk {ls l':List Lt}{x:Lt}(h:pK ls x=.ok l'):(vS x/\0<=x.limit/\x.limit<=1000)/\x.num∉ls.map Lt.num/\l'=lO ls (dJ (ls.map Lt.num) x.num) x:=by
 unfold pK at h;split at h
 .rename_i h0;split at h
  .cases h
  .rename_i h1;cases h;simp only[dK,decide_eq_true_eq]at h0;exact⟨⟨⟨h0.1.1,h0.1.2,h0.2.1.1,h0.2.1.2⟩,h0.2.2⟩,h1,rfl⟩
 .cases h
theorem Zo4 {S:Int->Int->Bool}{v:Lt->Int}{ls:List Lt}{ts l':List Tt}{q:Tt}(h:kP S v ls ts q=.ok l'):l'=ts++[q]/\(2<=q.item/\q.item<=5/\0<=q.day/\q.day<=1000/\0<=q.rd/\q.rd<=2000)/\S q.item q.day=true/\∃x∈ls,x.num=q.fU/\x.passed=false/\v x=3/\(kS ts q.fU:Int)<x.pieces:=by
 unfold kP at h;split at h
 .rename_i h0;split at h
  .rename_i x hx;split at h
   .rename_i h1;split at h
    .cases h
    .rename_i h2;split at h
     .rename_i h3;split at h
      .rename_i h4;split at h
       .rename_i h5;cases h;simp only[dK,decide_eq_true_eq]at h0;exact⟨rfl,⟨h0.1.1,h0.1.2,h0.2.1.1,h0.2.1.2,h0.2.2.1,h0.2.2.2⟩,h5,x,dL hx,h1,by simpa using h2,h3,h4⟩
       .cases h
      .cases h
     .cases h
   .cases h
  .cases h
 .cases h
theorem ZpK {v:Lt->Int}{ls l':List Lt}{n:Int}(h:jK v ls n=.ok l'):∃i x,ls[i]?=some x/\x.num=n/\x.passed=false/\v x=1/\l'=ls.set i { x with passed:=true }:=by
 unfold jK at h;split at h
 .rename_i x hx;split at h
  .rename_i h1;split at h
   .cases h
   .rename_i h2;split at h
    .cases h
    .split at h
     .rename_i h4;cases h;exact⟨_,x,hx,h1,by simpa using h2,h4,rfl⟩
     .cases h
  .cases h
 .cases h
theorem ZmY {F:Nat}{rs l':List Qn.Rq}{a r o:Int}(h:runM F rs a r o=.ok l'):l'=rs++[pJ a r o]/\(1<=a/\a<=40/\0<=r/\r<=40/\1<=o/\o<=3)/\rs.length<6/\fK F (uK (rs++[pJ a r o]))=0:=by
 unfold runM at h;split at h
 .rename_i h0;split at h
  .rename_i h1;split at h
   .rename_i h2;cases h;simp only[dK,decide_eq_true_eq]at h0;exact⟨rfl,⟨h0.1.1,h0.1.2,h0.2.1.1,h0.2.1.2,h0.2.2.1,h0.2.2.2⟩,h1,h2⟩
   .cases h
  .cases h
 .cases h
theorem ZmS {ls:List Lt}{i:Nat}{x:Lt}(h:ls[i]?=some x):(ls.set i { x with passed:=true }).map Lt.num=ls.map Lt.num:=by
 rw[List.map_set];apply List.ext_getElem?;intro j;rw[List.getElem?_set];split
 .rename_i e;subst e;obtain⟨hl,hx⟩:=bZ.1 h;rw[fQ,if_pos hl,bR,h];rfl
 .rfl
theorem sG.step {F:Nat}{k:Nat}{st w:Wk}{g:FuncId}{nums:List Int}(h:sG k st)(hw:tF F st g nums=.ok w):sG (k+1) w:=by
 have h':=h.mono (Nat.le_succ k);unfold tF at hw;split at hw
 .split at hw
  .obtain⟨l,h1,rfl⟩:=AL hw;obtain⟨rfl,h2,_,_⟩:=Zlj h1;exact⟨by rw[gE];exact Nat.succ_le_succ h.c,h'.b,h'.l,h'.t,h'.r,h2,h.bs,fun n hn=>by
    obtain⟨y,hy,e⟩:=h.bn n hn;exact⟨y,List.mem_append_left _ hy,e⟩,h.s,h.lt,h.tt,h.on,h.r6⟩
  .cases hw
 split at hw
 .split at hw
  .obtain⟨l,h1,rfl⟩:=AL hw;obtain⟨h2,h3,rfl⟩:=ZoM h1;exact⟨h'.c,by rw[SV WK];exact Nat.succ_le_succ h.b,h'.l,h'.t,h'.r,h.bk,Zdz h.bs h3,fun n hn=>by
    rcases Gk.1 hn with rfl|hn
    .exact h2
    .exact h.bn n hn,h.s,h.lt,h.tt,h.on,h.r6⟩
  .cases hw
 split at hw
 .split at hw
  .obtain⟨l,h1,rfl⟩:=AL hw;obtain⟨h2,h3,rfl⟩:=Ztk h1;have hle:∀x,dJ (st.aJ.map Lt.num) x<=(st.aJ.map Lt.num).length:=fun x=>WK
   simp only[fQ]at hle;refine⟨h'.c,h'.b,by rw[SV (hle _)];exact Nat.succ_le_succ h.l,h'.t,h'.r,h.bk,h.bs,h.bn,?_,fun x hx=>?_,fun t ht=>?_,h.on,h.r6⟩
   .rw[ZhB];exact Zdz h.s h3
   .rcases Gk.1 hx with rfl|hx
    .exact h2
    .exact h.lt x hx
   .obtain⟨a1,a2,a3,a4,a5,a6,y,hy,e⟩:=h.tt t ht;exact⟨a1,a2,a3,a4,a5,a6,y,Gk.2 (.inr hy),e⟩
  .cases hw
 split at hw
 .split at hw
  .obtain⟨l,h1,rfl⟩:=AL hw;obtain⟨rfl,h2,_,x,hx,h3,_⟩:=Zo4 h1;refine⟨h'.c,h'.b,h'.l,by rw[gE];exact Nat.succ_le_succ h.t,h'.r,h.bk,h.bs,h.bn,h.s,h.lt,fun t ht=>?_,h.on,h.r6⟩;rcases sE.1 ht with ht|ht
   .exact h.tt t ht
   .rw[rU]at ht;subst ht;obtain⟨a1,a2,a3,a4,a5,a6⟩:=h2;exact⟨a1,a2,a3,a4,a5,a6,x,hx,h3⟩
  .cases hw
 split at hw
 .split at hw
  .obtain⟨l,h1,rfl⟩:=AL hw;obtain⟨i,x,hx,h2,h3,_,rfl⟩:=ZpK h1;have hm:∀y∈st.aJ.set i { x with passed:=true },∃z∈st.aJ,y.num=z.num/\y.pieces=z.pieces/\y.limit=z.limit:=fun y hy=>by
    rcases List.mem_or_eq_of_mem_set hy with hy|rfl
    .exact⟨y,hy,rfl,rfl,rfl⟩
    .exact⟨x,dL hx,rfl,rfl,rfl⟩
   refine⟨h'.c,h'.b,by rw[List.length_set];exact h'.l,h'.t,h'.r,h.bk,h.bs,h.bn,?_,fun y hy=>?_,fun t ht=>?_,h.on,h.r6⟩
   .rw[ZmS hx];exact h.s
   .obtain⟨z,hz,e1,e2,e3⟩:=hm y hy
    have:=h.lt z hz
    unfold vS at *;rw[e1,e2,e3];exact this
   .obtain⟨a1,a2,a3,a4,a5,a6,y,hy,e⟩:=h.tt t ht;refine⟨a1,a2,a3,a4,a5,a6,?_⟩
    have:y.num∈(st.aJ.set i { x with passed:=true }).map Lt.num:=by rw[ZmS hx];exact List.mem_map_of_mem hy
    obtain⟨z,hz,e'⟩:=iL.1 this;exact⟨z,hz,by rw[e',e]⟩
  .cases hw
 .split at hw
  .obtain⟨l,h1,rfl⟩:=AL hw;obtain⟨rfl,h2,h3,_⟩:=ZmY h1;refine⟨h'.c,h'.b,h'.l,h'.t,by rw[gE];exact Nat.succ_le_succ h.r,h.bk,h.bs,h.bn,h.s,h.lt,h.tt,fun r hr=>?_,by rw[gE];exact h3⟩;rcases sE.1 hr with hr|hr
   .exact h.on r hr
   .rw[rU]at hr;subst hr;exact⟨_,_,_,rfl,h2⟩
  .cases hw
theorem sG.next {F:Nat}{k:Nat}{st:Wk}(h:sG k st)(s:ByteArray):sG (k+1) (lS F st s).1:=by
 unfold lS pT;cases hp:P0 s with
 |none=>exact h.mono (Nat.le_succ k)
 |some q=>
  obtain⟨g,nums⟩:=q;dsimp only;cases hd:tF F st g nums with
  |error e=>exact h.mono (Nat.le_succ k)
  |ok w=>exact h.step hd
end
section

theorem Zvf {b:Bk}(hb:b.ok){item day:Int}(h0:0<=item)(h1:item<b.items.length)(h2:0<=day)(h3:day<=1000):b.uW item day=if b.rA item day=true then 0 else 10:=by
 unfold Bk.uW Bk.uJ jC;rw[Bk.V7.2 hb,decide_eq_true h0,decide_eq_true (show item<=(b.items.length:Int)-1 by omega),decide_eq_true h2,decide_eq_true h3];rfl
attribute [local irreducible] Bk.held Bk.nums Bk.iS Bk.span
section
variable {b b':Bk}
structure F7 (b b':Bk):Prop where
 i:b'.items=b.items
 c:∀c∈b.aA,c∈b'.aA
theorem F7.item (h:F7 b b')(i:Int):b'.item i=b.item i:=by unfold Bk.item;rw[h.i]
theorem F7.held (hb:b.ok)(nO:b'.ok)(h:F7 b b'){x:Int}(hx:x∈b.held []):x∈b'.held []:=ZiA hb nO (fun c _=>h.item _) h.c (fun _ h=>h) hx
theorem F7.Zxx (hb:b.ok)(nO:b'.ok)(h:F7 b b')(item day below:Int):(b'.kF (b'.held []) (b'.span (b'.held [])) item day below).sub (b.kF (b.held []) (b.span (b.held [])) item day below):=
 Ziv (h.item _) h.c (fun x hx=>h.held hb nO hx) fun c hc _ hx=>Zmz hb nO (fun c _=>h.item _) h.c c hc hx
theorem F7.contra (hb:b.ok)(nO:b'.ok)(h:F7 b b')(hc:b.contra=true):b'.contra=true:=by
 unfold Bk.contra at hc ⊢;rw[oT]at hc ⊢;obtain⟨c,hc,e⟩:=hc;rw[dK,jF,decide_eq_true_eq]at e;refine⟨c,h.c c hc,?_⟩;have hs:=h.Zxx hb nO c.it c.day 1000;unfold Cr.sub at hs;rw[dK,jF,decide_eq_true_eq];exact⟨h.held hb nO e.1,by omega⟩
end
end
section
attribute [local irreducible] Bk.rV fK Bk.contra Bk.held Bk.span Bk.nums
theorem ZhP {bad:List Int}{x:Ct}:wR bad x=true↔x.num∈bad:=by
 unfold wR;simp
theorem Zk7 {l:List Ct}{bad:List Int}{x:Ct}:x∈fR l bad↔x∈l/\x.num∉bad:=by
 unfold fR;rw[iY];constructor
 .rintro⟨h1,h2⟩;refine⟨h1,fun h=>?_⟩;rw[ZhP.2 h]at h2;cases h2
 .rintro⟨h1,h2⟩;refine⟨h1,?_⟩;cases hb:wR bad x with
  |false=>rfl
  |true=>exact absurd (ZhP.1 hb) h2
theorem Zn7 {l:List Ct}{bad yM:List Int}(h:∀n∈bad,n∈yM):F7 (fB l yM) (fB l bad):=
 ⟨rfl,fun c hc=>by
  obtain⟨h1,h2⟩:=Zk7.1 hc;exact Zk7.2 ⟨h1,fun hh=>h2 (h _ hh)⟩⟩
theorem Zma {l:List Ct}{bad yM:List Int}(hl:Bk.ok ⟨qS,l⟩)(h:∀n∈bad,n∈yM)(hc:(fB l bad).contra=false):(fB l yM).contra=false:=by
 cases hx:(fB l yM).contra with
 |false=>rfl
 |true=>rw[(Zn7 h).contra (GF hl) (GF hl) hx]at hc;cases hc
end
section
attribute [local irreducible] fK Bk.contra Bk.held Bk.span Bk.nums Bk.fault
theorem Zfb {b:Bk}(hb:b.ok)(h:b.rV.2=7):b.contra=false:=by
 have hf:=Bk.V7.2 hb;unfold Bk.rV at h;rw[if_pos hf]at h;cases hc:b.contra with
 |false=>rfl
 |true=>rw[hc,if_pos rfl]at h;cases h
theorem Zsi {b:Bk}(hb:b.ok)(h:b.contra=false):b.rV=([],7):=by
 have hf:=Bk.V7.2 hb;unfold Bk.rV;rw[if_pos hf,h,if_neg (by decide)]
structure AR (st:Wk):Prop where
 nc:(fB st.aA st.bad).contra=false
 q:fK 408 (uK st.runs)=0
theorem AW:AR jW:=⟨Zfb (b:=fB [] []) (GF Zix) (by decide +kernel),by decide +kernel⟩
theorem AR.step {k:Nat}{st w:Wk}{g:FuncId}{nums:List Int}(h:sG k st)(j:AR st)(hw:tF 408 st g nums=.ok w):AR w:=by
 unfold tF at hw;split at hw
 .split at hw
  .obtain⟨l,h1,rfl⟩:=AL hw;obtain⟨rfl,h2,h3,_⟩:=Zlj h1;exact⟨Zfb (GF h2) h3,j.q⟩
  .cases hw
 split at hw
 .split at hw
  .obtain⟨l,h1,rfl⟩:=AL hw;obtain⟨h2,h3,rfl⟩:=ZoM h1;exact⟨Zma h.bk (fun n hn=>Gk.2 (.inr hn)) j.nc,j.q⟩
  .cases hw
 split at hw
 .split at hw
  .obtain⟨l,h1,rfl⟩:=AL hw;exact⟨j.nc,j.q⟩
  .cases hw
 split at hw
 .split at hw
  .obtain⟨l,h1,rfl⟩:=AL hw;exact⟨j.nc,j.q⟩
  .cases hw
 split at hw
 .split at hw
  .obtain⟨l,h1,rfl⟩:=AL hw;exact⟨j.nc,j.q⟩
  .cases hw
 .split at hw
  .obtain⟨l,h1,rfl⟩:=AL hw;obtain⟨rfl,_,_,h4⟩:=ZmY h1;exact⟨j.nc,h4⟩
  .cases hw
theorem AR.next {k:Nat}{st:Wk}(h:sG k st)(j:AR st)(s:ByteArray):AR (lS 408 st s).1:=by
 unfold lS pT;cases hp:P0 s with
 |none=>exact j
 |some q=>
  obtain⟨g,nums⟩:=q;dsimp only;cases hd:tF 408 st g nums with
  |error e=>exact j
  |ok w=>exact j.step h hd
theorem Lh:∀{l:List ByteArray} {k:Nat} {st:Wk},sG k st->AR st->sG (k+l.length) (dA (lS 408) st l).1/\AR (dA (lS 408) st l).1
 |[],k,st,h,j=>⟨h,j⟩
 |x::l,k,st,h,j=>by
  have:=Lh (l:=l) (h.next (F:=408) x) (j.next h x)
  rw[show k+1+l.length=k+(x::l).length by rw[pA];omega]at this;exact this
end
section
attribute [local irreducible] Bk.rV fK Bk.contra Bk.held Bk.span Bk.nums Bk.rA
theorem Zlm {b:Bk}{i d:Int}:(b.j5 i d).2=b.uW i d:=by
 unfold Bk.j5;split
 .rename_i h;rw[h]
  split<;>rfl
 .rfl
end
def tA (S:Int->Int->Bool)(G:Tt->Bool)(num:Int):List Tt->List Bool->Int×Nat
 |[],rs=>(3,rs.length)
 |t::l,rs=>if t.fU=num/\S t.item t.day=true then(if(cY (rs++[!G t])).1=3 then tA S G num l (rs++[!G t])else((cY (rs++[!G t])).1,(rs++[!G t]).length))else tA S G num l rs
theorem Zti {S:Int->Int->Bool}{G:Tt->Bool}{num:Int}{rs:List Bool}:tA S G num [] rs=(3,rs.length):=rfl
theorem Zht {S:Int->Int->Bool}{G:Tt->Bool}{num:Int}{t:Tt}{l:List Tt}{rs:List Bool}:tA S G num (t::l) rs=if t.fU=num/\S t.item t.day=true then(if(cY (rs++[!G t])).1=3 then tA S G num l (rs++[!G t])else((cY (rs++[!G t])).1,(rs++[!G t]).length))else tA S G num l rs:=rfl
theorem Lr {S:Int->Int->Bool}{G:Tt->Bool}{num:Int}:∀{l:List Tt} {rs:List Bool},(tA S G num l rs).1=iC S G num l rs
 |[],rs=>rfl
 |t::l,rs=>by
  rw[Zht,Zgj];split
  .split
   .exact Lr
   .rfl
  .exact Lr
def lC (rs:List Bool):Prop:=rs.length<2\/(rs.length<4/\eD (dD (rs.take 2)) 0 2=3)
theorem ZkE:lC []:=.inl (by decide)
theorem lC.len {rs:List Bool}(h:lC rs):rs.length<=3:=by
 rcases h with h|⟨h,_⟩<;>omega
theorem lC.step {rs:List Bool}(h:lC rs)(b:Bool):(cY (rs++[b])).2.2=0/\((cY (rs++[b])).1=3->lC (rs++[b])):=by
 have hl:(rs++[b]).length=rs.length+1:=by rw[gE];rfl
 rcases h with h|⟨h4,hs⟩
 .by_cases h1:rs.length+1<2
  .unfold cY lC;rw[hl,if_pos h1];exact⟨rfl,fun _=>.inl h1⟩
  .have h2:rs.length+1=2:=by omega
   unfold cY lC;rw[hl,if_neg h1,h2];by_cases h3:eD (dD ((rs++[b]).take 2)) 0 2=3
   .rw[if_pos h3,if_pos (by decide)];exact⟨rfl,fun _=>.inr ⟨by decide,h3⟩⟩
   .rw[if_neg h3,if_neg (by decide)];exact⟨rfl,fun h=>absurd h h3⟩
 .by_cases h1:rs.length<2
  .by_cases H4:rs.length+1<2
   .unfold cY lC;rw[hl,if_pos H4];exact⟨rfl,fun _=>.inl H4⟩
   .have h2:rs.length+1=2:=by omega
    unfold cY lC;rw[hl,if_neg H4,h2];by_cases h3:eD (dD ((rs++[b]).take 2)) 0 2=3
    .rw[if_pos h3,if_pos (by decide)];exact⟨rfl,fun _=>.inr ⟨by decide,h3⟩⟩
    .rw[if_neg h3,if_neg (by decide)];exact⟨rfl,fun h=>absurd h h3⟩
  .have ht:(rs++[b]).take 2=rs.take 2:=List.take_append_of_le_length (by omega);unfold cY lC;rw[hl,if_neg (by omega),ht,if_pos hs];by_cases h3:rs.length+1<4
   .rw[if_pos h3];exact⟨rfl,fun _=>.inr ⟨h3,hs⟩⟩
   .rw[if_neg h3,if_neg (by omega)];refine⟨rfl,fun h=>?_⟩;exfalso;revert h;show eD _ 1 2≠3;unfold eD;split
    .decide
    .split
     .decide
     .omega
def tQ (len:Nat)(ds:List UInt8):Option Nat:=if ds.length=0\/9<ds.length\/(ds.head?=some 48/\1<len)then none else Lib.decFrom 0 ds
def xZ (s:ByteArray):Option Int:=match s.data.toList with
 |45::r=>(tQ (r.length+1) r).map fun(n:Nat)=>-(n:Int)
 |l=>(tQ l.length l).map fun(n:Nat)=>(n:Int)
theorem Od {b:UInt8}:∀{l:List UInt8} {acc:Nat},Lib.decFrom acc (l++[b])=(Lib.decFrom acc l).bind fun n=>(Lib.digitVal b).map fun d=>n*10+d
 |[],acc=>by
  simp only[List.nil_append,Lib.decFrom,Option.bind_some];cases Lib.digitVal b<;>rfl
 |x::l,acc=>by
  simp only[List.cons_append,Lib.decFrom];cases Lib.digitVal x with
  |none=>rfl
  |some d=>exact Od (l:=l)
theorem Xu {d:Nat}(h:d<10):Lib.digitVal (UInt8.ofNat (48+d))=some d:=by
 unfold Lib.digitVal;have e:(UInt8.ofNat (48+d)).toNat=48+d:=by rw[UInt8.toNat_ofNat'];omega
 rw[e,if_pos (by omega)];congr 1;omega
theorem ZrE {b:UInt8}{d:Nat}(h:Lib.digitVal b=some d):d<10/\b=UInt8.ofNat (48+d):=by
 unfold Lib.digitVal at h;split at h
 .rename_i hb;cases h;refine⟨by omega,UInt8.toNat_inj.1 ?_⟩;rw[UInt8.toNat_ofNat'];omega
 .cases h
theorem SS {u:Nat}(h:u<10):Lib.decDigits u=[UInt8.ofNat (48+u)]:=Lib.decDigits_one h
theorem Ga {u:Nat}(h:¬u<10):Lib.decDigits u=Lib.decDigits (u / 10)++[UInt8.ofNat (48+u%10)]:=by
 conv=>lhs;rw[Lib.decDigits,dif_neg h]
theorem ZhI (u:Nat):Lib.decFrom 0 (Lib.decDigits u)=some u:=by
 induction u using Nat.strongRecOn with
 |_ u ih=>
  by_cases h:u<10
  .rw[SS h];simp only[Lib.decFrom,Xu h];congr 1;omega
  .rw[Ga h,Od,ih (u / 10) (by omega),Option.bind_some,Xu (Nat.mod_lt _ (by decide)),uU];congr 1;omega
theorem SN (u:Nat):Lib.decDigits u≠[]:=by
 by_cases h:u<10
 .rw[SS h];simp
 .rw[Ga h];simp
theorem Zqy (u:Nat):(Lib.decDigits u).head?=some 48->u=0:=by
 induction u using Nat.strongRecOn with
 |_ u ih=>
  intro hh;by_cases h:u<10
  .rw[SS h]at hh;simp only[List.head?_cons,Option.some.injEq]at hh
   have:=congrArg UInt8.toNat hh
   rw[UInt8.toNat_ofNat']at this;have e:(48:UInt8).toNat=48:=rfl;omega
  .rw[Ga h]at hh;have h2:(Lib.decDigits (u / 10)++[UInt8.ofNat (48+u%10)]).head?=(Lib.decDigits (u / 10)).head?:=by
    cases hd:Lib.decDigits (u / 10)with
    |nil=>exact absurd hd (SN _)
    |cons c t=>rfl
   rw[h2]at hh
   have:=ih (u / 10) (by omega) hh
   omega
theorem canon:∀(k:Nat) (ds:List UInt8) (n:Nat),ds.length<=k->Lib.decFrom 0 ds=some n->ds≠[]->(ds.head?=some 48->ds.length=1)->ds=Lib.decDigits n
 |0,ds,n,hk,_,cZ,_=>absurd (List.length_eq_zero_iff.1 (by omega)) cZ
 |k+1,ds,n,hk,hf,cZ,hh=>by
  obtain⟨l,b,rfl⟩:∃l b,ds=l++[b]:=⟨ds.dropLast,ds.getLast cZ,(List.dropLast_concat_getLast cZ).symm⟩;rw[Od]at hf;rw[gE,List.length_singleton]at hk;cases hl:Lib.decFrom 0 l with
  |none=>rw[hl]at hf;cases hf
  |some v=>
   rw[hl,Option.bind_some]at hf;obtain⟨d,hd,rfl⟩:=eA.1 hf;obtain⟨tV,rfl⟩:=ZrE hd;by_cases qL:l=[]
   .subst qL;cases hl;rw[Nat.zero_mul,rT,SS tV];rfl
   .have Ug:l.head?≠some 48:=fun e=>by
     have h1:(l++[UInt8.ofNat (48+d)]).head?=some 48:=by
      cases l with
      |nil=>exact absurd rfl qL
      |cons c t=>exact e
     have h2:=hh h1;rw[gE,List.length_singleton]at h2;exact qL (List.length_eq_zero_iff.1 (by omega))
    have gS:=canon k l v (by omega) hl qL (fun e=>absurd e Ug);have hv:v≠0:=fun e=>by
     subst e;rw[gS]at Ug;exact Ug (by rw[SS (by decide)];rfl)
    rw[Ga (by omega),show(v*10+d) / 10=v by omega,show(v*10+d)%10=d by omega,<-gS]
theorem ZkQ {len:Nat}{ds:List UInt8}{n:Nat}(hlen:ds.length<=len)(h:tQ len ds=some n):ds=Lib.decDigits n/\ds.length<=9/\(1<len->ds.head?≠some 48):=by
 unfold tQ at h;split at h
 .cases h
 .rename_i hc;have h1:ds.length≠0:=fun e=>hc (.inl e)
  have h2:ds.length<=9:=Nat.le_of_not_lt fun e=>hc (.inr (.inl e))
  have h3:1<len->ds.head?≠some 48:=fun hl e=>hc (.inr (.inr ⟨e,hl⟩))
  refine⟨canon ds.length ds n (fE _) h (fun e=>h1 (by rw[e];rfl)) (fun e=>?_),h2,h3⟩;by_cases hl:1<len
  .exact absurd e (h3 hl)
  .omega
theorem ZnP {len u:Nat}(hlen:len=1->u<10)(h:(Lib.decDigits u).length<=9)(h0:1<len->u≠0\/len=(Lib.decDigits u).length):tQ len (Lib.decDigits u)=some u:=by
 unfold tQ;rw[if_neg,ZhI];rintro(e|e|⟨e1,e2⟩)
 .exact SN u (List.length_eq_zero_iff.1 e)
 .omega
 .have:=Zqy u e1
  subst this;rcases h0 e2 with h|h
  .exact h rfl
  .rw[h,SS (by decide)]at e2;exact absurd e2 (by decide)
theorem Zrb (k:Nat)(h:(Lib.decDigits k).length<=9):Lib.atoiAll (Lib.decDigits k)=.ok (k:Int):=by
 rw[Lib.atoiAll_short _ (by omega)];have mP:=Lg k;have hf:=ZhI k;have cZ:=SN k;cases hd:Lib.decDigits k with
 |nil=>exact absurd hd cZ
 |cons c r=>
  rw[hd]at hf;have h45:c≠45:=mP c (by rw[hd];exact List.mem_cons_self ..);have h43:c≠43:=fun e=>by
   subst e;simp only[Lib.decFrom]at hf
   have:Lib.digitVal 43=none:=by decide
   rw[this]at hf;cases hf
  have e45:(c==45)=false:=by simpa using h45
  have e43:(c==43)=false:=by simpa using h43
  simp only[Lib.atoi,e45,e43,Lib.decNat,List.isEmpty_cons,Bool.false_eq_true,if_false,hf,uU];rfl
theorem Zra (k:Nat)(h:(Lib.decDigits k).length<=9):Lib.atoiAll (45::Lib.decDigits k)=.ok (-(k:Int)):=by
 rw[Lib.atoiAll_short _ (by rw[pA];omega)];have hf:=ZhI k;have cZ:=SN k;have he:(Lib.decDigits k).isEmpty=false:=by
  cases hd:Lib.decDigits k with
  |nil=>exact absurd hd cZ
  |cons c r=>rfl
 simp only[Lib.atoi,Lib.decNat,he,Bool.false_eq_true,if_false,hf,uU];rfl
theorem Zj9 (k:Nat):Lib.trimPrefix (Lib.decDigits k) [45]=Lib.decDigits k:=by
 have mP:=Lg k;cases hd:Lib.decDigits k with
 |nil=>rfl
 |cons c r=>
  have hc:c≠45:=mP c (by rw[hd];exact List.mem_cons_self ..);simp[Lib.trimPrefix,Lib.hasPrefix]
  try exact fun e=>absurd e.symm hc
theorem Zj8 (l:List UInt8):Lib.trimPrefix (45::l) [45]=l:=by simp[Lib.trimPrefix,Lib.hasPrefix]
theorem ZnG {s:ByteArray}{v:Int}(h1:s.data.toList=Lib.itoa v)(h2:Lib.atoiAll (Lib.itoa v)=.ok v)(h3:(Lib.trimPrefix (Lib.itoa v) [45]).length<=9):lM s=some v:=by
 unfold lM;rw[h1,h2];have e:vX v=s:=by
  unfold vX;rw[<-h1]
 have e2:(trimB s ⟨#[45]⟩).size<=9:=by
  show(Lib.trimPrefix s.data.toList [45]).length<=9;rw[h1];exact h3
 exact if_pos ⟨e,e2⟩
theorem ZuH {s:ByteArray}{v:Int}(h:xZ s=some v):lM s=some v:=by
 unfold xZ at h;split at h
 .rename_i r hr;obtain⟨n,hn,rfl⟩:=eA.1 h;obtain⟨g1,g2,g3⟩:=ZkQ (Nat.le_succ _) hn;have xF:n≠0:=fun e=>by
   subst e
   have:r.length≠0:=fun e=>by
    unfold tQ at hn;rw[if_pos (.inl e)]at hn;cases hn
   exact g3 (by omega) (by rw[g1,SS (by decide)];rfl)
  have hi:Lib.itoa (-(n:Int))=45::Lib.decDigits n:=Lib.itoa_neg n (by omega);rw[g1]at g2;exact ZnG (by rw[hi,hr,g1]) (by rw[hi];exact Zra n g2) (by rw[hi,Zj8];exact g2)
 .rename_i l hl;obtain⟨n,hn,rfl⟩:=eA.1 h;obtain⟨g1,g2,_⟩:=ZkQ (fE _) hn;have hi:Lib.itoa (n:Int)=Lib.decDigits n:=Lib.itoa_nonneg n;have FC:=g2;rw[g1]at FC;exact ZnG (by rw[hi,<-g1]) (by rw[hi];exact Zrb n FC) (by rw[hi,Zj9];exact FC)
theorem ZuI {s:ByteArray}{v:Int}(h:lM s=some v):xZ s=some v:=by
 unfold lM at h;split at h
 .split at h
  .rename_i u _ hc;cases h;obtain⟨h1,h2⟩:=hc;have hs:s.data.toList=Lib.itoa v:=by rw[<-h1];rfl
   have h3:(Lib.trimPrefix s.data.toList [45]).length<=9:=h2;rw[hs]at h3;unfold xZ;rw[hs];by_cases Te:v<0
   .obtain⟨k,rfl⟩:∃k:Nat,v = -(k:Int):=⟨v.natAbs,by omega⟩;rw[Lib.itoa_neg k (by omega)]at h3 ⊢;rw[Zj8]at h3;show(tQ ((Lib.decDigits k).length+1) (Lib.decDigits k)).map (fun(n:Nat)=>-(n:Int))=_;rw[ZnP (fun e=>absurd e (by have:=List.length_pos_iff.2 (SN k);omega)) h3 (fun _=>.inl (by omega))];rfl
   .obtain⟨k,rfl⟩:∃k:Nat,v=(k:Int):=⟨v.toNat,by omega⟩;rw[Lib.itoa_nonneg]at h3 ⊢;rw[Zj9]at h3;have hm:=ZnP (len:=(Lib.decDigits k).length) (u:=k) (fun e=>by
     by_cases hk:k<10
     .exact hk
     .rw[Ga hk,gE,List.length_singleton]at e
      have:=List.length_pos_iff.2 (SN (k / 10))
      omega) h3 (fun _=>.inr rfl)
    have mP:=Lg k;cases hd:Lib.decDigits k with
    |nil=>exact absurd hd (SN k)
    |cons c r=>
     rw[hd]at hm;have hc:c≠45:=mP c (by rw[hd];exact List.mem_cons_self ..);split
     .rename_i r' e;exact absurd (List.cons.inj e).1 hc
     .rw[hm];rfl
  .cases h
 .cases h
theorem ZuG (s:ByteArray):xZ s=lM s:=by
 cases h:xZ s with
 |some v=>exact(ZuH h).symm
 |none=>
  cases h2:lM s with
  |none=>rfl
  |some v=>rw[ZuI h2]at h;cases h
def I5:List UInt8->List (List UInt8)
 |[]=>[[]]
 |c::r=>if c=32 then[]::I5 r else match I5 r with
  |h::t=>(c::h)::t
  |[]=>[[c]]
theorem Hv (c:UInt8)(r:List UInt8):I5 (c::r)=if c=32 then[]::I5 r else match I5 r with
  |h::t=>(c::h)::t
  |[]=>[[c]]:=rfl
theorem Zk2:∀l:List UInt8,(Lib.index l [32] = -1/\I5 l=[l])\/∃i:Nat,Lib.index l [32]=(i:Int)/\i<l.length/\I5 l=l.take i::I5 (l.drop (i+1))
 |[]=>.inl ⟨by decide,rfl⟩
 |c::r=>by
  by_cases hc:c=32
  .subst hc;refine .inr ⟨0,?_,by simp,?_⟩
   .simp[Lib.index]
   .simp[I5]
  .have hp:([32]:List UInt8).isPrefixOf (c::r)=false:=by
    simp[List.isPrefixOf];exact fun e=>absurd e.symm hc
   rcases Zk2 r with⟨h1,h2⟩|⟨i,h1,h2,h3⟩
   .refine .inl ⟨?_,?_⟩
    .unfold Lib.index;rw[hp,h1];rfl
    .rw[Hv,if_neg hc,h2]
   .refine .inr ⟨i+1,?_,by rw[pA];omega,?_⟩
    .unfold Lib.index;rw[hp,h1]
     have:((i:Int)==-1)=false:=by
      rw[beq_eq_false_iff_ne];omega
     rw[this];simp
    .rw[Hv,if_neg hc,h3];rfl
theorem Zke:∀(k:Nat) (l:List UInt8),Lib.count l [32]=k->Lib.splitK [32] 0 k l=I5 l
 |k,l,hk=>by
  rcases Zk2 l with⟨h1,h2⟩|⟨i,h1,h2,h3⟩
  .have h0:k=0:=by rw[<-hk];exact Lib.count_miss h1
   subst h0;rw[h2];rfl
  .have hc:=Lib.count_hit (s:=l) (sub:=[32]) (by simp) h1;rw[hk]at hc;cases k with
   |zero=>omega
   |succ k=>
    have VC:Lib.count (l.drop (i+[32].length)) [32]=k:=by omega
    have ih:=Zke k (l.drop (i+1)) VC;unfold Lib.splitK;rw[h1]
    have:((i:Int)==-1)=false:=by
     rw[beq_eq_false_iff_ne];omega
    rw[this,h3];simp only[Bool.false_eq_true,if_false,Nat.add_zero,List.length_singleton,H7];rw[ih]
termination_by k=>k
theorem Zo9 (s:ByteArray):(xP s blank).map (·.data.toList)=I5 s.data.toList:=by
 unfold xP;rw[Lib.splitB_data];exact Zke _ _ rfl
section

theorem Zfd:∀{l r:List UInt8},(∀c∈l,c≠32)->I5 (l++32::r)=l::I5 r
 |[],r,_=>by
  rw[List.nil_append,Hv,if_pos rfl]
 |c::l,r,h=>by
  rw[List.cons_append,Hv,if_neg (h c (List.mem_cons_self ..)),Zfd (fun x hx=>h x (List.mem_cons_of_mem _ hx))]
theorem Zfe:∀{l:List UInt8},(∀c∈l,c≠32)->I5 l=[l]
 |[],_=>rfl
 |c::l,h=>by
  rw[Hv,if_neg (h c (List.mem_cons_self ..)),Zfe (fun x hx=>h x (List.mem_cons_of_mem _ hx))]
theorem Zmb {a b:ByteArray}(h:a.data.toList=b.data.toList):a=b:=ByteArray.ext (yU.1 h)
theorem ZeM:∀{l m:List ByteArray},l.map (·.data.toList)=m.map (·.data.toList)->l=m
 |[],[],_=>rfl
 |[],b::m,h=>by cases h
 |a::l,[],h=>by cases h
 |a::l,b::m,h=>by
  simp only[iQ,List.cons.injEq]at h;rw[Zmb h.1,ZeM h.2]
attribute [local irreducible] Bk.rV fK Bk.contra Bk.held Bk.span Bk.nums Bk.rA stM iC
end
section
open Go.RowKit Go.Shelf
theorem Mp {P:Program}(w:World)(dT sT ty elem:TypeId){k:Nat}(g q dl dc sl sc:Nat)(a:Addr)(cs:Array Value)(T:TypeId)(ds:List Value)(hu:P.underlying dT=some (.slice elem))(hs:eI P elem=some k)
  (hg:w.heap[g]?=some (.cells cs T (0,0))) (hl:ds.length=Nat.min sl dl*k) (Se:∀j v,ds[j]?=some v->w.cell? (a.add j)=some v) (dE:q+ds.length<=cs.size) (h1:∀v∈ds,v.oneCell'=true):
  (Builtin.copy_ #[dT,sT] ty #[.slice (some ⟨g,q,none⟩) dl dc,.slice (some a) sl sc]).run P w=.ok (goInt (Nat.min sl dl)) (w.setRow g (aR cs.toList q ds).toArray):=by
 have HW:=run_loadCells_list (P:=P) w a ds Se;have bQ:=run_storeCells_at P g q T ds 0 cs w hg (by simpa using dE) h1;simp only[Nat.add_zero]at bQ;simp[Builtin.copy_,run_underlying hu,Builtin.lenOf,Builtin.firstCells,Go.Proofs.YthmbecacehfgfaaGreatDoor.run_sizeOf hs,<-hl,HW,bQ,aR]
def EA (TE:TypeId)(k b n:Nat)(Ke:List Value)(w:World)(e:Ending)(w':World):Prop:=
 ∃b' o' c' iK,e=.returned (.slice (some ⟨b',o',none⟩) (n+1) c')/\w'.heap[b']?=some (.cells iK TE (0,0))/\(∀j,j<(n+1)*k->iK[o'+j]?=Ke[j]?)/\o'+c'*k<=iK.size/\n+1<=c'/\c'<=maxLen/\(b'=b\/w.heap.size<=b')/\cV [b] w w'
theorem zG {a b:Nat}(h:a<=b):Nat.min a b=a:=Nat.min_eq_left h
theorem LL {a b:Nat}(h:b<=a):Nat.min a b=b:=Nat.min_eq_right h
theorem Fu (w:World)(bs:List Nat):cV bs w w.drew:=⟨rfl,rfl,rfl,fE _,fun _ _ _=>rfl⟩
structure W8 (f:FuncId)(S T:TypeId)(k:Nat):Prop where
 pos:0<k
 A3:prog.underlying S=some (.slice T)
 Iu:eI prog T=some k
 inf:∃i z,prog.info? T=some i/\i.zero=some z/\i.size=k/\(i.bytes=8\/i.bytes=32)/\z.cells.size=k
 last:∀(base:Option Addr) (n c vb vo vc:Nat) (w W2:World) (R:Value) (E:Ending->World->Prop),n<=c->c<=maxLen->(base=none->n=0/\c=0)->(∀ty,(Builtin.append_ #[S,S] ty #[.slice base n c,.slice (some ⟨vb,vo,none⟩) 1 vc]).run prog w=.ok R W2)->E (.returned R) W2->
  Calls prog f #[.slice base n c,.i n,.slice (some ⟨vb,vo,none⟩) 1 vc] w E
 shift:∀(b o n c i vb vo vc:Nat) (cb cv:Array Value) (w W1 W2:World) (E:Ending->World->Prop),w.heap[b]?=some (.cells cb T (0,0))->w.heap[vb]?=some (.cells cv T (0,0))->vb≠b->i<n->n+1<=c->o+c*k<=cb.size->c<=maxLen->
  (∀ty q q' dl dc sl sc,q=o+(i+1)*k->q'=o+i*k->dl=n+1-(i+1)->sl=n+1-i->(Builtin.copy_ #[S,S] ty #[.slice (some ⟨b,q,none⟩) dl dc,.slice (some ⟨b,q',none⟩) sl sc]).run prog w.drew=.ok (goInt ((n-i:Nat):Int)) W1)->
  (∀ty q dl dc,q=o+i*k->dl=n+1-i->(Builtin.copy_ #[S,S] ty #[.slice (some ⟨b,q,none⟩) dl dc,.slice (some ⟨vb,vo,none⟩) 1 vc]).run prog W1=.ok (goInt 1) W2)->E (.returned (.slice (some ⟨b,o,none⟩) (n+1) c)) W2->
  Calls prog f #[.slice (some ⟨b,o,none⟩) n c,.i i,.slice (some ⟨vb,vo,none⟩) 1 vc] w E
 grow:∀(b o n c i vb vo vc G:Nat) (uM C2 C3:Array Value) (w:World) (E:Ending->World->Prop),i<n->c<n+1->n<=c->n<=1000000->n+1<=G->G<=maxLen->
  (∀ty (j:Int),j=((n+1-i:Nat):Int)->(Builtin.append_ #[S,3] ty #[.slice (some ⟨b,o,none⟩) i c,.i j]).run prog w=.ok (.slice (some ⟨w.heap.size,0,none⟩) (n+1) G) (w.drew.alloc (.cells uM T)))->
  (∀(W:World),W.heap=(w.drew.alloc (.cells uM T)).heap->∀ty q dl dc,q=i*k->dl=n+1-i->(Builtin.copy_ #[S,S] ty #[.slice (some ⟨w.heap.size,q,none⟩) dl dc,.slice (some ⟨vb,vo,none⟩) 1 vc]).run prog W=.ok (goInt 1) (W.setRow w.heap.size C2))->
  (∀(W:World),W.heap=((w.drew.alloc (.cells uM T)).setRow w.heap.size C2).heap->∀ty q q' dl dc sl sc,q=(i+1)*k->q'=o+i*k->dl=n+1-(i+1)->sl=n-i->
   (Builtin.copy_ #[S,S] ty #[.slice (some ⟨w.heap.size,q,none⟩) dl dc,.slice (some ⟨b,q',none⟩) sl sc]).run prog W=.ok (goInt ((n-i:Nat):Int)) (W.setRow w.heap.size C3))->
  E (.returned (.slice (some ⟨w.heap.size,0,none⟩) (n+1) G)) ((((w.drew.alloc (.cells uM T)).setRow w.heap.size C2).drew).setRow w.heap.size C3)->
  Calls prog f #[.slice (some ⟨b,o,none⟩) n c,.i i,.slice (some ⟨vb,vo,none⟩) 1 vc] w E
theorem Ztv {f:FuncId}{S T:TypeId}{k:Nat}(F:W8 f S T k)(b o n c vb vo vc:Nat)(cb:Array Value)(dU news:List Value)(w:World)(hb:w.heap[b]?=some (.cells cb T (0,0)))(eP:n+1<=c)(dE:o+c*k<=cb.size)(D7:c<=maxLen)
  (T7:dU.length=n*k) (G5:∀j v,dU[j]?=some v->cb[o+j]?=some v) (sP:news.length=k) (G6:∀j v,news[j]?=some v->w.cell? ⟨vb,vo+j,none⟩=some v) (h1:∀v∈news,v.oneCell'=true):
  Calls prog f #[.slice (some ⟨b,o,none⟩) n c,.i n,.slice (some ⟨vb,vo,none⟩) 1 vc] w (EA T k b n (dU++news) w):=by
 have hk:=F.pos;have E1:=Nat.add_one_mul n k;have E4:=I2 k eP;have DB:c<=9223372036854775807:=by unfold maxLen at D7;omega
 obtain⟨i,z,hi,hz,fG,b9,tS⟩:=F.inf;have hf:(Builtin.firstCells i.size 1 (.slice (some ⟨vb,vo,none⟩) 1 vc)).run prog w=.ok news.toArray w:=by
  rw[fG];exact run_firstCells_some (P:=prog) w k 1 ⟨vb,vo,none⟩ 1 vc news (by omega) (fun j u hj=>by rw[Addr.add_lit];exact G6 j u hj)
 have dF:∀ty,(Builtin.append_ #[S,S] ty #[.slice (some ⟨b,o,none⟩) n c,.slice (some ⟨vb,vo,none⟩) 1 vc]).run prog w=_:=fun ty=>
  Zgn (P:=prog) (w:=w) (ty:=ty) F.A3 hi b o n c cb hb (some ⟨vb,vo,none⟩) 1 vc news hf h1 eP (by rw[fG];omega)
 have gS:cb.toList.length=cb.size:=uV;have fin:EA T k b n (dU++news) w (.returned (.slice (some ⟨b,o,none⟩) (n+1) c)) (w.setRow b (aR cb.toList (o+n*k) news).toArray):=by
  refine⟨b,o,c,_,rfl,setRow_heap w b cb _ _ _ hb,fun j hj=>?_,?_,eP,D7,.inl rfl,cV.setRow w _ _⟩
  .rw[I1,A0 (by omega),yS,O7];split
   .rename_i h;rw[if_pos (by omega)];have hv:=aX (show j<dU.length by omega);rw[hv];exact G5 j _ hv
   .rename_i h;rw[if_pos (by omega),if_neg (by omega)];congr 1;omega
  .rw[yT,W3 (by omega),gS];exact dE
 rw[fG]at dF;exact F.last _ _ _ _ _ _ _ _ _ _ (by omega) D7 (fun h=>by cases h) dF fin
theorem Zn3 {f:FuncId}{S T:TypeId}{k:Nat}(F:W8 f S T k)(b:Nat)(base:Option Addr)(n c vb vo vc:Nat)(dU news:List Value)(w:World)(eP:c<n+1)(hn:n<=1000000)(qL:base=none->n=0/\c=0)(mD:n<=c)
  (T7:dU.length=n*k) (G5:∀j v,dU[j]?=some v->∃A,base=some A/\w.cell? (A.add j)=some v) (sP:news.length=k) (G6:∀j v,news[j]?=some v->w.cell? ⟨vb,vo+j,none⟩=some v):
  Calls prog f #[.slice base n c,.i n,.slice (some ⟨vb,vo,none⟩) 1 vc] w (EA T k b n (dU++news) w):=by
 have hk:=F.pos;have E1:=Nat.add_one_mul n k;obtain⟨i,z,hi,hz,fG,b9,tS⟩:=F.inf;have hf:∀w',(∀A,w'.cell? A=w.cell? A)->(Builtin.firstCells i.size 1 (.slice (some ⟨vb,vo,none⟩) 1 vc)).run prog w'=.ok news.toArray w':=fun w' hw=>by
  rw[fG];exact run_firstCells_some (P:=prog) w' k 1 ⟨vb,vo,none⟩ 1 vc news (by omega) (fun j u hj=>by rw[Addr.add_lit,hw];exact G6 j u hj)
 have ho:∀w',(∀A,w'.cell? A=w.cell? A)->(Builtin.firstCells i.size n (.slice base n c)).run prog w'=.ok dU.toArray w':=fun w' hw=>by
  rw[fG];cases base with
  |none=>
   obtain⟨rfl,rfl⟩:=qL rfl;rw[List.length_eq_zero_iff.1 (T7.trans (Nat.zero_mul _))];exact run_firstCells_none w' k 0 0 0
  |some a=>exact run_firstCells_some (P:=prog) w' k n a n c dU T7 (fun j u hj=>by
    obtain⟨A,e,h⟩:=G5 j u hj;cases e;rw[hw];exact h)
 have dF:∀ty,(Builtin.append_ #[S,S] ty #[.slice base n c,.slice (some ⟨vb,vo,none⟩) 1 vc]).run prog w=_:=fun ty=>
  Zgo (P:=prog) (w:=w) (ty:=ty) F.A3 hi hz base n c (some ⟨vb,vo,none⟩) 1 vc dU news ho hf (by omega) (by omega) (growslice_fits (by omega) (by rcases b9 with h|h<;>rw[h]<;>omega))
 have yK:=grownCap_ge w (n+1) c T;have hle:=grownCap_le_maxLen w (n+1) c T (by unfold maxLen;omega);have fin:EA T k b n (dU++news) w (.returned (.slice (some ⟨w.heap.size,0,none⟩) (n+1) (grownCap w (n+1) c T))) (w.drew.alloc (.cells ((dU++news).toArray++Builtin.zeroCells z.cells (grownCap w (n+1) c T-(n+1))) T)):=by
  refine⟨w.heap.size,0,_,_,rfl,heap_alloc_new w.drew _,fun j hj=>?_,?_,yK,hle,.inr (fE _),(Fu w _).trans (cV.Ex (Ext.al _ _) _)⟩
  .rw[rT,Array.getElem?_append_left (by rw[yT,gE];omega),I1]
  .rw[Array.size_append,yT,gE,size_zeroCells,tS,T7,sP,rT,<-E1,<-Nat.add_mul];exact Nat.le_of_eq (congrArg (·*k) (by omega))
 exact F.last _ _ _ _ _ _ _ _ _ _ mD (by unfold maxLen;omega) qL dF fin
theorem Zqh {f:FuncId}{S T:TypeId}{k:Nat}(F:W8 f S T k)(b o n c i vb vo vc:Nat)(cb cv:Array Value)(dU news:List Value)(w:World)(hb:w.heap[b]?=some (.cells cb T (0,0)))(hv:w.heap[vb]?=some (.cells cv T (0,0)))(UO:vb≠b)(hi:i<n)(eP:n+1<=c)(dE:o+c*k<=cb.size)(D7:c<=maxLen)
  (T7:dU.length=n*k) (G5:∀j v,dU[j]?=some v->cb[o+j]?=some v) (sP:news.length=k) (G6:∀j v,news[j]?=some v->cv[vo+j]?=some v) (Wa:∀v∈dU,v.oneCell'=true) (h1:∀v∈news,v.oneCell'=true):
  Calls prog f #[.slice (some ⟨b,o,none⟩) n c,.i i,.slice (some ⟨vb,vo,none⟩) 1 vc] w (EA T k b n (dU.take (i*k)++news++dU.drop (i*k)) w):=by
 have hk:=F.pos;have E1:=Nat.add_one_mul n k;have E2:=Nat.add_one_mul i k;have E3:n*k=i*k+(n-i)*k:=by rw[<-Nat.add_mul];congr 1;omega
 have E4:=I2 k eP;have DB:c<=9223372036854775807:=by unfold maxLen at D7;omega
 have gS:cb.toList.length=cb.size:=uV;obtain⟨C1,Vt⟩:∃C1,C1=(aR cb.toList (o+(i+1)*k) (dU.drop (i*k))).toArray:=⟨_,rfl⟩;obtain⟨C2,RI⟩:∃C2,C2=(aR C1.toList (o+i*k) news).toArray:=⟨_,rfl⟩;have nI:(dU.drop (i*k)).length=(n-i)*k:=by rw[uG,T7];omega
 have Dd:C1.toList.length=cb.size:=by rw[Vt];show(aR _ _ _).length=_;rw[W3 (by omega),gS]
 have RH:C2.size=cb.size:=by rw[RI,yT,W3 (by omega),Dd]
 have CZ:∀ty q q' dl dc sl sc,q=o+(i+1)*k->q'=o+i*k->dl=n+1-(i+1)->sl=n+1-i->(Builtin.copy_ #[S,S] ty #[.slice (some ⟨b,q,none⟩) dl dc,.slice (some ⟨b,q',none⟩) sl sc]).run prog w.drew=.ok (goInt ((n-i:Nat):Int)) (w.drew.setRow b C1):=fun ty q q' dl dc sl sc e1 e2 e3 e4=>by
  subst e1 e2 e3 e4;have h:=Mp (P:=prog) (ty:=ty) w.drew S S T b (o+(i+1)*k) (n+1-(i+1)) dc (n+1-i) sc ⟨b,o+i*k,none⟩ cb T (dU.drop (i*k)) F.A3 F.Iu hb
   (by rw[nI,LL (by omega)];congr 1;omega) (fun j v hj=>by
    rw[Addr.add_lit];rw[mW]at hj
    have:=G5 _ v hj
    rw[<-Nat.add_assoc]at this;exact(cell_of_row w.drew b _ cb _ _ hb).trans this) (by omega) (fun v hv=>Wa v (List.mem_of_mem_drop hv))
  rw[LL (by omega),show n+1-(i+1)=n-i by omega,<-Vt]at h;rw[show n+1-(i+1)=n-i by omega];exact h
 have Bm:(w.drew.setRow b C1).heap[b]?=some (.cells C1 T (0,0)):=setRow_heap w.drew b cb _ _ _ hb;have CY:∀ty q dl dc,q=o+i*k->dl=n+1-i->(Builtin.copy_ #[S,S] ty #[.slice (some ⟨b,q,none⟩) dl dc,.slice (some ⟨vb,vo,none⟩) 1 vc]).run prog (w.drew.setRow b C1)=.ok (goInt 1) ((w.drew.setRow b C1).setRow b C2):=fun ty q dl dc e1 e2=>by
  subst e1 e2;have h:=Mp (P:=prog) (ty:=ty) (w.drew.setRow b C1) S S T b (o+i*k) (n+1-i) dc 1 vc ⟨vb,vo,none⟩ C1 T news F.A3 F.Iu Bm
   (by rw[sP,zG (by omega),Nat.one_mul]) (fun j v hj=>by
    rw[Addr.add_lit,cell_setRow_other _ _ _ _ UO];exact(cell_of_row w.drew vb _ cv _ _ hv).trans (G6 j v hj)) (by rw[<-uV,Dd];omega) h1
  rw[zG (by omega),<-RI]at h;exact h
 have fin:EA T k b n (dU.take (i*k)++news++dU.drop (i*k)) w (.returned (.slice (some ⟨b,o,none⟩) (n+1) c)) ((w.drew.setRow b C1).setRow b C2):=by
  refine⟨b,o,c,C2,rfl,setRow_heap _ b C1 _ _ _ Bm,fun j hj=>?_,by omega,eP,D7,.inl rfl,((Fu w _).trans (cV.setRow _ _ _)).trans (cV.setRow _ _ _)⟩;have mI:(dU.take (i*k)).length=i*k:=by rw[gI];omega
  rw[RI,I1,A0 (by omega),Vt,I0,yS,yS,mI];by_cases q1:j<i*k
  .rw[if_pos (by omega),if_pos q1,List.toList_toArray,A0 (by omega),if_pos (by omega),O7,mG,if_pos q1];have hv:=aX (show j<dU.length by omega);rw[hv];exact G5 j _ hv
  by_cases q2:j<(i+1)*k
  .rw[if_neg (by omega),if_pos (by omega),if_neg q1,if_pos (by omega)];congr 1;omega
  .rw[if_neg (by omega),if_neg (by omega),if_neg q1,if_neg (by omega),List.toList_toArray,A0 (by omega),if_neg (by omega),if_pos (by omega)];congr 1;omega
 exact F.shift _ _ _ _ _ _ _ _ cb cv _ _ _ _ hb hv UO hi eP dE D7 CZ CY fin
theorem Ztw {f:FuncId}{S T:TypeId}{k:Nat}(F:W8 f S T k)(b o n c i vb vo vc:Nat)(cb cv:Array Value)(dU news:List Value)(w:World)(hb:w.heap[b]?=some (.cells cb T (0,0)))(hv:w.heap[vb]?=some (.cells cv T (0,0)))(hi:i<n)(eP:c<n+1)(mD:n<=c)(hn:n<=1000000)
  (T7:dU.length=n*k) (G5:∀j v,dU[j]?=some v->cb[o+j]?=some v) (sP:news.length=k) (G6:∀j v,news[j]?=some v->cv[vo+j]?=some v) (Wa:∀v∈dU,v.oneCell'=true) (h1:∀v∈news,v.oneCell'=true):
  Calls prog f #[.slice (some ⟨b,o,none⟩) n c,.i i,.slice (some ⟨vb,vo,none⟩) 1 vc] w (EA T k b n (dU.take (i*k)++news++dU.drop (i*k)) w):=by
 have hk:=F.pos;have E1:=Nat.add_one_mul n k;have E2:=Nat.add_one_mul i k;have E3:n*k=i*k+(n-i)*k:=by rw[<-Nat.add_mul];congr 1;omega
 have E5:(n+1-i)*k=(n-i)*k+k:=by rw[<-Nat.add_one_mul];congr 1;omega
 obtain⟨ti,z,PK,hz,fG,b9,tS⟩:=F.inf;have Cg:b<w.heap.size:=(qD.1 hb).1;have hvw:vb<w.heap.size:=(qD.1 hv).1;have mI:(dU.take (i*k)).length=i*k:=by rw[gI];omega
 have nI:(dU.drop (i*k)).length=(n-i)*k:=by rw[uG,T7];omega
 have hold:(Builtin.firstCells ti.size i (.slice (some ⟨b,o,none⟩) i c)).run prog w.drew=.ok (dU.take (i*k)).toArray w.drew:=by
  rw[fG];exact run_firstCells_some (P:=prog) w.drew k i ⟨b,o,none⟩ i c (dU.take (i*k)) mI (fun j u hj=>by
   rw[Addr.add_lit];rw[mG]at hj;split at hj
   .exact(cell_of_row w.drew b _ cb _ _ hb).trans (G5 j u hj)
   .cases hj)
 have PR:∀ty (q:Int),q=((n+1-i:Nat):Int)->(Builtin.append_ #[S,3] ty #[.slice (some ⟨b,o,none⟩) i c,.i q]).run prog w =
   .ok (.slice (some ⟨w.heap.size,0,none⟩) (n+1) (grownCap w (n+1) c T)) (w.drew.alloc (.cells ((dU.take (i*k)).toArray++Builtin.zeroCells z.cells (n+1-i)++Builtin.zeroCells z.cells (grownCap w (n+1) c T-(n+1))) T)):=fun ty q hq=>by
  subst hq;have h:=Lib.run_append_grow_zeros w S 3 ty T ti z .i64 .i64 F.A3 underlying3 PK hz (some ⟨b,o,none⟩) i c (dU.take (i*k)) hold (n+1-i) (by omega) (by omega) (by omega) (by omega) (by rcases b9 with h|h<;>rw[h]<;>omega) (growslice_fits (by omega) (by rcases b9 with h|h<;>rw[h]<;>omega));rw[show i+(n+1-i)=n+1 by omega]at h;exact h
 have yK:=grownCap_ge w (n+1) c T;have hle:=grownCap_le_maxLen w (n+1) c T (by unfold maxLen;omega);generalize grownCap w (n+1) c T=G at PR yK hle;obtain⟨uM,RC⟩:∃uM:Array Value,uM=(dU.take (i*k)).toArray++Builtin.zeroCells z.cells (n+1-i)++Builtin.zeroCells z.cells (G-(n+1)):=⟨_,rfl⟩;rw[<-RC]at PR;have E8:G*k=(n+1)*k+(G-(n+1))*k:=by rw[<-Nat.add_mul];congr 1;omega
 have hRl:uM.size=G*k:=by
  rw[RC,Array.size_append,Array.size_append,yT,size_zeroCells,size_zeroCells,tS,mI];omega
 have hRt:∀j,j<i*k->uM[j]?=dU[j]?:=fun j hj=>by
  rw[RC,Array.append_assoc,Array.getElem?_append_left (by rw[yT];omega),I1,mG,if_pos hj]
 obtain⟨C2,RI⟩:∃C2,C2=(aR uM.toList (i*k) news).toArray:=⟨_,rfl⟩;obtain⟨C3,Vs⟩:∃C3,C3=(aR C2.toList ((i+1)*k) (dU.drop (i*k))).toArray:=⟨_,rfl⟩;have hRL:uM.toList.length=G*k:=by rw[uV];exact hRl
 have RH:C2.toList.length=G*k:=by rw[RI];show(aR _ _ _).length=_;rw[W3 (by omega),hRL]
 have hC3l:C3.size=G*k:=by rw[Vs,yT,W3 (by omega),RH]
 have Bm:(w.drew.alloc (.cells uM T)).heap[w.heap.size]?=some (.cells uM T (0,0)):=heap_alloc_new w.drew _;have hh2:((w.drew.alloc (.cells uM T)).setRow w.heap.size C2).heap[w.heap.size]?=some (.cells C2 T (0,0)):=setRow_heap _ _ uM _ _ _ Bm;have CX:∀(W:World),W.heap=(w.drew.alloc (.cells uM T)).heap->∀ty q dl dc,q=i*k->dl=n+1-i->(Builtin.copy_ #[S,S] ty #[.slice (some ⟨w.heap.size,q,none⟩) dl dc,.slice (some ⟨vb,vo,none⟩) 1 vc]).run prog W=.ok (goInt 1) (W.setRow w.heap.size C2):=fun W hW ty q dl dc e1 e2=>by
  subst e1 e2;have rM:W.heap[vb]?=some (.cells cv T (0,0)):=by rw[hW,heap_alloc_old w.drew _ hvw];exact hv
  have h:=Mp (P:=prog) (ty:=ty) W S S T w.heap.size (i*k) (n+1-i) dc 1 vc ⟨vb,vo,none⟩ uM T news F.A3 F.Iu (by rw[hW];exact Bm)
   (by rw[sP,zG (by omega),Nat.one_mul]) (fun j v hj=>by
    rw[Addr.add_lit];exact(cell_of_row W vb _ cv _ _ rM).trans (G6 j v hj)) (by omega) h1
  rw[zG (by omega),<-RI]at h;exact h
 have CW:∀(W:World),W.heap=((w.drew.alloc (.cells uM T)).setRow w.heap.size C2).heap->∀ty q q' dl dc sl sc,q=(i+1)*k->q'=o+i*k->dl=n+1-(i+1)->sl=n-i->(Builtin.copy_ #[S,S] ty #[.slice (some ⟨w.heap.size,q,none⟩) dl dc,.slice (some ⟨b,q',none⟩) sl sc]).run prog W=.ok (goInt ((n-i:Nat):Int)) (W.setRow w.heap.size C3):=fun W hW ty q q' dl dc sl sc e1 e2 e3 e4=>by
  subst e1 e2 e3 e4;have nO:W.heap[b]?=some (.cells cb T (0,0)):=by rw[hW,setRow_other _ _ _ _ (by omega),heap_alloc_old w.drew _ Cg];exact hb
  have h:=Mp (P:=prog) (ty:=ty) W S S T w.heap.size ((i+1)*k) (n+1-(i+1)) dc (n-i) sc ⟨b,o+i*k,none⟩ C2 T (dU.drop (i*k)) F.A3 F.Iu (by rw[hW];exact hh2)
   (by rw[nI,zG (by omega)]) (fun j v hj=>by
    rw[Addr.add_lit];rw[mW]at hj
    have:=G5 _ v hj
    rw[<-Nat.add_assoc]at this;exact(cell_of_row W b _ cb _ _ nO).trans this) (by rw[<-uV,RH];omega) (fun v hv=>Wa v (List.mem_of_mem_drop hv))
  rw[zG (by omega),<-Vs]at h;exact h
 have fin:∀W:World,W=(((w.drew.alloc (.cells uM T)).setRow w.heap.size C2).drew).setRow w.heap.size C3->EA T k b n (dU.take (i*k)++news++dU.drop (i*k)) w (.returned (.slice (some ⟨w.heap.size,0,none⟩) (n+1) G)) W:=fun W hW=>by
  subst hW;refine⟨w.heap.size,0,G,C3,rfl,setRow_heap _ _ C2 _ _ _ hh2,fun j hj=>?_,by omega,yK,hle,.inr (fE _),?_⟩
  .rw[rT,Vs,I1,A0 (by omega),RI,I0,yS,yS,mI];by_cases q1:j<i*k
   .rw[if_pos (by omega),if_pos q1,List.toList_toArray,A0 (by omega),if_pos (by omega),O7,mG,if_pos q1];exact hRt j q1
   by_cases q2:j<(i+1)*k
   .rw[if_pos (by omega),if_neg q1,if_pos (by omega),List.toList_toArray,A0 (by omega),if_neg (by omega),if_pos (by omega)]
   .rw[if_neg (by omega),if_pos (by omega),if_neg q1,if_neg (by omega)];congr 1;omega
  .refine⟨rfl,rfl,rfl,by simp,fun k hk _=>?_⟩;rw[setRow_other _ _ _ _ (by omega)];show((w.drew.alloc (.cells uM T)).setRow w.heap.size C2).heap[k]?=_;rw[setRow_other _ _ _ _ (by omega),heap_alloc_old w.drew _ hk];rfl
 exact F.grow _ _ _ _ _ _ _ _ _ uM C2 C3 _ _ hi eP mD hn yK hle PR CX CW (fin _ rfl)
theorem ZuT:W8 210 27 77 4:=by
 refine⟨by decide,underlying27,by kernel_rfl,⟨_,_,rfl,rfl,rfl,by decide,rfl⟩,?_,?_,?_⟩
 .intro base n c vb vo vc w W2 R E G6 hc qL dF fin;have D7:c<=9223372036854775807:=by unfold maxLen at hc;omega
  cases base with
  |none=>
   obtain⟨rfl,rfl⟩:=qL rfl;go_enter func210,ntmps210;go_wp2_with (at_builtin;refine Lib.wpList_append_run _ rfl _ _ _ _ rfl _ _ rfl rfl _ _ (dF _) ?_)
   all_goals exact fin
  |some a=>
   obtain⟨ab,ao,asp⟩:=a;go_enter func210,ntmps210;go_wp2_with (at_builtin;refine Lib.wpList_append_run _ rfl _ _ _ _ rfl _ _ rfl rfl _ _ (dF _) ?_)
   all_goals exact fin
 .intro b o n c i vb vo vc cb cv w W1 W2 E hb hv UO hi eP dE hc CZ CY fin;have DB:c<=9223372036854775807:=by unfold maxLen at hc;omega
  have Sx:∀lb cc,(callFunc 256 #[.slice (some ⟨vb,vo,none⟩) 1 vc,.slice (some ⟨b,o+(i+1)*4,none⟩) lb cc]).run prog w=.ok (.value (.bool false)) w:=fun lb cc=>by
   rw[run_callFunc_extern func256 (by kernel_rfl) (by kernel_rfl) (by kernel_rfl) (e:=Extern.SlicesOverlaps.overlaps #[27,27] #[4]) (by kernel_rfl),
    Lib.run_overlaps_apart w 27 4 77 underlying27 4 (Go.Proofs.YthmbecacehfgfaaGreatDoor.run_sizeOf (by kernel_rfl)) ⟨vb,vo,none⟩ ⟨b,o+(i+1)*4,none⟩ 1 vc lb cc UO 77 77 cv.size cb.size (by simp[World.shape?,hv]) (by simp[World.shape?,hb]) (by omega) (Lib.frozen_of_heap hv vo) (Lib.frozen_of_heap hv cv.size)]
   rfl
  have P8:¬((i:Int)=(n:Int)):=by omega
  have mixed:prog.follows .mixedOrders=true:=by kernel_rfl
  have pV:IntKind.i64.wrap ((i:Int)+1)=(i:Int)+1:=by rw[IntKind.wrap_i64];omega
  have sS:(0:Int)<=(i:Int)+1:=by omega
  have gA:i<=n:=by omega
  have HN:((i:Int)+1).toNat=i+1:=by omega
  have pN:¬(c=i+1):=by omega
  have QX:(i:Int)<=(n:Int)+1:=by omega
  have MW:¬(c=i):=by omega
  go_enter func210,ntmps210;go_wp2_with (simp only[Sx]);go_region_law_o (refine step_copy_runI rfl _ _ 27 27 rfl _ _ (by simp[Act.eval,Act.put]) (by simp[Act.eval,Act.put]) (CZ _ _ _ _ _ _ _ (by omega) (by omega) (by omega) (by omega)) ?_);go_wp2_with (at_builtin;refine wpList_copy_runI _ rfl _ _ 27 27 rfl _ _ rfl rfl (CY _ _ _ _ (by omega) (by omega)) ?_)
  all_goals exact fin
 .intro b o n c i vb vo vc G uM C2 C3 w E hi eP mD hn yK hle PR CX CW fin;have mixed:prog.follows .mixedOrders=true:=by kernel_rfl
  have X9:(c:Int)<(n:Int)+1:=by omega
  have P8:¬((i:Int)=(n:Int)):=by omega
  have pV:IntKind.i64.wrap ((i:Int)+1)=(i:Int)+1:=by rw[IntKind.wrap_i64];omega
  have sS:(0:Int)<=(i:Int)+1:=by omega
  have gA:i<=n:=by omega
  have HN:((i:Int)+1).toNat=i+1:=by omega
  have hGi:¬(G=i):=by omega
  have Vl:¬(G=i+1):=by omega
  have hci:¬(c=i):=by omega
  have Vm:G<=9223372036854775807:=by unfold maxLen at hle;omega
  have QX:(i:Int)<=(n:Int):=by omega
  go_enter func210,ntmps210;go_wp2_with (at_builtin;refine Lib.wpList_append_run _ rfl _ _ _ _ rfl _ _ rfl rfl _ _ (PR _ _ (by omega)) ?_);rw[CX ((w.alloc (.cells uM 77)).drew) rfl _ _ _ _ rfl rfl];simp only[Result.andThen];rw[Oper.upon_value];go_wp2;go_region_law_o (refine step_copy_runI rfl _ _ 27 27 rfl (.slice (some ⟨w.heap.size,(i+1)*4,none⟩) (n+1-(i+1)) (G-(i+1))) (.slice (some ⟨b,o+i*4,none⟩) (n-i) (c-i)) (by simp[Act.eval,Act.put]) (by simp[Act.eval,Act.put]) (CW _ (by rfl) 3 _ _ _ (G-(i+1)) _ (c-i) rfl rfl rfl rfl) ?_);go_wp2
  all_goals exact fin
theorem ZuU:W8 207 26 3 1:=by
 refine⟨by decide,underlying26,by kernel_rfl,⟨_,_,rfl,rfl,rfl,by decide,rfl⟩,?_,?_,?_⟩
 .intro base n c vb vo vc w W2 R E G6 hc qL dF fin;have D7:c<=9223372036854775807:=by unfold maxLen at hc;omega
  cases base with
  |none=>
   obtain⟨rfl,rfl⟩:=qL rfl;go_enter func207,ntmps207;go_wp2_with (at_builtin;refine Lib.wpList_append_run _ rfl _ _ _ _ rfl _ _ rfl rfl _ _ (dF _) ?_)
   all_goals exact fin
  |some a=>
   obtain⟨ab,ao,asp⟩:=a;go_enter func207,ntmps207;go_wp2_with (at_builtin;refine Lib.wpList_append_run _ rfl _ _ _ _ rfl _ _ rfl rfl _ _ (dF _) ?_)
   all_goals exact fin
 .intro b o n c i vb vo vc cb cv w W1 W2 E hb hv UO hi eP dE hc CZ CY fin;have DB:c<=9223372036854775807:=by unfold maxLen at hc;omega
  have Sx:∀lb cc,(callFunc 252 #[.slice (some ⟨vb,vo,none⟩) 1 vc,.slice (some ⟨b,o+(i+1),none⟩) lb cc]).run prog w=.ok (.value (.bool false)) w:=fun lb cc=>by
   rw[run_callFunc_extern func252 (by kernel_rfl) (by kernel_rfl) (by kernel_rfl) (e:=Extern.SlicesOverlaps.overlaps #[26,26] #[4]) (by kernel_rfl),
    Lib.run_overlaps_apart w 26 4 3 underlying26 1 (Go.Proofs.YthmbecacehfgfaaGreatDoor.run_sizeOf (by kernel_rfl)) ⟨vb,vo,none⟩ ⟨b,o+(i+1),none⟩ 1 vc lb cc UO 3 3 cv.size cb.size (by simp[World.shape?,hv]) (by simp[World.shape?,hb]) (by omega) (Lib.frozen_of_heap hv vo) (Lib.frozen_of_heap hv cv.size)]
   rfl
  have P8:¬((i:Int)=(n:Int)):=by omega
  have mixed:prog.follows .mixedOrders=true:=by kernel_rfl
  have pV:IntKind.i64.wrap ((i:Int)+1)=(i:Int)+1:=by rw[IntKind.wrap_i64];omega
  have sS:(0:Int)<=(i:Int)+1:=by omega
  have gA:i<=n:=by omega
  have HN:((i:Int)+1).toNat=i+1:=by omega
  have pN:¬(c=i+1):=by omega
  have QX:(i:Int)<=(n:Int)+1:=by omega
  have MW:¬(c=i):=by omega
  go_enter func207,ntmps207;go_wp2_with (simp only[Sx]);go_region_law_o (refine step_copy_runI rfl _ _ 26 26 rfl _ _ (by simp[Act.eval,Act.put]) (by simp[Act.eval,Act.put]) (CZ _ _ _ _ _ _ _ (by omega) (by omega) (by omega) (by omega)) ?_);go_wp2_with (at_builtin;refine wpList_copy_runI _ rfl _ _ 26 26 rfl _ _ rfl rfl (CY _ _ _ _ (by omega) (by omega)) ?_)
  all_goals exact fin
 .intro b o n c i vb vo vc G uM C2 C3 w E hi eP mD hn yK hle PR CX CW fin;have mixed:prog.follows .mixedOrders=true:=by kernel_rfl
  have X9:(c:Int)<(n:Int)+1:=by omega
  have P8:¬((i:Int)=(n:Int)):=by omega
  have pV:IntKind.i64.wrap ((i:Int)+1)=(i:Int)+1:=by rw[IntKind.wrap_i64];omega
  have sS:(0:Int)<=(i:Int)+1:=by omega
  have gA:i<=n:=by omega
  have HN:((i:Int)+1).toNat=i+1:=by omega
  have hGi:¬(G=i):=by omega
  have Vl:¬(G=i+1):=by omega
  have hci:¬(c=i):=by omega
  have Vm:G<=9223372036854775807:=by unfold maxLen at hle;omega
  have QX:(i:Int)<=(n:Int):=by omega
  go_enter func207,ntmps207;go_wp2_with (at_builtin;refine Lib.wpList_append_run _ rfl _ _ _ _ rfl _ _ rfl rfl _ _ (PR _ _ (by omega)) ?_);rw[CX ((w.alloc (.cells uM 3)).drew) rfl _ _ _ _ (by omega) rfl];simp only[Result.andThen];rw[Oper.upon_value];go_wp2;go_region_law_o (refine step_copy_runI rfl _ _ 26 26 rfl (.slice (some ⟨w.heap.size,i+1,none⟩) (n+1-(i+1)) (G-(i+1))) (.slice (some ⟨b,o+i,none⟩) (n-i) (c-i)) (by simp[Act.eval,Act.put]) (by simp[Act.eval,Act.put]) (CW _ (by rfl) 3 _ _ _ (G-(i+1)) _ (c-i) (by omega) (by omega) rfl rfl) ?_);go_wp2
  all_goals exact fin
end
theorem Zlu {ρ:Site->Loc}{m:Mem}{w:World}{s:Site}{e n:Nat}{xs:List PV}(h:kO ρ m w s (.arr e n xs))(hr:(ρ s).real=true):
  ∃cs ds,w.heap[(ρ s).b]?=some (.cells cs e (0,0))/\(ρ s).o+(ρ s).cap*n<=cs.size/\xs.length<=(ρ s).cap/\(ρ s).cap<=maxLen/\Flat m ds n xs/\∀(j:Nat) v,ds[j]?=some v->cs[(ρ s).o+j]?=some v:=by
 obtain⟨hn,hB|⟨_,cs,g1,g2,g3,g4,g5⟩⟩:=h
 .rw[hB.1]at hr;cases hr
 have dE:(ρ s).o+xs.length*n<=cs.size:=by
  have:xs.length*n<=(ρ s).cap*n:=I2 _ g3
  omega
 refine⟨cs,(cs.toList.drop (ρ s).o).take (xs.length*n),g1,g2,g3,g4,⟨by rw[Ho dE],fun u hu=>?_,fun i x hi=>?_⟩,fun j v hj=>?_⟩
 .obtain⟨k,hk⟩:=iM.1 hu;rw[j7]at hk;split at hk
  .rename_i aI;obtain⟨h1,h2,h3⟩:=Hs aI hn;obtain⟨q1,q2⟩:=g5 _ _ (aX h1);obtain⟨u',q3,q4,_⟩:=q2 _ _ (aX (show k%n<(xs[k / n]).cells.length by omega));rw[show(ρ s).o+k / n*n+k%n=(ρ s).o+k by omega,hk]at q3;cases q3;exact q4
  .cases hk
 .obtain⟨q1,q2⟩:=g5 i x hi;refine⟨q1,fun j c hj=>?_⟩;obtain⟨u,q3,_,q5⟩:=q2 j c hj;have rO:j<n:=by have:=(bZ.1 hj).1;omega
  have:=W6 (n:=n) (bZ.1 hi).1
  exact⟨u,by rw[j7,if_pos (by omega)];rw[<-q3];congr 1;omega,q5⟩
 .rw[j7]at hj;split at hj
  .exact hj
  .cases hj
theorem Flat.ZxT {m:Mem}{ds:List Value}{n:Nat}{xs:List PV}(h:Flat m ds n xs)(i:Nat)(hi:i<=xs.length):Flat m (ds.take (i*n)) n (xs.take i):=by
 have hl:i*n<=xs.length*n:=I2 _ hi;refine⟨by rw[gI,gI,h.len,Nat.min_eq_left hl,Nat.min_eq_left hi],fun u hu=>h.one u (List.mem_of_mem_take hu),fun k x hk=>?_⟩;rw[mG]at hk;split at hk
 .rename_i y7;obtain⟨k1,k2⟩:=h.get k x hk;refine⟨k1,fun j c hj=>?_⟩;obtain⟨u,q1,q2⟩:=k2 j c hj;have rO:j<n:=by have:=(bZ.1 hj).1;omega
  have:=W6 (n:=n) y7
  exact⟨u,by rw[mG,if_pos (by omega)];exact q1,q2⟩
 .cases hk
theorem Flat.ZxZ {m:Mem}{ds:List Value}{n:Nat}{xs:List PV}(h:Flat m ds n xs)(i:Nat):Flat m (ds.drop (i*n)) n (xs.drop i):=by
 refine⟨by rw[uG,uG,h.len,Nat.sub_mul],fun u hu=>h.one u (List.mem_of_mem_drop hu),fun k x hk=>?_⟩;rw[mW]at hk;obtain⟨k1,k2⟩:=h.get _ x hk;refine⟨k1,fun j c hj=>?_⟩;obtain⟨u,q1,q2⟩:=k2 j c hj;exact⟨u,by rw[mW,<-q1];congr 1;rw[Nat.add_mul];omega,q2⟩
theorem Zk1 {TE k b n:Nat}{Ke:List Value}{ys:List PV}{w w':World}{e:Ending}{m:Mem}{ρ:Site->Loc}{B:List (Site×aL)}(hk:0<k)(hE:EA TE k b n Ke w e w')(hF:Flat m Ke k ys)(hy:ys.length=n+1)
  (hm:Le m w.mem) (xJ:b∈cI ρ w B\/w.heap.size<=b) (sO:∀o,m b o=none):lD w m ρ B (fun r B'=>r=.vec (.ret 0) k 0 (n+1)/\B'=[(.ret 0,.arr TE k ys)]) e w':=by
 obtain⟨b',o',c',iK,rfl,g1,g2,g3,g4,g5,g6,g7⟩:=hE;have hu:=R9 ρ (.ret 0) ⟨b',o',c',true⟩;have M8:∀b,w.heap.size<=b->∀o,m b o=none:=fun b hb o=>by
  cases hv:m b o with
  |none=>rfl
  |some v=>have:=AQ (hm _ _ _ hv);omega
 have Ar:∀o,m b' o=none:=by
  rcases g6 with rfl|g6
  .exact sO
  .exact M8 _ g6
 have look:∀s bx,List.lookup s [((.ret 0:Site),aL.arr TE k ys)]=some bx->s=.ret 0/\bx=.arr TE k ys:=fun s bx h=>by
  by_cases e:s=.ret 0
  .subst e;rw[mX]at h;cases h;exact⟨rfl,rfl⟩
  .rw[jG e]at h;cases h
 have mQ:Le m w'.mem:=fun a o v hv=>by
  have hw:=hm a o v hv;have aI:=AQ hw;have cZ:a≠b:=fun e=>by subst e;rw[sO o]at hv;cases hv
  exact(World.cell?_of_block (a:=⟨a,o,none⟩) (g7.block a aI (by simpa using cZ))).trans hw
 refine⟨_,.vec (.ret 0) k 0 (n+1),[(.ret 0,.arr TE k ys)],iN ρ (.ret 0) ⟨b',o',c',true⟩,m,rfl,⟨rfl,rfl⟩,⟨fun s bx h=>?_,fun s s' bx Wo i h h' _ _=>?_,fun s bx i h hb o=>?_⟩,Le.refl m,mQ,fun i=>AK ρ _ (by simp),fun s bx i h hb=>?_,fun _ _ _ h=>.inl h,?_,?_⟩
 .obtain⟨rfl,rfl⟩:=look s bx h;refine⟨hk,.inr ⟨by rw[hu],iK,by rw[hu];exact g1,by rw[hu];exact g3,by rw[hu,hy];exact g4,by rw[hu];exact g5,fun i x hx=>?_⟩⟩;obtain⟨k1,k2⟩:=hF.get i x hx;refine⟨k1,fun j c hj=>?_⟩;obtain⟨u,q1,q2⟩:=k2 j c hj;have aI:=(bZ.1 q1).1;rw[hF.len,hy]at aI;exact⟨u,by rw[hu];show iK[o'+i*k+j]?=_;rw[<-q1,<-g2 _ aI,Nat.add_assoc],hF.one u (dL q1),q2⟩
 .rw[(look s bx h).1,(look s' Wo h').1]
 .obtain⟨rfl,rfl⟩:=look s bx h;obtain⟨_,q⟩:=EE rfl hb;rw[hu]at q;rw[<-q];exact Ar o
 .obtain⟨rfl,rfl⟩:=look s bx h;obtain⟨_,q⟩:=EE rfl hb;rw[hu]at q;rw[<-q];show w.heap.size<=b'\/b'∈_;rcases g6 with rfl|g6
  .exact xJ.symm
  .exact .inl g6
 .have:=bN.vec (ρ:=iN ρ (.ret 0) ⟨b',o',c',true⟩) (m:=m) (.ret 0) k 0 (n+1) c' g4 (by rw[hu];simp) (by rw[hu])
  rw[hu]at this;simpa using this
 .refine⟨g7.os,g7.tape,g7.output,g7.size,fun i hi hn=>g7.block i hi (fun h=>?_)⟩;rw[rU]at h;subst h;rcases xJ with h|h
  .exact hn h
  .omega
theorem Wz {vs:Array Value}(h:vs.size=3):∃v u x,vs=#[v,u,x]:=by
 match vs,h with
 |⟨[v,u,x]⟩,_=>exact⟨v,u,x,rfl⟩
theorem LY {f:FuncId}{S T:TypeId}{k:Nat}(F:W8 f S T k)(hf:jP prog f)(xs:List PV)(x:PV)(i:Nat)(hi:i<=xs.length)(hx:xs.length<=1000000):
  cN prog f [.vec (.par 0) k 0 xs.length,.pv (.i i),.vec (.par 1) k 0 1] [(.par 0,.arr T k xs),(.par 1,.arr T k [x])] (fun r B=>r=.vec (.ret 0) k 0 (xs.length+1)/\B=[(.ret 0,.arr T k (lO xs i x))]):=by
 refine⟨hf,fun w m ρ vs hB mQ fG lF=>?_⟩;obtain⟨v0,v1,v2,rfl⟩:=Wz (by simpa using fG);have h0:=lF 0 v0 _ rfl rfl;have h1:=(lF 1 v1 _ rfl rfl).nJ;have h2:=lF 2 v2 _ rfl rfl;have zJ:v1=.i i:=by cases h1;rfl
 subst zJ;have b0:=hB.bx (.par 0) _ rfl;have b1:=hB.bx (.par 1) _ rfl;rcases h2.DY with⟨cap1,rfl,c0,c1,c2⟩|⟨a,_,c0,_⟩
 .obtain⟨cv,ns,e1,_,_,_,eF,eN⟩:=Zlu b1 c2;have sP:ns.length=k:=by rw[eF.len];exact Nat.one_mul k
  have hvlt:(ρ (.par 1)).b<w.heap.size:=(qD.1 e1).1;rw[Nat.zero_mul,Nat.add_zero]at *;have CV:∀(j:Nat) v,ns[j]?=some v->w.cell? ⟨(ρ (.par 1)).b,(ρ (.par 1)).o+j,none⟩=some v:=fun j v hj=>(cell_of_row w _ _ cv _ _ e1).trans (eN j v hj)
  rcases h0.DY with⟨cap,rfl,d0,d1,d2⟩|⟨a,rfl,d0,_⟩
  .obtain⟨cb,os,f1,f2,f3,f4,fF,fN⟩:=Zlu b0 d2;rw[Nat.zero_mul,Nat.add_zero];have cZ:(ρ (.par 1)).b≠(ρ (.par 0)).b:=fun e=>by
    have:=hB.inj (.par 1) (.par 0) _ _ rfl rfl c2 d2 e
    cases this
   have T7:os.length=xs.length*k:=fF.len;have dE:(ρ (.par 0)).o+cap*k<=cb.size:=by
    have:cap*k<=(ρ (.par 0)).cap*k:=I2 _ (by omega)
    omega
   have hFl:Flat m (os.take (i*k)++ns++os.drop (i*k)) k (lO xs i x):=by
    have:=((fF.ZxT i hi).app eF).app (fF.ZxZ i)
    rw[I0 (xs.take i)]at this;exact this
   have xJ:(ρ (.par 0)).b∈cI ρ w [(.par 0,.arr T k xs),(.par 1,.arr T k [x])]:=SW.2 ⟨_,List.mem_cons_self ..,xN d2⟩;have sO:=hB.off (.par 0) _ rfl d2;have post:=fun e w' (h:EA T k (ρ (.par 0)).b xs.length (os.take (i*k)++ns++os.drop (i*k)) w e w')=>Zk1 (ρ:=ρ) (B:=[(.par 0,.arr T k xs),(.par 1,.arr T k [x])]) F.pos h hFl (SV hi) mQ.1 (.inl xJ) sO
   by_cases gA:i<xs.length
   .by_cases hr:xs.length+1<=cap
    .exact(Zqh F _ _ _ _ _ _ _ _ cb cv os ns w f1 e1 cZ gA hr dE (by omega) T7 fN sP eN fF.one eF.one).mono post
    .exact(Ztw F _ _ _ _ _ _ _ _ cb cv os ns w f1 e1 gA (by omega) d0 hx T7 fN sP eN fF.one eF.one).mono post
   .have he:i=xs.length:=by omega
    subst he;have ht:os.take (xs.length*k)++ns++os.drop (xs.length*k)=os++ns:=by rw[fH (by omega),List.drop_eq_nil_of_le (by omega),wW]
    rw[ht]at post;by_cases hr:xs.length+1<=cap
    .exact(Ztv F _ _ _ _ _ _ _ cb os ns w f1 hr dE (by omega) T7 fN sP CV eF.one).mono post
    .exact(Zn3 F (ρ (.par 0)).b _ _ _ _ _ _ os ns w (by omega) hx (fun h=>by cases h) d0 T7 (fun j v hj=>⟨_,rfl,by rw[Addr.add_lit];exact(cell_of_row w _ _ cb _ _ f1).trans (fN j v hj)⟩) sP CV).mono post
  .have BV:xs=[]:=List.length_eq_zero_iff.1 d0;subst BV;have G8:i=0:=Nat.le_zero.1 hi;subst G8;have post:=fun e w' (h:EA T k w.heap.size 0 ([]++ns) w e w')=>Zk1 (ρ:=ρ) (B:=[(.par 0,.arr T k []),(.par 1,.arr T k [x])]) F.pos h (ys:=[x]) eF rfl mQ.1 (.inr (fE _)) (fun o=>by
    cases hv:m w.heap.size o with
    |none=>rfl
    |some v=>have:=AQ (mQ.1 _ _ _ hv);omega)
   exact(Zn3 F w.heap.size _ 0 0 _ _ _ [] ns w (by omega) (by omega) (fun _=>⟨rfl,rfl⟩) (by omega) (Nat.zero_mul k).symm (fun j v hj=>by simp at hj) sP CV).mono post
 .cases c0
def bdQ (r:Except Int (List Int))(l:List Ct)(ls ts rn:PV)(a b c d e:PV):Prop:=∃l',r=.ok l'/\a=aK l/\b=bG l'/\c=ls/\d=ts/\e=rn
def VO (W:aL)(bad:List Int)(n:Int):AS:=⟨[(27,.ptr (.par 0) 0),(33,.vec (.loc 33 0) 1 0 bad.length),(34,.pv (.i (dJ bad n))),(38,.vec (.loc 38 0) 1 0 1)],[(.loc 33 0,.arr 3 1 (bad.map iP)),(.loc 38 0,.arr 3 1 [iP n]),(.par 0,W)]⟩
theorem Eh (l:List Ct)(bad:List Int)(ls ts rn:PV)(n:Int)(hl:l.length<=1000)(hb:bad.length<=900)(hs:bad.Pairwise (·<·)):
  sX prog 162 [.ptr (.par 0) 0,.pv (.aE false 1 [iP n])] [(.par 0,aO (aK l) (bG bad) ls ts rn)] (xX (bdQ (pQ l bad n) l ls ts rn)) (uQ (fun e=>pQ l bad n=.error e)):=by
 have N4:=Yw l n (bG bad) ls ts rn hl;have wA:=ZoG bad n hs (by omega);have IB:=LY ZuU ⟨_,_,func207,by kernel_rfl,rfl⟩ (bad.map iP) (iP n) (dJ bad n) (by rw[fQ];exact WK) (by rw[fQ];omega);rw[<-ZhB (f:=iP),fQ]at IB;refine cX L162 ?_;generalize hE:(fun e=>pQ l bad n=.error e)=E;generalize hQ:bdQ (pQ l bad n) l ls ts rn=Q;unfold pQ at hE hQ;generalize(l.any fun y=>decide (y.num=n))=kn at hE hQ N4;show fO _ (.seq _ (.seq _ (.seq _ _))) _ _ _;cases kn with
 |false=>
  have VJ:E 7:=by rw[<-hE];rfl
  refine wZ [_,_,_,_,_] ?_;simp[hold,aO,iP,aK];refine cM [.ptr (.par 0) 0,.pv (.i n)] [(.par 0,aO (aK l) (bG bad) ls ts rn)] 10 [.par 0] (by simp[aO,aK]) N4 (by simp[aO]) ?_;simp[aO];exact pF 7 VJ
 |true=>
 rw[if_pos rfl]at hE hQ;refine mH ?_;simp[hold,aO,iP,aK];refine cM [.ptr (.par 0) 0,.pv (.i n)] [(.par 0,aO (aK l) (bG bad) ls ts rn)] 10 [.par 0] (by simp[aO,aK]) N4 (by simp[aO]) ?_;simp[aO];refine cG [.bool true,.i 7] (gQ 7) ?_;simp;refine mH ?_;simp[hold,bG];refine cG [.aE false 1 (bad.map iP),.i n] wA ?_;simp[hold];by_cases hm:n∈bad
 .rw[if_pos hm]at hE;have IV:E 6:=by rw[<-hE]
  refine wZ [_,_] ?_;simp[hold,hm];exact pF 6 IV
 rw[if_neg hm]at hQ;refine mH ?_;simp[hold,hm];refine cG [.bool true,.i 6] (gQ 6) ?_;simp;refine GB ?_;have gS:=Zge (bad.map iP) (by rw[fQ];omega);simp[-List.map_cons,hold];refine EC (fun τ=>τ=VO (aO (aK l) (bG bad) ls ts rn) bad n) ?_ ?_
 .simp only[gN];refine⟨?_,?_⟩
  .simp[-List.map_cons,hold];refine R7 [] (fs:=[]) (xs:=[.aE false 1 (bad.map iP)]) (cs:=[]) rfl rfl gS ?_;rintro r B (⟨h,rfl,rfl⟩|⟨rfl,rfl⟩)
   .rw[List.map_eq_nil_iff]at h;subst h;simp[gN,gW];exact Sub.trans' (Sub.mk (by simp[AS.cT]) (by simp[AS.cT,bG,aO,iP,aK])) (cT 33 3 1 33 rfl (by decide))
   .simp[gN,gW];exact Sub.mk (by simp) (by simp[bG,aO,iP,aK])
  .refine⟨?_,trivial⟩;simp[-List.map_cons,gN,gW,hold];refine R7 [] (fs:=[]) (xs:=[.aE false 1 (bad.map iP)]) (cs:=[]) rfl rfl gS ?_;rintro r B (⟨h,rfl,rfl⟩|⟨rfl,rfl⟩)
   .rw[List.map_eq_nil_iff]at h;subst h;simp;exact Sub.trans' (Sub.mk (by simp[VO,AS.cT]) (by simp[VO,AS.cT,bG,aO,iP,aK])) (cT 33 3 1 33 rfl (by decide))
   .simp;exact Sub.mk (by simp[VO]) (by simp[VO,bG,aO,iP,aK])
 .rintro τ rfl;simp[VO,gN,gW];refine cL [.vec (.par 0) 1 0 bad.length,.pv (.i (dJ bad n)),.vec (.par 1) 1 0 1] [(.par 0,.arr 3 1 (bad.map iP)),(.par 1,.arr 3 1 [iP n])] 39 [.loc 33 0,.loc 38 0] (by simp) IB ?_
  rintro r0 B0 ⟨rfl,rfl⟩;refine⟨by simp,by simp,?_⟩;have hle:bad.length+1<=(lO bad (dJ bad n) n).length:=by rw[SV WK];exact fE _
  have iH:List.take (bad.length+1) ((lO bad (dJ bad n) n).map iP)=(lO bad (dJ bad n) n).map iP:=fH (by rw[fQ,SV WK];exact fE _);simp[-List.map_cons,hold,aO,gN,gW];refine l9 (a:=aK l) (b:=bG (lO bad (dJ bad n) n)) (c:=ls) (d:=ts) (e:=rn) [.loc 39 0] ?_ ?_
  .simp[bB,AS.cH,AV.cH,AV.bB,aL.cH,aO,bG,iH,hle]
  .rw[<-hQ];exact⟨_,rfl,rfl,rfl,rfl,rfl,rfl⟩
def ltQ (r:Except Int (List Lt))(ct bd ts rn:PV)(a b c d e:PV):Prop:=∃l',r=.ok l'/\a=ct/\b=bd/\c=aU l'/\d=ts/\e=rn
def UE (W:aL)(ls:List Lt)(x:Lt):AS:=⟨[(34,.ptr (.par 0) 0),(40,.vec (.loc 40 0) 4 0 ls.length),(41,.pv (.i (dJ (ls.map Lt.num) x.num))),(52,.vec (.loc 52 0) 4 0 1)],[(.loc 40 0,.arr 77 4 (ls.map Lt.pv)),(.loc 52 0,.arr 77 4 [x.pv]),(.par 0,W)]⟩
theorem ZK (ct bd ts rn:PV)(ls:List Lt)(n p q:Int)(hn:JW n)(hl:ls.length<=900)(hs:(ls.map Lt.num).Pairwise (·<·))(cU:∀y∈ls,vS y):
  sX prog 163 [.ptr (.par 0) 0,.pv (.aE false 1 [iP n,iP p,iP q])] [(.par 0,aO ct bd (aU ls) ts rn)] (xX (ltQ (pK ls ⟨n,p,q,false⟩) ct bd ts rn)) (uQ (fun e=>pK ls ⟨n,p,q,false⟩=.error e)):=by
 have D6:=Xw ls n ct bd ts rn hs (by omega) (fun y hy=>by obtain⟨h1,h2,_⟩:=cU y hy;unfold JW at hn;exact wrap64 (by omega));have lG:=WK (l:=ls.map Lt.num) (x:=n);rw[fQ]at lG;have IB:=LY ZuT ⟨_,_,func210,by kernel_rfl,rfl⟩ (ls.map Lt.pv) (Lt.pv ⟨n,p,q,false⟩) (dJ (ls.map Lt.num) n) (by rw[fQ];exact lG) (by rw[fQ];omega);rw[<-ZhB (f:=Lt.pv),fQ]at IB;have w1:=KB n 1 99;have w2:=KB p 4 30;have w3:=KB q 0 1000;refine cX L163 ?_;generalize hE:(fun e=>pK ls ⟨n,p,q,false⟩=.error e)=E;generalize hQ:ltQ (pK ls ⟨n,p,q,false⟩) ct bd ts rn=Q;unfold pK at hE hQ;dsimp only at hE hQ;show fO _ (.seq _ (.seq _ (.seq _ _))) _ _ _;generalize MQ:(decide (1<=n)&&decide (n<=99))=c1 at hE hQ w1;generalize FA:(decide (4<=p)&&decide (p<=30))=c2 at hE hQ w2;generalize Cf:(decide (0<=q)&&decide (q<=1000))=c3 at hE hQ w3;by_cases hc:¬(c1=true/\c2=true/\c3=true)
 .rw[if_neg hc]at hE;have AA:E 2:=by rw[<-hE]
  refine wZ [_,_,_,_,_,_,_,_,_,_,_,_,_,_,_,_] ?_;simp[hold,iP];refine cG [.i n,.i 1,.i 99] w1 ?_;cases c1 with
  |false=>
   simp[hold];exact pF 2 AA
  |true=>
  simp[hold];refine cG [.i p,.i 4,.i 30] w2 ?_;cases c2 with
  |false=>
   simp[hold];exact pF 2 AA
  |true=>
  simp[hold];refine cG [.i q,.i 0,.i 1000] w3 ?_;cases c3 with
  |false=>
   simp;exact pF 2 AA
  |true=>exact absurd ⟨rfl,rfl,rfl⟩ hc
 have hc:=Decidable.not_not.1 hc;rw[if_pos hc]at hE hQ;obtain⟨rfl,rfl,rfl⟩:=hc;refine mH ?_;simp[hold,iP];refine cG [.i n,.i 1,.i 99] w1 ?_;simp[hold];refine cG [.i p,.i 4,.i 30] w2 ?_;simp[hold];refine cG [.i q,.i 0,.i 1000] w3 ?_;simp;refine cG [.bool true,.i 2] (gQ 2) ?_;simp[hold];refine mH ?_;simp[hold,aO,aU];refine cM [.ptr (.par 0) 0,.pv (.i n)] [(.par 0,aO ct bd (aU ls) ts rn)] 28 [.par 0] (by simp[aO,aU]) D6 (by simp[aO]) ?_;simp[-List.mem_map,aO];by_cases hm:n∈ls.map Lt.num
 .rw[if_pos hm]at hE;have IV:E 6:=by rw[<-hE]
  refine wZ [_,_] ?_;simp[-List.mem_map,hold,hm];exact pF 6 IV
 rw[if_neg hm]at hQ;refine mH ?_;simp[-List.mem_map,hold,hm];refine cG [.bool true,.i 6] (gQ 6) ?_;simp;refine GB ?_;have gS:=ZgT (ls.map Lt.pv) (by rw[fQ];omega);simp[hold];refine EC (fun τ=>τ=UE (aO ct bd (aU ls) ts rn) ls ⟨n,p,q,false⟩) ?_ ?_
 .simp only[gN];refine⟨?_,?_⟩
  .simp[hold];refine R7 [] (fs:=[]) (xs:=[.aE false 4 (ls.map Lt.pv)]) (cs:=[]) rfl rfl gS ?_;rintro r B (⟨h,rfl,rfl⟩|⟨rfl,rfl⟩)
   .rw[List.map_eq_nil_iff]at h;subst h;simp[gN,gW];exact Sub.trans' (Sub.mk (by simp[AS.cT]) (by simp[AS.cT,aO,aU,Lt.pv])) (cT 40 77 4 40 rfl (by decide))
   .simp[gN,gW];exact Sub.mk (by simp) (by simp[aO,aU,Lt.pv])
  .refine⟨?_,trivial⟩;simp[gN,gW,hold];refine R7 [] (fs:=[]) (xs:=[.aE false 4 (ls.map Lt.pv)]) (cs:=[]) rfl rfl gS ?_;rintro r B (⟨h,rfl,rfl⟩|⟨rfl,rfl⟩)
   .rw[List.map_eq_nil_iff]at h;subst h;simp;exact Sub.trans' (Sub.mk (by simp[UE,AS.cT]) (by simp[UE,AS.cT,aO,aU,Lt.pv])) (cT 40 77 4 40 rfl (by decide))
   .simp;exact Sub.mk (by simp[UE]) (by simp[UE,aO,aU,Lt.pv])
 .rintro τ rfl;simp[UE,gN,gW];refine cL [.vec (.par 0) 4 0 ls.length,.pv (.i (dJ (ls.map Lt.num) n)),.vec (.par 1) 4 0 1] [(.par 0,.arr 77 4 (ls.map Lt.pv)),(.par 1,.arr 77 4 [Lt.pv ⟨n,p,q,false⟩])] 53 [.loc 40 0,.loc 52 0] (by simp) IB ?_
  rintro r0 B0 ⟨rfl,rfl⟩;refine⟨by simp,by simp,?_⟩;have hle:ls.length+1<=(lO ls (dJ (ls.map Lt.num) n) ⟨n,p,q,false⟩).length:=by rw[SV lG];exact fE _
  have iH:List.take (ls.length+1) ((lO ls (dJ (ls.map Lt.num) n) ⟨n,p,q,false⟩).map Lt.pv)=(lO ls (dJ (ls.map Lt.num) n) ⟨n,p,q,false⟩).map Lt.pv:=fH (by rw[fQ,SV lG];exact fE _);simp[hold,aO,gN,gW];refine l9 (a:=ct) (b:=bd) (c:=aU (lO ls (dJ (ls.map Lt.num) n) ⟨n,p,q,false⟩)) (d:=ts) (e:=rn) [.loc 53 0] ?_ ?_
  .simp[bB,AS.cH,AV.cH,AV.bB,aL.cH,aO,aU,iH,hle]
  .rw[<-hQ];exact⟨_,rfl,rfl,rfl,rfl,rfl,rfl⟩
theorem Zvb (st:Wk)(hl:st.aA.length<=1000)(hb:st.bad.length<=900)(hs:st.bad.Pairwise (·<·)):EK st:=fun n _=>by
 refine(Eh st.aA st.bad (aU st.aJ) (bE st.aG) (dI st.runs) n hl hb hs).mono ?_ ?_
 .rintro r B ⟨rfl,a,b,c,d,e,rfl,l',h1,rfl,rfl,rfl,rfl,rfl⟩;exact⟨rfl,_,_,_,_,_,rfl,{ st with bad:=l' },by rw[h1];rfl,rfl⟩
 .rintro x B ⟨m,rfl,h1,h2⟩;exact⟨m,rfl,by rw[h1];rfl,h2⟩
theorem ZuP (st:Wk)(hl:st.aJ.length<=900)(hs:(st.aJ.map Lt.num).Pairwise (·<·))(cU:∀y∈st.aJ,vS y):EJ st:=fun n p m hn _ _=>by
 refine(ZK (aK st.aA) (bG st.bad) (bE st.aG) (dI st.runs) st.aJ n p m hn hl hs cU).mono ?_ ?_
 .rintro r B ⟨rfl,a,b,c,d,e,rfl,l',h1,rfl,rfl,rfl,rfl,rfl⟩;exact⟨rfl,_,_,_,_,_,rfl,{ st with aJ:=l' },by rw[h1];rfl,rfl⟩
 .rintro x B ⟨m,rfl,h1,h2⟩;exact⟨m,rfl,by rw[h1];rfl,h2⟩
theorem Ms {F:Nat}(hF:407<F):Fg sG (lS F):=fun k st s hk h hs=>
 ⟨h.next s,Dr hF st s (by omega) (h.ok (by omega)) (by have:=h.c;omega) (by have:=h.r;omega) h.s (Zvb st (by have:=h.c;omega) (by have:=h.b;omega) h.bs) (ZuP st (by have:=h.l;omega) h.s (fun x hx=>(h.lt x hx).1))⟩
theorem Lq (k:Nat)(w:Wk)(hk:k<=50)(h:sG k w):F4 w:=h.ok (by omega)
theorem ZrZ {F:Nat}(hF:407<F)(L:List ByteArray)(hl:L.length<=1000000):aD prog 6 [bS L] (n9 (lS F) L):=Zvj (Ms hF) vB Lq L hl
theorem Zj2 {F:Nat}(hF:407<F)(L:List ByteArray)(hl:L.length<=1000000)(n:Int):aD prog 13 [bS L,.i n] (AX (lS F) L n):=Zj1 (Ms hF) vB Lq L hl n (fun k w hk h=>by have:=h.b;omega)
section
open Go.RowKit Go.Shelf
theorem ZqV:(prog.info? 87).map (·.size)=some 2:=by kernel_rfl
theorem Zll:∃j,prog.info? 87=some j/\j.size≠0:=by
 obtain⟨j,h1,h2⟩:=eA.1 ZqV;exact⟨j,h1,by rw[h2];decide⟩
theorem ZqW:liesAt prog prog.depth 87 (2 / prog.cellsOf 87) 0 87 1=true:=by kernel_rfl
theorem ZtV (b:Nat)(v:Value)(w:World)(hb:w.heap[b]?=some (.cells #[.pointer (some ⟨b,0,none⟩),v] 87 (0,0))):
  Calls prog 53 #[.pointer (some ⟨b,0,none⟩)] w fun e w'=>e=.returned (.tuple #[])/\w'=w:=by
 have h0:w.cell? ⟨b,0,none⟩=some (.pointer (some ⟨b,0,none⟩)):=by rw[Lib.cell_of_heap hb];rfl
 obtain⟨j,hj,_⟩:=Zll;go_enter func53,ntmps53;go_wp2;rw[Lib.run_neq_ptr_same w _ underlying85 hj];go_wp2;go_end0;exact⟨rfl,rfl⟩
theorem ZqN (b:Nat)(v:Value)(w:World)(hb:w.heap[b]?=some (.cells #[.pointer none,v] 87 (0,0))):
  Calls prog 53 #[.pointer (some ⟨b,0,none⟩)] w fun e w'=>e=.returned (.tuple #[])/\w'=w.setCell ⟨b,0,none⟩ (.pointer (some ⟨b,0,none⟩)):=by
 have h0:w.cell? ⟨b,0,none⟩=some (.pointer none):=by rw[Lib.cell_of_heap hb];rfl
 have hfz:w.frozen? ⟨b,0,none⟩=false:=Lib.frozen_of_heap hb 0;have HR:w.shape? b=some (87,2):=by simp[World.shape?,hb]
 obtain⟨j,hj,hjs⟩:=Zll;go_enter func53,ntmps53;go_wp2;rw[Lib.run_to_unsafe w ⟨b,0,none⟩ underlying85 underlying187 hj hjs HR (Nat.zero_lt_succ 1)];simp only[Result.andThen];rw[Oper.upon_value];go_wp2;rw[run_callFunc_extern func93 (by kernel_rfl) (by kernel_rfl) (by kernel_rfl) (e:=Extern.AbiNoEscape.same) (by kernel_rfl)];rw[Lib.run_noEscape];simp only[Result.andThen];rw[Oper.upon_value];go_wp2;rw[Lib.run_from_unsafe w ⟨b,0,none⟩ underlying187 underlying85 hj HR ZqW];simp only[Result.andThen];rw[Oper.upon_value];go_wp2;go_end0;exact⟨rfl,rfl⟩
theorem Zw (b n cap:Nat)(ad:Option Addr)(ad':Option Addr)(n' JC:Nat)(s:ByteArray)(w w1 w2:World)(mD:Calls prog 53 #[.pointer (some ⟨b,0,none⟩)] w fun e w'=>e=.returned (.tuple #[])/\w'=w1)
  (sS:w1.heap[b]?=some (.cells #[.pointer (some ⟨b,0,none⟩),.slice ad n cap] 87 (0,0))) (Va:∀ty,(Builtin.append_ #[53,9] ty #[.slice ad n cap,.string s]).run prog w1=.ok (.slice ad' n' JC) w2)
  (pN:w2.heap[b]?=some (.cells #[.pointer (some ⟨b,0,none⟩),.slice ad n cap] 87 (0,0))):
  Calls prog 26 #[.pointer (some ⟨b,0,none⟩),.string s] w fun e w'=>e=.returned (.tuple #[.i s.size,.nilIface])/\w'=w2.setCell ⟨b,1,none⟩ (.slice ad' n' JC):=by
 have c0:w1.cell? ⟨b,0,none⟩=some (.pointer (some ⟨b,0,none⟩)):=by rw[Lib.cell_of_heap sS];rfl
 have c1:w1.cell? ⟨b,1,none⟩=some (.slice ad n cap):=by rw[Lib.cell_of_heap sS];rfl
 have d0:w2.cell? ⟨b,0,none⟩=some (.pointer (some ⟨b,0,none⟩)):=by rw[Lib.cell_of_heap pN];rfl
 have d1:w2.cell? ⟨b,1,none⟩=some (.slice ad n cap):=by rw[Lib.cell_of_heap pN];rfl
 have f1:w2.frozen? ⟨b,1,none⟩=false:=Lib.frozen_of_heap pN 1;have e112:∀args w,(callFunc 53 args).run prog w=.ok (.enter 53 args) w:=enters_of func53 (by kernel_rfl) rfl;go_enter func26,ntmps26;go_wp2_with (go_at_fn 53;refine mD.mono ?_);rintro e w' ⟨rfl,rfl⟩;go_wp2_with (at_builtin;refine Lib.wpList_append_run _ rfl _ _ _ _ rfl _ _ rfl rfl _ _ (Va _) ?_);go_ret2;exact⟨rfl,rfl⟩
end
theorem cV.sub {bs cs:List Nat}{w w':World}(h:cV bs w w')(hs:∀k∈bs,k∈cs):cV cs w w':=⟨h.os,h.tape,h.output,h.size,fun k hk hn=>h.block k hk (fun hm=>hn (hs k hm))⟩
abbrev EL:TypeId:=87
abbrev X0:TypeId:=5
def xW (b:Nat):Value:=.pointer (some ⟨b,0,none⟩)
theorem Zh {q:Loc}{m:Mem}{w w2:World}{l:List UInt8}{v0:Value}{g n c:Nat}{cur:Array Value}(pN:w2.heap[q.b]?=some (.cells #[xW q.b,v0] EL (0,0)))(G9:w2.heap[g]?=some (.cells cur X0 (0,0)))(Q4:g≠q.b)(hn:n=l.length)(MR:0<c)
  (G6:n<=c) (EZ:c<=cur.size) (rP:c<=maxLen) (QS:∀(i:Nat) (b:UInt8),l[i]?=some b->cur[i]?=some (.int .u8 b.toNat)) (hk:cV (q.b::yW q w) w w2) (M8:g∈yW q w\/w.heap.size<=g):
  c8 EL X0 l q m (w2.setCell ⟨q.b,1,none⟩ (.slice (some ⟨g,0,none⟩) n c))/\cV (q.b::yW q w) w (w2.setCell ⟨q.b,1,none⟩ (.slice (some ⟨g,0,none⟩) n c))/\∀k∈yW q (w2.setCell ⟨q.b,1,none⟩ (.slice (some ⟨g,0,none⟩) n c)),k∈yW q w\/w.heap.size<=k:=by
 subst hn;obtain⟨c,rfl⟩:∃k,c=k+1:=⟨c-1,by omega⟩;rw[setCell_eq_setRow _ _ _ _ _ _ _ pN];have h3:(w2.setRow q.b (#[xW q.b,v0].setIfInBounds 1 (.slice (some ⟨g,0,none⟩) l.length (c+1)))).heap[q.b]?=some (.cells #[xW q.b,.slice (some ⟨g,0,none⟩) l.length (c+1)] EL (0,0)):=setRow_heap _ _ _ _ _ _ pN;refine⟨⟨_,_,h3,.inr rfl,.inr ⟨g,c,cur,rfl,Q4,by rw[setRow_other _ _ _ _ Q4];exact G9,G6,EZ,rP,QS⟩⟩,hk.trans ((cV.setRow _ _ _).sub (fun k h=>by rw[rU]at h;subst h;exact List.mem_cons_self ..)),fun k h=>?_⟩;rw[Ht h3,rU]at h;subst h;exact M8
theorem Zo1 {q:Loc}{m:Mem}{w:World}{l:List UInt8}(s:ByteArray)(hs:0<s.size)(hl:l.length+s.size<=1000000)(h:c8 EL X0 l q m w):
  Calls prog 26 #[xW q.b,.string s] w fun e w'=>e=.returned (.tuple #[.i s.size,.nilIface])/\c8 EL X0 (l++s.data.toList) q m w'/\cV (q.b::yW q w) w w'/\∀k∈yW q w',k∈yW q w\/w.heap.size<=k:=by
 obtain⟨p,v,hb,hp,hv⟩:=h;obtain⟨w1,mD,sS,iB⟩:∃w1,(Calls prog 53 #[xW q.b] w fun e w'=>e=.returned (.tuple #[])/\w'=w1)/\w1.heap[q.b]?=some (.cells #[xW q.b,v] EL (0,0))/\cV [q.b] w w1:=by
  rcases hp with rfl|rfl
  .refine⟨_,ZqN q.b v w hb,?_,?_⟩
   .rw[setCell_eq_setRow _ _ _ _ _ _ _ hb];exact setRow_heap _ _ _ _ _ _ hb
   .rw[setCell_eq_setRow _ _ _ _ _ _ _ hb];exact cV.setRow _ _ _
  .exact⟨w,ZtV q.b v w hb,hb,cV.tH _ _⟩
 have xJ:q.b<w.heap.size:=(qD.1 hb).1;have Co:q.b<w1.heap.size:=(qD.1 sS).1;have fG:=iB.size;have QG:cV (q.b::yW q w) w w1:=iB.sub (fun k h=>by rw[rU]at h;subst h;exact List.mem_cons_self ..);obtain⟨i,z,hi,hz,X9,P8,Je⟩:∃i z,prog.info? 5=some i/\i.zero=some z/\i.size=1/\i.bytes=1/\z.cells.size=1:=by
  have h:(prog.info? 5).map (fun i=>(i.zero,i.size,i.bytes))=some (some (.int .u8 0),1,1):=by kernel_rfl
  cases h':prog.info? 5 with
  |none=>rw[h']at h;simp at h
  |some i=>
   rw[h',uU,Option.some.injEq,Prod.mk.injEq,Prod.mk.injEq]at h;exact⟨i,_,rfl,h.1,h.2.1,h.2.2,rfl⟩
 have PN:∀w',(Builtin.firstCells i.size s.size (.string s)).run prog w'=.ok (Lib.strCells s).toArray w':=fun w'=>Lib.run_firstCells_string w' i.size s
 have Z4:=Lib.strCells_length s;have nI:s.data.toList.length=s.size:=rfl;have UQ:∀(j:Nat) (b:UInt8),s.data.toList[j]?=some b->(Lib.strCells s)[j]?=some (.int .u8 b.toNat):=fun j b hj=>by
  unfold Lib.strCells;rw[bR,hj];rfl
 rcases hv with⟨rfl,rfl⟩|⟨g,c,cur,rfl,Q4,hg,h1,h2,h3,h4⟩
 .have dF:∀ty,(Builtin.append_ #[53,9] ty #[.slice none 0 0,.string s]).run prog w1=_:=fun ty=>
   Zen (P:=prog) (w:=w1) (ty:=ty) underlying53 underlying9 hi hz none 0 0 s s.size rfl [] (Lib.strCells s) (fun w' _=>run_firstCells_none w' i.size 0 0 0) (fun w' _=>PN w') (by omega) (by omega) (growslice_fits (by omega) (by rw[P8];omega))
  have yK:=grownCap_ge w1 (0+s.size) 0 X0;have hle:=grownCap_le_maxLen w1 (0+s.size) 0 X0 (by unfold maxLen;omega);generalize grownCap w1 (0+s.size) 0 X0=G at dF yK hle;have pN:(w1.drew.alloc (.cells (([]++Lib.strCells s).toArray++Builtin.zeroCells z.cells (G-(0+s.size))) X0)).heap[q.b]?=some (.cells #[xW q.b,.slice none 0 0] EL (0,0)):=by rw[heap_alloc_old w1.drew _ Co];exact sS
  refine(Zw q.b 0 0 none _ _ _ s w w1 _ mD sS dF pN).mono ?_;rintro e w' ⟨rfl,rfl⟩;refine⟨rfl,Zh pN (heap_alloc_new w1.drew _) (by show w1.heap.size≠q.b;omega) ?_ (by omega) yK ?_ hle (fun j b hj=>?_) (QG.trans ((Fu w1 _).trans (cV.Ex (Ext.al _ _) _))) (.inr fG)⟩
  .rw[gE,nI];rfl
  .rw[Array.size_append,yT,gE,size_zeroCells,Je,Z4,List.length_nil];omega
  .have aI:=(bZ.1 hj).1;rw[List.nil_append]at hj aI ⊢;rw[Array.getElem?_append_left (by rw[yT,Z4];omega),I1];exact UQ j b hj
 .have hgl:g<w.heap.size:=(qD.1 hg).1;have QQ:w1.heap[g]?=some (.cells cur X0 (0,0)):=by rw[iB.block g hgl (by simpa using Q4)];exact hg
  have HZ:yW q w=[g]:=Ht hb;by_cases eP:l.length+s.size<=c+1
  .have dF:∀ty,(Builtin.append_ #[53,9] ty #[.slice (some ⟨g,0,none⟩) l.length (c+1),.string s]).run prog w1=_:=fun ty=>
    Zgm (P:=prog) (w:=w1) (ty:=ty) underlying53 underlying9 hi g 0 l.length (c+1) cur QQ s s.size rfl (Lib.strCells s) (PN w1) (Lib.strCells_oneCell s) eP (by rw[X9,Z4];omega)
   have pN:(w1.setRow g (aR cur.toList (0+l.length*i.size) (Lib.strCells s)).toArray).heap[q.b]?=some (.cells #[xW q.b,.slice (some ⟨g,0,none⟩) l.length (c+1)] EL (0,0)):=by rw[setRow_other _ _ _ _ (Ne.symm Q4)];exact sS
   refine(Zw q.b l.length (c+1) _ _ _ _ s w w1 _ mD sS dF pN).mono ?_;rintro e w' ⟨rfl,rfl⟩;have gS:cur.toList.length=cur.size:=uV;refine⟨rfl,Zh pN (setRow_heap _ _ cur _ _ _ QQ) Q4 ?_ (by omega) eP ?_ h3 (fun j b hj=>?_) (QG.trans ((cV.setRow _ _ _).sub (fun k h=>by rw[rU]at h;subst h;rw[HZ];simp))) (.inl (by rw[HZ];simp))⟩
   .rw[gE,nI]
   .rw[yT,W3 (by rw[X9,Z4];omega),gS];exact h2
   .rw[I1,A0 (by rw[X9,Z4];omega),X9,rT,Nat.mul_one,Z4];rw[yS]at hj;split at hj
    .rename_i aI;rw[if_pos aI,O7];exact h4 j b hj
    .rename_i aI
     have:=(bZ.1 hj).1
     rw[if_neg aI,if_pos (by omega)];exact UQ _ b hj
  .have CI:∀w',(∀A,w'.cell? A=w1.cell? A)->(Builtin.firstCells i.size l.length (.slice (some ⟨g,0,none⟩) l.length (c+1))).run prog w'=.ok (l.map fun b=>Value.int .u8 b.toNat).toArray w':=fun w' hw=>by
    rw[X9];refine run_firstCells_some (P:=prog) w' 1 l.length ⟨g,0,none⟩ l.length (c+1) _ (by rw[fQ];omega) (fun j u hj=>?_);rw[bR]at hj;obtain⟨b,nO,rfl⟩:=eA.1 hj;rw[Addr.add_lit,hw,rT];exact(cell_of_row w1 g j cur _ _ QQ).trans (h4 j b nO)
   have dF:∀ty,(Builtin.append_ #[53,9] ty #[.slice (some ⟨g,0,none⟩) l.length (c+1),.string s]).run prog w1=_:=fun ty=>
    Zen (P:=prog) (w:=w1) (ty:=ty) underlying53 underlying9 hi hz (some ⟨g,0,none⟩) l.length (c+1) s s.size rfl (l.map fun b=>Value.int .u8 b.toNat) (Lib.strCells s) CI (fun w' _=>PN w') (by omega) (by omega) (growslice_fits (by omega) (by rw[P8];omega))
   have yK:=grownCap_ge w1 (l.length+s.size) (c+1) X0;have hle:=grownCap_le_maxLen w1 (l.length+s.size) (c+1) X0 (by unfold maxLen;omega);generalize grownCap w1 (l.length+s.size) (c+1) X0=G at dF yK hle;have pN:(w1.drew.alloc (.cells (((l.map fun b=>Value.int .u8 b.toNat)++Lib.strCells s).toArray++Builtin.zeroCells z.cells (G-(l.length+s.size))) X0)).heap[q.b]?=some (.cells #[xW q.b,.slice (some ⟨g,0,none⟩) l.length (c+1)] EL (0,0)):=by rw[heap_alloc_old w1.drew _ Co];exact sS
   refine(Zw q.b l.length (c+1) _ _ _ _ s w w1 _ mD sS dF pN).mono ?_;rintro e w' ⟨rfl,rfl⟩;refine⟨rfl,Zh pN (heap_alloc_new w1.drew _) (by show w1.heap.size≠q.b;omega) ?_ (by omega) yK ?_ hle (fun j b hj=>?_) (QG.trans ((Fu w1 _).trans (cV.Ex (Ext.al _ _) _))) (.inr fG)⟩
   .rw[gE,nI]
   .rw[Array.size_append,yT,gE,fQ,size_zeroCells,Je,Z4];omega
   .have aI:=(bZ.1 hj).1;rw[gE,nI]at aI;rw[Array.getElem?_append_left (by rw[yT,gE,fQ,Z4];omega),I1];rw[yS]at hj ⊢;rw[fQ];split at hj
    .rename_i h;rw[if_pos h,bR,hj];rfl
    .rename_i h;rw[if_neg h];exact UQ _ b hj
section
open Go.RowKit Go.Sort
theorem Zog {w w':World}(h:Below w.heap.size w w'):Ext w w':=⟨h.os,h.tape,h.output,h.size,h.block⟩
def vW (xs:List ByteArray)(sep:ByteArray):ByteArray:=⟨(Lib.join (xs.map (·.data.toList)) sep.data.toList).toArray⟩
theorem ZuS (xs:List ByteArray)(sep:ByteArray)(h1:xs.length<=1000000)(hlen:(Lib.join (xs.map (·.data.toList)) sep.data.toList).length<=140737488355328):aD prog 66 [bS xs,.str sep] (.str (vW xs sep)):=by
 refine Nn ⟨_,_,func66,by kernel_rfl,rfl⟩ fun w m vs hg hm fG lF=>?_
 obtain⟨v,u,rfl⟩:=JG fG;obtain rfl:=SR (lF 1 u _ rfl rfl);have hv:=lF 0 v _ rfl rfl;unfold bS at hv;generalize hX:xs.map PV.str=X at hv;cases hv with
 |aE a cap nn n ys ds l0 l1 l2 l3 l4 l5 l6 l7=>
 cases xs with
 |nil=>
  subst hX;exact(strings_Join_none a cap sep w).mono fun e w' ⟨k1,k2⟩=>⟨_,k1,k2▸Ext.tH _,.str _⟩
 |cons x0 r=>
  have hl:X.length=(x0::r).length:=by rw[<-hX,fQ]
  obtain⟨b,o,rfl,_⟩:=l5 0 (.str x0) (by rw[<-hX];rfl);have hc:∀(j:Nat) x,(x0::r)[j]?=some x->w.cell? ⟨b,o+j,none⟩=some (.string x):=fun j x hj=>by
   have Vc:X[j]?=some (.str x):=by rw[<-hX,bR,hj];rfl
   obtain⟨b',o',e,r7⟩:=l5 j _ Vc;cases e;obtain⟨q1,q2,_⟩:=l6 j _ Vc;obtain⟨d,hd⟩:∃d,(ds j)[0]?=some d:=⟨(ds j)[0]'(by omega),aX _⟩;have Sn:=l7 j _ 0 d _ Vc hd rfl;obtain rfl:=SR Sn
   have:=hm _ _ _ (r7.get 0 _ hd)
   rw[Nat.mul_one,Nat.add_zero]at this;exact this
  have Uz:=hc 0 x0 rfl;rw[hl];exact(strings_Join b o cap (x0::r) sep w hc (AQ Uz) (by omega) (by omega) hlen).mono fun e w' ⟨k1,k2⟩=>⟨_,k1,Zog k2,.str _⟩
end
inductive Wd where
 |num (n:Int)
 |kN (s:ByteArray)
def Wd.pv:Wd->PV
 |.num n=>.iface 3 (.i n)
 |.kN s=>.iface 9 (.str s)
def Wd.b:Wd->ByteArray
 |.num n=>vX n
 |.kN s=>s
def Wd.ok:Wd->Prop
 |.num n=>-9223372036854775808<=n/\n<=9223372036854775807
 |.kN _=>True
def ZR (ws:List Wd)(k:Nat):AS:=
 ⟨[(3,.vec (.loc 22 0) 1 0 k),(8,.pv (.aE false 1 (ws.map Wd.pv))),(9,.pv (.i ws.length)),(10,.pv (.i (k:Int)))],[(.loc 22 0,.arr 9 1 (((ws.take k).map Wd.b).map .str))]⟩
theorem Gl (ws:List Wd)(hl:ws.length<=1000)(hw:∀x∈ws,x.ok)(hlen:(Lib.join ((ws.map Wd.b).map (·.data.toList)) blank.data.toList).length<=140737488355328):aD prog 30 [.aE false 1 (ws.map Wd.pv)] (.str (vW (ws.map Wd.b) blank)):=by
 have VD:=ZuS (ws.map Wd.b) blank (by rw[fQ];omega) hlen;refine O1 [] L30 ?_;intro R hR;simp[L30];refine dY (fun m τ=>∃k:Nat,k<=ws.length/\m=ws.length-k/\τ=ZR ws k) ⟨ws.length,ZR ws 0,Sub.trans' (Sub.mk (by simp[AS.cT]) (by simp[AS.cT])) (cT 22 9 1 3 rfl (by decide)),0,fT _,rfl,rfl⟩ ?_;rintro J hJ m τ ⟨k,hk,rfl,rfl⟩;by_cases aI:k<ws.length
 .obtain⟨x,hx⟩:∃x,ws[k]?=some x:=⟨ws[k],aX aI⟩;have hg:(ws.map Wd.pv)[k]?=some x.pv:=by rw[bR,hx];rfl
  have Ji:=hw x (dL hx);have UN:=bA (k:=k) (by omega);have iB:k+1<=1000000:=by omega
  have QB:min k ws.length=k:=Nat.min_eq_left (by omega);have hn:=hJ (ws.length-(k+1)) _ ⟨k+1,aI,rfl,rfl⟩;unfold ZR at hn;rw[lX,hx,lI,lI]at hn;have aH:ws.length-(k+1)<ws.length-k:=by omega
  have zL:(((ws.take k).map Wd.b).map PV.str).length=k:=by rw[fQ,fQ,gI];omega
  unfold ZR;generalize((ws.take k).map Wd.b).map PV.str=T at hn zL ⊢;cases x with
  |num n=>
   simp only[Wd.pv]at hg;simp[aI,↓hg];refine cG [.i n] (Yg n Ji) ?_;simp[aP,iB,zL,UN];exact⟨_,_,aH,Sub.mk (by simp) (by simp[Wd.b]),hn⟩
  |kN s=>
   simp only[Wd.pv]at hg;simp[aI,↓hg,aP,iB,UN,zL];refine⟨_,_,aH,Sub.trans' (Sub.mk ?_ ?_) (o8 22 3 (T++[.str s]) (s:=.loc 29 0) (e:=9) rfl rfl ?_ rfl),hn⟩
   .simp[AS.o8]
   .simp[AS.o8,Wd.b]
   .simp[zL]
 .have he:k=ws.length:=by omega
  subst he;have iH:ws.take ws.length=ws:=nC;unfold ZR;rw[iH];have hm:List.take ws.length ((ws.map Wd.b).map PV.str)=(ws.map Wd.b).map PV.str:=fH (by simp);simp[-List.map_map];refine .inl (cP [.loc 22 0] [bS (ws.map Wd.b),.str blank] (by simp) (by simp[-List.map_map,bS,blank,hm]) VD ?_);simp;rw[<-hR];exact⟨rfl,rfl⟩
def kT (S:Int->Int->Bool)(ts:List Tt)(n:Int):Nat:=(ts.filter fun t=>decide (t.fU=n)&&S t.item t.day).length
theorem ZlQ {S:Int->Int->Bool}{ts:List Tt}{n:Int}{k:Nat}{t:Tt}(h:ts[k]?=some t):kT S (ts.take (k+1)) n=kT S (ts.take k) n+(if(decide (t.fU=n)&&S t.item t.day)=true then 1 else 0):=by
 unfold kT;rw[lX,h,H9,gE];congr 1;simp only[Option.toList,xL,List.filter_nil];cases(decide (t.fU=n)&&S t.item t.day)<;>simp
theorem Zhq {S:Int->Int->Bool}{ts:List Tt}{n:Int}:kT S ts n<=ts.length:=R3 _ _
def GL:ByteArray:=⟨#[108,111,116]⟩
def Lj:ByteArray:=⟨#[116,101,115,116,115]⟩
def FY:ByteArray:=⟨#[112,97,115,115,101,100]⟩
def TB:ByteArray:=⟨#[114,101,99,97,108,108,101,100]⟩
def eJ (ws:List Wd):ByteArray:=vW (ws.map Wd.b) blank
def v7 (ws:List Wd):Prop:=(Lib.join ((ws.map Wd.b).map (·.data.toList)) blank.data.toList).length<=140737488355328
def G1 (x:Lt)(many:Nat)(v:Int):List Wd:=[.kN GL,.num x.num,.kN Lj,.num many,.kN (zD v)]
def LU (x:Lt)(many:Nat)(v:Int):ByteArray:=if x.passed=true then eJ [.kN (eJ (G1 x many v)),.kN FY]else eJ (G1 x many v)
def WU (x:Lt)(many:Nat)(v:Int):ByteArray:=if(x.passed&&!decide (v=1))=true then eJ [.kN (LU x many v),.kN TB]else LU x many v
def UH (W:aL)(x:Lt)(S:Int->Int->Bool)(ts:List Tt)(k:Nat):AS:=
 ⟨[(0,.ptr (.par 0) 0),(3,.ptr (.loc 3 0) 0),(5,.pv (.i ((kT S (ts.take k) x.num:Nat):Int))),(13,.pv (.aE false 4 (ts.map Tt.pv))),(14,.pv (.i ts.length)),(15,.pv (.i (k:Int)))],
  [(.loc 3 0,.cells [.pv (.i x.num),.pv (.i x.pieces),.pv (.i x.limit),.pv (.bool x.passed)]),(.par 0,W)]⟩
theorem Zp7 (l:List Ct)(bad:List Int)(ls:PV)(ts:List Tt)(rn:PV)(x:Lt)(hl:l.length<=1000)(hb:bad.length<=1000)(ht:ts.length<=900)(hx:vS x)(dE:zB l bad ts)
  (j0:v7 (G1 x (kT (stM l bad) ts x.num) (cW l bad ts x))) (j1:v7 [.kN (eJ (G1 x (kT (stM l bad) ts x.num) (cW l bad ts x))),.kN FY]) (j2:v7 [.kN (LU x (kT (stM l bad) ts x.num) (cW l bad ts x)),.kN TB]):
  cN prog 27 [.ptr (.par 0) 0,.pv x.pv] [(.par 0,aO (aK l) (bG bad) ls (bE ts) rn)] (fun r B=>r=.pv (.str (WU x (kT (stM l bad) ts x.num) (cW l bad ts x)))/\B=[(.par 0,aO (aK l) (bG bad) ls (bE ts) rn)]):=by
 have qK:=Ny l bad ls ts rn x hl hb ht hx.2.2.1 hx.2.2.2 dE;have HM:iC (stM l bad) (oY l bad x.limit) x.num ts []=cW l bad ts x:=rfl;rw[HM]at qK;have oB:=ZlM l bad ls ts rn x hl hb ht hx.2.2.1 hx.2.2.2 dE;rw[Lt.pv]at qK oB;refine O2 [.par 0] L27 ?_;intro R hR;simp[L27,aO,Lt.pv,bE];refine dY (fun m τ=>∃k:Nat,k<=ts.length/\m=ts.length-k/\τ=UH (aO (aK l) (bG bad) ls (bE ts) rn) x (stM l bad) ts k) ⟨ts.length,UH (aO (aK l) (bG bad) ls (bE ts) rn) x (stM l bad) ts 0,Sub.mk (by simp[kT]) (by simp[aO,bE]),0,fT _,rfl,rfl⟩ ?_;rintro J hJ m τ ⟨k,hk,rfl,rfl⟩;by_cases aI:k<ts.length
 .obtain⟨t,MB⟩:∃t,ts[k]?=some t:=⟨ts[k],aX aI⟩;have hg:(ts.map Tt.pv)[k]?=some t.pv:=by rw[bR,MB];rfl
  simp only[Tt.pv]at hg;have hw:=bA (k:=k) (by omega);have G7:=Zhq (S:=stM l bad) (ts:=ts.take k) (n:=x.num);rw[gI]at G7;have sL:=bA (k:=kT (stM l bad) (ts.take k) x.num) (by omega);have aH:ts.length-(k+1)<ts.length-k:=by omega
  have hn:=hJ (ts.length-(k+1)) _ ⟨k+1,aI,rfl,rfl⟩;unfold UH at hn;rw[ZlQ MB]at hn;have wA:=Gs l bad ls (bE ts) rn hl hb x.num t.item t.day t.rd;have e1:decide (((fB l bad).j5 t.item t.day).2=0)=stM l bad t.item t.day:=rfl;rw[e1]at wA;clear e1;by_cases mI:t.fU=x.num
  .rw[decide_eq_true mI,Bool.true_and]at hn;simp[UH,aO,bE,aI,↓hg,aP,mI];refine cM [.ptr (.par 0) 0,.pv (.agg [.i x.num,.i t.item,.i t.day,.i t.rd])] [(.par 0,aO (aK l) (bG bad) ls (bE ts) rn)] 27 [.par 0] (by simp[aO,bG,bE]) wA (by simp[aO]) ?_;cases Ad:stM l bad t.item t.day with
   |true=>
    rw[Ad,if_pos rfl]at hn;simp[aO,hw,sL];exact⟨_,_,aH,Sub.mk (by simp) (by simp[aO,bE,bG]),hn⟩
   |false=>
    rw[Ad,if_neg (by simp)]at hn;simp[aO,hw];exact⟨_,_,aH,Sub.mk (by simp) (by simp[aO,bE,bG]),hn⟩
  .rw[decide_eq_false mI,Bool.false_and,if_neg (by simp)]at hn;simp[UH,aO,bE,aI,↓hg,aP,mI,hw];exact⟨_,_,aH,Sub.mk (by simp) (by simp[aO,bE,bG]),hn⟩
 have he:k=ts.length:=by omega
 subst he;unfold UH;rw[nC];have T8:=Zhq (S:=stM l bad) (ts:=ts) (n:=x.num);generalize kT (stM l bad) ts x.num=many at T8 j0 j1 j2 hR ⊢;generalize cW l bad ts x=v at qK oB j0 j1 j2 hR;simp[aO];refine EC (fun τ=>τ=⟨[(0,.ptr (.par 0) 0),(3,.ptr (.loc 3 0) 0),(32,.pv (.iface 9 (.str GL))),(35,.pv (.iface 3 (.i x.num))),(36,.pv (.iface 9 (.str Lj))),(38,.pv (.iface 3 (.i many))),(43,.pv (.iface 9 (.str (zD v))))],[(.loc 3 0,.cells [.pv (.i x.num),.pv (.i x.pieces),.pv (.i x.limit),.pv (.bool x.passed)]),(.par 0,aO (aK l) (bG bad) ls (bE ts) rn)]⟩) ?_ ?_
 .simp[gN,gW]
  repeat' apply And.intro
  all_goals
   refine cM [.ptr (.par 0) 0,.pv (.agg [.i x.num,.i x.pieces,.i x.limit,.bool x.passed])] [(.par 0,aO (aK l) (bG bad) ls (bE ts) rn)] 41 [.par 0] (by simp[aO,bG,bE]) qK (by simp[aO]) ?_;simp[aO,gN,gW]
   repeat' apply And.intro
   all_goals
    first
     |refine .inl (cQ [] [.int .u8 v] (Zrx v) ?_)
     |refine cQ [] [.int .u8 v] (Zrx v) ?_
    simp
    repeat' apply And.intro
    all_goals exact Sub.mk (by simp[GL,Lj]) (by simp[bG,bE])
 .rintro τ rfl;simp[gN,gW,aO];have w0:=Gl (G1 x many v) (show(5:Nat)<=1000 by decide) (fun y hy=>by
   simp[G1]at hy;rcases hy with rfl|rfl|rfl|rfl|rfl
   .trivial
   .have h1:=hx.1;have h2:=hx.2.1;exact⟨by omega,by omega⟩
   .trivial
   .exact⟨by omega,by omega⟩
   .trivial) j0
  refine .inl (cP [.loc 44 0] [.aE false 1 ((G1 x many v).map Wd.pv)] (by simp) (by simp[G1,Wd.pv]) w0 ?_);have e0:vW ((G1 x many v).map Wd.b) blank=eJ (G1 x many v):=rfl;rw[e0];unfold WU LU at hR;unfold LU at j2;cases hp:x.passed with
  |false=>
   rw[hp]at hR oB;rw[Bool.false_and]at hR oB;rw[if_neg (by simp),if_neg (by simp)]at hR;generalize eJ (G1 x many v)=s0 at hR;simp;refine cM [.ptr (.par 0) 0,.pv (.agg [.i x.num,.i x.pieces,.i x.limit,.bool false])] [(.par 0,aO (aK l) (bG bad) ls (bE ts) rn)] 55 [.par 0] (by simp[aO,bG,bE]) oB (by simp[aO]) ?_;simp[aO];rw[<-hR];exact⟨rfl,by simp[aO,bG,bE]⟩
  |true=>
   rw[hp]at hR oB j2;rw[Bool.true_and]at hR oB;rw[if_pos rfl]at hR j2;generalize eJ (G1 x many v)=s0 at hR j1 j2;have w1:=Gl [.kN s0,.kN FY] (show(2:Nat)<=1000 by decide) (fun y hy=>by
    simp at hy;rcases hy with rfl|rfl<;>trivial) j1
   simp;refine .inl (cP [.loc 51 0] [.aE false 1 ([Wd.kN s0,.kN FY].map Wd.pv)] (by simp) (by simp[Wd.pv,FY]) w1 ?_);have e1:vW ([Wd.kN s0,.kN FY].map Wd.b) blank=eJ [.kN s0,.kN FY]:=rfl;rw[e1];generalize eJ [.kN s0,.kN FY]=s1 at hR j2;have w2:=Gl [.kN s1,.kN TB] (show(2:Nat)<=1000 by decide) (fun y hy=>by
    simp at hy;rcases hy with rfl|rfl<;>trivial) j2
   simp;refine cM [.ptr (.par 0) 0,.pv (.agg [.i x.num,.i x.pieces,.i x.limit,.bool true])] [(.par 0,aO (aK l) (bG bad) ls (bE ts) rn)] 55 [.par 0] (by simp[aO,bG,bE]) oB (by simp[aO]) ?_;by_cases zJ:v=1
   .rw[if_neg (by simp[zJ])]at hR;simp[aO,zJ];rw[<-hR];exact⟨rfl,by simp[aO,bG,bE]⟩
   .rw[if_pos (by simp[zJ])]at hR;simp[aO,zJ];refine .inl (cP [.loc 59 0] [.aE false 1 ([Wd.kN s1,.kN TB].map Wd.pv)] (by simp) (by simp[Wd.pv,TB]) w2 ?_);simp;rw[<-hR];exact⟨rfl,by simp[aO,bG,bE]⟩
section
open Go.RowKit Go.Shelf
abbrev oR (l:List UInt8):aL:=.ext (DL EL X0 l)
theorem Pc (l:List UInt8)(s:ByteArray)(hs:0<s.size)(hl:l.length+s.size<=1000000):
  cN prog 26 [.ptr (.par 0) 0,.pv (.str s)] [(.par 0,oR l)] (fun r B=>r=.pv (.bM [.i s.size,.eV])/\B=[(.par 0,oR (l++s.data.toList))]):=by
 refine⟨⟨_,_,func26,by kernel_rfl,rfl⟩,fun w m ρ vs hB mQ fG lF=>?_⟩;obtain⟨v0,v1,rfl⟩:=JG (by simpa using fG);have h0:=lF 0 v0 _ rfl rfl;have h1:=(lF 1 v1 _ rfl rfl).nJ;have PJ:v0=xW (ρ (.par 0)).b:=by cases h0;rfl
 have zJ:v1=.string s:=by cases h1;rfl
 subst PJ zJ;obtain⟨hr,tX⟩:=hB.bx (.par 0) _ rfl;have mR:cI ρ w [(.par 0,oR l)]=(ρ (.par 0)).b::yW (ρ (.par 0)) w:=by simp[cI,hr,ins,DL]
 have look:∀s' bx,List.lookup s' [((.par 0:Site),oR (l++s.data.toList))]=some bx->s'=.par 0/\bx=oR (l++s.data.toList):=fun s' bx h=>by
  by_cases e:s'=.par 0
  .subst e;rw[mX]at h;cases h;exact⟨rfl,rfl⟩
  .rw[jG e]at h;cases h
 have iX:=hB.free (by simp);rw[mR]at iX;refine(Zo1 (m:=m) s hs hl tX).mono ?_;rintro e w' ⟨rfl,k1,k2,k3⟩;have Th:Le m w'.mem:=fun a o v hv=>by
  have hw:=mQ.1 a o v hv;exact(World.cell?_of_block (a:=⟨a,o,none⟩) (k2.block a (AQ hw) (fun h=>by rw[iX a h o]at hv;cases hv))).trans hw
 have IK:∀k,fL ρ w' (.par 0) (oR (l++s.data.toList)) k->k∈(ρ (.par 0)).b::yW (ρ (.par 0)) w\/w.heap.size<=k:=fun k h=>by
  rcases h with⟨_,rfl⟩|h
  .exact .inl (List.mem_cons_self ..)
  .rcases k3 k h with h|h
   .exact .inl (List.mem_cons_of_mem _ h)
   .exact .inr h
 refine⟨_,.pv (.bM [.i s.size,.eV]),[(.par 0,oR (l++s.data.toList))],ρ,m,rfl,⟨rfl,rfl⟩,⟨fun s' bx h=>?_,fun s' Iw bx Wo i h h' _ _=>?_,fun s' bx i h hb o=>?_⟩,Le.refl m,Th,fun _=>rfl,fun s' bx i h hb=>?_,fun _ _ _ h=>.inl h,?_,?_⟩
 .obtain⟨rfl,rfl⟩:=look s' bx h;exact⟨hr,k1⟩
 .rw[(look s' bx h).1,(look Iw Wo h').1]
 .obtain⟨rfl,rfl⟩:=look s' bx h;rcases IK i hb with h|h
  .exact iX i h o
  .cases hv:m i o with
   |none=>rfl
   |some v=>have:=AQ (mQ.1 _ _ _ hv);omega
 .obtain⟨rfl,rfl⟩:=look s' bx h;rw[mR];exact(IK i hb).symm
 .refine .pv _ _ (.bM _ _ rfl (fun j d c h h'=>?_))
  match j,h,h' with
  |0,h,h'=>cases h;cases h';exact .int _ _
  |1,h,h'=>cases h;cases h';exact .eV
 .rw[mR];exact k2
theorem Zo8 (b g c:Nat)(p:Value)(cur:Array Value)(l:List UInt8)(w:World)(IL:w.heap[b]?=some (.cells #[p,.slice (some ⟨g,0,none⟩) l.length (c+1)] 87 (0,0)))(h0:l≠[])
  (hg:w.heap[g]?=some (.cells cur 5 (0,0))) (G6:l.length<=cur.size) (rP:l.length<=maxLen) (QS:∀(i:Nat) (b:UInt8),l[i]?=some b->cur[i]?=some (.int .u8 b.toNat)):
  Calls prog 33 #[.pointer (some ⟨b,0,none⟩)] w fun e w'=>e=.returned (.string ⟨l.toArray⟩)/\w'=w.drew.freeze ⟨g,0,none⟩ l.length:=by
 have c1:w.drew.cell? ⟨b,1,none⟩=some (.slice (some ⟨g,0,none⟩) l.length (c+1)):=by
  have:w.drew.heap[b]?=some (.cells #[p,.slice (some ⟨g,0,none⟩) l.length (c+1)] 87 (0,0)):=IL
  rw[Lib.cell_of_heap this];rfl
 have hSD:∀ts ty,(Builtin.unsafeSliceData_ ts ty #[.slice (some ⟨g,0,none⟩) l.length (c+1)]).run prog w.drew=.ok (.pointer (some ⟨g,0,none⟩)) w.drew:=fun ts ty=>
  Lib.run_unsafeSliceData_row _ _ _ _ _ _ (by omega)
 have hUS:∀ty,(Builtin.unsafeString_ #[153,3] ty #[.pointer (some ⟨g,0,none⟩),.i l.length]).run prog w.drew=.ok (.string ⟨l.toArray⟩) (w.drew.freeze ⟨g,0,none⟩ l.length):=fun ty=>by
  refine Lib.run_unsafeString_row w.drew 153 3 ty 5 underlying153 (by kernel_rfl) g cur.size (by have Bp:w.drew.heap[g]?=some (.cells cur 5 (0,0)):=hg;simp[World.shape?,Bp]) l h0 G6 (by unfold maxLen at rP;omega) ?_;intro j x hx;rw[Addr.add_lit,rT];exact(cell_of_row w.drew g j cur _ _ hg).trans (QS j x hx)
 have mixed:=mixed;go_enter func33,ntmps33;go_wp2;go_region_o
 all_goals (go_wp2;go_ret;exact⟨rfl,rfl⟩)
theorem YE (l:List UInt8)(h0:l≠[]):
  cN prog 33 [.ptr (.par 0) 0] [(.par 0,oR l)] (fun r B=>r=.pv (.str ⟨l.toArray⟩)/\B=[]):=by
 refine⟨⟨_,_,func33,by kernel_rfl,rfl⟩,fun w m ρ vs hB mQ fG lF=>?_⟩;obtain⟨v0,rfl⟩:=SB (by simpa using fG);have h0':=lF 0 v0 _ rfl rfl;have PJ:v0=.pointer (some ⟨(ρ (.par 0)).b,0,none⟩):=by cases h0';rfl
 subst PJ;obtain⟨hr,tX⟩:=hB.bx (.par 0) _ rfl;have mR:cI ρ w [(.par 0,oR l)]=(ρ (.par 0)).b::yW (ρ (.par 0)) w:=by simp[cI,hr,ins,DL]
 have iX:=hB.free (by simp);rw[mR]at iX;obtain⟨p,v,hb,_,⟨_,h⟩|⟨g,c,cur,rfl,Q4,hg,h1,h2,h3,h4⟩⟩:=tX
 .exact absurd h h0
 have HZ:yW (ρ (.par 0)) w=[g]:=Ht hb;rw[HZ]at mR iX;refine(Zo8 (ρ (.par 0)).b g c p cur l w hb h0 hg (by omega) (by omega) h4).mono ?_;rintro e w' ⟨rfl,rfl⟩;have hk:cV [g] w (w.drew.freeze ⟨g,0,none⟩ l.length):=by
  unfold World.freeze;split
  .exact Fu w _
  .exact⟨rfl,rfl,rfl,by rw[Array.size_modify];exact fE _,fun k hk hn=>by
    have cZ:g≠k:=fun e=>hn (by simp[e])
    simp only[Array.getElem?_modify];rw[if_neg cZ];rfl⟩
 refine⟨_,.pv (.str ⟨l.toArray⟩),[],ρ,m,rfl,⟨rfl,rfl⟩,vA.nil _ _ _,Le.refl m,fun a o v hv=>?_,fun _=>rfl,fun s' bx i h hb=>by simp[List.lookup]at h,fun _ _ _ h=>.inl h,.pv _ _ (.str _),?_⟩
 .have hw:=mQ.1 a o v hv;exact(World.cell?_of_block (a:=⟨a,o,none⟩) (hk.block a (AQ hw) (fun h=>by rw[iX a (List.mem_cons_of_mem _ h) o]at hv;cases hv))).trans hw
 .rw[mR];exact hk.sub (fun k h=>List.mem_cons_of_mem _ h)
end
def Yk:ByteArray:=⟨#[99,101,114,116,115]⟩
def AZ:ByteArray:=⟨#[104,101,108,100]⟩
def OP:ByteArray:=⟨#[98,97,100]⟩
def rD:ByteArray:=⟨#[101,110,100]⟩
def tB (w:Wk)(x:Lt):ByteArray:=WU x (kT (stM w.aA w.bad) w.aG x.num) (cW w.aA w.bad w.aG x)
def sK (w:Wk)(k:Nat):List UInt8:=(w.aJ.take k).flatMap fun x=>(tB w x).data.toList++[10]
def zO (w:Wk):Nat:=((fB w.aA w.bad).NP []).1.length
def sV (F:Nat)(w:Wk):Int:=match(uK w.runs).JP F with
 |.bM [_,.int _ y,_]=>y
 |_=>0
def H5 (w:Wk):List Wd:=[.kN Yk,.num w.aA.length,.kN AZ,.num (zO w),.kN OP,.num w.bad.length]
def BF (F:Nat)(w:Wk):List UInt8:=sK w w.aJ.length++((eJ (H5 w)).data.toList++[10])++((eJ [.kN rD,.num (sV F w)]).data.toList++[10])
def GQ (F:Nat)(L:List ByteArray):PV:=if yX L=0 then .bM [.str ⟨(BF F (dA (lS F) jW L).1).toArray⟩,.i 0]else .bM [.str ⟨#[]⟩,.i 3]
theorem Zic {w:Wk}{k:Nat}{x:Lt}(h:w.aJ[k]?=some x):sK w (k+1)=sK w k++((tB w x).data.toList++[10]):=by
 unfold sK;rw[lX,h,List.flatMap_append];simp
theorem ZfN (x:Wd)(r:List Wd):(Lib.join (((x::r).map Wd.b).map (·.data.toList)) blank.data.toList).length=r.length+(x.b.size+(r.map fun y=>y.b.size).sum):=by
 rw[iQ,iQ,Lib.join_length]
 have:∀l:List Wd,Lib.lens ((l.map Wd.b).map (·.data.toList))=(l.map fun y=>y.b.size).sum:=fun l=>by
  unfold Lib.lens;rw[List.map_map,List.map_map];rfl
 have h2:=this (x::r);rw[iQ,iQ]at h2;rw[h2,fQ,fQ];simp[blank]
theorem Gz (x:Wd)(r:List Wd):(eJ (x::r)).size=r.length+(x.b.size+(r.map fun y=>y.b.size).sum):=by
 rw[<-ZfN];rfl
theorem XP (n:Int)(h0:-9223372036854775808<=n)(h1:n<=9223372036854775807):(vX n).size<=21:=Lib.itoa_length_le n h0 h1
theorem ZlI (v:Int):(zD v).size<=8:=by
 unfold zD;split
 .exact fE 8
 .split
  .exact fE 8
  .exact tG rfl
theorem Zp3 (x:Lt)(hx:vS x)(many:Nat)(hm:many<=1000)(v:Int):(eJ (G1 x many v)).size<=62:=by
 unfold G1;rw[Gz];have h1:=XP x.num (by have:=hx.1;omega) (by have:=hx.2.1;omega);have h2:=XP many (by omega) (by omega);have h3:=ZlI v;have e1:GL.size=3:=rfl;have e2:Lj.size=5:=rfl;simp[Wd.b];omega
theorem Zip (x:Lt)(hx:vS x)(many:Nat)(hm:many<=1000)(v:Int):
  v7 (G1 x many v)/\v7 [.kN (eJ (G1 x many v)),.kN FY]/\v7 [.kN (LU x many v),.kN TB]/\(WU x many v).size<=100:=by
 have h0:=Zp3 x hx many hm v;have e1:FY.size=6:=rfl;have e2:TB.size=8:=rfl;have h1:(LU x many v).size<=70:=by
  unfold LU;split
  .rw[Gz];simp[Wd.b];omega
  .omega
 refine⟨?_,?_,?_,?_⟩
 .have:(Lib.join (((G1 x many v).map Wd.b).map (·.data.toList)) blank.data.toList).length=(eJ (G1 x many v)).size:=rfl
  unfold v7;omega
 .unfold v7;rw[ZfN];simp[Wd.b];omega
 .unfold v7;rw[ZfN];simp[Wd.b];omega
 .unfold WU;split
  .rw[Gz];simp[Wd.b];omega
  .omega
theorem ZgD (S:Int->Int->Bool)(ts:List Tt)(n:Int)(h:ts.length<=900):kT S ts n<=1000:=by
 have:=Zhq (S:=S) (ts:=ts) (n:=n)
 omega
theorem Zha {w:Wk}(cU:F4 w):∀k,(sK w k).length<=k*101
 |0=>fE 0
 |k+1=>by
  have ih:=Zha cU k;cases h:w.aJ[k]? with
  |none=>unfold sK at ih ⊢;rw[lX,h];simp at ih ⊢;omega
  |some x=>
   rw[Zic h,gE,gE];have h2:=(Zip x (cU.lt x (dL h)) _ (ZgD (stM w.aA w.bad) w.aG x.num cU.t) (cW w.aA w.bad w.aG x)).2.2.2
   have:(tB w x).data.toList.length=(tB w x).size:=rfl
   have e:(tB w x).size<=100:=h2;simp only[pA,List.length_nil];omega
theorem ZqA (w:Wk)(h1:w.aA.length<=1000)(h2:w.bad.length<=1000)(h3:zO w<=1000000):v7 (H5 w)/\(eJ (H5 w)).size<=90:=by
 have a1:=XP w.aA.length (by omega) (by omega);have a2:=XP w.bad.length (by omega) (by omega);have a3:=XP (zO w) (by omega) (by omega);have e1:Yk.size=5:=rfl;have e2:AZ.size=4:=rfl;have e3:OP.size=3:=rfl;have h:(eJ (H5 w)).size<=90:=by
  unfold H5;rw[Gz];simp[Wd.b];omega
 refine⟨?_,h⟩
 have:(Lib.join (((H5 w).map Wd.b).map (·.data.toList)) blank.data.toList).length=(eJ (H5 w)).size:=rfl
 unfold v7;omega
theorem Zqu (n:Int)(h0:-9223372036854775808<=n)(h1:n<=9223372036854775807):v7 [.kN rD,.num n]/\(eJ [.kN rD,.num n]).size<=30:=by
 have a1:=XP n h0 h1;have e1:rD.size=3:=rfl;have h:(eJ [.kN rD,.num n]).size<=30:=by
  rw[Gz];simp[Wd.b];omega
 refine⟨?_,h⟩
 have:(Lib.join (([Wd.kN rD,.num n].map Wd.b).map (·.data.toList)) blank.data.toList).length=(eJ [.kN rD,.num n]).size:=rfl
 unfold v7;omega
theorem ZsH (x:ByteArray):(x++(⟨#[10]⟩:ByteArray)).data.toList=x.data.toList++[10]:=by
 rw[ByteArray.data_append,Array.toList_append]
theorem BG (l:List UInt8)(x:ByteArray)(hl:l.length+(x.size+1)<=1000000):
  cN prog 25 [.pv (.str x),.ptr (.par 0) 0] [(.par 0,oR l)] (fun r B=>r=.pv (.bM [])/\B=[(.par 0,oR (l++(x.data.toList++[10])))]):=by
 have fG:(x++(⟨#[10]⟩:ByteArray)).size=x.size+1:=by rw[ByteArray.size_append];rfl
 have hw:=Pc l (x++⟨#[10]⟩) (by omega) (by omega);rw[ZsH]at hw;refine cB [.par 0] L25 ?_;have Uw:(x.size+ByteArray.size ⟨#[10]⟩).ble 9223372036854775807=true:=by
  rw[Nat.ble_eq]
  have:ByteArray.size ⟨#[10]⟩=1:=rfl
  omega
 simp[L25,Uw];generalize x++(⟨#[10]⟩:ByteArray)=y at hw ⊢;refine cM [.ptr (.par 0) 0,.pv (.str y)] [(.par 0,oR l)] 5 [.par 0] (by simp) hw (by simp) ?_;simp
theorem ZtL {F:Nat}(w:Wk):0<=sV F w/\sV F w<=40:=by
 unfold sV Qn.Qu.JP;by_cases hc:(uK w.runs).check≠0
 .rw[if_pos hc];exact⟨Int.le_refl 0,show(0:Int)<=40 by decide⟩
 .rw[if_neg hc];cases hl:(uK w.runs).DW F with
  |none=>exact⟨Int.le_refl 0,show(0:Int)<=40 by decide⟩
  |some p=>
   have:=(Qn.B9 (Qn.Qu.Ks (Decidable.not_not.1 hc)) _ _ _ Qn.PW.nil (Qn.oF (q:=uK w.runs)) p hl).l
   exact⟨by simp,by simp;omega⟩
theorem Zk6 (w:Wk):zO w<=1000000:=by
 have h:=Gj (b:=fB w.aA w.bad) (bad:=[]);unfold zO Bk.NP;split
 .split
  .exact lJ h (by decide)
  .exact fT _
 .exact fT _
def Ix (w:Wk)(k:Nat):AS:=
 ⟨[(5,.ptr (.loc 23 0) 0),(7,.ptr (.loc 7 0) 0),(8,.fn 25 [] [.ptr (.loc 7 0) 0]),(31,.pv (aU w.aJ)),(32,.pv (.i w.aJ.length)),(33,.pv (.i (k:Int)))],
  [(.loc 23 0,w.box),(.loc 7 0,oR (sK w k))]⟩
theorem Zrp {F:Nat}(hF:407<F)(L:List ByteArray)(hl:L.length<=1000000):aD prog 14 [bS L] (GQ F L):=by
 have tW:=WR L hl;refine V1 L14 ?_;intro R hR;unfold GQ at hR;by_cases hc:yX L=0
 .obtain⟨Js,qV⟩:=Ni hc;rw[hc]at tW;have Q1:=Xx (Ms hF) vB L (by omega) qV;have cU:=Lq _ _ (by omega) (Hj (Ms hF) (l:=L) (by omega) vB qV);rw[if_pos hc]at hR;generalize dA (lS F) jW L=q at Q1 cU hR;obtain⟨w,es⟩:=q;dsimp only at Q1 cU hR;have lG:=cU.l;simp[L14];refine cG [bS L] tW ?_;simp;refine .inl (R7 [] (fs:=[]) (xs:=[bS L]) (cs:=[]) (d:=23) rfl rfl Q1 ?_);rintro r B ⟨rfl,rfl⟩;refine⟨by simp[Wk.box,aO],?_⟩;simp[Wk.box,aO,aU];refine dY (fun m τ=>∃k:Nat,k<=w.aJ.length/\m=w.aJ.length-k/\τ=Ix w k) ⟨w.aJ.length,Ix w 0,Sub.mk (by simp[aU]) (by simp[Wk.box,aO,aU];simp[sK]),0,fT _,rfl,rfl⟩ ?_;rintro J hJ m τ ⟨k,hk,rfl,rfl⟩;by_cases aI:k<w.aJ.length
  .obtain⟨x,hx⟩:∃x,w.aJ[k]?=some x:=⟨w.aJ[k],aX aI⟩;have hg:(w.aJ.map Lt.pv)[k]?=some x.pv:=by rw[bR,hx];rfl
   have Ji:=cU.lt x (dL hx);obtain⟨j0,j1,j2,fG⟩:=Zip x Ji _ (ZgD (stM w.aA w.bad) w.aG x.num cU.t) (cW w.aA w.bad w.aG x);have oB:=Zp7 w.aA w.bad (aU w.aJ) w.aG (dI w.runs) x cU.c cU.b cU.t Ji cU.fit j0 j1 j2;have p7:=Zha cU k;have ME:=BG (sK w k) (tB w x) (by unfold tB;omega);rw[<-Zic hx]at ME;unfold tB at ME;simp only[Lt.pv]at hg;rw[Lt.pv]at oB;have hw:=bA (k:=k) (by omega);have hn:=hJ (w.aJ.length-(k+1)) _ ⟨k+1,aI,rfl,rfl⟩;have aH:w.aJ.length-(k+1)<w.aJ.length-k:=by omega
   generalize WU x (kT (stM w.aA w.bad) w.aG x.num) (cW w.aA w.bad w.aG x)=s at oB ME;simp[Ix,Wk.box,aO,aU,aI,↓hg,aP];refine cM [.ptr (.par 0) 0,.pv (.agg [.i x.num,.i x.pieces,.i x.limit,.bool x.passed])] [(.par 0,aO (aK w.aA) (bG w.bad) (aU w.aJ) (bE w.aG) (dI w.runs))] 40 [.loc 23 0] (by simp[aO,aU]) oB (by simp[aO]) ?_;simp[aO];refine cM [.pv (.str s),.ptr (.par 0) 0] [(.par 0,oR (sK w k))] 41 [.loc 7 0] (by simp) ME (by simp) ?_;simp[hw];exact⟨_,_,aH,Sub.mk (by simp[aU]) (by simp[Wk.box,aO,aU]),hn⟩
  .have he:k=w.aJ.length:=by omega
   subst he;have p7:=Zha cU w.aJ.length;have UR:=Mh w.aA w.bad (aU w.aJ) (bE w.aG) (dI w.runs) cU.c cU.b;have Uh:cN prog 28 ([(fB w.aA w.bad).pv,.emp (some true)].map .pv) [] (fun r B=>r=.pv (K2 ((fB w.aA w.bad).NP []))/\B=[]):=by
    refine cN.Ku (xs:=[(fB w.aA w.bad).pv,.emp (some true)]) (ys:=[(fB w.aA w.bad).pv,.aE false 1 ([].map aN)]) (Zvk (fB w.aA w.bad) (show qS.length<=1000 by decide) (lJ (R3 _ _) cU.c) [] (fT _)) rfl ?_;intro j x y m v h1 h2 hr
    match j with
    |0=>simp at h1 h2;subst h1 h2;exact hr
    |1=>simp at h1 h2;subst h1 h2;exact AM hr
    |j+2=>simp at h1
   have VD:=ZqA w cU.c cU.b (Zk6 w);have b8:=Gl (H5 w) (show(6:Nat)<=1000 by decide) (fun y hy=>by
    have h1:=cU.c;have h2:=cU.b;have h3:=Zk6 w;simp[H5]at hy;rcases hy with rfl|rfl|rfl|rfl|rfl|rfl
    .trivial
    .exact⟨by omega,by omega⟩
    .trivial
    .exact⟨by omega,by omega⟩
    .trivial
    .exact⟨by omega,by omega⟩) VD.1
   have ebd:=ZtL (F:=F) w;have Jt:=Zqu (sV F w) (by omega) (by omega);have hed:=Gl [.kN rD,.num (sV F w)] (show(2:Nat)<=1000 by decide) (fun y hy=>by
    simp at hy;rcases hy with rfl|rfl
    .trivial
    .exact⟨by omega,by omega⟩) Jt.1
   have eC:vW ((H5 w).map Wd.b) blank=eJ (H5 w):=rfl;have eE:vW ([Wd.kN rD,.num (sV F w)].map Wd.b) blank=eJ [.kN rD,.num (sV F w)]:=rfl;rw[eC]at b8;rw[eE]at hed;have p1:=BG (sK w w.aJ.length) (eJ (H5 w)) (by omega);have p2:=BG (sK w w.aJ.length++((eJ (H5 w)).data.toList++[10])) (eJ [.kN rD,.num (sV F w)]) (by
    have:(eJ (H5 w)).data.toList.length=(eJ (H5 w)).size:=rfl
    simp only[gE,pA,List.length_nil];omega)
   have bQ:=YE (BF F w) (by unfold BF;simp);have UT:=Zni (w.runs.map Qn.Rq.pv) (aK w.aA) (bG w.bad) (aU w.aJ) (bE w.aG);have VF:=Qn.wM hF (uK w.runs) (show(2:Nat)<=1000000 by decide) (show w.runs.length<=1000000 by have:=cU.r;omega) (fun l hl=>by
    simp[uK]at hl;rcases hl with rfl|rfl<;>decide)
   obtain⟨ex,ee,Bw⟩:∃x e,(uK w.runs).JP F=.bM [x,.i (sV F w),.i e]:=by
    obtain⟨x,y,h⟩:=Zol F (uK w.runs);exact⟨x,_,by rw[h];unfold sV;rw[h]⟩
   rw[Bw]at VF;clear Bw p7 VD Jt eC eE;unfold BF at bQ hR;generalize hCW:eJ (H5 w)=cw at *;generalize hEW:eJ [.kN rD,.num (sV F w)]=ew at *;generalize hRT:sK w w.aJ.length=rt at *;simp[Ix,Wk.box,aO,hRT];refine cM [.ptr (.par 0) 0] [(.par 0,aO (aK w.aA) (bG w.bad) (aU w.aJ) (bE w.aG) (dI w.runs))] 45 [.loc 23 0] (by simp[aO,bG]) UR (by simp[aO]) ?_;simp[aO];refine .inl (cQ [] [(fB w.aA w.bad).pv,.emp (some true)] Uh ?_);simp[K2,aK];refine .inl (cP [.loc 70 0] [.aE false 1 ((H5 w).map Wd.pv)] (by simp) (by simp[H5,Wd.pv,Yk,AZ,OP,zO]) b8 ?_);simp;refine cM [.pv (.str cw),.ptr (.par 0) 0] [(.par 0,oR rt)] 72 [.loc 7 0] (by simp) p1 (by simp) ?_;simp;refine cM [.ptr (.par 0) 0] [(.par 0,aO (aK w.aA) (bG w.bad) (aU w.aJ) (bE w.aG) (.aE false 3 (w.runs.map Qn.Rq.pv)))] 75 [.loc 23 0] (by simp[aO,bG,dI,aK]) UT (by simp[aO]) ?_;simp[aO];refine .inl (cQ [] [(uK w.runs).pv] VF ?_);simp;refine .inl (cP [.loc 84 0] [.aE false 1 ([Wd.kN rD,.num (sV F w)].map Wd.pv)] (by simp) (by simp[Wd.pv,rD]) hed ?_);simp;refine cM [.pv (.str ew),.ptr (.par 0) 0] [(.par 0,oR (rt++(cw.data.toList++[10])))] 86 [.loc 7 0] (by simp) p2 (by simp) ?_;simp;refine cM [.ptr (.par 0) 0] [(.par 0,oR (rt++(cw.data.toList++[10])++(ew.data.toList++[10])))] 87 [.loc 7 0] (by simp) bQ (by simp) ?_;simp;rw[<-hR];exact⟨by simp,rfl⟩
 .have h3:=Nj hc;rw[h3]at tW;rw[if_neg hc]at hR;simp[L14];refine cG [bS L] tW ?_;simp;rw[<-hR];exact⟨rfl,rfl⟩
theorem Ym {s:ByteArray}{k:Nat}{b:UInt8}(h:s.data.toList[k]?=some b):BC s (k:Int)=some b:=by
 unfold BC;rw[O7]at h;obtain⟨hl,he⟩:=qD.1 h;have hk:k<s.size:=hl;rw[if_pos (by omega),H7,getElem?_pos s k hk];exact congrArg some he
def w9 (L:List ByteArray):Bool:=L.all (fun s=>decide (s.size<=200))&&decide (L.length<=50)
theorem Zkb {α:Type}{l:List α}{p:α->Bool}{k:Nat}{x:α}(h:l[k]?=some x):(l.take (k+1)).all p=((l.take k).all p&&p x):=by
 rw[lX,h,List.all_append];simp
theorem ZiX {α:Type}{l:List α}{p:α->Bool}{x:α}(h:x∈l)(hp:p x=false):l.all p=false:=by
 rw[List.all_eq_false];exact⟨x,h,by simp[hp]⟩
theorem Zpp (L:List ByteArray)(hl:L.length<=1000000):aD prog 20 [bS L] (.bool (w9 L)):=by
 refine V1 L20 ?_;intro R hR;simp[L20,bS];refine dY (fun m τ=>∃k:Nat,k<=L.length/\m=L.length-k/\(L.take k).all (fun s=>decide (s.size<=200))=true/\τ=⟨[(0,.pv (.aE false 1 (L.map .str))),(3,.pv (.i (k:Int)))],[]⟩)
  ⟨L.length,⟨[(0,.pv (.aE false 1 (L.map .str))),(3,.pv (.i ((0:Nat):Int)))],[]⟩,Sub.mk (by simp) (by simp),0,fT _,rfl,rfl,rfl⟩ ?_
 rintro J hJ m τ ⟨k,hk,rfl,eS,rfl⟩;by_cases aI:k<L.length
 .obtain⟨s,hx⟩:∃s,L[k]?=some s:=⟨L[k],aX aI⟩;have hg:(L.map PV.str)[k]?=some (.str s):=by rw[bR,hx];rfl
  have hw:=bA (k:=k) (by omega);have aH:L.length-(k+1)<L.length-k:=by omega
  by_cases h2:200<s.size
  .have hf:w9 L=false:=by unfold w9;rw[ZiX (dL hx) (by simpa using h2)];rfl
   have uA:(200:Int)<(s.size:Int):=by omega
   rw[hf]at hR;simp[aI,↓hg,uA];rw[<-hR];exact⟨rfl,by simp⟩
  .have hn:=hJ (L.length-(k+1)) _ ⟨k+1,aI,rfl,by rw[Zkb hx,eS];simp;omega,rfl⟩;have uA:¬(200:Int)<(s.size:Int):=by omega
   simp[aI,↓hg,uA,hw];exact⟨_,_,aH,Sub.mk (by simp) (by simp),hn⟩
 .have he:k=L.length:=by omega
  subst he;rw[nC]at eS;have hf:w9 L=decide (L.length<=50):=by unfold w9;rw[eS,Bool.true_and]
  rw[hf]at hR;simp;rw[<-hR];exact⟨by simp;try omega,by simp⟩
def rC (L:List ByteArray):Bool:=(L.take 56).all (fun s=>decide (s.size<=210))&&decide (L.length<=55)
theorem ZtY (L:List ByteArray)(hl:L.length<=9223372036854775807):aD prog 4 [bS L] (.bool (rC L)):=by
 refine V1 L4 ?_;intro R hR;simp[L4,bS];refine dY (fun m τ=>∃k:Nat,k<=L.length/\k<=56/\m=L.length-k/\(L.take k).all (fun s=>decide (s.size<=210))=true/\τ=⟨[(0,.pv (.aE false 1 (L.map .str))),(3,.pv (.i (k:Int)))],[]⟩)
  ⟨L.length,⟨[(0,.pv (.aE false 1 (L.map .str))),(3,.pv (.i ((0:Nat):Int)))],[]⟩,Sub.mk (by simp) (by simp),0,fT _,fT _,rfl,rfl,rfl⟩ ?_
 rintro J hJ m τ ⟨k,hk,sQ,rfl,eS,rfl⟩;by_cases aI:k<L.length
 .have jD:((k:Int)<(L.length:Int)):=by omega
  by_cases h6:k<56
  .obtain⟨s,hx⟩:∃s,L[k]?=some s:=⟨L[k],aX aI⟩;have hg:(L.map PV.str)[k]?=some (.str s):=by rw[bR,hx];rfl
   have hw:=bA (k:=k) (by omega);have aH:L.length-(k+1)<L.length-k:=by omega
   have VK:((k:Int)<56):=by omega
   by_cases h2:210<s.size
   .have hm:s∈L.take 56:=dL (i:=k) (by rw[mG,if_pos h6];exact hx);have hf:rC L=false:=by unfold rC;rw[ZiX hm (by simpa using h2)];rfl
    rw[hf]at hR;have uA:(210:Int)<(s.size:Int):=by omega
    simp[jD,VK,↓hg,uA];rw[<-hR];exact⟨rfl,by simp⟩
   .have hn:=hJ (L.length-(k+1)) _ ⟨k+1,aI,h6,rfl,by rw[Zkb hx,eS];simp;omega,rfl⟩;have uA:¬(210:Int)<(s.size:Int):=by omega
    simp[jD,VK,↓hg,uA,hw];exact⟨_,_,aH,Sub.mk (by simp) (by simp),hn⟩
  .have he:k=56:=by omega
   subst he;have hf:rC L=false:=by unfold rC;rw[eS,decide_eq_false (by omega)];rfl
   rw[hf]at hR;have h55:¬(L.length:Int)<=55:=by omega
   have HX:(56:Int)<(L.length:Int):=by omega
   clear aI jD h6;simp[HX,h55];rw[<-hR];exact⟨rfl,by simp⟩
 .have he:k=L.length:=by omega
  subst he;rw[nC]at eS;have hf:rC L=decide (L.length<=55):=by unfold rC;rw[fH sQ,eS,Bool.true_and]
  rw[hf]at hR;simp;rw[<-hR];exact⟨by simp;try omega,by simp⟩
theorem ZtZ (L:List ByteArray)(hl:L.length<=1000000):aD prog 7 [bS L] (bS L):=by
 refine cN.j4 ?_;refine cF [.loc 5 0] L7 ?_;have h4:List.take L.length (L.map PV.str)=L.map PV.str:=fH (by rw[fQ];exact fE _);simp[L7,bS,aP,hl,h4]
def JY (L:List ByteArray):Int:=if w9 L=true then 0 else 3
theorem Zq0 (L:List ByteArray)(hl:L.length<=1000000):aD prog 8 [bS L] (.i (JY L)):=by
 refine cS L8 ?_;simp[L8];refine cG [bS L] (Zpp L hl) ?_;unfold JY;cases h:w9 L<;>simp
def sY:List ByteArray:=[⟨#[99,101,114,116,32,49,32,50,32,48,32,49,48,32,49,48,48,32,45,49,32,49]⟩,⟨#[108,111,116,32,55,32,56,32,53,48,48]⟩,⟨#[116,101,115,116,32,55,32,50,32,50,48,32,53,49,49]⟩,⟨#[116,101,115,116,32,55,32,50,32,50,48,32,53,49,48]⟩]
def sZ:List ByteArray:=[⟨#[116,101,115,116,32,55,32,51,32,50,48,32,54,48,48]⟩,⟨#[98,97,100,32,49]⟩,⟨#[116,101,115,116,32,55,32,50,32,50,48,32,54,48,48]⟩]
def Zc:ByteArray:=⟨#[108,111,116,32,55,32,116,101,115,116,115,32,50,32,111,112,101,110,10,99,101,114,116,115,32,49,32,104,101,108,100,32,49,32,98,97,100,32,48,10,101,110,100,32,48,10]⟩
def SO:ByteArray:=⟨#[123,48,48,49,58,57,57,56,58,48,48,49,48,57,125,97,10]⟩
theorem Yp:cN prog 12 [] [] (fun r B=>r=.vec (.ret 0) 1 0 4/\B=[(.ret 0,.arr 9 1 (sY.map .str))]):=by
 refine cB [.loc 1 0] L12 ?_;simp[L12,sY]
theorem ZoH (A B:List Int)(hA:A.length<=1000000):aD prog 16 [.aE false 1 (A.map iP),.aE false 1 (B.map iP)] (.bool (decide (A=B))):=by
 refine V1 L16 ?_;intro R hR;by_cases hl:A.length=B.length
 .have lH:((A.length:Int)=(B.length:Int)):=by omega
  simp[L16,hl];refine dY (fun m τ=>∃k:Nat,k<=A.length/\m=A.length-k/\A.take k=B.take k/\τ=⟨[(0,.pv (.aE false 1 (A.map iP))),(1,.pv (.aE false 1 (B.map iP))),(5,.pv (.i (k:Int)))],[]⟩)
   ⟨A.length,⟨[(0,.pv (.aE false 1 (A.map iP))),(1,.pv (.aE false 1 (B.map iP))),(5,.pv (.i ((0:Nat):Int)))],[]⟩,Sub.mk (by simp) (by simp),0,fT _,rfl,rfl,rfl⟩ ?_
  rintro J hJ m τ ⟨k,hk,rfl,wB,rfl⟩;by_cases aI:k<A.length
  .obtain⟨s,hx⟩:∃s,A[k]?=some s:=⟨A[k],aX aI⟩;obtain⟨t,hy⟩:∃t,B[k]?=some t:=⟨B[k]'(by omega),aX (by omega)⟩;have hg:(A.map iP)[k]?=some (.i s):=by rw[bR,hx];rfl
   have G9:(B.map iP)[k]?=some (.i t):=by rw[bR,hy];rfl
   have iO:k<B.length:=by omega
   have hw:=bA (k:=k) (by omega);have aH:A.length-(k+1)<A.length-k:=by omega
   by_cases h2:s=t
   .have hn:=hJ (A.length-(k+1)) _ ⟨k+1,aI,rfl,by rw[lX,lX,hx,hy,wB,h2],rfl⟩;simp[aI,↓hg,↓G9,h2,hw];exact⟨_,_,aH,Sub.mk (by simp) (by simp),hn⟩
   .have hf:decide (A=B)=false:=by
     rw[decide_eq_false_iff_not];intro e;rw[e,hy]at hx;cases hx;exact h2 rfl
    rw[hf]at hR;simp[aI,↓hg,↓G9,h2];rw[<-hR];exact⟨rfl,by simp⟩
  .have he:k=A.length:=by omega
   subst he;rw[nC,hl,nC]at wB;have hf:decide (A=B)=true:=by rw[decide_eq_true_eq];exact wB
   rw[hf]at hR;simp;rw[<-hR];exact⟨rfl,by simp⟩
 .have lH:¬((A.length:Int)=(B.length:Int)):=by omega
  have hf:decide (A=B)=false:=by
   rw[decide_eq_false_iff_not];intro e;exact hl (by rw[e])
  rw[hf]at hR;simp[L16,hl,lH];rw[<-hR];exact⟨rfl,by simp⟩
theorem Zr5:n9 (lS 408) (sY++sZ)=.bM [(dA (lS 408) jW (sY++sZ)).1.pv,.aE false 1 ([0,0,0,0,10,0,10].map iE),.i 0]:=by
 unfold n9;have h1:yX (sY++sZ)=0:=by decide +kernel
 have h2:(dA (lS 408) jW (sY++sZ)).2=[0,0,0,0,10,0,10]:=by decide +kernel
 rw[if_pos h1,h2]
theorem Zi7 {L:List ByteArray}(h:w9 L=true):L.length<=50/\∀s∈L,s.size<=200:=by
 unfold w9 at h;rw[dK,decide_eq_true_eq,qZ]at h;exact⟨h.2,fun s hs=>by simpa using h.1 s hs⟩
def Wk.cells (w:Wk):List AV:=[.pv (.aE false 7 (w.aA.map Ct.pv)),.pv (.aE false 1 (w.bad.map iP)),.pv (.aE false 4 (w.aJ.map Lt.pv)),.pv (.aE false 4 (w.aG.map Tt.pv)),.pv (.aE false 3 (w.runs.map Qn.Rq.pv))]
def J4 (w:Wk)(k:Nat):AS:=⟨[(1,.ptr (.loc 1 0) 0),(2,.ptr (.loc 2 0) 0),(3,.ptr (.loc 3 0) 0),(4,.pv (.i (k:Int)))],[(.loc 50 0,.arr 66 7 ((w.aA.take k).map Ct.pv)),(.loc 15 0,.arr 3 1 (w.bad.map iP)),(.loc 3 0,.cells [.vec (.loc 50 0) 7 0 k,.vec (.loc 15 0) 1 0 w.bad.length,.pv (.emp (some true)),.pv (.emp (some true)),.pv (.emp (some true))]),(.loc 1 0,.cells w.cells),(.loc 2 0,.cells [.pv (.emp (some true)),.pv (.emp (some true)),.pv (.emp (some true)),.pv (.emp (some true)),.pv (.emp (some true))])]⟩
def J3 (w:Wk)(k:Nat):AS:=⟨[(1,.ptr (.loc 1 0) 0),(2,.ptr (.loc 2 0) 0),(3,.ptr (.loc 3 0) 0),(6,.pv (.i (k:Int)))],[(.loc 76 0,.arr 68 4 ((w.aJ.take k).map Lt.pv)),(.loc 50 0,.arr 66 7 (w.aA.map Ct.pv)),(.loc 15 0,.arr 3 1 (w.bad.map iP)),(.loc 3 0,.cells [.vec (.loc 50 0) 7 0 w.aA.length,.vec (.loc 15 0) 1 0 w.bad.length,.vec (.loc 76 0) 4 0 k,.pv (.emp (some true)),.pv (.emp (some true))]),(.loc 1 0,.cells w.cells),(.loc 2 0,.cells [.pv (.emp (some true)),.pv (.emp (some true)),.pv (.emp (some true)),.pv (.emp (some true)),.pv (.emp (some true))])]⟩
def J1 (w:Wk)(k:Nat):AS:=⟨[(1,.ptr (.loc 1 0) 0),(2,.ptr (.loc 2 0) 0),(3,.ptr (.loc 3 0) 0),(8,.pv (.i (k:Int)))],[(.loc 102 0,.arr 70 4 ((w.aG.take k).map Tt.pv)),(.loc 50 0,.arr 66 7 (w.aA.map Ct.pv)),(.loc 76 0,.arr 68 4 (w.aJ.map Lt.pv)),(.loc 15 0,.arr 3 1 (w.bad.map iP)),(.loc 3 0,.cells [.vec (.loc 50 0) 7 0 w.aA.length,.vec (.loc 15 0) 1 0 w.bad.length,.vec (.loc 76 0) 4 0 w.aJ.length,.vec (.loc 102 0) 4 0 k,.pv (.emp (some true))]),(.loc 1 0,.cells w.cells),(.loc 2 0,.cells [.pv (.emp (some true)),.pv (.emp (some true)),.pv (.emp (some true)),.pv (.emp (some true)),.pv (.emp (some true))])]⟩
def J0 (w:Wk)(k:Nat):AS:=⟨[(1,.ptr (.loc 1 0) 0),(2,.ptr (.loc 2 0) 0),(3,.ptr (.loc 3 0) 0),(10,.pv (.i (k:Int)))],[(.loc 128 0,.arr 73 3 ((w.runs.take k).map Qn.Rq.pv)),(.loc 50 0,.arr 66 7 (w.aA.map Ct.pv)),(.loc 76 0,.arr 68 4 (w.aJ.map Lt.pv)),(.loc 102 0,.arr 70 4 (w.aG.map Tt.pv)),(.loc 15 0,.arr 3 1 (w.bad.map iP)),(.loc 3 0,.cells [.vec (.loc 50 0) 7 0 w.aA.length,.vec (.loc 15 0) 1 0 w.bad.length,.vec (.loc 76 0) 4 0 w.aJ.length,.vec (.loc 102 0) 4 0 w.aG.length,.vec (.loc 128 0) 3 0 k]),(.loc 1 0,.cells w.cells),(.loc 2 0,.cells [.pv (.emp (some true)),.pv (.emp (some true)),.pv (.emp (some true)),.pv (.emp (some true)),.pv (.emp (some true))])]⟩
theorem Zo0 (w:Wk)(h1:w.aA.length<=1000)(h2:w.bad.length<=1000)(h3:w.aJ.length<=1000)(h4:w.aG.length<=1000)(h5:w.runs.length<=1000)(h6:∀r∈w.runs,r.on.length<=1000):aD prog 10 [w.pv] w.pv:=by
 refine O1 [.loc 15 0,.loc 50 0,.loc 76 0,.loc 102 0,.loc 128 0] L10 ?_;intro R hR;have hb6:w.bad.length<=1000000:=by omega
 have Uv:List.take w.bad.length (w.bad.map iP)=w.bad.map iP:=fH (by simp);simp[L10,Wk.pv,aK,bG,aU,bE,dI,aP,hb6,Uv];refine dY (fun n τ=>∃k:Nat,k<=w.aA.length/\n=w.aA.length-k/\τ=J4 w k) ⟨w.aA.length,J4 w 0,Sub.trans' (Sub.mk (by simp[J4,AS.gL]) (by simp[J4,AS.gL,Wk.cells])) (gL 50 66 7 (s:=.loc 3 0) (cs:=[.pv (.emp (some true)),.vec (.loc 15 0) 1 0 w.bad.length,.pv (.emp (some true)),.pv (.emp (some true)),.pv (.emp (some true))]) 0 rfl rfl (by decide)),0,by omega,rfl,rfl⟩ ?_;rintro J hJ n τ ⟨k,hk,rfl,rfl⟩;by_cases aI:k<w.aA.length
 .obtain⟨x,hx⟩:∃x,w.aA[k]?=some x:=⟨w.aA[k],aX aI⟩;have hg:(w.aA.map Ct.pv)[k]?=some (.agg [.i x.num,.i x.it,.i x.src,.i x.day,.i x.valid,.i x.diff.lo,.i x.diff.hi]):=by rw[bR,hx];rfl
  have hw:=bA (k:=k) (by omega);have aB:=hJ _ _ ⟨k+1,aI,rfl,rfl⟩;have iH:(w.aA.take (k+1)).map Ct.pv=(w.aA.take k).map Ct.pv++[.agg [.i x.num,.i x.it,.i x.src,.i x.day,.i x.valid,.i x.diff.lo,.i x.diff.hi]]:=by rw[lX,hx,lI];rfl
  have sQ:k+1<=1000000:=by omega
  have mI:((w.aA.take k).map Ct.pv).length=k:=by rw[fQ,gI];omega
  have aH:w.aA.length-(k+1)<w.aA.length-k:=by omega
  clear hJ;generalize D9:(w.aA.take k).map Ct.pv=TL at *;simp[-decide_eq_true_eq,J4,Wk.cells,aI,↓hg,aP,cO,hw,sQ,D9,mI];refine⟨_,_,aH,Sub.mk ?_ ?_,aB⟩
  .simp[J4]
  .simp[J4,Wk.cells,-List.map_take,-List.take_succ_cons,iH,D9]
 have he:k=w.aA.length:=by omega
 subst he;clear hJ aI hk;simp[-decide_eq_true_eq,J4,Wk.cells];refine dY (fun n τ=>∃k:Nat,k<=w.aJ.length/\n=w.aJ.length-k/\τ=J3 w k) ⟨w.aJ.length,J3 w 0,Sub.trans' (Sub.mk (by simp[J3,AS.gL]) (by simp[J3,AS.gL,Wk.cells])) (gL 76 68 4 (s:=.loc 3 0) (cs:=[.vec (.loc 50 0) 7 0 w.aA.length,.vec (.loc 15 0) 1 0 w.bad.length,.pv (.emp (some true)),.pv (.emp (some true)),.pv (.emp (some true))]) 2 rfl rfl (by decide)),0,by omega,rfl,rfl⟩ ?_;rintro J hJ n τ ⟨k,hk,rfl,rfl⟩;by_cases aI:k<w.aJ.length
 .obtain⟨x,hx⟩:∃x,w.aJ[k]?=some x:=⟨w.aJ[k],aX aI⟩;have hg:(w.aJ.map Lt.pv)[k]?=some (.agg [.i x.num,.i x.pieces,.i x.limit,.bool x.passed]):=by rw[bR,hx];rfl
  have hw:=bA (k:=k) (by omega);have aB:=hJ _ _ ⟨k+1,aI,rfl,rfl⟩;have iH:(w.aJ.take (k+1)).map Lt.pv=(w.aJ.take k).map Lt.pv++[.agg [.i x.num,.i x.pieces,.i x.limit,.bool x.passed]]:=by rw[lX,hx,lI];rfl
  have sQ:k+1<=1000000:=by omega
  have mI:((w.aJ.take k).map Lt.pv).length=k:=by rw[fQ,gI];omega
  have aH:w.aJ.length-(k+1)<w.aJ.length-k:=by omega
  clear hJ;generalize D9:(w.aJ.take k).map Lt.pv=TL at *;simp[-decide_eq_true_eq,J3,Wk.cells,aI,↓hg,aP,cO,hw,sQ,D9,mI];refine⟨_,_,aH,Sub.mk ?_ ?_,aB⟩
  .simp[J3]
  .simp[J3,Wk.cells,-List.map_take,-List.take_succ_cons,iH,D9]
 have he:k=w.aJ.length:=by omega
 subst he;clear hJ aI hk;simp[-decide_eq_true_eq,J3,Wk.cells];refine dY (fun n τ=>∃k:Nat,k<=w.aG.length/\n=w.aG.length-k/\τ=J1 w k) ⟨w.aG.length,J1 w 0,Sub.trans' (Sub.mk (by simp[J1,AS.gL]) (by simp[J1,AS.gL,Wk.cells])) (gL 102 70 4 (s:=.loc 3 0) (cs:=[.vec (.loc 50 0) 7 0 w.aA.length,.vec (.loc 15 0) 1 0 w.bad.length,.vec (.loc 76 0) 4 0 w.aJ.length,.pv (.emp (some true)),.pv (.emp (some true))]) 3 rfl rfl (by decide)),0,by omega,rfl,rfl⟩ ?_;rintro J hJ n τ ⟨k,hk,rfl,rfl⟩;by_cases aI:k<w.aG.length
 .obtain⟨x,hx⟩:∃x,w.aG[k]?=some x:=⟨w.aG[k],aX aI⟩;have hg:(w.aG.map Tt.pv)[k]?=some (.agg [.i x.fU,.i x.item,.i x.day,.i x.rd]):=by rw[bR,hx];rfl
  have hw:=bA (k:=k) (by omega);have aB:=hJ _ _ ⟨k+1,aI,rfl,rfl⟩;have iH:(w.aG.take (k+1)).map Tt.pv=(w.aG.take k).map Tt.pv++[.agg [.i x.fU,.i x.item,.i x.day,.i x.rd]]:=by rw[lX,hx,lI];rfl
  have sQ:k+1<=1000000:=by omega
  have mI:((w.aG.take k).map Tt.pv).length=k:=by rw[fQ,gI];omega
  have aH:w.aG.length-(k+1)<w.aG.length-k:=by omega
  clear hJ;generalize D9:(w.aG.take k).map Tt.pv=TL at *;simp[-decide_eq_true_eq,J1,Wk.cells,aI,↓hg,aP,cO,hw,sQ,D9,mI];refine⟨_,_,aH,Sub.mk ?_ ?_,aB⟩
  .simp[J1]
  .simp[J1,Wk.cells,-List.map_take,-List.take_succ_cons,iH,D9]
 have he:k=w.aG.length:=by omega
 subst he;clear hJ aI hk;simp[-decide_eq_true_eq,J1,Wk.cells];refine dY (fun n τ=>∃k:Nat,k<=w.runs.length/\n=w.runs.length-k/\τ=J0 w k) ⟨w.runs.length,J0 w 0,Sub.trans' (Sub.mk (by simp[J0,AS.gL]) (by simp[J0,AS.gL,Wk.cells])) (gL 128 73 3 (s:=.loc 3 0) (cs:=[.vec (.loc 50 0) 7 0 w.aA.length,.vec (.loc 15 0) 1 0 w.bad.length,.vec (.loc 76 0) 4 0 w.aJ.length,.vec (.loc 102 0) 4 0 w.aG.length,.pv (.emp (some true))]) 4 rfl rfl (by decide)),0,by omega,rfl,rfl⟩ ?_;rintro J hJ n τ ⟨k,hk,rfl,rfl⟩;by_cases aI:k<w.runs.length
 .obtain⟨x,hx⟩:∃x,w.runs[k]?=some x:=⟨w.runs[k],aX aI⟩;have hg:(w.runs.map Qn.Rq.pv)[k]?=some (.agg [.i x.hours,.i x.ready,.aE false 1 (x.on.map PV.bool)]):=by rw[bR,hx];rfl
  have hw:=bA (k:=k) (by omega);have MD:=h6 x (dL hx);have Q2:x.on.length<=1000000:=by omega
  have T7:(x.on.map PV.bool).take x.on.length=x.on.map PV.bool:=fH (by simp);have aB:=hJ _ _ ⟨k+1,aI,rfl,rfl⟩;have iH:(w.runs.take (k+1)).map Qn.Rq.pv=(w.runs.take k).map Qn.Rq.pv++[.agg [.i x.hours,.i x.ready,.aE false 1 (x.on.map PV.bool)]]:=by rw[lX,hx,lI];rfl
  have sQ:k+1<=1000000:=by omega
  have mI:((w.runs.take k).map Qn.Rq.pv).length=k:=by rw[fQ,gI];omega
  have aH:w.runs.length-(k+1)<w.runs.length-k:=by omega
  clear hJ;generalize D9:(w.runs.take k).map Qn.Rq.pv=TL at *;simp[-decide_eq_true_eq,J0,Wk.cells,aI,↓hg,aP,cO,hw,sQ,D9,mI,Q2,T7];refine⟨_,_,aH,Sub.mk ?_ ?_,aB⟩
  .simp[J0]
  .simp[J0,Wk.cells,-List.map_take,-List.take_succ_cons,iH,D9]
 have he:k=w.runs.length:=by omega
 subst he;clear hJ aI hk;have Jp:(w.aA.map Ct.pv).take w.aA.length=w.aA.map Ct.pv:=fH (by simp);have mK:(w.aJ.map Lt.pv).take w.aJ.length=w.aJ.map Lt.pv:=fH (by simp);have hm3:(w.aG.map Tt.pv).take w.aG.length=w.aG.map Tt.pv:=fH (by simp);have uR:(w.runs.map Qn.Rq.pv).take w.runs.length=w.runs.map Qn.Rq.pv:=fH (by simp);simp[-List.map_take,-decide_eq_true_eq,J0,Wk.cells,nC,Jp,mK,hm3,uR,Uv];rw[<-hR];simp[-List.map_take,Wk.pv,aK,bG,aU,bE,dI,Jp,mK,hm3,uR,Uv]
def lL (w:Wk)(i k:Nat):AS:=⟨[(2,.ptr (.loc 2 0) 0),(3,.ptr (.loc 3 0) 0),(i,.pv (.i (k:Int)))],[(.loc 2 0,.cells w.cells),(.loc 3 0,.cells w.cells)]⟩
def GP (r:Qn.Rq):List AV:=[.pv (.i r.hours),.pv (.i r.ready),.pv (.aE false 1 (r.on.map PV.bool))]
def Iv (w:Wk)(k:Nat)(r:Qn.Rq):AS:=⟨(9,.ptr (.loc 9 0) 0)::(10,.ptr (.loc 10 0) 0)::(124,.pv r.pv)::(lL w 8 k).tm,(.loc 9 0,.cells (GP r))::(.loc 10 0,.cells [.pv (.i 0),.pv (.i 0),.pv (.emp (some true))])::(lL w 8 k).bx⟩
def LF (w:Wk)(k:Nat)(r:Qn.Rq)(i:Nat):AS:=⟨(9,.ptr (.loc 9 0) 0)::(10,.ptr (.loc 10 0) 0)::(11,.pv (.i (i:Int)))::(lL w 8 k).tm,(.loc 9 0,.cells (GP r))::(.loc 10 0,.cells (GP r))::(lL w 8 k).bx⟩
theorem Zrw (w:Wk)(h1:w.aA.length<=1000)(h2:w.bad.length<=1000)(h3:w.aJ.length<=1000)(h4:w.aG.length<=1000)(h5:w.runs.length<=1000)(h6:∀r∈w.runs,r.on.length<=1000):aD prog 9 [w.pv,w.pv] (.bool true):=by
 have Ck:=ZoH w.bad w.bad (by omega);refine V1 L9 ?_;intro R hR;simp[L9,Wk.pv,aK,bG,aU,bE,dI];refine cG [.aE false 1 (w.bad.map iP),.aE false 1 (w.bad.map iP)] Ck ?_;simp;refine dY (fun n τ=>∃k:Nat,k<=w.aA.length/\n=w.aA.length-k/\τ=lL w 5 k) ⟨w.aA.length,lL w 5 0,Sub.mk (by simp[lL]) (by simp[lL,Wk.cells]),0,fT _,rfl,rfl⟩ ?_;rintro J hJ n τ ⟨k,hk,rfl,rfl⟩;by_cases aI:k<w.aA.length
 .obtain⟨x,hx⟩:∃x,w.aA[k]?=some x:=⟨w.aA[k],aX aI⟩;have hg:(w.aA.map Ct.pv)[k]?=some (.agg [.i x.num,.i x.it,.i x.src,.i x.day,.i x.valid,.i x.diff.lo,.i x.diff.hi]):=by rw[bR,hx];rfl
  have hw:=bA (k:=k) (by omega);have aB:=hJ _ _ ⟨k+1,aI,rfl,rfl⟩;have aH:w.aA.length-(k+1)<w.aA.length-k:=by omega
  clear hJ;simp[lL,Wk.cells,aI,↓hg,hw];refine⟨_,_,aH,Sub.mk ?_ ?_,aB⟩
  .simp[lL]
  .simp[lL,Wk.cells]
 have he:k=w.aA.length:=by omega
 subst he;clear hJ aI hk;simp[lL,Wk.cells];refine dY (fun n τ=>∃k:Nat,k<=w.aJ.length/\n=w.aJ.length-k/\τ=lL w 6 k) ⟨w.aJ.length,lL w 6 0,Sub.mk (by simp[lL]) (by simp[lL,Wk.cells]),0,fT _,rfl,rfl⟩ ?_;rintro J hJ n τ ⟨k,hk,rfl,rfl⟩;by_cases aI:k<w.aJ.length
 .obtain⟨x,hx⟩:∃x,w.aJ[k]?=some x:=⟨w.aJ[k],aX aI⟩;have hg:(w.aJ.map Lt.pv)[k]?=some (.agg [.i x.num,.i x.pieces,.i x.limit,.bool x.passed]):=by rw[bR,hx];rfl
  have hw:=bA (k:=k) (by omega);have aB:=hJ _ _ ⟨k+1,aI,rfl,rfl⟩;have aH:w.aJ.length-(k+1)<w.aJ.length-k:=by omega
  clear hJ;simp[lL,Wk.cells,aI,↓hg,hw];refine⟨_,_,aH,Sub.mk ?_ ?_,aB⟩
  .simp[lL]
  .simp[lL,Wk.cells]
 have he:k=w.aJ.length:=by omega
 subst he;clear hJ aI hk;simp[lL,Wk.cells];refine dY (fun n τ=>∃k:Nat,k<=w.aG.length/\n=w.aG.length-k/\τ=lL w 7 k) ⟨w.aG.length,lL w 7 0,Sub.mk (by simp[lL]) (by simp[lL,Wk.cells]),0,fT _,rfl,rfl⟩ ?_;rintro J hJ n τ ⟨k,hk,rfl,rfl⟩;by_cases aI:k<w.aG.length
 .obtain⟨x,hx⟩:∃x,w.aG[k]?=some x:=⟨w.aG[k],aX aI⟩;have hg:(w.aG.map Tt.pv)[k]?=some (.agg [.i x.fU,.i x.item,.i x.day,.i x.rd]):=by rw[bR,hx];rfl
  have hw:=bA (k:=k) (by omega);have aB:=hJ _ _ ⟨k+1,aI,rfl,rfl⟩;have aH:w.aG.length-(k+1)<w.aG.length-k:=by omega
  clear hJ;simp[lL,Wk.cells,aI,↓hg,hw];refine⟨_,_,aH,Sub.mk ?_ ?_,aB⟩
  .simp[lL]
  .simp[lL,Wk.cells]
 have he:k=w.aG.length:=by omega
 subst he;clear hJ aI hk;simp[lL,Wk.cells];refine dY (fun n τ=>∃k:Nat,k<=w.runs.length/\n=w.runs.length-k/\τ=lL w 8 k) ⟨w.runs.length,lL w 8 0,Sub.mk (by simp[lL]) (by simp[lL,Wk.cells]),0,fT _,rfl,rfl⟩ ?_;rintro J hJ n τ ⟨k,hk,rfl,rfl⟩;by_cases aI:k<w.runs.length
 .obtain⟨r,hr⟩:∃r,w.runs[k]?=some r:=⟨w.runs[k],aX aI⟩;have p7:=h6 r (dL hr);have hg:(w.runs.map Qn.Rq.pv)[k]?=some (.agg [.i r.hours,.i r.ready,.aE false 1 (r.on.map PV.bool)]):=by rw[bR,hr];rfl
  have hw:=bA (k:=k) (by omega);have aB:=hJ _ _ ⟨k+1,aI,rfl,rfl⟩;have aH:w.runs.length-(k+1)<w.runs.length-k:=by omega
  clear hJ;simp[-decide_eq_true_eq,lL,Wk.cells,aI,↓hg];refine FV (Iv w k r) ?_ ?_
  .simp[-decide_eq_true_eq,gN,gW,↓hg]
   repeat' (with_reducible refine And.intro ?_ ?_)
   all_goals
    refine Sub.mk ?_ ?_
    .simp[Iv,lL,Qn.Rq.pv,Qn.X3]
    .simp[Iv,lL,GP,Qn.X3,Wk.cells]
  .simp[gN,gW,Iv,lL,Qn.Rq.pv,GP,Wk.cells,Qn.X3];refine dY (fun n τ=>∃i:Nat,i<=r.on.length/\n=r.on.length-i/\τ=LF w k r i) ⟨r.on.length,LF w k r 0,Sub.mk (by simp[lL,LF]) (by simp[lL,LF,GP,Wk.cells,Qn.X3]),0,fT _,rfl,rfl⟩ ?_;rintro J hJ n τ ⟨i,hi,rfl,rfl⟩;by_cases iO:i<r.on.length
   .obtain⟨x,hx⟩:∃x,r.on[i]?=some x:=⟨r.on[i],aX iO⟩;have nX:(r.on.map PV.bool)[i]?=some (.bool x):=by rw[bR,hx];rfl
    have p5:=bA (k:=i) (by omega);have cA:=hJ _ _ ⟨i+1,iO,rfl,rfl⟩;have gM:r.on.length-(i+1)<r.on.length-i:=by omega
    clear hJ;simp[-decide_eq_true_eq,lL,LF,GP,Qn.X3,Wk.cells,↓nX,iO,p5];refine⟨_,_,gM,Sub.mk ?_ ?_,cA⟩
    .simp[lL,LF]
    .simp[lL,LF,GP,Qn.X3,Wk.cells]
   .have he:i=r.on.length:=by omega
    subst he;clear hJ;simp[-decide_eq_true_eq,lL,LF,GP,Qn.X3,Wk.cells,hw];refine⟨_,_,aH,Sub.mk ?_ ?_,aB⟩
    .simp[lL]
    .simp[lL,Wk.cells]
 .have he:k=w.runs.length:=by omega
  subst he;clear hJ;simp[-decide_eq_true_eq,lL,Wk.cells];rw[<-hR];simp
section
variable {D:Wk->ByteArray->Wk×Int}
def X8 (D:Wk->ByteArray->Wk×Int):Wk->List ByteArray->List ByteArray
 |_,[]=>[]
 |st,s::l=>if(D st s).2=0 then s::X8 D (D st s).1 l else X8 D (D st s).1 l
end
section
attribute [local irreducible] Bk.rV fK Bk.contra Bk.held Bk.span Bk.nums Bk.rA stM iC
end
def JU:List PV:=qS.map It.pv
def ZP (w:Wk)(n:Int)(k:Nat):AS:=⟨[(1,.pv (.i n)),(2,.ptr (.loc 2 0) 0),(5,.pv (.i (k:Int)))],[(.loc 2 0,.cells w.cells)]⟩
theorem Zm {α:Type}{l:List α}{k:Nat}{x:α}(h:l[k]?=some x):l.drop k=x::l.drop (k+1):=by
 obtain⟨hl,he⟩:=bZ.1 h;rw[AF hl,he]
theorem Zku (w:Wk)(hl:w.aA.length<=1000)(n:Int):aD prog 76 [w.pv,.i n] (.bool (kn w n)):=by
 refine cS L76 ?_;obtain⟨V,hV⟩:∃V,V=kn w n:=⟨_,rfl⟩;rw[<-hV];generalize hR:(fun(r:AV) (B:List (Site×aL))=>r=.pv (.bool V)/\B=[])=R;simp[L76,Wk.pv,aK,bG,aU,bE,dI];refine dY (fun m τ=>∃k:Nat,k<=w.aA.length/\m=w.aA.length-k/\V=(w.aA.drop k).any (fun y=>decide (y.num=n))/\τ=ZP w n k) ⟨w.aA.length,ZP w n 0,Sub.mk (by simp) (by simp[Wk.cells]),0,fT _,rfl,hV,rfl⟩ ?_;rintro J hJ m τ ⟨k,hk,rfl,hv,rfl⟩;by_cases aI:k<w.aA.length
 .obtain⟨x,hx⟩:∃x,w.aA[k]?=some x:=⟨w.aA[k],aX aI⟩;have hg:(w.aA.map Ct.pv)[k]?=some (.agg [.i x.num,.i x.it,.i x.src,.i x.day,.i x.valid,.i x.diff.lo,.i x.diff.hi]):=by rw[bR,hx];rfl
  have hw:=bA (k:=k) (by omega);have aH:w.aA.length-(k+1)<w.aA.length-k:=by omega
  rw[Zm hx,List.any_cons]at hv;by_cases hn:x.num=n
  .have zJ:V=true:=by rw[hv,decide_eq_true hn];rfl
   subst zJ;simp[ZP,Wk.cells,aI,↓hg,hn,aP];rw[<-hR];exact⟨rfl,rfl⟩
  .have aB:=hJ _ _ ⟨k+1,aI,rfl,by rw[hv,decide_eq_false hn,Bool.false_or],rfl⟩;simp[ZP,Wk.cells,aI,↓hg,hn,hw,aP];exact⟨_,_,aH,Sub.mk (by simp) (by simp[Wk.cells]),aB⟩
 have he:k=w.aA.length:=by omega
 subst he;rw[List.drop_length]at hv;have zJ:V=false:=hv;subst zJ;simp[ZP,Wk.cells];rw[<-hR];exact⟨rfl,rfl⟩
def NF:List Lt->Int->Nat->Int
 |[],_,_=>-1
 |x::l,n,k=>if x.num=n then(k:Int)else NF l n (k+1)
def Dp (w:Wk)(n:Int)(k:Nat):AS:=⟨[(1,.pv (.i n)),(2,.ptr (.loc 2 0) 0),(5,.pv (.i (k:Int)))],[(.loc 2 0,.cells w.cells)]⟩
theorem Zr (w:Wk)(hl:w.aJ.length<=1000)(n:Int):aD prog 83 [w.pv,.i n] (.i (NF w.aJ n 0)):=by
 refine cS L83 ?_;obtain⟨V,hV⟩:∃V,V=NF w.aJ n 0:=⟨_,rfl⟩;rw[<-hV];generalize hR:(fun(r:AV) (B:List (Site×aL))=>r=.pv (.i V)/\B=[])=R;simp[L83,Wk.pv,aK,bG,aU,bE,dI];refine dY (fun m τ=>∃k:Nat,k<=w.aJ.length/\m=w.aJ.length-k/\V=NF (w.aJ.drop k) n k/\τ=Dp w n k) ⟨w.aJ.length,Dp w n 0,Sub.mk (by simp) (by simp[Wk.cells]),0,fT _,rfl,hV,rfl⟩ ?_;rintro J hJ m τ ⟨k,hk,rfl,hv,rfl⟩;by_cases aI:k<w.aJ.length
 .obtain⟨x,hx⟩:∃x,w.aJ[k]?=some x:=⟨w.aJ[k],aX aI⟩;have hg:(w.aJ.map Lt.pv)[k]?=some (.agg [.i x.num,.i x.pieces,.i x.limit,.bool x.passed]):=by rw[bR,hx];rfl
  have hw:=bA (k:=k) (by omega);have aH:w.aJ.length-(k+1)<w.aJ.length-k:=by omega
  rw[Zm hx]at hv;unfold NF at hv;by_cases hn:x.num=n
  .rw[if_pos hn]at hv;subst hv;simp[Dp,Wk.cells,aI,↓hg,hn,aP];rw[<-hR];exact⟨rfl,rfl⟩
  .rw[if_neg hn]at hv;have aB:=hJ _ _ ⟨k+1,aI,rfl,hv,rfl⟩;simp[Dp,Wk.cells,aI,↓hg,hn,hw,aP];exact⟨_,_,aH,Sub.mk (by simp) (by simp[Wk.cells]),aB⟩
 have he:k=w.aJ.length:=by omega
 subst he;rw[List.drop_length]at hv;have zJ:V = -1:=hv;subst zJ;simp[Dp,Wk.cells];rw[<-hR];exact⟨rfl,rfl⟩
theorem Zkv:aD prog 78 [] (aS qS):=by
 refine cF [.loc 8 0] L78 ?_;simp[L78,aS,qS,It.pv]
theorem ZsJ (p:Int):aD prog 126 [.i p] (eG p):=by
 refine cF [.loc 6 0] L126 ?_;simp[L126,eG,dW,aP]
theorem Zpq (l:List PV):aD prog 87 [.aE false 3 l] (.agg [WJ,.aE false 3 l]):=by
 refine cN.j4 ?_;refine cF [.loc 4 0,.loc 5 0] L87 ?_;simp[L87,aP];intro m v h;refine ZrX (cs:=[.aE false 1 [.aE false 2 [.agg [.i 10,.i 13]],.emp (some true)],.aE false 3 l]) (iK:=[WJ,.aE false 3 l]) rfl (fun i c c' d h1 h2 hd=>?_) h
 match i with
 |0=>cases h1;cases h2;exact GH 5 _ _ rfl _ _ hd
 |1=>cases h1;cases h2;exact hd
def UA (k:Nat):List (Nat×AV):=[(1,.ptr (.loc 1 0) 0),(2,.ptr (.loc 2 0) 0),(3,.ptr (.loc 3 0) 0),(4,.pv (.i (k:Int)))]
def TZ (w:Wk)(Y:List Ct):List (Site×aL):=[(.loc 32 0,.arr 66 7 (Y.map Ct.pv)),(.loc 3 0,.cells [.pv (.aE false 4 JU),.vec (.loc 32 0) 7 0 Y.length]),(.loc 1 0,.cells w.cells),(.loc 2 0,.cells [.pv (.emp (some true)),.pv (.emp (some true))])]
def Iy (w:Wk)(k:Nat):AS:=⟨UA k,TZ w (fR (w.aA.take k) w.bad)⟩
theorem Zb (w:Wk)(hl:w.aA.length<=1000)(hb:w.bad.length<=1000):aD prog 80 [w.pv] (fB w.aA w.bad).pv:=by
 have IB:aD prog 78 [] (.aE false 4 JU):=Zkv;refine O1 [.loc 32 0] L80 ?_;intro R hR;simp[L80,Wk.pv,aK,bG];refine .inl<|cQ [] [] IB ?_;simp[aM];refine dY (fun m τ=>∃k:Nat,k<=w.aA.length/\m=w.aA.length-k/\τ=Iy w k) ⟨w.aA.length,Iy w 0,Sub.trans' (Sub.mk (by simp[UA,AS.gL]) (by simp[TZ,AS.gL,Wk.cells,aU,bE,dI,fR])) (gL 32 66 7 (s:=.loc 3 0) (cs:=[.pv (.aE false 4 JU),.pv (.emp (some true))]) 1 rfl rfl (by decide)),0,by omega,rfl,rfl⟩ ?_;rintro J hJ m τ ⟨k,hk,rfl,rfl⟩;by_cases aI:k<w.aA.length
 .obtain⟨x,hx⟩:∃x,w.aA[k]?=some x:=⟨w.aA[k],aX aI⟩;have hg:(w.aA.map Ct.pv)[k]?=some (.agg [.i x.num,.i x.it,.i x.src,.i x.day,.i x.valid,.i x.diff.lo,.i x.diff.hi]):=by rw[bR,hx];rfl
  have hw:=bA (k:=k) (by omega);have aB:=hJ _ _ ⟨k+1,aI,rfl,rfl⟩;have aH:w.aA.length-(k+1)<w.aA.length-k:=by omega
  have eK:fR (w.aA.take (k+1)) w.bad=fR (w.aA.take k) w.bad++(if(!wR w.bad x)=true then[x]else[]):=by
   unfold fR;rw[lX,hx,H9];congr 1;simp only[Option.toList,xL,List.filter_nil]
  have mJ:(fR (w.aA.take k) w.bad).length<=1000:=lJ (R3 _ _) (by rw[gI];omega);have VE:aD prog 81 [.aE false 1 (w.bad.map iP),.i x.num] (.bool (wR w.bad x)):=by
   have h:=wI w.bad x.num (by omega);have e:w.bad.contains x.num=wR w.bad x:=by
    rw[qQ,ZhP,jF]
   rw[e]at h;exact h
  unfold Iy at aB ⊢;rw[eK]at aB;clear hJ eK;generalize fR (w.aA.take k) w.bad=Y at *;have hY:(Y.map Ct.pv).take Y.length=Y.map Ct.pv:=fH (by simp);have hY6:Y.length<=999999:=by omega
  have hY7:Y.length+1<=1000000:=by omega
  simp[UA,TZ,Wk.cells,aI,↓hg,aP];refine cG [.aE false 1 (w.bad.map iP),.i x.num] VE ?_;cases Ch:wR w.bad x with
  |true=>
   rw[Ch,if_neg (by simp),wW]at aB;simp[hw];exact⟨_,_,aH,Sub.mk (by simp[UA]) (by simp[TZ,Wk.cells]),aB⟩
  |false=>
   rw[Ch,if_pos (show(!false)=true from rfl)]at aB;simp[hw,↓hg,aP,hY7];exact⟨_,_,aH,Sub.mk (by simp[UA]) (by simp[TZ,Wk.cells,Ct.pv]),aB⟩
 have he:k=w.aA.length:=by omega
 subst he;clear hJ;unfold Iy;rw[nC];have jL:(fB w.aA w.bad).pv=.agg [.aE false 4 JU,.aE false 7 ((fR w.aA w.bad).map Ct.pv)]:=rfl;rw[jL]at hR;generalize fR w.aA w.bad=Z at *;have hmZ:(Z.map Ct.pv).take Z.length=Z.map Ct.pv:=fH (by simp);simp[UA,TZ,Wk.cells,hmZ];rw[<-hR];exact⟨rfl,rfl⟩
section
section
variable {P:Program}{K:AV->AS->Prop}{σ:AS}
theorem Zlk (fz:List Site){f:bD}{args:List bD}{d:Nat}{g:FuncId}{fs xs cs:List PV}{l:List AV}(h1:(aM fz σ).o f=.pv (.fn g fs cs))(h2:(aM fz σ).tN args=some xs)
  (hc:cN P g ((fs++xs++cs).map .pv) [] (fun r B=>r=.ptr (.ret 0) 0/\B=[(.ret 0,.cells l)])) (hr:oG (.ptr (.ret 0) 0) [(.ret 0,.cells l)]) (hK:K (.ptr (.loc d 0) 0) (((aM fz σ).bI d).lY (nR d [(.ret 0,.cells l)]))):yV P f args d K σ:=
 .inr ⟨fz,g,fs,xs,cs,h1,h2,hc.mono (fun _ _ ⟨h,h'⟩=>by subst h h';exact⟨hr,hK⟩)⟩
end
attribute [local irreducible] Bk.held Bk.nums Bk.iS Bk.span
end
section
section
attribute [local irreducible] Bk.rV fK Bk.contra Bk.held Bk.span Bk.nums Bk.rA
theorem ZtD {l:List Ct}{bad:List Int}(hl:Bk.ok ⟨qS,l⟩){i d:Int}(h0:0<=i)(h1:i<=5)(h2:0<=d)(h3:d<=1000):(fB l bad).rA i d=stM l bad i d:=by
 have h:=Zvf (GF (bad:=bad) hl) h0 (show i<((fB l bad).items.length:Int) by show i<(6:Int);omega) h2 h3;have hs:stM l bad i d=decide ((fB l bad).uW i d=0):=by unfold stM;rw[Zlm]
 rw[hs,h];cases(fB l bad).rA i d<;>rfl
end
attribute [local irreducible] Bk.rV fK Bk.contra Bk.held Bk.span Bk.nums Bk.iS stM
theorem Zh8 (w:Wk)(hk:Bk.ok ⟨qS,w.aA⟩)(hl:w.aA.length<=1000)(hb:w.bad.length<=1000)(fU item day rd:Int)(h0:0<=item)(h1:item<=5)(h2:0<=day)(h3:day<=1000):aD prog 85 [w.pv,.agg [.i fU,.i item,.i day,.i rd]] (.bool (stM w.aA w.bad item day)):=by
 have oB:=Zb w hl hb;have VE:=Zm7 (fB w.aA w.bad) (GF hk) item day h0 (show item<(6:Int) by omega);rw[ZtD hk h0 h1 h2 h3]at VE;refine V1 L85 ?_;intro R hR;generalize stM w.aA w.bad item day=V at *;have jL:w.pv=.agg [.aE false 7 (w.aA.map Ct.pv),.aE false 1 (w.bad.map iP),.aE false 4 (w.aJ.map Lt.pv),.aE false 4 (w.aG.map Tt.pv),.aE false 3 (w.runs.map Qn.Rq.pv)]:=rfl;rw[jL]at oB ⊢;generalize(fB w.aA w.bad).pv=bp at *;simp[L85];refine cQ [] [_] oB ?_;simp[aM];refine cG [bp,.i item,.i day] VE ?_;simp;rw[<-hR];exact⟨rfl,rfl⟩
theorem ZsO (w:Wk)(hk:Bk.ok ⟨qS,w.aA⟩)(hl:w.aA.length<=1000)(hb:w.bad.length<=1000)(t:Tt)(limit:Int)(h0:0<=t.item)(h1:t.item<=5)(h2:0<=t.day)(h3:t.day<=1000)(hs:stM w.aA w.bad t.item t.day=true)(hc:(fB w.aA w.bad).contra=false)
  (dE:IntKind.i64.wrap (t.rd+((fB w.aA w.bad).uY t.item t.day).1.lo)=t.rd+((fB w.aA w.bad).uY t.item t.day).1.lo):
  aD prog 124 [w.pv,.agg [.i t.fU,.i t.item,.i t.day,.i t.rd],.i limit] (.bool (oY w.aA w.bad limit t)):=by
 have oB:=Zb w hl hb;have cU:=GF (bad:=w.bad) hk;have K6:=Zrq (fB w.aA w.bad) cU;have HY:=Zs (fB w.aA w.bad) cU ((fB w.aA w.bad).span ((fB w.aA w.bad).held [])) ((fB w.aA w.bad).held []) Gj t.item t.day 1000 h0 (show t.item<(6:Int) by omega) ⟨h2,h3⟩ (fun c hc h=>Zh2 cU hc h);have hM:((fB w.aA w.bad).uY t.item t.day).1=(fB w.aA w.bad).kF ((fB w.aA w.bad).held []) ((fB w.aA w.bad).span ((fB w.aA w.bad).held [])) t.item t.day 1000:=by
  unfold Bk.uY;unfold stM at hs;rw[Zlm]at hs;rw[if_pos (of_decide_eq_true hs),hc];rfl
 unfold oY;rw[hM]at dE ⊢;refine cS L124 ?_;generalize(fB w.aA w.bad).kF ((fB w.aA w.bad).held []) ((fB w.aA w.bad).span ((fB w.aA w.bad).held [])) t.item t.day 1000=sp at *;obtain⟨V,hV⟩:∃V,V=decide (limit<=t.rd+sp.lo):=⟨_,rfl⟩;rw[<-hV];generalize hR:(fun(r:AV) (B:List (Site×aL))=>r=.pv (.bool V)/\B=[])=R;have jL:w.pv=.agg [.aE false 7 (w.aA.map Ct.pv),.aE false 1 (w.bad.map iP),.aE false 4 (w.aJ.map Lt.pv),.aE false 4 (w.aG.map Tt.pv),.aE false 3 (w.runs.map Qn.Rq.pv)]:=rfl;have Vu:(fB w.aA w.bad).pv=.agg [.aE false 4 JU,.aE false 7 ((fR w.aA w.bad).map Ct.pv)]:=rfl;rw[jL]at oB ⊢;rw[Vu]at oB HY K6;generalize(fB w.aA w.bad).span ((fB w.aA w.bad).held [])=S at *;generalize(fB w.aA w.bad).held []=H at *;simp[L124];refine .inl<|cQ [] [_] oB ?_;simp[aM];refine EC (fun τ=>τ=⟨[(11,.pv (.i t.rd)),(20,.pv (.i sp.lo)),(22,.pv (.i limit))],[]⟩) ?_ ?_
 .simp[gN,gW]
  repeat' apply And.intro
  all_goals
   first|refine Zlk [] (fs:=[]) (xs:=[_]) (cs:=[]) rfl rfl K6 ?_ ?_|refine .inl<|Zlk [] (fs:=[]) (xs:=[_]) (cs:=[]) rfl rfl K6 ?_ ?_
   .simp[oG]
   simp[aM,nR,iT,gN,gW]
   repeat' apply And.intro
   all_goals
    refine cM [.pv (.agg [.aE false 4 JU,.aE false 7 ((fR w.aA w.bad).map Ct.pv)]),.ptr (.par 0) 0,.pv (.i t.item),.pv (.i t.day),.pv (.i 1000)] (laid 0 (P5 S H)) 19 [.loc 14 0] (by simp[laid,P5]) HY (by simp[laid,P5]) ?_;simp[laid,P5,Cr.pv];exact Sub.mk (by simp) (by simp)
 rintro τ rfl;have nI:decide (limit<=t.rd+sp.lo)=V:=hV.symm;simp[-decide_eq_true_eq,-decide_eq_false_iff_not,dE,nI];rw[<-hR];exact⟨rfl,rfl⟩
end
section
def pH (p:Int)(rs:List Bool)(c:Int)(i:Nat):AS:=⟨[(1,.vec (.par 0) 1 0 rs.length),(2,.ptr (.loc 2 0) 0),(7,.pv (.i ((2*i:Nat):Int))),(8,.pv (.i c)),(9,.pv (.i (i:Int)))],[(.loc 2 0,.cells [.pv (.i p),.pv (.aE false 3 [dW 0,dW 1])]),(.par 0,.arr 4 1 (rs.map .bool))]⟩
def tM (p:Int)(rs:List Bool)(c:Int)(i k:Nat):AS:=⟨(10,.ptr (.loc 10 0) 0)::(11,.pv (.i (k:Int)))::(pH p rs c i).tm,(.loc 10 0,.cells [.pv (.i 2),.pv (.i (i:Int)),.pv (.i 2)])::(pH p rs c i).bx⟩
theorem ZrR:∀l:List Bool,0<=dD l/\dD l<=l.length
 |[]=>by decide
 |x::l=>by
  obtain⟨h1,h2⟩:=ZrR l;unfold dD;rw[pA]
  split<;>omega
theorem Ma:∀l m:List Bool,dD (l++m)=dD l+dD m
 |[],m=>by simp[dD]
 |x::l,m=>by
  show(if x=true then 1 else 0)+dD (l++m)=(if x=true then 1 else 0)+dD l+dD m;rw[Ma l m,Int.add_assoc]
theorem ZuA {rs:List Bool}(h:rs.length<2):cY rs=(3,2-(rs.length:Int),0):=by unfold cY;rw[if_pos h]
theorem Zuz {rs:List Bool}(h:¬rs.length<2)(he:(cY rs).2.2=0)(hs:eD (dD (rs.take 2)) 0 2≠3):rs.length=2/\cY rs=(eD (dD (rs.take 2)) 0 2,0,0):=by
 unfold cY at *;rw[if_neg h,if_neg hs]at *;split at he
 .cases he
 .rename_i h2;exact⟨by omega,by rw[if_neg h2]⟩
theorem Zuy {rs:List Bool}(h:¬rs.length<2)(hs:eD (dD (rs.take 2)) 0 2=3)(h4:rs.length<4):cY rs=(3,4-(rs.length:Int),0):=by
 unfold cY;rw[if_neg h,if_pos hs,if_pos h4]
theorem Zux {rs:List Bool}(hs:eD (dD (rs.take 2)) 0 2=3)(h4:rs.length=4):cY rs=(eD (dD (rs.take 4)) 1 2,0,0):=by
 unfold cY;rw[if_neg (by omega),if_pos hs,if_neg (by omega),if_neg (by omega)];have h1:dD (rs.take 2)=1:=by
  unfold eD at hs;split at hs
  .cases hs
  .split at hs
   .cases hs
   .omega
 have h2:rs.take 4=rs.take 2++(rs.drop 2).take 2:=by rw[show 4=2+2 from rfl,List.take_add]
 rw[h2,Ma,h1]
theorem ZsI (p:Int)(rs:List Bool)(h4:rs.length<=4)(he:(cY rs).2.2=0):cN prog 125 [.pv (eG p),.vec (.par 0) 1 0 rs.length] [(.par 0,.arr 4 1 (rs.map .bool))] (fun r B=>r=.pv (.bM [.i (cY rs).1,.i (cY rs).2.1,.bool true])/\B=[(.par 0,.arr 4 1 (rs.map .bool))]):=by
 refine cB [.par 0] L125 ?_;obtain⟨V,hV⟩:∃V,V=cY rs:=⟨_,rfl⟩;rw[<-hV];generalize hR:(fun(r:AV) (B:List (Site×aL))=>r=.pv (.bM [.i V.1,.i V.2.1,.bool true])/\B=[(.par 0,.arr 4 1 (rs.map .bool))])=R;have inner:∀(c0:Int) (i k:Nat),k<2*i+2->2*i+2<=rs.length->∃b,(rs.map PV.bool)[k]?=some (.bool b)/\dD (rs.take (k+1))=dD (rs.take k)+(if b=true then 1 else 0):=fun c0 i k h1 h2=>by
  have hk:k<rs.length:=by omega
  exact⟨rs[k],by rw[bR,aX hk];rfl,ZiK (aX hk)⟩
 have jO:=fun k=>ZrR (rs.take k)
 have k1:IntKind.i64.wrap 1=1:=rfl;have k2:IntKind.i64.wrap 2=2:=rfl;have k4:IntKind.i64.wrap 4=4:=rfl;simp[L125,eG];refine dY (fun m τ=>∃i:Nat,((i=0/\m=1)\/(i=1/\m=0/\¬rs.length<2/\eD (dD (rs.take 2)) 0 2=3))/\τ=pH p rs (dD (rs.take (2*i))) i) ⟨1,pH p rs 0 0,Sub.mk (by simp[pH,dD]) (by simp[pH]),0,.inl ⟨rfl,rfl⟩,rfl⟩ ?_;rintro J hJ m τ ⟨i,hi,rfl⟩;rcases hi with⟨rfl,rfl⟩|⟨rfl,rfl,h2,hs⟩
 .by_cases h2:rs.length<2
  .have uA:(rs.length:Int)<2:=by omega
   have w1:IntKind.i64.wrap (2-(rs.length:Int))=2-(rs.length:Int):=wrap64 (by omega);rw[ZuA h2]at hV;subst hV;simp[pH,dW,h2,uA,w1,k1,k2,k4];rw[<-hR];exact⟨by simp,by simp⟩
  have uA:¬(rs.length:Int)<2:=by omega
  simp[pH,dW,h2,uA,k1,k2,k4];refine dY (fun m τ=>∃k:Nat,k<=2/\m=2-k/\τ=tM p rs (dD (rs.take k)) 0 k) ⟨2,tM p rs 0 0 0,Sub.mk (by simp[tM,pH,dD]) (by simp[tM,pH,dW]),0,fT _,rfl,rfl⟩ ?_;rintro J2 uS m τ ⟨k,hk,rfl,rfl⟩;by_cases aI:k<2
  .obtain⟨b,hg,nY⟩:=inner 0 0 k (by omega) (by omega);have hw:=bA (k:=k) (by omega);have jD:(k:Int)<2:=by omega
   have xG:k<rs.length:=by omega
   have aB:=uS _ _ ⟨k+1,aI,rfl,rfl⟩;have aH:2-(k+1)<2-k:=by omega
   obtain⟨b1,b2⟩:=jO k;rw[gI]at b2;rw[nY]at aB;clear uS nY;generalize dD (rs.take k)=c at *;have wc:IntKind.i64.wrap (c+1)=c+1:=wrap64 (by omega);cases b with
   |true=>
    simp[-getElem?_pos,-List.getElem?_map,tM,pH,dW,aI,jD,xG,hg,hw,wc,k1,k2,k4,cO,aP];exact⟨_,_,aH,Sub.mk (by simp[tM,pH]) (by simp[tM,pH,dW]),aB⟩
   |false=>
    rw[if_neg (by decide),Int.add_zero]at aB;simp[-getElem?_pos,-List.getElem?_map,tM,pH,dW,aI,jD,xG,hg,hw,wc,k1,k2,k4,cO,aP];exact⟨_,_,aH,Sub.mk (by simp[tM,pH]) (by simp[tM,pH,dW]),aB⟩
  have sD:k=2:=by omega
  subst sD;clear uS aI hk;by_cases hs:eD (dD (rs.take 2)) 0 2=3
  .have aB:=hJ _ _ ⟨1,.inr ⟨rfl,rfl,h2,hs⟩,rfl⟩;have c1:dD (rs.take 2)=1:=by
    unfold eD at hs;split at hs
    .cases hs
    .split at hs
     .cases hs
     .omega
   rw[c1]at aB ⊢;simp[tM,pH,dW,k1,k2,k4];exact⟨_,_,by decide,Sub.mk (by simp[pH]) (by simp[pH,dW]),aB⟩
  .obtain⟨qW,hp⟩:=Zuz h2 he hs;rw[hp]at hV;subst hV;clear hJ;unfold eD at *;by_cases c1:dD (rs.take 2)<=0
   .rw[if_pos c1]at hR;simp[tM,pH,dW,c1,qW,k1,k2,k4];rw[<-hR];exact⟨by simp,by simp⟩
   .rw[if_neg c1]at hs hR;by_cases c2:2<=dD (rs.take 2)
    .rw[if_pos c2]at hR;simp[tM,pH,dW,c1,c2,qW,k1,k2,k4];rw[<-hR];exact⟨by simp,by simp⟩
    .rw[if_neg c2]at hs;exact absurd rfl hs
 .have c1:dD (rs.take 2)=1:=by
   unfold eD at hs;split at hs
   .cases hs
   .split at hs
    .cases hs
    .have:=jO 2;omega
  clear hJ;by_cases RO:rs.length<4
  .have h5:(rs.length:Int)<4:=by omega
   have w1:IntKind.i64.wrap (4-(rs.length:Int))=4-(rs.length:Int):=wrap64 (by omega);rw[Zuy h2 hs RO]at hV;subst hV;simp[pH,dW,RO,h5,w1,k1,k2,k4];rw[<-hR];exact⟨by simp,by simp⟩
  have Ts:rs.length=4:=by omega
  have h5:¬(rs.length:Int)<4:=by omega
  rw[Zux hs Ts]at hV;subst hV;simp[pH,dW,RO,h5,k1,k2,k4];refine dY (fun m τ=>∃k:Nat,2<=k/\k<=4/\m=4-k/\τ=tM p rs (dD (rs.take k)) 1 k) ⟨2,tM p rs (dD (rs.take 2)) 1 2,Sub.mk (by simp[tM,pH]) (by simp[tM,pH,dW]),2,by decide,by decide,rfl,rfl⟩ ?_;rintro J2 uS m τ ⟨k,QH,hk,rfl,rfl⟩;by_cases aI:k<4
  .obtain⟨b,hg,nY⟩:=inner 0 1 k (by omega) (by omega);have hw:=bA (k:=k) (by omega);have jD:(k:Int)<4:=by omega
   have xG:k<rs.length:=by omega
   have aB:=uS _ _ ⟨k+1,by omega,aI,rfl,rfl⟩;have aH:4-(k+1)<4-k:=by omega
   obtain⟨b1,b2⟩:=jO k;rw[gI]at b2;rw[nY]at aB;clear uS nY;generalize dD (rs.take k)=c at *;have wc:IntKind.i64.wrap (c+1)=c+1:=wrap64 (by omega);cases b with
   |true=>
    simp[-getElem?_pos,-List.getElem?_map,tM,pH,dW,aI,jD,xG,hg,hw,wc,k1,k2,k4,cO,aP];exact⟨_,_,aH,Sub.mk (by simp[tM,pH]) (by simp[tM,pH,dW]),aB⟩
   |false=>
    rw[if_neg (by decide),Int.add_zero]at aB;simp[-getElem?_pos,-List.getElem?_map,tM,pH,dW,aI,jD,xG,hg,hw,wc,k1,k2,k4,cO,aP];exact⟨_,_,aH,Sub.mk (by simp[tM,pH]) (by simp[tM,pH,dW]),aB⟩
  have hk4:k=4:=by omega
  subst hk4;clear uS aI hk;unfold eD at hR;generalize dD (rs.take 4)=C at *;by_cases c3:C<=1
  .rw[if_pos c3]at hR;simp[tM,pH,dW,c3,Ts,k1,k2,k4];rw[<-hR];exact⟨by simp,by simp⟩
  .have c4:2<=C:=by omega
   rw[if_neg c3,if_pos c4]at hR;simp[tM,pH,dW,c3,c4,Ts,k1,k2,k4];rw[<-hR];exact⟨by simp,by simp⟩
attribute [local irreducible] Bk.rV fK Bk.contra Bk.held Bk.span Bk.nums Bk.iS Bk.rA stM oY
def KW (k:Nat)(rs:List Bool):List (Nat×AV):=[(2,.ptr (.loc 2 0) 0),(3,.ptr (.loc 3 0) 0),(6,.vec (.loc 49 0) 1 0 rs.length),(7,.pv (.i (k:Int)))]
def KV (w:Wk)(x:Lt)(rs:List Bool):List (Site×aL):=[(.loc 49 0,.arr 4 1 (rs.map .bool)),(.loc 3 0,.cells [.pv (.i x.num),.pv (.i x.pieces),.pv (.i x.limit),.pv (.bool x.passed)]),(.loc 2 0,.cells w.cells)]
def KX (w:Wk)(x:Lt)(rs:List Bool)(k:Nat):AS:=⟨KW k rs,KV w x rs⟩
theorem ZmW {n:Nat}(w:Wk)(hI:sG n w)(hn:n<=100)(hc:(fB w.aA w.bad).contra=false)(x:Lt):
  aD prog 84 [w.pv,x.pv] (.bM [.i (tA (stM w.aA w.bad) (oY w.aA w.bad x.limit) x.num w.aG []).1,.i ((tA (stM w.aA w.bad) (oY w.aA w.bad x.limit) x.num w.aG []).2:Nat)]):=by
 have gS:=hI.c;have xJ:=hI.b;have mI:=hI.t;obtain⟨V,hV⟩:∃V,V=tA (stM w.aA w.bad) (oY w.aA w.bad x.limit) x.num w.aG []:=⟨_,rfl⟩;rw[<-hV];refine V1 L84 ?_;intro R hR;simp[L84,Wk.pv,Lt.pv,aK,bG,aU,bE,dI];refine dY (fun m τ=>∃(k:Nat) (rs:List Bool),k<=w.aG.length/\m=w.aG.length-k/\lC rs/\τ=KX w x rs k/\tA (stM w.aA w.bad) (oY w.aA w.bad x.limit) x.num (w.aG.drop k) rs=V)
  ⟨w.aG.length,KX w x [] 0,Sub.trans' (Sub.mk (by simp[KW,AS.cT]) (by simp[KV,AS.cT,Wk.cells])) (cT 49 4 1 6 rfl (by decide)),0,[],fT _,rfl,ZkE,rfl,hV.symm⟩ ?_
 rintro J hJ m τ ⟨k,rs,hk,rfl,ho,rfl,hv⟩;by_cases aI:k<w.aG.length
 .obtain⟨t,hx⟩:∃t,w.aG[k]?=some t:=⟨w.aG[k],aX aI⟩;have gU:t∈w.aG:=dL hx;have hg:(w.aG.map Tt.pv)[k]?=some (.agg [.i t.fU,.i t.item,.i t.day,.i t.rd]):=by rw[bR,hx];rfl
  obtain⟨q1,q2,q3,q4,_⟩:=hI.tt t gU;rw[Zm hx,Zht]at hv;have hw:=bA (k:=k) (by omega);have aH:w.aG.length-(k+1)<w.aG.length-k:=by omega
  have eK:∀xU,lC xU->tA (stM w.aA w.bad) (oY w.aA w.bad x.limit) x.num (w.aG.drop (k+1)) xU=V->J (w.aG.length-(k+1)) (KX w x xU (k+1)):=fun xU h1 h2=>hJ _ _ ⟨k+1,xU,aI,rfl,h1,rfl,h2⟩
  clear hJ;have jL:w.pv=.agg [.aE false 7 (w.aA.map Ct.pv),.aE false 1 (w.bad.map iP),.aE false 4 (w.aJ.map Lt.pv),.aE false 4 (w.aG.map Tt.pv),.aE false 3 (w.runs.map Qn.Rq.pv)]:=rfl;have wA:=Zh8 w hI.bk (by omega) (by omega) t.fU t.item t.day t.rd (by omega) q2 q3 q4;rw[jL]at wA;by_cases lG:t.fU=x.num
  case neg=>
   rw[if_neg (by rintro⟨h,_⟩;exact lG h)]at hv;have hn:=eK rs ho hv;simp[KX,KW,KV,Wk.cells,aI,↓hg,aP,lG,hw];exact⟨_,_,aH,Sub.mk (by simp[KW]) (by simp[KV,Wk.cells]),hn⟩
  simp[KX,KW,KV,Wk.cells,aI,↓hg,aP,lG];rw[lG]at wA;refine cG [_,_] wA ?_;cases hs:stM w.aA w.bad t.item t.day with
  |false=>
   rw[if_neg (by rintro⟨_,h⟩;rw[hs]at h;cases h)]at hv;have hn:=eK rs ho hv;simp[hw];exact⟨_,_,aH,Sub.mk (by simp[KW,KX]) (by simp[KX,KV,Wk.cells]),hn⟩
  |true=>
   rw[if_pos ⟨lG,hs⟩]at hv;have y8:=ZsO w hI.bk (by omega) (by omega) t x.limit (by omega) q2 q3 q4 hs hc (hI.fit t gU);rw[jL,lG]at y8;obtain⟨bQ,e1⟩:=(⟨ho.step,rfl⟩:(∀b,(cY (rs++[b])).2.2=0/\((cY (rs++[b])).1=3->lC (rs++[b])))/\0=0);clear e1;have RO:=ho.len;have h16:rs.length<=999999:=by omega
   have h17:rs.length+1<=1000000:=by omega
   simp[↓hg,aP];rw[lG];refine cG [_,_,_] y8 ?_;generalize oY w.aA w.bad x.limit t=b0 at *;have IJ:∃b,b=!b0:=⟨_,rfl⟩;obtain⟨b,hb⟩:=IJ;rw[<-hb]at hv;have iH:List.take (rs.length+1) (rs.map PV.bool++[PV.bool b])=(rs++[b]).map PV.bool:=by
    rw[fH (by simp),lI];rfl
   simp[aP,h17,<-hb]
   try rw[iH]
   refine .inl<|cQ [] [_] (ZsJ x.pieces) ?_;simp[aM];have mJ:=ZsI x.pieces (rs++[b]) (by rw[gE];simp;omega) (bQ b).1;refine xM (gF:=[.pv (eG x.pieces),.vec (.par 0) 1 0 (rs++[b]).length]) (B:=[(.par 0,.arr 4 1 ((rs++[b]).map .bool))]) (fs:=[]) (cs:=[]) 55 [.loc 49 0] rfl rfl rfl ?_ ?_ ?_ mJ ?_
   .first|rfl|simp
   .first|rfl|simp
   .first|rfl|simp
   rintro r0 B0 ⟨rfl,rfl⟩;refine⟨rfl,by simp,?_⟩;obtain⟨ET,qV⟩:=bQ b;have hn:=eK (rs++[b]);have zL:(rs++[b]).length=rs.length+1:=by rw[gE];rfl
   generalize cY (rs++[b])=pm at hv ET qV ⊢;obtain⟨v,mo,er⟩:=pm;dsimp only at ET qV hv;by_cases h3:v=3
   .subst h3;rw[if_pos rfl]at hv;have hn:=hn (qV rfl) hv;simp[hw];exact⟨_,_,aH,Sub.mk (by simp[KW]) (by simp[KV,Wk.cells]),hn⟩
   .rw[if_neg h3]at hv;simp[h3];rw[<-hR,<-hv,zL];exact⟨rfl,by simp⟩
 have he:k=w.aG.length:=by omega
 subst he;rw[List.drop_length,Zti]at hv;clear hJ;simp[KX,KW,KV,Wk.cells];rw[<-hR,<-hv];exact⟨rfl,rfl⟩
end
end Go.Proofs.YthmbecacehfgfaaGreatDoor
