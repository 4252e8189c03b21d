import Derived.Test.YthmbecacehfgfabGreatDoorP0
import Derived.Test.YthmbecacehfgfabGreatDoorP2
import Derived.Test.YthmbecacehfgfabGreatDoorP1
import Derived.Test.YthmbecacehfgfabGreatDoorProg
set_option linter.unusedSimpArgs false
set_option linter.unusedVariables false
set_option maxHeartbeats 32000000
set_option maxRecDepth 100000
namespace Go.Proofs.YthmbecacehfgfabGreatDoor
open Go.RowKit
open Tryz
theorem Ff:zH prog (pM P4) L49.code:=Hb L49_ok L49_tab
structure mY (H:Int->Bool)(hs:List (PV×PV)):Prop where
 k:A4 kI hs=true
 f:∀n:Int,(fA (.i n) hs).getD (.bool false)=.bool (H n)
def numOf:PV->Int
 |.agg (.int _ n::_)=>n
 |_=>0
def iB (s:Site):aJ:=.cells [.ptr s 0]
noncomputable def E6 (b:Bk)(bad:List Int)(es hs:List (PV×PV))(is:Bool):List aJ:=[.loop (fX prog 49 0) [42] 64 [(3,.ptr (.par 2) 0),(7,.ptr (.par 1) 0)] none,
 .cells [.pv (.bool is)],.cells [.mp (.par 3)],.map hs,iB (.par 5),.cells (aX b (.par 6) (gD bad)),.map es]
attribute [simp] AS.exp jY aJ.iX AV.map AV.iT rN dO Site.uS aJ.dC AV.dC AV.hZ aT cT AS.lX fB gI cA pD kF mT gK w9
attribute [simp] aJ.bG Site.fP
noncomputable def N0 (b:Bk)(bad:List Int)(es hs:List (PV×PV))(H:Int->Bool)(hH:mY H hs):Cons prog where
 m:=7
 S:=Bool
 X:=E6 b bad es hs
 step is x:=(is||H (numOf x),true)
 good x:=∃c:Ct,x=c.pv
 live _:=True
 m0:=by omega
 len _:=rfl
 cl c:=by
  intro bx hb;simp only[E6,jT,List.not_mem_nil,or_false]at hb;rcases hb with rfl|rfl|rfl|rfl|rfl|rfl|rfl
  .rfl
  .rfl
  .rfl
  .rfl
  .rfl
  .simp[aX,Site.lt,J0]
  .rfl
 goes _ _ _ _ _:=trivial
 sV c x hc hx:=by
  obtain⟨y,rfl⟩:=hx;have oW:zH prog (pM P4) (.vM 64 (.t 41) (fX prog 49 0) Y49_0a Y49_0b [42]):=Ff.2.2.1.2.2.2.1.2.2.2.1.2;have hf:=hH.f y.num;have hk:=hH.k;refine YW mixed oW.1 oW.2.1 rfl rfl (by simp) rfl ?_;cases c
  all_goals
   simp[-getElem?_pos,Y49_0a,Y49_0b,E6,laid,qR,Ct.pv,hk,hf,numOf,iB,aX,BH];exact⟨[],[.par 1,.par 2,.par 3,.par 4,.par 5,.par 6],rfl,rfl,by simp[aY,J0],rfl,by simp[aY,W3]⟩
theorem Zlf {b:Bk}{bad:List Int}{es hs:List (PV×PV)}{H:Int->Bool}{hH:mY H hs}:∀(l:List Ct) (c:Bool),(N0 b bad es hs H hH).run c (lV l)=(c||l.any (fun o=>H o.num),true)
 |[],c=>by
  show(c,true)=_;simp
 |x::l,c=>by
  show(N0 b bad es hs H hH).run (c||H x.num) (lV l)=_;rw[Zlf l,List.any_cons,Bool.or_assoc]
theorem Gi {b:Bk}(hb:b.ok){bad:List Int}{n:Int}(h:n∈b.held bad):n∈b.nums:=by
 obtain⟨c,hc,e,_⟩:=(LA hb).1 h;exact(y9 hb).2 ⟨c,hc,e⟩
def kP (b:Bk)(bad:List Int)(k:Nat):List (PV×PV):=nY id (fun n=>.bool ((b.held bad).contains n)) (b.nums.take k)
theorem Gv {l:List Int}{n:Int}:(l.find? fun c=>decide (id c=n))=if n∈l then some n else none:=by
 induction l with
 |nil=>rfl
 |cons x l ih=>
  rw[List.find?_cons];by_cases h:x=n
  .subst h;rw[show decide (id x=x)=true from by simp,if_pos (by simp)]
  .rw[show decide (id x=n)=false from by simpa using h,ih];by_cases hm:n∈l
   .rw[if_pos hm,if_pos (by simp[hm])]
   .rw[if_neg hm,if_neg (by simp[hm];omega)]
theorem Hj (b:Bk)(bad:List Int)(k:Nat):mY (fun n=>(b.nums.take k).contains n&&(b.held bad).contains n) (kP b bad k):=by
 refine⟨PB,fun n=>?_⟩;unfold kP;rw[KV,Gv];by_cases h:n∈b.nums.take k
 .rw[if_pos h,jI.2 h,Bool.true_and];rfl
 .rw[if_neg h];cases hc:(b.nums.take k).contains n
  .rfl
  .exact absurd (jI.1 hc) h
theorem UL {b:Bk}(hb:b.ok)(bad:List Int):mY (fun n=>(b.held bad).contains n) (kP b bad b.nums.length):=by
 have h:=Hj b bad b.nums.length;refine⟨h.k,fun n=>?_⟩;rw[h.f n,nD];cases hc:(b.held bad).contains n
 .simp
 .rw[jI.2 (Gi hb (jI.1 hc))];rfl
theorem Zqt {b:Bk}{bad:List Int}{k:Nat}{n:Int}(h:b.nums[k]?=some n):mM (.i n) (.bool ((b.held bad).contains n)) (kP b bad k)=kP b bad (k+1):=by
 unfold kP;rw[Hp (fun x hx=>?_),mV,h]
 .unfold nY;rw[mL];rfl
 .obtain⟨i,hi⟩:=iO.1 hx;rw[mH]at hi;split at hi
  .rename_i qX;obtain⟨h1,e1⟩:=cD.1 hi;obtain⟨h2,e2⟩:=cD.1 h
   have:=R3.1 (UJ (b:=b)) i k h1 h2 qX
   rw[e1,e2]at this;show x≠n;omega
  .cases hi
theorem ZlH {b:Bk}(hb:b.ok){k:Nat}{n:Int}(h:b.nums[k]?=some n)(H:Int->Bool):((b.rH (b.get n).src (b.get n).day n).any fun o=>(b.nums.take k).contains o.num&&H o.num)=(b.rH (b.get n).src (b.get n).day n).any fun o=>H o.num:=by
 rw[rB,pB,pB];constructor
 .rintro⟨o,ho,h1⟩;rw[dK]at h1;exact⟨o,ho,h1.2⟩
 .rintro⟨o,ho,h1⟩;refine⟨o,ho,?_⟩;rw[h1,Bool.and_true,jI];obtain⟨h2,h3⟩:=(BG hb).1 ho;unfold Bk.qA at h3;simp only[dK,decide_eq_true_eq]at h3;obtain⟨i,hi⟩:=iO.1 ((y9 hb).2 ⟨o,h2,rfl⟩);rw[iO];refine⟨i,?_⟩;obtain⟨q1,e1⟩:=cD.1 hi;obtain⟨q2,e2⟩:=cD.1 h;rw[mH,if_pos,hi];rcases Nat.lt_trichotomy i k with qX|qX|qX
  .exact qX
  .subst qX;rw[e1]at e2;omega
  .have:=R3.1 (UJ (b:=b)) k i q2 q1 qX
   rw[e1,e2]at this;omega
theorem ZiK {b:Bk}(hb:b.ok){bad:List Int}{k:Nat}{n:Int}(h:b.nums[k]?=some n):(((b.item (b.get n).src).gZ||(b.rH (b.get n).src (b.get n).day n).any fun o=>(b.nums.take k).contains o.num&&(b.held bad).contains o.num)&&!bad.contains n)=(b.held bad).contains n:=by
 rw[Zle hb (dL h),ZlH hb h]
theorem El {a b c d:AV}{Z:List AV}{n:Nat}:(a::b::c::d::Z)[4+n]?=Z[n]?:=by rw[Nat.add_comm];rfl
def WJ (b:Bk)(bad:List Int)(es:List (PV×PV))(k:Nat):AS:=⟨[(0,.ptr (.par 0) 0),(3,.ptr (.loc 3 0) 0),(13,.pv (.aF false 1 (b.nums.map aO))),(14,.pv (.i b.nums.length)),(15,.pv (.i k))],
 [(.loc 9 0,.map (kP b bad k)),(.loc 3 0,.cells [.mp (.loc 9 0)]),(.par 0,.cells (aX b (.par 1) (gD bad))),(.par 1,.map es)]⟩
theorem Zd (b:Bk)(hb:b.ok)(bad:List Int)(es:List (PV×PV))(lE:xJ b es):cU prog 49 [.ptr (.par 0) 0] (laid 0 (kK b bad es)) (fun r B=>r=.mp (.ret 0)/\B=(.ret 0,.map (kP b bad b.nums.length))::laid 0 (kK b bad es)):=by
 have hlen:=YB (b:=b);refine O2 [.loc 9 0,.par 0,.par 1] L49 ?_;intro R hR;simp[L49,laid,kK,aX,BH];refine eP (fun n τ=>∃k:Nat,k<=b.nums.length/\n=b.nums.length-k/\τ=WJ b bad es k) ⟨b.nums.length,WJ b bad es 0,Sub.mk (by simp) (by simp[aX,kP,nY]),0,gW _,rfl,rfl⟩ ?_;rintro J hJ n τ ⟨k,hk,rfl,rfl⟩;by_cases aI:k<b.nums.length
 .obtain⟨x,hx⟩:∃x,b.nums[k]?=some x:=⟨b.nums[k],bC aI⟩;have xL:=dL hx;have oT:(b.nums.map aO)[k]?=some (.i x):=by rw[bY,hx];rfl
  have hw:=bK (k:=k) (by omega);have aH:b.nums.length-(k+1)<b.nums.length-k:=by omega
  obtain⟨sB,oB⟩:=V8 hb xL;have mK:=lE.f x;rw[if_pos xL]at mK;have T9:=lE.k;have jR:=xE hb sB;have aB:=hJ _ _ ⟨k+1,aI,rfl,rfl⟩;have nJ:=Zqt (bad:=bad) hx;have bS:=ZiK hb (bad:=bad) hx;have RF:=(Hj b bad k).k;have JI:=ZlH hb hx (fun n=>(b.held bad).contains n);have dG:=fun is:Bool=>Zlf (b:=b) (bad:=bad) (es:=es) (hH:=Hj b bad k) (b.rH (b.get x).src (b.get x).day x) is
  have hit:=fun is:Bool=>Gk (N0 b bad es (kP b bad k) _ (Hj b bad k)) b hb bad es lE 4 5 6 (fun c _=>⟨rfl,rfl⟩) (fun c _=>rfl) (b.get x).src (b.get x).day x is trivial (fun z hz=>⟨z,rfl⟩)
  simp only[dG,JI]at hit;rw[ZiK hb hx]at bS;have IG:=Zle hb (bad:=bad) xL;generalize hAN:((b.rH (b.get x).src (b.get x).day x).any fun n=>(b.held bad).contains n.num)=an at *;generalize b.get x=y at *;obtain⟨yn,yi,ys,yd,yv,⟨yl,yh⟩⟩:=y;simp only at oB jR hit IG;subst oB;unfold Ct.pv at mK;obtain⟨si,rfl⟩:∃si:Nat,ys=si:=⟨ys.toNat,by omega⟩;obtain⟨nn,rfl⟩:∃nn:Nat,yn=nn:=⟨yn.toNat,by omega⟩;have M1:si<b.items.length:=by omega
  have M6:nn<1000:=by omega
  obtain⟨z,hz⟩:∃z,b.items[si]?=some z:=⟨b.items[si],bC M1⟩;have qF:(b.items.map It.pv)[si]?=some (.agg [.i z.dR,.bool z.gZ,.i z.val.lo,.i z.val.hi]):=by rw[bY,hz];rfl
  have HZ:b.item (si:Int)=z:=by unfold Bk.item;rw[A1,hz];rfl
  rw[HZ]at IG;have RJ:=hit z.gZ;clear hit;simp[WJ,aX,aI,↓oT,T9,mK,aS,↓qF,BH,-aT];refine cM [.ptr (.par 0) 0,.pv (.i si),.pv (.i yd),.pv (.i nn)] (laid 0 (kK b bad es)) 41 [.par 0,.par 1] (by simp[laid,kK,aX,aS,W3,J0]) (CE b bad es si yd nn) (by simp[laid,kK,aX,J0]) ?_;simp[laid,kK,aX,W3,PO,-aT];refine YD [.loc 64 0,.loc 7 0,.loc 3 0,.loc 9 0,.loc 41 0,.par 0,.par 1] [(3,.ptr (.loc 3 0) 0),(7,.ptr (.loc 7 0) 0)] (gf:=138) (fs:=[]) (cs:=[.ptr (.loc 41 0) 0,.pv (.ref [.i nn]),.pv (.ref [.i si]),.pv (.ref [.i yd])]) ?_ ?_ rfl rfl ?_ ?_ ?_ RJ ?_
  .rfl
  .simp
  .simp[N0,E6,laid,aX,W3,J0,BH,iB]
  .rfl
  .rfl
  rintro r B' ⟨rfl,rfl⟩;refine⟨rfl,?_,?_⟩
  .exact fun p hp=>XW (n:=7) (L:=E6 b bad es (kP b bad k) (z.gZ||an)) (by simp[E6]) ((N0 b bad es (kP b bad k) _ (Hj b bad k)).cl (z.gZ||an)) p hp
  refine⟨_,_,_,_,_,rfl,?_⟩;have tN:(z.gZ||an)=true->(b.held bad).contains (nn:Int)=!bad.contains (nn:Int):=fun h=>by rw[IG,h,Bool.true_and]
  have RU:(z.gZ||an)=false->(b.held bad).contains (nn:Int)=false:=fun h=>by rw[IG,h,Bool.false_and]
  generalize Ee:(z.gZ||an)=is at *;have F2:=Zh0 (l:=bad) M6;cases is
  .rw[RU rfl]at nJ;simp[N0,E6,laid,lB,aX,BH,W3,iB,-aT,RF,nJ,hw];exact⟨_,_,aH,Sub.mk (by simp) (by simp[aX]),aB⟩
  .have hv:=tN rfl;cases s8:bad.contains (nn:Int)
   .rw[s8]at hv F2;simp only[Bool.not_false]at hv;rw[hv]at nJ;simp[N0,E6,laid,lB,aX,BH,W3,iB,-aT,bV,M6,El,F2,RF,nJ,hw];exact⟨_,_,aH,Sub.mk (by simp) (by simp[aX]),aB⟩
   .rw[s8]at hv F2;simp only[Bool.not_false,Bool.not_true]at hv;rw[hv]at nJ;simp[N0,E6,laid,lB,aX,BH,ZaS,W3,iB,-aT,Ee,bV,aN,M6,El,F2,RF,nJ,hw];exact⟨_,_,aH,Sub.mk (by simp[WJ]) (by simp[WJ,aX,BH]),aB⟩
 .have he:k=b.nums.length:=by omega
  subst he;clear hJ;simp[WJ,aX,J0,W3,rN];rw[<-hR];exact⟨rfl,by simp[laid,kK,aX]⟩
section
def C4 (l:List Int)(k:Nat):Bool:=match l[k]? with
 |some n=>jD n 1 999&&(decide (k=0)||decide ((l[k-1]?).getD 0<n))
 |none=>true
def V3 (l:List Int):Bool:=(List.range l.length).all (C4 l)
theorem Zj8 {l:List Int}{k:Nat}(hk:k<l.length)(h:C4 l k=false):V3 l=false:=by
 unfold V3;rw[List.all_eq_false];exact⟨k,List.mem_range.2 hk,by simp[h]⟩
theorem Zrm {l:List Int}(h:∀k,k<l.length->C4 l k=true):V3 l=true:=by
 unfold V3;rw[rM];exact fun k hk=>h k (List.mem_range.1 hk)
def woR (b:Bk)(bad:List Int)(r:AV)(B:List (Site×aJ)):Prop:=
 (b.fault≠0/\r=.pv (.bN [.eX,.i b.fault])/\B=[])\/
 (b.fault=0/\V3 bad=false/\r=.pv (.bN [.eX,.i 2])/\B=[])\/
 (b.fault=0/\V3 bad=true/\∃es,xJ b es/\r=.bN [.ptr (.ret 0) 0,.pv (.i 0)]/\B=[(.ret 0,.cells (aX b (.ret 1) (gD bad))),(.ret 1,.map es)])
def Jo (b:Bk)(bad:List Int)(es:List (PV×PV))(k:Nat):AS:=⟨[(1,.pv (.aF false 1 (bad.map aO))),(6,.ptr (.loc 12 0) 0),(18,.pv (.aF false 1 (bad.map aO))),(19,.pv (.i bad.length)),(20,.pv (.i k))],
 [(.loc 12 0,.cells (aX b (.loc 12 1) (gD (bad.take k)))),(.loc 12 1,.map es)]⟩
theorem LY {a b c d:AV}{Z:List AV}{n:Nat}:(a::b::c::d::Z).take (4+n)=a::b::c::d::Z.take n:=by rw[Nat.add_comm];rfl
theorem OB {b c d:AV}{Z:List AV}{n:Nat}:(b::c::d::Z).drop (4+n)=Z.drop (n+1):=by rw[Nat.add_comm];rfl
theorem Zm1 {Z:List AV}{n:Nat}{v:AV}(h:n<Z.length):Z.take n++v::Z.drop (n+1)=Z.set n v:=by rw[List.set_eq_take_append_cons_drop,if_pos h]
attribute [local simp] AS.exp jY aJ.iX AV.map AV.iT dO Site.uS aJ.dC AV.dC AV.hZ cT AS.lX fB gI cA pD kF mT gK w9
theorem Zms (b:Bk)(hi:b.items.length<=1000)(hc:b.aA.length<=1000)(bad:List Int)(wM:bad.length<=1000):cU prog 48 [.pv b.pv,.pv (.aF false 1 (bad.map aO))] [] (woR b bad):=by
 have hr:=Zip b hi hc;refine cE L48 ?_;generalize hR:woR b bad=R;simp[L48,Bk.pv];refine cL [.pv b.pv] [] 12 [] rfl hr ?_
 rintro r0 B0 (⟨h0,rfl,rfl⟩|⟨h0,es,lE,rfl,rfl⟩)
 .refine⟨rfl,by simp,?_⟩;have hd:decide (b.fault=0)=false:=by simpa using h0
  simp[-decide_eq_true_eq,-decide_eq_false_iff_not,hd];refine⟨[],?_⟩;simp[aT,rN];rw[<-hR];exact .inl ⟨h0,rfl,rfl⟩
 refine⟨rfl,by simp[aX,HA,J0],?_⟩;simp[aX,HA,W3];refine eP (fun n τ=>∃k:Nat,k<=bad.length/\n=bad.length-k/\(∀j,j<k->C4 bad j=true)/\τ=Jo b bad es k) ⟨bad.length,Jo b bad es 0,Sub.mk (by simp) (by simp[aX]),0,gW _,rfl,(fun j hj=>by omega),rfl⟩ ?_;rintro J hJ n τ ⟨k,hk,rfl,hinv,rfl⟩;by_cases aI:k<bad.length
 .obtain⟨x,hx⟩:∃x,bad[k]?=some x:=⟨bad[k],bC aI⟩;have oT:(bad.map aO)[k]?=some (.i x):=by rw[bY,hx];rfl
  have hw:=bK (k:=k) (by omega);have aH:bad.length-(k+1)<bad.length-k:=by omega
  have dD:C4 bad k=(jD x 1 999&&(decide (k=0)||decide ((bad[k-1]?).getD 0<x))):=by unfold C4;rw[hx]
  have herr:C4 bad k=false->∃outs,aT outs [.tm 4,.tm 5] R ⟨[(5,.pv (.i 2)),(4,.pv .eX)],[]⟩:=fun h=>⟨[],by
   simp[aT,rN];rw[<-hR];exact .inr (.inl ⟨h0,Zj8 aI h,rfl,rfl⟩)⟩
  have qV:=ZkQ x;have jF:decide ((k:Int)<(bad.length:Int))=true:=by simp;omega
  simp[-decide_eq_true_eq,-decide_eq_false_iff_not,Jo,aX,aI,↓oT];refine cG [.i x] qV ?_;cases e1:jD x 1 999
  .rw[e1,Bool.false_and]at dD;simp[-decide_eq_true_eq,-decide_eq_false_iff_not];refine⟨[],?_⟩;simp[aT,rN];rw[<-hR];exact .inr (.inl ⟨h0,Zj8 aI dD,rfl,rfl⟩)
  rw[e1,Bool.true_and]at dD;have Z1:1<=x/\x<=999:=by unfold jD at e1;simp only[dK,decide_eq_true_eq]at e1;exact e1
  obtain⟨nn,rfl⟩:∃nn:Nat,x=nn:=⟨x.toNat,by omega⟩;have M6:nn<1000:=by omega
  have jQ:=Zra (l:=bad.take k) M6;have jX:bad.take (k+1)=bad.take k++[(nn:Int)]:=by rw[mV,hx];rfl
  rw[<-jX,<-Zm1 (by rw[ZhZ];exact M6)]at jQ;have hle:4+nn<=1003:=by omega
  have aB:=fun h:C4 bad k=true=>hJ _ _ ⟨k+1,aI,rfl,(fun j hj=>by
   rcases Nat.lt_succ_iff_lt_or_eq.1 hj with h'|h'
   .exact hinv j h'
   .subst h';exact h),rfl⟩
  by_cases hz:k=0
  .have aB:=aB (by rw[dD,hz];rfl);subst hz;have H0:IntKind.i64.wrap 1=1:=rfl;simp only[List.take_zero,sF]at jQ;simp[H0,-decide_eq_true_eq,-decide_eq_false_iff_not,bV,aN,M6,LY,OB,hle,jQ,ZhZ];exact⟨_,_,aH,Sub.mk (by simp) (by simp[aX]),aB⟩
  .obtain⟨j,DI⟩:∃j,j+1=k:=⟨k-1,by omega⟩;obtain⟨y,hy⟩:∃y,bad[j]?=some y:=⟨bad[j]'(by omega),bC _⟩;have IZ:(bad.map aO)[j]?=some (.i y):=by rw[bY,hy];rfl
   have qD:IntKind.i64.wrap ((k:Int)-1)=(j:Int):=by rw[wrap64 (by omega)];omega
   have IL:decide ((0:Int)<(k:Int))=true:=by simp;omega
   have M3:0<k:=by omega
   have xP:j<bad.length:=by omega
   have Cc:C4 bad k=decide (y<(nn:Int)):=by
    rw[dD,show k-1=j by omega,hy,decide_eq_false hz,Bool.false_or];rfl
   cases e2:decide (y<(nn:Int))
   .have e3:decide ((nn:Int)<=y)=true:=by simp at e2 ⊢;omega
    simp[-decide_eq_true_eq,-decide_eq_false_iff_not,M3,qD,↓IZ,e3];refine⟨[],?_⟩;simp[aT,rN];rw[<-hR];exact .inr (.inl ⟨h0,Zj8 aI (by rw[Cc,e2]),rfl,rfl⟩)
   .have e3:decide ((nn:Int)<=y)=false:=by simp at e2 ⊢;omega
    have aB:=aB (by rw[Cc,e2]);simp[-decide_eq_true_eq,-decide_eq_false_iff_not,M3,qD,↓IZ,e3,hw,bV,aN,M6,LY,OB,hle,jQ,ZhZ];exact⟨_,_,aH,Sub.mk (by simp) (by simp[aX]),aB⟩
 .have he:k=bad.length:=by omega
  subst he;clear hJ;simp[Jo,aX];refine⟨[.loc 12 0,.loc 12 1],?_⟩;simp[aT,rN,J0,W3];rw[<-hR];refine .inr (.inr ⟨h0,Zrm hinv,es,lE,rfl,?_⟩);simp[aX]
end
theorem ZjU (l:List Int)(h0:l≠[])(hl:l.length<=1000000):cU prog 51 [.pv (.aF false 1 (l.map aO))] [] (fun r B=>r=.vec (.ret 0) 1 0 l.length/\B=[(.ret 0,.arr 3 1 (l.map aO))]):=by
 refine cB [.loc 7 0] L51 ?_;cases l with
 |nil=>exact absurd rfl h0
 |cons a l=>
  have h1:l.length+1<=1000000:=by simpa using hl
  have hm:(l.map aO).take l.length=l.map aO:=fQ (by simp);simp[L51,dI,aN,h1,aT,rN,AS.exp,jY,aJ.iX,AV.map,dO,Site.uS,aJ.dC,AV.dC,w9]
attribute [simp] oL aY AS.cJ AV.cJ AV.aY aJ.cJ AS.tidy AS.j7
theorem ZqQ:aC prog 51 [.aF false 1 []] (.aF false 1 []):=by
 refine cU.j5 ?_;refine cF [.loc 7 0] L51 ?_;simp[L51,dI,y8,aN,cC,B9];exact fun m v h=>BF h
theorem Zqk {X:List Int}{w:Nat}{r:Int}:(X.map aO).set w (.i r)=(X.set w r).map aO:=by rw[List.map_set];rfl
theorem Zga {α:Type}{l:List α}{k:Nat}{x:α}{p:α->Bool}(h:l[k]?=some x)(hp:p x=true)(hinv:∀(j:Nat) (y:α),j<k->l[j]?=some y->p y=false):l.findIdx? p=some k:=by
 obtain⟨aI,e⟩:=cD.1 h;rw[JY];refine⟨aI,by rw[e];exact hp,fun j hj=>?_⟩
 have:=hinv j l[j] hj (bC (by omega))
 simp[this]
theorem ZjL {α:Type}{l:List α}{p:α->Bool}(hinv:∀(j:Nat) (y:α),j<l.length->l[j]?=some y->p y=false):l.findIdx? p=none:=by
 rw[List.findIdx?_eq_none_iff];intro x hx;obtain⟨j,hj⟩:=iO.1 hx;exact hinv j x (cD.1 hj).1 hj
def G9:Option Nat->Int
 |some i=>i
 |none=>-1
theorem ZiQ {α:Type}{l:List α}{p:α->Bool}{i:Nat}(h:l.findIdx? p=some i):i<l.length/\l.take i=(l.take (i+1)).filter (fun n=>!p n):=by
 obtain⟨h1,h2,h3⟩:=JY.1 h;refine⟨h1,?_⟩;rw[mV,bC h1,I2];have e:(Option.some l[i]).toList.filter (fun n=>!p n)=[]:=by simp[h2]
 rw[e,xC,List.filter_eq_self.2];intro x hx;obtain⟨j,hj⟩:=iO.1 hx;rw[mH]at hj;split at hj
 .rename_i zU;obtain⟨q1,q2⟩:=cD.1 hj
  have:=h3 j zU
  rw[q2]at this;simpa using this
 .cases hj
theorem Zgc {α:Type}{l:List α}{p:α->Bool}(h:l.findIdx? p=none):l.filter (fun n=>!p n)=l:=by
 rw[List.filter_eq_self];intro x hx
 have:=List.findIdx?_eq_none_iff.1 h x hx
 simp[this]
def eU (hs:List (PV×PV))(m:Nat):List aJ:=[.cells [.mp (.par (m+1))],.map hs]
theorem MF (H:Int->Bool)(hs:List (PV×PV))(hH:mY H hs)(n:Int)(_:True):cU prog 52 [.pv (.i n),.ptr (.par 0) 0] (laid 0 (eU hs 0)) (fun r B=>r=.pv (.bool (!H n))/\B=laid 0 (eU hs 0)):=by
 have hf:=hH.f n;have hk:=hH.k;refine cB [.par 0,.par 1] L52 ?_;simp[L52,eU,laid,hf,hk]
theorem ixH (H:Int->Bool)(hs:List (PV×PV))(hH:mY H hs)(l:List Int)(hl:l.length<=1000)(gB:∀n∈l,True):
  cU prog 90 [.vec (.par 0) 1 0 l.length,(.fn 52 [] [.ptr (.par 1) 0])] (laid 0 (.arr 3 1 (l.map aO)::eU hs 1)) (fun x B=>x=.pv (.i (G9 (l.findIdx? (fun n=>!H n))))/\B=laid 0 (.arr 3 1 (l.map aO)::eU hs 1)):=by
 refine O2 [.par 0,.par 1,.par 2] L90 ?_;intro R hR;simp[L90,eU,laid];refine eP (fun n τ=>∃k:Nat,k<=l.length/\n=l.length-k/\(∀(j:Nat) (y:Int),j<k->l[j]?=some y->(fun n=>!H n) y=false)/\τ=⟨[(0,.vec (.par 0) 1 0 l.length),(1,(.fn 52 [] [.ptr (.par 1) 0])),(7,.pv (.i l.length)),(8,.pv (.i k))],laid 0 (.arr 3 1 (l.map aO)::eU hs 1)⟩)
  ⟨l.length,⟨[(0,.vec (.par 0) 1 0 l.length),(1,(.fn 52 [] [.ptr (.par 1) 0])),(7,.pv (.i l.length)),(8,.pv (.i 0))],laid 0 (.arr 3 1 (l.map aO)::eU hs 1)⟩,Sub.mk (by simp) (by simp[eU,laid]),0,gW _,rfl,(fun j y hj=>by omega),rfl⟩ ?_
 rintro J hJ n τ ⟨k,hk,rfl,hinv,rfl⟩;by_cases aI:k<l.length
 .obtain⟨r,hx⟩:∃x,l[k]?=some x:=⟨l[k],bC aI⟩;have hg:(l.map aO)[k]?=some (.i r):=by rw[bY,hx];rfl
  have hw:=bK (k:=k) (by omega);have aH:l.length-(k+1)<l.length-k:=by omega
  have hC:=MF H hs hH r (gB r (dL hx));have eK:(fun n=>!H n) r=false->J (l.length-(k+1)) _:=fun hn=>hJ _ _ ⟨k+1,aI,rfl,(fun j y hj hy=>by
   rcases Nat.lt_succ_iff_lt_or_eq.1 hj with h|h
   .exact hinv j y h hy
   .subst h;rw[hx]at hy;cases hy;exact hn),rfl⟩
  clear hJ;simp[eU,laid,aI,↓hg,bV];refine cM [.pv (.i r),.ptr (.par 0) 0] (laid 0 (eU hs 0)) 16 [.par 1,.par 2] (by simp[eU,laid]) hC (by simp[eU,laid]) ?_;cases yS:(fun n=>!H n) r with
  |false=>
   have aB:=eK yS;have U0:(!H r)=false:=yS;simp[eU,laid,hw,U0];refine⟨_,_,aH,Sub.mk ?_ ?_,aB⟩
   .simp
   .simp[eU,laid]
  |true=>
   have hf:=Zga hx yS hinv;have U0:(!H r)=true:=yS;simp[eU,laid,U0];rw[<-hR,hf];simp[eU,laid,G9]
 .have he:k=l.length:=by omega
  subst he;have hf:=ZjL hinv;clear hJ;simp[eU,laid];rw[<-hR,hf];simp[eU,laid,G9]
theorem Xp (H:Int->Bool)(hs:List (PV×PV))(hH:mY H hs)(l:List Int)(hl:l.length<=1000)(gB:∀n∈l,True):
  cU prog 50 [.vec (.par 0) 1 0 l.length,(.fn 52 [] [.ptr (.par 1) 0])] (laid 0 (.arr 3 1 (l.map aO)::eU hs 1)) (fun x B=>x=.vec (.par 0) 1 0 (l.filter (fun n=>!(fun n=>!H n) n)).length/\∃X:List Int,X.take (l.filter (fun n=>!(fun n=>!H n) n)).length=l.filter (fun n=>!(fun n=>!H n) n)/\B=laid 0 (.arr 3 1 (X.map aO)::eU hs 1)):=by
 have hC:=ixH H hs hH l hl gB;refine O2 [.par 0,.par 1,.par 2] L50 ?_;intro R hR;simp[L50,eU,laid];refine cM [.vec (.par 0) 1 0 l.length,(.fn 52 [] [.ptr (.par 1) 0])] (laid 0 (.arr 3 1 (l.map aO)::eU hs 1)) 10 [.par 0,.par 1,.par 2] (by simp[eU,laid]) hC (by simp[eU,laid]) ?_;cases hx:l.findIdx? (fun n=>!H n)with
 |none=>
  have qI:=Zgc hx;simp[eU,laid,G9];rw[<-hR,qI];exact⟨rfl,l,by simp,by simp[eU,laid]⟩
 |some i=>
  obtain⟨hi,QJ⟩:=ZiQ hx;have qD:=bK (k:=i) (by omega);have M7:¬((i:Int) = -1):=by omega
  clear hC;simp[eU,laid,G9,qD,M7];refine eP (fun n τ=>∃(j:Nat) (X K:List Int),j<=l.length/\n=l.length-j/\X.length=l.length/\K=(l.take j).filter (fun n=>!(fun n=>!H n) n)/\X.take K.length=K/\X.drop j=l.drop j/\K.length<j/\τ=⟨[(0,.vec (.par 0) 1 0 l.length),(1,(.fn 52 [] [.ptr (.par 1) 0])),(5,.pv (.i K.length)),(6,.pv (.i j))],laid 0 (.arr 3 1 (X.map aO)::eU hs 1)⟩)
   ⟨l.length-(i+1),⟨[(0,.vec (.par 0) 1 0 l.length),(1,(.fn 52 [] [.ptr (.par 1) 0])),(5,.pv (.i i)),(6,.pv (.i (i+1:Nat)))],laid 0 (.arr 3 1 (l.map aO)::eU hs 1)⟩,Sub.mk (by simp) (by simp[eU,laid]),i+1,l,l.take i,by omega,rfl,rfl,QJ,by simp,rfl,by rw[gM];omega,by rw[gM,Nat.min_eq_left (by omega)]⟩ ?_
  clear hx qD M7 QJ;rintro J hJ n τ ⟨j,X,K,hj,rfl,H8,SL,AP,NS,hKj,rfl⟩;by_cases aI:j<l.length
  .obtain⟨r,tM⟩:∃x,l[j]?=some x:=⟨l[j],bC aI⟩;have Dy:X[j]?=some r:=by
    have h1:(X.drop j)[0]?=(l.drop j)[0]?:=by rw[NS]
    rw[mW,mW,Nat.add_zero]at h1;rw[h1];exact tM
   have hg:(X.map aO)[j]?=some (.i r):=by rw[bY,Dy];rfl
   have hw:=bK (k:=j) (by omega);have sY:=bK (k:=K.length) (by omega);have aH:l.length-(j+1)<l.length-j:=by omega
   have hC:=MF H hs hH r (gB r (dL tM));have s7:X.drop (j+1)=l.drop (j+1):=by
    have:=congrArg List.tail NS
    simpa[List.tail_drop]using this
   have NU:K.length<X.length:=by omega
   have ID:(l.take (j+1)).filter (fun n=>!(fun n=>!H n) n)=K++(if(!(fun n=>!H n) r)=true then[r]else[]):=by
    rw[mV,tM,I2,<-SL];congr 1;simp only[Option.toList,xT,List.filter_nil]
   have jQ:∀Y,Y=X.set K.length r->(fun n=>!H n) r=false->J (l.length-(j+1)) ⟨[(0,.vec (.par 0) 1 0 l.length),(1,(.fn 52 [] [.ptr (.par 1) 0])),(5,.pv (.i (K.length+1:Nat))),(6,.pv (.i (j+1:Nat)))],laid 0 (.arr 3 1 (Y.map aO)::eU hs 1)⟩:=fun Y hY hn=>hJ _ _ ⟨j+1,Y,K++[r],aI,rfl,by rw[hY,List.length_set];exact H8,by rw[ID,if_pos (by simp[hn])],by
    rw[hY,gF];show List.take (K.length+1) _=_;rw[mV,O6 NU,List.take_set_of_le (fH _),AP];rfl,by rw[hY,List.drop_set_of_lt (by omega)];exact s7,by simp;omega,by simp⟩
   have DK:(fun n=>!H n) r=true->J (l.length-(j+1)) ⟨[(0,.vec (.par 0) 1 0 l.length),(1,(.fn 52 [] [.ptr (.par 1) 0])),(5,.pv (.i K.length)),(6,.pv (.i (j+1:Nat)))],laid 0 (.arr 3 1 (X.map aO)::eU hs 1)⟩:=fun hn=>hJ _ _ ⟨j+1,X,K,aI,rfl,H8,by rw[ID,if_neg (by simp[hn]),xC],AP,s7,by omega,rfl⟩
   clear hJ;have Ed:K.length<l.length:=by omega
   have kN:j<X.length:=by omega
   have Ec:(X.map aO)[K.length]?=some (.i X[K.length]):=by rw[bY,bC NU];rfl
   have bS:=Zqk (X:=X) (w:=K.length) (r:=r);simp[eU,laid,aI,↓hg,bV];refine cM [.pv (.i r),.ptr (.par 0) 0] (laid 0 (eU hs 0)) 28 [.par 1,.par 2] (by simp[eU,laid]) hC (by simp[eU,laid]) ?_;cases yS:(fun n=>!H n) r with
   |false=>
    have aB:=jQ _ rfl yS;have U0:(!H r)=false:=yS;simp[eU,laid,U0,hw,sY,Ed,↓Ec,bS,bV,aN,setAt];refine⟨_,_,aH,Sub.mk ?_ ?_,aB⟩
    .simp
    .simp[eU,laid]
   |true=>
    have aB:=DK yS;have U0:(!H r)=true:=yS;simp[eU,laid,U0,hw];refine⟨_,_,aH,Sub.mk ?_ ?_,aB⟩
    .simp
    .simp[eU,laid]
  .have he:j=l.length:=by omega
   subst he;rw[nD]at SL;clear hJ;have SM:K.length<=l.length:=by omega
   have JK:K.length+(l.length-K.length)=l.length:=by omega
   have jP:aR (X.map aO) K.length (List.replicate (l.length-K.length) (PV.i 0))=(K++List.replicate (l.length-K.length) 0).map aO:=by
    unfold aR;rw[List.length_replicate,JK,List.drop_eq_nil_of_le (by simp;omega),xC,<-List.map_take,AP,mL,List.map_replicate];rfl
   simp[-aR,eU,laid,aN,SM,JK,H8,jP];rw[<-hR,<-SL];exact⟨rfl,K++List.replicate (l.length-K.length) 0,by simp,by simp[eU,laid]⟩
theorem Ev (hs:List (PV×PV)):cU prog 50 [.pv (.aF false 1 []),(.fn 52 [] [.ptr (.par 0) 0])] (laid 0 (eU hs 0)) (fun x B=>x=.pv (.aF false 1 [])/\B=laid 0 (eU hs 0)):=by
 have hC:cU prog 90 [.pv (.aF false 1 []),(.fn 52 [] [.ptr (.par 0) 0])] (laid 0 (eU hs 0)) (fun x B=>x=.pv (.i (-1))/\B=laid 0 (eU hs 0)):=by
  refine cB [.par 0,.par 1] L90 ?_;simp[L90,eU,laid];refine eP (fun n τ=>n=0/\τ=⟨[(0,.pv (.aF false 1 [])),(1,(.fn 52 [] [.ptr (.par 0) 0])),(7,.pv (.i 0)),(8,.pv (.i 0))],laid 0 (eU hs 0)⟩) ⟨0,⟨[(0,.pv (.aF false 1 [])),(1,(.fn 52 [] [.ptr (.par 0) 0])),(7,.pv (.i 0)),(8,.pv (.i 0))],laid 0 (eU hs 0)⟩,Sub.mk (by simp) (by simp[eU,laid]),rfl,rfl⟩ ?_;rintro J hJ n τ ⟨rfl,rfl⟩;simp[eU,laid]
 refine cB [.par 0,.par 1] L50 ?_;simp[L50,eU,laid];refine cM [.pv (.aF false 1 []),(.fn 52 [] [.ptr (.par 0) 0])] (laid 0 (eU hs 0)) 10 [.par 0,.par 1] (by simp[eU,laid]) hC (by simp[eU,laid]) ?_;simp[eU,laid]
inductive eT|num (d:Int)|wk (a b c d e:PV)
def eT.b:eT->Nat->List aJ
 |.num d,_=>[.cells [.pv (.i d)]]
 |.wk a b c d e,m=>[.cells [.ptr (.par (m+1)) 0],.cells [.pv a,.pv b,.pv c,.pv d,.pv e]]
def eT.s:eT->List Site
 |.num _=>[.par 1]
 |.wk ..=>[.par 1,.par 2]
theorem ZtX {X:List Ct}{w:Nat}{r:Ct}:(X.map Ct.pv).set w r.pv=(X.set w r).map Ct.pv:=by rw[List.map_set]
def Jk:Ct:=⟨0,0,0,0,0,⟨0,0⟩⟩
theorem ixE {g:FuncId}{q:Ct->Bool}(E:eT)(hp:∀x:Ct,cU prog g [.pv x.pv,.ptr (.par 0) 0] (laid 0 (E.b 0)) (fun r B=>r=.pv (.bool (q x))/\B=laid 0 (E.b 0)))(l:List Ct)(hl:l.length<=1000):
  cU prog 91 [.vec (.par 0) 7 0 l.length,(.fn g [] [.ptr (.par 1) 0])] (laid 0 (.arr 131 7 (l.map Ct.pv)::E.b 1)) (fun x B=>x=.pv (.i (G9 (l.findIdx? q)))/\B=laid 0 (.arr 131 7 (l.map Ct.pv)::E.b 1)):=by
 obtain⟨d,hE⟩|⟨a,b,c,d,e,hE⟩:(∃d,E=.num d)\/∃a b c d e,E=.wk a b c d e:=by cases E<;>simp
 all_goals
  refine Qj (.par 0::E.s) mixed L91_ok (tR rfl) ?_;generalize hR:(fun(x:AV) (B:List (Site×aJ))=>x=.pv (.i (G9 (l.findIdx? q)))/\B=laid 0 (.arr 131 7 (l.map Ct.pv)::E.b 1))=R;simp[L91,hE,eT.b,eT.s,laid];refine eP (fun n τ=>∃k:Nat,k<=l.length/\n=l.length-k/\(∀(j:Nat) (y:Ct),j<k->l[j]?=some y->q y=false)/\τ=⟨[(0,.vec (.par 0) 7 0 l.length),(1,(.fn g [] [.ptr (.par 1) 0])),(7,.pv (.i l.length)),(8,.pv (.i k))],laid 0 (.arr 131 7 (l.map Ct.pv)::E.b 1)⟩)
   ⟨l.length,⟨[(0,.vec (.par 0) 7 0 l.length),(1,(.fn g [] [.ptr (.par 1) 0])),(7,.pv (.i l.length)),(8,.pv (.i 0))],laid 0 (.arr 131 7 (l.map Ct.pv)::E.b 1)⟩,Sub.mk (by simp) (by simp[hE,eT.b,eT.s,laid]),0,gW _,rfl,(fun j y hj=>by omega),rfl⟩ ?_
  rintro J hJ n τ ⟨k,hk,rfl,hinv,rfl⟩;by_cases aI:k<l.length
  .obtain⟨r,hx⟩:∃x,l[k]?=some x:=⟨l[k],bC aI⟩;have hg:(l.map Ct.pv)[k]?=some r.pv:=by rw[bY,hx];rfl
   simp only[Ct.pv]at hg;have hw:=bK (k:=k) (by omega);have aH:l.length-(k+1)<l.length-k:=by omega
   have hC:=hp r;have eK:q r=false->J (l.length-(k+1)) _:=fun hn=>hJ _ _ ⟨k+1,aI,rfl,(fun j y hj hy=>by
    rcases Nat.lt_succ_iff_lt_or_eq.1 hj with h|h
    .exact hinv j y h hy
    .subst h;rw[hx]at hy;cases hy;exact hn),rfl⟩
   clear hJ;simp[hE,eT.b,eT.s,laid,aI,↓hg,bV,aN];refine xU (gG:=[.pv r.pv,.ptr (.par 0) 0]) (B:=laid 0 (E.b 0)) (fs:=[]) (cs:=[.ptr (.par 1) 0]) 16 E.s ?_ (by simp only[hE];rfl) (by simp only[hE];rfl) ?_ ?_ ?_ hC ?_
   ·(try simp only[hE]);rfl
   .simp[hE,eT.b,eT.s,laid]
   ·(try simp only[hE]);rfl
   ·(try simp only[hE]);rfl
   rintro r0 B0 ⟨rfl,rfl⟩;refine⟨rfl,by simp[hE,eT.b,eT.s,laid],?_⟩;cases yS:q r with
   |false=>
    have aB:=eK yS;simp[hE,eT.b,eT.s,laid,hw];refine⟨_,_,aH,Sub.mk ?_ ?_,aB⟩
    .simp
    .simp[hE,eT.b,eT.s,laid]
   |true=>
    have hf:=Zga hx yS hinv;simp[hE,eT.b,eT.s,laid];rw[<-hR,hf];simp[hE,eT.b,eT.s,laid,G9]
  .have he:k=l.length:=by omega
   subst he;have hf:=ZjL hinv;clear hJ;simp[hE,eT.b,eT.s,laid];rw[<-hR,hf];simp[hE,eT.b,eT.s,laid,G9]
theorem Eu {g:FuncId}{q:Ct->Bool}(E:eT)(hp:∀x:Ct,cU prog g [.pv x.pv,.ptr (.par 0) 0] (laid 0 (E.b 0)) (fun r B=>r=.pv (.bool (q x))/\B=laid 0 (E.b 0)))(l:List Ct)(hl:l.length<=1000):
  cU prog 53 [.vec (.par 0) 7 0 l.length,(.fn g [] [.ptr (.par 1) 0])] (laid 0 (.arr 131 7 (l.map Ct.pv)::E.b 1)) (fun x B=>x=.vec (.par 0) 7 0 (l.filter (fun n=>!q n)).length/\∃X:List Ct,X.take (l.filter (fun n=>!q n)).length=l.filter (fun n=>!q n)/\B=laid 0 (.arr 131 7 (X.map Ct.pv)::E.b 1)):=by
 obtain⟨d,hE⟩|⟨a,b,c,d,e,hE⟩:(∃d,E=.num d)\/∃a b c d e,E=.wk a b c d e:=by cases E<;>simp
 all_goals
  have hC:=ixE E hp l hl;refine Qj (.par 0::E.s) mixed L53_ok (tR rfl) ?_;generalize hR:(fun(x:AV) (B:List (Site×aJ))=>x=.vec (.par 0) 7 0 (l.filter (fun n=>!q n)).length/\∃X:List Ct,X.take (l.filter (fun n=>!q n)).length=l.filter (fun n=>!q n)/\B=laid 0 (.arr 131 7 (X.map Ct.pv)::E.b 1))=R;simp[L53,hE,eT.b,eT.s,laid];refine xU (gG:=[.vec (.par 0) 7 0 l.length,(.fn g [] [.ptr (.par 1) 0])]) (B:=laid 0 (.arr 131 7 (l.map Ct.pv)::E.b 1)) (fs:=[]) (cs:=[]) 10 (.par 0::E.s) ?_ (by simp only[hE];rfl) (by simp only[hE];rfl) ?_ ?_ ?_ hC ?_
  ·(try simp only[hE]);rfl
  .simp[hE,eT.b,eT.s,laid]
  ·(try simp only[hE]);rfl
  ·(try simp only[hE]);rfl
  rintro r0 B0 ⟨rfl,rfl⟩;refine⟨rfl,by simp[hE,eT.b,eT.s,laid],?_⟩;cases hx:l.findIdx? q with
  |none=>
   have qI:=Zgc hx;simp[hE,eT.b,eT.s,laid,G9];rw[<-hR,qI];exact⟨rfl,l,by simp,by simp[hE,eT.b,eT.s,laid]⟩
  |some i=>
   obtain⟨hi,QJ⟩:=ZiQ hx;have qD:=bK (k:=i) (by omega);have M7:¬((i:Int) = -1):=by omega
   clear hC;simp[hE,eT.b,eT.s,laid,G9,qD,M7];refine eP (fun n τ=>∃(j:Nat) (X K:List Ct),j<=l.length/\n=l.length-j/\X.length=l.length/\K=(l.take j).filter (fun n=>!q n)/\X.take K.length=K/\X.drop j=l.drop j/\K.length<j/\τ=⟨[(0,.vec (.par 0) 7 0 l.length),(1,(.fn g [] [.ptr (.par 1) 0])),(5,.pv (.i K.length)),(6,.pv (.i j))],laid 0 (.arr 131 7 (X.map Ct.pv)::E.b 1)⟩)
    ⟨l.length-(i+1),⟨[(0,.vec (.par 0) 7 0 l.length),(1,(.fn g [] [.ptr (.par 1) 0])),(5,.pv (.i i)),(6,.pv (.i (i+1:Nat)))],laid 0 (.arr 131 7 (l.map Ct.pv)::E.b 1)⟩,Sub.mk (by simp) (by simp[hE,eT.b,eT.s,laid]),i+1,l,l.take i,by omega,rfl,rfl,QJ,by simp,rfl,by rw[gM];omega,by rw[gM,Nat.min_eq_left (by omega)]⟩ ?_
   clear hx qD M7 QJ;rintro J hJ n τ ⟨j,X,K,hj,rfl,H8,SL,AP,NS,hKj,rfl⟩;by_cases aI:j<l.length
   .obtain⟨r,tM⟩:∃x,l[j]?=some x:=⟨l[j],bC aI⟩;have Dy:X[j]?=some r:=by
     have h1:(X.drop j)[0]?=(l.drop j)[0]?:=by rw[NS]
     rw[mW,mW,Nat.add_zero]at h1;rw[h1];exact tM
    have hg:(X.map Ct.pv)[j]?=some r.pv:=by rw[bY,Dy];rfl
    simp only[Ct.pv]at hg;have hw:=bK (k:=j) (by omega);have sY:=bK (k:=K.length) (by omega);have aH:l.length-(j+1)<l.length-j:=by omega
    have hC:=hp r;have s7:X.drop (j+1)=l.drop (j+1):=by
     have:=congrArg List.tail NS
     simpa[List.tail_drop]using this
    have NU:K.length<X.length:=by omega
    have ID:(l.take (j+1)).filter (fun n=>!q n)=K++(if(!q r)=true then[r]else[]):=by
     rw[mV,tM,I2,<-SL];congr 1;simp only[Option.toList,xT,List.filter_nil]
    have jQ:∀Y,Y=X.set K.length r->q r=false->J (l.length-(j+1)) ⟨[(0,.vec (.par 0) 7 0 l.length),(1,(.fn g [] [.ptr (.par 1) 0])),(5,.pv (.i (K.length+1:Nat))),(6,.pv (.i (j+1:Nat)))],laid 0 (.arr 131 7 (Y.map Ct.pv)::E.b 1)⟩:=fun Y hY hn=>hJ _ _ ⟨j+1,Y,K++[r],aI,rfl,by rw[hY,List.length_set];exact H8,by rw[ID,if_pos (by simp[hn])],by
     rw[hY,gF];show List.take (K.length+1) _=_;rw[mV,O6 NU,List.take_set_of_le (fH _),AP];rfl,by rw[hY,List.drop_set_of_lt (by omega)];exact s7,by simp;omega,by simp⟩
    have DK:q r=true->J (l.length-(j+1)) ⟨[(0,.vec (.par 0) 7 0 l.length),(1,(.fn g [] [.ptr (.par 1) 0])),(5,.pv (.i K.length)),(6,.pv (.i (j+1:Nat)))],laid 0 (.arr 131 7 (X.map Ct.pv)::E.b 1)⟩:=fun hn=>hJ _ _ ⟨j+1,X,K,aI,rfl,H8,by rw[ID,if_neg (by simp[hn]),xC],AP,s7,by omega,rfl⟩
    clear hJ;have Ed:K.length<l.length:=by omega
    have kN:j<X.length:=by omega
    have Ec:(X.map Ct.pv)[K.length]?=some X[K.length].pv:=by rw[bY,bC NU];rfl
    have bS:=ZtX (X:=X) (w:=K.length) (r:=r);simp[hE,eT.b,eT.s,laid,aI,↓hg,bV,aN];refine xU (gG:=[.pv r.pv,.ptr (.par 0) 0]) (B:=laid 0 (E.b 0)) (fs:=[]) (cs:=[.ptr (.par 1) 0]) 28 E.s ?_ (by simp only[hE];rfl) (by simp only[hE];rfl) ?_ ?_ ?_ hC ?_
    ·(try simp only[hE]);rfl
    .simp[hE,eT.b,eT.s,laid]
    ·(try simp only[hE]);rfl
    ·(try simp only[hE]);rfl
    rintro r0 B0 ⟨rfl,rfl⟩;refine⟨rfl,by simp[hE,eT.b,eT.s,laid],?_⟩;cases yS:q r with
    |false=>
     have aB:=jQ _ rfl yS;simp[hE,eT.b,eT.s,laid,Ed,↓Ec,bV,aN,setAt];refine⟨_,_,aH,Sub.mk ?_ ?_,aB⟩
     .simp[hw,sY]
     .simp[hE,eT.b,eT.s,laid,Ct.pv]
    |true=>
     have aB:=DK yS;simp[hE,eT.b,eT.s,laid,hw];refine⟨_,_,aH,Sub.mk ?_ ?_,aB⟩
     .simp
     .simp[hE,eT.b,eT.s,laid]
   .have he:j=l.length:=by omega
    subst he;rw[nD]at SL;clear hJ;have SM:K.length<=l.length:=by omega
    have JK:K.length+(l.length-K.length)=l.length:=by omega
    have jP:aR (X.map Ct.pv) K.length (List.replicate (l.length-K.length) Jk.pv)=(K++List.replicate (l.length-K.length) Jk).map Ct.pv:=by
     unfold aR;rw[List.length_replicate,JK,List.drop_eq_nil_of_le (by simp;omega),xC,<-List.map_take,AP,mL,List.map_replicate]
    simp[-aR,hE,eT.b,eT.s,laid,aN,SM,JK,H8];rw[<-hR,<-SL];exact⟨rfl,K++List.replicate (l.length-K.length) Jk,by simp,by
     simp[hE,eT.b,eT.s,laid];rw[<-List.map_take,AP,JK,List.drop_eq_nil_of_le (by simp;omega)];simp[Jk,Ct.pv]⟩
theorem Zqo (l:List Int)(n:Int)(hl:l.length<=1000000):aC prog 92 [.aF false 1 (l.map iP),.i n] (.i (match l.findIdx? (fun y=>decide (n=y))with|some i=>i|none=>-1)):=by
 refine cS L92 ?_;simp[L92];refine eP (fun m τ=>∃k:Nat,k<=l.length/\m=l.length-k/\(∀(j:Nat) (x:Int),j<k->l[j]?=some x->(fun y=>decide (n=y)) x=false)/\τ=⟨[(0,.pv (.aF false 1 (l.map iP))),(1,.pv (.i n)),(7,.pv (.i l.length)),(8,.pv (.i k))],[]⟩)
  ⟨l.length,_,Sub.mk (by simp) (by simp),0,by omega,rfl,(fun j x hj=>by omega),rfl⟩ ?_
 rintro J hJ m τ ⟨k,hk,rfl,hinv,rfl⟩;by_cases aI:k<l.length
 .obtain⟨z,hz⟩:∃x,l[k]?=some x:=⟨l[k],bC aI⟩;have hg:(l.map iP)[k]?=some (.i z):=by rw[bY,hz];rfl
  have hw:IntKind.i64.wrap ((k:Int)+1)=((k+1:Nat):Int):=by rw[wrap64 (by omega)];omega
  by_cases hb:n=z
  .have hf:l.findIdx? (fun y=>decide (n=y))=some k:=Zga hz (by simpa using hb) hinv;simp[aI,↓hg,hb];rw[hb]at hf;rw[hf]
  .simp[aI,↓hg,hb,hw];exact⟨_,_,(by omega:l.length-(k+1)<l.length-k),Sub.mk (by simp) (by simp),hJ _ _ ⟨k+1,by omega,rfl,fun j x hj DG=>by
    rcases Nat.lt_succ_iff_lt_or_eq.1 hj with h|h
    .exact hinv j x h DG
    .subst h;rw[hz]at DG;cases DG;simpa using hb,rfl⟩⟩
 .have he:k=l.length:=by omega
  subst he;have hf:l.findIdx? (fun y=>decide (n=y))=none:=ZjL hinv;simp[hf]
theorem ZtY (l:List Int)(n:Int)(hl:l.length<=1000000):aC prog 56 [.aF false 1 (l.map iP),.i n] (.bool (l.contains n)):=by
 refine cS L56 ?_;simp[L56];refine cG [.aF false 1 (l.map iP),.i n] (Zqo l n hl) ?_;cases h:l.findIdx? (fun y=>decide (n=y))with
 |none=>
  rw[List.findIdx?_eq_none_iff]at h;have hn:n∉l:=fun hm=>by have:=h n hm;simp at this
  simp[hn]
 |some i=>
  obtain⟨h1,h2,_⟩:=JY.1 h;have hm:n∈l:=by
   have:n=l[i]:=by simpa using h2
   rw[this];exact A2 h1
  have h0:(0:Int)<=(i:Int):=by omega
  simp[hm,h0]
def wX (bad:List Int)(x:Ct):Bool:=bad.contains x.num
theorem Ab (a c d e:PV)(bad:List Int)(hb:bad.length<=1000)(x:Ct):cU prog 55 [.pv x.pv,.ptr (.par 0) 0] (laid 0 ((eT.wk a (.aF false 1 (bad.map iP)) c d e).b 0)) (fun r B=>r=.pv (.bool (wX bad x))/\B=laid 0 ((eT.wk a (.aF false 1 (bad.map iP)) c d e).b 0)):=by
 have hc:=ZtY bad x.num (by omega);refine cB [.par 0,.par 1] L55 ?_;simp[L55,eT.b,laid,aP,Ct.pv];refine cG [.aF false 1 (bad.map iP),.i x.num] hc ?_;simp[wX]
theorem Ew (a b c d e:PV):cU prog 53 [.pv (.aF false 7 []),(.fn 55 [] [.ptr (.par 0) 0])] (laid 0 ((eT.wk a b c d e).b 0)) (fun x B=>x=.pv (.aF false 7 [])/\B=laid 0 ((eT.wk a b c d e).b 0)):=by
 have hC:cU prog 91 [.pv (.aF false 7 []),(.fn 55 [] [.ptr (.par 0) 0])] (laid 0 ((eT.wk a b c d e).b 0)) (fun x B=>x=.pv (.i (-1))/\B=laid 0 ((eT.wk a b c d e).b 0)):=by
  refine cB [.par 0,.par 1] L91 ?_;simp[L91,eT.b,laid,aP];refine eP (fun n τ=>n=0/\τ=⟨[(0,.pv (.aF false 7 [])),(1,(.fn 55 [] [.ptr (.par 0) 0])),(7,.pv (.i 0)),(8,.pv (.i 0))],laid 0 ((eT.wk a b c d e).b 0)⟩) ⟨0,⟨[(0,.pv (.aF false 7 [])),(1,(.fn 55 [] [.ptr (.par 0) 0])),(7,.pv (.i 0)),(8,.pv (.i 0))],laid 0 ((eT.wk a b c d e).b 0)⟩,Sub.mk (by simp) (by simp[eT.b,laid,aP]),rfl,rfl⟩ ?_;rintro J hJ n τ ⟨rfl,rfl⟩;simp[eT.b,laid,aP]
 refine cB [.par 0,.par 1] L53 ?_;simp[L53,eT.b,laid,aP];refine cM [.pv (.aF false 7 []),(.fn 55 [] [.ptr (.par 0) 0])] (laid 0 ((eT.wk a b c d e).b 0)) 10 [.par 0,.par 1] (by simp[eT.b,laid,aP]) hC (by simp[eT.b,laid,aP]) ?_;simp[eT.b,laid,aP]
def ZG:Nat->PV->PV->Bool
 |0,_,_=>false
 |n+1,x,y=>match x,y with
  |.emp _,.aF nn _ l=>!nn&&l.isEmpty
  |.agg a,.agg b=>decide (a.length=b.length)&&(a.zip b).all fun p=>ZG n p.1 p.2
  |.bN a,.bN b=>decide (a.length=b.length)&&(a.zip b).all fun p=>ZG n p.1 p.2
  |.aF nn k a,.aF nn' k' b=>decide (nn=nn')&&decide (k=k')&&decide (a.length=b.length)&&(b.all fun c=>decide (c.cells.length=k))&&(a.zip b).all fun p=>(p.1.cells.zip p.2.cells).all fun p=>ZG n p.1 p.2
  |x,y=>PV.beq x y
theorem My {α:Type}{a b:List α}{j:Nat}{x y:α}(h1:a[j]?=some x)(h2:b[j]?=some y):(x,y)∈a.zip b:=by
 refine iO.2 ⟨j,?_⟩;rw[List.getElem?_zip_eq_some];exact⟨h1,h2⟩
theorem LG:∀(n:Nat) (x y:PV),ZG n x y=true->∀(m:Mem) (v:Value),dH m v x->dH m v y
 |0,_,_,h=>by cases h
 |n+1,x,y,h=>by
  intro m v hr;unfold ZG at h;split at h
  .rename_i nl nn k l;simp only[dK,Bool.not_eq_true']at h;obtain⟨h1,h2⟩:=h;cases l with
   |nil=>subst h1;exact BF hr
   |cons a l=>cases h2
  .rename_i a b;simp only[dK,decide_eq_true_eq,rM]at h;exact Zr4 h.1 (fun j c c' d h1 h2 hd=>LG n c c' (h.2 _ (My h1 h2)) m d hd) hr
  .rename_i a b;simp only[dK,decide_eq_true_eq,rM]at h;exact Zs h.1 (fun j c c' d h1 h2 hd=>LG n c c' (h.2 _ (My h1 h2)) m d hd) hr
  .rename_i nn k a nn' k' b;simp only[dK,decide_eq_true_eq,rM]at h;obtain⟨⟨⟨⟨rfl,rfl⟩,h1⟩,h2⟩,h3⟩:=h;exact ZuW h1 (fun j c hc=>h2 c (dL hc)) (fun j c c' i d x x' k1 k2 k3 k4 hd=>LG n x x' (h3 _ (My k1 k2) _ (My k3 k4)) m d hd) hr
  .rename_i x y _ _ _ _;rw[<-PV.beq_eq _ _ h];exact hr
attribute [simp] oL aY AS.cJ AV.cJ AV.aY aJ.cJ AS.tidy AS.j7 aL oK nV iU
def rE:List It:=[⟨0,true,⟨0,0⟩⟩,⟨0,true,⟨-2,2⟩⟩,⟨1,false,⟨0,0⟩⟩,⟨1,false,⟨0,0⟩⟩,⟨0,false,⟨0,0⟩⟩,⟨0,false,⟨0,0⟩⟩]
def XK:PV:=.aF false 1 [.aF false 2 [.agg [.i 10,.i 13]],.aF false 2 []]
theorem ZjB:aC prog 57 [] (aS rE):=by
 refine cF [.loc 8 0] L57 ?_;simp[L57,aS,rE,It.pv]
theorem Zey:aC prog 62 [] XK:=by
 refine cU.j5 ?_;refine cF [.loc 3 0] L62 ?_;simp[L62];exact LG 5 _ _ rfl
theorem Zsd (l:List Ct)(b c d e:PV):cU prog 209 [.ptr (.par 0) 0] [(.par 0,aP (aK l) b c d e)] (fun r B=>r=.pv (Bk.pv ⟨rE,l⟩)/\B=[(.par 0,aP (aK l) b c d e)]):=by
 refine cB [.par 0] L209 ?_;simp[L209,aP,aK];refine cQ [] [] ZjB ?_;simp[Bk.pv,aK,aS]
theorem Znt (l:List PV)(a b c d:PV):cU prog 24 [.ptr (.par 0) 0] [(.par 0,aP a b c d (.aF false 3 l))] (fun r B=>r=.pv (.agg [XK,.aF false 3 l])/\B=[(.par 0,aP a b c d (.aF false 3 l))]):=by
 refine cB [.par 0] L24 ?_;simp[L24,aP];refine cQ [] [] Zey ?_;simp[XK]
section
attribute [local simp] ZaS J0 BH W3
end
section
theorem ZjF {b:Bk}(hb:b.ok){bad:List Int}:b.nums.filter (fun n=>(b.held bad).contains n)=b.held bad:=by
 refine ZjC (UJ.filter _) (ZcT 1000).1 (fun x=>?_);rw[iZ,jI];exact⟨fun h=>h.2,fun h=>⟨Gi hb h,h⟩⟩
attribute [local irreducible] Bk.held Bk.nums
def Bk.KF (b:Bk)(bad:List Int):List Int×Int:=if b.fault=0 then(if V3 bad=true then(b.held bad,0)else([],2))else([],b.fault)
def K2 (x:List Int×Int):PV:=.bN [.aF false 1 (x.1.map aO),.i x.2]
theorem XX {e:Int}{l:List Int×Int}(h:l=([],e)):∀m v,dH m v (.bN [.emp (some true),.i e])->dH m v (K2 l):=by
 subst h;intro m v hv;refine Zs (cs:=[.emp (some true),.i e]) (iM:=[.aF false 1 [],.i e]) rfl ?_ hv;intro j c c' d h1 h2 hr
 match j with
 |0=>simp at h1 h2;subst h1 h2;exact BF hr
 |1=>simp at h1 h2;subst h1 h2;exact hr
 |j+2=>simp at h1
attribute [simp] ZaS J0 BH W3 ZaT
theorem Zvu (b:Bk)(hi:b.items.length<=1000)(hc:b.aA.length<=1000)(bad:List Int)(wM:bad.length<=1000):cU prog 20 [.pv b.pv,.pv (.aF false 1 (bad.map aO))] [] (fun r B=>r=.pv (K2 (b.KF bad))/\B=[]):=by
 have hr:=Zms b hi hc bad wM;refine cU.j5 ?_;refine Q6 [.loc 24 0] L20 ?_;intro R hR;simp[L20,Bk.pv];refine cL [.pv b.pv,.pv (.aF false 1 (bad.map aO))] [] 12 [] rfl hr ?_
 rintro r0 B0 (⟨h0,rfl,rfl⟩|⟨h0,h1,rfl,rfl⟩|⟨h0,h1,es,lE,rfl,rfl⟩)
 .refine⟨rfl,by simp,?_⟩;have hd:decide (b.fault=0)=false:=by simpa using h0
  simp[-decide_eq_true_eq,-decide_eq_false_iff_not,hd];rw[<-hR];exact⟨_,rfl,rfl,XX (by unfold Bk.KF;rw[if_neg h0])⟩
 .refine⟨rfl,by simp,?_⟩;simp;rw[<-hR];exact⟨_,rfl,rfl,XX (by unfold Bk.KF;rw[if_pos h0,if_neg (by simp[h1])])⟩
 have hb:b.ok:=Bk.R6.1 h0;have hM:b.KF bad=(b.held bad,0):=by unfold Bk.KF;rw[if_pos h0,if_pos h1]
 refine⟨rfl,by simp[aX],?_⟩;simp[aX];refine cM [.ptr (.par 0) 0] (laid 0 (kK b bad es)) 19 [.loc 12 0,.loc 12 1] (by simp[laid,kK,aX]) (Zd b hb bad es lE) (by simp[laid,kK,aX]) ?_;have hH:=UL hb bad;have hf:=ZjF hb (bad:=bad);generalize kP b bad b.nums.length=hs at *;simp[laid,kK,aX];by_cases hn:b.nums=[]
 .have Vk:b.held bad=[]:=by rw[<-hf,hn];rfl
  rw[hn];simp only[List.map_nil];refine .inl (cQ [] [.aF false 1 []] ZqQ ?_);simp[aL];refine cM [.pv (.aF false 1 []),.fn 52 [] [.ptr (.par 0) 0]] (laid 0 (eU hs 0)) 26 [.loc 8 0,.loc 19 0] (by simp[laid,eU]) (Ev hs) (by simp[laid,eU]) ?_;simp[laid,eU];rw[<-hR,hM,Vk];exact⟨_,rfl,rfl,fun m v h=>h⟩
 .have hl:=YB (b:=b);refine cM [.pv (.aF false 1 (b.nums.map aO))] [] 24 [] rfl (ZjU b.nums hn (by omega)) (by simp) ?_;simp;refine cL [.vec (.par 0) 1 0 b.nums.length,.fn 52 [] [.ptr (.par 1) 0]] (laid 0 (.arr 3 1 (b.nums.map aO)::eU hs 1)) 26 [.loc 24 0,.loc 8 0,.loc 19 0] (by simp[laid,eU]) (Xp _ hs hH b.nums hl (fun _ _=>trivial)) ?_
  rintro r0 B0 ⟨rfl,X,hX,rfl⟩;have DN:(b.nums.filter fun n=>!(fun n=>!(b.held bad).contains n) n)=b.held bad:=by
   refine Eq.trans (List.filter_congr fun n _=>?_) hf;exact Bool.not_not _
  rw[DN]at hX;simp only[DN];refine⟨rfl,by simp[laid,eU],?_⟩;have WK:(X.map aO).take (b.held bad).length=(b.held bad).map aO:=by rw[<-List.map_take,hX]
  have H8:(b.held bad).length<=X.length:=by
   have:=congrArg List.length hX
   rw[gM]at this;omega
  simp[laid,eU,WK,H8];rw[<-hR,hM];exact⟨_,rfl,rfl,fun m v h=>h⟩
end
section
attribute [local irreducible] Bk.held Bk.nums
theorem Gw {b:Bk}(hb:b.ok):∀n∈b.nums,1<=n/\n<=999:=fun n hn=>by
 obtain⟨c,hc,rfl⟩:=(y9 hb).1 hn
 have:=xE hb hc
 omega
end
section
attribute [local irreducible] Bk.held Bk.nums
theorem Fe:zH prog (pM P4) L120.code:=Hb L120_ok L120_tab
noncomputable def O3 (b:Bk)(bad:List Int)(es hs:List (PV×PV))(is:Bool):List aJ:=[.loop (fX prog 120 0) [49] 61 [(11,.ptr (.par 2) 0),(12,.ptr (.par 1) 0)] none,
 .cells [.pv (.bool is)],.cells [.mp (.par 3)],.map hs,iB (.par 5),.cells (aX b (.par 6) (gD bad)),.map es]
noncomputable def V2 (b:Bk)(bad:List Int)(es hs:List (PV×PV))(H:Int->Bool)(hH:mY H hs):Cons prog where
 m:=7
 S:=Bool
 X:=O3 b bad es hs
 step is x:=(is||H (numOf x),true)
 good x:=∃c:Ct,x=c.pv
 live _:=True
 m0:=by omega
 len _:=rfl
 cl c:=by
  intro bx hb;simp only[O3,jT,List.not_mem_nil,or_false]at hb;rcases hb with rfl|rfl|rfl|rfl|rfl|rfl|rfl
  .rfl
  .rfl
  .rfl
  .rfl
  .rfl
  .simp[aX,Site.lt,J0]
  .rfl
 goes _ _ _ _ _:=trivial
 sV c x hc hx:=by
  obtain⟨y,rfl⟩:=hx;have oW:zH prog (pM P4) (.vM 61 (.t 48) (fX prog 120 0) Y120_0a Y120_0b [49]):=Fe.2.2.2.2.2.2.1.2;have hf:=hH.f y.num;have hk:=hH.k;refine YW mixed oW.1 oW.2.1 rfl rfl (by simp) rfl ?_;cases c
  all_goals
   simp[-getElem?_pos,Y120_0a,Y120_0b,O3,laid,qR,Ct.pv,hk,hf,numOf,iB,aX,BH];exact⟨[],[.par 1,.par 2,.par 3,.par 4,.par 5,.par 6],rfl,rfl,by simp[aY,J0],rfl,by simp[aY,W3]⟩
theorem ZlE {b:Bk}{bad:List Int}{es hs:List (PV×PV)}{H:Int->Bool}{hH:mY H hs}:∀(l:List Ct) (c:Bool),(V2 b bad es hs H hH).run c (lV l)=(c||l.any (fun o=>H o.num),true)
 |[],c=>by
  show(c,true)=_;simp
 |x::l,c=>by
  show(V2 b bad es hs H hH).run (c||H x.num) (lV l)=_;rw[ZlE l,List.any_cons,Bool.or_assoc]
def Bk.qM (b:Bk)(item day:Int):Bool:=(b.item item).gZ||(b.rH item day 1000).any fun o=>(b.held []).contains o.num
def Bk.vD (b:Bk)(item day:Int):Int:=if b.fault=0 then(if(b.uT item&&jD day 0 1000)=true then(if b.qM item day=true then 0 else 10)else 2)else b.fault
def Fl (b:Bk)(item day:Int)(r:AV)(B:List (Site×aJ)):Prop:=
 (b.vD item day≠0/\r=.pv (.bN [.eX,.cV,.i (b.vD item day)])/\B=[])\/
 (b.vD item day=0/\b.fault=0/\b.uT item=true/\jD day 0 1000=true/\b.qM item day=true/\∃es,xJ b es/\r=.bN [.ptr (.ret 0) 0,.mp (.ret 2),.pv (.i 0)]/\B=[(.ret 0,.cells (aX b (.ret 1) (gD []))),(.ret 1,.map es),(.ret 2,.map (kP b [] b.nums.length))])
theorem Zo2 (b:Bk)(hi:b.items.length<=1000)(hc:b.aA.length<=1000)(item day:Int):cU prog 120 [.pv b.pv,.pv (.i item),.pv (.i day)] [] (Fl b item day):=by
 have hr:=Zip b hi hc;refine cE L120 ?_;generalize hR:Fl b item day=R;have vO:∀e,b.vD item day=e->e≠0->R (.pv (.bN [.eX,.cV,.i e])) []:=fun e h h0=>by
  rw[<-hR];exact .inl ⟨by rw[h];exact h0,by rw[h],rfl⟩
 simp[L120,Bk.pv];refine cL [.pv b.pv] [] 16 [] rfl hr ?_
 rintro r0 B0 (⟨h0,rfl,rfl⟩|⟨h0,es,lE,rfl,rfl⟩)
 .refine⟨rfl,by simp,?_⟩;have hd:decide (b.fault=0)=false:=by simpa using h0
  have h2:=vO _ (by unfold Bk.vD;rw[if_neg h0]) h0;simp[-decide_eq_true_eq,-decide_eq_false_iff_not,hd,-aT];exact⟨[],by simpa using h2⟩
 have hb:b.ok:=Bk.R6.1 h0;refine⟨rfl,by simp[aX,HA],?_⟩;simp[aX,HA,-aT];refine cG [b.pv,.i item] (Ze b item hi) ?_;cases e1:b.uT item
 .have h2:=vO 2 (by unfold Bk.vD;rw[if_pos h0,e1];rfl) (by omega);simp[-aT];exact⟨[],by simpa using h2⟩
 simp[-aT];refine cG [.i day] (EB day) ?_;cases e2:jD day 0 1000
 .have h2:=vO 2 (by unfold Bk.vD;rw[if_pos h0,e1,e2];rfl) (by omega);simp[-aT];exact⟨[],by simpa using h2⟩
 simp[-aT];refine cM [.ptr (.par 0) 0] (laid 0 (kK b [] es)) 35 [.loc 16 0,.loc 16 1] (by simp[laid,kK,aX]) (Zd b hb [] es lE) (by simp[laid,kK,aX]) ?_;have hH:=UL hb [];have Tl:b.qM item day=true->R (.bN [.ptr (.ret 0) 0,.mp (.ret 2),.pv (.i 0)]) [(.ret 0,.cells (aX b (.ret 1) (gD []))),(.ret 1,.map es),(.ret 2,.map (kP b [] b.nums.length))]:=fun h=>by
  rw[<-hR];refine .inr ⟨?_,h0,e1,e2,h,es,lE,rfl,rfl⟩;unfold Bk.vD;rw[if_pos h0,e1,e2,if_pos (show(true&&true)=true from rfl),if_pos h]
 have Tm:b.qM item day=false->R (.pv (.bN [.eX,.cV,.i 10])) []:=fun h=>by
  refine vO 10 ?_ (by omega);unfold Bk.vD;rw[if_pos h0,e1,e2,if_pos (show(true&&true)=true from rfl),if_neg (by simp[h])]
 generalize kP b [] b.nums.length=hs at *;have hii:0<=item/\item<b.items.length:=by
  unfold Bk.uT jD at e1;simp only[dK,decide_eq_true_eq]at e1;omega
 obtain⟨si,rfl⟩:∃si:Nat,item=si:=⟨item.toNat,by omega⟩;have M1:si<b.items.length:=by omega
 obtain⟨z,hz⟩:∃z,b.items[si]?=some z:=⟨b.items[si],bC M1⟩;have qF:(b.items.map It.pv)[si]?=some (.agg [.i z.dR,.bool z.gZ,.i z.val.lo,.i z.val.hi]):=by rw[bY,hz];rfl
 have HZ:b.item (si:Int)=z:=by unfold Bk.item;rw[A1,hz];rfl
 have Kz:b.qM si day=(z.gZ||(b.rH si day 1000).any fun o=>(b.held []).contains o.num):=by unfold Bk.qM;rw[HZ]
 have dG:=fun is:Bool=>ZlE (b:=b) (bad:=[]) (es:=es) (hH:=hH) (b.rH si day 1000) is
 have hit:=fun is:Bool=>Gk (V2 b [] es hs _ hH) b hb [] es lE 4 5 6 (fun c _=>⟨rfl,rfl⟩) (fun c _=>rfl) si day 1000 is trivial (fun z hz=>⟨z,rfl⟩)
 simp only[dG]at hit;generalize hAN:((b.rH si day 1000).any fun n=>(b.held []).contains n.num)=an at *;have RJ:=hit z.gZ;clear hit;simp[laid,kK,aX,aS,↓qF,-aT];refine cM [.ptr (.par 0) 0,.pv (.i si),.pv (.i day),.pv (.i 1000)] (laid 0 (kK b [] es)) 48 [.loc 16 0,.loc 16 1] (by simp[laid,kK,aX,aS]) (CE b [] es si day 1000) (by simp[laid,kK,aX]) ?_;simp[laid,kK,aX,PO,-aT];refine YD [.loc 61 0,.loc 12 0,.loc 11 0,.loc 35 0,.loc 48 0,.loc 16 0,.loc 16 1] [(11,.ptr (.loc 11 0) 0),(12,.ptr (.loc 12 0) 0)] (gf:=138) (fs:=[]) (cs:=[.ptr (.loc 48 0) 0,.pv (.ref [.i 1000]),.pv (.ref [.i si]),.pv (.ref [.i day])]) ?_ ?_ rfl rfl ?_ ?_ ?_ RJ ?_
 .rfl
 .simp
 .simp[V2,O3,laid,aX,iB]
 .rfl
 .rfl
 rintro r B' ⟨rfl,rfl⟩;refine⟨rfl,?_,?_⟩
 .exact fun p hp=>XW (n:=7) (L:=O3 b [] es hs (z.gZ||an)) (by simp[O3]) ((V2 b [] es hs _ hH).cl (z.gZ||an)) p hp
 refine⟨_,_,_,_,_,rfl,?_⟩;cases Ee:(z.gZ||an)
 .rw[Ee]at Kz;have h2:=Tm Kz;simp[V2,O3,laid,lB,aX,iB,-aT];exact⟨[],by simpa using h2⟩
 .rw[Ee]at Kz;have h2:=Tl Kz;simp[V2,O3,laid,lB,aX,iB,-aT,Ee];refine⟨[.loc 16 0,.loc 16 1,.loc 35 0],?_⟩;simpa[aX]using h2
end
section
attribute [local irreducible] Bk.held Bk.nums
def gT (b:Bk)(es hs ss:List (PV×PV)):List aJ:=[.cells [.ptr (.par 3) 0,.mp (.par 1),.mp (.par 2)],.map hs,.map ss,.cells (aX b (.par 4) (gD [])),.map es]
theorem Zf5 (b:Bk)(es hs ss:List (PV×PV))(H:Int->Bool)(hH:mY H hs)(c:Ct):cU prog 222 [.ptr (.par 0) 0,.pv c.pv] (laid 0 (gT b es hs ss)) (fun r B=>r=.pv (.bool (H c.num))/\B=laid 0 (gT b es hs ss)):=by
 have hf:=hH.f c.num;have hk:=hH.k;refine cB [.par 0,.par 1,.par 2,.par 3,.par 4] L222 ?_;simp[L222,gT,laid,aX,Ct.pv,hf,hk]
theorem Fc:zH prog (pM P4) L178.code:=Hb L178_ok L178_tab
noncomputable def S6 (b:Bk)(es hs ss:List (PV×PV))(item day:Int)(r:Cr):List aJ:=[.loop (fX prog 178 0) [47] 79 [(4,.ptr (.par 2) 0),(5,.ptr (.par 3) 0),(6,.ptr (.par 4) 0),(9,.ptr (.par 5) 0),(10,.ptr (.par 1) 0)] none,
 .cells [.pv (.i r.lo),.pv (.i r.hi)],.cells [.ptr (.par 6) 0],.cells [.pv (.i item)],.cells [.pv (.i day)],.cells [.fn 222 [.ptr (.par 6) 0] []],
 .cells [.ptr (.par 9) 0,.mp (.par 7),.mp (.par 8)],.map hs,.map ss,.cells (aX b (.par 10) (gD [])),.map es,iB (.par 9)]
def JQ:PV->Ct
 |.agg [.int _ n,.int _ i,.int _ s,.int _ d,.int _ v,.int _ lo,.int _ hi]=>⟨n,i,s,d,v,⟨lo,hi⟩⟩
 |_=>ct0
theorem Gt (c:Ct):JQ c.pv=c:=rfl
def zR:PV:=.agg [.i 0,.i 0]
structure SMap (b:Bk)(S:Int->Cr)(below:Int)(ss:List (PV×PV)):Prop where
 k:A4 kI ss=true
 f:∀c∈b.aA,c.num<below->c.num∈b.held []->(fA (.i c.num) ss).getD zR=(S c.num).pv/\(S c.num).lW 1000000000
def OS (b:Bk)(S:Int->Cr)(item day:Int)(r:Cr)(c:Ct):Cr:=match(b.held []).contains c.num with
 |true=>r.cut ((S c.num).wider ((b.item item).dR*(day-c.day)))
 |false=>r
noncomputable def n8 (b:Bk)(hb:b.ok)(es hs ss:List (PV×PV))(hH:mY (fun n=>(b.held []).contains n) hs)(S:Int->Cr)(si:Nat)(M1:si<b.items.length)(day below:Int)(hd:0<=day/\day<=1000)(hS:SMap b S below ss):Cons prog where
 m:=12
 S:=Cr
 X:=S6 b es hs ss si day
 step r x:=(OS b S si day r (JQ x),true)
 good x:=∃c∈b.rH si day below,x=c.pv
 live _:=True
 m0:=by omega
 len _:=rfl
 cl c:=by
  intro bx hb;simp only[S6,jT,List.not_mem_nil,or_false]at hb;rcases hb with rfl|rfl|rfl|rfl|rfl|rfl|rfl|rfl|rfl|rfl|rfl|rfl
  all_goals first|rfl|simp[aX,Site.lt,J0]
 goes _ _ _ _ _:=trivial
 sV r x hc hx:=by
  obtain⟨y,hy,rfl⟩:=hx;rw[Gt];have oW:zH prog (pM P4) (.vM 79 (.t 46) (fX prog 178 0) Y178_0a Y178_0b [47]):=Fc.2.2.2.2.1.2;have mS:=Zf5 b es hs ss _ hH y;obtain⟨IA,Bc⟩:=(BG hb).1 hy;unfold Bk.qA at Bc;simp only[dK,decide_eq_true_eq]at Bc;have DO:=Zb hb IA Bc.2.2;have jR:=xE hb IA;obtain⟨z,hz⟩:∃z,b.items[si]?=some z:=⟨b.items[si],bC M1⟩;have qF:(b.items.map It.pv)[si]?=some (.agg [.i z.dR,.bool z.gZ,.i z.val.lo,.i z.val.hi]):=by rw[bY,hz];rfl
  have HZ:b.item (si:Int)=z:=by unfold Bk.item;rw[A1,hz];rfl
  rw[Bc.2.1,HZ]at DO;have w1:IntKind.i64.wrap (day-y.day)=day-y.day:=wrap64 (by omega);have w2:IntKind.i64.wrap (z.dR*(day-y.day))=z.dR*(day-y.day):=wrap64 (by omega);have hk:=hS.k;have kG:OS b S si day r y=match(b.held []).contains y.num with
   |true=>r.cut ((S y.num).wider (z.dR*(day-y.day)))
   |false=>r:=by unfold OS;rw[HZ]
  have tA:=fun h:(b.held []).contains y.num=true=>hS.f y IA Bc.1 (jI.1 h)
  rw[kG];obtain⟨far,NI⟩:∃far,z.dR*(day-y.day)=far:=⟨_,rfl⟩;rw[NI]at DO kG;have w2':IntKind.i64.wrap (z.dR*(day-y.day))=far:=w2.trans NI;rw[NI];clear kG w2 NI;generalize DP:(b.held []).contains y.num=v at *;refine YW mixed oW.1 oW.2.1 rfl rfl (by simp) rfl ?_;simp[-getElem?_pos,-List.getElem?_map,Y178_0a,Y178_0b,S6,laid,qR,Ct.pv,iB,aX];refine xU (gG:=[.ptr (.par 0) 0,.pv y.pv]) (B:=laid 0 (gT b es hs ss)) (fs:=[.ptr (.par 6) 0]) (cs:=[]) 50 [.par 6,.par 7,.par 8,.par 9,.par 10] ?_ rfl rfl ?_ ?_ ?_ mS ?_
  .rfl
  .simp[laid,gT,aX]
  .rfl
  .rfl
  rintro r0 B0 ⟨rfl,rfl⟩;refine⟨rfl,by simp[laid,gT,aX],?_⟩;cases v
  .simp[-getElem?_pos,-List.getElem?_map,laid,gT,aX,-aT];exact⟨[],[.par 1,.par 2,.par 3,.par 4,.par 5,.par 6,.par 7,.par 8,.par 9,.par 10,.par 11],rfl,rfl,by simp[aY],rfl,by simp[aY]⟩
  .obtain⟨FQ,rI⟩:=tA rfl;unfold Cr.lW at rI;have hwd:=Zsc (S y.num) far (wrap64 (by omega)) (wrap64 (by omega)) (wrap64 (by omega));have c6:=Ey r ((S y.num).wider far);generalize S y.num=sy at *;unfold zR at FQ;unfold Cr.pv at FQ;simp[-getElem?_pos,-List.getElem?_map,laid,gT,aX,-aT,hk,FQ,aS,qF,w1,w2'];refine cQ [] [sy.pv,.i far] hwd ?_;simp[-getElem?_pos,-List.getElem?_map,aL];refine .inl (cQ [] [r.pv,(sy.wider far).pv] c6 ?_);simp[-getElem?_pos,-List.getElem?_map,aL,Cr.pv];exact⟨[],[.par 1,.par 2,.par 3,.par 4,.par 5,.par 6,.par 7,.par 8,.par 9,.par 10,.par 11],rfl,rfl,by simp[aY],rfl,by simp[aY]⟩
end
section
attribute [local irreducible] Bk.held Bk.nums
theorem Zko {b:Bk}{hb:b.ok}{es hs ss:List (PV×PV)}{hH:mY (fun n=>(b.held []).contains n) hs}{S:Int->Cr}{si:Nat}{M1:si<b.items.length}{day below:Int}{hd:0<=day/\day<=1000}{hS:SMap b S below ss}:∀(l:List Ct) (r:Cr),(n8 b hb es hs ss hH S si M1 day below hd hS).run r (lV l)=(l.foldl (OS b S si day) r,true)
 |[],r=>rfl
 |x::l,r=>by
  show(n8 b hb es hs ss hH S si M1 day below hd hS).run (OS b S si day r x) (lV l)=_;rw[Zko l];rfl
theorem Zie {b:Bk}{S:Int->Cr}{item day:Int}:∀(l:List Ct) (r:Cr),l.foldl (OS b S item day) r=(l.filter fun c=>(b.held []).contains c.num).foldl (fun r c=>r.cut ((S c.num).wider ((b.item item).dR*(day-c.day)))) r
 |[],r=>rfl
 |c::l,r=>by
  rw[List.foldl_cons,Zie l,xT];unfold OS;cases h:(b.held []).contains c.num
  .rfl
  .rfl
theorem Zoj {b:Bk}(hb:b.ok){S:Int->Cr}{item day below:Int}(h:(b.item item).gZ=false):(b.rH item day below).foldl (OS b S item day) I7=b.kJ (b.held []) S item day below:=by
 rw[Zie,Iz h];refine ZqG (fun c=>?_);rw[iZ,iZ,BG hb,dK];exact⟨fun⟨⟨h1,h2⟩,h3⟩=>⟨h1,h2,h3⟩,fun⟨h1,h2,h3⟩=>⟨⟨h1,h2⟩,h3⟩⟩
theorem Zo (b:Bk)(hb:b.ok)(es hs ss:List (PV×PV))(lE:xJ b es)(hH:mY (fun n=>(b.held []).contains n) hs)(S:Int->Cr)(si:Nat)(M1:si<b.items.length)(day below:Int)(hd:0<=day/\day<=1000)(hS:SMap b S below ss):
  cU prog 178 [.ptr (.par 0) 0,.pv (.i si),.pv (.i day),.pv (.i below)] (laid 0 (gT b es hs ss)) (fun r B=>r=.pv (b.kJ (b.held []) S si day below).pv/\B=laid 0 (gT b es hs ss)):=by
 refine O2 [.par 0,.par 1,.par 2,.par 3,.par 4] L178 ?_;intro R hR;obtain⟨z,hz⟩:∃z,b.items[si]?=some z:=⟨b.items[si],bC M1⟩;have qF:(b.items.map It.pv)[si]?=some (.agg [.i z.dR,.bool z.gZ,.i z.val.lo,.i z.val.hi]):=by rw[bY,hz];rfl
 have HZ:b.item (si:Int)=z:=by unfold Bk.item;rw[A1,hz];rfl
 rcases Bool.eq_false_or_eq_true z.gZ with uE|uE
 .have hv:b.kJ (b.held []) S si day below=z.val:=by unfold Bk.kJ;rw[HZ,if_pos uE]
  simp[L178,laid,gT,aX,aS,↓qF,uE,-aT];rw[<-hR,hv];simp[laid,gT,aX,aS,Cr.pv]
 have hv:=Zoj hb (S:=S) (item:=(si:Int)) (day:=day) (below:=below) (by rw[HZ];exact uE);have hit:=Gk (n8 b hb es hs ss hH S si M1 day below hd hS) b hb [] es lE 11 9 10 (fun c _=>⟨rfl,rfl⟩) (fun c _=>rfl) si day below I7 trivial (fun z hz=>⟨z,hz,rfl⟩);rw[Zko,hv]at hit;have gP:=(n8 b hb es hs ss hH S si M1 day below hd hS).cl (b.kJ (b.held []) S si day below);generalize b.kJ (b.held []) S si day below=xI at *;simp[L178,laid,gT,aX,aS,↓qF,uE,-aT];refine .inl (cQ [] [] ZiS ?_);simp[aL,I7,Cr.pv];refine cM [.ptr (.par 0) 0,.pv (.i si),.pv (.i day),.pv (.i below)] (laid 0 (kK b [] es)) 46 [.par 3,.par 4] (by simp[laid,kK,aX,aS]) (CE b [] es si day below) (by simp[laid,kK,aX]) ?_;simp[laid,kK,aX,PO,-aT];refine YD [.loc 79 0,.loc 10 0,.loc 4 0,.loc 5 0,.loc 6 0,.loc 9 0,.par 0,.par 1,.par 2,.par 3,.par 4,.loc 46 0] [(4,.ptr (.loc 4 0) 0),(5,.ptr (.loc 5 0) 0),(6,.ptr (.loc 6 0) 0),(9,.ptr (.loc 9 0) 0),(10,.ptr (.loc 10 0) 0)] (gf:=138) (fs:=[]) (cs:=[.ptr (.loc 46 0) 0,.pv (.ref [.i below]),.pv (.ref [.i si]),.pv (.ref [.i day])]) ?_ ?_ rfl rfl ?_ ?_ ?_ hit ?_
 .rfl
 .simp
 .simp[n8,S6,laid,aX,iB,I7]
 .rfl
 .rfl
 rintro r B' ⟨rfl,rfl⟩;refine⟨rfl,?_,?_⟩
 .exact fun p hp=>XW (n:=12) (L:=S6 b es hs ss si day xI) (by simp[S6]) gP p hp
 refine⟨_,_,_,_,_,rfl,?_⟩;simp[n8,S6,laid,lB,aX,iB,-aT];trace_state;simp;rw[<-hR];simp[laid,gT,aX,Cr.pv]
end
section
attribute [local irreducible] Bk.held Bk.nums Bk.span
def jU (b:Bk)(k:Nat):List (PV×PV):=nY id (fun n=>(b.span (b.held []) n).pv) ((b.nums.take k).filter fun n=>(b.held []).contains n)
theorem Nz {b:Bk}{k:Nat}{n x:Int}(h:b.nums[k]?=some n):x∈b.nums.take k↔x∈b.nums/\x<n:=by
 obtain⟨h2,e2⟩:=cD.1 h;have hs:=R3.1 (UJ (b:=b));constructor
 .intro hx;obtain⟨i,hi⟩:=iO.1 hx;rw[mH]at hi;split at hi
  .rename_i qX;obtain⟨h1,e1⟩:=cD.1 hi
   have:=hs i k h1 h2 qX
   rw[e1,e2]at this;exact⟨dL hi,this⟩
  .cases hi
 .rintro⟨hx,aI⟩;obtain⟨i,hi⟩:=iO.1 hx;obtain⟨h1,e1⟩:=cD.1 hi;rw[iO];refine⟨i,?_⟩;rw[mH,if_pos,hi];rcases Nat.lt_trichotomy i k with qX|qX|qX
  .exact qX
  .subst qX;rw[e1]at e2;omega
  .have:=hs k i h2 h1 qX
   rw[e1,e2]at this;omega
theorem Zpw {b:Bk}(hb:b.ok){k:Nat}{n:Int}(h:b.nums[k]?=some n):SMap b (b.span (b.held [])) n (jU b k):=by
 refine⟨PB,fun c hc aI hx=>?_⟩;unfold jU;rw[KV,Gv,if_pos]
 .refine⟨rfl,?_⟩
  have:=YP hb c hc hx
  have jR:=xE hb hc;unfold Cr.lW at this ⊢;omega
 .rw[iZ,Nz h];exact⟨⟨(y9 hb).2 ⟨c,hc,rfl⟩,aI⟩,jI.2 hx⟩
theorem Zfo {b:Bk}(hb:b.ok)(below:Int):SMap b (b.span (b.held [])) below (jU b b.nums.length):=by
 refine⟨PB,fun c hc aI hx=>?_⟩;unfold jU;rw[KV,Gv,if_pos]
 .refine⟨rfl,?_⟩
  have:=YP hb c hc hx
  have jR:=xE hb hc;unfold Cr.lW at this ⊢;omega
 .rw[iZ,nD];exact⟨(y9 hb).2 ⟨c,hc,rfl⟩,jI.2 hx⟩
theorem Zm4 {b:Bk}{k:Nat}{n:Int}(h:b.nums[k]?=some n)(hx:(b.held []).contains n=false):jU b (k+1)=jU b k:=by
 unfold jU;rw[mV,h,I2]
 have:(Option.some n).toList.filter (fun n=>(b.held []).contains n)=[]:=by
  simp only[Option.toList,xT,hx,List.filter_nil];rfl
 rw[this,xC]
theorem Zpv {b:Bk}{k:Nat}{n:Int}(h:b.nums[k]?=some n)(hx:(b.held []).contains n=true):mM (.i n) (b.span (b.held []) n).pv (jU b k)=jU b (k+1):=by
 unfold jU;rw[Hp (fun x hm=>?_),mV,h,I2]
 .have:(Option.some n).toList.filter (fun n=>(b.held []).contains n)=[n]:=by
   simp only[Option.toList,xT,hx,List.filter_nil];rfl
  rw[this];unfold nY;rw[mL];rfl
 .have:=(Nz h).1 (iZ.1 hm).1
  show x≠n;omega
theorem Zkq {b:Bk}(hb:b.ok){n:Int}(hn:n∈b.nums)(hx:(b.held []).contains n=true):b.span (b.held []) n=(b.kJ (b.held []) (b.span (b.held [])) (b.get n).src (b.get n).day n).plus (b.get n).diff/\(b.kJ (b.held []) (b.span (b.held [])) (b.get n).src (b.get n).day n).lW 2000000000:=by
 have h1:=Gw hb n hn;obtain⟨nn,rfl⟩:∃nn:Nat,n=nn:=⟨n.toNat,by omega⟩;obtain⟨sB,oB⟩:=V8 hb hn;have jR:=xE hb sB;refine⟨?_,?_⟩
 .rw[Mw (by omega),if_pos hx]
 .have Bo:=Zlg hb sB (bad:=[]) (by rw[oB];exact jI.1 hx);rw[oB]at Bo
  have:=ZhL hb (held:=b.held []) (S:=b.span (b.held [])) (day:=(b.get (nn:Int)).day) (below:=(nn:Int)) (A:=1000000000) jR.2.2.2.2.2.1 jR.2.2.2.2.2.2.1 (by omega) (by omega) Bo fun o ho aI QV=>by
   have k1:=YP hb o ho QV;have k2:=xE hb ho;unfold Cr.lW at k1 ⊢;omega
  unfold Cr.lW at this ⊢;omega
def yD (b:Bk)(es hs ss:List (PV×PV)):List aJ:=[.cells [.ptr (.par 6) 0],.cells [.ptr (.par 3) 0],.cells [.fn 221 [] [.ptr (.par 0) 0,.ptr (.par 1) 0,.ptr (.par 2) 0]],
 .cells [.ptr (.par 6) 0,.mp (.par 4),.mp (.par 5)],.map hs,.map ss,.cells (aX b (.par 7) (gD [])),.map es]
end
section
attribute [local irreducible] Bk.held Bk.nums Bk.span
def rcJ (b:Bk)(es hs ss:List (PV×PV))(L:List PV)(n:Int)(R:Cr):AS:=⟨[(0,.pv (.aF false 1 L)),(1,.ptr (.par 0) 0),(2,.ptr (.par 1) 0),(3,.ptr (.par 2) 0),(23,.mp (.par 5)),(25,.pv (.i n)),(36,.pv (.agg [.i R.lo,.i R.hi]))],laid 0 (yD b es hs ss)⟩
theorem ZW (b:Bk)(hb:b.ok)(es hs:List (PV×PV))(lE:xJ b es)(hH:mY (fun n=>(b.held []).contains n) hs):∀m k,m+k=b.nums.length->
  cU prog 221 [.pv (.aF false 1 ((b.nums.drop k).map aO)),.ptr (.par 0) 0,.ptr (.par 1) 0,.ptr (.par 2) 0] (laid 0 (yD b es hs (jU b k))) (fun r B=>r=.pv (.bN [])/\B=laid 0 (yD b es hs (jU b b.nums.length)))
 |0,k,hk=>by
  have WG:k=b.nums.length:=by omega
  subst WG;rw[List.drop_length];refine cB [.par 0,.par 1,.par 2,.par 3,.par 4,.par 5,.par 6,.par 7] L221 ?_;simp[L221,yD,laid,aX]
 |m+1,k,hk=>by
  have ih:=ZW b hb es hs lE hH m (k+1) (by omega);have aI:k<b.nums.length:=by omega
  obtain⟨n,hn⟩:∃n,b.nums[k]?=some n:=⟨b.nums[k],bC aI⟩;have AO:b.nums.drop k=n::b.nums.drop (k+1):=by
   rw[AY aI]
   have:b.nums[k]=n:=by rw[bC aI]at hn;exact Option.some.inj hn
   rw[this]
  have Cg:=dL hn;obtain⟨sB,oB⟩:=V8 hb Cg;have jR:=xE hb sB;have mK:=lE.f n;rw[if_pos Cg]at mK;have T9:=lE.k;have hsk:=Zm4 hn;have jP:=Zpv hn;have VV:=Zkq hb Cg;have hSM:=Zpw hb hn;have RF:=hSM.k;have N6:=Zf5 b es hs (jU b k) _ hH (b.get n);rw[AO];generalize b.nums.drop (k+1)=rest at *;generalize jU b b.nums.length=SF at *;generalize jU b (k+1)=S2 at *;generalize wP:jU b k=S1 at *;generalize b.get n=y at *;obtain⟨yn,yi,ys,yd,yv,⟨yl,yh⟩⟩:=y;simp only at oB jR VV N6;subst oB;unfold Ct.pv at mK;obtain⟨si,rfl⟩:∃si:Nat,ys=si:=⟨ys.toNat,by omega⟩;have M1:si<b.items.length:=by omega
  have K8:=Zo b hb es hs S1 lE hH (b.span (b.held [])) si M1 yd yn (by omega) hSM;generalize b.kJ (b.held []) (b.span (b.held [])) si yd yn=R1 at *;generalize b.span (b.held []) yn=R2 at *;generalize DP:(b.held []).contains yn=v at *;refine O2 [.par 0,.par 1,.par 2,.par 3,.par 4,.par 5,.par 6,.par 7] L221 ?_;intro R hR;have AJ:(0:Int)<(rest.length:Int)+1:=by omega
  have hlz:¬((rest.length:Int)+1=0):=by omega
  simp[L221,yD,laid,aX,hlz,T9,mK,-aT,aO];refine cM [.ptr (.par 0) 0,.pv (Ct.pv ⟨yn,yi,si,yd,yv,⟨yl,yh⟩⟩)] (laid 0 (gT b es hs S1)) 19 [.par 3,.par 4,.par 5,.par 6,.par 7] (by simp[laid,gT,aX]) N6 (by simp[laid,gT,aX]) ?_;have pG:1<=rest.length+1:=by omega
  have jX:(rest.map aO).take rest.length=rest.map aO:=fQ (by rw[fZ];exact fH _);cases v
  .rw[hsk rfl]at ih;simp[laid,gT,aX,-aT,aN,pG,jX];refine cM [.pv (.aF false 1 (rest.map aO)),.ptr (.par 0) 0,.ptr (.par 1) 0,.ptr (.par 2) 0] (laid 0 (yD b es hs S1)) 40 [.par 0,.par 1,.par 2,.par 3,.par 4,.par 5,.par 6,.par 7] (by simp[laid,yD,aX]) ih (by simp[laid,yD,aX]) ?_;simp[laid,yD,aX];rw[<-hR];simp[laid,yD,aX]
  .obtain⟨hq1,Tu⟩:=VV rfl;have nJ:=jP rfl;unfold Cr.pv at nJ;unfold Cr.lW at Tu;have N8:=jR.2.2.2.2.2.2.2.2.2.2.2.2.1;unfold Cr.lW at N8;simp only at N8;have MX:=ZrF R1 ⟨yl,yh⟩ (wrap64 (by simp only;omega)) (wrap64 (by simp only;omega));rw[<-hq1]at MX;simp[laid,gT,aX,-aT];refine KP (rcJ b es hs S1 (aO yn::rest.map aO) yn R2) ?_ ?_
   .simp[gL,gS,-aT]
    repeat' (with_reducible refine And.intro ?_ ?_)
    all_goals
     refine cM [.ptr (.par 0) 0,.pv (.i si),.pv (.i yd),.pv (.i yn)] (laid 0 (gT b es hs S1)) 33 [.par 3,.par 4,.par 5,.par 6,.par 7] (by simp[laid,gT,aX]) K8 (by simp[laid,gT,aX]) ?_;simp[laid,gT,aX,-aT,gL,gS,Cr.pv]
    all_goals
     refine cQ [] [R1.pv,Cr.pv ⟨yl,yh⟩] MX ?_;simp[aL,Cr.pv,-aT]
    all_goals
     refine Sub.mk ?_ ?_
     .simp[aO]
     .simp[laid,yD,aX]
   .simp[gL,gS,rcJ,laid,yD,aX,-aT,RF,aN,pG,jX,nJ];refine cM [.pv (.aF false 1 (rest.map aO)),.ptr (.par 0) 0,.ptr (.par 1) 0,.ptr (.par 2) 0] (laid 0 (yD b es hs S2)) 40 [.par 0,.par 1,.par 2,.par 3,.par 4,.par 5,.par 6,.par 7] (by simp[laid,yD,aX]) ih (by simp[laid,yD,aX]) ?_;simp[laid,yD,aX];rw[<-hR];simp[laid,yD,aX]
end
section
attribute [local irreducible] Bk.held Bk.nums Bk.span
def ZL (b:Bk)(es hs:List (PV×PV)):AS:=⟨[(1,.ptr (.loc 1 0) 0),(3,.ptr (.loc 3 0) 0),(10,.ptr (.loc 10 0) 0)],
 [(.loc 10 0,.cells [.ptr (.par 0) 0,.mp (.loc 7 0),.mp (.loc 8 0)]),(.loc 7 0,.map hs),(.loc 8 0,.map []),(.loc 3 0,.cells [.pv .eX]),(.loc 1 0,.cells [.ptr (.par 0) 0]),(.par 0,.cells (aX b (.par 1) (gD []))),(.par 1,.map es)]⟩
def HG (b:Bk)(es:List (PV×PV))(r:AV)(B:List (Site×aJ)):Prop:=r=.ptr (.ret 0) 0/\B=[(.ret 0,.cells [.ptr (.par 0) 0,.mp (.ret 1),.mp (.ret 2)]),(.ret 1,.map (kP b [] b.nums.length)),(.ret 2,.map (jU b b.nums.length)),(.par 0,.cells (aX b (.par 1) (gD []))),(.par 1,.map es)]
theorem Zjf (b:Bk)(hb:b.ok)(es:List (PV×PV))(lE:xJ b es):cU prog 176 [.ptr (.par 0) 0] (laid 0 (kK b [] es)) (HG b es):=by
 have N7:=Zd b hb [] es lE;have mO:=ZW b hb es _ lE (UL hb []) b.nums.length 0 (by omega);have Bq:jU b 0=[]:=by unfold jU;rw[List.take_zero];rfl
 rw[Bq,List.drop_zero]at mO;refine cB [.loc 10 0,.loc 7 0,.loc 8 0,.par 0,.par 1] L176 ?_;generalize hR:HG b es=R;have hRd:∀r B,R r B↔HG b es r B:=fun r B=>by rw[hR]
 unfold HG at hRd;generalize kP b [] b.nums.length=hs at *;generalize jU b b.nums.length=SF at *;clear hR;simp[L176,laid,kK,aX,-aT];refine KP (ZL b es hs) ?_ ?_
 .simp[gL,gS,-aT]
  repeat' (with_reducible refine And.intro ?_ ?_)
  all_goals
   refine cM [.ptr (.par 0) 0] (laid 0 (kK b [] es)) 7 [.par 0,.par 1] (by simp[laid,kK,aX]) N7 (by simp[laid,kK,aX]) ?_;simp[laid,kK,aX,-aT,gL,gS]
  repeat' (with_reducible refine And.intro ?_ ?_)
  all_goals
   refine Sub.mk ?_ ?_
   .simp
   .simp[aX]
 .simp[gL,gS,ZL,aX,-aT];refine cM [.pv (.aF false 1 (b.nums.map aO)),.ptr (.par 0) 0,.ptr (.par 1) 0,.ptr (.par 2) 0] (laid 0 (yD b es hs [])) 17 [.loc 1 0,.loc 3 0,.loc 4 0,.loc 10 0,.loc 7 0,.loc 8 0,.par 0,.par 1] (by simp[laid,yD,aX]) mO (by simp[laid,yD,aX]) ?_;simp[laid,yD,aX];rw[hRd];simp[aX]
end
section
attribute [local irreducible] Bk.held Bk.nums Bk.span
def Bk.KG (b:Bk)(n:Int):Bool:=(b.held []).contains n&&decide ((b.kJ (b.held []) (b.span (b.held [])) (b.get n).it (b.get n).day 1000).hi<(b.kJ (b.held []) (b.span (b.held [])) (b.get n).it (b.get n).day 1000).lo)
theorem ZjS {b:Bk}(hb:b.ok):b.contra=b.nums.any b.KG:=by
 rw[rB];unfold Bk.contra;rw[pB,pB];constructor
 .rintro⟨c,hc,h⟩;refine⟨c.num,(y9 hb).2 ⟨c,hc,rfl⟩,?_⟩;unfold Bk.KG;rw[x7 hb hc];exact h
 .rintro⟨n,hn,h⟩;obtain⟨h1,h2⟩:=V8 hb hn;refine⟨b.get n,h1,?_⟩;unfold Bk.KG at h;rw[h2];exact h
def ED (b:Bk)(es hs ss:List (PV×PV))(k:Nat):AS:=⟨[(0,.ptr (.par 0) 0),(13,.pv (.aF false 1 (b.nums.map aO))),(14,.pv (.i b.nums.length)),(15,.pv (.i k))],laid 0 (gT b es hs ss)⟩
theorem ZhV (b:Bk)(hb:b.ok)(es hs ss:List (PV×PV))(lE:xJ b es)(hH:mY (fun n=>(b.held []).contains n) hs)(hS:SMap b (b.span (b.held [])) 1000 ss):
  cU prog 177 [.ptr (.par 0) 0] (laid 0 (gT b es hs ss)) (fun r B=>r=.pv (.bool b.contra)/\B=laid 0 (gT b es hs ss)):=by
 have hlen:=YB (b:=b);rw[ZjS hb];refine O2 [.par 0,.par 1,.par 2,.par 3,.par 4] L177 ?_;intro R hR;simp[L177,laid,gT,aX,-aT];refine eP (fun n τ=>∃k:Nat,k<=b.nums.length/\n=b.nums.length-k/\(∀(j:Nat) (x:Int),j<k->b.nums[j]?=some x->b.KG x=false)/\τ=ED b es hs ss k) ⟨b.nums.length,ED b es hs ss 0,Sub.mk (by simp) (by simp[laid,gT,aX]),0,gW _,rfl,(fun j x hj=>by omega),rfl⟩ ?_;rintro J hJ n τ ⟨k,hk,rfl,hinv,rfl⟩;by_cases aI:k<b.nums.length
 .obtain⟨x,hx⟩:∃x,b.nums[k]?=some x:=⟨b.nums[k],bC aI⟩;have xL:=dL hx;have oT:(b.nums.map aO)[k]?=some (.i x):=by rw[bY,hx];rfl
  have hw:=bK (k:=k) (by omega);have aH:b.nums.length-(k+1)<b.nums.length-k:=by omega
  obtain⟨sB,oB⟩:=V8 hb xL;have jR:=xE hb sB;have mK:=lE.f x;rw[if_pos xL]at mK;have T9:=lE.k;have N6:=Zf5 b es hs ss _ hH (b.get x);have aB:b.KG x=false->J (b.nums.length-(k+1)) (ED b es hs ss (k+1)):=fun h=>hJ _ _ ⟨k+1,aI,rfl,(fun j y hj hy=>by
   rcases Nat.lt_succ_iff_lt_or_eq.1 hj with h'|h'
   .exact hinv j y h' hy
   .subst h';rw[hx]at hy;cases hy;exact h),rfl⟩
  have oU:b.KG x=true->b.nums.any b.KG=true:=fun h=>pB.2 ⟨x,xL,h⟩
  have Di:b.KG x=((b.held []).contains x&&decide ((b.kJ (b.held []) (b.span (b.held [])) (b.get x).it (b.get x).day 1000).hi<(b.kJ (b.held []) (b.span (b.held [])) (b.get x).it (b.get x).day 1000).lo)):=rfl;generalize b.get x=y at *;obtain⟨yn,yi,ys,yd,yv,⟨yl,yh⟩⟩:=y;simp only at oB jR N6 Di;subst oB;unfold Ct.pv at mK;obtain⟨si,rfl⟩:∃si:Nat,yi=si:=⟨yi.toNat,by omega⟩;have K8:=Zo b hb es hs ss lE hH (b.span (b.held [])) si (by omega) yd 1000 (by omega) hS;generalize b.kJ (b.held []) (b.span (b.held [])) si yd 1000=R1 at *;have jF:decide ((k:Int)<(b.nums.length:Int))=true:=by simp;omega
  simp[-decide_eq_true_eq,-decide_eq_false_iff_not,ED,laid,gT,aX,aI,↓oT,T9,mK,-aT];refine cM [.ptr (.par 0) 0,.pv (.i si),.pv (.i yd),.pv (.i 1000)] (laid 0 (gT b es hs ss)) 33 [.par 0,.par 1,.par 2,.par 3,.par 4] (by simp[laid,gT,aX]) K8 (by simp[laid,gT,aX]) ?_;simp[-decide_eq_true_eq,-decide_eq_false_iff_not,laid,gT,aX,-aT,Cr.pv];refine cM [.ptr (.par 0) 0,.pv (Ct.pv ⟨yn,si,ys,yd,yv,⟨yl,yh⟩⟩)] (laid 0 (gT b es hs ss)) 36 [.par 0,.par 1,.par 2,.par 3,.par 4] (by simp[laid,gT,aX]) N6 (by simp[laid,gT,aX]) ?_;generalize(b.held []).contains yn=v at *;cases v
  .have aB:=aB Di;simp[-decide_eq_true_eq,-decide_eq_false_iff_not,laid,gT,aX,-aT,hw];exact⟨_,_,aH,Sub.mk (by simp) (by simp[laid,gT,aX]),aB⟩
  .rw[Bool.true_and]at Di;cases hd:decide (R1.hi<R1.lo)
   .have aB:=aB (by rw[Di,hd]);simp[-decide_eq_true_eq,-decide_eq_false_iff_not,laid,gT,aX,-aT,hw,hd];exact⟨_,_,aH,Sub.mk (by simp) (by simp[laid,gT,aX]),aB⟩
   .have he:=oU (by rw[Di,hd]);simp[-decide_eq_true_eq,-decide_eq_false_iff_not,laid,gT,aX,hd];rw[<-hR,he];simp[laid,gT,aX]
 .have he:k=b.nums.length:=by omega
  subst he;clear hJ;have mP:b.nums.any b.KG=false:=by
   rw[List.any_eq_false];intro x hx;obtain⟨j,hj⟩:=iO.1 hx;simp[hinv j x (cD.1 hj).1 hj]
  simp[ED,laid,gT,aX];rw[<-hR,mP];simp[laid,gT,aX]
end
section
attribute [local irreducible] Bk.held Bk.nums Bk.span
def Bk.vF (b:Bk)(item day:Int):Cr×Int:=if b.vD item day=0 then(if b.contra=true then(⟨0,0⟩,9)else(b.kJ (b.held []) (b.span (b.held [])) item day 1000,0))else(⟨0,0⟩,b.vD item day)
def MA (x:Cr×Int):PV:=.bN [x.1.pv,.i x.2]
theorem Zvr (b:Bk)(hi:b.items.length<=1000)(hc:b.aA.length<=1000)(item day:Int):aC prog 129 [b.pv,.i item,.i day] (MA (b.vF item day)):=by
 have SD:=Zo2 b hi hc item day;refine O1 L129 ?_;intro R hR;simp[L129,Bk.pv];refine cL [.pv b.pv,.pv (.i item),.pv (.i day)] [] 16 [] rfl SD ?_
 rintro r0 B0 (⟨h0,rfl,rfl⟩|⟨h0,AN,hit,Vt,hih,es,lE,rfl,rfl⟩)
 .refine⟨rfl,by simp,?_⟩;have hd:decide (b.vD item day=0)=false:=by simpa using h0
  have hM:b.vF item day=(⟨0,0⟩,b.vD item day):=by unfold Bk.vF;rw[if_neg h0]
  simp[-decide_eq_true_eq,-decide_eq_false_iff_not,hd];rw[<-hR,hM];exact⟨rfl,rfl⟩
 have hb:b.ok:=Bk.R6.1 AN;refine⟨rfl,by simp[aX],?_⟩;have jP:=Zjf b hb es lE;have hH:=UL hb [];have hS:=Zfo hb 1000;simp[aX];refine cM [.ptr (.par 0) 0] (laid 0 (kK b [] es)) 25 [.loc 16 0,.loc 16 1] (by simp[laid,kK,aX]) jP (by simp[aX]) ?_;generalize kP b [] b.nums.length=hs at *;generalize jU b b.nums.length=ss at *;have c6:=ZhV b hb es hs ss lE hH hS;have hii:0<=item/\item<b.items.length:=by
  unfold Bk.uT jD at hit;simp only[dK,decide_eq_true_eq]at hit;omega
 have JC:0<=day/\day<=1000:=by
  unfold jD at Vt;simp only[dK,decide_eq_true_eq]at Vt;omega
 obtain⟨si,rfl⟩:∃si:Nat,item=si:=⟨item.toNat,by omega⟩;have K8:=Zo b hb es hs ss lE hH (b.span (b.held [])) si (by omega) day 1000 JC hS;have hM:b.vF si day=if b.contra=true then(⟨0,0⟩,9)else(b.kJ (b.held []) (b.span (b.held [])) si day 1000,0):=by unfold Bk.vF;rw[if_pos h0]
 rw[hM]at hR;generalize b.kJ (b.held []) (b.span (b.held [])) si day 1000=R1 at *;simp[aX];refine cM [.ptr (.par 0) 0] (laid 0 (gT b es hs ss)) 27 [.loc 25 0,.loc 25 1,.loc 25 2,.loc 16 0,.loc 16 1] (by simp[laid,gT,aX]) c6 (by simp[laid,gT,aX]) ?_;cases oB:b.contra
 .rw[oB,if_neg (by simp)]at hR;simp[laid,gT,aX];refine cM [.ptr (.par 0) 0,.pv (.i si),.pv (.i day),.pv (.i 1000)] (laid 0 (gT b es hs ss)) 32 [.loc 25 0,.loc 25 1,.loc 25 2,.loc 16 0,.loc 16 1] (by simp[laid,gT,aX]) K8 (by simp[laid,gT,aX]) ?_;simp[laid,gT,aX,Cr.pv];rw[<-hR];exact⟨rfl,rfl⟩
 .rw[oB,if_pos rfl]at hR;simp[laid,gT,aX];rw[<-hR];exact⟨rfl,rfl⟩
end
def lexB:List Int->List Int->Bool
 |a::bU,b::bs=>decide (a<b)||(decide (a=b)&&lexB bU bs)
 |[],_::_=>true
 |_,[]=>false
def sO (a b:List Int):Bool:=decide (a.length<b.length)||(decide (a.length=b.length)&&lexB a b)
theorem Zk8:∀a:List Int,lexB a a=false
 |[]=>rfl
 |a::bU=>by unfold lexB;rw[Zk8 bU];simp
theorem Zk7:∀a b:List Int,a.length=b.length->lexB a b=false->lexB b a=false->a=b
 |[],[],_,_,_=>rfl
 |[],_::_,h,_,_=>by cases h
 |_::_,[],h,_,_=>by cases h
 |a::bU,b::bs,h,h1,h2=>by
  unfold lexB at h1 h2;simp only[Bool.or_eq_false_iff,Bool.and_eq_false_iff,decide_eq_false_iff_not]at h1 h2;have e:a=b:=by omega
  subst e;rw[Zk7 bU bs (by simpa using h) (by simpa using h1.2) (by simpa using h2.2)]
theorem ZgS:∀a b c:List Int,lexB a b=true->lexB b c=true->lexB a c=true
 |[],[],_,h,_=>by cases h
 |[],b::bs,c,_,h=>by
  cases c with
  |nil=>cases h
  |cons c cs=>rfl
 |a::bU,[],_,h,_=>by cases h
 |a::bU,b::bs,[],_,h=>by cases h
 |a::bU,b::bs,c::cs,h1,h2=>by
  unfold lexB at h1 h2 ⊢;simp only[sD,dK,decide_eq_true_eq]at h1 h2 ⊢;rcases h1 with h1|⟨h1,I0⟩<;>rcases h2 with h2|⟨h2,uK⟩
  .left;omega
  .left;omega
  .left;omega
  .right;exact⟨by omega,ZgS bU bs cs I0 uK⟩
theorem Hc (a:List Int):sO a a=false:=by unfold sO;rw[Zk8];simp
theorem Zn1 {a b:List Int}(h1:sO a b=false)(h2:sO b a=false):a=b:=by
 unfold sO at h1 h2;simp only[Bool.or_eq_false_iff,Bool.and_eq_false_iff,decide_eq_false_iff_not]at h1 h2;have e:a.length=b.length:=by omega
 exact Zk7 a b e (by rcases h1.2 with h|h;exact absurd e h;exact h) (by rcases h2.2 with h|h;exact absurd e.symm h;exact h)
theorem Ziz {a b c:List Int}(h1:sO a b=true)(h2:sO b c=true):sO a c=true:=by
 unfold sO at h1 h2 ⊢;simp only[sD,dK,decide_eq_true_eq]at h1 h2 ⊢;rcases h1 with h1|⟨h1,I0⟩<;>rcases h2 with h2|⟨h2,uK⟩
 .left;omega
 .left;omega
 .left;omega
 .right;exact⟨by omega,ZgS a b c I0 uK⟩
theorem Zk9:∀(a b:List Int) (n:Int),a.length=b.length->lexB (a++[n]) (b++[n])=lexB a b
 |[],[],n,_=>by simp[lexB]
 |[],_::_,_,h=>by cases h
 |_::_,[],_,h=>by cases h
 |a::bU,b::bs,n,h=>by
  show(decide (a<b)||(decide (a=b)&&lexB (bU++[n]) (bs++[n])))=(decide (a<b)||(decide (a=b)&&lexB bU bs));rw[Zk9 bU bs n (by simpa using h)]
theorem Zto (a b:List Int)(n:Int):sO (a++[n]) (b++[n])=sO a b:=by
 unfold sO;rw[gF,gF];by_cases h:a.length=b.length
 .rw[Zk9 a b n h,rB];simp
 .rw[rB];simp[h]
def iF (o:Option (List Int))(x:List Int):Option (List Int):=match o with
 |none=>some x
 |some m=>if sO x m=true then some x else some m
def lP (l:List (List Int)):Option (List Int):=l.foldl iF none
theorem ZfB:∀(l:List (List Int)) (o:Option (List Int)),(o=none/\l=[]/\l.foldl iF o=none)\/∃m,l.foldl iF o=some m/\(o=some m\/m∈l)/\(∀x∈l,sO x m=false)/\∀x,o=some x->sO x m=false
 |[],none=>.inl ⟨rfl,rfl,rfl⟩
 |[],some x=>.inr ⟨x,rfl,.inl rfl,fun y hy=>(by cases hy),fun y hy=>by cases hy;exact Hc x⟩
 |y::l,o=>by
  rw[List.foldl_cons];have key:∃z,iF o y=some z/\(o=some z\/z=y)/\sO y z=false/\∀x,o=some x->sO x z=false:=by
   cases o with
   |none=>exact⟨y,rfl,.inr rfl,Hc y,fun x hx=>by cases hx⟩
   |some m=>
    unfold iF;simp only;split
    .rename_i h;refine⟨y,rfl,.inr rfl,Hc y,fun x hx=>?_⟩;cases hx;rw[Bool.eq_false_iff];intro h'
     have:=Ziz h h'
     rw[Hc]at this;cases this
    .rename_i h;exact⟨m,rfl,.inl rfl,by simpa using h,fun x hx=>by cases hx;exact Hc m⟩
  obtain⟨z,h1,h2,h3,h4⟩:=key;rw[h1];rcases ZfB l (some z)with⟨h,_⟩|⟨m,k1,k2,k3,k4⟩
  .cases h
  .have kz:=k4 z rfl;have lift:∀x,sO x z=false->sO x m=false:=fun x hx=>by
    rw[Bool.eq_false_iff];intro h';by_cases e:sO z x=true
    .have:=Ziz e h'
     rw[kz]at this;cases this
    .have:x=z:=Zn1 hx (by simpa using e)
     subst this;rw[kz]at h';cases h'
   refine .inr ⟨m,k1,?_,fun x hx=>?_,fun x hx=>lift x (h4 x hx)⟩
   .rcases k2 with k2|k2
    .cases k2;rcases h2 with h2|h2
     .exact .inl h2
     .right;rw[h2];simp
    .right;simp[k2]
   .rcases jT.1 hx with e|e
    .subst e;exact lift _ h3
    .exact k3 x e
theorem LB {l:List (List Int)}:lP l=none↔l=[]:=by
 rcases ZfB l none with⟨_,h1,h2⟩|⟨m,h1,h2,_⟩
 .exact⟨fun _=>h1,fun _=>h2⟩
 .constructor
  .intro h;rw[lP,h1]at h;cases h
  .intro h;subst h;rcases h2 with h2|h2
   .cases h2
   .cases h2
theorem PD {l:List (List Int)}{m:List Int}(h:lP l=some m):m∈l/\∀x∈l,sO x m=false:=by
 rcases ZfB l none with⟨_,_,h2⟩|⟨m',h1,h2,h3,_⟩
 .rw[lP,h2]at h;cases h
 .rw[lP,h1]at h;cases h;rcases h2 with h2|h2
  .cases h2
  .exact⟨h2,h3⟩
theorem Nl {l:List (List Int)}{m:List Int}(h1:m∈l)(h2:∀x∈l,sO x m=false):lP l=some m:=by
 cases h:lP l with
 |none=>rw[LB]at h;subst h;cases h1
 |some m'=>
  obtain⟨k1,k2⟩:=PD h;rw[Zn1 (k2 m h1) (h2 m' k1)]
theorem Ziy {l l':List (List Int)}(h:∀x,x∈l↔x∈l'):lP l=lP l':=by
 cases hm:lP l with
 |none=>
  rw[LB]at hm;subst hm;symm;rw[LB];cases l' with
  |nil=>rfl
  |cons x l'=>exact absurd ((h x).2 (by simp)) (by simp)
 |some m=>
  obtain⟨h1,h2⟩:=PD hm;exact(Nl ((h m).1 h1) fun x hx=>h2 x ((h x).2 hx)).symm
theorem ZgM {α:Type}{L:List α}{f:α->List (List Int)}:lP (L.flatMap f)=lP (L.filterMap fun x=>lP (f x)):=by
 cases hm:lP (L.flatMap f)with
 |none=>
  rw[LB,List.flatMap_eq_nil_iff]at hm;symm;rw[LB,List.filterMap_eq_nil_iff];exact fun x hx=>LB.2 (hm x hx)
 |some m=>
  obtain⟨h1,h2⟩:=PD hm;obtain⟨x,hx,xL⟩:=List.mem_flatMap.1 h1;have e:lP (f x)=some m:=Nl xL fun y hy=>h2 y (List.mem_flatMap.2 ⟨x,hx,hy⟩)
  refine(Nl (List.mem_filterMap.2 ⟨x,hx,e⟩) fun y hy=>?_).symm;obtain⟨z,hz,hzy⟩:=List.mem_filterMap.1 hy;exact h2 y (List.mem_flatMap.2 ⟨z,hz,(PD hzy).1⟩)
theorem Zp6 {l:List (List Int)}{n:Int}:lP (l.map (·++[n]))=(lP l).map (·++[n]):=by
 cases hm:lP l with
 |none=>rw[LB]at hm;subst hm;rfl
 |some m=>
  obtain⟨h1,h2⟩:=PD hm;refine Nl (iN.2 ⟨m,h1,rfl⟩) fun x hx=>?_
  obtain⟨y,hy,rfl⟩:=iN.1 hx;rw[Zto];exact h2 y hy
theorem MK (x:Int):aC prog 249 [.i x] (.bool false):=by
 refine cS L249 ?_;simp[L249]
def wU (x y:Int):Int:=if x<y then -1 else if y<x then 1 else 0
theorem Fh (x y:Int):aC prog 203 [.i x,.i y] (.i (wU x y)):=by
 refine cS L203 ?_;simp[L203];refine cG [.i x] (MK x) ?_;simp;refine cG [.i y] (MK y) ?_;simp;unfold wU;by_cases h1:x<y
 .simp[h1]
 .by_cases h2:y<x
  .simp[h1,h2]
  .simp[h1,h2]
def cmpL:List Int->List Int->Int
 |[],[]=>0
 |[],_::_=>-1
 |_::_,[]=>1
 |a::r,b::t=>if wU a b=0 then cmpL r t else wU a b
theorem ZoH {a b:List Int}{k:Nat}{x y:Int}(h1:a[k]?=some x)(h2:b[k]?=some y):cmpL (a.drop k) (b.drop k)=if wU x y=0 then cmpL (a.drop (k+1)) (b.drop (k+1))else wU x y:=by
 obtain⟨q1,e1⟩:=cD.1 h1;obtain⟨q2,e2⟩:=cD.1 h2;rw[AY q1,AY q2,e1,e2];rfl
theorem ZoD (a b:List Int)(ha:a.length<=2000)(hb:b.length<=2000):aC prog 166 [.aF false 1 (a.map aO),.aF false 1 (b.map aO)] (.i (cmpL a b)):=by
 refine cS L166 ?_;simp[L166];refine eP (fun n τ=>∃k:Nat,k<=a.length/\k<=b.length/\n=a.length-k/\cmpL a b=cmpL (a.drop k) (b.drop k)/\τ=⟨[(0,.pv (.aF false 1 (a.map aO))),(1,.pv (.aF false 1 (b.map aO))),(9,.pv (.aF false 1 (a.map aO))),(10,.pv (.i a.length)),(11,.pv (.i k))],[]⟩)
  ⟨a.length,⟨[(0,.pv (.aF false 1 (a.map aO))),(1,.pv (.aF false 1 (b.map aO))),(9,.pv (.aF false 1 (a.map aO))),(10,.pv (.i a.length)),(11,.pv (.i 0))],[]⟩,Sub.mk (by simp) (by simp),0,gW _,gW _,rfl,rfl,rfl⟩ ?_
 rintro J hJ n τ ⟨k,hk,sP,rfl,hinv,rfl⟩;rw[hinv];by_cases aI:k<a.length
 .obtain⟨x,hx⟩:∃x,a[k]?=some x:=⟨a[k],bC aI⟩;have oT:(a.map aO)[k]?=some (.i x):=by rw[bY,hx];rfl
  have hw:=bK (k:=k) (by omega);have aH:a.length-(k+1)<a.length-k:=by omega
  have jF:decide ((k:Int)<(a.length:Int))=true:=by simp;omega
  by_cases kN:k<b.length
  .obtain⟨y,hy⟩:∃y,b[k]?=some y:=⟨b[k],bC kN⟩;have IZ:(b.map aO)[k]?=some (.i y):=by rw[bY,hy];rfl
   have yT:¬b.length<=k:=by omega
   have AO:=ZoH hx hy;have mD:=Fh x y;have aB:=fun h:wU x y=0=>hJ _ _ ⟨k+1,aI,kN,rfl,by rw[hinv,AO,if_pos h],rfl⟩
   rw[AO];generalize wU x y=c at *;simp[-decide_eq_true_eq,-decide_eq_false_iff_not,aI,↓oT,yT,↓IZ];refine cG [.i x,.i y] mD ?_;cases hc:decide (c=0)
   .have tD:¬c=0:=by simpa using hc
    simp[tD]
   .have tD:c=0:=by simpa using hc
    have aB:=aB tD;simp[tD,hw];exact⟨_,_,aH,Sub.mk (by simp) (by simp),aB⟩
  .have FV:k=b.length:=by omega
   have yT:b.length<=k:=by omega
   have hv:cmpL (a.drop k) (b.drop k)=1:=by
    rw[FV,List.drop_length,AY (by omega)];rfl
   rw[hv];simp[-decide_eq_true_eq,-decide_eq_false_iff_not,aI,↓oT,yT]
 .have he:k=a.length:=by omega
  subst he;clear hJ;rw[List.drop_length];by_cases hl:a.length<b.length
  .have hd:decide ((a.length:Int)<(b.length:Int))=true:=by simp;omega
   have hv:cmpL [] (b.drop a.length) = -1:=by rw[AY hl];rfl
   rw[hv];simp[-decide_eq_true_eq,-decide_eq_false_iff_not,hl]
  .have hd:decide ((a.length:Int)<(b.length:Int))=false:=by simp;omega
   have hv:cmpL [] (b.drop a.length)=0:=by rw[List.drop_eq_nil_of_le (by omega)];rfl
   rw[hv];simp[-decide_eq_true_eq,-decide_eq_false_iff_not,hd,hl]
def JU (a b:List Int):Int:=if(a.length:Int)-b.length=0 then cmpL a b else(a.length:Int)-b.length
theorem ZoG:∀a b:List Int,a.length=b.length->decide (cmpL a b<0)=lexB a b
 |[],[],_=>rfl
 |[],_::_,h=>by cases h
 |_::_,[],h=>by cases h
 |a::r,b::t,h=>by
  have ih:=ZoG r t (by simpa using h);show decide ((if wU a b=0 then cmpL r t else wU a b)<0)=(decide (a<b)||(decide (a=b)&&lexB r t));unfold wU;by_cases h1:a<b
  .rw[if_pos h1];simp[h1]
  .rw[if_neg h1];by_cases h2:b<a
   .rw[if_pos h2]
    have:¬a=b:=by omega
    simp[h1,this]
   .have e:a=b:=by omega
    rw[if_neg h2,if_pos rfl,ih];simp[e]
theorem ZoS (a b:List Int):decide (JU a b<0)=sO a b:=by
 unfold JU sO;by_cases h:a.length=b.length
 .rw[if_pos (by omega),ZoG a b h];simp[h]
 .rw[if_neg (by omega),rB];simp[h];omega
theorem Rk (x y:Int):aC prog 165 [.aF false 1 [.i x,.i y]] (.i (if x=0 then y else x)):=by
 refine cS L165 ?_;simp[L165];have S:Nat->AS:=fun k=>⟨[(3,.pv (.i 0)),(6,.pv (.aF false 1 [.i x,.i y])),(7,.pv (.i 2)),(8,.pv (.i k))],[]⟩
 refine eP (fun n τ=>(n=2/\τ=⟨[(3,.pv (.i 0)),(6,.pv (.aF false 1 [.i x,.i y])),(7,.pv (.i 2)),(8,.pv (.i 0))],[]⟩)\/(n=1/\x=0/\τ=⟨[(3,.pv (.i 0)),(6,.pv (.aF false 1 [.i x,.i y])),(7,.pv (.i 2)),(8,.pv (.i 1))],[]⟩)\/(n=0/\x=0/\y=0/\τ=⟨[(3,.pv (.i 0)),(6,.pv (.aF false 1 [.i x,.i y])),(7,.pv (.i 2)),(8,.pv (.i 2))],[]⟩)) ⟨2,_,Sub.mk (by simp) (by simp),.inl ⟨rfl,rfl⟩⟩ ?_;have w1:IntKind.i64.wrap 1=1:=rfl;have w2:IntKind.i64.wrap 2=2:=rfl;rintro J hJ n τ (⟨rfl,rfl⟩|⟨rfl,hx,rfl⟩|⟨rfl,hx,hy,rfl⟩)
 .by_cases h:x=0
  .have aB:=hJ _ _ (.inr (.inl ⟨rfl,h,rfl⟩));clear hJ;subst h;simp[w1];exact⟨_,_,(by omega:1<2),Sub.mk (by simp) (by simp),aB⟩
  .simp[h]
 .subst hx;by_cases h:y=0
  .have aB:=hJ _ _ (.inr (.inr ⟨rfl,rfl,h,rfl⟩));clear hJ;subst h;simp[w2];exact⟨_,_,(by omega:0<1),Sub.mk (by simp) (by simp),aB⟩
  .simp[h]
 .subst hx hy;simp
theorem Zly (a b:List Int)(ha:a.length<=2000)(hb:b.length<=2000):aC prog 122 [.aF false 1 (a.map aO),.aF false 1 (b.map aO)] (.i (JU a b)):=by
 have hc:=ZoD a b ha hb;have hw:IntKind.i64.wrap ((a.length:Int)-(b.length:Int))=(a.length:Int)-b.length:=wrap64 (by omega);have ho:=Rk ((a.length:Int)-b.length) (cmpL a b);refine cS L122 ?_;simp[L122,hw];refine cG [.aF false 1 (a.map aO),.aF false 1 (b.map aO)] hc ?_;simp;refine gH (k:=1) (fs:=[]) (xs:=[.aF false 1 [.i ((a.length:Int)-b.length),.i (cmpL a b)]]) (cs:=[]) rfl rfl ho rfl ?_;simp[JU]
section
def Bk.AU (b:Bk)(held:List Int):Nat->Int->List (List Int)
 |0,_=>[]
 |k+1,n=>if n=(k:Int)then(if(b.item (b.get n).src).gZ=true then[[n]]else(held.filter fun m=>zG (b.get n) (b.get m)).flatMap fun m=>(b.AU held k m).map (·++[n]))else b.AU held k n
theorem Od {b:Bk}{held:List Int}{k:Nat}{n:Int}:b.AU held (k+1) n=if n=(k:Int)then(if(b.item (b.get n).src).gZ=true then[[n]]else(held.filter fun m=>zG (b.get n) (b.get m)).flatMap fun m=>(b.AU held k m).map (·++[n]))else b.AU held k n:=rfl
theorem Zgl {b:Bk}{held:List Int}{n:Int}:∀{k:Nat},n<(k:Int)->∀j,b.AU held (k+j) n=b.AU held k n
 |k,h,0=>rfl
 |k,h,j+1=>by
  rw[<-Nat.add_assoc,Od,if_neg (by omega)];exact Zgl h j
def Bk.BB (b:Bk)(held:List Int)(n:Int):List (List Int):=b.AU held 1000 n
theorem ZiY {b:Bk}(hb:b.ok){held:List Int}(hh:∀m∈held,m∈b.nums){n:Nat}(hn:n<1000)(Q2:(n:Int)∈b.nums):b.BB held n=if(b.item (b.get n).src).gZ=true then[[(n:Int)]]else(held.filter fun m=>zG (b.get n) (b.get m)).flatMap fun m=>(b.BB held m).map (·++[(n:Int)]):=by
 have e:b.BB held n=b.AU held (n+1) n:=by
  unfold Bk.BB;rw[show 1000=n+1+(1000-(n+1)) by omega];exact Zgl (by omega) _
 rw[e,Od,if_pos rfl];split
 .rfl
 .have key:∀L:List Int,(∀m∈L,m<(n:Int))->(L.flatMap fun m=>(b.AU held n m).map (·++[(n:Int)]))=L.flatMap fun m=>(b.BB held m).map (·++[(n:Int)]):=by
   intro L;induction L with
   |nil=>exact fun _=>rfl
   |cons m L ih=>
    intro h;rw[List.flatMap_cons,List.flatMap_cons,ih fun x hx=>h x (by simp[hx])];congr 2;unfold Bk.BB;rw[show 1000=n+(1000-n) by omega];exact(Zgl (h m (by simp)) _).symm
  refine key _ fun m hm=>?_
  rw[iZ]at hm;have h1:=hm.2;unfold zG at h1;simp only[dK,decide_eq_true_eq]at h1;have h2:=(V8 hb (hh m hm.1)).2;have h3:=(V8 hb Q2).2;omega
def Bk.ET (b:Bk)(held:List Int)(n:Int):Option (List Int):=lP (b.BB held n)
theorem Zot {b:Bk}(hb:b.ok){held:List Int}(hh:∀m∈held,m∈b.nums){n:Nat}(hn:n<1000)(Q2:(n:Int)∈b.nums):b.ET held n=if(b.item (b.get n).src).gZ=true then some [(n:Int)]else lP ((held.filter fun m=>zG (b.get n) (b.get m)).filterMap fun m=>(b.ET held m).map (·++[(n:Int)])):=by
 unfold Bk.ET;rw[ZiY hb hh hn Q2];split
 .rfl
 .rw[ZgM];congr 2;funext m;exact Zp6
theorem YF {b:Bk}(hb:b.ok){bad:List Int}:∀m∈b.held bad,m∈b.nums:=fun m hm=>by
 obtain⟨c,hc,e,_⟩:=(LA hb).1 hm;exact(y9 hb).2 ⟨c,hc,e⟩
def Bk.Fs (b:Bk)(held:List Int)(item day:Int):Option (List Int):=lP ((held.filter fun m=>decide ((b.get m).it=item)&&(b.get m).on day).flatMap (b.BB held))
theorem Zq9 {b:Bk}{held:List Int}{item day:Int}:b.Fs held item day=lP ((held.filter fun m=>decide ((b.get m).it=item)&&(b.get m).on day).filterMap (b.ET held)):=by
 unfold Bk.Fs;rw[ZgM];rfl
theorem Zlt {b:Bk}{held:List Int}:∀(k:Nat) (n:Int),∀l∈b.AU held k n,∃l',l=l'++[n]
 |0,n,l,h=>by cases h
 |k+1,n,l,h=>by
  rw[Od]at h;split at h
  .split at h
   .simp at h;exact⟨[],by simpa using h⟩
   .obtain⟨m,_,hm⟩:=List.mem_flatMap.1 h;obtain⟨l',_,rfl⟩:=iN.1 hm;exact⟨l',rfl⟩
  .exact Zlt k n l h
theorem Zj0 {b:Bk}(hb:b.ok):∀n:Nat,(n:Int)∈b.held []->b.BB (b.held []) n≠[]:=by
 intro n;induction n using Nat.strongRecOn with
 |_ n ih=>
 intro hx;have Q2:=YF hb _ hx;obtain⟨h1,h2⟩:=V8 hb Q2;obtain⟨n',yO,h3,h4⟩:=GO hb h1
 have:n'=n:=by omega
 subst this;rw[ZiY hb (YF hb) h4 Q2];split
 .simp
 .rename_i hs;intro e;rw[List.flatMap_eq_nil_iff]at e;obtain⟨c,hc,e1,e2⟩:=(LA hb).1 hx;have hcg:b.get (n':Int)=c:=by rw[<-e1];exact x7 hb hc
  unfold Bk.R4 at e2;rw[dK,sD]at e2;rcases e2.1 with h|h
  .rw[<-hcg]at h;exact hs h
  .rw[pB]at h;obtain⟨o,ho,h5⟩:=h;rw[dK,jI]at h5;obtain⟨m,hm,_,_⟩:=GO hb ho;have aI:o.num<c.num:=by have:=h5.1;unfold zG at this;simp only[dK,decide_eq_true_eq]at this;exact this.1.2
   have gU:o.num∈(b.held []).filter fun m=>zG (b.get n') (b.get m):=by
    rw[iZ,hcg,x7 hb ho];exact⟨h5.2,h5.1⟩
   have:=e o.num gU
   rw[List.map_eq_nil_iff,hm]at this;rw[hm]at h5;exact ih m (by omega) h5.2 this
attribute [local irreducible] Bk.held Bk.nums Bk.span Bk.BB
theorem Zj1 {b:Bk}{held:List Int}:∀(k:Nat) (n:Int),∀l∈b.AU held k n,l.length<=k
 |0,n,l,h=>by cases h
 |k+1,n,l,h=>by
  rw[Od]at h;split at h
  .split at h
   .simp at h;subst h;simp
   .obtain⟨m,_,hm⟩:=List.mem_flatMap.1 h;obtain⟨l',lL,rfl⟩:=iN.1 hm
    have:=Zj1 k m l' lL
    rw[gF];simp;exact this
  .have:=Zj1 k n l h;omega
def Bk.uR (b:Bk)(n:Int):List Int:=(b.ET (b.held []) n).getD []
theorem Hi {b:Bk}{n:Int}:(b.uR n).length<=1000:=by
 unfold Bk.uR;cases h:b.ET (b.held []) n with
 |none=>simp
 |some l=>
  unfold Bk.ET at h
  have:=(PD h).1
  unfold Bk.BB at this;exact Zj1 1000 n l this
theorem KU {b:Bk}(hb:b.ok){n:Int}(h:(b.held []).contains n=true):b.ET (b.held []) n=some (b.uR n)/\b.uR n≠[]:=by
 have hx:=jI.1 h;have hn:=Gw hb n (Gi hb hx);obtain⟨nn,rfl⟩:∃nn:Nat,n=nn:=⟨n.toNat,by omega⟩;unfold Bk.uR;cases he:b.ET (b.held []) (nn:Int)with
 |none=>
  unfold Bk.ET at he;rw[LB]at he;exact absurd he (Zj0 hb nn hx)
 |some l=>
  refine⟨rfl,fun e=>?_⟩;unfold Bk.ET at he
  have:=(PD he).1
  unfold Bk.BB at this;obtain⟨l',lL⟩:=Zlt 1000 _ l this;have e':l=[]:=e;rw[e']at lL;simp at lL
structure z8 (b:Bk)(below:Int)(em:List (PV×PV)):Prop where
 k:A4 kI em=true
 f:∀m:Int,m<below->(fA (.i m) em).getD (.emp (some true))=if(b.held []).contains m=true then .aF false 1 ((b.uR m).map aO)else .emp (some true)
theorem Zj6 (H:Int->Bool)(hs:List (PV×PV))(hH:mY H hs)(c:Ct):cU prog 121 [.pv c.pv,.ptr (.par 0) 0] (laid 0 (eU hs 0)) (fun r B=>r=.pv (.bool (H c.num))/\B=laid 0 (eU hs 0)):=by
 have hf:=hH.f c.num;have hk:=hH.k;refine cB [.par 0,.par 1] L121 ?_;simp[L121,eU,laid,Ct.pv,hf,hk]
theorem ZqO:aC prog 51 [.emp (some true)] (.emp (some true)):=by
 refine cS L51 ?_;simp[L51,dI]
end
section
attribute [local irreducible] Bk.held Bk.nums Bk.span Bk.uR
theorem OC:zH prog (pM P4) L77.code:=Hb L77_ok L77_tab
def pA:Option (List Int)->PV
 |none=>.emp (some true)
 |some l=>.aF false 1 (l.map aO)
noncomputable def i7 (b:Bk)(es hs em:List (PV×PV))(n:Int)(s:Option (List Int)):List aJ:=[.loop (fX prog 77 0) [72] 136 [(11,.ptr (.par 2) 0),(12,.ptr (.par 5) 0),(14,.ptr (.par 7) 0),(16,.ptr (.par 1) 0)] none,
 .cells [.pv (pA s)],.cells [.fn 121 [] [.ptr (.par 3) 0]],.cells [.mp (.par 4)],.map hs,.cells [.mp (.par 6)],.map em,.cells [.pv (.i n)],iB (.par 9),.cells (aX b (.par 10) (gD [])),.map es]
def Gm (b:Bk)(n:Int)(s:Option (List Int))(c:Ct):Option (List Int):=match(b.held []).contains c.num with
 |true=>iF s (b.uR c.num++[n])
 |false=>s
def ZrZ (s:Option (List Int)):Prop:=∀l,s=some l->l≠[]/\l.length<=1001
noncomputable def WR (b:Bk)(es hs em:List (PV×PV))(n:Int)(s:Option (List Int))(y:Ct)(a:AV)(B:List (Site×aJ)):AS:=⟨[(11,.ptr (.par 2) 0),(12,.ptr (.par 5) 0),(14,.ptr (.par 7) 0),(16,.ptr (.par 1) 0),(17,.ptr (.loc 17 0) 0),(77,a),(79,.vec (.loc 79 0) 1 0 1)],
 (laid 0 (i7 b es hs em n s)).drop 1++((.loc 17 0,.cells [.pv (.i y.num),.pv (.i y.it),.pv (.i y.src),.pv (.i y.day),.pv (.i y.valid),.pv (.i y.diff.lo),.pv (.i y.diff.hi)])::(.loc 79 0,.arr 3 1 [.i n])::B)⟩
noncomputable def OE (b:Bk)(hb:b.ok)(es hs em:List (PV×PV))(hH:mY (fun n=>(b.held []).contains n) hs)(n:Int)(hE:z8 b n em):Cons prog where
 m:=11
 S:=Option (List Int)
 X:=i7 b es hs em n
 step s x:=(Gm b n s (JQ x),true)
 good x:=∃c:Ct,c.num<n/\x=c.pv
 live:=ZrZ
 m0:=by omega
 len _:=rfl
 cl c:=by
  intro bx hb;simp only[i7,jT,List.not_mem_nil,or_false]at hb;rcases hb with rfl|rfl|rfl|rfl|rfl|rfl|rfl|rfl|rfl|rfl|rfl
  all_goals first|rfl|simp[aX,Site.lt,J0]
 goes s x hs hx _:=by
  obtain⟨y,hy,rfl⟩:=hx;rw[Gt];have hl:=Hi (b:=b) (n:=y.num);intro l lL;unfold Gm at lL;split at lL
  .unfold iF at lL;split at lL
   .cases lL;exact⟨by simp,by rw[gF];simp;omega⟩
   .split at lL
    .cases lL;exact⟨by simp,by rw[gF];simp;omega⟩
    .exact hs l lL
  .exact hs l lL
 sV s x hc hx:=by
  obtain⟨y,hy,rfl⟩:=hx;rw[Gt];have oW:zH prog (pM P4) (.vM 136 (.t 71) (fX prog 77 0) Y77_0a Y77_0b [72]):=OC.2.2.2.2.2.1.2.2.2.1.2.2.2.2.1.2;have hf:=hE.f y.num hy;have hk:=hE.k;have mS:=Zj6 _ hs hH y;have hlen:=Hi (b:=b) (n:=y.num);have M6:=fun h:(b.held []).contains y.num=true=>(KU hb h).2
  have kG:Gm b n s y=match(b.held []).contains y.num with
   |true=>iF s (b.uR y.num++[n])
   |false=>s:=rfl
  rw[kG];clear kG;generalize b.uR y.num=E at *;generalize DP:(b.held []).contains y.num=v at *;refine YW mixed oW.1 oW.2.1 rfl rfl (by simp) rfl ?_;cases v
  .rw[if_neg (by simp)]at hf;simp[-getElem?_pos,-List.getElem?_map,Y77_0a,Y77_0b,i7,laid,qR,Ct.pv,iB,aX,hk,hf];refine KP (WR b es hs em n s y (.pv (.emp (some true))) []) ?_ ?_
   .simp[-getElem?_pos,-List.getElem?_map,gL,gS];refine⟨?_,?_⟩
    all_goals
     refine cQ [] [.emp (some true)] ZqO ?_;simp[-getElem?_pos,-List.getElem?_map,aL,gL,gS];refine Sub.mk ?_ ?_
     .simp
     .simp[i7,laid,iB,aX]
   .simp[-getElem?_pos,-List.getElem?_map,gL,gS,WR,i7,laid,iB,aX,aN];refine cM [.pv y.pv,.ptr (.par 0) 0] (laid 0 (eU hs 0)) 83 [.par 3,.par 4] (by simp[laid,eU]) mS (by simp[laid,eU]) ?_;simp[-getElem?_pos,-List.getElem?_map,laid,eU,-aT];exact⟨[],[.par 1,.par 2,.par 3,.par 4,.par 5,.par 6,.par 7,.par 8,.par 9,.par 10],rfl,rfl,by simp[aY],rfl,by simp[aY]⟩
  .rw[if_pos rfl]at hf;simp[-getElem?_pos,-List.getElem?_map,Y77_0a,Y77_0b,i7,laid,qR,Ct.pv,iB,aX,hk,hf];refine KP (WR b es hs em n s y (.vec (.loc 77 0) 1 0 E.length) [(.loc 77 0,.arr 3 1 (E.map aO))]) ?_ ?_
   .simp[-getElem?_pos,-List.getElem?_map,gL,gS];refine⟨?_,?_⟩
    all_goals
     refine ZqV [] (fs:=[]) (xs:=[.aF false 1 (E.map aO)]) (cs:=[]) rfl rfl (ZjU E (M6 rfl) (by omega)) ?_;simp[-getElem?_pos,-List.getElem?_map,aL,gL,gS];refine Sub.mk ?_ ?_
     .simp[WR]
     .simp[WR,i7,laid,iB,aX]
   .have JL:E.length<=999999:=by omega
    have WM:(E.map aO).take E.length=E.map aO:=fQ (by simp);have DY:(E.map aO++[PV.i n]).take (E.length+1)=E.map aO++[PV.i n]:=fQ (by simp);simp[-getElem?_pos,-List.getElem?_map,gL,gS,WR,i7,laid,iB,aX,aN,JL];refine cM [.pv y.pv,.ptr (.par 0) 0] (laid 0 (eU hs 0)) 83 [.par 3,.par 4] (by simp[laid,eU]) mS (by simp[laid,eU]) ?_;cases s with
    |none=>
     simp[-getElem?_pos,-List.getElem?_map,laid,eU,pA,dI,-aT];exact⟨[.loc 80 0],[.par 1,.par 2,.par 3,.par 4,.par 5,.par 6,.par 7,.par 8,.par 9,.par 10],rfl,rfl,by simp[aY,AS.cJ,AV.cJ,AV.aY,aJ.cJ,GA,eD,DY],rfl,by simp[aY,AS.cJ,AV.cJ,AV.aY,aJ.cJ,GA,eD,DY,iF,aO]⟩
    |some l=>
     obtain⟨AJ,pG⟩:=hc l rfl;have qW:dI .sl (.pv (.aF false 1 (l.map aO)))=some false:=by
      cases l with
      |nil=>exact absurd rfl AJ
      |cons a r=>rfl
     have Wc:=Zly (E++[n]) l (by rw[gF];simp;omega) (by omega);have aI:=ZoS (E++[n]) l;have bS:iF (some l) (E++[n])=if sO (E++[n]) l=true then some (E++[n])else some l:=rfl;rw[bS];simp[-getElem?_pos,-List.getElem?_map,laid,eU,pA,qW,-aT];refine gH (k:=0) (fs:=[]) (xs:=[.aF false 1 ((E++[n]).map aO),.aF false 1 (l.map aO)]) (cs:=[]) rfl (by simp[jL,AV.snap,AV.GK,aO];try exact DY) Wc rfl ?_;cases hd:sO (E++[n]) l
     .rw[hd]at aI;simp[-getElem?_pos,-List.getElem?_map,-decide_eq_true_eq,-decide_eq_false_iff_not,aI,-aT];exact⟨[],[.par 1,.par 2,.par 3,.par 4,.par 5,.par 6,.par 7,.par 8,.par 9,.par 10],rfl,rfl,by simp[aY],rfl,by simp[aY]⟩
     .rw[hd]at aI;simp[-getElem?_pos,-List.getElem?_map,-decide_eq_true_eq,-decide_eq_false_iff_not,aI,-aT];exact⟨[.loc 80 0],[.par 1,.par 2,.par 3,.par 4,.par 5,.par 6,.par 7,.par 8,.par 9,.par 10],rfl,rfl,by simp[aY,AS.cJ,AV.cJ,AV.aY,aJ.cJ,GA,eD,DY],rfl,by simp[aY,AS.cJ,AV.cJ,AV.aY,aJ.cJ,GA,eD,DY,aO]⟩
end
section
attribute [local irreducible] Bk.held Bk.nums Bk.span Bk.uR
noncomputable def OD (b:Bk)(es hs em:List (PV×PV))(s:Option (List Int)):List aJ:=[.loop (fX prog 77 1) [115] 136 [(11,.ptr (.par 2) 0),(12,.ptr (.par 5) 0),(19,.ptr (.par 1) 0)] none,
 .cells [.pv (pA s)],.cells [.fn 121 [] [.ptr (.par 3) 0]],.cells [.mp (.par 4)],.map hs,.cells [.mp (.par 6)],.map em,iB (.par 8),.cells (aX b (.par 9) (gD [])),.map es]
def Gn (b:Bk)(s:Option (List Int))(c:Ct):Option (List Int):=match(b.held []).contains c.num with
 |true=>iF s (b.uR c.num)
 |false=>s
noncomputable def TG (b:Bk)(hb:b.ok)(es hs em:List (PV×PV))(hH:mY (fun n=>(b.held []).contains n) hs)(hE:z8 b 1000 em):Cons prog where
 m:=10
 S:=Option (List Int)
 X:=OD b es hs em
 step s x:=(Gn b s (JQ x),true)
 good x:=∃c:Ct,c.num<1000/\x=c.pv
 live:=ZrZ
 m0:=by omega
 len _:=rfl
 cl c:=by
  intro bx hb;simp only[OD,jT,List.not_mem_nil,or_false]at hb;rcases hb with rfl|rfl|rfl|rfl|rfl|rfl|rfl|rfl|rfl|rfl
  all_goals first|rfl|simp[aX,Site.lt,J0]
 goes s x hs hx _:=by
  obtain⟨y,hy,rfl⟩:=hx;rw[Gt];have hl:=Hi (b:=b) (n:=y.num);intro l lL;unfold Gn at lL;split at lL
  .rename_i hh;have dA:=(KU hb hh).2;unfold iF at lL;split at lL
   .cases lL;exact⟨dA,by omega⟩
   .split at lL
    .cases lL;exact⟨dA,by omega⟩
    .exact hs l lL
  .exact hs l lL
 sV s x hc hx:=by
  obtain⟨y,hy,rfl⟩:=hx;rw[Gt];have oW:zH prog (pM P4) (.vM 136 (.t 114) (fX prog 77 1) Y77_1a Y77_1b [115]):=OC.2.2.2.2.2.2.2.1.2;have hf:=hE.f y.num hy;have hk:=hE.k;have mS:=Zj6 _ hs hH y;have hlen:=Hi (b:=b) (n:=y.num);have M6:=fun h:(b.held []).contains y.num=true=>(KU hb h).2
  have kG:Gn b s y=match(b.held []).contains y.num with
   |true=>iF s (b.uR y.num)
   |false=>s:=rfl
  rw[kG];clear kG;generalize b.uR y.num=E at *;generalize DP:(b.held []).contains y.num=v at *;refine YW mixed oW.1 oW.2.1 rfl rfl (by simp) rfl ?_;cases v
  .rw[if_neg (by simp)]at hf;simp[-getElem?_pos,-List.getElem?_map,Y77_1a,Y77_1b,OD,laid,qR,Ct.pv,iB,aX,hk,hf];refine cM [.pv y.pv,.ptr (.par 0) 0] (laid 0 (eU hs 0)) 122 [.par 3,.par 4] (by simp[laid,eU]) mS (by simp[laid,eU]) ?_;simp[-getElem?_pos,-List.getElem?_map,laid,eU,-aT];exact⟨[],[.par 1,.par 2,.par 3,.par 4,.par 5,.par 6,.par 7,.par 8,.par 9],rfl,rfl,by simp[aY],rfl,by simp[aY]⟩
  .rw[if_pos rfl]at hf;simp[-getElem?_pos,-List.getElem?_map,Y77_1a,Y77_1b,OD,laid,qR,Ct.pv,iB,aX,hk,hf];refine cM [.pv y.pv,.ptr (.par 0) 0] (laid 0 (eU hs 0)) 122 [.par 3,.par 4] (by simp[laid,eU]) mS (by simp[laid,eU]) ?_;cases s with
   |none=>
    simp[-getElem?_pos,-List.getElem?_map,laid,eU,pA,dI,-aT];exact⟨[],[.par 1,.par 2,.par 3,.par 4,.par 5,.par 6,.par 7,.par 8,.par 9],rfl,rfl,by simp[aY],rfl,by simp[aY,iF]⟩
   |some l=>
    obtain⟨AJ,pG⟩:=hc l rfl;have qW:dI .sl (.pv (.aF false 1 (l.map aO)))=some false:=by
     cases l with
     |nil=>exact absurd rfl AJ
     |cons a r=>rfl
    have Wc:=Zly E l (by omega) (by omega);have aI:=ZoS E l;have bS:iF (some l) E=if sO E l=true then some E else some l:=rfl;rw[bS];simp[-getElem?_pos,-List.getElem?_map,laid,eU,pA,qW,-aT];refine cG [.aF false 1 (E.map aO),.aF false 1 (l.map aO)] Wc ?_;cases hd:sO E l
    .rw[hd]at aI;simp[-getElem?_pos,-List.getElem?_map,-decide_eq_true_eq,-decide_eq_false_iff_not,aI,-aT];exact⟨[],[.par 1,.par 2,.par 3,.par 4,.par 5,.par 6,.par 7,.par 8,.par 9],rfl,rfl,by simp[aY],rfl,by simp[aY]⟩
    .rw[hd]at aI;simp[-getElem?_pos,-List.getElem?_map,-decide_eq_true_eq,-decide_eq_false_iff_not,aI,-aT];exact⟨[],[.par 1,.par 2,.par 3,.par 4,.par 5,.par 6,.par 7,.par 8,.par 9],rfl,rfl,by simp[aY],rfl,by simp[aY,aX,aO]⟩
theorem ZoT {b:Bk}{hb:b.ok}{es hs em:List (PV×PV)}{hH:mY (fun n=>(b.held []).contains n) hs}{n:Int}{hE:z8 b n em}:∀(l:List Ct) (s:Option (List Int)),(OE b hb es hs em hH n hE).run s (lV l)=((((l.filter fun c=>(b.held []).contains c.num).map fun c=>b.uR c.num++[n])).foldl iF s,true)
 |[],s=>rfl
 |x::l,s=>by
  show(OE b hb es hs em hH n hE).run (Gm b n s x) (lV l)=_;rw[ZoT l];unfold Gm;cases h:(b.held []).contains x.num
  .simp only[xT,h,Bool.false_eq_true,if_false];rfl
  .simp only[xT,h,if_true,iS,List.foldl_cons];rfl
theorem ZoR {b:Bk}{hb:b.ok}{es hs em:List (PV×PV)}{hH:mY (fun n=>(b.held []).contains n) hs}{hE:z8 b 1000 em}:∀(l:List Ct) (s:Option (List Int)),(TG b hb es hs em hH hE).run s (lV l)=((((l.filter fun c=>(b.held []).contains c.num).map fun c=>b.uR c.num)).foldl iF s,true)
 |[],s=>rfl
 |x::l,s=>by
  show(TG b hb es hs em hH hE).run (Gn b s x) (lV l)=_;rw[ZoR l];unfold Gn;cases h:(b.held []).contains x.num
  .simp only[xT,h,Bool.false_eq_true,if_false];rfl
  .simp only[xT,h,if_true,iS,List.foldl_cons];rfl
end
section
attribute [local irreducible] Bk.held Bk.nums Bk.span Bk.uR
def JP (b:Bk)(n:Int):PV:=.aF false 1 ((b.uR n).map aO)
def mU (b:Bk)(k:Nat):List (PV×PV):=nY id (JP b) ((b.nums.take k).filter fun n=>(b.held []).contains n)
theorem ZqD {b:Bk}(hb:b.ok){k:Nat}{n:Int}(h:b.nums[k]?=some n):z8 b n (mU b k):=by
 refine⟨PB,fun m hm=>?_⟩;unfold mU;rw[KV,Gv];cases hc:(b.held []).contains m
 .rw[if_neg (by rw[iZ,hc];simp),if_neg (by simp)];rfl
 .rw[if_pos (by
   rw[iZ,Nz h];exact⟨⟨Gi hb (jI.1 hc),hm⟩,hc⟩),if_pos rfl];rfl
theorem Zox {b:Bk}(hb:b.ok):z8 b 1000 (mU b b.nums.length):=by
 refine⟨PB,fun m hm=>?_⟩;unfold mU;rw[KV,Gv,nD];cases hc:(b.held []).contains m
 .rw[if_neg (by rw[iZ,hc];simp),if_neg (by simp)];rfl
 .rw[if_pos (by
   rw[iZ];exact⟨Gi hb (jI.1 hc),hc⟩),if_pos rfl];rfl
theorem Zow {b:Bk}{k:Nat}{n:Int}(h:b.nums[k]?=some n)(hx:(b.held []).contains n=false):mU b (k+1)=mU b k:=by
 unfold mU;rw[mV,h,I2]
 have:(Option.some n).toList.filter (fun n=>(b.held []).contains n)=[]:=by
  simp only[Option.toList,xT,hx,List.filter_nil];rfl
 rw[this,xC]
theorem ZqC {b:Bk}{k:Nat}{n:Int}(h:b.nums[k]?=some n)(hx:(b.held []).contains n=true):mM (.i n) (JP b n) (mU b k)=mU b (k+1):=by
 unfold mU;rw[Hp (fun x hm=>?_),mV,h,I2]
 .have:(Option.some n).toList.filter (fun n=>(b.held []).contains n)=[n]:=by
   simp only[Option.toList,xT,hx,List.filter_nil];rfl
  rw[this];unfold nY;rw[mL];rfl
 .have:=(Nz h).1 (iZ.1 hm).1
  show x≠n;omega
def V0 (b:Bk)(n:Int):Option (List Int):=(((b.rH (b.get n).src (b.get n).day n).filter fun c=>(b.held []).contains c.num).map fun c=>b.uR c.num++[n]).foldl iF none
theorem ZtS {b:Bk}(hb:b.ok){n:Int}(hn:n∈b.nums)(hx:(b.held []).contains n=true)(hs:(b.item (b.get n).src).gZ=false):V0 b n=some (b.uR n):=by
 rw[<-(KU hb hx).1];have JF:=Gw hb n hn;obtain⟨nn,rfl⟩:∃nn:Nat,n=nn:=⟨n.toNat,by omega⟩;rw[Zot hb (YF hb) (by omega) hn,if_neg (by simp[hs])];obtain⟨sB,oB⟩:=V8 hb hn;refine Ziy fun x=>?_
 rw[iN,List.mem_filterMap];constructor
 .rintro⟨c,hc,rfl⟩;rw[iZ]at hc;obtain⟨h1,h2⟩:=(BG hb).1 hc.1;refine⟨c.num,?_,?_⟩
  .rw[iZ];refine⟨jI.1 hc.2,?_⟩;rw[x7 hb h1,Nx,oB];exact h2
  .rw[(KU hb hc.2).1];rfl
 .rintro⟨m,hm,rX⟩;rw[iZ]at hm;obtain⟨zQ,nK⟩:=hm;have RA:=YF hb m zQ;obtain⟨g1,g2⟩:=V8 hb RA;have Cj:(b.held []).contains m=true:=jI.2 zQ;rw[(KU hb Cj).1]at rX;refine⟨b.get m,?_,?_⟩
  .rw[iZ,BG hb,g2];refine⟨⟨g1,?_⟩,Cj⟩;rw[Nx,oB]at nK;exact nK
  .rw[g2];simpa using rX
theorem ZqA {b:Bk}(hb:b.ok){n:Int}(hn:n∈b.nums)(hs:(b.item (b.get n).src).gZ=true):b.uR n=[n]:=by
 have JF:=Gw hb n hn;obtain⟨nn,rfl⟩:∃nn:Nat,n=nn:=⟨n.toNat,by omega⟩;unfold Bk.uR;rw[Zot hb (YF hb) (by omega) hn,if_pos hs];rfl
def Bk.GI (b:Bk)(item day:Int):List Int:=(b.Fs (b.held []) item day).getD []
def Bk.j6 (b:Bk)(item day:Int):List Int×Int:=if b.vD item day=0 then(if(b.item item).gZ=true then([],0)else(b.GI item day,0))else([],b.vD item day)
def zY (b:Bk)(item day:Int):Option (List Int):=(((b.rH item day 1000).filter fun c=>(b.held []).contains c.num).map fun c=>b.uR c.num).foldl iF none
theorem Zq8 {b:Bk}(hb:b.ok){item day:Int}:zY b item day=b.Fs (b.held []) item day:=by
 rw[Zq9];refine Ziy fun x=>?_
 rw[iN,List.mem_filterMap];constructor
 .rintro⟨c,hc,rfl⟩;rw[iZ]at hc;obtain⟨h1,h2⟩:=(BG hb).1 hc.1;refine⟨c.num,?_,(KU hb hc.2).1⟩;rw[iZ];refine⟨jI.1 hc.2,?_⟩;rw[x7 hb h1];unfold Bk.qA at h2;rw[dK]at h2;exact h2.2
 .rintro⟨m,hm,rX⟩;rw[iZ]at hm;obtain⟨zQ,nK⟩:=hm;have RA:=YF hb m zQ;have JF:=Gw hb m RA;obtain⟨g1,g2⟩:=V8 hb RA;have Cj:(b.held []).contains m=true:=jI.2 zQ;rw[(KU hb Cj).1]at rX;refine⟨b.get m,?_,?_⟩
  .rw[iZ,BG hb,g2];refine⟨⟨g1,?_⟩,Cj⟩;unfold Bk.qA;rw[dK];exact⟨by rw[g2];simp;omega,nK⟩
  .rw[g2];simpa using rX
theorem Zmi {b:Bk}(hb:b.ok){item day:Int}(hs:(b.item item).gZ=false)(hh:b.qM item day=true):zY b item day=some (b.GI item day)/\b.GI item day≠[]/\(b.GI item day).length<=1000:=by
 have he:zY b item day=b.Fs (b.held []) item day:=Zq8 hb;unfold Bk.qM at hh;rw[hs,Bool.false_or,pB]at hh;obtain⟨c,NL,FY⟩:=hh;have dA:(((b.rH item day 1000).filter fun c=>(b.held []).contains c.num).map fun c=>b.uR c.num)≠[]:=by
  intro e
  have:c∈(b.rH item day 1000).filter fun c=>(b.held []).contains c.num:=iZ.2 ⟨NL,FY⟩
  rw[List.map_eq_nil_iff]at e;rw[e]at this;cases this
 unfold Bk.GI;rw[<-he];cases nS:zY b item day with
 |none=>
  exact absurd (LB.1 nS) dA
 |some l=>
  refine⟨rfl,?_⟩;have hm:=(PD nS).1;rw[iN]at hm;obtain⟨o,ho,rfl⟩:=hm;exact⟨(KU hb (iZ.1 ho).2).2,Hi⟩
end
theorem Nt {α:Type}{l:List α}{p:α->Bool}{k:Nat}{x:α}(h:∀(j:Nat) (x:α),j<k->l[j]?=some x->p x=true)(hx:l[k]?=some x)(hp:p x=true):∀(j:Nat) (x:α),j<k+1->l[j]?=some x->p x=true:=fun j y hj hy=>by
 rcases Nat.lt_succ_iff_lt_or_eq.1 hj with e|e
 .exact h j y e hy
 .subst e;rw[hx]at hy;cases hy;exact hp
theorem Ma {α:Type}{l:List α}{p:α->Bool}{k:Nat}{x:α}(hx:l[k]?=some x)(hp:p x=false):l.all p=false:=by
 rw[List.all_eq_false];exact⟨x,dL hx,by simp[hp]⟩
theorem Nn {α:Type}{l:List α}{p:α->Bool}(h:∀(j:Nat) (x:α),j<l.length->l[j]?=some x->p x=true):l.all p=true:=by
 rw[rM];intro x hx;obtain⟨j,hj⟩:=iO.1 hx;exact h j x (cD.1 hj).1 hj
def Ct.cells (c:Ct):List AV:=[.pv (.i c.num),.pv (.i c.it),.pv (.i c.src),.pv (.i c.day),.pv (.i c.valid),.pv (.i c.diff.lo),.pv (.i c.diff.hi)]
theorem XY {α:Type}{l:List α}{p:α->Bool}{k:Nat}{x:α}(hx:l[k]?=some x):(l.take (k+1)).any p=((l.take k).any p||p x):=by
 rw[mV,hx,List.any_append];simp
theorem Zej {b:Bk}(hb:b.ok){c:Ct}(hc:c∈b.aA):IntKind.i64.wrap (c.day+c.valid)=c.day+c.valid:=by
 obtain⟨_,_,_,_,_,_,_,_,h1,h2,h3,h4,_⟩:=xE hb hc;exact wrap64 (by omega)
theorem Nj {b:Bk}{i:Int}(h0:0<=i)(h1:i<b.items.length):∃j:Nat,i=j/\j<b.items.length/\∃z,b.items[j]?=some z/\b.item i=z/\(b.items.map It.pv)[j]?=some (.agg [.i z.dR,.bool z.gZ,.i z.val.lo,.i z.val.hi]):=by
 have hz:b.items[i.toNat]?=some (b.items[i.toNat]'(by omega)):=bC _;refine⟨i.toNat,by omega,by omega,_,hz,?_,?_⟩
 .unfold Bk.item;rw[hz];rfl
 .rw[bY,hz];rfl
theorem zX {b:Bk}{k:Nat}(h:k<b.aA.length):∃o,b.aA[k]?=some o/\o∈b.aA/\(b.aA.map Ct.pv)[k]?=some (.agg [.i o.num,.i o.it,.i o.src,.i o.day,.i o.valid,.i o.diff.lo,.i o.diff.hi]):=by
 have hz:b.aA[k]?=some (b.aA[k]'h):=bC _;exact⟨_,hz,dL hz,by rw[bY,hz];rfl⟩
theorem wO (l:List Int)(n:Int)(hl:l.length<=1000000):aC prog 70 [.aF false 1 (l.map aO),.i n] (.bool (l.contains n)):=by
 obtain⟨T,hT⟩:∃T,T=l.contains n:=⟨_,rfl⟩;rw[<-hT];refine cS L70 ?_;simp[L70];refine eP (fun m τ=>∃k:Nat,k<=l.length/\m=l.length-k/\(∀(j:Nat) (x:Int),j<k->l[j]?=some x->decide (x=n)=false)/\τ=⟨[(0,.pv (.aF false 1 (l.map aO))),(1,.pv (.i n)),(5,.pv (.i k))],[]⟩) ⟨l.length,⟨[(0,.pv (.aF false 1 (l.map aO))),(1,.pv (.i n)),(5,.pv (.i 0))],[]⟩,Sub.mk (by simp) (by simp),0,gW _,rfl,(fun j x hj=>by omega),rfl⟩ ?_;rintro J hJ m τ ⟨k,hk,rfl,hinv,rfl⟩;by_cases aI:k<l.length
 .obtain⟨x,hx⟩:∃x,l[k]?=some x:=⟨l[k],bC aI⟩;have oT:(l.map aO)[k]?=some (.i x):=by rw[bY,hx];rfl
  have hw:=bK (k:=k) (by omega);cases hc:decide (x=n)
  .have aB:=hJ _ _ ⟨k+1,aI,rfl,(fun j y hj hy=>by
    rcases Nat.lt_succ_iff_lt_or_eq.1 hj with h'|h'
    .exact hinv j y h' hy
    .subst h';rw[hx]at hy;cases hy;exact hc),rfl⟩
   simp[-decide_eq_true_eq,-decide_eq_false_iff_not,aI,↓oT,hw,hc];exact⟨_,_,(by omega:l.length-(k+1)<l.length-k),Sub.mk (by simp) (by simp),aB⟩
  .have Ea:T=true:=by
    rw[hT,jI];simp only[decide_eq_true_eq]at hc;rw[<-hc];exact dL hx
   simp[-decide_eq_true_eq,-decide_eq_false_iff_not,aI,↓oT,hc,Ea]
 .have he:k=l.length:=by omega
  subst he;have Ea:T=false:=by
   rw[hT];cases hc:l.contains n
   .rfl
   .obtain⟨j,hj⟩:=iO.1 (jI.1 hc)
    have:=hinv j n (cD.1 hj).1 hj
    simp at this
  simp[Ea]
section
attribute [local irreducible] Bk.held Bk.nums Bk.span Bk.uR Bk.GI V0 zY
def Lh (b:Bk)(item day:Int)(es hs:List (PV×PV))(k:Nat):AS:=⟨[(1,.pv (.i item)),(2,.pv (.i day)),(8,.ptr (.loc 26 0) 0),(11,.ptr (.loc 11 0) 0),(12,.ptr (.loc 12 0) 0),(49,.pv (.aF false 1 (b.nums.map aO))),(50,.pv (.i b.nums.length)),(51,.pv (.i k))],
 [(.loc 45 0,.map (mU b k)),(.loc 12 0,.cells [.mp (.loc 45 0)]),(.loc 11 0,.cells [.fn 121 [] [.ptr (.loc 9 0) 0]]),(.loc 9 0,.cells [.mp (.loc 26 2)]),(.loc 26 0,.cells (aX b (.loc 26 1) (gD []))),(.loc 26 1,.map es),(.loc 26 2,.map hs)]⟩
theorem Zvv (b:Bk)(hi:b.items.length<=1000)(hc:b.aA.length<=1000)(item day:Int):cU prog 77 ([b.pv,.i item,.i day].map .pv) [] (fun r B=>r=.pv (K2 (b.j6 item day))/\B=[]):=by
 have SD:=Zo2 b hi hc item day;refine cU.j5 ?_;refine Q6 [.loc 135 0] L77 ?_;intro R hR;simp[L77,Bk.pv,-aT];refine cL [.pv b.pv,.pv (.i item),.pv (.i day)] [] 26 [] rfl SD ?_
 rintro r0 B0 (⟨h0,rfl,rfl⟩|⟨h0,AN,hit,Vt,hih,es,lE,rfl,rfl⟩)
 .refine⟨rfl,by simp,?_⟩;have hd:decide (b.vD item day=0)=false:=by simpa using h0
  simp[-decide_eq_true_eq,-decide_eq_false_iff_not,hd];rw[<-hR];exact⟨_,rfl,rfl,XX (by unfold Bk.j6;rw[if_neg h0])⟩
 have hb:b.ok:=Bk.R6.1 AN;have hH:=UL hb [];have hlen:=YB (b:=b);obtain⟨si,rfl,M1,z,hz,F2,qF⟩:=Nj (b:=b) (i:=item) (by unfold Bk.uT jD at hit;simp only[dK,decide_eq_true_eq]at hit;omega) (by unfold Bk.uT jD at hit;simp only[dK,decide_eq_true_eq]at hit;omega);refine⟨rfl,by simp[aX],?_⟩;generalize kP b [] b.nums.length=hs at *;cases IE:z.gZ
 case true=>
  rw[IE]at qF;simp[aX,aS,qF];rw[<-hR];exact⟨_,rfl,rfl,XX (by unfold Bk.j6;rw[if_pos h0,if_pos (by rw[F2];exact IE)])⟩
 case false=>
 rw[IE]at qF;simp[aX,aS,qF,-aT];refine eP (fun n τ=>∃k:Nat,k<=b.nums.length/\n=b.nums.length-k/\τ=Lh b si day es hs k) ⟨b.nums.length,Lh b si day es hs 0,Sub.mk (by simp) (by simp[aX,aS,mU,nY]),0,gW _,rfl,rfl⟩ ?_;rintro J hJ n τ ⟨k,hk,rfl,rfl⟩;by_cases aI:k<b.nums.length
 .obtain⟨x,hx⟩:∃x,b.nums[k]?=some x:=⟨b.nums[k],bC aI⟩;have xL:=dL hx;have oT:(b.nums.map aO)[k]?=some (.i x):=by rw[bY,hx];rfl
  have hw:=bK (k:=k) (by omega);have aH:b.nums.length-(k+1)<b.nums.length-k:=by omega
  obtain⟨sB,oB⟩:=V8 hb xL;have mK:=lE.f x;rw[if_pos xL]at mK;have T9:=lE.k;have jR:=xE hb sB;have aB:=hJ _ _ ⟨k+1,aI,rfl,rfl⟩;have nJ:=ZqC hx;have M0:=Zow hx;have NW:=ZqD hb hx;have hek:=NW.k;have QO:=ZqA hb xL;have CV:=ZtS hb xL;have NO:=Zj6 _ hs hH (b.get x);have hit:=Gk (OE b hb es hs (mU b k) hH x NW) b hb [] es lE 8 9 10 (fun c _=>⟨rfl,rfl⟩) (fun c _=>rfl) (b.get x).src (b.get x).day x none (fun l h=>by cases h) (fun c hc=>⟨c,by
   have:=((BG hb).1 hc).2
   unfold Bk.qA at this;simp only[dK,decide_eq_true_eq]at this;exact this.1,rfl⟩)
  have dG:(OE b hb es hs (mU b k) hH x NW).run none (lV (b.rH (b.get x).src (b.get x).day x))=(V0 b x,true):=by rw[ZoT];unfold V0;rfl
  rw[dG]at hit;clear hJ dG;unfold Lh at aB ⊢;have gP:=fun s=>(OE b hb es hs (mU b k) hH x NW).cl s
  generalize mU b k=em at *;generalize b.get x=y at *;obtain⟨yn,yi,ys,yd,yv,⟨yl,yh⟩⟩:=y;simp only at oB jR hit QO CV NO;subst oB;unfold Ct.pv at mK;obtain⟨sj,rfl⟩:∃sj:Nat,ys=sj:=⟨ys.toNat,by omega⟩;obtain⟨nn,rfl⟩:∃nn:Nat,yn=nn:=⟨yn.toNat,by omega⟩;have CW:sj<b.items.length:=by omega
  obtain⟨u,hu⟩:∃u,b.items[sj]?=some u:=⟨b.items[sj],bC CW⟩;have Cy:(b.items.map It.pv)[sj]?=some (.agg [.i u.dR,.bool u.gZ,.i u.val.lo,.i u.val.hi]):=by rw[bY,hu];rfl
  have hui:b.item (sj:Int)=u:=by unfold Bk.item;rw[A1,hu];rfl
  rw[hui]at QO CV;simp[aX,aI,↓oT,T9,mK,-aT];refine cM [.pv (Ct.pv ⟨nn,yi,sj,yd,yv,⟨yl,yh⟩⟩),.ptr (.par 0) 0] (laid 0 (eU hs 0)) 63 [.loc 9 0,.loc 26 2] (by simp[laid,eU]) NO (by simp[laid,eU]) ?_;generalize DP:(b.held []).contains (nn:Int)=v at *;cases v
  .rw[M0 rfl]at aB;simp[laid,eU,hw,-aT];exact⟨_,_,aH,Sub.mk (by simp) (by simp[aX]),aB⟩
  have CV:=CV rfl;rw[<-nJ rfl]at aB;simp[laid,eU,-aT];refine cM [.ptr (.par 0) 0,.pv (.i sj),.pv (.i yd),.pv (.i nn)] (laid 0 (kK b [] es)) 71 [.loc 26 0,.loc 26 1] (by simp[laid,kK,aX]) (CE b [] es sj yd nn) (by simp[laid,kK,aX]) ?_;simp[laid,kK,aX,PO,-aT];refine YD [.loc 136 0,.loc 16 0,.loc 11 0,.loc 9 0,.loc 26 2,.loc 12 0,.loc 45 0,.loc 14 0,.loc 71 0,.loc 26 0,.loc 26 1] [(11,.ptr (.loc 11 0) 0),(12,.ptr (.loc 12 0) 0),(14,.ptr (.loc 14 0) 0),(16,.ptr (.loc 16 0) 0)] (gf:=138) (fs:=[]) (cs:=[.ptr (.loc 71 0) 0,.pv (.ref [.i nn]),.pv (.ref [.i sj]),.pv (.ref [.i yd])]) ?_ ?_ rfl rfl ?_ ?_ ?_ hit ?_
  .rfl
  .simp
  .simp[OE,i7,pA,laid,aX,iB]
  .rfl
  .rfl
  rintro r B' ⟨rfl,rfl⟩;refine⟨rfl,?_,?_⟩
  .exact fun p hp=>XW (n:=11) (L:=i7 b es hs em nn (V0 b nn)) (by simp[i7]) (gP (V0 b nn)) p hp
  refine⟨_,_,_,_,_,rfl,?_⟩;clear gP;generalize V0 b nn=M at *;have hgu':=Cy;cases rI:u.gZ
  .rw[rI]at Cy;have hM:=CV rI;subst hM;simp[OE,i7,laid,lB,aX,iB,pA,aS,↓Cy,hek,hw,-aT];exact⟨_,_,aH,Sub.mk (by simp) (by simp[aX,JP,aS]),aB⟩
  .rw[rI]at Cy;have hE:=QO rI;simp[OE,i7,laid,lB,aX,iB,pA,aS,↓Cy,CW,hek,hw,GA,eD,-aT];exact⟨_,_,aH,Sub.mk (by simp) (by simp[aX,JP,hE,aS,aO]),aB⟩
 have he:k=b.nums.length:=by omega
 subst he;clear hJ;have NW:=Zox hb;have uE:(b.item (si:Int)).gZ=false:=by rw[F2];exact IE
 obtain⟨hF,hL0,Kx⟩:=Zmi hb uE hih;have hM:b.j6 si day=(b.GI si day,0):=by unfold Bk.j6;rw[if_pos h0,if_neg (by rw[uE];simp)]
 have hit:=Gk (TG b hb es hs (mU b b.nums.length) hH NW) b hb [] es lE 7 8 9 (fun c _=>⟨rfl,rfl⟩) (fun c _=>rfl) si day 1000 none (fun l h=>by cases h) (fun c hc=>⟨c,by
  have:=((BG hb).1 hc).2
  unfold Bk.qA at this;simp only[dK,decide_eq_true_eq]at this;exact this.1,rfl⟩)
 have dG:(TG b hb es hs (mU b b.nums.length) hH NW).run none (lV (b.rH si day 1000))=(some (b.GI si day),true):=by rw[<-hF,ZoR];unfold zY;rfl
 rw[dG]at hit;have gP:=fun s=>(TG b hb es hs (mU b b.nums.length) hH NW).cl s
 have U6:=ZjU (b.GI si day) hL0 (by omega);rw[hM]at hR;clear dG hF hM;unfold Lh;generalize mU b b.nums.length=em at *;generalize b.GI si day=L at *;simp[aX,-aT];refine cM [.ptr (.par 0) 0,.pv (.i si),.pv (.i day),.pv (.i 1000)] (laid 0 (kK b [] es)) 114 [.loc 26 0,.loc 26 1] (by simp[laid,kK,aX]) (CE b [] es si day 1000) (by simp[laid,kK,aX]) ?_;simp[laid,kK,aX,PO,-aT];refine YD [.loc 136 0,.loc 19 0,.loc 11 0,.loc 9 0,.loc 26 2,.loc 12 0,.loc 45 0,.loc 114 0,.loc 26 0,.loc 26 1] [(11,.ptr (.loc 11 0) 0),(12,.ptr (.loc 12 0) 0),(19,.ptr (.loc 19 0) 0)] (gf:=138) (fs:=[]) (cs:=[.ptr (.loc 114 0) 0,.pv (.ref [.i 1000]),.pv (.ref [.i si]),.pv (.ref [.i day])]) ?_ ?_ rfl rfl ?_ ?_ ?_ hit ?_
 .rfl
 .simp
 .simp[TG,OD,pA,laid,aX,iB]
 .rfl
 .rfl
 rintro r B' ⟨rfl,rfl⟩;refine⟨rfl,?_,?_⟩
 .exact fun p hp=>XW (n:=10) (L:=OD b es hs em (some L)) (by simp[OD]) (gP (some L)) p hp
 refine⟨_,_,_,_,_,rfl,?_⟩;clear gP;simp[TG,OD,laid,lB,aX,iB,pA,-aT];refine cM [.pv (.aF false 1 (L.map aO))] [] 135 [] rfl U6 (by simp) ?_;have hLm:(L.map aO).take L.length=L.map aO:=fQ (by simp);simp[hLm,-aT];rw[<-hR];exact⟨_,rfl,rfl,fun m v h=>h⟩
end
theorem ZoU:aC prog 54 [.aF false 7 []] (.aF false 7 []):=by
 refine cU.j5 ?_;refine cF [.loc 7 0] L54 ?_;simp[L54,dI,y8,aN,cC,B9];exact fun m v h=>BF h
def fR (l:List Ct)(bad:List Int):List Ct:=l.filter (fun x=>!wX bad x)
def eO (l:List Ct)(bad:List Int):Bk:=⟨rE,fR l bad⟩
theorem Mq (l:List Ct)(bad:List Int)(c d e:PV)(hl:l.length<=1000)(hb:bad.length<=1000):cU prog 21 [.ptr (.par 0) 0] [(.par 0,aP (aK l) (.aF false 1 (bad.map iP)) c d e)] (fun r B=>r=.pv (eO l bad).pv/\B=[(.par 0,aP (aK l) (.aF false 1 (bad.map iP)) c d e)]):=by
 refine O2 [.par 0] L21 ?_;intro R hR;simp[L21,aP,aK];by_cases hn:l=[]
 .subst hn;simp only[List.map_nil];refine .inl (cQ [] [.aF false 7 []] ZoU ?_);simp;refine cM [.pv (.aF false 7 []),.fn 55 [] [.ptr (.par 0) 0]] (laid 0 ((eT.wk (.aF false 7 []) (.aF false 1 (bad.map iP)) c d e).b 0)) 11 [.loc 1 0,.par 0] (by simp[laid,eT.b,aP]) (Ew _ _ c d e) (by simp[laid,eT.b,aP]) ?_;simp[laid,eT.b,aP];refine .inl (cQ [] [] ZjB ?_);simp[<-hR,eO,fR,Bk.pv,aK,aS,aP]
 .refine .inl (R8 [] (fs:=[]) (xs:=[.aF false 7 (l.map Ct.pv)]) (cs:=[]) (d:=9) rfl rfl (Zg7 (l.map Ct.pv) (by rw[fZ];omega)) ?_);rintro r B (⟨h,rfl,rfl⟩|⟨rfl,rfl⟩)
  .exact absurd (List.map_eq_nil_iff.1 h) hn
  refine⟨by simp,?_⟩;simp;refine cL [.vec (.par 0) 7 0 l.length,.fn 55 [] [.ptr (.par 1) 0]] (laid 0 (.arr 131 7 (l.map Ct.pv)::(eT.wk (aK l) (.aF false 1 (bad.map iP)) c d e).b 1)) 11 [.loc 9 0,.loc 1 0,.par 0] (by simp[laid,eT.b,aP,aK]) (Eu (.wk _ _ c d e) (Ab _ c d e bad hb) l hl) ?_
  rintro r0 B0 ⟨rfl,X,hX,rfl⟩;refine⟨rfl,by simp[laid,eT.b,aP,aK],?_⟩;have WK:(X.map Ct.pv).take (fR l bad).length=(fR l bad).map Ct.pv:=by rw[<-List.map_take];exact congrArg _ hX
  have H8:(fR l bad).length<=X.length:=by
   have:=congrArg List.length hX
   rw[gM]at this;unfold fR;omega
  have hgf:(l.filter fun x=>!wX bad x)=fR l bad:=rfl;simp only[hgf];simp[laid,eT.b,aP,aK];refine .inl (cQ [.loc 9 0] [] ZjB ?_);simp[<-hR,eO,Bk.pv,aK,aS,aP,WK,H8]
theorem Hs (l:List Ct)(bad:List Int)(c d e:PV)(hl:l.length<=1000)(hb:bad.length<=1000)(fU item day rd:Int):cU prog 39 [.ptr (.par 0) 0,.pv (.agg [.i fU,.i item,.i day,.i rd])] [(.par 0,aP (aK l) (.aF false 1 (bad.map iP)) c d e)] (fun r B=>r=.pv (.bool (decide (((eO l bad).j6 item day).2=0)))/\B=[(.par 0,aP (aK l) (.aF false 1 (bad.map iP)) c d e)]):=by
 have mO:=Mq l bad c d e hl hb;have s8:=Zvv (eO l bad) (show rE.length<=1000 by decide) (by unfold eO fR;exact lM (Q7 _ _) hl) item day;refine O2 [.par 0] L39 ?_;intro R hR;simp[L39,aP];refine BK (fun τ=>τ=⟨[(9,.pv (eO l bad).pv),(11,.pv (.i item)),(13,.pv (.i day))],[(.par 0,aP (aK l) (.aF false 1 (bad.map iP)) c d e)]⟩) ?_ ?_
 .simp[gL,gS]
  repeat' apply And.intro
  all_goals
   refine cM [.ptr (.par 0) 0] [(.par 0,aP (aK l) (.aF false 1 (bad.map iP)) c d e)] 9 [.par 0] (by simp[aP]) mO (by simp[aP]) ?_;simp[aP];exact Sub.mk (by simp) (by simp)
 .rintro τ rfl;simp[gL,gS,aP];refine .inl (cQ [] [(eO l bad).pv,.i item,.i day] s8 ?_);simp[K2];rw[<-hR];exact⟨rfl,by simp[aP]⟩
theorem ZrR (l:List Ct)(bad:List Int)(c d e:PV)(hl:l.length<=1000)(hb:bad.length<=1000)(fU item day rd limit:Int)(dF:IntKind.i64.wrap (rd+((eO l bad).vF item day).1.lo)=rd+((eO l bad).vF item day).1.lo):cU prog 84 [.ptr (.par 0) 0,.pv (.agg [.i fU,.i item,.i day,.i rd]),.pv (.i limit)] [(.par 0,aP (aK l) (.aF false 1 (bad.map iP)) c d e)] (fun r B=>r=.pv (.bool (decide (limit<=rd+((eO l bad).vF item day).1.lo)))/\B=[(.par 0,aP (aK l) (.aF false 1 (bad.map iP)) c d e)]):=by
 have mO:=Mq l bad c d e hl hb;have s8:=Zvr (eO l bad) (show rE.length<=1000 by decide) (by unfold eO fR;exact lM (Q7 _ _) hl) item day;refine O2 [.par 0] L84 ?_;intro R hR;simp[L84,aP];refine BK (fun τ=>τ=⟨[(18,.pv (.i ((eO l bad).vF item day).2)),(7,.ptr (.loc 7 0) 0),(4,.ptr (.loc 4 0) 0),(2,.pv (.i limit))],[(.loc 7 0,.cells [.pv (.i ((eO l bad).vF item day).1.lo),.pv (.i ((eO l bad).vF item day).1.hi)]),(.loc 4 0,.cells [.pv (.i fU),.pv (.i item),.pv (.i day),.pv (.i rd)]),(.par 0,aP (aK l) (.aF false 1 (bad.map iP)) c d e)]⟩) ?_ ?_
 .simp[gL,gS]
  repeat' apply And.intro
  all_goals
   refine cM [.ptr (.par 0) 0] [(.par 0,aP (aK l) (.aF false 1 (bad.map iP)) c d e)] 11 [.par 0] (by simp[aP]) mO (by simp[aP]) ?_;simp[aP,gL,gS]
   repeat' apply And.intro
   all_goals
    refine .inl (cQ [] [(eO l bad).pv,.i item,.i day] s8 ?_);simp[MA,Cr.pv,gL,gS]
    repeat' apply And.intro
    all_goals exact Sub.mk (by simp) (by simp)
 .rintro τ rfl;simp[aP,dF];rw[<-hR];exact⟨rfl,by simp[aP]⟩
section
theorem Zue (l:List PV)(g:FuncId)(fs cs:List PV)(q:PV->Bool)(hq:∀x∈l,aC prog g (fs++[x]++cs) (.bool (q x)))(hl:l.length<=1000000)(hc:∀x∈l,∃a b c,x=.agg [.i a,.i b,.i c]):
  aC prog 227 [.aF false 3 l,.fn g fs cs] (.bool (l.any q)):=
 wY 273 (UC (row:=true) hq hl (fun x hx=>by obtain⟨a,b,c,rfl⟩:=hc x hx;exact⟨_,rfl,rfl⟩))
theorem Zrp (x:PV)(g:FuncId)(fs cs:List PV)(b:Bool)(hx:∃a b c,x=.agg [.i a,.i b,.i c])(hq:aC prog g (fs++[x]++cs) (.bool b)):
  aC prog 228 [x,.ref [.fn g fs cs]] (.bool (!b)):=by
 obtain⟨a,b,c,rfl⟩:=hx;refine cS L228 ?_;simp[L228];refine gH (k:=0) rfl rfl hq rfl ?_;simp
theorem Zui (l:List PV)(g:FuncId)(fs cs:List PV)(q:PV->Bool)(hq:∀x∈l,aC prog g (fs++[x]++cs) (.bool (q x)))(hl:l.length<=1000000)(hc:∀x∈l,∃a b c,x=.agg [.i a,.i b,.i c]):
  aC prog 180 [.aF false 3 l,.fn g fs cs] (.bool (l.all q)):=by
 refine cS L180 ?_;simp[L180];refine gH (k:=4) rfl rfl (Zue l 228 [] [.ref [.fn g fs cs]] (fun x=>!q x) (fun x hx=>Zrp x g fs cs (q x) (hc x hx) (hq x hx)) hl hc) rfl ?_;simp[List.not_any_eq_all_not]
theorem Qw:IntKind.i64.wrap 0=0:=by decide
theorem wr1:IntKind.i64.wrap 1=1:=by decide
theorem Jn:IntKind.i64.wrap 2=2:=by decide
theorem wr3:IntKind.i64.wrap 3=3:=by decide
theorem Jm:IntKind.i64.wrap 4=4:=by decide
theorem Jl:IntKind.i64.wrap 5=5:=by decide
theorem wr6:IntKind.i64.wrap 6=6:=by decide
attribute [local simp] Qw wr1 Jn wr3 Jm Jl wr6
theorem Zft (n low high:Int):aC prog 179 [.i n,.i low,.i high] (.bool (decide (low<=n)&&decide (n<=high))):=by
 refine cS L179 ?_;by_cases h1:low<=n<;>by_cases h2:n<=high<;>simp[L179,h1,h2]
theorem Zsk (a b c:Int):aC prog 181 [.agg [.i a,.i b,.i c]] (.bool (decide (1<=a))):=by
 refine cS L181 ?_;simp[L181]
def dX (k:Int):PV:=.agg [.i 2,.i k,.i 2]
def eH (n:Int):PV:=.agg [.i n,.aF false 3 [dX 0,dX 1]]
theorem Zis (num n limit:Int)(ps:Bool):aC prog 86 [.agg [.i num,.i n,.i limit,.bool ps]] (eH n):=by
 refine cF [.loc 7 0] L86 ?_;simp[L86,eH,dX,aN]
def eG (bad a r:Int):Int:=if bad<=a then 1 else if r<=bad then 2 else 3
theorem Zux (t a r bad:Int):aC prog 131 [.agg [.i t,.i a,.i r],.i bad] (.int .u8 (eG bad a r)):=by
 refine cS L131 ?_;unfold eG;by_cases h1:bad<=a<;>by_cases h2:r<=bad<;>simp[L131,h1,h2]
theorem Zmp:aC prog 180 [.aF false 3 [dX 0,dX 1],.fn 181 [] []] (.bool true):=
 Zui [dX 0,dX 1] 181 [] [] (fun _=>true) (fun x hx=>by
  have h:∃k,x=dX k:=by
   simp at hx;rcases hx with rfl|rfl<;>exact⟨_,rfl⟩
  obtain⟨k,rfl⟩:=h;exact Zsk 2 k 2) (by decide) (fun x hx=>by
   simp at hx;rcases hx with rfl|rfl<;>exact⟨_,_,_,rfl⟩)
def JR (n t a b c k:Int):AS:=⟨[(1,.ptr (.loc 1 0) 0),(3,.pv (.i t)),(4,.ptr (.loc 4 0) 0),(31,.pv (.aF false 3 [dX 0,dX 1])),(32,.pv (.i 2)),(33,.pv (.i k))],[(.loc 1 0,.cells [.pv (.i n),.pv (.aF false 3 [dX 0,dX 1])]),(.loc 4 0,.cells [.pv (.i a),.pv (.i b),.pv (.i c)])]⟩
theorem ZjZ (n:Int)(h4:4<=n)(SV:n<=30):aC prog 130 [eH n] (.i 0):=by
 have hw:=Zft n 1 30;have hd:(decide (1<=n)&&decide (n<=30))=true:=by simp;omega
 rw[hd]at hw;have H0:=Zft 2 1 3;have qD:=Zft 2 2 5;refine cS L130 ?_;simp[L130,eH];refine cG [.i n,.i 1,.i 30] hw ?_;simp;refine cG [.aF false 3 [dX 0,dX 1],.fn 181 [] []] Zmp ?_;simp;have Ki:∀t:Int,0<=t->t<=4->IntKind.i64.wrap (n-t)=n-t:=fun t h1 h2=>wrap64 (by omega)
 refine eP (fun m τ=>(m=2/\τ=JR n 0 0 (-1) 0 0)\/(m=1/\τ=JR n 2 2 0 2 1)\/(m=0/\τ=JR n 4 2 1 2 2)) ⟨2,JR n 0 0 (-1) 0 0,Sub.mk (by simp) (by simp),.inl ⟨rfl,rfl⟩⟩ ?_;rintro J hJ m τ (⟨rfl,rfl⟩|⟨rfl,rfl⟩|⟨rfl,rfl⟩)
 .have hj:=hJ 1 _ (.inr (.inl ⟨rfl,rfl⟩));have h1:¬(n<2):=by omega
  have h0:IntKind.i64.wrap n=n:=wrap64 (by omega);simp[JR,dX,h0,h1];refine cG [.i 2,.i 1,.i 3] H0 ?_;simp;exact⟨_,_,by decide,Sub.mk (by simp[dX]) (by simp[dX]),hj⟩
 .have hj:=hJ 0 _ (.inr (.inr ⟨rfl,rfl⟩));have h1:¬(n-2<2):=by omega
  have h0:IntKind.i64.wrap (n-2)=n-2:=wrap64 (by omega);simp[JR,dX,setAt,h0,h1];refine cG [.i 2,.i 2,.i 5] qD ?_;simp[setAt];exact⟨_,_,by decide,Sub.mk (by simp[JR,dX]) (by simp[JR,dX]),hj⟩
 .simp[JR,dX]
def dE:List Bool->Int
 |[]=>0
 |x::l=>(if x=true then 1 else 0)+dE l
theorem ZiW {l:List Bool}{k:Nat}{x:Bool}(h:l[k]?=some x):dE (l.take (k+1))=dE (l.take k)+(if x=true then 1 else 0):=by
 induction l generalizing k with
 |nil=>cases h
 |cons y l ih=>
  cases k with
  |zero=>
   simp at h;subst h;simp[dE]
  |succ k=>
   have:=ih (k:=k) (by simpa using h)
   simp only[List.take_succ_cons,dE,this];omega
theorem ZoF {l:List Bool}:0<=dE l/\dE l<=l.length:=by
 induction l with
 |nil=>exact⟨Int.le_refl _,Int.le_refl _⟩
 |cons x l ih=>
  simp only[dE,pI]
  split<;>omega
def cZ (rs:List Bool):Int×Int×Int:=
 if rs.length<2 then(3,2-(rs.length:Int),0)
 else if eG (dE (rs.take 2)) 0 2=3 then
  (if rs.length<4 then(3,4-(rs.length:Int),0)
  else if 4<rs.length then(0,0,2)else(eG (1+dE ((rs.drop 2).take 2)) 1 2,0,0))
 else if 2<rs.length then(0,0,2)else(eG (dE (rs.take 2)) 0 2,0,0)
def vR (x:Int×Int×Int):PV:=.bN [.int .u8 x.1,.i x.2.1,.i x.2.2]
def Ae (n:Int)(rs:List Bool)(k:Nat):AS:=⟨[(1,.vec (.par 0) 1 0 rs.length),(8,.pv (.i ((2*k:Nat):Int))),(9,.pv (.i (k:Int))),(20,.pv (.aF false 3 [dX 0,dX 1])),(21,.pv (.i 2)),(22,.pv (.i (k:Int)))],[(.par 0,.arr 4 1 (rs.map .bool))]⟩
def VO (rs sub:List Bool)(k j:Nat):AS:=⟨[(1,.vec (.par 0) 1 0 rs.length),(8,.pv (.i ((2*k:Nat):Int))),(9,.pv (.i ((k:Int)+dE (sub.take j)))),(11,.ptr (.loc 11 0) 0),(20,.pv (.aF false 3 [dX 0,dX 1])),(21,.pv (.i 2)),(22,.pv (.i (k:Int))),(46,.vec (.par 0) 1 (2*k) 2),(47,.pv (.i 2)),(48,.pv (.i (j:Int)))],[(.loc 11 0,.cells [.pv (.i 2),.pv (.i (k:Int)),.pv (.i 2)]),(.par 0,.arr 4 1 (rs.map .bool))]⟩
theorem ZnD (n:Int)(h4:4<=n)(SV:n<=30)(rs:List Bool)(hl:rs.length<=1000):cU prog 85 [.pv (eH n),.vec (.par 0) 1 0 rs.length] [(.par 0,.arr 4 1 (rs.map .bool))] (fun r B=>r=.pv (vR (cZ rs))/\B=[(.par 0,.arr 4 1 (rs.map .bool))]):=by
 refine O2 [.par 0] L85 ?_;intro R hR;simp[L85,eH];refine cG [eH n] (ZjZ n h4 SV) ?_;simp;refine eP (fun m τ=>∃k:Nat,(k=0\/(k=1/\2<=rs.length/\dE (rs.take 2)=1))/\m=2-k/\τ=Ae n rs k) ⟨2,Ae n rs 0,Sub.mk (by simp) (by simp),0,.inl rfl,rfl,rfl⟩ ?_;rintro J hJ m τ ⟨k,hk,rfl,rfl⟩;have sP:k<2:=by omega
 have bS:([dX 0,dX 1]:List PV)[k]?=some (.agg [.i 2,.i (k:Int),.i 2]):=by
  rcases hk with rfl|⟨rfl,_⟩<;>rfl
 have sY:IntKind.i64.wrap ((2*k:Nat)+2:Int)=((2*k+2:Nat):Int):=by rw[wrap64 (by omega)];omega
 have AK:((k:Int)<2):=by omega
 by_cases hlen:rs.length<2*k+2
 .have Us:(rs.length:Int)<((2*k+2:Nat):Int):=by omega
  simp[-Int.natCast_add,-Int.natCast_mul,Ae,AK,↓bS,sY,Us];rw[<-hR];refine⟨?_,by simp⟩;rw[wrap64 (by omega)];rcases hk with rfl|⟨rfl,h2,hc⟩
  .simp[vR,cZ,hlen]
  .have e:eG (dE (rs.take 2)) 0 2=3:=by rw[hc];rfl
   simp[vR,cZ,e,show ¬rs.length<2 by omega,show rs.length<4 by omega]
 .have Us:¬((rs.length:Int)<((2*k+2:Nat):Int)):=by omega
  have tE:(2*k).ble (2*k+2)=true:=Nat.ble_eq_true_of_le (by omega);have nS:(2*k+2).ble rs.length=true:=Nat.ble_eq_true_of_le (by omega);obtain⟨sub,kM⟩:∃sub,sub=(rs.drop (2*k)).take 2:=⟨_,rfl⟩;have Z5:sub.length=2:=by rw[kM,gM,uQ];omega
  have hse:List.drop (2*k) (List.take (2*k+2) (List.map PV.bool rs))=sub.map .bool:=by
   rw[kM,List.drop_take,Nat.add_sub_cancel_left,List.map_take,List.map_drop]
  have wG:=ZoF (l:=sub);simp[-Int.natCast_add,-Int.natCast_mul,Ae,AK,↓bS,sY,Us,tE,nS];refine eP (fun m τ=>∃j:Nat,j<=2/\m=2-j/\τ=VO rs sub k j) ⟨2,VO rs sub k 0,Sub.mk (by simp[dE]) (by simp),0,gW _,rfl,rfl⟩ ?_;rintro J2 sR m τ ⟨j,hj,rfl,rfl⟩;by_cases DH:j<2
  .obtain⟨x,hx⟩:∃x,sub[j]?=some x:=⟨sub[j],bC (by omega)⟩;have hg:(rs.map PV.bool)[2*k+j]?=some (.bool x):=by
    rw[kM,mH,if_pos DH,mW]at hx;rw[bY,hx];rfl
   have Ky:=sR (2-(j+1)) _ ⟨j+1,DH,rfl,rfl⟩;unfold VO at Ky;rw[ZiW hx]at Ky;have c6:=ZoF (l:=sub.take j);have gP:((sub.take j).length:Int)<=2:=by rw[gM];omega
   have zU:(j:Int)<2:=by omega
   have CS:=bK (k:=j) (by omega);cases x with
   |false=>
    simp[-Int.natCast_mul,VO,zU,↓hg,CS,bV,DH];exact⟨_,_,(by omega:2-(j+1)<2-j),Sub.mk (by simp) (by simp),Ky⟩
   |true=>
    have QH:IntKind.i64.wrap ((k:Int)+dE (sub.take j)+1)=(k:Int)+(dE (sub.take j)+1):=by rw[wrap64 (by omega)];omega
    simp[-Int.natCast_mul,VO,zU,↓hg,CS,QH,bV,DH];exact⟨_,_,(by omega:2-(j+1)<2-j),Sub.mk (by simp) (by simp),Ky⟩
  .have WH:j=2:=by omega
   subst WH;unfold VO;rw[fQ (by omega)];have VR:=bK (k:=k) (by omega);simp[-Int.natCast_add,-Int.natCast_mul,sY];refine cG [.agg [.i 2,.i (k:Int),.i 2],.i ((k:Int)+dE sub)] (Zux _ _ _ _) ?_;have rI:(2:Int)*(k:Int)+2=((2*k+2:Nat):Int):=by omega
   by_cases hv:eG ((k:Int)+dE sub) (k:Int) 2=3
   .have RH:k=0/\dE sub=1:=by
     unfold eG at hv;split at hv
     .omega
     .split at hv<;>omega
    obtain⟨rfl,NL⟩:=RH;rw[hv];simp[NL];refine⟨_,_,by decide,Sub.mk ?_ ?_,hJ 1 _ ⟨1,.inr ⟨rfl,by omega,by rw[<-NL,kM];rfl⟩,rfl,rfl⟩⟩
    .simp
    .simp[Ae]
   .have uF:¬rs.length<2:=by omega
    have hP:cZ rs=(if 2*k+2<rs.length then(0,0,2)else(eG ((k:Int)+dE sub) (k:Int) 2,0,0)):=by
     rcases hk with rfl|⟨rfl,h2,hc⟩
     .have e1:((0:Nat):Int)+dE sub=dE (rs.take 2):=by rw[kM];simp
      rw[e1]at hv ⊢;unfold cZ;have rY:¬eG (dE (rs.take 2)) 0 2=3:=hv;rw[if_neg uF,if_neg rY];rfl
     .have e1:((1:Nat):Int)+dE sub=1+dE ((rs.drop 2).take 2):=by rw[kM];rfl
      have e:eG (dE (rs.take 2)) 0 2=3:=by rw[hc];rfl
      rw[e1];unfold cZ;rw[if_neg uF,if_pos e,if_neg (by omega)];rfl
    by_cases hm:2*k+2<rs.length
    .have Uo:(2:Int)*(k:Int)+2<(rs.length:Int):=by omega
     rw[if_pos hm]at hP;simp[hv,Uo];rw[<-hR,hP];exact⟨rfl,by simp⟩
    .have Uo:¬(2:Int)*(k:Int)+2<(rs.length:Int):=by omega
     rw[if_neg hm]at hP;simp[hv,Uo];rw[<-hR,hP];exact⟨rfl,by simp⟩
end
structure Tt where
 fU:Int
 item:Int
 day:Int
 rd:Int
deriving DecidableEq
def Tt.pv (t:Tt):PV:=.agg [.i t.fU,.i t.item,.i t.day,.i t.rd]
def HH (S:Int->Int->Bool)(sp:List (Int×Int)):List (PV×PV):=sp.map fun p=>(.agg [.i p.1,.i p.2],.bool (S p.1 p.2))
theorem ZrT (a b c d:Int):gV (.agg [.i a,.i b]) (.agg [.i c,.i d])=decide ((a,b)=(c,d)):=by
 rw[rB];simp[gV,lT,wR,PV.cells]
theorem Zll {S:Int->Int->Bool}{i d:Int}:∀{sp:List (Int×Int)},fA (.agg [.i i,.i d]) (HH S sp)=if(i,d)∈sp then some (.bool (S i d))else none
 |[]=>rfl
 |p::r=>by
  have ih:=Zll (S:=S) (i:=i) (d:=d) (sp:=r);unfold HH at ih ⊢;rw[iS,fA,ZrT];by_cases h:(i,d)=p
  .subst h;simp
  .have:decide ((i,d)=(p.1,p.2))=false:=decide_eq_false h
   rw[this];simp only[ih,jT,h,false_or]
theorem Zny {S:Int->Int->Bool}{i d:Int}:∀{sp:List (Int×Int)},(i,d)∉sp->mM (.agg [.i i,.i d]) (.bool (S i d)) (HH S sp)=HH S (sp++[(i,d)])
 |[],_=>rfl
 |p::r,h=>by
  have h1:(i,d)≠p:=fun e=>h (by simp[e])
  have ih:=Zny (S:=S) (i:=i) (d:=d) (sp:=r) (fun e=>h (by simp[e]));have h2:decide ((i,d)=(p.1,p.2))=false:=decide_eq_false h1;unfold HH at ih ⊢;rw[iS,mM,ZrT,h2];simp only[ih];rfl
theorem Ztv {S:Int->Int->Bool}{sp:List (Int×Int)}:A4 ⟨true,[.int .i64,.int .i64]⟩ (HH S sp)=true:=by
 unfold A4 HH;rw[rM];intro x hx;obtain⟨p,_,rfl⟩:=iN.1 hx;rfl
def iD (S:Int->Int->Bool)(G:Tt->Bool)(num:Int):List Tt->List Bool->Int
 |[],_=>3
 |t::l,rs=>if t.fU=num/\S t.item t.day=true then(if(cZ (rs++[!G t])).1=3 then iD S G num l (rs++[!G t])else(cZ (rs++[!G t])).1)else iD S G num l rs
theorem Zmv {S:Int->Int->Bool}{G:Tt->Bool}{num:Int}{rs:List Bool}:iD S G num [] rs=3:=rfl
theorem Zgu {S:Int->Int->Bool}{G:Tt->Bool}{num:Int}{t:Tt}{l:List Tt}{rs:List Bool}:iD S G num (t::l) rs=if t.fU=num/\S t.item t.day=true then(if(cZ (rs++[!G t])).1=3 then iD S G num l (rs++[!G t])else(cZ (rs++[!G t])).1)else iD S G num l rs:=rfl
def stM (l:List Ct)(bad:List Int)(i d:Int):Bool:=decide (((eO l bad).j6 i d).2=0)
def nB (l:List Ct)(bad:List Int)(limit:Int)(t:Tt):Bool:=decide (limit<=t.rd+((eO l bad).vF t.item t.day).1.lo)
def bI (l:List Tt):PV:=.aF false 4 (l.map Tt.pv)
def AB (W:aJ)(x:Lt)(S:Int->Int->Bool)(ts:List Tt)(rs:List Bool)(sp:List (Int×Int))(k:Nat):AS:=
 ⟨[(0,.ptr (.par 0) 0),(3,.ptr (.loc 3 0) 0),(5,.vec (.loc 61 0) 1 0 rs.length),(6,.fn 39 [.ptr (.par 0) 0] []),(7,.pv (.int .u8 3)),(8,.mp (.loc 16 0)),(21,.pv (.aF false 4 (ts.map Tt.pv))),(22,.pv (.i ts.length)),(23,.pv (.i (k:Int)))],
  [(.loc 3 0,.cells [.pv (.i x.num),.pv (.i x.pieces),.pv (.i x.limit),.pv (.bool x.passed)]),(.loc 16 0,.map (HH S sp)),(.loc 61 0,.arr 4 1 (rs.map .bool)),(.par 0,W)]⟩
theorem Qc (l:List Ct)(bad:List Int)(ls:PV)(ts:List Tt)(rn:PV)(x:Lt)(hl:l.length<=1000)(hb:bad.length<=1000)(ht:ts.length<=900)(h4:4<=x.pieces)(SV:x.pieces<=30)
  (dF:∀t∈ts,IntKind.i64.wrap (t.rd+((eO l bad).vF t.item t.day).1.lo)=t.rd+((eO l bad).vF t.item t.day).1.lo):
  cU prog 46 [.ptr (.par 0) 0,.pv x.pv] [(.par 0,aP (aK l) (.aF false 1 (bad.map iP)) ls (bI ts) rn)] (fun r B=>r=.pv (.int .u8 (iD (stM l bad) (nB l bad x.limit) x.num ts []))/\B=[(.par 0,aP (aK l) (.aF false 1 (bad.map iP)) ls (bI ts) rn)]):=by
 refine O2 [.par 0] L46 ?_;intro R hR;obtain⟨V,hV⟩:∃V,V=iD (stM l bad) (nB l bad x.limit) x.num ts []:=⟨_,rfl⟩;rw[<-hV]at hR;simp[L46,aP,Lt.pv,bI];refine eP (fun m τ=>∃(k:Nat) (rs:List Bool) (sp:List (Int×Int)),k<=ts.length/\m=ts.length-k/\rs.length<=k/\τ=AB (aP (aK l) (.aF false 1 (bad.map iP)) ls (bI ts) rn) x (stM l bad) ts rs sp k/\iD (stM l bad) (nB l bad x.limit) x.num (ts.drop k) rs=V)
  ⟨ts.length,AB (aP (aK l) (.aF false 1 (bad.map iP)) ls (bI ts) rn) x (stM l bad) ts [] [] 0,Sub.trans' (Sub.mk (by simp[AS.cW]) (by simp[AS.cW,aP,bI,HH])) (cW 61 4 1 5 rfl (by decide)),0,[],[],gW _,rfl,fH _,rfl,hV.symm⟩ ?_
 rintro J hJ m τ ⟨k,rs,sp,hk,rfl,r5,rfl,hv⟩;by_cases aI:k<ts.length
 .obtain⟨t,hx⟩:∃t,ts[k]?=some t:=⟨ts[k],bC aI⟩;have gU:t∈ts:=dL hx;have hg:(ts.map Tt.pv)[k]?=some t.pv:=by rw[bY,hx];rfl
  simp only[Tt.pv]at hg;have hd:ts.drop k=t::ts.drop (k+1):=by
   rw[AY aI];congr 1;rw[bC aI]at hx;exact Option.some.inj hx
  rw[hd]at hv;rw[Zgu]at hv;have hw:=bK (k:=k) (by omega);have aH:ts.length-(k+1)<ts.length-k:=by omega
  have eK:∀yC Re,yC.length<=k+1->iD (stM l bad) (nB l bad x.limit) x.num (ts.drop (k+1)) yC=V->J (ts.length-(k+1)) (AB (aP (aK l) (.aF false 1 (bad.map iP)) ls (bI ts) rn) x (stM l bad) ts yC Re (k+1)):=fun yC Re h1 h2=>hJ _ _ ⟨k+1,yC,Re,aI,rfl,h1,rfl,h2⟩
  clear hJ;by_cases lD:t.fU=x.num
  .have hf:=Zll (S:=stM l bad) (i:=t.item) (d:=t.day) (sp:=sp);have DF:=Ztv (S:=stM l bad) (sp:=sp);have hp:=fun h=>Zny (S:=stM l bad) (i:=t.item) (d:=t.day) (sp:=sp) h
   by_cases gB:(t.item,t.day)∈sp
   .rw[if_pos gB]at hf;cases hs:stM l bad t.item t.day with
    |false=>
     rw[if_neg (by simp[hs])]at hv;rw[hs]at hf;have hn:=eK rs sp (by omega) hv;simp[AB,aP,aI,↓hg,aN,lD,hw,hf,DF];exact⟨_,_,aH,Sub.mk (by simp) (by simp[aP]),hn⟩
    |true=>
     rw[hs]at hf;simp[AB,aP,aI,↓hg,bV,aN,setAt,lD,hw,hf,DF];have AM:=ZrR l bad ls (bI ts) rn hl hb x.num t.item t.day t.rd x.limit (dF t gU);refine cM [.ptr (.par 0) 0,.pv (.agg [.i x.num,.i t.item,.i t.day,.i t.rd]),.pv (.i x.limit)] [(.par 0,(aP (aK l) (.aF false 1 (bad.map iP)) ls (bI ts) rn))] 58 [.par 0] (by simp[aP]) AM (by simp[aP]) ?_;rw[if_pos ⟨lD,hs⟩]at hv;have FW:decide (x.limit<=t.rd+((eO l bad).vF t.item t.day).1.lo)=nB l bad x.limit t:=rfl;rw[FW];clear FW AM;have h1:rs.length+1<=1000000:=by omega
     generalize nB l bad x.limit t=gv at hv ⊢;simp[aP,h1,aN];refine .inl (cQ [] [x.pv] (Zis x.num x.pieces x.limit x.passed) ?_);simp;refine xU (gG:=[.pv (eH x.pieces),.vec (.par 0) 1 0 (rs++[!gv]).length]) (B:=[(.par 0,.arr 4 1 ((rs++[!gv]).map .bool))]) (fs:=[]) (cs:=[]) 66 [.loc 61 0] ?_ rfl rfl ?_ ?_ ?_ (ZnD x.pieces h4 SV (rs++[!gv]) (by simp;omega)) ?_
     .first|rfl|simp
     .first|rfl|simp
     .first|rfl|simp
     .first|rfl|simp
     rintro r0 B0 ⟨rfl,rfl⟩;refine⟨rfl,by simp,?_⟩;have hn:=eK (rs++[!gv]) sp (by simp;omega);generalize cZ (rs++[!gv])=pm at hv ⊢;obtain⟨v,mo,er⟩:=pm;by_cases h3:v=3
     .subst h3;have hn:=hn hv;simp[vR,hw];exact⟨_,_,aH,Sub.mk (by simp) (by simp[aP]),hn⟩
     .rw[if_neg h3]at hv;simp[vR,h3];rw[<-hR,<-hv];exact⟨rfl,by simp[aP]⟩
   .rw[if_neg gB]at hf;have Q1:=hp gB;have wG:=Hs l bad ls (bI ts) rn hl hb x.num t.item t.day t.rd;simp[AB,aP,aI,↓hg,aN,lD,hf,DF];refine xU (gG:=[.ptr (.par 0) 0,.pv (.agg [.i x.num,.i t.item,.i t.day,.i t.rd])]) (B:=[(.par 0,(aP (aK l) (.aF false 1 (bad.map iP)) ls (bI ts) rn))]) (fs:=[.ptr (.par 0) 0]) (cs:=[]) 47 [.par 0] ?_ rfl rfl ?_ ?_ ?_ wG ?_
    .rfl
    .simp[aP]
    .rfl
    .rfl
    rintro r0 B0 ⟨rfl,rfl⟩;refine⟨rfl,by simp[aP],?_⟩;have bS:decide (((eO l bad).j6 t.item t.day).2=0)=stM l bad t.item t.day:=rfl;rw[bS];cases hs:stM l bad t.item t.day with
    |false=>
     rw[if_neg (by simp[hs])]at hv;rw[hs]at Q1;have hn:=eK rs (sp++[(t.item,t.day)]) (by omega) hv;simp[aP,DF,Q1,hw];exact⟨_,_,aH,Sub.mk (by simp[AB]) (by simp[AB,aP]),hn⟩
    |true=>
     rw[hs]at Q1;simp[aP,DF,Q1];have AM:=ZrR l bad ls (bI ts) rn hl hb x.num t.item t.day t.rd x.limit (dF t gU);refine cM [.ptr (.par 0) 0,.pv (.agg [.i x.num,.i t.item,.i t.day,.i t.rd]),.pv (.i x.limit)] [(.par 0,(aP (aK l) (.aF false 1 (bad.map iP)) ls (bI ts) rn))] 58 [.par 0] (by simp[aP]) AM (by simp[aP]) ?_;rw[if_pos ⟨lD,hs⟩]at hv;have FW:decide (x.limit<=t.rd+((eO l bad).vF t.item t.day).1.lo)=nB l bad x.limit t:=rfl;rw[FW];clear FW AM;have h1:rs.length+1<=1000000:=by omega
     generalize nB l bad x.limit t=gv at hv ⊢;simp[aP,h1,aN];refine .inl (cQ [] [x.pv] (Zis x.num x.pieces x.limit x.passed) ?_);simp;refine xU (gG:=[.pv (eH x.pieces),.vec (.par 0) 1 0 (rs++[!gv]).length]) (B:=[(.par 0,.arr 4 1 ((rs++[!gv]).map .bool))]) (fs:=[]) (cs:=[]) 66 [.loc 61 0] ?_ rfl rfl ?_ ?_ ?_ (ZnD x.pieces h4 SV (rs++[!gv]) (by simp;omega)) ?_
     .first|rfl|simp
     .first|rfl|simp
     .first|rfl|simp
     .first|rfl|simp
     rintro r0 B0 ⟨rfl,rfl⟩;refine⟨rfl,by simp,?_⟩;have hn:=eK (rs++[!gv]) (sp++[(t.item,t.day)]) (by simp;omega);generalize cZ (rs++[!gv])=pm at hv ⊢;obtain⟨v,mo,er⟩:=pm;by_cases h3:v=3
     .subst h3;have hn:=hn hv;simp[vR,hw];exact⟨_,_,aH,Sub.mk (by simp[AB]) (by simp[AB,aP]),hn⟩
     .rw[if_neg h3]at hv;simp[vR,h3];rw[<-hR,<-hv];exact⟨rfl,by simp[aP]⟩
  .rw[if_neg (fun h=>lD h.1)]at hv;have hn:=eK rs sp (by omega) hv;simp[AB,aP,aI,↓hg,aN,lD,hw];exact⟨_,_,aH,Sub.mk (by simp) (by simp[aP]),hn⟩
 .have he:k=ts.length:=by omega
  subst he;rw[List.drop_eq_nil_of_le (fH _)]at hv;rw[Zmv]at hv;simp[AB,aP];rw[<-hR,hv];exact⟨rfl,by simp[aP]⟩
attribute [simp] aL oK nV iU
theorem Zx {x:Int}:∀{l:List Int},l.Pairwise (·<·)->x∈l->l[dJ l x]?=some x
 |y::r,hs,h=>by
  obtain⟨h1,h2⟩:=I1.1 hs;unfold dJ;rw[xT];by_cases hy:y<x
  .rw[if_pos (by simpa using hy)];have hm:x∈r:=by
    rcases jT.1 h with rfl|h
    .omega
    .exact h
   exact Zx h2 hm
  .rw[if_neg (by simpa using hy)];have hx:x=y:=by
    rcases jT.1 h with rfl|h
    .rfl
    .have:=h1 x h;omega
   subst hx;have hf:r.filter (fun y=>decide (y<x))=[]:=by
    rw[List.filter_eq_nil_iff];intro z hz
    have:=h1 z hz
    simp;omega
   rw[hf];rfl
theorem Ai {E:Int->Prop}{n:Int}{τ:AS}{a b c d e:PV}(h1:E n)(h2:τ.b (.par 0)=some (aP a b c d e)):J9 (uY E) (yU n) τ:=by
 refine⟨[.par 0],rfl,fun s hs b hb=>?_,n,rfl,h1,a,b,c,d,e,?_⟩
 .cases sG.1 hs;rw[h2]at hb;cases hb;rfl
 .unfold AS.exp;rw[h2];rfl
theorem pF (n:Int){E:Int->Prop}{σ:AS}{f:bB}{args:List bB}{op:lY}{lt:Bool}{dst:Option Nat}{a b c d e:PV}(hE:E n)(hop:op=.call f args:=by rfl)(h1:(aL [] σ).o f=.pv (.fn 127 [] []):=by rfl)(h2:(aL [] σ).tY args=some [.bool false,.i n]:=by rfl)(h3:((aL [] σ).bG 99).b (.par 0)=some (aP a b c d e):=by rfl):wC prog ⟨dst,none,op,lt⟩ (J9 (uY E)) σ:=UO (d:=99) [] (xs:=[.bool false,.i n]) (cs:=[]) h1 h2 (A0 n) hop (fun x hx=>by rw[hx.1];exact Ai hE h3) (fun x B hx=>hx.2)
theorem n9 (fz:List Site){Q:PV->PV->PV->PV->PV->Prop}{τ:AS}{a b c d e:PV}(h2:(aY fz τ).b (.par 0)=some (aP a b c d e))(hq:Q a b c d e):rS [] (yF Q) τ:=by
 refine⟨fz,[.par 0],[],rfl,rfl,rfl,fun s hs b hb=>?_,rfl,a,b,c,d,e,?_,hq⟩
 .cases sG.1 hs;rw[h2]at hb;cases hb;rfl
 .unfold AS.exp;rw[h2];rfl
def aV (l:List Lt):PV:=.aF false 4 (l.map Lt.pv)
def bJ (l:List Int):PV:=.aF false 1 (l.map iP)
def jN (v:Lt->Int)(ls:List Lt)(n:Int):Except Int (List Lt):=
 match ls[dJ (ls.map Lt.num) n]? with
 |some x=>if x.num=n then(if x.passed=true then .error 6 else if v x=3 then .error 8 else if v x=1 then .ok (ls.set (dJ (ls.map Lt.num) n) { x with passed:=true })else .error 11)else .error 7
 |none=>.error 7
def wkQ (r:Except Int (List Lt))(l:List Ct)(bad:List Int)(ts:List Tt)(rn:PV)(a b c d e:PV):Prop:=∃ls',r=.ok ls'/\a=aK l/\b=bJ bad/\c=aV ls'/\d=bI ts/\e=rn
def zJ (l:List Ct)(bad:List Int)(ts:List Tt):Prop:=∀t∈ts,IntKind.i64.wrap (t.rd+((eO l bad).vF t.item t.day).1.lo)=t.rd+((eO l bad).vF t.item t.day).1.lo
def wA (x:Lt):Prop:=1<=x.num/\x.num<=99/\4<=x.pieces/\x.pieces<=30
def bZ (l:List Ct)(bad:List Int)(ts:List Tt)(x:Lt):Int:=iD (stM l bad) (nB l bad x.limit) x.num ts []
theorem ZuK (l:List Ct)(bad:List Int)(ls:List Lt)(ts:List Tt)(rn:PV)(n:Int)(hn:-1000000000<n/\n<1000000000)(hl:l.length<=1000)(hb:bad.length<=1000)(zS:ls.length<=900)(ht:ts.length<=900)(hs:(ls.map Lt.num).Pairwise (·<·))(dD:∀x∈ls,wA x)(dF:zJ l bad ts):
  tH prog 172 [.ptr (.par 0) 0,.pv (.aF false 1 [iP n])] [(.par 0,aP (aK l) (bJ bad) (aV ls) (bI ts) rn)] (yF (wkQ (jN (bZ l bad ts) ls n) l bad ts rn)) (uY (fun e=>jN (bZ l bad ts) ls n=.error e)):=by
 have F0:=Zc ls n (aK l) (bJ bad) (bI ts) rn hs (by omega) (fun y hy=>by obtain⟨h1,h2,_⟩:=dD y hy;exact wrap64 (by omega));refine cX L172 ?_;generalize hE:(fun e=>jN (bZ l bad ts) ls n=.error e)=E;generalize hQ:wkQ (jN (bZ l bad ts) ls n) l bad ts rn=Q;show fO _ (.seq _ (.seq _ (.seq _ (.seq _ (.seq _ (.seq _ (.seq _ _))))))) _ _ _;refine mI ?_;simp[hold,aP,aV];refine cM [.ptr (.par 0) 0,.pv (.i n)] [(.par 0,aP (aK l) (bJ bad) (aV ls) (bI ts) rn)] 12 [.par 0] (by simp[aP,aV]) F0 (by simp[aP]) ?_;simp[-List.mem_map,aP];by_cases hm:n∈ls.map Lt.num
 .have lD:=Zx hs hm;rw[bY]at lD;obtain⟨x,hx,T4⟩:=eB.1 lD;unfold jN at hE hQ;rw[hx]at hE hQ;dsimp only at hE hQ;rw[if_pos T4]at hE hQ;generalize hi:dJ (ls.map Lt.num) n=i at hx hQ ⊢;refine mI ?_;simp[-List.mem_map,hold,hm];refine cG [.bool true,.i 7] (gR 7) ?_;simp;have yR:i<ls.length:=(cD.1 hx).1;have oT:(ls.map Lt.pv)[i]?=some x.pv:=by rw[bY,hx];rfl
  simp only[Lt.pv]at oT;have mZ:=Qc l bad (aV ls) ts rn x hl hb ht (dD x (dL hx)).2.2.1 (dD x (dL hx)).2.2.2 dF;cases yM:x.passed with
  |true=>
   rw[yM]at hE oT;have JL:E 6:=by rw[<-hE];rfl
   refine xF [_,_,_,_,_,_,_,_,_,_] ?_;simp[hold,↓oT,bV,aN];exact pF 6 JL
  |false=>
  rw[yM]at hE hQ oT;rw[if_neg (by simp)]at hE hQ;refine mI ?_;simp[hold,↓oT,bV,aN];refine cG [.bool true,.i 6] (gR 6) ?_;simp[hold];refine mI ?_;simp[hold,yR,↓oT,bV,aN];refine cM [.ptr (.par 0) 0,.pv (.agg [.i x.num,.i x.pieces,.i x.limit,.bool false])] [(.par 0,(aP (aK l) (bJ bad) (aV ls) (bI ts) rn))] 37 [.par 0] (by simp[aP,aV]) (by rw[Lt.pv,yM]at mZ;exact mZ) (by simp[aP]) ?_;have IC:iD (stM l bad) (nB l bad x.limit) x.num ts []=bZ l bad ts x:=rfl;rw[IC];clear IC mZ F0;generalize bZ l bad ts x=v at hE hQ ⊢;simp[aP];by_cases h3:v=3
  .rw[if_pos h3]at hE;have DY:E 8:=by rw[<-hE]
   refine xF [_,_] ?_;simp[hold,h3];exact pF 8 DY
  rw[if_neg h3]at hE hQ;refine mI ?_;simp[hold,h3];refine cG [.bool true,.i 8] (gR 8) ?_;simp;by_cases h1:¬v=1
  .rw[if_neg h1]at hE;have Wy:E 11:=by rw[<-hE]
   refine xF [_,_] ?_;simp[hold,h1];exact pF 11 Wy
  have h1:v=1:=Decidable.not_not.1 h1;rw[if_pos h1]at hQ;refine mI ?_;simp[hold,h1];refine cG [.bool true,.i 11] (gR 11) ?_;simp[hold];refine mI ?_;simp[hold,aV];refine .inl (R8 [] (fs:=[]) (xs:=[.aF false 4 (ls.map Lt.pv)]) (cs:=[]) (d:=50) rfl rfl (Zg6 (ls.map Lt.pv) (by rw[fZ];omega)) ?_);rintro r B (⟨h,rfl,rfl⟩|⟨rfl,rfl⟩)
  .rw[List.map_eq_nil_iff.1 h]at yR;exact absurd yR (Nat.not_lt_zero _)
  refine⟨by simp,?_⟩;simp;refine GZ ?_;simp[hold,yR,↓oT,bV,aN,setAt];have jQ:(ls.map Lt.pv).set i (.agg [.i x.num,.i x.pieces,.i x.limit,.bool true])=(ls.set i { x with passed:=true }).map Lt.pv:=by rw[List.map_set];rfl
  rw[jQ];have jX:List.take ls.length ((ls.set i { x with passed:=true }).map Lt.pv)=(ls.set i { x with passed:=true }).map Lt.pv:=fQ (by simp);refine n9 (a:=aK l) (b:=bJ bad) (c:=aV (ls.set i { x with passed:=true })) (d:=bI ts) (e:=rn) [.loc 50 0] ?_ ?_
  .simp[-List.map_set,aY,AS.cJ,AV.cJ,AV.aY,aJ.cJ,aP,aV,bJ,jX]
  .rw[<-hQ];exact⟨_,rfl,rfl,rfl,rfl,rfl,rfl⟩
 .have WM:E 7:=by
   rw[<-hE];unfold jN;split
   .rename_i x hx;have dA:¬x.num=n:=fun h=>hm (by rw[<-h];exact List.mem_map_of_mem (dL hx))
    rw[if_neg dA]
   .rfl
  refine xF [_] ?_;simp[-List.mem_map,hold,hm];exact pF 7 WM
def kX (ts:List Tt)(n:Int):Nat:=(ts.filter fun t=>decide (t.fU=n)).length
theorem ZgO {ts:List Tt}{n:Int}{k:Nat}{t:Tt}(h:ts[k]?=some t):kX (ts.take (k+1)) n=kX (ts.take k) n+(if t.fU=n then 1 else 0):=by
 unfold kX;rw[mV,h,I2,gF];congr 1;simp only[Option.toList,xT,List.filter_nil];by_cases ht:t.fU=n<;>simp[ht]
theorem ZkZ {ts:List Tt}{n:Int}:kX ts n<=ts.length:=Q7 _ _
def kU (S:Int->Int->Bool)(v:Lt->Int)(ls:List Lt)(ts:List Tt)(q:Tt):Except Int (List Tt):=
 if(decide (2<=q.item)&&decide (q.item<=5))=true/\(decide (0<=q.day)&&decide (q.day<=1000))=true/\(decide (0<=q.rd)&&decide (q.rd<=2000))=true then
  (match ls[dJ (ls.map Lt.num) q.fU]? with
  |some x=>if x.num=q.fU then(if x.passed=true then .error 8 else if v x=3 then(if(kX ts q.fU:Int)<x.pieces then(if S q.item q.day=true then .ok (ts++[q])else .error 10)else .error 3)else .error 8)else .error 7
  |none=>.error 7)
 else .error 2
def tsQ (r:Except Int (List Tt))(l:List Ct)(bad:List Int)(ls:List Lt)(rn:PV)(a b c d e:PV):Prop:=∃ts',r=.ok ts'/\a=aK l/\b=bJ bad/\c=aV ls/\d=bI ts'/\e=rn
def VA (W:aJ)(x:Lt)(q:Tt)(ts:List Tt)(k:Nat):AS:=
 ⟨[(0,.ptr (.par 0) 0),(1,.pv (.aF false 1 [.i q.fU,.i q.item,.i q.day,.i q.rd])),(6,.ptr (.loc 6 0) 0),(7,.pv (.i ((kX (ts.take k) q.fU:Nat):Int))),(60,.pv (.aF false 4 (ts.map Tt.pv))),(61,.pv (.i ts.length)),(62,.pv (.i (k:Int)))],
  [(.loc 6 0,.cells [.pv (.i x.num),.pv (.i x.pieces),.pv (.i x.limit),.pv (.bool false)]),(.par 0,W)]⟩
theorem Zur (l:List Ct)(bad:List Int)(ls:List Lt)(ts:List Tt)(rn:PV)(q:Tt)(hn:-1000000000<q.fU/\q.fU<1000000000)(hl:l.length<=1000)(hb:bad.length<=1000)(zS:ls.length<=900)(ht:ts.length<=900)(hs:(ls.map Lt.num).Pairwise (·<·))(dD:∀x∈ls,wA x)(dF:zJ l bad ts):
  tH prog 171 [.ptr (.par 0) 0,.pv (.aF false 1 [iP q.fU,iP q.item,iP q.day,iP q.rd])] [(.par 0,aP (aK l) (bJ bad) (aV ls) (bI ts) rn)] (yF (tsQ (kU (stM l bad) (bZ l bad ts) ls ts q) l bad ls rn)) (uY (fun e=>kU (stM l bad) (bZ l bad ts) ls ts q=.error e)):=by
 have F0:=Zc ls q.fU (aK l) (bJ bad) (bI ts) rn hs (by omega) (fun y hy=>by obtain⟨h1,h2,_⟩:=dD y hy;exact wrap64 (by omega));have w1:=KS q.item 2 5;have w2:=KS q.day 0 1000;have w3:=KS q.rd 0 2000;refine cX L171 ?_;generalize hE:(fun e=>kU (stM l bad) (bZ l bad ts) ls ts q=.error e)=E;generalize hQ:tsQ (kU (stM l bad) (bZ l bad ts) ls ts q) l bad ls rn=Q;unfold kU at hE hQ;generalize(decide (2<=q.item)&&decide (q.item<=5))=c1 at w1 hE hQ;generalize(decide (0<=q.day)&&decide (q.day<=1000))=c2 at w2 hE hQ;generalize(decide (0<=q.rd)&&decide (q.rd<=2000))=c3 at w3 hE hQ;show fO _ (.seq _ (.seq _ (.seq _ _))) _ _ _;by_cases hc:¬(c1=true/\c2=true/\c3=true)
 .have AR:E 2:=by rw[<-hE,if_neg hc]
  refine xF [_,_,_,_,_,_,_,_,_,_,_,_,_,_,_,_] ?_;simp[hold,iP];refine cG [.i q.item,.i 2,.i 5] w1 ?_;cases c1 with
  |false=>
   simp[hold];exact pF 2 AR
  |true=>
  simp[hold];refine cG [.i q.day,.i 0,.i 1000] w2 ?_;cases c2 with
  |false=>
   simp[hold];exact pF 2 AR
  |true=>
  simp[hold];refine cG [.i q.rd,.i 0,.i 2000] w3 ?_;cases c3 with
  |false=>
   simp[hold];exact pF 2 AR
  |true=>exact absurd ⟨rfl,rfl,rfl⟩ hc
 have hc:=Decidable.not_not.1 hc;rw[if_pos hc]at hE hQ;obtain⟨rfl,rfl,rfl⟩:=hc;refine mI ?_;simp[hold,iP];refine cG [.i q.item,.i 2,.i 5] w1 ?_;simp[hold];refine cG [.i q.day,.i 0,.i 1000] w2 ?_;simp[hold];refine cG [.i q.rd,.i 0,.i 2000] w3 ?_;simp[hold];refine cG [.bool true,.i 2] (gR 2) ?_;simp;refine mI ?_;simp[hold,aP,aV];refine cM [.ptr (.par 0) 0,.pv (.i q.fU)] [(.par 0,aP (aK l) (bJ bad) (aV ls) (bI ts) rn)] 33 [.par 0] (by simp[aP,aV]) F0 (by simp[aP]) ?_;simp[-List.mem_map,aP];by_cases hm:¬q.fU∈ls.map Lt.num
 .have WM:E 7:=by
   rw[<-hE];split
   .rename_i x hx;have dA:¬x.num=q.fU:=fun h=>hm (by rw[<-h];exact List.mem_map_of_mem (dL hx))
    rw[if_neg dA]
   .rfl
  refine xF [_] ?_;simp[-List.mem_map,hold,hm];exact pF 7 WM
 have hm:=Decidable.not_not.1 hm;have lD:=Zx hs hm;rw[bY]at lD;obtain⟨x,hx,T4⟩:=eB.1 lD;rw[hx]at hE hQ;dsimp only at hE hQ;rw[if_pos T4]at hE hQ;generalize hi:dJ (ls.map Lt.num) q.fU=i at hx hQ ⊢;have yR:i<ls.length:=(cD.1 hx).1;have oT:(ls.map Lt.pv)[i]?=some x.pv:=by rw[bY,hx];rfl
 simp only[Lt.pv]at oT;have mZ:=Qc l bad (aV ls) ts rn x hl hb ht (dD x (dL hx)).2.2.1 (dD x (dL hx)).2.2.2 dF;refine mI ?_;simp[-List.mem_map,hold,hm];refine cG [.bool true,.i 7] (gR 7) ?_;simp[hold];refine mI ?_;simp[hold,↓oT,bV,aN,setAt];have pan8:∀τ:AS,E 8->τ.b (.par 0)=some (aP (aK l) (bJ bad) (aV ls) (bI ts) rn)->J9 (uY E) (yU 8) τ:=fun τ h1 h2=>Ai h1 h2
 cases yM:x.passed with
 |true=>
  rw[yM]at hE;have DY:E 8:=by rw[<-hE];rfl
  refine xF [_,_,_,_,_,_,_,_,_] ?_;simp[hold];exact pF 8 DY
 |false=>
 rw[yM]at hE hQ;rw[if_neg (by simp)]at hE hQ;have IC:iD (stM l bad) (nB l bad x.limit) x.num ts []=bZ l bad ts x:=rfl;rw[IC]at mZ;clear IC F0;generalize bZ l bad ts x=v at hE hQ mZ;rw[Lt.pv,yM]at mZ;by_cases h3:¬v=3
 .rw[if_neg h3]at hE;have DY:E 8:=by rw[<-hE]
  refine xF [_,_,_,_,_,_,_,_,_] ?_;simp[hold];refine cM [.ptr (.par 0) 0,.pv (.agg [.i x.num,.i x.pieces,.i x.limit,.bool false])] [(.par 0,(aP (aK l) (bJ bad) (aV ls) (bI ts) rn))] 52 [.par 0] (by simp[aP,aV]) mZ (by simp[aP]) ?_;simp[hold,aP,h3];exact pF 8 DY
 have h3:=Decidable.not_not.1 h3;rw[if_pos h3]at hE hQ;refine mI ?_;simp;refine cM [.ptr (.par 0) 0,.pv (.agg [.i x.num,.i x.pieces,.i x.limit,.bool false])] [(.par 0,(aP (aK l) (bJ bad) (aV ls) (bI ts) rn))] 52 [.par 0] (by simp[aP,aV]) mZ (by simp[aP]) ?_;simp[hold,aP,h3];refine cG [.bool true,.i 8] (gR 8) ?_;simp[hold];refine mI ?_;simp[hold];refine mI ?_;simp[hold,bI];refine eP (fun m τ=>∃k:Nat,k<=ts.length/\m=ts.length-k/\τ=VA (aP (aK l) (bJ bad) (aV ls) (bI ts) rn) x q ts k) ⟨ts.length,VA (aP (aK l) (bJ bad) (aV ls) (bI ts) rn) x q ts 0,Sub.mk (by simp[kX]) (by simp[aP,bJ,aV,bI]),0,gW _,rfl,rfl⟩ ?_;rintro J hJ m τ ⟨k,hk,rfl,rfl⟩;by_cases aI:k<ts.length
 .obtain⟨t,AF⟩:∃t,ts[k]?=some t:=⟨ts[k],bC aI⟩;have hg:(ts.map Tt.pv)[k]?=some t.pv:=by rw[bY,AF];rfl
  simp only[Tt.pv]at hg;have hw:=bK (k:=k) (by omega);have zQ:=ZkZ (ts:=ts.take k) (n:=q.fU);rw[gM]at zQ;have sY:=bK (k:=kX (ts.take k) q.fU) (by omega);have aH:ts.length-(k+1)<ts.length-k:=by omega
  have hn:=hJ (ts.length-(k+1)) _ ⟨k+1,aI,rfl,rfl⟩;unfold VA at hn;rw[ZgO AF]at hn;by_cases oQ:t.fU=q.fU
  .rw[if_pos oQ]at hn;simp[VA,aP,aI,↓hg,aN,hw,sY,oQ,T4];exact⟨_,_,aH,Sub.mk (by simp) (by simp[aP,T4]),hn⟩
  .rw[if_neg oQ]at hn;simp[VA,aP,aI,↓hg,aN,hw,oQ,T4];exact⟨_,_,aH,Sub.mk (by simp[T4]) (by simp[aP,T4]),hn⟩
 have he:k=ts.length:=by omega
 subst he;simp[VA,hold,aP];by_cases WB:¬(kX ts q.fU:Int)<x.pieces
 .rw[if_neg WB]at hE;have Wx:E 3:=by rw[<-hE]
  refine xF [_,_,_,_] ?_;simp[hold,WB];exact pF 3 Wx
 have WB:=Decidable.not_not.1 WB;rw[if_pos WB]at hE hQ;refine mI ?_;simp[hold,WB];refine cG [.bool true,.i 3] (gR 3) ?_;simp;refine mI ?_;simp[hold,setAt];have wG:=Hs l bad (aV ls) (bI ts) rn hl hb q.fU q.item q.day q.rd;have bS:decide (((eO l bad).j6 q.item q.day).2=0)=stM l bad q.item q.day:=rfl;rw[bS]at wG;clear bS;cases Bn:stM l bad q.item q.day with
 |false=>
  rw[Bn]at hE wG;have Wz:E 10:=by rw[<-hE];rfl
  refine xF [_,_,_] ?_;simp[hold];refine cM [.ptr (.par 0) 0,.pv (.agg [.i q.fU,.i q.item,.i q.day,.i q.rd])] [(.par 0,(aP (aK l) (bJ bad) (aV ls) (bI ts) rn))] 94 [.par 0] (by simp[aP,bJ,aV,bI]) wG (by simp[aP]) ?_;simp[aP];exact pF 10 Wz
 |true=>
 rw[Bn]at hQ wG;rw[if_pos rfl]at hQ;refine mI ?_;simp[hold];refine cM [.ptr (.par 0) 0,.pv (.agg [.i q.fU,.i q.item,.i q.day,.i q.rd])] [(.par 0,(aP (aK l) (bJ bad) (aV ls) (bI ts) rn))] 94 [.par 0] (by simp[aP,bJ,aV,bI]) wG (by simp[aP]) ?_;simp[aP];refine cG [.bool true,.i 10] (gR 10) ?_;simp[hold];refine GZ ?_;simp[hold,bI];refine .inl (cQ [] [.aF false 4 (ts.map Tt.pv),.agg [.i q.fU,.i q.item,.i q.day,.i q.rd]] (ZoN (ts.map Tt.pv) q.fU q.item q.day q.rd (by rw[fZ];omega)) ?_);simp;have H7:ts.map Tt.pv++[.agg [.i q.fU,.i q.item,.i q.day,.i q.rd]]=(ts++[q]).map Tt.pv:=by rw[mL];rfl
 rw[H7];refine n9 (a:=aK l) (b:=bJ bad) (c:=aV ls) (d:=bI (ts++[q])) (e:=rn) [] ?_ ?_
 .simp[-List.map_append,aY,aP,bI,bJ]
 .rw[<-hQ];exact⟨_,rfl,rfl,rfl,rfl,rfl,rfl⟩
theorem ZqN (l:List Ct)(h0:l≠[])(hl:l.length<=1000000):cU prog 54 [.pv (aK l)] [] (fun r B=>r=.vec (.ret 0) 7 0 l.length/\B=[(.ret 0,.arr 131 7 (l.map Ct.pv))]):=by
 refine cB [.loc 7 0] L54 ?_;cases l with
 |nil=>exact absurd rfl h0
 |cons a l=>
  have h1:l.length+1<=1000000:=by simpa using hl
  have hm:(l.map Ct.pv).take l.length=l.map Ct.pv:=fQ (by simp);simp[L54,aK,dI,aN,h1,aT,rN,AS.exp,jY,aJ.iX,AV.map,dO,Site.uS,aJ.dC,AV.dC,w9]
theorem Aa (d:Int)(c:Ct):cU prog 254 [.pv c.pv,.ptr (.par 0) 0] (laid 0 ((eT.num d).b 0)) (fun r B=>r=.pv (.bool (decide (c.num=d)))/\B=laid 0 ((eT.num d).b 0)):=by
 refine cB [.par 0] L254 ?_;simp[L254,eT.b,laid,Ct.pv]
section
section
variable {P:Program}{K:AV->AS->Prop}{σ:AS}
theorem Zt3 (fz:List Site){f:bB}{args:List bB}{d:Nat}{g:FuncId}{fs xs cs:List PV}{R:AV->List (Site×aJ)->Prop}{X:Prop}(h1:(aL fz σ).o f=.pv (.fn g fs cs))(h2:(aL fz σ).tY args=some xs)
  (hc:cU P g ((fs++xs++cs).map .pv) [] R) (hK:∀r B,R r B->oK r B/\K (r.map (iU d)) (((aL fz σ).bG d).lX (nV d B))):zD P f args d K σ\/X:=
 .inl (.inr ⟨fz,g,fs,xs,cs,h1,h2,hc.mono fun r B h=>hK r B h⟩)
end
def Bk.wo (b:Bk)(n:Int):Bk:=⟨b.items,b.aA.filter fun c=>!decide (c.num=n)⟩
theorem Gp {b:Bk}{n:Int}{c:Ct}(h:c∈(b.wo n).aA):c∈b.aA:=(iZ.1 h).1
theorem ZD {b:Bk}(hb:b.ok)(n:Int):(b.wo n).ok:=
 ⟨hb.i,lM (Q7 _ _) hb.c,hb.it,fun x hx=>hb.ct x (Gp hx),fun x hx y hy e=>hb.one x (Gp hx) y (Gp hy) e,fun x hx y hy e=>hb.day x (Gp hx) y (Gp hy) e⟩
def Bk.x4 (b:Bk)(n:Int):Bool:=!(b.wo n).contra
def Bk.rD (b:Bk):List Int×Int:=if b.fault=0 then(if b.contra=true then(b.nums.filter b.x4,0)else([],7))else([],b.fault)
attribute [local irreducible] Bk.held Bk.nums Bk.span Bk.contra Bk.x4
def Js (b:Bk)(k:Nat):AS:=⟨[(1,.ptr (.loc 1 0) 0),(6,.vec (.loc 54 0) 1 0 ((b.nums.take k).filter b.x4).length),(29,.pv (.aF false 1 (b.nums.map aO))),(30,.pv (.i b.nums.length)),(31,.pv (.i k))],
 [(.loc 54 0,.arr 3 1 (((b.nums.take k).filter b.x4).map aO)),(.loc 1 0,.cells b.cells)]⟩
theorem Zmq (b:Bk)(hi:b.items.length<=1000)(hc:b.aA.length<=1000):cU prog 210 ([b.pv].map .pv) [] (fun r B=>r=.pv (K2 b.rD)/\B=[]):=by
 have hr:=Zip b hi hc;refine cU.j5 ?_;refine Q6 [.loc 54 0] L210 ?_;intro R hR;simp[L210,Bk.pv,-aT];refine cL [.pv b.pv] [] 14 [] rfl hr ?_
 rintro r0 B0 (⟨h0,rfl,rfl⟩|⟨h0,es,lE,rfl,rfl⟩)
 .refine⟨rfl,by simp,?_⟩;have hd:decide (b.fault=0)=false:=by simpa using h0
  simp[-decide_eq_true_eq,-decide_eq_false_iff_not,hd];rw[<-hR];exact⟨_,rfl,rfl,XX (by unfold Bk.rD;rw[if_neg h0])⟩
 have hb:b.ok:=Bk.R6.1 h0;have hlen:=YB (b:=b);have jP:=Zjf b hb es lE;have hH:=UL hb [];have hS:=Zfo hb 1000;have c6:=ZhV b hb es (kP b [] b.nums.length) (jU b b.nums.length) lE hH hS;refine⟨rfl,by simp[aX,HA],?_⟩;simp[aX,HA,-aT];refine cM [.ptr (.par 0) 0] (laid 0 (kK b [] es)) 23 [.loc 14 0,.loc 14 1] (by simp[laid,kK,aX]) jP (by simp[aX]) ?_;generalize kP b [] b.nums.length=hs at *;generalize jU b b.nums.length=ss at *;simp[aX,-aT];refine cM [.ptr (.par 0) 0] (laid 0 (gT b es hs ss)) 24 [.loc 23 0,.loc 23 1,.loc 23 2,.loc 14 0,.loc 14 1] (by simp[laid,gT,aX]) c6 (by simp[laid,gT,aX]) ?_;clear jP c6 hr;cases oB:b.contra
 .simp[laid,gT,aX];rw[<-hR];exact⟨_,rfl,rfl,XX (by unfold Bk.rD;rw[if_pos h0,if_neg (by simp[oB])])⟩
 have hM:b.rD=(b.nums.filter b.x4,0):=by unfold Bk.rD;rw[if_pos h0,if_pos oB]
 rw[hM]at hR;simp[laid,gT,aX,-aT];refine eP (fun m τ=>∃k:Nat,k<=b.nums.length/\m=b.nums.length-k/\τ=Js b k) ⟨b.nums.length,Js b 0,Sub.trans' (Sub.mk (by simp[AS.cW]) (by simp[AS.cW,Bk.cells])) (cW 54 3 1 6 rfl (by decide)),0,by omega,rfl,rfl⟩ ?_;rintro J hJ m τ ⟨k,hk,rfl,rfl⟩;have mJ:((b.nums.take k).filter b.x4).length<=1000:=lM (Q7 _ _) (by rw[gM];omega);by_cases aI:k<b.nums.length
 .obtain⟨n,hn⟩:∃n,b.nums[k]?=some n:=⟨_,bC aI⟩;have Kv:(b.nums.map aO)[k]?=some (.i n):=by rw[bY,hn];rfl
  have VR:=bK (k:=k) (by omega);have aB:=hJ _ _ ⟨k+1,aI,rfl,rfl⟩;have aH:b.nums.length-(k+1)<b.nums.length-k:=by omega
  have eK:(b.nums.take (k+1)).filter b.x4=(b.nums.take k).filter b.x4++(if b.x4 n=true then[n]else[]):=by
   rw[mV,hn,I2];congr 1;simp only[Option.toList,xT,List.filter_nil]
  have dA:b.aA≠[]:=fun e=>by
   obtain⟨c,hc,_⟩:=(y9 hb).1 (dL hn);rw[e]at hc;cases hc
  have dD:=ZD hb n;have AN:(b.wo n).fault=0:=Bk.R6.2 dD;have gP:=hb.c;have D8:=Zip (b.wo n) (by have:=dD.i;omega) (by have:=dD.c;omega);have U6:=ZqN b.aA dA (by omega);have JB:=Eu (.num n) (Aa n) b.aA (by omega);have hsu:b.x4 n=!(b.wo n).contra:=by unfold Bk.x4;rfl
  have jE:(b.wo n).pv=.agg [aS b.items,.aF false 7 ((b.aA.filter fun c=>!decide (c.num=n)).map Ct.pv)]:=rfl;unfold Js at aB ⊢;rw[eK,hsu]at aB;clear hJ eK hsu hR;generalize(b.nums.take k).filter b.x4=Y at *;have hY:(Y.map aO).take Y.length=Y.map aO:=fQ (by simp);have hY6:Y.length<=999999:=by omega
  have qI:(b.aA.filter fun c=>!decide (c.num=n)).length<=1000:=lM (Q7 _ _) hc;simp[aI,↓Kv,Bk.cells,-aT];refine cM [.pv (aK b.aA)] [] 38 [] rfl U6 (by simp) ?_;simp[-aT];refine cL [.vec (.par 0) 7 0 b.aA.length,.fn 254 [] [.ptr (.par 1) 0]] (laid 0 (.arr 131 7 (b.aA.map Ct.pv)::(eT.num n).b 1)) 40 [.loc 38 0,.loc 8 0] (by simp[laid,eT.b]) JB ?_
  rintro r0 B0 ⟨rfl,X,hX,rfl⟩;refine⟨rfl,by simp[laid,eT.b],?_⟩;have WK:(X.map Ct.pv).take (b.aA.filter fun c=>!decide (c.num=n)).length=(b.aA.filter fun c=>!decide (c.num=n)).map Ct.pv:=by rw[<-List.map_take,hX]
  have H8:(b.aA.filter fun c=>!decide (c.num=n)).length<=X.length:=by
   have:=congrArg List.length hX
   rw[gM]at this;omega
  generalize(b.aA.filter fun c=>!decide (c.num=n))=Z at *;simp[laid,eT.b,-aT];refine Zt3 [.loc 38 0] (fs:=[]) (xs:=[(b.wo n).pv]) (cs:=[]) rfl ?_ D8 ?_
  .simp[aL,WK,H8,jE]
  rintro r0 B0 (⟨q0,rfl,rfl⟩|⟨q0,Lc,De,rfl,rfl⟩)
  .exact absurd AN q0
  have Th:=Zjf (b.wo n) dD Lc De;have hH2:=UL dD [];have nA:=Zfo dD 1000;have Vx:=ZhV (b.wo n) dD Lc (kP (b.wo n) [] (b.wo n).nums.length) (jU (b.wo n) (b.wo n).nums.length) De hH2 nA;generalize b.wo n=b2 at *;refine⟨by simp[oK,aX,HA,J0],?_⟩;simp[aL,aX,HA,nV,iU,WK,H8,-aT];refine cM [.ptr (.par 0) 0] (laid 0 (kK b2 [] Lc)) 48 [.loc 44 0,.loc 44 1] (by simp[laid,kK,aX]) Th (by simp[aX]) ?_;generalize kP b2 [] b2.nums.length=rI at *;generalize jU b2 b2.nums.length=ss2 at *;simp[aX,-aT];refine cM [.ptr (.par 0) 0] (laid 0 (gT b2 Lc rI ss2)) 49 [.loc 48 0,.loc 48 1,.loc 48 2,.loc 44 0,.loc 44 1] (by simp[laid,gT,aX]) Vx (by simp[laid,gT,aX]) ?_;cases FY:b2.contra
  case true=>
   rw[FY,if_neg (by simp),xC]at aB;simp[laid,gT,aX,VR,-aT];exact⟨_,_,aH,Sub.mk (by simp) (by simp[Bk.cells]),aB⟩
  case false=>
  rw[FY,if_pos (by rfl)]at aB;simp[laid,gT,aX,VR,aN,hY6,-aT];exact⟨_,_,aH,Sub.mk (by simp) (by simp[Bk.cells,aO]),aB⟩
 have he:k=b.nums.length:=by omega
 subst he;clear hJ;unfold Js;rw[nD]at mJ ⊢;generalize b.nums.filter b.x4=Y at *;have hY:(Y.map aO).take Y.length=Y.map aO:=fQ (by simp);simp[hY,-aT];rw[<-hR];exact⟨_,rfl,rfl,fun m v h=>h⟩
end
section
attribute [local irreducible] Bk.fault Bk.rD
theorem PU:jO 3=some 3:=rfl
theorem VG:jO 4=some 4:=rfl
theorem nI5:jO 5=some 5:=rfl
theorem nI6:jO 6=some 6:=rfl
def mA (l:List Ct)(bad:List Int)(x:Ct):Except Int (List Ct):=
 if(l.any fun y=>decide (y.num=x.num))=true then .error 6
 else if Bk.fault ⟨rE,l++[x]⟩=0 then(if(eO (l++[x]) bad).rD.2=7 then .ok (l++[x])else .error 9)
 else .error (Bk.fault ⟨rE,l++[x]⟩)
def crQ (r:Except Int (List Ct))(bad:List Int)(ls:PV)(ts:PV)(rn:PV)(a b c d e:PV):Prop:=∃l',r=.ok l'/\a=aK l'/\b=bJ bad/\c=ls/\d=ts/\e=rn
theorem Zvf (l:List Ct)(bad:List Int)(ls ts rn:PV)(x:Ct)(hl:l.length<=900)(hb:bad.length<=1000):
  tH prog 168 [.ptr (.par 0) 0,.pv (.aF false 1 [iP x.num,iP x.it,iP x.src,iP x.day,iP x.valid,iP x.diff.lo,iP x.diff.hi])] [(.par 0,aP (aK l) (bJ bad) ls ts rn)] (yF (crQ (mA l bad x) bad ls ts rn)) (uY (fun e=>mA l bad x=.error e)):=by
 have N4:=ZjA l x.num (bJ bad) ls ts rn (by omega);refine cX L168 ?_;generalize hE:(fun e=>mA l bad x=.error e)=E;generalize hQ:crQ (mA l bad x) bad ls ts rn=Q;unfold mA at hE hQ;generalize(l.any fun y=>decide (y.num=x.num))=kn at hE hQ N4;show fO _ (.seq _ (.seq _ (.seq _ _))) _ _ _;cases kn with
 |true=>
  have JL:E 6:=by rw[<-hE];rfl
  refine xF [_,_,_,_,_,_] ?_;simp[hold,aP,iP,aK];refine cM [.ptr (.par 0) 0,.pv (.i x.num)] [(.par 0,aP (aK l) (bJ bad) ls ts rn)] 9 [.par 0] (by simp[aP,aK]) N4 (by simp[aP]) ?_;simp[aP];exact pF 6 JL
 |false=>
 rw[if_neg (by simp)]at hE hQ;refine mI ?_;simp[hold,aP,iP,aK];refine cM [.ptr (.par 0) 0,.pv (.i x.num)] [(.par 0,aP (aK l) (bJ bad) ls ts rn)] 9 [.par 0] (by simp[aP,aK]) N4 (by simp[aP]) ?_;simp[aP];refine cG [.bool true,.i 6] (gR 6) ?_;simp;refine mI ?_;simp[hold,setAt,PU,VG,nI5,nI6];refine .inl (cQ [] [.aF false 7 (l.map Ct.pv),x.pv] (ZoP (l.map Ct.pv) x.num x.it x.src x.day x.valid x.diff.lo x.diff.hi (by rw[fZ];omega)) ?_);have H7:l.map Ct.pv++[.agg [.i x.num,.i x.it,.i x.src,.i x.day,.i x.valid,.i x.diff.lo,.i x.diff.hi]]=(l++[x]).map Ct.pv:=by rw[mL];rfl
 rw[H7];have SK:(l++[x]).length<=1000:=by rw[gF];simp;omega
 generalize l++[x]=L at hE hQ SK ⊢;clear H7 N4;simp[hold];have hwc:=Zsd L (bJ bad) ls ts rn;have JE:=ZjX ⟨rE,L⟩ (show rE.length<=1000 by decide) SK;generalize hF:Bk.fault ⟨rE,L⟩=F at hE hQ JE;refine mI ?_;simp;refine cM [.ptr (.par 0) 0] [(.par 0,aP (aK L) (bJ bad) ls ts rn)] 46 [.par 0] (by simp[aP,aK]) hwc (by simp[aP]) ?_;simp[hold,aP];refine cG [Bk.pv ⟨rE,L⟩] JE ?_;simp[hold];by_cases h0:¬F=0
 .rw[if_neg h0]at hE;have hEF:E F:=by rw[<-hE]
  refine xF [_,_,_] ?_;simp[hold,h0];exact pF F hEF
 have h0:=Decidable.not_not.1 h0;rw[if_pos h0]at hE hQ;refine mI ?_;simp[hold,h0];refine cG [.bool true,.i 0] (gR 0) ?_;simp[hold];have mO:=Mq L bad ls ts rn SK hb;have wG:=Zmq (eO L bad) (show rE.length<=1000 by decide) (by unfold eO fR;exact lM (Q7 _ _) SK);generalize hS:(eO L bad).rD=sp at hE hQ wG;obtain⟨s1,s2⟩:=sp;refine mI ?_;simp;refine cM [.ptr (.par 0) 0] [(.par 0,aP (aK L) (bJ bad) ls ts rn)] 54 [.par 0] (by simp[aP,aK]) mO (by simp[aP]) ?_;simp[aP];refine .inl (cQ [] [(eO L bad).pv] wG ?_);simp[K2];by_cases h7:¬s2=7
 .rw[if_neg h7]at hE;have Ww:E 9:=by rw[<-hE]
  refine Hg [_,_] ?_;simp[hold,h7];exact pF 9 Ww
 have h7:=Decidable.not_not.1 h7;rw[if_pos h7]at hQ;refine GZ ?_;simp[hold,h7];refine cG [.bool true,.i 9] (gR 9) ?_;simp[hold];refine n9 (a:=aK L) (b:=bJ bad) (c:=ls) (d:=ts) (e:=rn) [] ?_ ?_
 .simp[aY,aP,aK,bJ]
 .rw[<-hQ];exact⟨_,rfl,rfl,rfl,rfl,rfl,rfl⟩
end
end Go.Proofs.YthmbecacehfgfabGreatDoor
namespace Go.Proofs.YthmbecacehfgfabGreatDoor.Qn
open Go.RowKit
open Tryz
section
open Go.RowKit Go.ChangeShapes Go.WideShapes Go.Deep
structure Rg where
 lo:Int
 hi:Int
structure Rq where
 hours:Int
 ready:Int
 on:List Bool
structure Qu where
 ms:List (List Rg)
 rs:List Rq
def Rg.pv (r:Rg):PV:=.agg [.i r.lo,.i r.hi]
def iA (l:List Rg):PV:=.aF false 2 (l.map Rg.pv)
def PN (l:List Bool):PV:=.aF false 1 (l.map PV.bool)
def Rq.pv (r:Rq):PV:=.agg [.i r.hours,.i r.ready,PN r.on]
def Qu.pv (q:Qu):PV:=.agg [.aF false 1 (q.ms.map iA),.aF false 3 (q.rs.map Rq.pv)]
section
variable {H:Type}{enc:TypeId×Value->H}{W:World}{sp:Nat->Bool}{held:Bool}{r:Reach}{base:Nat}
end
end
theorem HB (n lo hi:Int):aC prog 145 [.i n,.i lo,.i hi] (.bool (decide (lo<=n)&&decide (n<=hi))):=by
 refine cS L145 ?_;by_cases h:lo<=n
 all_goals simp[h,L145]
theorem yL (n lo hi:Int):aC prog 248 [.i n,.i lo,.i hi] (.bool (decide (lo<=n)&&decide (n<=hi))):=by
 refine cS L248 ?_;by_cases h:lo<=n
 all_goals simp[h,L248]
def wJ (n:Int):Bool:=decide (0<=n)&&decide (n<=39)
def kY (n:Int):Bool:=decide (0<=n)&&decide (n<=40)
theorem ZrO (n:Int):aC prog 144 [.i n] (.bool (wJ n)):=by
 refine cS L144 ?_;simp[L144];refine gH (k:=0) rfl rfl (HB n 0 39) rfl ?_;simp[wJ]
theorem ZrL (n:Int):aC prog 100 [.i n] (.bool (kY n)):=by
 refine cS L100 ?_;simp[L100];refine gH (k:=0) rfl rfl (HB n 0 40) rfl ?_;simp[kY]
def Rg.x6 (r:Rg):Bool:=wJ r.lo&&wJ r.hi&&decide (r.lo<=r.hi)
theorem ZtG (r:Rg):aC prog 98 [r.pv] (.bool r.x6):=by
 refine cS L98 ?_;simp[L98,Rg.pv];refine gH (k:=0) rfl rfl (ZrO r.lo) rfl ?_;cases h1:wJ r.lo
 .simp[Rg.x6,h1]
 .simp;refine gH (k:=0) rfl rfl (ZrO r.hi) rfl ?_;cases h2:wJ r.hi
  .simp[Rg.x6,h1,h2]
  .simp[Rg.x6,h1,h2]
theorem Zro (l:List PV)(g:FuncId)(fs cs:List PV)(q:PV->Bool)(hq:∀x∈l,aC prog g (fs++[x]++cs) (.bool (q x)))(hl:l.length<=1000000)(hc:∀x∈l,∃ys,x=.aF false 2 ys):
  aC prog 146 [.aF false 1 l,.fn g fs cs] (.bool (l.any q)):=
 wY 194 (UC (row:=false) hq hl (fun x hx=>by obtain⟨ys,rfl⟩:=hc x hx;exact⟨rfl,by simp⟩))
theorem Zo8 (x:PV)(g:FuncId)(fs cs:List PV)(b:Bool)(hx:∃ys,x=.aF false 2 ys)(hq:aC prog g (fs++[x]++cs) (.bool b)):
  aC prog 147 [x,.ref [.fn g fs cs]] (.bool (!b)):=by
 obtain⟨ys,rfl⟩:=hx;refine cS L147 ?_;simp[L147];refine gH (k:=0) rfl rfl hq rfl ?_;simp
theorem ZlJ (l:List PV)(g:FuncId)(fs cs:List PV)(q:PV->Bool)(hq:∀x∈l,aC prog g (fs++[x]++cs) (.bool (q x)))(hl:l.length<=1000000)(hc:∀x∈l,∃ys,x=.aF false 2 ys):
  aC prog 101 [.aF false 1 l,.fn g fs cs] (.bool (l.all q)):=
 O4 146 147 (Zro l 147 [] [.ref [.fn g fs cs]] (fun x=>!q x) (fun x hx=>Zo8 x g fs cs (q x) (hc x hx) (hq x hx)) hl hc)
theorem Zo5 (l:List PV)(g:FuncId)(fs cs:List PV)(q:PV->Bool)(hq:∀x∈l,aC prog g (fs++[x]++cs) (.bool (q x)))(hl:l.length<=1000000)(hc:∀x∈l,∃a b,x=.agg [.i a,.i b]):
  aC prog 142 [.aF false 2 l,.fn g fs cs] (.bool (l.any q)):=
 wY 193 (UC (row:=true) hq hl (fun x hx=>by obtain⟨a,b,rfl⟩:=hc x hx;exact⟨_,rfl,rfl⟩))
theorem Zrs (x:PV)(g:FuncId)(fs cs:List PV)(b:Bool)(hx:∃a b,x=.agg [.i a,.i b])(hq:aC prog g (fs++[x]++cs) (.bool b)):
  aC prog 143 [x,.ref [.fn g fs cs]] (.bool (!b)):=by
 obtain⟨a,b,rfl⟩:=hx;refine cS L143 ?_;simp[L143];refine gH (k:=0) rfl rfl hq rfl ?_;simp
theorem Zul (l:List PV)(g:FuncId)(fs cs:List PV)(q:PV->Bool)(hq:∀x∈l,aC prog g (fs++[x]++cs) (.bool (q x)))(hl:l.length<=1000000)(hc:∀x∈l,∃a b,x=.agg [.i a,.i b]):
  aC prog 97 [.aF false 2 l,.fn g fs cs] (.bool (l.all q)):=
 O4 142 143 (Zo5 l 143 [] [.ref [.fn g fs cs]] (fun x=>!q x) (fun x hx=>Zrs x g fs cs (q x) (hc x hx) (hq x hx)) hl hc)
theorem Zug (l:List PV)(g:FuncId)(fs cs:List PV)(q:PV->Bool)(hq:∀x∈l,aC prog g (fs++[x]++cs) (.bool (q x)))(hl:l.length<=1000000)(hc:∀x∈l,∃a b ys,x=.agg [.i a,.i b,.aF false 1 ys]):
  aC prog 148 [.aF false 3 l,.fn g fs cs] (.bool (l.any q)):=
 wY 195 (UC (row:=true) hq hl (fun x hx=>by obtain⟨a,b,ys,rfl⟩:=hc x hx;exact⟨_,rfl,rfl⟩))
theorem Zrr (x:PV)(g:FuncId)(fs cs:List PV)(b:Bool)(hx:∃a b ys,x=.agg [.i a,.i b,.aF false 1 ys])(hq:aC prog g (fs++[x]++cs) (.bool b)):
  aC prog 149 [x,.ref [.fn g fs cs]] (.bool (!b)):=by
 obtain⟨a,b,ys,rfl⟩:=hx;refine cS L149 ?_;simp[L149];refine gH (k:=0) rfl rfl hq rfl ?_;simp
theorem Zuk (l:List PV)(g:FuncId)(fs cs:List PV)(q:PV->Bool)(hq:∀x∈l,aC prog g (fs++[x]++cs) (.bool (q x)))(hl:l.length<=1000000)(hc:∀x∈l,∃a b ys,x=.agg [.i a,.i b,.aF false 1 ys]):
  aC prog 102 [.aF false 3 l,.fn g fs cs] (.bool (l.all q)):=
 O4 148 149 (Zug l 149 [] [.ref [.fn g fs cs]] (fun x=>!q x) (fun x hx=>Zrr x g fs cs (q x) (hc x hx) (hq x hx)) hl hc)
theorem Ep (ys:List PV):aC prog 95 [.aF false 2 ys] (.bool (decide ((ys.length:Int)<=6))):=by
 refine cS L95 ?_;simp[-decide_eq_true_eq,L95]
def Gj:PV->Bool
 |.agg [.int _ a,.int _ b]=>Rg.x6 ⟨a,b⟩
 |_=>true
theorem Zsp (l:List Rg)(hl:l.length<=1000000):aC prog 96 [iA l] (.bool (l.all Rg.x6)):=by
 have h:=Zul (l.map Rg.pv) 98 [] [] Gj (fun x hx=>by
  obtain⟨r,_,rfl⟩:=iN.1 hx;exact ZtG r) (by simpa using hl) (fun x hx=>by
  obtain⟨r,_,rfl⟩:=iN.1 hx;exact⟨_,_,rfl⟩)
 have e:(l.map Rg.pv).all Gj=l.all Rg.x6:=by rw[List.all_map];rfl
 rw[e]at h;refine cS L96 ?_;simp[L96,iA];refine gH (k:=0) rfl rfl h rfl ?_;simp
def Rq.okB (n:Nat)(r:Rq):Bool:=kY r.hours&&kY r.ready&&decide ((r.on.length:Int)=n)
theorem ZR (q:Qu)(r:Rq):aC prog 99 [r.pv,.ref [.aF false 1 (q.ms.map iA),.aF false 3 (q.rs.map Rq.pv)]] (.bool (r.okB q.ms.length)):=by
 refine cS L99 ?_;simp[L99,Rq.pv];refine gH (k:=0) (fs:=[]) (cs:=[]) rfl rfl (ZrL r.hours) rfl ?_;cases h1:kY r.hours
 .simp[Rq.okB,h1]
 .simp;refine gH (k:=0) (fs:=[]) (cs:=[]) rfl rfl (ZrL r.ready) rfl ?_;cases h2:kY r.ready
  .simp[Rq.okB,h1,h2]
  .simp[PN,Rq.okB,h1,h2]
def Qu.xR (q:Qu):Bool:=decide (4<q.ms.length)||decide (6<q.rs.length)||!(q.ms.all fun l=>decide ((l.length:Int)<=6))
def Qu.bad (q:Qu):Bool:=!(q.ms.all fun l=>l.all Rg.x6)||!(q.rs.all fun r=>r.okB q.ms.length)
def Qu.check (q:Qu):Int:=if q.xR=true then 3 else if q.bad=true then 1 else 0
def SY:PV->Bool
 |.aF _ _ ys=>decide ((ys.length:Int)<=6)
 |_=>true
def Zr:PV->Bool
 |.aF _ _ ys=>ys.all Gj
 |_=>true
def Ak (n:Nat):PV->Bool
 |.agg [.int _ a,.int _ b,.aF _ _ ys]=>kY a&&kY b&&decide ((ys.length:Int)=n)
 |_=>true
theorem XU (q:Qu)(h1:q.ms.length<=1000000)(h2:q.rs.length<=1000000)(h3:∀l∈q.ms,l.length<=1000000):aC prog 60 [q.pv] (.i q.check):=by
 have e1:(q.ms.map iA).all SY=q.ms.all fun l=>decide ((l.length:Int)<=6):=by
  rw[List.all_map];congr 1;funext l;simp[SY,iA]
 have e2:(q.ms.map iA).all Zr=q.ms.all fun l=>l.all Rg.x6:=by
  rw[List.all_map];congr 1;funext l;show((l.map Rg.pv).all Gj)=_;rw[List.all_map];rfl
 have e3:(q.rs.map Rq.pv).all (Ak q.ms.length)=q.rs.all fun r=>r.okB q.ms.length:=by
  rw[List.all_map];congr 1;funext r;simp[Ak,Rq.pv,PN,Rq.okB]
 have a1:=ZlJ (q.ms.map iA) 95 [] [] SY (fun x hx=>by
  obtain⟨l,_,rfl⟩:=iN.1 hx;exact Ep _) (by simpa using h1) (fun x hx=>by
  obtain⟨l,_,rfl⟩:=iN.1 hx;exact⟨_,rfl⟩)
 have a2:=ZlJ (q.ms.map iA) 96 [] [] Zr (fun x hx=>by
  obtain⟨l,hl,rfl⟩:=iN.1 hx
  have:=Zsp l (h3 l hl)
  have e:Zr (iA l)=l.all Rg.x6:=by show((l.map Rg.pv).all Gj)=_;rw[List.all_map];rfl
  rw[e];exact this) (by simpa using h1) (fun x hx=>by
  obtain⟨l,_,rfl⟩:=iN.1 hx;exact⟨_,rfl⟩)
 have a3:=Zuk (q.rs.map Rq.pv) 99 [] [.ref [.aF false 1 (q.ms.map iA),.aF false 3 (q.rs.map Rq.pv)]] (Ak q.ms.length) (fun x hx=>by
  obtain⟨r,_,rfl⟩:=iN.1 hx;have e:Ak q.ms.length r.pv=r.okB q.ms.length:=by simp[Ak,Rq.pv,PN,Rq.okB]
  rw[e];exact ZR q r) (by simpa using h2) (fun x hx=>by
  obtain⟨r,_,rfl⟩:=iN.1 hx;exact⟨_,_,_,rfl⟩)
 rw[e1]at a1;rw[e2]at a2;rw[e3]at a3;have hb:q.xR=(decide (4<q.ms.length)||decide (6<q.rs.length)||!(q.ms.all fun l=>decide ((l.length:Int)<=6))):=rfl;have hd:q.bad=(!(q.ms.all fun l=>l.all Rg.x6)||!(q.rs.all fun r=>r.okB q.ms.length)):=rfl;unfold Qu.check;generalize(q.ms.all fun l=>decide ((l.length:Int)<=6))=b1 at *;generalize(q.ms.all fun l=>l.all Rg.x6)=b2 at *;generalize(q.rs.all fun r=>r.okB q.ms.length)=b3 at *;refine cS L60 ?_;by_cases c1:4<q.ms.length
 .have k1:(4:Int)<(q.ms.length:Int):=by omega
  have C9:¬((q.ms.length:Int)<=4):=by omega
  simp[L60,Qu.pv,k1,hb,c1]
 .have d1:decide ((4:Int)<(q.ms.length:Int))=false:=by simp;omega
  by_cases c2:6<q.rs.length
  .have d2:decide ((6:Int)<(q.rs.length:Int))=true:=by simp;omega
   simp[-decide_eq_true_eq,-decide_eq_false_iff_not,L60,Qu.pv,d1,d2];simp[hb,c1,c2]
  .have d2:decide ((6:Int)<(q.rs.length:Int))=false:=by simp;omega
   simp[-decide_eq_true_eq,-decide_eq_false_iff_not,L60,Qu.pv,d1,d2];refine gH (k:=4) rfl rfl a1 rfl ?_;cases b1
   .simp[hb,c1,c2]
   .simp;refine gH (k:=4) rfl rfl a2 rfl ?_;cases b2
    .simp[hb,hd,c1,c2]
    .simp;refine gH (k:=4) rfl rfl a3 rfl ?_;cases b3<;>simp[hb,hd,c1,c2]
def Qu.cells (q:Qu):List AV:=[.pv (.aF false 1 (q.ms.map iA)),.pv (.aF false 3 (q.rs.map Rq.pv))]


def aO (n:Int):PV:=.i n
def bT (l:List Int):PV:=.aF false 1 (l.map aO)
def eH (p:List (List Int)):PV:=.aF false 1 (p.map bT)
theorem jK {k:Nat}(h:k<=1000000):IntKind.i64.wrap ((k:Int)+1)=((k+1:Nat):Int):=by rw[wrap64 (by omega)];omega
def Qu.uF (q:Qu)(i:Int):Int:=((q.rs[i.toNat]?).map Rq.hours).getD 0
def Qu.sU (q:Qu)(l:List Int):Int:=(l.map q.uF).sum
theorem Qu.ZxZ {q:Qu}(hh:∀r∈q.rs,0<=r.hours/\r.hours<=40)(i:Int):0<=q.uF i/\q.uF i<=40:=by
 unfold Qu.uF;cases h:q.rs[i.toNat]? with
 |none=>simp
 |some r=>exact hh r (dL h)
theorem Qu.Zxd {q:Qu}(hh:∀r∈q.rs,0<=r.hours/\r.hours<=40):∀l:List Int,0<=q.sU l/\q.sU l<=40*l.length
 |[]=>by simp[Qu.sU]
 |a::l=>by
  have h1:=Qu.Zxd hh l;have h2:=q.ZxZ hh a;have e:q.sU (a::l)=q.uF a+q.sU l:=by simp[Qu.sU]
  rw[e,pI];omega
theorem Qu.Zxm (q:Qu)(a b:List Int):q.sU (a++b)=q.sU a+q.sU b:=by simp[Qu.sU]
theorem HU (q:Qu)(l:List Int)(hl:l.length<=1000)(hr:q.rs.length<=1000)(hh:∀r∈q.rs,0<=r.hours/\r.hours<=40)(gB:∀x∈l,0<=x/\x<q.rs.length):aC prog 118 [q.pv,bT l] (.i (q.sU l)):=by
 refine cS L118 ?_;simp[L118,Qu.pv,bT];refine eP (fun n τ=>∃k:Nat,k<=l.length/\n=l.length-k/\τ=⟨[(1,.pv (bT l)),(2,.ptr (.loc 2 0) 0),(5,.pv (.i (q.sU (l.take k)))),(6,.pv (.i k))],[(.loc 2 0,.cells q.cells)]⟩)
  ⟨l.length,⟨[(1,.pv (bT l)),(2,.ptr (.loc 2 0) 0),(5,.pv (.i 0)),(6,.pv (.i 0))],[(.loc 2 0,.cells q.cells)]⟩,Sub.mk (by simp[bT]) (by simp[Qu.cells]),0,gW _,rfl,by simp[Qu.sU]⟩ ?_
 rintro J hJ n τ ⟨k,hk,rfl,rfl⟩;by_cases aI:k<l.length
 .obtain⟨x,hx⟩:∃x,l[k]?=some x:=⟨l[k],bC aI⟩;obtain⟨CQ,Z1⟩:=gB x (dL hx);obtain⟨i,rfl⟩:∃i:Nat,x=i:=⟨x.toNat,by omega⟩;obtain⟨r,wI⟩:∃r,q.rs[i]?=some r:=⟨q.rs[i]'(by omega),bC _⟩;have RS:(l.map aO)[k]?=some (.i i):=by rw[bY,hx];rfl
  have H6:(q.rs.map Rq.pv)[i]?=some (.agg [.i r.hours,.i r.ready,PN r.on]):=by rw[bY,wI];rfl
  have hw:=jK (k:=k) (by omega);have jX:q.sU (l.take (k+1))=q.sU (l.take k)+r.hours:=by
   rw[mV,hx,Qu.Zxm];simp[Qu.sU,Qu.uF,wI]
  have hb:=Qu.Zxd hh (l.take k);have nS:(l.take k).length<=1000:=by rw[gM];omega
  have SC:=hh r (dL wI);have sY:IntKind.i64.wrap (q.sU (l.take k)+r.hours)=q.sU (l.take k)+r.hours:=wrap64 (by omega);have aB:=hJ _ _ ⟨k+1,aI,rfl,rfl⟩;clear hJ;simp[bT,Qu.cells,aI,↓RS,↓H6,hw,sY];refine⟨_,_,(by omega:l.length-(k+1)<l.length-k),Sub.mk ?_ ?_,aB⟩
  .simp[bT,jX]
  .simp[Qu.cells]
 .have he:k=l.length:=by omega
  subst he;simp[bT,Qu.cells]
def Rg.has (s:Rg)(h:Int):Bool:=decide (s.lo<=h)&&decide (h<=s.hi)
theorem Zsq (s:Rg)(h:Int):aC prog 296 [s.pv,.ref [.i h]] (.bool (s.has h)):=by
 refine cS L296 ?_;simp[L296,Rg.pv];refine gH (k:=0) rfl rfl (HB h s.lo s.hi) rfl ?_;simp[Rg.has]
def Du (h:Int):PV->Bool
 |.agg [.int _ a,.int _ b]=>Rg.has ⟨a,b⟩ h
 |_=>false
def Qu.run (q:Qu)(i:Nat):Rq:=(q.rs[i]?).getD ⟨0,0,[]⟩
def Qu.stops (q:Qu)(m:Nat):List Rg:=(q.ms[m]?).getD []
def Qu.may (q:Qu)(i m:Nat)(h:Int):Bool:=((q.run i).on[m]?).getD false&&decide ((q.run i).ready<=h)&&!(q.stops m).any (Rg.has · h)
structure Qu.ok (q:Qu):Prop where
 m:q.ms.length<=4
 r:q.rs.length<=6
 s:∀l∈q.ms,l.length<=6
 x:∀l∈q.ms,∀y∈l,0<=y.lo/\y.lo<=y.hi/\y.hi<=39
 h:∀r∈q.rs,0<=r.hours/\r.hours<=40
 d:∀r∈q.rs,0<=r.ready/\r.ready<=40
 f:∀r∈q.rs,r.on.length=q.ms.length
theorem Qu.XC {q:Qu}(h:q.check=0):q.ok:=by
 unfold Qu.check at h;split at h
 .cases h
 .rename_i h1;split at h
  .cases h
  .rename_i h2;simp only[Qu.xR,Bool.not_eq_true,Bool.or_eq_false_iff,decide_eq_false_iff_not,Bool.not_eq_false',rM,decide_eq_true_eq]at h1;simp only[Qu.bad,Bool.not_eq_true,Bool.or_eq_false_iff,Bool.not_eq_false',rM]at h2;obtain⟨⟨a1,a2⟩,a3⟩:=h1;obtain⟨b1,b2⟩:=h2;refine⟨by omega,by omega,fun l hl=>by have:=a3 l hl;omega,fun l hl y hy=>?_,fun r hr=>?_,fun r hr=>?_,fun r hr=>?_⟩
   .have:=b1 l hl y hy
    simp only[Rg.x6,wJ,dK,decide_eq_true_eq]at this;omega
   all_goals
    have:=b2 r hr
    simp only[Rq.okB,kY,dK,decide_eq_true_eq]at this;omega
theorem Ap (q:Qu)(hq:q.ok)(i m:Nat)(h:Int)(hi:i<q.rs.length)(hm:m<q.ms.length):aC prog 282 [q.pv,.i i,.i m,.i h] (.bool (q.may i m h)):=by
 obtain⟨r,hr⟩:∃r,q.rs[i]?=some r:=⟨q.rs[i],bC hi⟩;obtain⟨l,hl⟩:∃l,q.ms[m]?=some l:=⟨q.ms[m],bC hm⟩;obtain⟨b,hb⟩:∃b,r.on[m]?=some b:=⟨r.on[m]'(by rw[hq.f r (dL hr)];exact hm),bC _⟩;have zS:=hq.s l (dL hl);have e:q.may i m h=(b&&decide (r.ready<=h)&&!l.any (Rg.has · h)):=by simp[Qu.may,Qu.run,Qu.stops,hr,hl,hb]
 have g1:(q.rs.map Rq.pv)[i]?=some (.agg [.i r.hours,.i r.ready,.aF false 1 (r.on.map PV.bool)]):=by rw[bY,hr];rfl
 have g2:(q.ms.map iA)[m]?=some (.aF false 2 (l.map Rg.pv)):=by rw[bY,hl];rfl
 have g3:(r.on.map PV.bool)[m]?=some (.bool b):=by rw[bY,hb];rfl
 have a1:=Zo5 (l.map Rg.pv) 296 [] [.ref [.i h]] (Du h) (fun x hx=>by
  obtain⟨s,_,rfl⟩:=iN.1 hx;exact Zsq s h) (by simp;omega) (fun x hx=>by
  obtain⟨s,_,rfl⟩:=iN.1 hx;exact⟨_,_,rfl⟩)
 have e2:(l.map Rg.pv).any (Du h)=l.any (Rg.has · h):=by rw[List.any_map];rfl
 rw[e2]at a1;rw[e];generalize l.any (Rg.has · h)=c at *;clear e zS e2;refine cS L282 ?_;cases b
 .simp[L282,Qu.pv,↓g1,↓g3]
 .by_cases hd:r.ready<=h
  .simp[L282,Qu.pv,↓g1,↓g2,↓g3,hd];refine gH (k:=4) (fs:=[]) (xs:=[.aF false 2 (l.map Rg.pv),.fn 296 [] [.ref [.i h]]]) (cs:=[]) rfl rfl a1 rfl ?_;simp
  .simp[L282,Qu.pv,↓g1,↓g3,hd]
def kR (p:List (List Int))(i:Nat):Nat:=(p.map (List.count (i:Int))).sum
theorem Mz (a b:List (List Int))(i:Nat):kR (a++b) i=kR a i+kR b i:=by simp[kR]
theorem Zt0 (l:List Int)(i:Nat):kR [l] i=l.count (i:Int):=by simp[kR]
theorem OY {α:Type}{l:List α}{k:Nat}{x:α}(h:l[k]?=some x):l.take (k+1)=l.take k++[x]:=by rw[mV,h];rfl

theorem ZuB (q:Qu)(hq:q.ok)(i m:Nat)(h:Int)(hi:i<q.rs.length)(hm:m<q.ms.length):aC prog 202 [q.pv,.i i,.i m,.i h] (.bool (q.may i m h)):=by
 obtain⟨r,hr⟩:∃r,q.rs[i]?=some r:=⟨q.rs[i],bC hi⟩;obtain⟨l,hl⟩:∃l,q.ms[m]?=some l:=⟨q.ms[m],bC hm⟩;obtain⟨b,hb⟩:∃b,r.on[m]?=some b:=⟨r.on[m]'(by rw[hq.f r (dL hr)];exact hm),bC _⟩;have zS:=hq.s l (dL hl);have e:q.may i m h=(b&&decide (r.ready<=h)&&!(l.take l.length).any (Rg.has · h)):=by simp[Qu.may,Qu.run,Qu.stops,hr,hl,hb]
 have g1:(q.rs.map Rq.pv)[i]?=some (.agg [.i r.hours,.i r.ready,.aF false 1 (r.on.map PV.bool)]):=by rw[bY,hr];rfl
 have g2:(q.ms.map iA)[m]?=some (.aF false 2 (l.map Rg.pv)):=by rw[bY,hl];rfl
 have g3:(r.on.map PV.bool)[m]?=some (.bool b):=by rw[bY,hb];rfl
 obtain⟨C,hC⟩:∃C,C=(b&&decide (r.ready<=h)):=⟨_,rfl⟩;rw[e,<-hC];clear e;refine cS L202 ?_;cases b<;>by_cases hd:r.ready<=h
 all_goals
  simp[L202,Qu.pv,↓g1,↓g3,hd];refine eP (fun n τ=>∃k:Nat,k<=l.length/\n=l.length-k/\τ=⟨[(2,.pv (.i m)),(3,.pv (.i h)),(4,.ptr (.loc 4 0) 0),(10,.pv (.bool (C&&!(l.take k).any (Rg.has · h)))),(11,.pv (.i k))],[(.loc 4 0,.cells q.cells)]⟩)
   ⟨l.length,⟨[(2,.pv (.i m)),(3,.pv (.i h)),(4,.ptr (.loc 4 0) 0),(10,.pv (.bool C)),(11,.pv (.i 0))],[(.loc 4 0,.cells q.cells)]⟩,Sub.mk (by simp[hC,hd]) (by simp[Qu.cells]),0,gW _,rfl,by simp⟩ ?_
  clear hC hd;rintro J hJ n τ ⟨k,hk,rfl,rfl⟩;by_cases aI:k<l.length
  .obtain⟨x,hx⟩:∃x,l[k]?=some x:=⟨l[k],bC aI⟩;have g4:(l.map Rg.pv)[k]?=some (.agg [.i x.lo,.i x.hi]):=by rw[bY,hx];rfl
   have hw:=jK (k:=k) (by omega);have aB:=hJ _ _ ⟨k+1,aI,rfl,rfl⟩;have kG:(C&&!(l.take (k+1)).any (Rg.has · h))=((C&&!(l.take k).any (Rg.has · h))&&!x.has h):=by
    rw[OY hx,List.any_append,List.any_cons,List.any_nil,Bool.or_false,Bool.not_or,Bool.and_assoc]
   have aH:l.length-(k+1)<l.length-k:=by omega
   clear hJ;generalize(C&&!(l.take (k+1)).any (Rg.has · h))=C2 at *;generalize(C&&!(l.take k).any (Rg.has · h))=C1 at *;subst kG;cases C1
   .simp[Qu.cells,↓g2,↓g4,aI,hw];exact⟨_,_,aH,Sub.mk (by simp) (by simp[Qu.cells]),aB⟩
   .simp[Qu.cells,↓g2,↓g4,aI];refine gH (k:=0) (fs:=[]) (cs:=[]) rfl rfl (yL h x.lo x.hi) rfl ?_;simp[hw,-Bool.not_and];exact⟨_,_,aH,Sub.mk (by simp[Rg.has]) (by simp[Qu.cells]),aB⟩
  .have he:k=l.length:=by omega
   subst he;simp[Qu.cells,↓g2]

def Qu.TS (q:Qu)(l:List Int)(i:Nat):Bool:=decide (0<=(l[i]?).getD (-1))&&decide ((l[i]?).getD (-1)<=(q.rs.length:Int)-1)&&(decide (i=0)||decide ((l[i-1]?).getD (-1)<(l[i]?).getD (-1)))
def Qu.rising (q:Qu)(l:List Int):Bool:=(List.range l.length).all (q.TS l)
theorem ZqP (l:List Int)(hl:l.length<=1000000):aC prog 51 [bT l] (bT l):=by
 refine cU.j5 ?_;refine cF [.loc 7 0] L51 ?_;cases l with
 |nil=>
  simp[L51,bT,dI,y8,aN,cC,B9];exact fun m v h=>BF h
 |cons a l=>
  have h1:l.length+1<=1000000:=by simpa using hl
  have hm:(l.map aO).take l.length=l.map aO:=fQ (by simp);simp[L51,bT,dI,aN,h1,hm]


section
theorem Zdz {P:Program}{C:Cons P}{c:C.S}{k:Nat}:((laid 0 (C.X c)).filter fun p=>!p.1.fP k).map (fun p=>(p.1,p.2.bG k))=laid 0 (C.X c):=ZeF (C.cl c)
theorem Zu3:aC prog 104 [] (.agg [.i (-1),.i (-1),.i (-1),.i (-1)]):=by
 refine cS L104 ?_;simp[L104];refine eP (fun n τ=>(n=4/\τ=⟨[(0,.ptr (.loc 0 0) 0),(2,.pv (.i 0))],[(.loc 0 0,.cells [.pv (.i 0),.pv (.i 0),.pv (.i 0),.pv (.i 0)])]⟩)\/
  (n=3/\τ=⟨[(0,.ptr (.loc 0 0) 0),(2,.pv (.i 1))],[(.loc 0 0,.cells [.pv (.i (-1)),.pv (.i 0),.pv (.i 0),.pv (.i 0)])]⟩)\/
  (n=2/\τ=⟨[(0,.ptr (.loc 0 0) 0),(2,.pv (.i 2))],[(.loc 0 0,.cells [.pv (.i (-1)),.pv (.i (-1)),.pv (.i 0),.pv (.i 0)])]⟩)\/
  (n=1/\τ=⟨[(0,.ptr (.loc 0 0) 0),(2,.pv (.i 3))],[(.loc 0 0,.cells [.pv (.i (-1)),.pv (.i (-1)),.pv (.i (-1)),.pv (.i 0)])]⟩)\/
  (n=0/\τ=⟨[(0,.ptr (.loc 0 0) 0),(2,.pv (.i 4))],[(.loc 0 0,.cells [.pv (.i (-1)),.pv (.i (-1)),.pv (.i (-1)),.pv (.i (-1))])]⟩)) ⟨4,_,Sub.mk (by simp) (by simp),.inl ⟨rfl,rfl⟩⟩ ?_
 have w1:IntKind.i64.wrap 1=1:=rfl;have w2:IntKind.i64.wrap 2=2:=rfl;have w3:IntKind.i64.wrap 3=3:=rfl;have w4:IntKind.i64.wrap 4=4:=rfl;have n3:jO 3=some 3:=rfl;rintro J hJ n τ (⟨rfl,rfl⟩|⟨rfl,rfl⟩|⟨rfl,rfl⟩|⟨rfl,rfl⟩|⟨rfl,rfl⟩)
 .have aB:=hJ _ _ (.inr (.inl ⟨rfl,rfl⟩));clear hJ;simp[w1,bV,aN];exact⟨_,_,(by omega:3<4),Sub.mk (by simp) (by simp),aB⟩
 .have aB:=hJ _ _ (.inr (.inr (.inl ⟨rfl,rfl⟩)));clear hJ;simp[w2,bV,aN];exact⟨_,_,(by omega:2<3),Sub.mk (by simp) (by simp),aB⟩
 .have aB:=hJ _ _ (.inr (.inr (.inr (.inl ⟨rfl,rfl⟩))));clear hJ;simp[w3,bV,aN];exact⟨_,_,(by omega:1<2),Sub.mk (by simp) (by simp),aB⟩
 .have aB:=hJ _ _ (.inr (.inr (.inr (.inr ⟨rfl,rfl⟩))));clear hJ;simp[w4,n3,bV,aN];exact⟨_,_,(by omega:0<1),Sub.mk (by simp) (by simp),aB⟩
 .simp
def Aq (q:Qu)(i:Nat)(h:Int):PV:=.fn 281 [] [.ref [.aF false 1 (q.ms.map iA),.aF false 3 (q.rs.map Rq.pv)],.ref [.i i],.ref [.i h]]
theorem Zey (q:Qu)(i:Nat)(h:Int):aC prog 247 [q.pv,.i i,.i h] (Aq q i h):=by
 refine cF [.loc 3 0,.loc 4 0,.loc 5 0] L247 ?_;simp[L247,Qu.pv,eD,GA];rfl
attribute [local simp] Zf0 ZfZ ZfY Zdv Zfu Zfv Zer Zdz
attribute [local simp] AV.map AV.iT dO Site.uS aJ.dC AV.dC AV.hZ AS.lX
def Qu.G0 (q:Qu)(i:Nat)(h:Int)(k:Nat):List Nat:=((List.range q.ms.length).take k).filter (fun m=>q.may i m h)
theorem Qu.Zxo (q:Qu){i:Nat}{h:Int}{k:Nat}(hk:k<q.ms.length):q.G0 i h (k+1)=q.G0 i h k++(if q.may i k h=true then[k]else[]):=by
 have:(List.range q.ms.length)[k]?=some k:=by rw[List.getElem?_range hk]
 unfold Qu.G0;rw[OY this,I2,xT,List.filter_nil]
end
section
abbrev GR:=List Bool×List Int×Bool
def nR (rec:Nat->List Bool->List Int->GR)(run:Nat):List Nat->List Bool->List Int->GR
 |[],t,w=>(t,w,false)
 |m::r,t,w=>if(t[m]?).getD true=true then nR rec run r t w else
  if(w[m]?).getD (-1) = -1 then(t.set m true,w.set m run,true)else
  if(rec ((w[m]?).getD (-1)).toNat (t.set m true) w).2.2=true then((rec ((w[m]?).getD (-1)).toNat (t.set m true) w).1,(rec ((w[m]?).getD (-1)).toNat (t.set m true) w).2.1.set m run,true)
  else nR rec run r (rec ((w[m]?).getD (-1)).toNat (t.set m true) w).1 (rec ((w[m]?).getD (-1)).toNat (t.set m true) w).2.1
def Qu.AZ (q:Qu)(h:Int):Nat->Nat->List Bool->List Int->GR
 |0,_,t,w=>(t,w,false)
 |n+1,run,t,w=>nR (q.AZ h n) run (q.G0 run h q.ms.length) t w
def A7 (t:List Bool):Nat:=t.count false
structure GW (q:Qu)(t:List Bool)(w:List Int):Prop where
 t4:t.length=4
 w4:w.length=4
 ok:∀x∈w,x = -1\/(0<=x/\x<q.rs.length)
theorem Zmy {t:List Bool}{m:Nat}(h:t[m]?=some false):A7 (t.set m true)+1=A7 t:=by
 induction t generalizing m with
 |nil=>simp at h
 |cons a r ih=>
  cases m with
  |zero=>simp at h;subst h;simp[A7]
  |succ m=>
   have h':r[m]?=some false:=by simpa using h
   have:=ih h'
   cases a<;>simp[A7]at this ⊢<;>omega
theorem GW.set {q:Qu}{t:List Bool}{w:List Int}(h:GW q t w)(m:Nat):GW q (t.set m true) w:=⟨by simpa using h.t4,h.w4,h.ok⟩
theorem GW.put {q:Qu}{t:List Bool}{w:List Int}(h:GW q t w)(m:Nat){run:Nat}(hr:run<q.rs.length):GW q t (w.set m run):=
 ⟨h.t4,by simpa using h.w4,fun x hx=>by
  rcases List.mem_or_eq_of_mem_set hx with hx|hx
  .exact h.ok x hx
  .subst hx;right;omega⟩
theorem GW.at {q:Qu}{t:List Bool}{w:List Int}(h:GW q t w){m:Nat}(hm:m<4):∃b x,t[m]?=some b/\w[m]?=some x/\(x = -1\/(0<=x/\x<q.rs.length)):=by
 have h1:m<t.length:=by rw[h.t4];exact hm
 have h2:m<w.length:=by rw[h.w4];exact hm
 exact⟨t[m],w[m],bC h1,bC h2,h.ok _ (A2 h2)⟩
theorem ZhI {q:Qu}{rec:Nat->List Bool->List Int->GR}{n:Nat}(nI:∀run t w,run<q.rs.length->GW q t w->GW q (rec run t w).1 (rec run t w).2.1/\A7 (rec run t w).1<=A7 t){run:Nat}(hr:run<q.rs.length):
  ∀(l:List Nat),(∀m∈l,m<4)->∀(t:List Bool) (w:List Int),GW q t w->GW q (nR rec run l t w).1 (nR rec run l t w).2.1/\A7 (nR rec run l t w).1<=A7 t
 |[],_,t,w,h=>⟨h,fH _⟩
 |m::r,hl,t,w,h=>by
  obtain⟨b,x,h1,h2,h3⟩:=h.at (hl m (by simp));have lL:∀m∈r,m<4:=fun m hm=>hl m (by simp[hm])
  unfold nR;rw[h1,h2];simp only[sE];cases b with
  |true=>rw[if_pos rfl];exact ZhI (n:=n) nI hr r lL t w h
  |false=>
   rw[if_neg (by simp)];have hu:=Zmy h1;split
   .exact⟨(h.set m).put m hr,by show A7 (t.set m true)<=_;omega⟩
   .rename_i hx;have Sx:x.toNat<q.rs.length:=by rcases h3 with h3|h3;exact absurd h3 hx;omega
    obtain⟨k1,k2⟩:=nI x.toNat (t.set m true) w Sx (h.set m);split
    .exact⟨k1.put m hr,by show A7 (rec x.toNat (t.set m true) w).1<=_;omega⟩
    .obtain⟨k3,k4⟩:=ZhI (n:=n) nI hr r lL _ _ k1;exact⟨k3,by omega⟩
theorem Nk {q:Qu}(hq:q.ok){i:Nat}{h:Int}{k:Nat}:∀m∈q.G0 i h k,m<q.ms.length:=fun m hm=>by
 unfold Qu.G0 at hm
 have:=List.mem_of_mem_take (iZ.1 hm).1
 simpa using this
theorem Ow {q:Qu}(hq:q.ok)(h:Int):∀(n run:Nat) (t:List Bool) (w:List Int),run<q.rs.length->GW q t w->GW q (q.AZ h n run t w).1 (q.AZ h n run t w).2.1/\A7 (q.AZ h n run t w).1<=A7 t
 |0,run,t,w,_,hw=>⟨hw,fH _⟩
 |n+1,run,t,w,hr,hw=>ZhI (n:=n) (fun run t w hr hw=>Ow hq h n run t w hr hw) hr _ (fun m hm=>by have:=Nk hq m hm;have:=hq.m;omega) t w hw
def bl (t:List Bool):List AV:=t.map fun b=>.pv (.bool b)
def il (w:List Int):List AV:=w.map fun n=>.pv (.i n)
theorem Zhq {q:Site->Bool}:∀(l:List PV),AV.hZ q (l.map .pv)=true
 |[]=>rfl
 |a::r=>by simp[AV.hZ,AV.dC,Zhq r]
theorem Zhp {g:Site->Site}:∀(l:List PV),AV.iT g (l.map .pv)=l.map .pv
 |[]=>rfl
 |a::r=>by simp[AV.iT,AV.map,Zhp r]
theorem Ziq {d:Nat}(l:List PV):(l.map AV.pv).map (AV.bG d)=l.map .pv:=by rw[List.map_map];rfl
theorem EI (t:List Bool):bl t=(t.map PV.bool).map .pv:=by rw[List.map_map];rfl
theorem CM (t:List Int):il t=(t.map (PV.int .i64)).map .pv:=by rw[List.map_map];rfl
theorem Yx {q:Site->Bool}{t:List Bool}:AV.hZ q (bl t)=true:=by rw[EI];exact Zhq _
theorem Yv {q:Site->Bool}{t:List Int}:AV.hZ q (il t)=true:=by rw[CM];exact Zhq _
theorem Yy {g:Site->Site}{t:List Bool}:AV.iT g (bl t)=bl t:=by rw[EI];exact Zhp _
theorem Yw {g:Site->Site}{t:List Int}:AV.iT g (il t)=il t:=by rw[CM];exact Zhp _
theorem Za {d:Nat}{t:List Bool}:(bl t).map (AV.bG d)=bl t:=by rw[EI];exact Ziq _
theorem Yz {d:Nat}{t:List Int}:(il t).map (AV.bG d)=il t:=by rw[CM];exact Ziq _
attribute [local simp] Yx Yv Yy Yw Za Yz
end
section
attribute [local simp] Yx Yv Yy Yw Za Yz

end
section
attribute [local simp] AS.exp jY aJ.iX AV.map AV.iT rN dO Site.uS aJ.dC AV.dC AV.hZ cT AS.lX fB gI cA pD kF mT gK w9
attribute [local simp] Yx Yv Yy Yw Za Yz
def fD:List Int:=[-1,-1,-1,-1]
def o9:List Bool:=[false,false,false,false]
def Qu.yW (q:Qu)(h:Int)(runs:List Int):Nat->Nat×List Int
 |0=>(0,fD)
 |k+1=>((q.yW h runs k).1+(if(q.AZ h 5 ((runs[k]?).getD 0).toNat o9 (q.yW h runs k).2).2.2=true then 1 else 0),(q.AZ h 5 ((runs[k]?).getD 0).toNat o9 (q.yW h runs k).2).2.1)
def Qu.EM (q:Qu)(h:Int)(runs:List Int):Nat:=(q.yW h runs runs.length).1
theorem GW.idle {q:Qu}:GW q o9 fD:=⟨rfl,rfl,fun x hx=>by simp[fD]at hx;exact .inl hx⟩
theorem GW.fresh {q:Qu}{t:List Bool}{w:List Int}(h:GW q t w):GW q o9 w:=⟨rfl,h.w4,h.ok⟩
theorem Qu.ZxE {q:Qu}(hq:q.ok){h:Int}{runs:List Int}(gB:∀x∈runs,0<=x/\x<q.rs.length):∀k,k<=runs.length->GW q o9 (q.yW h runs k).2/\(q.yW h runs k).1<=k
 |0,_=>⟨GW.idle,fH _⟩
 |k+1,hk=>by
  obtain⟨h1,h2⟩:=Qu.ZxE hq (h:=h) gB k (by omega);have hx:runs[k]?=some runs[k]:=bC (by omega);have hr:=gB _ (dL hx)
  have:=Ow hq h 5 ((runs[k]?).getD 0).toNat o9 (q.yW h runs k).2 (by rw[hx];simp only[sE];omega) h1
  refine⟨this.1.fresh,?_⟩;show(q.yW h runs k).1+_<=k+1
  split<;>omega
def Qu.BA (q:Qu)(runs:List Int):Nat->Nat
 |0=>0
 |h+1=>q.BA runs h+q.EM h runs
theorem Qu.Zxk {q:Qu}{l:List Int}(h:q.rising l=true):∀x∈l,0<=x/\x<q.rs.length:=fun x hx=>by
 obtain⟨i,hi⟩:=iO.1 hx;have hl:=(cD.1 hi).1;simp only[Qu.rising,rM,List.mem_range]at h
 have:=h i hl
 simp only[Qu.TS,hi,sE,dK,decide_eq_true_eq]at this;omega
end
inductive Nd where
 |ru (r:Nat)
 |rh (r h:Nat)
 |mh (m h:Nat)
 deriving DecidableEq
def Nd.pv:Nd->PV
 |.ru r=>.agg [.i r,.i (-1),.i (-1)]
 |.rh r h=>.agg [.i r,.i (-1),.i h]
 |.mh m h=>.agg [.i (-1),.i m,.i h]
def Nd.kind:Nd->Nat
 |.ru _=>0
 |.rh _ _=>1
 |.mh _ _=>2
def rowP (r:List Int):PV:=.agg (r.map (PV.int .i64))
def jV (p:List (List Int)):List PV:=p.map rowP
def HS (l:List Int)(run:Int):Int:=match l.findIdx? (fun x=>decide (run=x))with
 |some i=>i
 |none=>-1
def xK (p:List (List Int))(run:Int)(h:Nat):Int:=HS ((p[h]?).getD []) run
def gJ (p:List (List Int))(h m:Nat):Int:=(((p[h]?).getD [])[m]?).getD (-1)
def bL (q:Qu)(p:List (List Int))(b:Nat):List aJ:=[.cells [.pv (.aF false 1 (q.ms.map iA)),.pv (.aF false 3 (q.rs.map Rq.pv)),.vec (.par b) 4 0 p.length],.arr 146 4 (jV p)]
def four (p:List (List Int)):Prop:=∀l∈p,l.length=4
theorem Ztw (l:List Int)(hl:l.length<=1000)(v:Int):aC prog 92 [.aF false 1 (l.map (PV.int .i64)),.i v] (.i (HS l v)):=by
 refine cS L92 ?_;simp[L92];refine eP (fun n τ=>∃k:Nat,k<=l.length/\n=l.length-k/\(∀(j:Nat) (x:Int),j<k->l[j]?=some x->decide (v=x)=false)/\τ=⟨[(0,.pv (.aF false 1 (l.map (PV.int .i64)))),(1,.pv (.i v)),(7,.pv (.i l.length)),(8,.pv (.i k))],[]⟩)
  ⟨l.length,⟨[(0,.pv (.aF false 1 (l.map (PV.int .i64)))),(1,.pv (.i v)),(7,.pv (.i l.length)),(8,.pv (.i 0))],[]⟩,Sub.mk (by simp) (by simp),0,gW _,rfl,(fun j x hj=>by omega),rfl⟩ ?_
 rintro J hJ n τ ⟨k,hk,rfl,hinv,rfl⟩;by_cases aI:k<l.length
 .obtain⟨x,hx⟩:∃x,l[k]?=some x:=⟨l[k],bC aI⟩;have hg:(l.map (PV.int .i64))[k]?=some (.i x):=by rw[bY,hx];rfl
  have hw:=jK (k:=k) (by omega);have aH:l.length-(k+1)<l.length-k:=by omega
  by_cases h1:v=x
  .have hf:l.findIdx? (fun x=>decide (v=x))=some k:=by
    rw[JY];refine⟨aI,by rw[(cD.1 hx).2];simpa using h1,fun j hj=>?_⟩
    have:=hinv j l[j] hj (bC (by omega))
    simpa using this
   unfold HS;rw[hf];simp[aI,↓hg,h1]
  .have aB:=hJ _ _ ⟨k+1,aI,rfl,(fun j y hj hy=>by
    rcases Nat.lt_succ_iff_lt_or_eq.1 hj with h|h
    .exact hinv j y h hy
    .subst h;rw[hx]at hy;cases hy;simpa using h1),rfl⟩
   clear hJ;simp[aI,↓hg,h1,hw];exact⟨_,_,aH,Sub.mk (by simp) (by simp),aB⟩
 .have hf:l.findIdx? (fun x=>decide (v=x))=none:=by
   rw[List.findIdx?_eq_none_iff];intro x hx;obtain⟨j,hj⟩:=iO.1 hx;exact hinv j x (by have:=(cD.1 hj).1;omega) hj
  have he:k=l.length:=by omega
  subst he;unfold HS;rw[hf];simp
theorem Aj (x y:PV)(p:List (List Int))(hp:four p)(run:Int)(h:Nat)(hh:h<p.length):aC prog 246 [.ref [x,y,.aF false 4 (jV p)],.i run,.i h] (.i (xK p run h)):=by
 obtain⟨l,hl⟩:∃l,p[h]?=some l:=⟨p[h],bC hh⟩;have h4:=hp l (dL hl);have hg:(jV p)[h]?=some (.agg (l.map (PV.int .i64))):=by rw[jV,bY,hl];rfl
 have ht:(l.map (PV.int .i64)).take 4=l.map (PV.int .i64):=fQ (by simp[h4]);have e:xK p run h=HS l run:=by simp[xK,hl]
 rw[e];refine cS L246 ?_;have n4:jO 4=some 4:=rfl;simp[L246,↓hg,n4,h4,ht,aN];refine gH (k:=0) (fs:=[]) (cs:=[]) rfl rfl (Ztw l (by omega) run) rfl ?_;simp
theorem Zm (n:Nd):aC prog 151 [n.pv] (.i n.kind):=by
 refine cS L151 ?_;cases n with
 |ru r=>simp[L151,Nd.pv,Nd.kind]
 |rh r h=>
  have:¬((h:Int) = -1):=by omega
  simp[L151,Nd.pv,Nd.kind,this]
 |mh m h=>
  have h1:¬((h:Int) = -1):=by omega
  have h2:¬((m:Int) = -1):=by omega
  simp[L151,Nd.pv,Nd.kind,h1,h2]
def Zq:List PV:=[.agg [.fn 198 [] []],.agg [.fn 199 [] []],.agg [.fn 200 [] []]]
theorem Zsr:aC prog 153 [] (.aF false 1 Zq):=by
 refine cF [.loc 4 0] L153 ?_;simp[L153];rfl
def V9 (p:List (List Int))(r:Nat)(k:Nat):List Nd:=(((List.range p.length).take k).filter fun h=>decide (xK p r h = -1)).map (Nd.rh r)
def XT (p:List (List Int))(r:Nat):List Nd:=V9 p r p.length
theorem Zjs {p:List (List Int)}{r k:Nat}(hk:k<p.length):V9 p r (k+1)=V9 p r k++(if xK p r k = -1 then[.rh r k]else[]):=by
 have:(List.range p.length)[k]?=some k:=by rw[List.getElem?_range hk]
 unfold V9;rw[OY this,I2,mL,xT,List.filter_nil];by_cases h:xK p r k = -1<;>simp[h]
theorem ZgK {p:List (List Int)}{r k:Nat}:(V9 p r k).length<=k:=by
 unfold V9;rw[fZ];refine lM (Q7 _ _) ?_;rw[gM];omega
def vV (l:List Nd):List (Site×aJ):=[(.ret 0,.arr 256 3 (l.map Nd.pv))]
theorem Zqf (q:Qu)(p:List (List Int))(hp:four p)(hl:p.length<=1000)(r:Nat):
  cU prog 198 [.ptr (.par 0) 0,.pv (Nd.ru r).pv] (laid 0 (bL q p 1)) (fun x B=>x=.vec (.ret 0) 3 0 (XT p r).length/\B=vV (XT p r)++laid 0 (bL q p 1)):=by
 refine O2 [.loc 26 0,.par 0,.par 1] L198 ?_;intro R hR;simp[L198,bL,laid,Nd.pv];refine eP (fun n τ=>∃k:Nat,k<=p.length/\n=p.length-k/\τ=⟨[(0,.ptr (.par 0) 0),(3,.ptr (.loc 3 0) 0),(4,.vec (.loc 26 0) 3 0 (V9 p r k).length),(10,.pv (.i p.length)),(11,.pv (.i k))],[(.loc 26 0,.arr 256 3 ((V9 p r k).map Nd.pv)),(.loc 3 0,.cells [.pv (.i r),.pv (.i (-1)),.pv (.i (-1))])]++laid 0 (bL q p 1)⟩)
  ⟨p.length,⟨[(0,.ptr (.par 0) 0),(3,.ptr (.loc 3 0) 0),(4,.vec (.loc 26 0) 3 0 0),(10,.pv (.i p.length)),(11,.pv (.i 0))],[(.loc 26 0,.arr 256 3 []),(.loc 3 0,.cells [.pv (.i r),.pv (.i (-1)),.pv (.i (-1))])]++laid 0 (bL q p 1)⟩,Sub.trans' (Sub.mk (by simp[AS.cW]) (by simp[AS.cW,bL,laid])) (cW 26 256 3 4 rfl (by decide)),0,gW _,rfl,by simp[V9]⟩ ?_
 rintro J hJ n τ ⟨k,hk,rfl,rfl⟩;by_cases aI:k<p.length
 .have hw:=jK (k:=k) (by omega);have aH:p.length-(k+1)<p.length-k:=by omega
  have aB:=hJ _ _ ⟨k+1,aI,rfl,rfl⟩;have iI:=Zjs (r:=r) aI;have IP:=ZgK (p:=p) (r:=r) (k:=k);have Z8:=Aj (.aF false 1 (q.ms.map iA)) (.aF false 3 (q.rs.map Rq.pv)) p hp r k aI;have E7:(V9 p r k).length+1<=1000000:=by omega
  have MW:(jV p).take p.length=jV p:=fQ (by simp[jV]);have mJ:(jV p).length=p.length:=by simp[jV]
  clear hJ;generalize V9 p r (k+1)=N2 at *;generalize V9 p r k=N1 at *;simp[bL,laid,aI];refine gH (k:=3) (fs:=[]) (xs:=[.ref [.aF false 1 (q.ms.map iA),.aF false 3 (q.rs.map Rq.pv),.aF false 4 (jV p)],.i r,.i k]) (cs:=[]) rfl ?_ Z8 rfl ?_
  .simp[jL,AV.snap,AV.GK,mJ,MW]
  by_cases ho:xK p r k = -1
  .rw[if_pos ho]at iI;subst iI;simp[ho,aN,E7,hw];refine⟨_,_,aH,Sub.mk ?_ ?_,aB⟩
   .simp
   .simp[bL,laid,Nd.pv]
  .rw[if_neg ho,xC]at iI;subst iI;simp[ho,hw];refine⟨_,_,aH,Sub.mk ?_ ?_,aB⟩
   .simp
   .simp[bL,laid]
 .have he:k=p.length:=by omega
  subst he;simp[bL,laid];rw[<-hR];exact⟨rfl,by simp[vV,bL,laid,XT]⟩
theorem Me {p:List (List Int)}{h m:Nat}{l:List Int}{x:Int}(h1:p[h]?=some l)(h2:l[m]?=some x):gJ p h m=x:=by simp[gJ,h1,h2]
theorem Zqa (q:Qu)(p:List (List Int))(hp:four p)(m h:Nat)(hm:m<4)(hh:h<p.length)(r:Nat)(hr:gJ p h m=r):
  cU prog 200 [.ptr (.par 0) 0,.pv (Nd.mh m h).pv] (laid 0 (bL q p 1)) (fun x B=>x=.vec (.ret 0) 3 0 1/\B=vV [.rh r h]++laid 0 (bL q p 1)):=by
 obtain⟨l,hl⟩:∃l,p[h]?=some l:=⟨p[h],bC hh⟩;have h4:=hp l (dL hl);obtain⟨x,hx⟩:∃x,l[m]?=some x:=⟨l[m]'(by omega),bC _⟩;rw[Me hl hx]at hr;subst hr;have hg:(jV p)[h]?=some (.agg (l.map (PV.int .i64))):=by rw[jV,bY,hl];rfl
 have H6:(l.map (PV.int .i64))[m]?=some (.i r):=by rw[bY,hx];rfl
 refine cB [.loc 19 0,.par 0,.par 1] L200 ?_;simp[-getElem?_pos,-List.getElem?_map,L200,bL,laid,Nd.pv,bV,hh,hm,hg,H6,vV]
theorem TB:zH prog (pM P4) L199.code:=Hb L199_ok L199_tab
noncomputable def vI:aJ:=.loop (fX prog 199 0) [15] 50 [(2,.ptr (.par 3) 0),(3,.ptr (.par 4) 0),(4,.ptr (.par 5) 0)] none
def vJ (q:Qu)(p:List (List Int))(r h:Nat)(e:Site)(s:List Nd):List (Site×aJ):=
 [(.par 1,.cells [.pv (.aF false 1 (q.ms.map iA)),.pv (.aF false 3 (q.rs.map Rq.pv)),.vec (.par 2) 4 0 p.length]),(.par 2,.arr 146 4 (jV p)),(.par 3,.cells [.ptr (.par 1) 0]),(.par 4,.cells [.pv (.i r),.pv (.i (-1)),.pv (.i h)]),(.par 5,.cells [.vec e 3 0 s.length])]
noncomputable def zK (q:Qu)(p:List (List Int))(r h:Nat)(e:Site)(s:List Nd):List (Site×aJ):=(.par 0,vI)::vJ q p r h e s++[(e,.arr 256 3 (s.map Nd.pv))]
noncomputable def ZN (q:Qu)(p:List (List Int))(r h:Nat)(s:List Nd):List (Site×aJ):=(.par 0,vI)::(.ret 0,.arr 256 3 (s.map Nd.pv))::vJ q p r h (.ret 0) s
theorem Zm0 (q:Qu)(p:List (List Int))(hp:four p)(r h:Nat)(hh:h<p.length)(s:List Nd)(hs:s.length<=1000)(m:Nat)(hm:m<4):
  GS prog 0 [.pv (.i m)] (zK q p r h (.par 6) s) (fun x B=>x=.pv (.bool true)/\B=if gJ p h m=r then zK q p r h (.par 6) s else ZN q p r h (s++[.mh m h])):=by
 obtain⟨l,hl⟩:∃l,p[h]?=some l:=⟨p[h],bC hh⟩;have h4:=hp l (dL hl);obtain⟨x,hx⟩:∃x,l[m]?=some x:=⟨l[m]'(by omega),bC _⟩;have Ta:=Me hl hx;have hg:(jV p)[h]?=some (.agg (l.map (PV.int .i64))):=by rw[jV,bY,hl];rfl
 have H6:(l.map (PV.int .i64))[m]?=some (.i x):=by rw[bY,hx];rfl
 have QP:s.length+1<=1000000:=by omega
 have oW:zH prog (pM P4) (.vM 50 (.t 14) (fX prog 199 0) Y199_0a Y199_0b [15]):=TB.2.1.2;refine YW mixed oW.1 oW.2.1 rfl rfl (by simp) rfl ?_;rw[Ta];generalize hR:(fun(z:AV) (B:List (Site×aJ))=>z=.pv (.bool true)/\B=if x=(r:Int)then zK q p r h (.par 6) s else ZN q p r h (s++[.mh m h]))=R;by_cases tM:x=(r:Int)
 .subst tM;simp[-getElem?_pos,-List.getElem?_map,Y199_0a,Y199_0b,zK,vI,vJ,qR,bV,hh,hm,hg,H6];refine⟨[],[.par 1,.par 2,.par 3,.par 4,.par 5,.par 6],rfl,rfl,?_,?_⟩
  .simp[aY]
  .rw[<-hR];simp[zK,vI,vJ,aY]
 .simp[-getElem?_pos,-List.getElem?_map,Y199_0a,Y199_0b,zK,vI,vJ,qR,bV,aN,hh,hm,hg,H6,tM,QP];refine⟨[],[.loc 35 0,.par 1,.par 2,.par 3,.par 4,.par 5],rfl,rfl,?_,?_⟩
  .simp[aY]
  .rw[<-hR];simp[ZN,vI,vJ,aY,tM,Nd.pv]
def jM (q:Qu)(p:List (List Int))(r h k:Nat):List Nd:=((q.G0 r h k).filter fun m=>!decide (gJ p h m=r)).map (Nd.mh · h)
theorem ZlT (q:Qu){p:List (List Int)}{r h k:Nat}(hk:k<q.ms.length):jM q p r h (k+1)=jM q p r h k++(if q.may r k h=true/\¬gJ p h k=r then[.mh k h]else[]):=by
 unfold jM;rw[q.Zxo hk,I2,mL];cases hm:q.may r k h<;>by_cases hw:gJ p h k=r<;>simp[hw]
theorem Zfn {q:Qu}{p:List (List Int)}{r h k:Nat}:(jM q p r h k).length<=k:=by
 unfold jM Qu.G0;rw[fZ];refine lM (Q7 _ _) (lM (Q7 _ _) ?_);rw[gM];omega
noncomputable def Jt (q:Qu)(p:List (List Int))(r h:Nat)(s:List Nd):List (Site×aJ):=(.ret 0,.arr 256 3 (s.map Nd.pv))::(.par 0,vI)::vJ q p r h (.ret 0) s
def MB (q:Qu)(r h k:Nat):List (Nat×AV):=[(0,.nQ (.par 0)),(2,.pv (.ref [.i r])),(3,.pv (.ref [.i h])),(5,.pv (.fn 282 [q.pv] [])),(11,.pv (.i q.ms.length)),(12,.pv (.i k))]
theorem ZsC (q:Qu)(hq:q.ok)(p:List (List Int))(hp:four p)(r h:Nat)(hr:r<q.rs.length)(hh:h<p.length):
  cU prog 281 [.nQ (.par 0),.pv (.ref [.aF false 1 (q.ms.map iA),.aF false 3 (q.rs.map Rq.pv)]),.pv (.ref [.i r]),.pv (.ref [.i h])] (zK q p r h (.par 6) []) (fun x B=>x=.pv (.bN [])/\B=Jt q p r h (jM q p r h q.ms.length)):=by
 have Bw:=hq.m;refine O2 [.loc 23 0,.par 0,.par 1,.par 2,.par 3,.par 4,.par 5] L281 ?_;intro R hR;simp[L281];refine eP (fun n τ=>∃(k:Nat),k<=q.ms.length/\n=q.ms.length-k/\τ=⟨MB q r h k,zK q p r h (.loc 23 0) (jM q p r h k)⟩)
  ⟨q.ms.length,⟨MB q r h 0,zK q p r h (.loc 23 0) []⟩,Sub.trans' (Sub.mk ?_ ?_) (Sub.iX 23 (.par 6) _),0,gW _,rfl,by simp[jM,Qu.G0]⟩ ?_
 .simp[AS.iX,MB,zK,vJ,vI,pN,Qu.pv]
 .simp[AS.iX,zK,vJ,vI,pN]
 rintro J hJ n τ ⟨k,hk,rfl,rfl⟩;by_cases aI:k<q.ms.length
 .have hw:=jK (k:=k) (by omega);have aH:q.ms.length-(k+1)<q.ms.length-k:=by omega
  have r9:=Ap q hq r k h hr aI;have iI:=ZlT q (p:=p) (r:=r) (h:=h) aI;have jF:(k:Int)<(q.ms.length:Int):=by omega
  have aB:=hJ _ _ ⟨k+1,aI,rfl,rfl⟩;have Z5:=Zfn (q:=q) (p:=p) (r:=r) (h:=h) (k:=k);have hY:=Zm0 q p hp r h hh (jM q p r h k) (by omega) k (by omega);clear hJ;generalize jM q p r h (k+1)=S2 at *;generalize jM q p r h k=S1 at *;simp[MB,jF];refine gH (k:=0) (fs:=[q.pv]) (xs:=[.i r,.i k,.i h]) (cs:=[]) rfl rfl r9 rfl ?_;cases hm:q.may r k h
  .rw[hm,if_neg (by simp),xC]at iI;subst iI;simp[hw];refine⟨_,_,aH,Sub.mk ?_ ?_,aB⟩
   .simp[MB]
   .simp[zK,vJ,vI]
  .simp[zK,vJ,vI];refine ZlO 1023 0 [.par 0,.par 1,.par 2,.par 3,.par 4,.par 5,.loc 23 0] (gG:=[.pv (.i k)]) rfl rfl rfl rfl ?_ rfl rfl hY ?_
   .simp[zK,vJ,vI]
   rintro x B ⟨rfl,rfl⟩;by_cases FP:gJ p h k=r
   .rw[if_neg (by simp[FP]),xC]at iI;subst iI;rw[if_pos FP];refine⟨rfl,by simp[zK,vJ,vI],?_⟩;simp[zK,vJ,vI,hw];refine⟨_,_,aH,Sub.mk ?_ ?_,aB⟩
    .simp[MB]
    .simp[zK,vJ,vI]
   .rw[if_pos ⟨hm,FP⟩]at iI;subst iI;rw[if_neg FP];refine⟨rfl,by simp[ZN,vJ,vI],?_⟩;simp[ZN,vJ,vI,hw];refine⟨_,_,aH,Sub.trans' (Sub.mk ?_ ?_) (Sub.iX 23 (.loc 1023 0) _),aB⟩
    .simp[AS.iX,pN,MB]
    .simp[AS.iX,pN,zK,vJ,vI,Nd.pv]
 .have he:k=q.ms.length:=by omega
  subst he;simp[MB,zK,vJ,vI];rw[<-hR];simp[Jt,vJ,vI]
def KM (q:Qu)(p:List (List Int))(r h:Nat):List Nd:=jM q p r h q.ms.length++(if xK p r h = -1 then[]else[.ru r])
theorem Zqc (q:Qu)(hq:q.ok)(p:List (List Int))(hp:four p)(r h:Nat)(hr:r<q.rs.length)(hh:h<p.length):
  cU prog 199 [.ptr (.par 0) 0,.pv (Nd.rh r h).pv] (laid 0 (bL q p 1)) (fun x B=>x=.vec (.ret 0) 3 0 (KM q p r h).length/\B=vV (KM q p r h)++laid 0 (bL q p 1)):=by
 have Bw:=hq.m;have hit:=ZsC q hq p hp r h hr hh;have Z8:=Aj (.aF false 1 (q.ms.map iA)) (.aF false 3 (q.rs.map Rq.pv)) p hp r h hh;have Z5:=Zfn (q:=q) (p:=p) (r:=r) (h:=h) (k:=q.ms.length);have MW:(jV p).take p.length=jV p:=fQ (by simp[jV]);have mJ:(jV p).length=p.length:=by simp[jV]
 have hS:KM q p r h=jM q p r h q.ms.length++(if xK p r h = -1 then[]else[.ru r]):=rfl;refine cE L199 ?_;generalize hR:(fun(x:AV) (B:List (Site×aJ))=>x=.vec (.ret 0) 3 0 (KM q p r h).length/\B=vV (KM q p r h)++laid 0 (bL q p 1))=R;generalize KM q p r h=S at *;generalize jM q p r h q.ms.length=S1 at *;have QP:S1.length+1<=1000000:=by omega
 simp[L199,bL,laid,Nd.pv];refine .inl (cQ [] [q.pv,.i r,.i h] (Zey q r h) ?_);simp[aL,Aq];refine ZsS (mB 60 256 3 (s:=.loc 4 0) (cs:=[.pv (.emp (some true))]) 0 rfl rfl (by decide)) ?_;refine YD [.loc 50 0,.par 0,.par 1,.loc 2 0,.loc 3 0,.loc 4 0,.loc 60 0] [(2,.ptr (.loc 2 0) 0),(3,.ptr (.loc 3 0) 0),(4,.ptr (.loc 4 0) 0)] (gf:=281) (fs:=[]) (cs:=[.pv (.ref [.aF false 1 (q.ms.map iA),.aF false 3 (q.rs.map Rq.pv)]),.pv (.ref [.i r]),.pv (.ref [.i h])]) ?_ ?_ rfl rfl ?_ ?_ ?_ hit ?_
 .rfl
 .simp[AS.mB]
 .simp[AS.mB,zK,vJ,vI]
 .rfl
 .rfl
 rintro x B ⟨rfl,rfl⟩;refine⟨rfl,by simp[Jt,vJ,vI],?_⟩;refine⟨_,_,_,_,_,rfl,?_⟩;simp[AS.mB,Jt,vJ,vI,lB];refine gH (k:=3) (fs:=[]) (xs:=[.ref [.aF false 1 (q.ms.map iA),.aF false 3 (q.rs.map Rq.pv),.aF false 4 (jV p)],.i r,.i h]) (cs:=[]) rfl ?_ Z8 rfl ?_
 .simp[jL,AV.snap,AV.GK,mJ,MW]
 by_cases ho:xK p r h = -1
 .rw[if_pos ho,xC]at hS;subst hS;simp[ho];refine⟨[.loc 51 0,.par 0,.par 1],?_⟩;simp;rw[<-hR];simp[vV,bL,laid]
 .rw[if_neg ho]at hS;subst hS;simp[ho,aN,QP];refine⟨[.loc 48 0,.par 0,.par 1],?_⟩;simp;rw[<-hR];simp[vV,bL,laid,Nd.pv]
abbrev By:=List (Nd×Nd)
def par (bR:By)(n:Nd):Option Nd:=(bR.find? fun e=>decide (n=e.1)).map (·.2)
def AW (bR:By):List (PV×PV):=bR.map fun e=>(e.1.pv,e.2.pv)
def Nd.a:Nd->Int
 |.ru r=>r
 |.rh r _=>r
 |.mh _ _=>-1
def Nd.b:Nd->Int
 |.mh m _=>m
 |_=>-1
def Nd.c:Nd->Int
 |.ru _=>-1
 |.rh _ h=>h
 |.mh _ h=>h
theorem Nd.R5 (n:Nd):n.pv=.agg [.i n.a,.i n.b,.i n.c]:=by cases n<;>rfl
theorem Zj (a b:Nd):gV a.pv b.pv=decide (a=b):=by
 rw[rB];cases a<;>cases b<;>simp[gV,Nd.pv,lT,wR,PV.cells]<;>omega
theorem ZhQ (n:Nd):∀bR:By,fA n.pv (AW bR)=(par bR n).map Nd.pv
 |[]=>rfl
 |e::r=>by
  have ih:=ZhQ n r;unfold AW at ih ⊢;rw[iS,fA,Zj];unfold par at ih ⊢;rw[List.find?_cons];cases decide (n=e.1)with
  |true=>rfl
  |false=>exact ih
theorem Znz {n b:Nd}:∀{bR:By},par bR n=none->mM n.pv b.pv (AW bR)=AW (bR++[(n,b)])
 |[],_=>rfl
 |e::r,h=>by
  unfold par at h;rw[List.find?_cons]at h;unfold AW;rw[iS,mM,Zj];cases hd:decide (n=e.1)with
  |true=>rw[hd]at h;simp at h
  |false=>
   rw[hd]at h
   have:=Znz (n:=n) (b:=b) (bR:=r) h
   unfold AW at this;simp[this]
theorem X7 (n:Nd):KT.ok ⟨true,[.int .i64,.int .i64,.int .i64]⟩ n.pv=true:=by cases n<;>rfl
theorem Zn8 (bR:By):A4 ⟨true,[.int .i64,.int .i64,.int .i64]⟩ (AW bR)=true:=by
 unfold A4 AW;rw[List.all_map,rM];exact fun e _=>X7 e.1
def gA (p:List (List Int))(h m:Nat)(x:Int):List (List Int):=p.set h (((p[h]?).getD []).set m x)
def qZ (n b:Nd)(p:List (List Int)):List (List Int):=match n,b with
 |.mh m h,b=>gA p h m b.a
 |.rh _ h,.mh m _=>gA p h m (-1)
 |_,_=>p
def wW (bR:By):Nat->Nd->List (List Int)->List (List Int)
 |0,_,p=>p
 |f+1,n,p=>match par bR n with
  |none=>p
  |some b=>if n=b then p else wW bR f b (qZ n b p)
theorem PE {p:List (List Int)}{h m:Nat}{x:Int}:(gA p h m x).length=p.length:=by simp[gA]
theorem Zij {p:List (List Int)}(hp:four p){h m:Nat}{x:Int}(hh:h<p.length):four (gA p h m x):=fun l hl=>by
 rcases List.mem_or_eq_of_mem_set hl with h1|h1
 .exact hp l h1
 .subst h1
  have:p[h]?=some p[h]:=bC hh
  rw[this];simp[hp _ (A2 hh)]
theorem Zls {n b:Nd}{p:List (List Int)}:(qZ n b p).length=p.length:=by
 cases n<;>cases b<;>simp[qZ,PE]
theorem ZlR {l:List PV}{m:Nat}{x:PV}(hm:m<l.length):aR l m [x]=l.set m x:=by
 have hs:m+[x].length<=l.length:=by simp;omega
 apply List.ext_getElem?;intro j;rw[A5 hs];by_cases e:j=m
 .subst e;rw[if_neg (by omega),if_pos (by simp),O6 hm];simp
 .rw[List.getElem?_set_ne (fun e'=>e e'.symm)];split
  .rfl
  .rw[if_neg (by simp;omega)]
theorem ZnE {p:List (List Int)}{h m:Nat}{l:List Int}{x:Int}(hl:p[h]?=some l)(hm:m<l.length):(jV p).set h (.agg (aR (l.map (PV.int .i64)) m [.i x]))=jV (gA p h m x):=by
 rw[ZlR (by simpa using hm),jV,jV,gA,hl,List.map_set];simp only[sE,rowP];rw[List.map_set]
def Nd.ok (q:Qu)(p:List (List Int)):Nd->Prop
 |.ru r=>r<q.rs.length
 |.rh r h=>r<q.rs.length/\h<p.length
 |.mh m h=>m<q.ms.length/\h<p.length
structure LN (q:Qu)(p:List (List Int))(bR:By):Prop where
 nd:(bR.map (·.1)).Nodup
 ok:∀e∈bR,e.1.ok q p/\e.2.ok q p
 up:∀(i:Nat) (e:Nd×Nd),bR[i]?=some e->e.1=e.2\/∃(j:Nat) (e':Nd×Nd),j<i/\bR[j]?=some e'/\e'.1=e.2
theorem Mi {bR:By}(hn:(bR.map (·.1)).Nodup){i:Nat}{e:Nd×Nd}(h:bR[i]?=some e):par bR e.1=some e.2:=by
 induction bR generalizing i with
 |nil=>simp at h
 |cons a r ih=>
  rw[iS,List.nodup_cons]at hn;unfold par;rw[List.find?_cons];cases i with
  |zero=>simp at h;subst h;simp
  |succ i=>
   have h':r[i]?=some e:=by simpa using h
   have dA:¬e.1=a.1:=fun e'=>hn.1 (by rw[<-e'];exact iN.2 ⟨e,dL h',rfl⟩)
   rw[decide_eq_false dA];exact ih hn.2 h'
theorem Nd.Lo {q:Qu}{p p':List (List Int)}(h:p'.length=p.length){n:Nd}(hn:n.ok q p):n.ok q p':=by
 cases n with
 |ru r=>exact hn
 |rh r k=>exact⟨hn.1,by rw[h];exact hn.2⟩
 |mh m k=>exact⟨hn.1,by rw[h];exact hn.2⟩
def mE (q:Qu)(p:List (List Int))(bR:By):List aJ:=bL q p 1++[.map (AW bR)]
def wV (q:Qu)(p:List (List Int))(bR:By)(n:Nd):AS:=⟨[(0,.ptr (.par 0) 0),(2,.mp (.par 2)),(4,.ptr (.loc 4 0) 0)],(.loc 4 0,.cells [.pv (.i n.a),.pv (.i n.b),.pv (.i n.c)])::laid 0 (mE q p bR)⟩
theorem ZqT (q:Qu)(hq:q.ok)(bR:By)(p0:List (List Int))(hb:LN q p0 bR)(DB:four p0)(i0:Nat)(n0 b0:Nd)(H5:bR[i0]?=some (n0,b0)):
  cU prog 152 [.ptr (.par 0) 0,.pv n0.pv,.mp (.par 2)] (laid 0 (mE q p0 bR)) (fun x B=>x=.pv (.bN [])/\B=laid 0 (mE q (wW bR bR.length n0 p0) bR)):=by
 have Bw:=hq.m;refine O2 [.par 0,.par 1,.par 2] L152 ?_;intro R hR;obtain⟨xI,jG⟩:∃z,z=wW bR bR.length n0 p0:=⟨_,rfl⟩
 rw[<-jG]at hR;rw[Nd.R5];simp[L152,mE,bL,laid];refine eP (fun k τ=>∃(p:List (List Int)) (n b:Nd) (f:Nat),bR[k]?=some (n,b)/\k<f/\wW bR f n p=xI/\four p/\p.length=p0.length/\τ=wV q p bR n)
  ⟨i0,wV q p0 bR n0,Sub.mk (by simp) (by simp[mE,bL,laid]),p0,n0,b0,bR.length,H5,(cD.1 H5).1,jG.symm,DB,rfl,rfl⟩ ?_
 clear jG;rintro J hJ k τ ⟨p,n,b,f,hk,hf,eR,hp,hlen,rfl⟩;have lR:=Mi hb.nd hk;have dZ:=ZhQ n bR
 rw[lR]at dZ;simp only[vB]at dZ;have hE:=Zj n b;have mC:=Zm n;have FV:=Zm b;have N3:=X7 n;have uG:=X7 b;have s4:=Zn8 bR
 obtain⟨vT,Rm⟩:=hb.ok _ (dL hk);have vT:=Nd.Lo hlen vT;have Rm:=Nd.Lo hlen Rm;obtain⟨f',rfl⟩:∃f',f=f'+1:=⟨f-1,by omega⟩;have sQ:wW bR (f'+1) n p=if n=b then p else wW bR f' b (qZ n b p):=by rw[wW,lR]
 rw[sQ]at eR;by_cases QZ:n=b
 .rw[if_pos QZ]at eR;subst eR;clear hJ;rw[decide_eq_true QZ]at hE;rw[Nd.R5,Nd.R5]at hE;rw[Nd.R5,Nd.R5]at dZ;rw[Nd.R5]at N3 uG;simp[-gV,-KT.ok,wV,mE,bL,laid,hE,dZ,N3,uG,s4];rw[<-hR];simp[mE,bL,laid]
 .rw[if_neg QZ]at eR;rw[decide_eq_false QZ]at hE;obtain⟨j,e',hj,DI,DH⟩:∃(j:Nat) (e':Nd×Nd),j<k/\bR[j]?=some e'/\e'.1=b:=by
   rcases hb.up k _ hk with h|h
   .exact absurd h QZ
   .exact h
  have aB:=hJ j (wV q (qZ n b p) bR b) ⟨qZ n b p,b,e'.2,f',by rw[DI,<-DH],by omega,eR,(by
   cases n<;>cases b<;>first|exact hp|exact Zij hp vT.2),by rw[Zls];exact hlen,rfl⟩
  clear hJ eR sQ hb;cases n with
  |mh m h=>
   obtain⟨l,hl⟩:∃l,p[h]?=some l:=⟨p[h]'vT.2,bC _⟩;have h4:=hp l (dL hl);have FU:m<q.ms.length:=vT.1;have yQ:m<4:=by omega
   have hh:h<p.length:=vT.2;have hg:(jV p)[h]?=some (.agg (l.map (PV.int .i64))):=by rw[jV,bY,hl];rfl
   have jQ:=ZnE (x:=b.a) hl (m:=m) (by omega);have mJ:(jV p).length=p.length:=by simp[jV]
   have zQ:m+1<=4:=by omega
   rw[Nd.R5 b]at hE dZ uG FV;simp only[Nd.pv,Nd.kind]at hE dZ N3 mC;rw[show qZ (.mh m h) b p=gA p h m b.a from rfl]at aB;unfold wV at aB;generalize b.a=ba at *;generalize b.b=bb at *;generalize b.c=bc at *;simp[-gV,-KT.ok,wV,mE,bL,laid,Nd.a,Nd.b,Nd.c,hE,dZ,N3,uG,s4];refine gH (k:=0) (fs:=[]) (cs:=[]) rfl rfl mC rfl ?_;simp[-gV,-KT.ok,-aR,bV,aN,hh,yQ,zQ,↓hg,h4,setAt,jQ];refine⟨_,_,hj,Sub.mk ?_ ?_,aB⟩
   .simp
   .simp[mE,bL,laid,PE]
  |ru r=>
   rw[Nd.R5 b]at hE dZ uG FV;simp only[Nd.pv,Nd.kind]at hE dZ N3 mC;rw[show qZ (.ru r) b p=p by cases b<;>rfl]at aB;unfold wV at aB;generalize b.a=ba at *;generalize b.b=bb at *;generalize b.c=bc at *;simp[-gV,-KT.ok,wV,mE,bL,laid,Nd.a,Nd.b,Nd.c,hE,dZ,N3,uG,s4];refine gH (k:=0) (fs:=[]) (cs:=[]) rfl rfl mC rfl ?_;simp[-gV,-KT.ok];refine gH (k:=0) (fs:=[]) (cs:=[]) rfl rfl mC rfl ?_;simp[-gV,-KT.ok];refine⟨_,_,hj,Sub.mk ?_ ?_,aB⟩
   .simp
   .simp[mE,bL,laid]
  |rh r h=>
   cases b with
   |mh m h'=>
    obtain⟨l,hl⟩:∃l,p[h]?=some l:=⟨p[h]'vT.2,bC _⟩;have h4:=hp l (dL hl);have FU:m<q.ms.length:=Rm.1;have yQ:m<4:=by omega
    have hh:h<p.length:=vT.2;have hg:(jV p)[h]?=some (.agg (l.map (PV.int .i64))):=by rw[jV,bY,hl];rfl
    have jQ:=ZnE (x:=-1) hl (m:=m) (by omega);have mJ:(jV p).length=p.length:=by simp[jV]
    have zQ:m+1<=4:=by omega
    simp only[Nd.pv,Nd.kind]at hE dZ N3 uG mC FV;simp[-gV,-KT.ok,wV,mE,bL,laid,Nd.a,Nd.b,Nd.c,hE,dZ,N3,uG,s4];refine gH (k:=0) (fs:=[]) (cs:=[]) rfl rfl mC rfl ?_;simp[-gV,-KT.ok];refine gH (k:=0) (fs:=[]) (cs:=[]) rfl rfl mC rfl ?_;simp[-gV,-KT.ok];refine gH (k:=0) (fs:=[]) (cs:=[]) rfl rfl FV rfl ?_;simp[-gV,-KT.ok,-aR,bV,aN,hh,yQ,zQ,↓hg,h4,setAt,jQ];refine⟨_,_,hj,Sub.mk ?_ ?_,aB⟩
    .simp
    .simp[mE,bL,laid,qZ,PE,Nd.a,Nd.b,Nd.c]
   |ru r'=>
    simp only[Nd.pv,Nd.kind]at hE dZ N3 uG mC FV;simp[-gV,-KT.ok,wV,mE,bL,laid,Nd.a,Nd.b,Nd.c,hE,dZ,N3,uG,s4];refine gH (k:=0) (fs:=[]) (cs:=[]) rfl rfl mC rfl ?_;simp[-gV,-KT.ok];refine gH (k:=0) (fs:=[]) (cs:=[]) rfl rfl mC rfl ?_;simp[-gV,-KT.ok];refine gH (k:=0) (fs:=[]) (cs:=[]) rfl rfl FV rfl ?_;simp[-gV,-KT.ok];refine⟨_,_,hj,Sub.mk ?_ ?_,aB⟩
    .simp
    .simp[mE,bL,laid,qZ,Nd.a,Nd.b,Nd.c]
   |rh r' h'=>
    simp only[Nd.pv,Nd.kind]at hE dZ N3 uG mC FV;simp[-gV,-KT.ok,wV,mE,bL,laid,Nd.a,Nd.b,Nd.c,hE,dZ,N3,uG,s4];refine gH (k:=0) (fs:=[]) (cs:=[]) rfl rfl mC rfl ?_;simp[-gV,-KT.ok];refine gH (k:=0) (fs:=[]) (cs:=[]) rfl rfl mC rfl ?_;simp[-gV,-KT.ok];refine gH (k:=0) (fs:=[]) (cs:=[]) rfl rfl FV rfl ?_;simp[-gV,-KT.ok];refine⟨_,_,hj,Sub.mk ?_ ?_,aB⟩
    .simp
    .simp[mE,bL,laid,qZ,Nd.a,Nd.b,Nd.c]
def tV (p:List (List Int)):Nd->Bool
 |.mh m h=>decide (gJ p h m = -1)
 |_=>false
def nx (q:Qu)(p:List (List Int)):Nd->List Nd
 |.ru r=>XT p r
 |.rh r h=>KM q p r h
 |.mh m h=>[.rh (gJ p h m).toNat h]
def cO (n:Nd)(s:By×List Nd)(x:Nd):By×List Nd:=if(par s.1 x).isSome=true then s else(s.1++[(x,n)],s.2++[x])
def JT (q:Qu)(p:List (List Int)):Nat->By->List Nd->Option (List (List Int))
 |0,_,_=>none
 |_+1,_,[]=>none
 |f+1,bR,n::rest=>if tV p n=true then some (wW bR bR.length n p)else JT q p f ((nx q p n).foldl (cO n) (bR,rest)).1 ((nx q p n).foldl (cO n) (bR,rest)).2
def fS (F:Nat)(q:Qu)(p:List (List Int))(run:Nat):Option (List (List Int)):=JT q p F [(.ru run,.ru run)] [.ru run]
structure PW (q:Qu)(p:List (List Int)):Prop where
 f:four p
 ok:∀l∈p,∀x∈l,x = -1\/(0<=x/\x<q.rs.length)
 l:p.length<=40
theorem PW.gJ {q:Qu}{p:List (List Int)}(hp:PW q p)(h m:Nat):gJ p h m = -1\/(0<=Go.Proofs.YthmbecacehfgfabGreatDoor.Qn.gJ p h m/\Go.Proofs.YthmbecacehfgfabGreatDoor.Qn.gJ p h m<q.rs.length):=by
 unfold Go.Proofs.YthmbecacehfgfabGreatDoor.Qn.gJ;cases h1:p[h]? with
 |none=>left;simp
 |some l=>
  simp only[sE];cases h2:l[m]? with
  |none=>left;rfl
  |some x=>exact hp.ok l (dL h1) x (dL h2)
theorem ZuN {l:List Int}{v:Int}:HS l v = -1\/∃i:Nat,HS l v=i/\i<l.length/\l[i]?=some v:=by
 unfold HS;cases h:l.findIdx? (fun x=>decide (v=x))with
 |none=>exact .inl rfl
 |some i=>
  obtain⟨hi,h1,_⟩:=JY.1 h;refine .inr ⟨i,rfl,hi,?_⟩;rw[bC hi];simp only[decide_eq_true_eq]at h1;rw[h1]
theorem CF {q:Qu}(hq:q.ok){p:List (List Int)}(hp:PW q p){n:Nd}(hn:n.ok q p)(hf:tV p n=false):∀x∈nx q p n,x.ok q p:=by
 intro x hx;cases n with
 |ru r=>
  simp only[nx,XT,V9,iN,iZ]at hx;obtain⟨h,⟨h1,_⟩,rfl⟩:=hx
  have:=List.mem_of_mem_take h1
  exact⟨hn,by simpa using this⟩
 |rh r h=>
  simp only[nx,KM,sS]at hx;rcases hx with hx|hx
  .simp only[jM,iN,iZ]at hx;obtain⟨m,⟨h1,_⟩,rfl⟩:=hx;exact⟨Nk hq m h1,hn.2⟩
  .split at hx
   .cases hx
   .simp at hx;subst hx;exact hn.1
 |mh m h=>
  simp only[nx,sG]at hx;subst hx;have h1:¬gJ p h m = -1:=by simpa[tV]using hf
  have:=hp.gJ h m
  exact⟨by omega,hn.2⟩
def Nd.code:Nd->Nat
 |.ru r=>r
 |.rh r h=>6+6*h+r
 |.mh m h=>246+4*h+m
theorem Nd.ZxR {q:Qu}(hq:q.ok){p:List (List Int)}(hp:PW q p){n:Nd}(hn:n.ok q p):n.code<406:=by
 have h1:=hq.r;have h2:=hq.m;have h3:=hp.l;cases n with
 |ru r=>have:r<q.rs.length:=hn;show r<406;omega
 |rh r h=>obtain⟨a,b⟩:=hn;show 6+6*h+r<406;omega
 |mh m h=>obtain⟨a,b⟩:=hn;show 246+4*h+m<406;omega
theorem Nd.ZxA {q:Qu}(hq:q.ok){p:List (List Int)}(hp:PW q p){n n':Nd}(hn:n.ok q p)(yO:n'.ok q p)(h:n.code=n'.code):n=n':=by
 have h1:=hq.r;have h2:=hq.m;have h3:=hp.l;cases n with
 |ru r=>
  have a:r<q.rs.length:=hn;cases n' with
  |ru r'=>have:r=r':=h;subst this;rfl
  |rh r' h'=>have e:r=6+6*h'+r':=h;omega
  |mh m' h'=>have e:r=246+4*h'+m':=h;omega
 |rh r k=>
  obtain⟨a,b⟩:=hn;cases n' with
  |ru r'=>have e:6+6*k+r=r':=h;have a':r'<q.rs.length:=yO;omega
  |rh r' k'=>
   obtain⟨a',b'⟩:=yO;have e:6+6*k+r=6+6*k'+r':=h;have e1:k=k':=by omega
   have e2:r=r':=by omega
   rw[e1,e2]
  |mh m' k'=>obtain⟨a',b'⟩:=yO;have e:6+6*k+r=246+4*k'+m':=h;omega
 |mh m k=>
  obtain⟨a,b⟩:=hn;cases n' with
  |ru r'=>have e:246+4*k+m=r':=h;have a':r'<q.rs.length:=yO;omega
  |rh r' k'=>obtain⟨a',b'⟩:=yO;have e:246+4*k+m=6+6*k'+r':=h;omega
  |mh m' k'=>
   obtain⟨a',b'⟩:=yO;have e:246+4*k+m=246+4*k'+m':=h;have e1:k=k':=by omega
   have e2:m=m':=by omega
   rw[e1,e2]
theorem oO:∀(N:Nat) (l:List Nat),l.Nodup->(∀x∈l,x<N)->l.length<=N
 |0,[],_,_=>fH _
 |0,x::r,_,h=>absurd (h x (by simp)) (by omega)
 |N+1,l,hn,h=>by
  by_cases hm:N∈l
  .have h1:=oO N (l.erase N) (hn.erase N) (fun x hx=>by
    have h2:=(hn.mem_erase_iff).1 hx
    have:=h x h2.2
    have:=h2.1
    omega)
   rw[List.length_erase_of_mem hm]at h1;omega
  .have:=oO N l hn (fun x hx=>by
    have:=h x hx
    have:x≠N:=fun e=>hm (e▸hx)
    omega)
   omega
structure BW (q:Qu)(p:List (List Int))(s:By×List Nd):Prop where
 b:LN q p s.1
 t:∀n∈s.2,∃(i:Nat) (b:Nd),s.1[i]?=some (n,b)
theorem BW.len {q:Qu}(hq:q.ok){p:List (List Int)}(hp:PW q p){s:By×List Nd}(h:BW q p s):s.1.length<=406:=by
 have h1:((s.1.map (·.1)).map Nd.code).Nodup:=by
  rw[EO,List.pairwise_map];refine List.Pairwise.imp_of_mem ?_ (EO.1 h.b.nd);intro a b ha hb dA e;obtain⟨x,hx,rfl⟩:=iN.1 ha;obtain⟨y,hy,rfl⟩:=iN.1 hb;exact dA (Nd.ZxA hq hp (h.b.ok x hx).1 (h.b.ok y hy).1 e)
 have:=oO 406 _ h1 (fun x hx=>by
  obtain⟨n,hn,rfl⟩:=iN.1 hx;obtain⟨e,he,rfl⟩:=iN.1 hn;exact Nd.ZxR hq hp (h.b.ok e he).1)
 simpa using this
theorem ZpS {bR:By}{n:Nd}(h:par bR n=none):n∉bR.map (·.1):=fun hm=>by
 obtain⟨e,he,rfl⟩:=iN.1 hm;unfold par at h;rw[Option.map_eq_none_iff,List.find?_eq_none]at h;exact h e he (by simp)
theorem BW.push {q:Qu}{p:List (List Int)}{s:By×List Nd}(h:BW q p s){n x:Nd}(hn:∃(i:Nat) (b:Nd),s.1[i]?=some (n,b))(hx:x.ok q p):BW q p (cO n s x)/\(∃(i:Nat) (b:Nd),(cO n s x).1[i]?=some (n,b))/\
  (cO n s x).2.length+s.1.length=s.2.length+(cO n s x).1.length/\s.1.length<=(cO n s x).1.length:=by
 unfold cO;split
 .exact⟨h,hn,by omega,fH _⟩
 .rename_i hp;have Q1:par s.1 x=none:=by cases hh:par s.1 x with
   |none=>rfl
   |some b=>rw[hh]at hp;exact absurd rfl hp
  have QX:=ZpS Q1;obtain⟨i,b,hi⟩:=hn;have yR:=(cD.1 hi).1;have old:∀(j:Nat) (e:Nd×Nd),s.1[j]?=some e->(s.1++[(x,n)])[j]?=some e:=fun j e hj=>by
   rw[List.getElem?_append_left (cD.1 hj).1];exact hj
  refine⟨⟨⟨?_,fun e he=>?_,fun j e hj=>?_⟩,fun y hy=>?_⟩,⟨i,b,old i _ hi⟩,by simp;omega,by simp⟩
  .rw[mL,List.nodup_append];refine⟨h.b.nd,by simp,fun a ha c hc e=>?_⟩;simp at hc;subst hc e;exact QX ha
  .rcases sS.1 he with he|he
   .exact h.b.ok e he
   .simp at he;subst he;exact⟨hx,(h.b.ok _ (dL hi)).1⟩
  .rw[zB]at hj;split at hj
   .rcases h.b.up j e hj with h1|⟨k,e',h1,h2,h3⟩
    .exact .inl h1
    .exact .inr ⟨k,e',h1,old k e' h2,h3⟩
   .rename_i xP
    have:j-s.1.length=0:=by
     have:=(cD.1 hj).1
     simp at this;omega
    rw[this]at hj;simp at hj;subst hj;exact .inr ⟨i,(n,b),by omega,old i _ hi,rfl⟩
  .rcases sS.1 hy with hy|hy
   .obtain⟨k,c,hk⟩:=h.t y hy;exact⟨k,c,old k _ hk⟩
   .simp at hy;subst hy;exact⟨s.1.length,n,by simp⟩
theorem BW.Lv {q:Qu}{p:List (List Int)}{n:Nd}:∀(l:List Nd) {s:By×List Nd},BW q p s->(∃(i:Nat) (b:Nd),s.1[i]?=some (n,b))->(∀x∈l,x.ok q p)->BW q p (l.foldl (cO n) s)/\(∃(i:Nat) (b:Nd),(l.foldl (cO n) s).1[i]?=some (n,b))/\
  (l.foldl (cO n) s).2.length+s.1.length=s.2.length+(l.foldl (cO n) s).1.length/\s.1.length<=(l.foldl (cO n) s).1.length
 |[],s,h,hn,_=>⟨h,hn,by simp,fH _⟩
 |x::l,s,h,hn,hl=>by
  obtain⟨h1,h2,h3,h4⟩:=h.push hn (hl x (by simp));obtain⟨k1,k2,k3,k4⟩:=BW.Lv l h1 h2 (fun y hy=>hl y (by simp[hy]));rw[List.foldl_cons];exact⟨k1,k2,by omega,by omega⟩
theorem BW.tail {q:Qu}{p:List (List Int)}{bR:By}{n:Nd}{rest:List Nd}(h:BW q p (bR,n::rest)):BW q p (bR,rest):=⟨h.b,fun x hx=>h.t x (by simp[hx])⟩
theorem BW.start {q:Qu}{p:List (List Int)}{run:Nat}(hr:run<q.rs.length):BW q p ([(.ru run,.ru run)],[.ru run]):=
 ⟨⟨by simp,fun e he=>by simp at he;subst he;exact⟨hr,hr⟩,fun i e hi=>by
  cases i with
  |zero=>simp at hi;subst hi;exact .inl rfl
  |succ i=>simp at hi⟩,fun n hn=>by simp at hn;subst hn;exact⟨0,_,rfl⟩⟩
def NY:Nd->FuncId
 |.ru _=>198
 |.rh _ _=>199
 |.mh _ _=>200
theorem Zte (q:Qu)(hq:q.ok)(p:List (List Int))(hp:PW q p)(n:Nd)(hn:n.ok q p)(hf:tV p n=false):
  cU prog (NY n) [.ptr (.par 0) 0,.pv n.pv] (laid 0 (bL q p 1)) (fun x B=>x=.vec (.ret 0) 3 0 (nx q p n).length/\B=vV (nx q p n)++laid 0 (bL q p 1)):=by
 have hl:=hp.l;cases n with
 |ru r=>exact Zqf q p hp.f (by omega) r
 |rh r h=>exact Zqc q hq p hp.f r h hn.1 hn.2
 |mh m h=>
  have h1:¬gJ p h m = -1:=by simpa[tV]using hf
  have h2:=hp.gJ h m
  have:=hq.m
  have hm:m<q.ms.length:=hn.1;exact Zqa q p hp.f m h (by omega) hn.2 (gJ p h m).toNat (by omega)
theorem ZmF (n:Nd):Zq[n.kind]?=some (.agg [.fn (NY n) [] []]):=by cases n<;>rfl
structure Lock (A:Prop):Prop where
 out:A
def SW (q:Qu)(p:List (List Int))(bR:By)(todo:List Nd):AS:=⟨[(0,.ptr (.par 0) 0),(6,.mp (.loc 15 0)),(7,.vec (.loc 78 0) 3 0 todo.length)],(.loc 78 0,.arr 256 3 (todo.map Nd.pv))::(.loc 15 0,.map (AW bR))::laid 0 (bL q p 1)⟩
def Ej (q:Qu)(p:List (List Int))(n:Nd)(L:List Nd)(s:By×List Nd)(i:Nat):AS:=⟨[(0,.ptr (.par 0) 0),(6,.mp (.loc 15 0)),(7,.vec (.loc 78 0) 3 0 s.2.length),(8,.ptr (.loc 8 0) 0),(58,.vec (.loc 58 0) 3 0 L.length),(59,.pv (.i L.length)),(60,.pv (.i i))],
 (.loc 78 0,.arr 256 3 (s.2.map Nd.pv))::(.loc 15 0,.map (AW s.1))::(.loc 8 0,.cells [.pv (.i n.a),.pv (.i n.b),.pv (.i n.c)])::(.loc 58 0,.arr 256 3 (L.map Nd.pv))::laid 0 (bL q p 1)⟩
theorem Zn6 {F:Nat}(hF:407<F)(q:Qu)(hq:q.ok)(p:List (List Int))(hp:PW q p)(run:Nat)(dG:run<q.rs.length):
  cU prog 105 [.ptr (.par 0) 0,.pv (.i run)] (laid 0 (bL q p 1)) (fun x B=>x=.pv (.bool (fS F q p run).isSome)/\B=laid 0 (bL q ((fS F q p run).getD p) 1)):=by
 have Bw:=hq.m;have mJ:=hp.l;obtain⟨xI,jG⟩:∃z,z=fS F q p run:=⟨_,rfl⟩;rw[<-jG];generalize hR:(fun(x:AV) (B:List (Site×aJ))=>x=.pv (.bool xI.isSome)/\B=laid 0 (bL q (xI.getD p) 1))=R;refine cB [.par 0,.par 1] L105 ?_;simp[L105,bL,laid];refine eP (fun k τ=>∃(bR:By) (todo:List Nd) (f:Nat),BW q p (bR,todo)/\todo.length<=bR.length/\k=406-bR.length+todo.length/\k<f/\JT q p f bR todo=xI/\τ=SW q p bR todo)
  ⟨406-1+1,SW q p [(.ru run,.ru run)] [.ru run],Sub.trans' (Sub.mk ?_ ?_) (q8 78 7 [(Nd.ru run).pv] (s:=.loc 20 0) (e:=256) rfl rfl rfl rfl),[(.ru run,.ru run)],[.ru run],F,BW.start dG,fH _,rfl,by omega,jG.symm,rfl⟩ ?_
 .simp[AS.q8]
 .simp[AS.q8,bL,laid,AW,Nd.pv,mM]
 clear jG;intro J hJ k τ bS;refine Lock.out ?_;obtain⟨bR,todo,f,hB,SH,hk,hf,eR,rfl⟩:=bS;obtain⟨f',rfl⟩:∃f',f=f'+1:=⟨f-1,by omega⟩;cases todo with
 |nil=>
  have mP:xI=none:=by rw[<-eR];rfl
  subst mP;refine⟨?_⟩;simp[SW,bL,laid];rw[<-hR];simp[bL,laid]
 |cons n rest=>
  obtain⟨i0,b0,H5⟩:=hB.t n (by simp);have vT:=(hB.b.ok _ (dL H5)).1;simp only at vT;have mC:=Zm n;have bS:=ZmF n;have Z5:n.kind<3:=by cases n<;>simp[Nd.kind]
  rw[JT]at eR;have hlen:=hB.len hq hp;by_cases iY:tV p n=true
  .rw[if_pos iY]at eR;subst eR;clear hJ;cases n with
   |ru r=>simp[tV]at iY
   |rh r h=>simp[tV]at iY
   |mh m h=>
    have Da:gJ p h m = -1:=by simpa[tV]using iY
    obtain⟨l,hl⟩:∃l,p[h]?=some l:=⟨p[h]'vT.2,bC _⟩;have h4:=hp.f l (dL hl);have FU:m<q.ms.length:=vT.1;have hh:h<p.length:=vT.2;have yQ:m<4:=by omega
    obtain⟨x,hx⟩:∃x,l[m]?=some x:=⟨l[m]'(by omega),bC _⟩;rw[Me hl hx]at Da;subst Da;have hg:(jV p)[h]?=some (.agg (l.map (PV.int .i64))):=by rw[jV,bY,hl];rfl
    have H6:(l.map (PV.int .i64))[m]?=some (.i (-1)):=by rw[bY,hx];rfl
    have sQ:=ZqT q hq bR p hB.b hp.f i0 (.mh m h) b0 H5
    simp only[Nd.pv,Nd.kind]at mC sQ;refine⟨?_⟩;simp[SW,bL,laid,Nd.pv,bV,aN];refine BI (k:=0) (fs:=[]) (cs:=[]) rfl rfl mC rfl ?_;simp[-getElem?_pos,-List.getElem?_map,bV,aN,hh,yQ,hg,H6];refine cM [.ptr (.par 0) 0,.pv (.agg [.i (-1),.i m,.i h]),.mp (.par 2)] (laid 0 (mE q p bR)) 49 [.par 0,.par 1,.loc 15 0] (by simp[mE,bL,laid]) sQ (by simp[mE,bL,laid]) ?_;simp[mE,bL,laid];rw[<-hR];simp[bL,laid]
  .have DN:tV p n=false:=by simpa using iY
   rw[if_neg iY]at eR;have iI:=Zte q hq p hp n vT DN;have QW:=CF hq hp vT DN;obtain⟨L,hL⟩:∃L,L=nx q p n:=⟨_,rfl⟩;rw[<-hL]at eR iI QW;have SK:L.length<=1000:=by
    rw[hL];cases n with
    |ru r=>have:=ZgK (p:=p) (r:=r) (k:=p.length);show(V9 p r p.length).length<=1000;omega
    |rh r h=>
     have:=Zfn (q:=q) (p:=p) (r:=r) (h:=h) (k:=q.ms.length)
     show(jM q p r h q.ms.length++_).length<=1000;rw[gF]
     split<;>simp<;>omega
    |mh m h=>simp[nx]
   have DA:∀i,BW q p ((L.take i).foldl (cO n) (bR,rest))/\((L.take i).foldl (cO n) (bR,rest)).2.length+bR.length=rest.length+((L.take i).foldl (cO n) (bR,rest)).1.length/\bR.length<=((L.take i).foldl (cO n) (bR,rest)).1.length:=fun i=>by
    obtain⟨h1,_,h3,h4⟩:=BW.Lv (L.take i) hB.tail ⟨i0,b0,H5⟩ (fun x hx=>QW x (List.mem_of_mem_take hx));exact⟨h1,h3,h4⟩
   have oU:BW q p (L.foldl (cO n) (bR,rest))/\(L.foldl (cO n) (bR,rest)).2.length+bR.length=rest.length+(L.foldl (cO n) (bR,rest)).1.length:=by
    have:=DA L.length
    rw[nD]at this;exact⟨this.1,this.2.1⟩
   have RV:=oU.1.len hq hp;have aB:=hJ (406-(L.foldl (cO n) (bR,rest)).1.length+(L.foldl (cO n) (bR,rest)).2.length) _ ⟨_,_,f',oU.1,by have h1:=oU.2;rw[pI]at SH;show(L.foldl (cO n) (bR,rest)).2.length<=(L.foldl (cO n) (bR,rest)).1.length;omega,rfl,by
    have h1:=oU.2;rw[pI]at hk
    omega,eR,rfl⟩
   have aH:406-(L.foldl (cO n) (bR,rest)).1.length+(L.foldl (cO n) (bR,rest)).2.length<k:=by
    have h1:=oU.2;rw[pI]at hk;omega
   have jR:∀i,((L.take i).foldl (cO n) (bR,rest)).2.length<=406:=fun i=>by
    obtain⟨h1,h2,h3⟩:=DA i
    have:=h1.len hq hp
    rw[pI]at SH;omega
   rw[Nd.R5]at mC iI;obtain⟨N,hN⟩:∃N,N=n:=⟨_,rfl⟩;rw[<-hN]at aB aH jR;clear oU DA RV;have hmf:∀m h,n=.mh m h->∃(l:List Int) (x:Int),jO n.c=some h/\jO n.b=some m/\h<p.length/\m<4/\(jV p)[h]?=some (.agg (l.map (PV.int .i64)))/\(l.map (PV.int .i64))[m]?=some (.i x)/\x≠-1:=fun m h e=>by
    subst e;obtain⟨l,hl⟩:∃l,p[h]?=some l:=⟨p[h]'vT.2,bC _⟩;have h4:=hp.f l (dL hl);have FU:m<q.ms.length:=vT.1;obtain⟨x,hx⟩:∃x,l[m]?=some x:=⟨l[m]'(by omega),bC _⟩;have Da:¬gJ p h m = -1:=by simpa[tV]using DN
    rw[Me hl hx]at Da;exact⟨l,x,Zhz,Zhz,vT.2,by omega,by rw[jV,bY,hl];rfl,by rw[bY,hx];rfl,Da⟩
   clear hJ eR QW hB vT DN iY hL H5;cases n
   case' mh m h=>
    obtain⟨l,x,e1,e2,e3,e4,e5,e6,e7⟩:=hmf m h rfl;simp only[Nd.a,Nd.b,Nd.c,Nd.kind]at e1 e2 mC iI bS aB;refine⟨?_⟩;simp[SW,bL,laid,Nd.pv,bV,aN];refine BI (k:=0) (fs:=[]) (cs:=[]) rfl rfl mC rfl ?_;simp[bV,aN,e1,e2,e3,e4,e5,e6,e7]
   case' ru r=>
    simp only[Nd.a,Nd.b,Nd.c,Nd.kind]at mC iI bS aB;refine⟨?_⟩;simp[SW,bL,laid,Nd.pv,bV,aN];refine BI (k:=0) (fs:=[]) (cs:=[]) rfl rfl mC rfl ?_;simp[aN]
   case' rh r h=>
    simp only[Nd.a,Nd.b,Nd.c,Nd.kind]at mC iI bS aB;refine⟨?_⟩;simp[SW,bL,laid,Nd.pv,bV,aN];refine BI (k:=0) (fs:=[]) (cs:=[]) rfl rfl mC rfl ?_;simp[bV,aN]
   all_goals
    clear hmf;refine cQ [] [] Zsr ?_;simp[aL];refine BI (k:=0) (fs:=[]) (cs:=[]) rfl rfl mC rfl ?_;simp[Zq];refine xU (B:=laid 0 (bL q p 1)) (fs:=[]) (cs:=[]) 58 [.par 0,.par 1] ?_ rfl rfl ?_ ?_ ?_ iI ?_
    .rfl
    .simp[bL,laid]
    .rfl
    .simp
    rintro r0 B0 ⟨rfl,rfl⟩;refine⟨rfl,by simp[vV,bL,laid],?_⟩;simp[vV,bL,laid];refine eP (fun k τ=>∃i:Nat,i<=L.length/\k=L.length-i/\τ=Ej q p N L ((L.take i).foldl (cO N) (bR,rest)) i)
     ⟨L.length,Ej q p N L (bR,rest) 0,Sub.trans' (Sub.mk ?_ ?_) (q8 78 7 (rest.map Nd.pv) (s:=.loc 78 0) (e:=256) rfl rfl ?_ rfl),0,gW _,rfl,rfl⟩ ?_
    .simp[AS.q8]
    .simp[AS.q8,bL,laid,hN,Nd.a,Nd.b,Nd.c]
    .simp;omega
    clear hN mC iI bS;rintro J2 sR k2 τ ⟨i,hi,rfl,rfl⟩;by_cases aI:i<L.length
    .obtain⟨x,hx⟩:∃x,L[i]?=some x:=⟨L[i],bC aI⟩;have oT:(L.map Nd.pv)[i]?=some (.agg [.i x.a,.i x.b,.i x.c]):=by rw[bY,hx];simp[Nd.R5]
     have hw:=jK (k:=i) (by omega);have rZ:(L.take (i+1)).foldl (cO N) (bR,rest)=cO N ((L.take i).foldl (cO N) (bR,rest)) x:=by rw[OY hx,List.foldl_append];rfl
     have cH:=sR _ _ ⟨i+1,aI,rfl,rfl⟩;rw[rZ]at cH;have Wb:=jR i;have iJ:L.length-(i+1)<L.length-i:=by omega
     clear sR rZ aB aH jR;generalize(L.take i).foldl (cO N) (bR,rest)=S1 at *;obtain⟨b1,t1⟩:=S1;simp only at Wb;have dZ:=ZhQ x b1;have N3:=X7 x;have s4:=Zn8 b1;have Bm:t1.length+1<=1000000:=by omega
     cases Bz:par b1 x with
     |none=>
      have nJ:=Znz (b:=N) Bz;have Tv:cO N (b1,t1) x=(b1++[(x,N)],t1++[x]):=by unfold cO;rw[Bz];rfl
      rw[Tv]at cH;rw[Bz]at dZ;rw[Nd.R5 x,Nd.R5 N]at nJ;rw[Nd.R5 x]at dZ N3;simp only[Option.map_none]at dZ;simp[-gV,-KT.ok,Ej,bL,laid,bV,aN,aI,↓oT,dZ,N3,s4,nJ,Bm,hw];refine⟨_,_,iJ,Sub.mk ?_ ?_,cH⟩
      .simp
      .simp[bL,laid,Nd.R5]
     |some b=>
      have Tv:cO N (b1,t1) x=(b1,t1):=by unfold cO;rw[Bz];rfl
      rw[Tv]at cH;rw[Bz]at dZ;rw[Nd.R5 x]at dZ N3;simp only[vB,Nd.R5 b]at dZ;simp[-gV,-KT.ok,Ej,bL,laid,bV,aN,aI,↓oT,dZ,N3,s4,hw];refine⟨_,_,iJ,Sub.mk ?_ ?_,cH⟩
      .simp
      .simp[bL,laid]
    .have he:i=L.length:=by omega
     subst he;rw[nD];clear sR jR;generalize L.foldl (cO N) (bR,rest)=S1 at *;obtain⟨b1,t1⟩:=S1;simp[Ej,bL,laid];refine⟨_,_,aH,Sub.mk ?_ ?_,aB⟩
     .simp
     .simp[bL,laid]
end Go.Proofs.YthmbecacehfgfabGreatDoor.Qn
namespace Go.Proofs.YthmbecacehfgfabGreatDoor
open Go.RowKit
theorem Sub.cut {σ:AS}{s:Site}{e n:Nat}{xs:List PV}(k:Nat)(hb:σ.b s=some (.arr e n xs)):Sub (σ.set s (.arr e n (xs.take k))) σ:=fun _ _ _ _ ρ m act w hS=>by
 refine⟨ρ,m,hS.ZxV hb ?_ (fun j hj=>?_)⟩
 .obtain⟨hn,h|⟨hr,cs,g1,g2,g3,g4,g5⟩⟩:=hS.bx s _ hb
  .exact⟨hn,.inl ⟨h.1,by rw[h.2.1];simp,h.2.2⟩⟩
  .refine⟨hn,.inr ⟨hr,cs,g1,g2,by rw[gM];omega,g4,fun i x hi=>?_⟩⟩;rw[mH]at hi;split at hi
   .exact g5 i x hi
   .cases hi
 .obtain⟨r1,r2⟩:=FD rfl hj;exact .inl ⟨r1,r2⟩
theorem Xq {σ:AS}(s:Site){e n:Nat}{xs:List PV}(k:Nat)(ys:List PV)(hb:σ.b s=some (.arr e n xs))(hy:xs.take k=ys):Sub (σ.set s (.arr e n ys)) σ:=by
 subst hy;exact Sub.cut k hb
end Go.Proofs.YthmbecacehfgfabGreatDoor
namespace Go.Proofs.YthmbecacehfgfabGreatDoor.Qn
open Go.RowKit
theorem PW.set {q:Qu}{p:List (List Int)}(hp:PW q p){h m:Nat}{x:Int}(hh:h<p.length)(hx:x = -1\/(0<=x/\x<q.rs.length)):PW q (gA p h m x):=by
 refine⟨Zij hp.f hh,fun l hl y hy=>?_,by rw[PE];exact hp.l⟩;rcases List.mem_or_eq_of_mem_set hl with h1|h1
 .exact hp.ok l h1 y hy
 .subst h1;have e:p[h]?=some p[h]:=bC hh;rw[e]at hy;simp only[sE]at hy;rcases List.mem_or_eq_of_mem_set hy with h2|h2
  .exact hp.ok _ (A2 hh) y h2
  .subst h2;exact hx
theorem PW.qZ {q:Qu}{p:List (List Int)}(hp:PW q p){n b:Nd}(hn:n.ok q p)(hb:b.ok q p):PW q (qZ n b p):=by
 cases n with
 |ru r=>cases b<;>exact hp
 |rh r h=>
  cases b with
  |mh m h'=>exact hp.set hn.2 (.inl rfl)
  |ru r'=>exact hp
  |rh r' h'=>exact hp
 |mh m h=>
  refine hp.set hn.2 ?_;cases b with
  |ru r=>right;have:r<q.rs.length:=hb;show 0<=(r:Int)/\(r:Int)<_;omega
  |rh r h'=>right;have:r<q.rs.length:=hb.1;show 0<=(r:Int)/\(r:Int)<_;omega
  |mh m' h'=>exact .inl rfl
theorem PW.wW {q:Qu}{p0:List (List Int)}{bR:By}(hb:LN q p0 bR):∀(f:Nat) (n:Nd) (p:List (List Int)),PW q p->p.length=p0.length->PW q (wW bR f n p)/\(Go.Proofs.YthmbecacehfgfabGreatDoor.Qn.wW bR f n p).length=p0.length
 |0,n,p,hp,hl=>⟨hp,hl⟩
 |f+1,n,p,hp,hl=>by
  unfold Go.Proofs.YthmbecacehfgfabGreatDoor.Qn.wW;cases Q1:par bR n with
  |none=>exact⟨hp,hl⟩
  |some b=>
   simp only;split
   .exact⟨hp,hl⟩
   .have gU:(n,b)∈bR:=by
     unfold par at Q1;obtain⟨e,he,rfl⟩:=eB.1 Q1;have h1:=List.find?_some he;simp only[decide_eq_true_eq]at h1;subst h1;exact List.mem_of_find?_eq_some he
    obtain⟨h1,h2⟩:=hb.ok _ gU;exact PW.wW hb f b _ (hp.qZ (Nd.Lo hl h1) (Nd.Lo hl h2)) (by rw[Zls];exact hl)
theorem ZrY {q:Qu}(hq:q.ok){p:List (List Int)}(hp:PW q p):∀(f:Nat) (bR:By) (todo:List Nd),BW q p (bR,todo)->∀p',JT q p f bR todo=some p'->PW q p'/\p'.length=p.length
 |0,bR,todo,_,p',h=>by cases h
 |f+1,bR,[],_,p',h=>by cases h
 |f+1,bR,n::rest,hB,p',h=>by
  obtain⟨i0,b0,H5⟩:=hB.t n (by simp);have vT:=(hB.b.ok _ (dL H5)).1;rw[JT]at h;by_cases hf:tV p n=true
  .rw[if_pos hf]at h;cases h;exact PW.wW hB.b _ _ _ hp rfl
  .rw[if_neg hf]at h;have DN:tV p n=false:=by simpa using hf
   exact ZrY hq hp f _ _ (BW.Lv _ hB.tail ⟨i0,b0,H5⟩ (CF hq hp vT DN)).1 p' h
theorem ZhO {F:Nat}{q:Qu}(hq:q.ok){p:List (List Int)}(hp:PW q p){run:Nat}(hr:run<q.rs.length){p':List (List Int)}(h:fS F q p run=some p'):PW q p'/\p'.length=p.length:=
 ZrY hq hp F _ _ (BW.start hr) p' h
def fG (F:Nat)(q:Qu):List (List Int)->List Nat->List (List Int)×List Nat
 |p,[]=>(p,[])
 |p,r::l=>match fS F q p r with
  |some p'=>fG F q p' l
  |none=>((fG F q p l).1,r::(fG F q p l).2)
def P7 (F:Nat)(q:Qu)(p:List (List Int)):List Nat->Option (Nat×List (List Int))
 |[]=>none
 |r::l=>match fS F q p r with
  |some p'=>some (0,p')
  |none=>(P7 F q p l).map fun s=>(s.1+1,s.2)
theorem ZoC {F:Nat}{q:Qu}{p:List (List Int)}:∀l:List Nat,fG F q p l=match P7 F q p l with
  |none=>(p,l)
  |some (i,p')=>((fG F q p' (l.drop (i+1))).1,l.take i++(fG F q p' (l.drop (i+1))).2)
 |[]=>rfl
 |r::l=>by
  have ih:=ZoC (F:=F) (q:=q) (p:=p) l;have e1:fG F q p (r::l)=match fS F q p r with
   |some p'=>fG F q p' l
   |none=>((fG F q p l).1,r::(fG F q p l).2):=rfl
  have e2:P7 F q p (r::l)=match fS F q p r with
   |some p'=>some (0,p')
   |none=>(P7 F q p l).map fun s=>(s.1+1,s.2):=rfl
  rw[e1,e2];cases hg:fS F q p r with
  |some p'=>simp
  |none=>
   simp only;rw[ih];cases hx:P7 F q p l with
   |none=>rfl
   |some s=>obtain⟨i,p'⟩:=s;simp
theorem Na {F:Nat}{q:Qu}(hq:q.ok):∀(l:List Nat) (p:List (List Int)),PW q p->(∀r∈l,r<q.rs.length)->PW q (fG F q p l).1/\(fG F q p l).1.length=p.length/\(∀r∈(fG F q p l).2,r∈l)/\(fG F q p l).2.length<=l.length
 |[],p,hp,_=>⟨hp,rfl,fun r h=>h,fH _⟩
 |r::l,p,hp,hl=>by
  unfold fG;cases hg:fS F q p r with
  |some p'=>
   obtain⟨h1,h2⟩:=ZhO hq hp (hl r (by simp)) hg;obtain⟨k1,k2,k3,k4⟩:=Na hq l p' h1 (fun r h=>hl r (by simp[h]));exact⟨k1,k2.trans h2,fun r h=>by simp[k3 r h],by rw[pI];exact Nat.le_succ_of_le k4⟩
  |none=>
   obtain⟨k1,k2,k3,k4⟩:=Na hq l p hp (fun r h=>hl r (by simp[h]));refine⟨k1,k2,fun r' h=>?_,by simpa using k4⟩;rcases jT.1 h with h|h
   .simp[h]
   .simp[k3 r' h]
def uD (F:Nat)(q:Qu):Nat->List (List Int)->List Nat->Option (List (List Int))
 |_,p,[]=>some p
 |0,_,_::_=>none
 |n+1,p,r::l=>if p.length=40 then none else uD F q n (fG F q (p++[fD]) (r::l)).1 (fG F q (p++[fD]) (r::l)).2
def Qu.KE (q:Qu):List Nat:=(List.range q.rs.length).flatMap fun i=>List.replicate (q.run i).hours.toNat i
def Qu.EV (F:Nat)(q:Qu):Option (List (List Int)):=uD F q 41 [] q.KE
theorem PW.more {q:Qu}{p:List (List Int)}(hp:PW q p)(hl:p.length<40):PW q (p++[fD]):=
 ⟨fun l h=>by
  rcases sS.1 h with h|h
  .exact hp.f l h
  .simp at h;subst h;rfl,fun l h x hx=>by
  rcases sS.1 h with h|h
  .exact hp.ok l h x hx
  .simp at h;subst h;simp[fD]at hx;exact .inl hx,by simp;omega⟩
theorem PW.nil {q:Qu}:PW q []:=⟨fun l h=>(by simp at h),fun l h=>(by simp at h),by simp⟩
theorem C8 {F:Nat}{q:Qu}(hq:q.ok):∀(n:Nat) (p:List (List Int)) (l:List Nat),PW q p->(∀r∈l,r<q.rs.length)->∀p',uD F q n p l=some p'->PW q p'
 |n,p,[],hp,_,p',h=>by cases n<;>(simp only[uD]at h;cases h;exact hp)
 |0,p,r::l,_,_,p',h=>by cases h
 |n+1,p,r::l,hp,hl,p',h=>by
  unfold uD at h;split at h
  .cases h
  .rename_i SS;have h1:=hp.l;obtain⟨k1,k2,k3,k4⟩:=Na (F:=F) hq (r::l) _ (hp.more (by omega)) hl;exact C8 hq n _ _ k1 (fun x hx=>hl x (k3 x hx)) p' h
theorem oJ {q:Qu}:∀r∈q.KE,r<q.rs.length:=fun r hr=>by
 unfold Qu.KE at hr;obtain⟨i,hi,h⟩:=List.mem_flatMap.1 hr;rw[List.mem_replicate]at h;rw[h.2];simpa using hi
end Go.Proofs.YthmbecacehfgfabGreatDoor.Qn
namespace Go.Proofs.YthmbecacehfgfabGreatDoor
open Go.RowKit
noncomputable section
def L150:aW :=⟨30,S [O 4 (.dU (.c (.int .u64 (0)))),O 5 (.dU (.c (.int .u64 (0))))] (.seq (.cond Bf (aD [Om 11 0,O 12 (.conv .u32 (.t 11)),Om 13 1,O 14 (.conv .u32 (.t 13)),Ok 15 196 [.t 12,.t 14],mG 10 15 16 0 17 1,bM 6 16 17] (aD [Om 18 6,O 19 (.conv .u64 (.t 18)),Om 20 7,O 21 (.conv .u64 (.t 20)),bM 4 19 21] .ret)) .skip) (aD [bM 23 0 1,Ok 25 197 [.t 23,.t 24],mG 22 25 26 0 27 1,bM 8 26 27] (aD [bM 28 8 9,bM 4 28 29] .ret))),[.tm 4,.tm 5]⟩
def L197:aW :=⟨51,S [O 4 (.dU (.c (.int .u64 (0)))),O 5 (.dU (.c (.int .u64 (0))))] (aD [ZAn 14 0 4294967295 6] (aD [Fp 16 0 32,Om 7 17] (aD [ZAn 18 1 4294967295 8] (aD [Fp 20 1 32,Om 9 21] (aD [bM 22 6 8,Ob 24 .mul 22 23,Om 10 24] (aD [bM 25 7 8,Ob 27 .mul 25 26,Fp 28 10 32,FG 30 27 29 11] (aD [ZAn 31 11 4294967295 12] (aD [Fp 33 11 32,Om 13 34] (aD [bM 35 12 6,Om 37 9,Ob 38 .mul 36 37,FG 39 35 38 12] (aD [bM 40 7 9,Ob 42 .mul 40 41,Om 43 13,Ob 44 .add 42 43,Fp 45 12 32,FG 47 44 46 4] (aD [bM 48 0 1,Ob 50 .mul 48 49,Om 5 50] .ret))))))))))),[.tm 4,.tm 5]⟩
end
end Go.Proofs.YthmbecacehfgfabGreatDoor
namespace Go.Proofs.YthmbecacehfgfabGreatDoor.Qn
open Go.RowKit
open Tryz
theorem Fm (c:Fin 41):(BitVec.ofNat 64 c.1&&& 4294967295#64).toNat=c.1:=by revert c;decide
theorem Zth (c:Nat)(hc:c<=40):aC prog 197 [.int .u64 1,.int .u64 c] (.bN [.int .u64 0,.int .u64 c]):=by
 have h1:=Fm ⟨c,by omega⟩;simp only at h1;have w0:IntKind.u64.wrap 0=0:=rfl;have w1:IntKind.u64.wrap 1=1:=rfl;have hw:∀n:Nat,n<=40->IntKind.u64.wrap (n:Int)=n:=fun n hn=>by rw[show IntKind.u64.wrap (n:Int)=(n:Int)%18446744073709551616 from rfl];omega
 have hd:∀n:Nat,n<=40->(n:Int).fdiv 4294967296=0:=fun n hn=>by rw[Int.fdiv_eq_ediv_of_nonneg _ (by omega)];omega
 refine cS L197 ?_;simp[L197,IntKind.bits,w0,w1,hw c hc,hd c hc];exact(by decide +kernel:∀c:Fin 41,IntKind.u64.wrap
   (IntKind.u64.wrap
     ((IntKind.u64.wrap
        ((IntKind.u64.wrap (IntKind.u64.wrap ((BitVec.ofNat 64 c.1&&& 4294967295#64).toNat:Int))).fdiv
         4294967296)).fdiv
      4294967296) +
    (IntKind.u64.wrap
       (IntKind.u64.wrap
        ((BitVec.ofInt 64
            (IntKind.u64.wrap
             ((IntKind.u64.wrap (IntKind.u64.wrap ((BitVec.ofNat 64 c.1&&& 4294967295#64).toNat:Int))).fdiv
              4294967296))&&&
           4294967295#64).toNat:Int))).fdiv
     4294967296) =
  0) ⟨c,by omega⟩
theorem Ao (c:Nat)(hc:c<=40):aC prog 150 [.int .u64 1,.int .u64 c] (.bN [.int .u64 0,.int .u64 c]):=by
 refine cS L150 ?_;simp[L150];refine gH (k:=0) (fs:=[]) (cs:=[]) rfl rfl (Zth c hc) rfl ?_;simp
def vP (v:Int)(c n:Nat):List PV:=List.replicate n (.i v)++List.replicate (c-n) (.i 0)
theorem ZpG {v:Int}{c n:Nat}(h:n<=c):(vP v c n).length=c:=by simp[vP];omega
theorem Zin {v:Int}{c n:Nat}:(vP v c n).take n=List.replicate n (.i v):=by simp[vP]
theorem Znj {v:Int}{c n:Nat}(h:n<=c):aR (vP v c n) n ((List.replicate n (PV.i v)).take (c-n))=vP v c (n+min n (c-n)):=by
 unfold aR vP;rw[List.take_replicate,List.length_replicate,List.take_append_of_le_length (by simp),fQ (by simp),List.drop_append,List.length_replicate,List.drop_replicate,List.drop_replicate,<-I3];rw[show n-(n+min (c-n) n)=0 by omega,List.replicate_zero,xC,List.replicate_append_replicate];congr 2<;>omega
theorem ZpE (v:Int)(c:Nat)(hc:c<=40):aC prog 103 [.aF false 1 [.i v],.i c] (.aF false 1 (List.replicate c (.i v))):=by
 have hw:∀n:Nat,n<=40->IntKind.u64.wrap (n:Int)=n:=fun n hn=>by rw[show IntKind.u64.wrap (n:Int)=(n:Int)%18446744073709551616 from rfl];omega
 have hi:∀n:Nat,n<=1000->IntKind.i64.wrap (n:Int)=n:=fun n hn=>wrap64 (by omega)
 have w1:IntKind.u64.wrap 1=1:=rfl;have NM:¬((c:Int)<0):=by omega
 have JE:¬((9223372036854775807:Int)<(c:Int)):=by omega
 have hc6:c<=1000000:=by omega
 refine cF [.loc 30 0] L103 ?_;simp[L103,hw c hc,w1,NM];refine gH (k:=0) (fs:=[]) (cs:=[]) rfl rfl (Ao c hc) rfl ?_;simp[-aR,JE,hi c (by omega),aN,hc6];refine eP (fun k τ=>∃n:Nat,n<=c/\(0<n\/c=0)/\k=c-n/\τ=⟨[(7,.vec (.loc 30 0) 1 0 c),(8,.pv (.i n))],[(.loc 30 0,.arr 3 1 (vP v c n))]⟩)
  ⟨c-min c 1,⟨[(7,.vec (.loc 30 0) 1 0 c),(8,.pv (.i (min c 1:Nat)))],[(.loc 30 0,.arr 3 1 (vP v c (min c 1)))]⟩,Sub.mk ?_ ?_,min c 1,by omega,by omega,rfl,rfl⟩ ?_
 .simp
 .cases c with
  |zero=>simp[-aR,vP,aR]
  |succ c=>simp[-aR,vP,aR]
 rintro J hJ k τ ⟨n,hn,xN,rfl,rfl⟩;have IP:=ZpG (v:=v) hn;by_cases aI:n<c
 .have aB:=hJ _ _ ⟨n+min n (c-n),by omega,by omega,rfl,rfl⟩;have jX:=Zin (v:=v) (c:=c) (n:=n);have iI:=Znj (v:=v) hn;have jF:(n:Int)<(c:Int):=by omega
  have aH:c-(n+min n (c-n))<c-n:=by omega
  have Ki:IntKind.i64.wrap ((n:Int)+(min (c-n) n:Nat))=((n+min n (c-n):Nat):Int):=by rw[wrap64 (by omega)];omega
  have H4:n+(c-n)=c:=by omega
  clear hJ;simp[-aR,-List.take_replicate,jF,aN,hn,IP,jX,iI,H4,Ki];refine⟨_,_,aH,Sub.mk ?_ ?_,aB⟩
  .simp
  .simp
 .have he:n=c:=by omega
  subst he;have jX:=Zin (v:=v) (c:=n) (n:=n);simp[-aR,jX,IP]
def jB (l:List Nat):List PV:=l.map fun r:Nat=>.i r
theorem Zhy {l:List Nat}{i r:Nat}(h:l[i]?=some r):(jB l)[i]?=some (.i r):=by rw[jB,bY,h];rfl
theorem Zhx {l:List Nat}:(jB l).length=l.length:=by simp[jB]
def gQ (q:Qu)(p:List (List Int))(l:List Nat):List aJ:=.arr 3 1 (jB l)::bL q p 2
def G9:Option (Nat×List (List Int))->Int
 |some s=>s.1
 |none=>-1
def VN (p:List (List Int)):Option (Nat×List (List Int))->List (List Int)
 |some s=>s.2
 |none=>p
def lU:AV:=.fn 105 [.ptr (.par 1) 0] []
theorem Sp {F:Nat}(hF:407<F)(q:Qu)(hq:q.ok)(p:List (List Int))(hp:PW q p)(l:List Nat)(hl:l.length<=1000)(gB:∀r∈l,r<q.rs.length):
  cU prog 90 [.vec (.par 0) 1 0 l.length,lU] (laid 0 (gQ q p l)) (fun x B=>x=.pv (.i (G9 (P7 F q p l)))/\B=laid 0 (gQ q (VN p (P7 F q p l)) l)):=by
 refine cB [.par 0,.par 1,.par 2] L90 ?_;obtain⟨xI,jG⟩:∃z,z=P7 F q p l:=⟨_,rfl⟩;rw[<-jG];generalize hR:(fun(x:AV) (B:List (Site×aJ))=>x=.pv (.i (G9 xI))/\B=laid 0 (gQ q (VN p xI) l))=R;simp[L90,gQ,lU,bL,laid];refine eP (fun n τ=>∃k:Nat,k<=l.length/\n=l.length-k/\(P7 F q p (l.drop k)).map (fun s=>(s.1+k,s.2))=xI/\τ=⟨[(0,.vec (.par 0) 1 0 l.length),(1,lU),(7,.pv (.i l.length)),(8,.pv (.i k))],laid 0 (gQ q p l)⟩)
  ⟨l.length,⟨[(0,.vec (.par 0) 1 0 l.length),(1,lU),(7,.pv (.i l.length)),(8,.pv (.i 0))],laid 0 (gQ q p l)⟩,Sub.mk (by simp[lU]) (by simp[gQ,bL,laid]),0,gW _,rfl,by rw[jG];simp,rfl⟩ ?_
 clear jG;rintro J hJ n τ ⟨k,hk,rfl,eR,rfl⟩;by_cases aI:k<l.length
 .obtain⟨r,hx⟩:∃x,l[k]?=some x:=⟨l[k],bC aI⟩;have hg:=Zhy hx;have IP:=Zhx (l:=l);have hw:=jK (k:=k) (by omega);have aH:l.length-(k+1)<l.length-k:=by omega
  have AO:l.drop k=r::l.drop (k+1):=by
   rw[AY aI]
   have:l[k]=r:=by rw[bC aI]at hx;exact Option.some.inj hx
   rw[this]
  have hC:=Zn6 hF q hq p hp r (gB r (dL hx));rw[AO]at eR;have e2:P7 F q p (r::l.drop (k+1))=match fS F q p r with
   |some p'=>some (0,p')
   |none=>(P7 F q p (l.drop (k+1))).map fun s=>(s.1+1,s.2):=rfl
  rw[e2]at eR;clear e2 AO;have eK:fS F q p r=none->J (l.length-(k+1)) _:=fun hn=>hJ _ _ ⟨k+1,aI,rfl,by
   rw[hn]at eR;rw[<-eR];cases P7 F q p (l.drop (k+1))with
   |none=>rfl
   |some s=>simp;omega,rfl⟩
  clear hJ;simp[gQ,lU,bL,laid,aI,hg,bV];refine xU (gG:=[.ptr (.par 0) 0,.pv (.i r)]) (B:=laid 0 (bL q p 1)) (fs:=[.ptr (.par 1) 0]) (cs:=[]) 16 [.par 1,.par 2] ?_ rfl rfl ?_ ?_ ?_ hC ?_
  .rfl
  .simp[bL,laid]
  .rfl
  .rfl
  rintro r0 B0 ⟨rfl,rfl⟩;refine⟨rfl,by simp[bL,laid],?_⟩;cases yS:fS F q p r with
  |none=>
   have aB:=eK yS;simp[bL,laid,hw];refine⟨_,_,aH,Sub.mk ?_ ?_,aB⟩
   .simp[lU]
   .simp[gQ,bL,laid]
  |some p'=>
   rw[yS]at eR;simp only[vB,sF]at eR;subst eR;simp[bL,laid];rw[<-hR];simp[gQ,bL,laid,G9,VN]
 .have he:k=l.length:=by omega
  subst he;rw[List.drop_length]at eR;have mP:xI=none:=by rw[<-eR];rfl
  subst mP;simp[gQ,lU,bL,laid];rw[<-hR];simp[gQ,bL,laid,G9,VN]
theorem ZrN {F:Nat}{q:Qu}(hq:q.ok){p:List (List Int)}(hp:PW q p):∀(l:List Nat),(∀r∈l,r<q.rs.length)->∀i p',P7 F q p l=some (i,p')->i<l.length/\PW q p'/\p'.length=p.length
 |[],_,i,p',h=>by cases h
 |r::l,hl,i,p',h=>by
  have e2:P7 F q p (r::l)=match fS F q p r with
   |some p'=>some (0,p')
   |none=>(P7 F q p l).map fun s=>(s.1+1,s.2):=rfl
  rw[e2]at h;cases hg:fS F q p r with
  |some p2=>
   rw[hg]at h;simp only[Option.some.injEq,Prod.mk.injEq]at h;obtain⟨rfl,rfl⟩:=h;obtain⟨h1,h2⟩:=ZhO hq hp (hl r (by simp)) hg;exact⟨by simp,h1,h2⟩
  |none=>
   rw[hg]at h;obtain⟨s,hs,he⟩:=eB.1 h;obtain⟨k,p3⟩:=s;simp only[Prod.mk.injEq]at he;obtain⟨rfl,rfl⟩:=he;obtain⟨h1,h2⟩:=ZrN hq hp l (fun x hx=>hl x (by simp[hx])) k p3 hs;exact⟨by simp;omega,h2⟩
def WQ (q:Qu)(p:List (List Int))(X:List Nat)(w j n:Nat):AS:=⟨[(0,.vec (.par 0) 1 0 n),(1,lU),(5,.pv (.i w)),(6,.pv (.i j))],laid 0 (gQ q p X)⟩
theorem Zp4 {X:List Nat}{w r:Nat}:(jB X).set w (.i r)=jB (X.set w r):=by rw[jB,jB,List.map_set]
theorem ZqE {F:Nat}(hF:407<F)(q:Qu)(hq:q.ok)(p:List (List Int))(hp:PW q p)(l:List Nat)(hl:l.length<=1000)(gB:∀r∈l,r<q.rs.length):
  cU prog 50 [.vec (.par 0) 1 0 l.length,lU] (laid 0 (gQ q p l)) (fun x B=>x=.vec (.par 0) 1 0 (fG F q p l).2.length/\∃X:List Nat,X.take (fG F q p l).2.length=(fG F q p l).2/\B=laid 0 (gQ q (fG F q p l).1 X)):=by
 obtain⟨xI,jG⟩:∃z,z=fG F q p l:=⟨_,rfl⟩;rw[<-jG];have hC:=Sp hF q hq p hp l hl gB;rw[ZoC]at jG;refine O2 [.par 0,.par 1,.par 2] L50 ?_;intro R hR;have Co:=ZrN (F:=F) hq hp l gB;simp[L50,gQ,bL,laid];refine xU (gG:=[.vec (.par 0) 1 0 l.length,lU]) (B:=laid 0 (gQ q p l)) (fs:=[]) (cs:=[]) 10 [.par 0,.par 1,.par 2] ?_ rfl rfl ?_ ?_ ?_ hC ?_
 .rfl
 .simp[gQ,bL,laid]
 .simp[lU]
 .simp[lU]
 rintro r0 B0 ⟨rfl,rfl⟩;refine⟨rfl,by simp[gQ,bL,laid],?_⟩;cases hx:P7 F q p l with
 |none=>
  rw[hx]at jG;simp only at jG;subst jG;simp[gQ,bL,laid,G9,VN,lU];rw[<-hR];exact⟨rfl,l,by simp,by simp[gQ,bL,laid]⟩
 |some s=>
  obtain⟨i,p1⟩:=s;obtain⟨hi,Cb,_⟩:=Co i p1 hx;rw[hx]at jG;simp only at jG;have qD:=jK (k:=i) (by omega);have M7:¬((i:Int) = -1):=by omega
  clear Co hC;simp[gQ,bL,laid,G9,VN,lU,qD,M7];refine eP (fun n τ=>∃(j:Nat) (X K:List Nat) (p2:List (List Int)),j<=l.length/\n=l.length-j/\X.length=l.length/\X.take K.length=K/\X.drop j=l.drop j/\K.length<j/\PW q p2/\(fG F q p2 (l.drop j)).1=xI.1/\K++(fG F q p2 (l.drop j)).2=xI.2/\τ=WQ q p2 X K.length j l.length)
   ⟨l.length-(i+1),WQ q p1 l i (i+1) l.length,Sub.mk (by simp[lU]) (by simp[gQ,bL,laid]),i+1,l,l.take i,p1,by omega,rfl,rfl,by simp,rfl,by rw[gM];omega,Cb,by rw[jG],by rw[jG],by rw[gM,Nat.min_eq_left (by omega)]⟩ ?_
  clear jG Cb hx qD M7;rintro J hJ n τ ⟨j,X,K,p2,hj,rfl,H8,AP,NS,hKj,Tz,D9,D8,rfl⟩;have IP:=Zhx (l:=X);by_cases aI:j<l.length
  .obtain⟨r,tM⟩:∃x,l[j]?=some x:=⟨l[j],bC aI⟩;have Dy:X[j]?=some r:=by
    have h1:(X.drop j)[0]?=(l.drop j)[0]?:=by rw[NS]
    rw[mW,mW,Nat.add_zero]at h1;rw[h1];exact tM
   have hg:=Zhy Dy;have hw:=jK (k:=j) (by omega);have sY:=jK (k:=K.length) (by omega);have aH:l.length-(j+1)<l.length-j:=by omega
   have AO:l.drop j=r::l.drop (j+1):=by
    rw[AY aI]
    have:l[j]=r:=by rw[bC aI]at tM;exact Option.some.inj tM
    rw[this]
   have hC:=Zn6 hF q hq p2 Tz r (gB r (dL tM));have s7:X.drop (j+1)=l.drop (j+1):=by
    have:=congrArg List.tail NS
    simpa[List.tail_drop]using this
   rw[AO]at D9 D8;have e2:fG F q p2 (r::l.drop (j+1))=match fS F q p2 r with
    |some p'=>fG F q p' (l.drop (j+1))
    |none=>((fG F q p2 (l.drop (j+1))).1,r::(fG F q p2 (l.drop (j+1))).2):=rfl
   rw[e2]at D9 D8;clear e2 AO;have NU:K.length<X.length:=by omega
   have jQ:∀Y,Y=X.set K.length r->fS F q p2 r=none->J (l.length-(j+1)) (WQ q p2 Y (K.length+1) (j+1) l.length):=fun Y hY hn=>hJ _ _ ⟨j+1,Y,K++[r],p2,aI,rfl,by rw[hY,List.length_set];exact H8,by
    rw[hY,gF];show List.take (K.length+1) _=_;rw[mV,O6 NU,List.take_set_of_le (fH _),AP];rfl,by rw[hY,List.drop_set_of_lt (by omega)];exact s7,by simp;omega,Tz,by rw[hn]at D9;exact D9,by rw[hn]at D8;rw[I3];exact D8,by simp⟩
   have DK:∀p3,fS F q p2 r=some p3->J (l.length-(j+1)) (WQ q p3 X K.length (j+1) l.length):=fun p3 hn=>hJ _ _ ⟨j+1,X,K,p3,aI,rfl,H8,AP,s7,by omega,(ZhO hq Tz (gB r (dL tM)) hn).1,by rw[hn]at D9;exact D9,by rw[hn]at D8;exact D8,rfl⟩
   clear hJ;have kN:j<X.length:=by omega
   have Ed:K.length<l.length:=by omega
   have Ec:(jB X)[K.length]?=some (.i (X[K.length]:Nat)):=Zhy (bC NU);have bS:=Zp4 (X:=X) (w:=K.length) (r:=r);simp[WQ,gQ,lU,bL,laid,aI,hg,bV];refine xU (gG:=[.ptr (.par 0) 0,.pv (.i r)]) (B:=laid 0 (bL q p2 1)) (fs:=[.ptr (.par 1) 0]) (cs:=[]) 28 [.par 1,.par 2] ?_ rfl rfl ?_ ?_ ?_ hC ?_
   .rfl
   .simp[bL,laid]
   .rfl
   .rfl
   rintro r0 B0 ⟨rfl,rfl⟩;refine⟨rfl,by simp[bL,laid],?_⟩;cases yS:fS F q p2 r with
   |none=>
    have aB:=jQ _ rfl yS;simp[bL,laid,hw,sY,Ed,↓Ec,bS,bV,aN,setAt];refine⟨_,_,aH,Sub.mk ?_ ?_,aB⟩
    .simp[lU]
    .simp[gQ,bL,laid]
   |some p3=>
    have aB:=DK p3 yS;simp[bL,laid,hw];refine⟨_,_,aH,Sub.mk ?_ ?_,aB⟩
    .simp[lU]
    .simp[gQ,bL,laid]
  .have he:j=l.length:=by omega
   subst he;rw[List.drop_length]at D9 D8;have Tr:p2=xI.1:=D9;have Tq:K=xI.2:=by rw[<-D8];simp[fG]
   clear hJ D9 D8;have SM:K.length<=l.length:=by omega
   have JK:K.length+(l.length-K.length)=l.length:=by omega
   have jP:aR (jB X) K.length (List.replicate (l.length-K.length) (PV.i 0))=jB (K++List.replicate (l.length-K.length) 0):=by
    unfold aR jB;rw[List.length_replicate,JK,List.drop_eq_nil_of_le (by simp;omega),xC,<-List.map_take,AP,mL,List.map_replicate];rfl
   simp[-aR,WQ,gQ,lU,bL,laid,aN,SM,JK,IP,H8,jP];rw[<-hR,<-Tr,<-Tq];exact⟨rfl,K++List.replicate (l.length-K.length) 0,by simp,by simp[gQ,bL,laid]⟩
section
attribute [local simp] aY AS.cJ AV.cJ AV.aY aJ.cJ AS.tidy AS.j7
def Qu.O9 (q:Qu)(k:Nat):List Nat:=((List.range q.rs.length).take k).flatMap fun i=>List.replicate (q.run i).hours.toNat i
theorem Qu.ZwK {q:Qu}{k:Nat}(hk:k<q.rs.length):q.O9 (k+1)=q.O9 k++List.replicate (q.run k).hours.toNat k:=by
 have:(List.range q.rs.length)[k]?=some k:=by rw[List.getElem?_range hk]
 unfold Qu.O9;rw[OY this,List.flatMap_append];simp
theorem Qu.ZwU {q:Qu}(hq:q.ok):∀k,k<=q.rs.length->(q.O9 k).length<=40*k
 |0,_=>by simp[Qu.O9]
 |k+1,hk=>by
  have h1:=Qu.ZwU hq k (by omega);obtain⟨r,hr⟩:∃r,q.rs[k]?=some r:=⟨q.rs[k],bC (by omega)⟩;have h2:=hq.h r (dL hr);have h3:q.run k=r:=by simp[Qu.run,hr]
  rw[Qu.ZwK (by omega),gF,List.length_replicate,h3];omega
theorem Qu.Zxj {q:Qu}:q.O9 q.rs.length=q.KE:=by
 unfold Qu.O9 Qu.KE;rw[fQ (by simp)]
def Zw (q:Qu):Option (List (List Int))->AV->List (Site×aJ)->Prop
 |none,x,B=>x=.pv (.bN [.eX,.bool false])/\B=[]
 |some p,x,B=>x=.bN [.ptr (.ret 0) 0,.pv (.bool true)]/\B=[(.ret 0,.cells [.pv (.aF false 1 (q.ms.map iA)),.pv (.aF false 3 (q.rs.map Rq.pv)),.vec (.ret 1) 4 0 p.length]),(.ret 1,.arr 146 4 (jV p))]
def CL (q:Qu)(p:List (List Int))(left:List Nat):AS:=⟨[(4,.ptr (.loc 10 0) 0),(5,.vec (.loc 25 0) 1 0 left.length)],[(.loc 25 0,.arr 3 1 (jB left)),(.loc 10 0,.cells [.pv (.aF false 1 (q.ms.map iA)),.pv (.aF false 3 (q.rs.map Rq.pv)),.vec (.loc 43 0) 4 0 p.length]),(.loc 43 0,.arr 146 4 (jV p))]⟩
theorem Aw {F:Nat}(hF:407<F)(q:Qu)(hq:q.ok):cU prog 61 [.pv q.pv] [] (Zw q (q.EV F)):=by
 have hqr:=hq.r;refine cE L61 ?_;obtain⟨xI,jG⟩:∃z,z=q.EV F:=⟨_,rfl⟩;rw[<-jG];generalize hR:Zw q xI=R;simp[L61,Qu.pv];refine eP (fun n τ=>∃k:Nat,k<=q.rs.length/\n=q.rs.length-k/\τ=⟨[(4,.ptr (.loc 10 0) 0),(5,.vec (.loc 25 0) 1 0 (q.O9 k).length),(12,.pv (.aF false 3 (q.rs.map Rq.pv))),(13,.pv (.i q.rs.length)),(14,.pv (.i k))],[(.loc 25 0,.arr 3 1 (jB (q.O9 k))),(.loc 10 0,.cells [.pv (.aF false 1 (q.ms.map iA)),.pv (.aF false 3 (q.rs.map Rq.pv)),.pv (.emp (some true))])]⟩)
  ⟨q.rs.length,⟨[(4,.ptr (.loc 10 0) 0),(5,.vec (.loc 25 0) 1 0 0),(12,.pv (.aF false 3 (q.rs.map Rq.pv))),(13,.pv (.i q.rs.length)),(14,.pv (.i 0))],[(.loc 25 0,.arr 3 1 []),(.loc 10 0,.cells [.pv (.aF false 1 (q.ms.map iA)),.pv (.aF false 3 (q.rs.map Rq.pv)),.pv (.emp (some true))])]⟩,Sub.trans' (Sub.mk (by simp[AS.cW]) (by simp[AS.cW])) (cW 25 3 1 5 rfl (by decide)),0,gW _,rfl,by simp[Qu.O9,jB]⟩ ?_
 rintro J hJ n τ ⟨k,hk,rfl,rfl⟩;have T6:=Qu.ZwU hq k hk;by_cases aI:k<q.rs.length
 .obtain⟨r,hr⟩:∃r,q.rs[k]?=some r:=⟨q.rs[k],bC aI⟩;have dG:q.run k=r:=by simp[Qu.run,hr]
  have hh:=hq.h r (dL hr);have hg:(q.rs.map Rq.pv)[k]?=some (.agg [.i r.hours,.i r.ready,.aF false 1 (r.on.map PV.bool)]):=by rw[bY,hr];rfl
  have hw:=jK (k:=k) (by omega);have aH:q.rs.length-(k+1)<q.rs.length-k:=by omega
  have aB:=hJ _ _ ⟨k+1,aI,rfl,rfl⟩;have iI:=Qu.ZwK aI;rw[dG]at iI;obtain⟨c,hc⟩:∃c:Nat,r.hours=c:=⟨r.hours.toNat,by omega⟩;rw[hc]at iI hg;rw[A1]at iI;have To:=ZpE k c (by omega);have IP:(jB (q.O9 k)).length=(q.O9 k).length:=Zhx;have QP:(q.O9 k).length+c<=1000000:=by omega
  have hnv:jB (q.O9 k++List.replicate c k)=jB (q.O9 k)++List.replicate c (.i k):=by simp[jB]
  clear hJ jG;generalize q.O9 (k+1)=U2 at *;subst iI;generalize q.O9 k=U1 at *;generalize hTV:jB U1=TV at *;simp[aI,↓hg];refine .inl (cP [.loc 21 0] [.aF false 1 [.i k],.i c] rfl ?_ To ?_)
  .simp[aL]
  simp[aL,aN,QP,IP,hw];refine⟨_,_,aH,Sub.mk ?_ ?_,aB⟩
  .simp
  .simp[hnv]
 .have he:k=q.rs.length:=by omega
  subst he;rw[Qu.Zxj]at T6 ⊢;clear hJ;have hu:=oJ (q:=q);have NT:uD F q 41 [] q.KE=xI:=jG.symm;clear jG;generalize q.KE=U at *;simp;refine eP (fun n τ=>∃(p:List (List Int)) (left:List Nat),PW q p/\left.length<=1000/\(∀r∈left,r<q.rs.length)/\n+p.length=41/\uD F q n p left=xI/\τ=CL q p left)
   ⟨41,CL q [] U,Sub.trans' (Sub.mk (by simp[AS.mB]) (by simp[AS.mB,jV])) (mB 43 146 4 (s:=.loc 10 0) (cs:=[.pv (.aF false 1 (q.ms.map iA)),.pv (.aF false 3 (q.rs.map Rq.pv)),.pv (.emp (some true))]) 2 rfl rfl (by decide)),[],U,PW.nil,by omega,hu,rfl,NT,rfl⟩ ?_
  clear NT hu T6;rintro J hJ n τ ⟨p,left,hp,zS,gB,hn,eR,rfl⟩;have mJ:=hp.l;cases left with
  |nil=>
   have Bv:xI=some p:=by rw[<-eR];cases n<;>rfl
   subst Bv;simp[CL];refine⟨[.loc 10 0,.loc 43 0],?_⟩;simp;rw[<-hR];simp[Zw]
  |cons r0 rest=>
   obtain⟨n',rfl⟩:∃n',n=n'+1:=⟨n-1,by omega⟩;have hL:uD F q (n'+1) p (r0::rest)=if p.length=40 then none else uD F q n' (fG F q (p++[fD]) (r0::rest)).1 (fG F q (p++[fD]) (r0::rest)).2:=rfl;rw[hL]at eR;clear hL;by_cases SS:p.length=40
   .rw[if_pos SS]at eR;subst eR;simp[CL,SS];refine⟨[],?_⟩;simp;rw[<-hR];exact⟨rfl,rfl⟩
   .rw[if_neg SS]at eR;have Xh:¬((p.length:Int)=40):=by omega
    have Cb:=hp.more (q:=q) (by omega);have JB:=ZqE hF q hq (p++[fD]) Cb (r0::rest) zS gB;obtain⟨k1,k2,k3,k4⟩:=Na (F:=F) hq (r0::rest) (p++[fD]) Cb gB;have hp6:p.length+1<=1000000:=by omega
    have hpv:jV (p++[fD])=jV p++[.agg [.i (-1),.i (-1),.i (-1),.i (-1)]]:=by simp[jV,rowP,fD]
    have Tx:(jV p).length=p.length:=by simp[jV]
    have aB:=hJ n' _ ⟨(fG F q (p++[fD]) (r0::rest)).1,(fG F q (p++[fD]) (r0::rest)).2,k1,by omega,fun r h=>gB r (k3 r h),by rw[k2];simp;omega,eR,rfl⟩;clear hJ eR k1 k2 k3 k4;generalize fG F q (p++[fD]) (r0::rest)=D at *;obtain⟨p2,K⟩:=D;simp only at aB JB;simp[CL,Xh];refine cQ [] [] Zu3 ?_;simp[aL,aN,hp6,Tx];refine xU (gG:=[.vec (.par 0) 1 0 (r0::rest).length,lU]) (B:=laid 0 (gQ q (p++[fD]) (r0::rest))) (fs:=[]) (cs:=[]) 49 [.loc 25 0,.loc 10 0,.loc 43 0] ?_ rfl rfl ?_ ?_ ?_ JB ?_
    .rfl
    .simp[gQ,bL,laid,hpv]
    .rfl
    .simp[lU]
    rintro x B0 ⟨rfl,X,hX,rfl⟩;refine⟨rfl,by simp[gQ,bL,laid],?_⟩;have hXK:(jB X).take K.length=jB K:=by rw[jB,jB,<-List.map_take,hX]
    simp[gQ,bL,laid];refine⟨_,_,Nat.lt_succ_self n',Sub.trans' (Sub.mk ?_ ?_) (Xq (.loc 25 0) (e:=3) (n:=1) (xs:=jB X) K.length (jB K) rfl hXK),aB⟩
    .simp
    .simp
end
end Go.Proofs.YthmbecacehfgfabGreatDoor.Qn
