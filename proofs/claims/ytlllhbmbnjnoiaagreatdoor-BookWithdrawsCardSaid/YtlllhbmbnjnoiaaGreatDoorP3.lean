/- The registrar's book: what the statement needs, joined and shortened by program. -/
import Derived.Test.YtlllhbmbnjnoiaaGreatDoorP0
import Derived.Test.YtlllhbmbnjnoiaaGreatDoorP2
import Derived.Test.YtlllhbmbnjnoiaaGreatDoorP1
import Derived.Test.YtlllhbmbnjnoiaaGreatDoorProg
set_option linter.unusedSimpArgs false
set_option linter.unusedVariables false
set_option maxHeartbeats 32000000
set_option maxRecDepth 100000
namespace Go.Proofs.YtlllhbmbnjnoiaaGreatDoor
open Go.RowKit
open Tryz
theorem Ei:zE prog (pE P2) L82.code:=Gg L82_ok L82_tab
structure mU (H:Int->Bool)(hs:List (PV×PV)):Prop where
 k:A1 kI hs=true
 f:∀n:Int,(eZ (.i n) hs).getD (.bool false)=.bool (H n)
def numOf:PV->Int
 |.agg (.int _ n::_)=>n
 |_=>0
def gX (s:Site):aK:=.cells [.ptr s 0]
noncomputable def D6 (b:Bk)(bad:List Int)(es hs:List (PV×PV))(is:Bool):List aK:=[.loop (fR prog 82 0) [42] 64 [(3,.ptr (.par 2) 0),(7,.ptr (.par 1) 0)] none,
 .cells [.pv (.bool is)],.cells [.mp (.par 3)],.map hs,gX (.par 5),.cells (aX b (.par 6) (gB bad)),.map es]
attribute [simp] AS.exp jU aK.iT AV.map AV.iO rC dO Site.uI aK.dC AV.dC AV.gW aU cK AS.lU fA gH bY oW jZ mO gJ s4
attribute [simp] aK.bG Site.fQ
noncomputable def M9 (b:Bk)(bad:List Int)(es hs:List (PV×PV))(H:Int->Bool)(hH:mU H hs):Cons prog where
 m:=7
 S:=Bool
 X:=D6 b bad es hs
 step is x:=(is||H (numOf x),true)
 good x:=∃c:Ct,x=c.pv
 live _:=True
 m0:=by omega
 len _:=rfl
 cl c:=by
  intro bx hb;simp only[D6,jO,List.not_mem_nil,or_false]at hb;rcases hb with rfl|rfl|rfl|rfl|rfl|rfl|rfl
  .rfl
  .rfl
  .rfl
  .rfl
  .rfl
  .simp[aX,Site.lt,I9]
  .rfl
 goes _ _ _ _ _:=trivial
 sJ c x hc hx:=by
  obtain⟨y,rfl⟩:=hx;have oP:zE prog (pE P2) (.vH 64 (.t 41) (fR prog 82 0) Y82_0a Y82_0b [42]):=Ei.2.2.1.2.2.2.1.2.2.2.1.2;have hf:=hH.f y.num;have hk:=hH.k;refine YA mixed oP.1 oP.2.1 rfl rfl (by simp) rfl ?_;cases c
  all_goals
   simp[-getElem?_pos,Y82_0a,Y82_0b,D6,laid,qK,Ct.pv,hk,hf,numOf,gX,aX,AM];exact⟨[],[.par 1,.par 2,.par 3,.par 4,.par 5,.par 6],rfl,rfl,by simp[aY,I9],rfl,by simp[aY,V7]⟩
theorem Zk7 {b:Bk}{bad:List Int}{es hs:List (PV×PV)}{H:Int->Bool}{hH:mU H hs}:∀(l:List Ct) (c:Bool),(M9 b bad es hs H hH).run c (lS l)=(c||l.any (fun o=>H o.num),true)
 |[],c=>by
  show(c,true)=_;simp
 |x::l,c=>by
  show(M9 b bad es hs H hH).run (c||H x.num) (lS l)=_;rw[Zk7 l,List.any_cons,Bool.or_assoc]
theorem Fo {b:Bk}(hb:b.ok){bad:List Int}{n:Int}(h:n∈b.held bad):n∈b.nums:=by
 obtain⟨c,hc,e,_⟩:=(KH hb).1 h;exact(w9 hb).2 ⟨c,hc,e⟩
def kK (b:Bk)(bad:List Int)(k:Nat):List (PV×PV):=nR id (fun n=>.bool ((b.held bad).contains n)) (b.nums.take k)
theorem Gj {l:List Int}{n:Int}:(l.find? fun c=>decide (id c=n))=if n∈l then some n else none:=by
 induction l with
 |nil=>rfl
 |cons x l ih=>
  rw[List.find?_cons];by_cases h:x=n
  .subst h;rw[show decide (id x=x)=true from by simp,if_pos (by simp)]
  .rw[show decide (id x=n)=false from by simpa using h,ih];by_cases hm:n∈l
   .rw[if_pos hm,if_pos (by simp[hm])]
   .rw[if_neg hm,if_neg (by simp[hm];omega)]
theorem Gp (b:Bk)(bad:List Int)(k:Nat):mU (fun n=>(b.nums.take k).contains n&&(b.held bad).contains n) (kK b bad k):=by
 refine⟨OH,fun n=>?_⟩;unfold kK;rw[KC,Gj];by_cases h:n∈b.nums.take k
 .rw[if_pos h,jC.2 h,Bool.true_and];rfl
 .rw[if_neg h];cases hc:(b.nums.take k).contains n
  .rfl
  .exact absurd (jC.1 hc) h
theorem TM {b:Bk}(hb:b.ok)(bad:List Int):mU (fun n=>(b.held bad).contains n) (kK b bad b.nums.length):=by
 have h:=Gp b bad b.nums.length;refine⟨h.k,fun n=>?_⟩;rw[h.f n,mX];cases hc:(b.held bad).contains n
 .simp
 .rw[jC.2 (Fo hb (jC.1 hc))];rfl
theorem Zqn {b:Bk}{bad:List Int}{k:Nat}{n:Int}(h:b.nums[k]?=some n):mI (.i n) (.bool ((b.held bad).contains n)) (kK b bad k)=kK b bad (k+1):=by
 unfold kK;rw[Gv (fun x hx=>?_),mR,h]
 .unfold nR;rw[mH];rfl
 .obtain⟨i,hi⟩:=iK.1 hx;rw[mE]at hi;split at hi
  .rename_i qP;obtain⟨h1,e1⟩:=cA.1 hi;obtain⟨h2,e2⟩:=cA.1 h
   have:=Q8.1 (TQ (b:=b)) i k h1 h2 qP
   rw[e1,e2]at this;show x≠n;omega
  .cases hi
theorem Zlz {b:Bk}(hb:b.ok){k:Nat}{n:Int}(h:b.nums[k]?=some n)(H:Int->Bool):((b.qX (b.get n).src (b.get n).day n).any fun o=>(b.nums.take k).contains o.num&&H o.num)=(b.qX (b.get n).src (b.get n).day n).any fun o=>H o.num:=by
 rw[qT,oU,oU];constructor
 .rintro⟨o,ho,h1⟩;rw[dK]at h1;exact⟨o,ho,h1.2⟩
 .rintro⟨o,ho,h1⟩;refine⟨o,ho,?_⟩;rw[h1,Bool.and_true,jC];obtain⟨h2,h3⟩:=(AL hb).1 ho;unfold Bk.pV at h3;simp only[dK,decide_eq_true_eq]at h3;obtain⟨i,hi⟩:=iK.1 ((w9 hb).2 ⟨o,h2,rfl⟩);rw[iK];refine⟨i,?_⟩;obtain⟨q1,e1⟩:=cA.1 hi;obtain⟨q2,e2⟩:=cA.1 h;rw[mE,if_pos,hi];rcases Nat.lt_trichotomy i k with qP|qP|qP
  .exact qP
  .subst qP;rw[e1]at e2;omega
  .have:=Q8.1 (TQ (b:=b)) k i q2 q1 qP
   rw[e1,e2]at this;omega
theorem ZiC {b:Bk}(hb:b.ok){bad:List Int}{k:Nat}{n:Int}(h:b.nums[k]?=some n):(((b.item (b.get n).src).gV||(b.qX (b.get n).src (b.get n).day n).any fun o=>(b.nums.take k).contains o.num&&(b.held bad).contains o.num)&&!bad.contains n)=(b.held bad).contains n:=by
 rw[Zk6 hb (dL h),Zlz hb h]
theorem Dq {a b c d:AV}{Z:List AV}{n:Nat}:(a::b::c::d::Z)[4+n]?=Z[n]?:=by rw[Nat.add_comm];rfl
def VN (b:Bk)(bad:List Int)(es:List (PV×PV))(k:Nat):AS:=⟨[(0,.ptr (.par 0) 0),(3,.ptr (.loc 3 0) 0),(13,.pv (.aE false 1 (b.nums.map aO))),(14,.pv (.i b.nums.length)),(15,.pv (.i k))],
 [(.loc 9 0,.map (kK b bad k)),(.loc 3 0,.cells [.mp (.loc 9 0)]),(.par 0,.cells (aX b (.par 1) (gB bad))),(.par 1,.map es)]⟩
theorem Yp (b:Bk)(hb:b.ok)(bad:List Int)(es:List (PV×PV))(kY:xH b es):cN prog 82 [.ptr (.par 0) 0] (laid 0 (kE b bad es)) (fun r B=>r=.mp (.ret 0)/\B=(.ret 0,.map (kK b bad b.nums.length))::laid 0 (kE b bad es)):=by
 have hlen:=XF (b:=b);refine N9 [.loc 9 0,.par 0,.par 1] L82 ?_;intro R hR;simp[L82,laid,kE,aX,AM];refine eP (fun n τ=>∃k:Nat,k<=b.nums.length/\n=b.nums.length-k/\τ=VN b bad es k) ⟨b.nums.length,VN b bad es 0,Sub.mk (by simp) (by simp[aX,kK,nR]),0,gY _,rfl,rfl⟩ ?_;rintro J hJ n τ ⟨k,hk,rfl,rfl⟩;by_cases aJ:k<b.nums.length
 .obtain⟨x,hx⟩:∃x,b.nums[k]?=some x:=⟨b.nums[k],bC aJ⟩;have K4:=dL hx;have oN:(b.nums.map aO)[k]?=some (.i x):=by rw[bX,hx];rfl
  have hw:=bN (k:=k) (by omega);have aG:b.nums.length-(k+1)<b.nums.length-k:=by omega
  obtain⟨rR,nU⟩:=V4 hb K4;have mG:=kY.f x;rw[if_pos K4]at mG;have T5:=kY.k;have jL:=xC hb rR;have aB:=hJ _ _ ⟨k+1,aJ,rfl,rfl⟩;have nE:=Zqn (bad:=bad) hx;have bU:=ZiC hb (bad:=bad) hx;have QI:=(Gp b bad k).k;have IM:=Zlz hb hx (fun n=>(b.held bad).contains n);have dG:=fun is:Bool=>Zk7 (b:=b) (bad:=bad) (es:=es) (hH:=Gp b bad k) (b.qX (b.get x).src (b.get x).day x) is
  have hit:=fun is:Bool=>Fh (M9 b bad es (kK b bad k) _ (Gp b bad k)) b hb bad es kY 4 5 6 (fun c _=>⟨rfl,rfl⟩) (fun c _=>rfl) (b.get x).src (b.get x).day x is trivial (fun z hz=>⟨z,rfl⟩)
  simp only[dG,IM]at hit;rw[ZiC hb hx]at bU;have HO:=Zk6 hb (bad:=bad) K4;generalize hAN:((b.qX (b.get x).src (b.get x).day x).any fun n=>(b.held bad).contains n.num)=an at *;generalize b.get x=y at *;obtain⟨yn,yi,ys,yd,yv,⟨yl,yh⟩⟩:=y;simp only at nU jL hit HO;subst nU;unfold Ct.pv at mG;obtain⟨si,rfl⟩:∃si:Nat,ys=si:=⟨ys.toNat,by omega⟩;obtain⟨nn,rfl⟩:∃nn:Nat,yn=nn:=⟨yn.toNat,by omega⟩;have M0:si<b.items.length:=by omega
  have M5:nn<1000:=by omega
  obtain⟨z,hz⟩:∃z,b.items[si]?=some z:=⟨b.items[si],bC M0⟩;have qA:(b.items.map It.pv)[si]?=some (.agg [.i z.dR,.bool z.gV,.i z.val.lo,.i z.val.hi]):=by rw[bX,hz];rfl
  have HI:b.item (si:Int)=z:=by unfold Bk.item;rw[H9,hz];rfl
  rw[HI]at HO;have QO:=hit z.gV;clear hit;simp[VN,aX,aJ,↓oN,T5,mG,aT,↓qA,AM,-aU];refine cM [.ptr (.par 0) 0,.pv (.i si),.pv (.i yd),.pv (.i nn)] (laid 0 (kE b bad es)) 41 [.par 0,.par 1] (by simp[laid,kE,aX,aT,V7,I9]) (BH b bad es si yd nn) (by simp[laid,kE,aX,I9]) ?_;simp[laid,kE,aX,V7,OT,-aU];refine XH [.loc 64 0,.loc 7 0,.loc 3 0,.loc 9 0,.loc 41 0,.par 0,.par 1] [(3,.ptr (.loc 3 0) 0),(7,.ptr (.loc 7 0) 0)] (gf:=155) (fs:=[]) (cs:=[.ptr (.loc 41 0) 0,.pv (.ref [.i nn]),.pv (.ref [.i si]),.pv (.ref [.i yd])]) ?_ ?_ rfl rfl ?_ ?_ ?_ QO ?_
  .rfl
  .simp
  .simp[M9,D6,laid,aX,V7,I9,AM,gX]
  .rfl
  .rfl
  rintro r B' ⟨rfl,rfl⟩;refine⟨rfl,?_,?_⟩
  .exact fun p hp=>XA (n:=7) (L:=D6 b bad es (kK b bad k) (z.gV||an)) (by simp[D6]) ((M9 b bad es (kK b bad k) _ (Gp b bad k)).cl (z.gV||an)) p hp
  refine⟨_,_,_,_,_,rfl,?_⟩;have tD:(z.gV||an)=true->(b.held bad).contains (nn:Int)=!bad.contains (nn:Int):=fun h=>by rw[HO,h,Bool.true_and]
  have QV:(z.gV||an)=false->(b.held bad).contains (nn:Int)=false:=fun h=>by rw[HO,h,Bool.false_and]
  generalize Di:(z.gV||an)=is at *;have E7:=ZhS (l:=bad) M5;cases is
  .rw[QV rfl]at nE;simp[M9,D6,laid,kW,aX,AM,V7,gX,-aU,QI,nE,hw];exact⟨_,_,aG,Sub.mk (by simp) (by simp[aX]),aB⟩
  .have hv:=tD rfl;cases FC:bad.contains (nn:Int)
   .rw[FC]at hv E7;simp only[Bool.not_false]at hv;rw[hv]at nE;simp[M9,D6,laid,kW,aX,AM,V7,gX,-aU,cU,M5,Dq,E7,QI,nE,hw];exact⟨_,_,aG,Sub.mk (by simp) (by simp[aX]),aB⟩
   .rw[FC]at hv E7;simp only[Bool.not_false,Bool.not_true]at hv;rw[hv]at nE;simp[M9,D6,laid,kW,aX,AM,ZaR,V7,gX,-aU,Di,cU,aP,M5,Dq,E7,QI,nE,hw];exact⟨_,_,aG,Sub.mk (by simp[VN]) (by simp[VN,aX,AM]),aB⟩
 .have he:k=b.nums.length:=by omega
  subst he;clear hJ;simp[VN,aX,I9,V7,rC];rw[<-hR];exact⟨rfl,by simp[laid,kE,aX]⟩
section
def B9 (l:List Int)(k:Nat):Bool:=match l[k]? with
 |some n=>iZ n 1 999&&(decide (k=0)||decide ((l[k-1]?).getD 0<n))
 |none=>true
def U8 (l:List Int):Bool:=(List.range l.length).all (B9 l)
theorem Zj1 {l:List Int}{k:Nat}(hk:k<l.length)(h:B9 l k=false):U8 l=false:=by
 unfold U8;rw[List.all_eq_false];exact⟨k,List.mem_range.2 hk,by simp[h]⟩
theorem Zrf {l:List Int}(h:∀k,k<l.length->B9 l k=true):U8 l=true:=by
 unfold U8;rw[rA];exact fun k hk=>h k (List.mem_range.1 hk)
def woR (b:Bk)(bad:List Int)(r:AV)(B:List (Site×aK)):Prop:=
 (b.fault≠0/\r=.pv (.bM [.eW,.i b.fault])/\B=[])\/
 (b.fault=0/\U8 bad=false/\r=.pv (.bM [.eW,.i 2])/\B=[])\/
 (b.fault=0/\U8 bad=true/\∃es,xH b es/\r=.bM [.ptr (.ret 0) 0,.pv (.i 0)]/\B=[(.ret 0,.cells (aX b (.ret 1) (gB bad))),(.ret 1,.map es)])
def Iu (b:Bk)(bad:List Int)(es:List (PV×PV))(k:Nat):AS:=⟨[(1,.pv (.aE false 1 (bad.map aO))),(6,.ptr (.loc 12 0) 0),(18,.pv (.aE false 1 (bad.map aO))),(19,.pv (.i bad.length)),(20,.pv (.i k))],
 [(.loc 12 0,.cells (aX b (.loc 12 1) (gB (bad.take k)))),(.loc 12 1,.map es)]⟩
theorem LA {a b c d:AV}{Z:List AV}{n:Nat}:(a::b::c::d::Z).take (4+n)=a::b::c::d::Z.take n:=by rw[Nat.add_comm];rfl
theorem NF {b c d:AV}{Z:List AV}{n:Nat}:(b::c::d::Z).drop (4+n)=Z.drop (n+1):=by rw[Nat.add_comm];rfl
theorem ZmT {Z:List AV}{n:Nat}{v:AV}(h:n<Z.length):Z.take n++v::Z.drop (n+1)=Z.set n v:=by rw[List.set_eq_take_append_cons_drop,if_pos h]
attribute [local simp] AS.exp jU aK.iT AV.map AV.iO dO Site.uI aK.dC AV.dC AV.gW cK AS.lU fA gH bY oW jZ mO gJ s4
theorem Zmk (b:Bk)(hi:b.items.length<=1000)(hc:b.aA.length<=1000)(bad:List Int)(wL:bad.length<=1000):cN prog 81 [.pv b.pv,.pv (.aE false 1 (bad.map aO))] [] (woR b bad):=by
 have hr:=Fj b hi hc;refine cE L81 ?_;generalize hR:woR b bad=R;simp[L81,Bk.pv];refine cL [.pv b.pv] [] 12 [] rfl hr ?_
 rintro r0 B0 (⟨h0,rfl,rfl⟩|⟨h0,es,kY,rfl,rfl⟩)
 .refine⟨rfl,by simp,?_⟩;have hd:decide (b.fault=0)=false:=by simpa using h0
  simp[-decide_eq_true_eq,-decide_eq_false_iff_not,hd];refine⟨[],?_⟩;simp[aU,rC];rw[<-hR];exact .inl ⟨h0,rfl,rfl⟩
 refine⟨rfl,by simp[aX,GD,I9],?_⟩;simp[aX,GD,V7];refine eP (fun n τ=>∃k:Nat,k<=bad.length/\n=bad.length-k/\(∀j,j<k->B9 bad j=true)/\τ=Iu b bad es k) ⟨bad.length,Iu b bad es 0,Sub.mk (by simp) (by simp[aX]),0,gY _,rfl,(fun j hj=>by omega),rfl⟩ ?_;rintro J hJ n τ ⟨k,hk,rfl,hinv,rfl⟩;by_cases aJ:k<bad.length
 .obtain⟨x,hx⟩:∃x,bad[k]?=some x:=⟨bad[k],bC aJ⟩;have oN:(bad.map aO)[k]?=some (.i x):=by rw[bX,hx];rfl
  have hw:=bN (k:=k) (by omega);have aG:bad.length-(k+1)<bad.length-k:=by omega
  have dD:B9 bad k=(iZ x 1 999&&(decide (k=0)||decide ((bad[k-1]?).getD 0<x))):=by unfold B9;rw[hx]
  have herr:B9 bad k=false->∃outs,aU outs [.tm 4,.tm 5] R ⟨[(5,.pv (.i 2)),(4,.pv .eW)],[]⟩:=fun h=>⟨[],by
   simp[aU,rC];rw[<-hR];exact .inr (.inl ⟨h0,Zj1 aJ h,rfl,rfl⟩)⟩
  have D4:=ZkJ x;have jA:decide ((k:Int)<(bad.length:Int))=true:=by simp;omega
  simp[-decide_eq_true_eq,-decide_eq_false_iff_not,Iu,aX,aJ,↓oN];refine cG [.i x] D4 ?_;cases e1:iZ x 1 999
  .rw[e1,Bool.false_and]at dD;simp[-decide_eq_true_eq,-decide_eq_false_iff_not];refine⟨[],?_⟩;simp[aU,rC];rw[<-hR];exact .inr (.inl ⟨h0,Zj1 aJ dD,rfl,rfl⟩)
  rw[e1,Bool.true_and]at dD;have X4:1<=x/\x<=999:=by unfold iZ at e1;simp only[dK,decide_eq_true_eq]at e1;exact e1
  obtain⟨nn,rfl⟩:∃nn:Nat,x=nn:=⟨x.toNat,by omega⟩;have M5:nn<1000:=by omega
  have jK:=Zq3 (l:=bad.take k) M5;have jT:bad.take (k+1)=bad.take k++[(nn:Int)]:=by rw[mR,hx];rfl
  rw[<-jT,<-ZmT (by rw[ZhR];exact M5)]at jK;have hle:4+nn<=1003:=by omega
  have aB:=fun h:B9 bad k=true=>hJ _ _ ⟨k+1,aJ,rfl,(fun j hj=>by
   rcases Nat.lt_succ_iff_lt_or_eq.1 hj with h'|h'
   .exact hinv j h'
   .subst h';exact h),rfl⟩
  by_cases hz:k=0
  .have aB:=aB (by rw[dD,hz];rfl);subst hz;have G6:IntKind.i64.wrap 1=1:=rfl;simp only[List.take_zero,rV]at jK;simp[G6,-decide_eq_true_eq,-decide_eq_false_iff_not,cU,aP,M5,LA,NF,hle,jK,ZhR];exact⟨_,_,aG,Sub.mk (by simp) (by simp[aX]),aB⟩
  .obtain⟨j,CP⟩:∃j,j+1=k:=⟨k-1,by omega⟩;obtain⟨y,hy⟩:∃y,bad[j]?=some y:=⟨bad[j]'(by omega),bC _⟩;have IB:(bad.map aO)[j]?=some (.i y):=by rw[bX,hy];rfl
   have pY:IntKind.i64.wrap ((k:Int)-1)=(j:Int):=by rw[wrap64 (by omega)];omega
   have HS:decide ((0:Int)<(k:Int))=true:=by simp;omega
   have M1:0<k:=by omega
   have xL:j<bad.length:=by omega
   have Bb:B9 bad k=decide (y<(nn:Int)):=by
    rw[dD,show k-1=j by omega,hy,decide_eq_false hz,Bool.false_or];rfl
   cases e2:decide (y<(nn:Int))
   .have e3:decide ((nn:Int)<=y)=true:=by simp at e2 ⊢;omega
    simp[-decide_eq_true_eq,-decide_eq_false_iff_not,M1,pY,↓IB,e3];refine⟨[],?_⟩;simp[aU,rC];rw[<-hR];exact .inr (.inl ⟨h0,Zj1 aJ (by rw[Bb,e2]),rfl,rfl⟩)
   .have e3:decide ((nn:Int)<=y)=false:=by simp at e2 ⊢;omega
    have aB:=aB (by rw[Bb,e2]);simp[-decide_eq_true_eq,-decide_eq_false_iff_not,M1,pY,↓IB,e3,hw,cU,aP,M5,LA,NF,hle,jK,ZhR];exact⟨_,_,aG,Sub.mk (by simp) (by simp[aX]),aB⟩
 .have he:k=bad.length:=by omega
  subst he;clear hJ;simp[Iu,aX];refine⟨[.loc 12 0,.loc 12 1],?_⟩;simp[aU,rC,I9,V7];rw[<-hR];refine .inr (.inr ⟨h0,Zrf hinv,es,kY,rfl,?_⟩);simp[aX]
end
theorem Zu (l:List Int)(h0:l≠[])(hl:l.length<=1000000):cN prog 69 [.pv (.aE false 1 (l.map aO))] [] (fun r B=>r=.vec (.ret 0) 1 0 l.length/\B=[(.ret 0,.arr 3 1 (l.map aO))]):=by
 refine cB [.loc 7 0] L69 ?_;cases l with
 |nil=>exact absurd rfl h0
 |cons a l=>
  have h1:l.length+1<=1000000:=by simpa using hl
  have hm:(l.map aO).take l.length=l.map aO:=fP (by simp);simp[L69,dI,aP,h1,aU,rC,AS.exp,jU,aK.iT,AV.map,dO,Site.uI,aK.dC,AV.dC,s4]
attribute [simp] oG aY AS.cH AV.cH AV.aY aK.cH AS.tidy AS.e9
theorem ZqJ:aD prog 69 [.aE false 1 []] (.aE false 1 []):=by
 refine cN.i7 ?_;refine cF [.loc 7 0] L69 ?_;simp[L69,dI,w8,aP,bZ,B7];exact fun m v h=>AK h
theorem Zqe {X:List Int}{w:Nat}{r:Int}:(X.map aO).set w (.i r)=(X.set w r).map aO:=by rw[List.map_set];rfl
theorem Zf2 {α:Type}{l:List α}{k:Nat}{x:α}{p:α->Bool}(h:l[k]?=some x)(hp:p x=true)(hinv:∀(j:Nat) (y:α),j<k->l[j]?=some y->p y=false):l.findIdx? p=some k:=by
 obtain⟨aJ,e⟩:=cA.1 h;rw[JJ];refine⟨aJ,by rw[e];exact hp,fun j hj=>?_⟩
 have:=hinv j l[j] hj (bC (by omega))
 simp[this]
theorem Zx {α:Type}{l:List α}{p:α->Bool}(hinv:∀(j:Nat) (y:α),j<l.length->l[j]?=some y->p y=false):l.findIdx? p=none:=by
 rw[List.findIdx?_eq_none_iff];intro x hx;obtain⟨j,hj⟩:=iK.1 hx;exact hinv j x (cA.1 hj).1 hj
def G5:Option Nat->Int
 |some i=>i
 |none=>-1
theorem ZiH {α:Type}{l:List α}{p:α->Bool}{i:Nat}(h:l.findIdx? p=some i):i<l.length/\l.take i=(l.take (i+1)).filter (fun n=>!p n):=by
 obtain⟨h1,h2,h3⟩:=JJ.1 h;refine⟨h1,?_⟩;rw[mR,bC h1,I1];have e:(Option.some l[i]).toList.filter (fun n=>!p n)=[]:=by simp[h2]
 rw[e,tG,List.filter_eq_self.2];intro x hx;obtain⟨j,hj⟩:=iK.1 hx;rw[mE]at hj;split at hj
 .rename_i zQ;obtain⟨q1,q2⟩:=cA.1 hj
  have:=h3 j zQ
  rw[q2]at this;simpa using this
 .cases hj
theorem Zf4 {α:Type}{l:List α}{p:α->Bool}(h:l.findIdx? p=none):l.filter (fun n=>!p n)=l:=by
 rw[List.filter_eq_self];intro x hx
 have:=List.findIdx?_eq_none_iff.1 h x hx
 simp[this]
def eT (hs:List (PV×PV))(m:Nat):List aK:=[.cells [.mp (.par (m+1))],.map hs]
theorem LI (H:Int->Bool)(hs:List (PV×PV))(hH:mU H hs)(n:Int)(_:True):cN prog 84 [.pv (.i n),.ptr (.par 0) 0] (laid 0 (eT hs 0)) (fun r B=>r=.pv (.bool (!H n))/\B=laid 0 (eT hs 0)):=by
 have hf:=hH.f n;have hk:=hH.k;refine cB [.par 0,.par 1] L84 ?_;simp[L84,eT,laid,hf,hk]
theorem ixH (H:Int->Bool)(hs:List (PV×PV))(hH:mU H hs)(l:List Int)(hl:l.length<=1000)(fW:∀n∈l,True):
  cN prog 123 [.vec (.par 0) 1 0 l.length,(.fn 84 [] [.ptr (.par 1) 0])] (laid 0 (.arr 3 1 (l.map aO)::eT hs 1)) (fun x B=>x=.pv (.i (G5 (l.findIdx? (fun n=>!H n))))/\B=laid 0 (.arr 3 1 (l.map aO)::eT hs 1)):=by
 refine N9 [.par 0,.par 1,.par 2] L123 ?_;intro R hR;simp[L123,eT,laid];refine eP (fun n τ=>∃k:Nat,k<=l.length/\n=l.length-k/\(∀(j:Nat) (y:Int),j<k->l[j]?=some y->(fun n=>!H n) y=false)/\τ=⟨[(0,.vec (.par 0) 1 0 l.length),(1,(.fn 84 [] [.ptr (.par 1) 0])),(7,.pv (.i l.length)),(8,.pv (.i k))],laid 0 (.arr 3 1 (l.map aO)::eT hs 1)⟩)
  ⟨l.length,⟨[(0,.vec (.par 0) 1 0 l.length),(1,(.fn 84 [] [.ptr (.par 1) 0])),(7,.pv (.i l.length)),(8,.pv (.i 0))],laid 0 (.arr 3 1 (l.map aO)::eT hs 1)⟩,Sub.mk (by simp) (by simp[eT,laid]),0,gY _,rfl,(fun j y hj=>by omega),rfl⟩ ?_
 rintro J hJ n τ ⟨k,hk,rfl,hinv,rfl⟩;by_cases aJ:k<l.length
 .obtain⟨r,hx⟩:∃x,l[k]?=some x:=⟨l[k],bC aJ⟩;have hg:(l.map aO)[k]?=some (.i r):=by rw[bX,hx];rfl
  have hw:=bN (k:=k) (by omega);have aG:l.length-(k+1)<l.length-k:=by omega
  have hC:=LI H hs hH r (fW r (dL hx));have eK:(fun n=>!H n) r=false->J (l.length-(k+1)) _:=fun hn=>hJ _ _ ⟨k+1,aJ,rfl,(fun j y hj hy=>by
   rcases Nat.lt_succ_iff_lt_or_eq.1 hj with h|h
   .exact hinv j y h hy
   .subst h;rw[hx]at hy;cases hy;exact hn),rfl⟩
  clear hJ;simp[eT,laid,aJ,↓hg,cU];refine cM [.pv (.i r),.ptr (.par 0) 0] (laid 0 (eT hs 0)) 16 [.par 1,.par 2] (by simp[eT,laid]) hC (by simp[eT,laid]) ?_;cases yP:(fun n=>!H n) r with
  |false=>
   have aB:=eK yP;have T6:(!H r)=false:=yP;simp[eT,laid,hw,T6];refine⟨_,_,aG,Sub.mk ?_ ?_,aB⟩
   .simp
   .simp[eT,laid]
  |true=>
   have hf:=Zf2 hx yP hinv;have T6:(!H r)=true:=yP;simp[eT,laid,T6];rw[<-hR,hf];simp[eT,laid,G5]
 .have he:k=l.length:=by omega
  subst he;have hf:=Zx hinv;clear hJ;simp[eT,laid];rw[<-hR,hf];simp[eT,laid,G5]
theorem Ws (H:Int->Bool)(hs:List (PV×PV))(hH:mU H hs)(l:List Int)(hl:l.length<=1000)(fW:∀n∈l,True):
  cN prog 83 [.vec (.par 0) 1 0 l.length,(.fn 84 [] [.ptr (.par 1) 0])] (laid 0 (.arr 3 1 (l.map aO)::eT hs 1)) (fun x B=>x=.vec (.par 0) 1 0 (l.filter (fun n=>!(fun n=>!H n) n)).length/\∃X:List Int,X.take (l.filter (fun n=>!(fun n=>!H n) n)).length=l.filter (fun n=>!(fun n=>!H n) n)/\B=laid 0 (.arr 3 1 (X.map aO)::eT hs 1)):=by
 have hC:=ixH H hs hH l hl fW;refine N9 [.par 0,.par 1,.par 2] L83 ?_;intro R hR;simp[L83,eT,laid];refine cM [.vec (.par 0) 1 0 l.length,(.fn 84 [] [.ptr (.par 1) 0])] (laid 0 (.arr 3 1 (l.map aO)::eT hs 1)) 10 [.par 0,.par 1,.par 2] (by simp[eT,laid]) hC (by simp[eT,laid]) ?_;cases hx:l.findIdx? (fun n=>!H n)with
 |none=>
  have pN:=Zf4 hx;simp[eT,laid,G5];rw[<-hR,pN];exact⟨rfl,l,by simp,by simp[eT,laid]⟩
 |some i=>
  obtain⟨hi,PM⟩:=ZiH hx;have pY:=bN (k:=i) (by omega);have M6:¬((i:Int) = -1):=by omega
  clear hC;simp[eT,laid,G5,pY,M6];refine eP (fun n τ=>∃(j:Nat) (X K:List Int),j<=l.length/\n=l.length-j/\X.length=l.length/\K=(l.take j).filter (fun n=>!(fun n=>!H n) n)/\X.take K.length=K/\X.drop j=l.drop j/\K.length<j/\τ=⟨[(0,.vec (.par 0) 1 0 l.length),(1,(.fn 84 [] [.ptr (.par 1) 0])),(5,.pv (.i K.length)),(6,.pv (.i j))],laid 0 (.arr 3 1 (X.map aO)::eT hs 1)⟩)
   ⟨l.length-(i+1),⟨[(0,.vec (.par 0) 1 0 l.length),(1,(.fn 84 [] [.ptr (.par 1) 0])),(5,.pv (.i i)),(6,.pv (.i (i+1:Nat)))],laid 0 (.arr 3 1 (l.map aO)::eT hs 1)⟩,Sub.mk (by simp) (by simp[eT,laid]),i+1,l,l.take i,by omega,rfl,rfl,PM,by simp,rfl,by rw[gN];omega,by rw[gN,Nat.min_eq_left (by omega)]⟩ ?_
  clear hx pY M6 PM;rintro J hJ n τ ⟨j,X,K,hj,rfl,H5,RJ,y9,MV,hKj,rfl⟩;by_cases aJ:j<l.length
  .obtain⟨r,tC⟩:∃x,l[j]?=some x:=⟨l[j],bC aJ⟩;have Dc:X[j]?=some r:=by
    have h1:(X.drop j)[0]?=(l.drop j)[0]?:=by rw[MV]
    rw[mS,mS,Nat.add_zero]at h1;rw[h1];exact tC
   have hg:(X.map aO)[j]?=some (.i r):=by rw[bX,Dc];rfl
   have hw:=bN (k:=j) (by omega);have sN:=bN (k:=K.length) (by omega);have aG:l.length-(j+1)<l.length-j:=by omega
   have hC:=LI H hs hH r (fW r (dL tC));have q8:X.drop (j+1)=l.drop (j+1):=by
    have:=congrArg List.tail MV
    simpa[List.tail_drop]using this
   have MX:K.length<X.length:=by omega
   have HM:(l.take (j+1)).filter (fun n=>!(fun n=>!H n) n)=K++(if(!(fun n=>!H n) r)=true then[r]else[]):=by
    rw[mR,tC,I1,<-RJ];congr 1;simp only[Option.toList,xP,List.filter_nil]
   have jK:∀Y,Y=X.set K.length r->(fun n=>!H n) r=false->J (l.length-(j+1)) ⟨[(0,.vec (.par 0) 1 0 l.length),(1,(.fn 84 [] [.ptr (.par 1) 0])),(5,.pv (.i (K.length+1:Nat))),(6,.pv (.i (j+1:Nat)))],laid 0 (.arr 3 1 (Y.map aO)::eT hs 1)⟩:=fun Y hY hn=>hJ _ _ ⟨j+1,Y,K++[r],aJ,rfl,by rw[hY,List.length_set];exact H5,by rw[HM,if_pos (by simp[hn])],by
    rw[hY,gD];show List.take (K.length+1) _=_;rw[mR,O4 MX,List.take_set_of_le (fH _),y9];rfl,by rw[hY,List.drop_set_of_lt (by omega)];exact q8,by simp;omega,by simp⟩
   have CR:(fun n=>!H n) r=true->J (l.length-(j+1)) ⟨[(0,.vec (.par 0) 1 0 l.length),(1,(.fn 84 [] [.ptr (.par 1) 0])),(5,.pv (.i K.length)),(6,.pv (.i (j+1:Nat)))],laid 0 (.arr 3 1 (X.map aO)::eT hs 1)⟩:=fun hn=>hJ _ _ ⟨j+1,X,K,aJ,rfl,H5,by rw[HM,if_neg (by simp[hn]),tG],y9,q8,by omega,rfl⟩
   clear hJ;have Dh:K.length<l.length:=by omega
   have kH:j<X.length:=by omega
   have Dg:(X.map aO)[K.length]?=some (.i X[K.length]):=by rw[bX,bC MX];rfl
   have bU:=Zqe (X:=X) (w:=K.length) (r:=r);simp[eT,laid,aJ,↓hg,cU];refine cM [.pv (.i r),.ptr (.par 0) 0] (laid 0 (eT hs 0)) 28 [.par 1,.par 2] (by simp[eT,laid]) hC (by simp[eT,laid]) ?_;cases yP:(fun n=>!H n) r with
   |false=>
    have aB:=jK _ rfl yP;have T6:(!H r)=false:=yP;simp[eT,laid,T6,hw,sN,Dh,↓Dg,bU,cU,aP,setAt];refine⟨_,_,aG,Sub.mk ?_ ?_,aB⟩
    .simp
    .simp[eT,laid]
   |true=>
    have aB:=CR yP;have T6:(!H r)=true:=yP;simp[eT,laid,T6,hw];refine⟨_,_,aG,Sub.mk ?_ ?_,aB⟩
    .simp
    .simp[eT,laid]
  .have he:j=l.length:=by omega
   subst he;rw[mX]at RJ;clear hJ;have RM:K.length<=l.length:=by omega
   have IQ:K.length+(l.length-K.length)=l.length:=by omega
   have jJ:aS (X.map aO) K.length (List.replicate (l.length-K.length) (PV.i 0))=(K++List.replicate (l.length-K.length) 0).map aO:=by
    unfold aS;rw[List.length_replicate,IQ,List.drop_eq_nil_of_le (by simp;omega),tG,<-List.map_take,y9,mH,List.map_replicate];rfl
   simp[-aS,eT,laid,aP,RM,IQ,H5,jJ];rw[<-hR,<-RJ];exact⟨rfl,K++List.replicate (l.length-K.length) 0,by simp,by simp[eT,laid]⟩
theorem Dz (hs:List (PV×PV)):cN prog 83 [.pv (.aE false 1 []),(.fn 84 [] [.ptr (.par 0) 0])] (laid 0 (eT hs 0)) (fun x B=>x=.pv (.aE false 1 [])/\B=laid 0 (eT hs 0)):=by
 have hC:cN prog 123 [.pv (.aE false 1 []),(.fn 84 [] [.ptr (.par 0) 0])] (laid 0 (eT hs 0)) (fun x B=>x=.pv (.i (-1))/\B=laid 0 (eT hs 0)):=by
  refine cB [.par 0,.par 1] L123 ?_;simp[L123,eT,laid];refine eP (fun n τ=>n=0/\τ=⟨[(0,.pv (.aE false 1 [])),(1,(.fn 84 [] [.ptr (.par 0) 0])),(7,.pv (.i 0)),(8,.pv (.i 0))],laid 0 (eT hs 0)⟩) ⟨0,⟨[(0,.pv (.aE false 1 [])),(1,(.fn 84 [] [.ptr (.par 0) 0])),(7,.pv (.i 0)),(8,.pv (.i 0))],laid 0 (eT hs 0)⟩,Sub.mk (by simp) (by simp[eT,laid]),rfl,rfl⟩ ?_;rintro J hJ n τ ⟨rfl,rfl⟩;simp[eT,laid]
 refine cB [.par 0,.par 1] L83 ?_;simp[L83,eT,laid];refine cM [.pv (.aE false 1 []),(.fn 84 [] [.ptr (.par 0) 0])] (laid 0 (eT hs 0)) 10 [.par 0,.par 1] (by simp[eT,laid]) hC (by simp[eT,laid]) ?_;simp[eT,laid]
inductive eS|num (d:Int)|wk (a b c d e:PV)
def eS.b:eS->Nat->List aK
 |.num d,_=>[.cells [.pv (.i d)]]
 |.wk a b c d e,m=>[.cells [.ptr (.par (m+1)) 0],.cells [.pv a,.pv b,.pv c,.pv d,.pv e]]
def eS.s:eS->List Site
 |.num _=>[.par 1]
 |.wk ..=>[.par 1,.par 2]
theorem ZtO {X:List Ct}{w:Nat}{r:Ct}:(X.map Ct.pv).set w r.pv=(X.set w r).map Ct.pv:=by rw[List.map_set]
def Io:Ct:=⟨0,0,0,0,0,⟨0,0⟩⟩
theorem ixE {g:FuncId}{q:Ct->Bool}(E:eS)(hp:∀x:Ct,cN prog g [.pv x.pv,.ptr (.par 0) 0] (laid 0 (E.b 0)) (fun r B=>r=.pv (.bool (q x))/\B=laid 0 (E.b 0)))(l:List Ct)(hl:l.length<=1000):
  cN prog 111 [.vec (.par 0) 7 0 l.length,(.fn g [] [.ptr (.par 1) 0])] (laid 0 (.arr 88 7 (l.map Ct.pv)::E.b 1)) (fun x B=>x=.pv (.i (G5 (l.findIdx? q)))/\B=laid 0 (.arr 88 7 (l.map Ct.pv)::E.b 1)):=by
 obtain⟨d,hE⟩|⟨a,b,c,d,e,hE⟩:(∃d,E=.num d)\/∃a b c d e,E=.wk a b c d e:=by cases E<;>simp
 all_goals
  refine Pc (.par 0::E.s) mixed L111_ok (tH rfl) ?_;generalize hR:(fun(x:AV) (B:List (Site×aK))=>x=.pv (.i (G5 (l.findIdx? q)))/\B=laid 0 (.arr 88 7 (l.map Ct.pv)::E.b 1))=R;simp[L111,hE,eS.b,eS.s,laid];refine eP (fun n τ=>∃k:Nat,k<=l.length/\n=l.length-k/\(∀(j:Nat) (y:Ct),j<k->l[j]?=some y->q y=false)/\τ=⟨[(0,.vec (.par 0) 7 0 l.length),(1,(.fn g [] [.ptr (.par 1) 0])),(7,.pv (.i l.length)),(8,.pv (.i k))],laid 0 (.arr 88 7 (l.map Ct.pv)::E.b 1)⟩)
   ⟨l.length,⟨[(0,.vec (.par 0) 7 0 l.length),(1,(.fn g [] [.ptr (.par 1) 0])),(7,.pv (.i l.length)),(8,.pv (.i 0))],laid 0 (.arr 88 7 (l.map Ct.pv)::E.b 1)⟩,Sub.mk (by simp) (by simp[hE,eS.b,eS.s,laid]),0,gY _,rfl,(fun j y hj=>by omega),rfl⟩ ?_
  rintro J hJ n τ ⟨k,hk,rfl,hinv,rfl⟩;by_cases aJ:k<l.length
  .obtain⟨r,hx⟩:∃x,l[k]?=some x:=⟨l[k],bC aJ⟩;have hg:(l.map Ct.pv)[k]?=some r.pv:=by rw[bX,hx];rfl
   simp only[Ct.pv]at hg;have hw:=bN (k:=k) (by omega);have aG:l.length-(k+1)<l.length-k:=by omega
   have hC:=hp r;have eK:q r=false->J (l.length-(k+1)) _:=fun hn=>hJ _ _ ⟨k+1,aJ,rfl,(fun j y hj hy=>by
    rcases Nat.lt_succ_iff_lt_or_eq.1 hj with h|h
    .exact hinv j y h hy
    .subst h;rw[hx]at hy;cases hy;exact hn),rfl⟩
   clear hJ;simp[hE,eS.b,eS.s,laid,aJ,↓hg,cU,aP];refine xQ (gF:=[.pv r.pv,.ptr (.par 0) 0]) (B:=laid 0 (E.b 0)) (fs:=[]) (cs:=[.ptr (.par 1) 0]) 16 E.s ?_ (by simp only[hE];rfl) (by simp only[hE];rfl) ?_ ?_ ?_ hC ?_
   ·(try simp only[hE]);rfl
   .simp[hE,eS.b,eS.s,laid]
   ·(try simp only[hE]);rfl
   ·(try simp only[hE]);rfl
   rintro r0 B0 ⟨rfl,rfl⟩;refine⟨rfl,by simp[hE,eS.b,eS.s,laid],?_⟩;cases yP:q r with
   |false=>
    have aB:=eK yP;simp[hE,eS.b,eS.s,laid,hw];refine⟨_,_,aG,Sub.mk ?_ ?_,aB⟩
    .simp
    .simp[hE,eS.b,eS.s,laid]
   |true=>
    have hf:=Zf2 hx yP hinv;simp[hE,eS.b,eS.s,laid];rw[<-hR,hf];simp[hE,eS.b,eS.s,laid,G5]
  .have he:k=l.length:=by omega
   subst he;have hf:=Zx hinv;clear hJ;simp[hE,eS.b,eS.s,laid];rw[<-hR,hf];simp[hE,eS.b,eS.s,laid,G5]
theorem Dy {g:FuncId}{q:Ct->Bool}(E:eS)(hp:∀x:Ct,cN prog g [.pv x.pv,.ptr (.par 0) 0] (laid 0 (E.b 0)) (fun r B=>r=.pv (.bool (q x))/\B=laid 0 (E.b 0)))(l:List Ct)(hl:l.length<=1000):
  cN prog 85 [.vec (.par 0) 7 0 l.length,(.fn g [] [.ptr (.par 1) 0])] (laid 0 (.arr 88 7 (l.map Ct.pv)::E.b 1)) (fun x B=>x=.vec (.par 0) 7 0 (l.filter (fun n=>!q n)).length/\∃X:List Ct,X.take (l.filter (fun n=>!q n)).length=l.filter (fun n=>!q n)/\B=laid 0 (.arr 88 7 (X.map Ct.pv)::E.b 1)):=by
 obtain⟨d,hE⟩|⟨a,b,c,d,e,hE⟩:(∃d,E=.num d)\/∃a b c d e,E=.wk a b c d e:=by cases E<;>simp
 all_goals
  have hC:=ixE E hp l hl;refine Pc (.par 0::E.s) mixed L85_ok (tH rfl) ?_;generalize hR:(fun(x:AV) (B:List (Site×aK))=>x=.vec (.par 0) 7 0 (l.filter (fun n=>!q n)).length/\∃X:List Ct,X.take (l.filter (fun n=>!q n)).length=l.filter (fun n=>!q n)/\B=laid 0 (.arr 88 7 (X.map Ct.pv)::E.b 1))=R;simp[L85,hE,eS.b,eS.s,laid];refine xQ (gF:=[.vec (.par 0) 7 0 l.length,(.fn g [] [.ptr (.par 1) 0])]) (B:=laid 0 (.arr 88 7 (l.map Ct.pv)::E.b 1)) (fs:=[]) (cs:=[]) 10 (.par 0::E.s) ?_ (by simp only[hE];rfl) (by simp only[hE];rfl) ?_ ?_ ?_ hC ?_
  ·(try simp only[hE]);rfl
  .simp[hE,eS.b,eS.s,laid]
  ·(try simp only[hE]);rfl
  ·(try simp only[hE]);rfl
  rintro r0 B0 ⟨rfl,rfl⟩;refine⟨rfl,by simp[hE,eS.b,eS.s,laid],?_⟩;cases hx:l.findIdx? q with
  |none=>
   have pN:=Zf4 hx;simp[hE,eS.b,eS.s,laid,G5];rw[<-hR,pN];exact⟨rfl,l,by simp,by simp[hE,eS.b,eS.s,laid]⟩
  |some i=>
   obtain⟨hi,PM⟩:=ZiH hx;have pY:=bN (k:=i) (by omega);have M6:¬((i:Int) = -1):=by omega
   clear hC;simp[hE,eS.b,eS.s,laid,G5,pY,M6];refine eP (fun n τ=>∃(j:Nat) (X K:List Ct),j<=l.length/\n=l.length-j/\X.length=l.length/\K=(l.take j).filter (fun n=>!q n)/\X.take K.length=K/\X.drop j=l.drop j/\K.length<j/\τ=⟨[(0,.vec (.par 0) 7 0 l.length),(1,(.fn g [] [.ptr (.par 1) 0])),(5,.pv (.i K.length)),(6,.pv (.i j))],laid 0 (.arr 88 7 (X.map Ct.pv)::E.b 1)⟩)
    ⟨l.length-(i+1),⟨[(0,.vec (.par 0) 7 0 l.length),(1,(.fn g [] [.ptr (.par 1) 0])),(5,.pv (.i i)),(6,.pv (.i (i+1:Nat)))],laid 0 (.arr 88 7 (l.map Ct.pv)::E.b 1)⟩,Sub.mk (by simp) (by simp[hE,eS.b,eS.s,laid]),i+1,l,l.take i,by omega,rfl,rfl,PM,by simp,rfl,by rw[gN];omega,by rw[gN,Nat.min_eq_left (by omega)]⟩ ?_
   clear hx pY M6 PM;rintro J hJ n τ ⟨j,X,K,hj,rfl,H5,RJ,y9,MV,hKj,rfl⟩;by_cases aJ:j<l.length
   .obtain⟨r,tC⟩:∃x,l[j]?=some x:=⟨l[j],bC aJ⟩;have Dc:X[j]?=some r:=by
     have h1:(X.drop j)[0]?=(l.drop j)[0]?:=by rw[MV]
     rw[mS,mS,Nat.add_zero]at h1;rw[h1];exact tC
    have hg:(X.map Ct.pv)[j]?=some r.pv:=by rw[bX,Dc];rfl
    simp only[Ct.pv]at hg;have hw:=bN (k:=j) (by omega);have sN:=bN (k:=K.length) (by omega);have aG:l.length-(j+1)<l.length-j:=by omega
    have hC:=hp r;have q8:X.drop (j+1)=l.drop (j+1):=by
     have:=congrArg List.tail MV
     simpa[List.tail_drop]using this
    have MX:K.length<X.length:=by omega
    have HM:(l.take (j+1)).filter (fun n=>!q n)=K++(if(!q r)=true then[r]else[]):=by
     rw[mR,tC,I1,<-RJ];congr 1;simp only[Option.toList,xP,List.filter_nil]
    have jK:∀Y,Y=X.set K.length r->q r=false->J (l.length-(j+1)) ⟨[(0,.vec (.par 0) 7 0 l.length),(1,(.fn g [] [.ptr (.par 1) 0])),(5,.pv (.i (K.length+1:Nat))),(6,.pv (.i (j+1:Nat)))],laid 0 (.arr 88 7 (Y.map Ct.pv)::E.b 1)⟩:=fun Y hY hn=>hJ _ _ ⟨j+1,Y,K++[r],aJ,rfl,by rw[hY,List.length_set];exact H5,by rw[HM,if_pos (by simp[hn])],by
     rw[hY,gD];show List.take (K.length+1) _=_;rw[mR,O4 MX,List.take_set_of_le (fH _),y9];rfl,by rw[hY,List.drop_set_of_lt (by omega)];exact q8,by simp;omega,by simp⟩
    have CR:q r=true->J (l.length-(j+1)) ⟨[(0,.vec (.par 0) 7 0 l.length),(1,(.fn g [] [.ptr (.par 1) 0])),(5,.pv (.i K.length)),(6,.pv (.i (j+1:Nat)))],laid 0 (.arr 88 7 (X.map Ct.pv)::E.b 1)⟩:=fun hn=>hJ _ _ ⟨j+1,X,K,aJ,rfl,H5,by rw[HM,if_neg (by simp[hn]),tG],y9,q8,by omega,rfl⟩
    clear hJ;have Dh:K.length<l.length:=by omega
    have kH:j<X.length:=by omega
    have Dg:(X.map Ct.pv)[K.length]?=some X[K.length].pv:=by rw[bX,bC MX];rfl
    have bU:=ZtO (X:=X) (w:=K.length) (r:=r);simp[hE,eS.b,eS.s,laid,aJ,↓hg,cU,aP];refine xQ (gF:=[.pv r.pv,.ptr (.par 0) 0]) (B:=laid 0 (E.b 0)) (fs:=[]) (cs:=[.ptr (.par 1) 0]) 28 E.s ?_ (by simp only[hE];rfl) (by simp only[hE];rfl) ?_ ?_ ?_ hC ?_
    ·(try simp only[hE]);rfl
    .simp[hE,eS.b,eS.s,laid]
    ·(try simp only[hE]);rfl
    ·(try simp only[hE]);rfl
    rintro r0 B0 ⟨rfl,rfl⟩;refine⟨rfl,by simp[hE,eS.b,eS.s,laid],?_⟩;cases yP:q r with
    |false=>
     have aB:=jK _ rfl yP;simp[hE,eS.b,eS.s,laid,Dh,↓Dg,cU,aP,setAt];refine⟨_,_,aG,Sub.mk ?_ ?_,aB⟩
     .simp[hw,sN]
     .simp[hE,eS.b,eS.s,laid,Ct.pv]
    |true=>
     have aB:=CR yP;simp[hE,eS.b,eS.s,laid,hw];refine⟨_,_,aG,Sub.mk ?_ ?_,aB⟩
     .simp
     .simp[hE,eS.b,eS.s,laid]
   .have he:j=l.length:=by omega
    subst he;rw[mX]at RJ;clear hJ;have RM:K.length<=l.length:=by omega
    have IQ:K.length+(l.length-K.length)=l.length:=by omega
    have jJ:aS (X.map Ct.pv) K.length (List.replicate (l.length-K.length) Io.pv)=(K++List.replicate (l.length-K.length) Io).map Ct.pv:=by
     unfold aS;rw[List.length_replicate,IQ,List.drop_eq_nil_of_le (by simp;omega),tG,<-List.map_take,y9,mH,List.map_replicate]
    simp[-aS,hE,eS.b,eS.s,laid,aP,RM,IQ,H5];rw[<-hR,<-RJ];exact⟨rfl,K++List.replicate (l.length-K.length) Io,by simp,by
     simp[hE,eS.b,eS.s,laid];rw[<-List.map_take,y9,IQ,List.drop_eq_nil_of_le (by simp;omega)];simp[Io,Ct.pv]⟩
theorem Zqi (l:List Int)(n:Int)(hl:l.length<=1000000):aD prog 124 [.aE false 1 (l.map iP),.i n] (.i (match l.findIdx? (fun y=>decide (n=y))with|some i=>i|none=>-1)):=by
 refine cS L124 ?_;simp[L124];refine eP (fun m τ=>∃k:Nat,k<=l.length/\m=l.length-k/\(∀(j:Nat) (x:Int),j<k->l[j]?=some x->(fun y=>decide (n=y)) x=false)/\τ=⟨[(0,.pv (.aE false 1 (l.map iP))),(1,.pv (.i n)),(7,.pv (.i l.length)),(8,.pv (.i k))],[]⟩)
  ⟨l.length,_,Sub.mk (by simp) (by simp),0,by omega,rfl,(fun j x hj=>by omega),rfl⟩ ?_
 rintro J hJ m τ ⟨k,hk,rfl,hinv,rfl⟩;by_cases aJ:k<l.length
 .obtain⟨z,hz⟩:∃x,l[k]?=some x:=⟨l[k],bC aJ⟩;have hg:(l.map iP)[k]?=some (.i z):=by rw[bX,hz];rfl
  have hw:IntKind.i64.wrap ((k:Int)+1)=((k+1:Nat):Int):=by rw[wrap64 (by omega)];omega
  by_cases hb:n=z
  .have hf:l.findIdx? (fun y=>decide (n=y))=some k:=Zf2 hz (by simpa using hb) hinv;simp[aJ,↓hg,hb];rw[hb]at hf;rw[hf]
  .simp[aJ,↓hg,hb,hw];exact⟨_,_,(by omega:l.length-(k+1)<l.length-k),Sub.mk (by simp) (by simp),hJ _ _ ⟨k+1,by omega,rfl,fun j x hj CN=>by
    rcases Nat.lt_succ_iff_lt_or_eq.1 hj with h|h
    .exact hinv j x h CN
    .subst h;rw[hz]at CN;cases CN;simpa using hb,rfl⟩⟩
 .have he:k=l.length:=by omega
  subst he;have hf:l.findIdx? (fun y=>decide (n=y))=none:=Zx hinv;simp[hf]
theorem ZtP (l:List Int)(n:Int)(hl:l.length<=1000000):aD prog 87 [.aE false 1 (l.map iP),.i n] (.bool (l.contains n)):=by
 refine cS L87 ?_;simp[L87];refine cG [.aE false 1 (l.map iP),.i n] (Zqi l n hl) ?_;cases h:l.findIdx? (fun y=>decide (n=y))with
 |none=>
  rw[List.findIdx?_eq_none_iff]at h;have hn:n∉l:=fun hm=>by have:=h n hm;simp at this
  simp[hn]
 |some i=>
  obtain⟨h1,h2,_⟩:=JJ.1 h;have hm:n∈l:=by
   have:n=l[i]:=by simpa using h2
   rw[this];exact zZ h1
  have h0:(0:Int)<=(i:Int):=by omega
  simp[hm,h0]
def wW (bad:List Int)(x:Ct):Bool:=bad.contains x.num
theorem ZE (a c d e:PV)(bad:List Int)(hb:bad.length<=1000)(x:Ct):cN prog 86 [.pv x.pv,.ptr (.par 0) 0] (laid 0 ((eS.wk a (.aE false 1 (bad.map iP)) c d e).b 0)) (fun r B=>r=.pv (.bool (wW bad x))/\B=laid 0 ((eS.wk a (.aE false 1 (bad.map iP)) c d e).b 0)):=by
 have hc:=ZtP bad x.num (by omega);refine cB [.par 0,.par 1] L86 ?_;simp[L86,eS.b,laid,aQ,Ct.pv];refine cG [.aE false 1 (bad.map iP),.i x.num] hc ?_;simp[wW]
theorem Ea (a b c d e:PV):cN prog 85 [.pv (.aE false 7 []),(.fn 86 [] [.ptr (.par 0) 0])] (laid 0 ((eS.wk a b c d e).b 0)) (fun x B=>x=.pv (.aE false 7 [])/\B=laid 0 ((eS.wk a b c d e).b 0)):=by
 have hC:cN prog 111 [.pv (.aE false 7 []),(.fn 86 [] [.ptr (.par 0) 0])] (laid 0 ((eS.wk a b c d e).b 0)) (fun x B=>x=.pv (.i (-1))/\B=laid 0 ((eS.wk a b c d e).b 0)):=by
  refine cB [.par 0,.par 1] L111 ?_;simp[L111,eS.b,laid,aQ];refine eP (fun n τ=>n=0/\τ=⟨[(0,.pv (.aE false 7 [])),(1,(.fn 86 [] [.ptr (.par 0) 0])),(7,.pv (.i 0)),(8,.pv (.i 0))],laid 0 ((eS.wk a b c d e).b 0)⟩) ⟨0,⟨[(0,.pv (.aE false 7 [])),(1,(.fn 86 [] [.ptr (.par 0) 0])),(7,.pv (.i 0)),(8,.pv (.i 0))],laid 0 ((eS.wk a b c d e).b 0)⟩,Sub.mk (by simp) (by simp[eS.b,laid,aQ]),rfl,rfl⟩ ?_;rintro J hJ n τ ⟨rfl,rfl⟩;simp[eS.b,laid,aQ]
 refine cB [.par 0,.par 1] L85 ?_;simp[L85,eS.b,laid,aQ];refine cM [.pv (.aE false 7 []),(.fn 86 [] [.ptr (.par 0) 0])] (laid 0 ((eS.wk a b c d e).b 0)) 10 [.par 0,.par 1] (by simp[eS.b,laid,aQ]) hC (by simp[eS.b,laid,aQ]) ?_;simp[eS.b,laid,aQ]
def YJ:Nat->PV->PV->Bool
 |0,_,_=>false
 |n+1,x,y=>match x,y with
  |.emp _,.aE nn _ l=>!nn&&l.isEmpty
  |.agg a,.agg b=>decide (a.length=b.length)&&(a.zip b).all fun p=>YJ n p.1 p.2
  |.bM a,.bM b=>decide (a.length=b.length)&&(a.zip b).all fun p=>YJ n p.1 p.2
  |.aE nn k a,.aE nn' k' b=>decide (nn=nn')&&decide (k=k')&&decide (a.length=b.length)&&(b.all fun c=>decide (c.cells.length=k))&&(a.zip b).all fun p=>(p.1.cells.zip p.2.cells).all fun p=>YJ n p.1 p.2
  |x,y=>PV.beq x y
theorem Mp {α:Type}{a b:List α}{j:Nat}{x y:α}(h1:a[j]?=some x)(h2:b[j]?=some y):(x,y)∈a.zip b:=by
 refine iK.2 ⟨j,?_⟩;rw[List.getElem?_zip_eq_some];exact⟨h1,h2⟩
theorem KM:∀(n:Nat) (x y:PV),YJ n x y=true->∀(m:Mem) (v:Value),dH m v x->dH m v y
 |0,_,_,h=>by cases h
 |n+1,x,y,h=>by
  intro m v hr;unfold YJ at h;split at h
  .rename_i nl nn k l;simp only[dK,Bool.not_eq_true']at h;obtain⟨h1,h2⟩:=h;cases l with
   |nil=>subst h1;exact AK hr
   |cons a l=>cases h2
  .rename_i a b;simp only[dK,decide_eq_true_eq,rA]at h;exact ZrW h.1 (fun j c c' d h1 h2 hd=>KM n c c' (h.2 _ (Mp h1 h2)) m d hd) hr
  .rename_i a b;simp only[dK,decide_eq_true_eq,rA]at h;exact Yx h.1 (fun j c c' d h1 h2 hd=>KM n c c' (h.2 _ (Mp h1 h2)) m d hd) hr
  .rename_i nn k a nn' k' b;simp only[dK,decide_eq_true_eq,rA]at h;obtain⟨⟨⟨⟨rfl,rfl⟩,h1⟩,h2⟩,h3⟩:=h;exact ZuL h1 (fun j c hc=>h2 c (dL hc)) (fun j c c' i d x x' k1 k2 k3 k4 hd=>KM n x x' (h3 _ (Mp k1 k2) _ (Mp k3 k4)) m d hd) hr
  .rename_i x y _ _ _ _;rw[<-PV.beq_eq _ _ h];exact hr
attribute [simp] oG aY AS.cH AV.cH AV.aY aK.cH AS.tidy AS.e9 aM oF nO iQ
def qV:List It:=[⟨0,true,⟨0,0⟩⟩,⟨0,true,⟨-2,2⟩⟩,⟨1,false,⟨0,0⟩⟩,⟨1,false,⟨0,0⟩⟩,⟨0,false,⟨0,0⟩⟩,⟨0,false,⟨0,0⟩⟩]
def WR:PV:=.aE false 1 [.aE false 2 [.agg [.i 10,.i 13]],.aE false 2 []]
theorem Ze:aD prog 88 [] (aT qV):=by
 refine cF [.loc 8 0] L88 ?_;simp[L88,aT,qV,It.pv]
theorem Zez:aD prog 93 [] WR:=by
 refine cN.i7 ?_;refine cF [.loc 3 0] L93 ?_;simp[L93];exact KM 5 _ _ rfl
theorem Zr5 (l:List Ct)(b c d e:PV):cN prog 231 [.ptr (.par 0) 0] [(.par 0,aQ (aL l) b c d e)] (fun r B=>r=.pv (Bk.pv ⟨qV,l⟩)/\B=[(.par 0,aQ (aL l) b c d e)]):=by
 refine cB [.par 0] L231 ?_;simp[L231,aQ,aL];refine cQ [] [] Ze ?_;simp[Bk.pv,aL,aT]
theorem Znk (l:List PV)(a b c d:PV):cN prog 46 [.ptr (.par 0) 0] [(.par 0,aQ a b c d (.aE false 3 l))] (fun r B=>r=.pv (.agg [WR,.aE false 3 l])/\B=[(.par 0,aQ a b c d (.aE false 3 l))]):=by
 refine cB [.par 0] L46 ?_;simp[L46,aQ];refine cQ [] [] Zez ?_;simp[WR]
section
attribute [local simp] ZaR I9 AM V7
end
section
theorem Zjy {b:Bk}(hb:b.ok){bad:List Int}:b.nums.filter (fun n=>(b.held bad).contains n)=b.held bad:=by
 refine Zd (TQ.filter _) (ZcR 1000).1 (fun x=>?_);rw[iV,jC];exact⟨fun h=>h.2,fun h=>⟨Fo hb h,h⟩⟩
attribute [local irreducible] Bk.held Bk.nums
def Bk.NR (b:Bk)(bad:List Int):List Int×Int:=if b.fault=0 then(if U8 bad=true then(b.held bad,0)else([],2))else([],b.fault)
def K1 (x:List Int×Int):PV:=.bM [.aE false 1 (x.1.map aO),.i x.2]
theorem XB {e:Int}{l:List Int×Int}(h:l=([],e)):∀m v,dH m v (.bM [.emp (some true),.i e])->dH m v (K1 l):=by
 subst h;intro m v hv;refine Yx (cs:=[.emp (some true),.i e]) (iI:=[.aE false 1 [],.i e]) rfl ?_ hv;intro j c c' d h1 h2 hr
 match j with
 |0=>simp at h1 h2;subst h1 h2;exact AK hr
 |1=>simp at h1 h2;subst h1 h2;exact hr
 |j+2=>simp at h1
attribute [simp] ZaR I9 AM V7 ZaS
theorem Zvi (b:Bk)(hi:b.items.length<=1000)(hc:b.aA.length<=1000)(bad:List Int)(wL:bad.length<=1000):cN prog 42 [.pv b.pv,.pv (.aE false 1 (bad.map aO))] [] (fun r B=>r=.pv (K1 (b.NR bad))/\B=[]):=by
 have hr:=Zmk b hi hc bad wL;refine cN.i7 ?_;refine Q4 [.loc 24 0] L42 ?_;intro R hR;simp[L42,Bk.pv];refine cL [.pv b.pv,.pv (.aE false 1 (bad.map aO))] [] 12 [] rfl hr ?_
 rintro r0 B0 (⟨h0,rfl,rfl⟩|⟨h0,h1,rfl,rfl⟩|⟨h0,h1,es,kY,rfl,rfl⟩)
 .refine⟨rfl,by simp,?_⟩;have hd:decide (b.fault=0)=false:=by simpa using h0
  simp[-decide_eq_true_eq,-decide_eq_false_iff_not,hd];rw[<-hR];exact⟨_,rfl,rfl,XB (by unfold Bk.NR;rw[if_neg h0])⟩
 .refine⟨rfl,by simp,?_⟩;simp;rw[<-hR];exact⟨_,rfl,rfl,XB (by unfold Bk.NR;rw[if_pos h0,if_neg (by simp[h1])])⟩
 have hb:b.ok:=Bk.V3.1 h0;have hM:b.NR bad=(b.held bad,0):=by unfold Bk.NR;rw[if_pos h0,if_pos h1]
 refine⟨rfl,by simp[aX],?_⟩;simp[aX];refine cM [.ptr (.par 0) 0] (laid 0 (kE b bad es)) 19 [.loc 12 0,.loc 12 1] (by simp[laid,kE,aX]) (Yp b hb bad es kY) (by simp[laid,kE,aX]) ?_;have hH:=TM hb bad;have hf:=Zjy hb (bad:=bad);generalize kK b bad b.nums.length=hs at *;simp[laid,kE,aX];by_cases hn:b.nums=[]
 .have Uo:b.held bad=[]:=by rw[<-hf,hn];rfl
  rw[hn];simp only[List.map_nil];refine .inl (cQ [] [.aE false 1 []] ZqJ ?_);simp[aM];refine cM [.pv (.aE false 1 []),.fn 84 [] [.ptr (.par 0) 0]] (laid 0 (eT hs 0)) 26 [.loc 8 0,.loc 19 0] (by simp[laid,eT]) (Dz hs) (by simp[laid,eT]) ?_;simp[laid,eT];rw[<-hR,hM,Uo];exact⟨_,rfl,rfl,fun m v h=>h⟩
 .have hl:=XF (b:=b);refine cM [.pv (.aE false 1 (b.nums.map aO))] [] 24 [] rfl (Zu b.nums hn (by omega)) (by simp) ?_;simp;refine cL [.vec (.par 0) 1 0 b.nums.length,.fn 84 [] [.ptr (.par 1) 0]] (laid 0 (.arr 3 1 (b.nums.map aO)::eT hs 1)) 26 [.loc 24 0,.loc 8 0,.loc 19 0] (by simp[laid,eT]) (Ws _ hs hH b.nums hl (fun _ _=>trivial)) ?_
  rintro r0 B0 ⟨rfl,X,hX,rfl⟩;have CU:(b.nums.filter fun n=>!(fun n=>!(b.held bad).contains n) n)=b.held bad:=by
   refine Eq.trans (List.filter_congr fun n _=>?_) hf;exact Bool.not_not _
  rw[CU]at hX;simp only[CU];refine⟨rfl,by simp[laid,eT],?_⟩;have VP:(X.map aO).take (b.held bad).length=(b.held bad).map aO:=by rw[<-List.map_take,hX]
  have H5:(b.held bad).length<=X.length:=by
   have:=congrArg List.length hX
   rw[gN]at this;omega
  simp[laid,eT,VP,H5];rw[<-hR,hM];exact⟨_,rfl,rfl,fun m v h=>h⟩
end
section
attribute [local irreducible] Bk.held Bk.nums
theorem Ga {b:Bk}(hb:b.ok):∀n∈b.nums,1<=n/\n<=999:=fun n hn=>by
 obtain⟨c,hc,rfl⟩:=(w9 hb).1 hn
 have:=xC hb hc
 omega
end
section
attribute [local irreducible] Bk.held Bk.nums
theorem Eh:zE prog (pE P2) L112.code:=Gg L112_ok L112_tab
noncomputable def O0 (b:Bk)(bad:List Int)(es hs:List (PV×PV))(is:Bool):List aK:=[.loop (fR prog 112 0) [49] 61 [(11,.ptr (.par 2) 0),(12,.ptr (.par 1) 0)] none,
 .cells [.pv (.bool is)],.cells [.mp (.par 3)],.map hs,gX (.par 5),.cells (aX b (.par 6) (gB bad)),.map es]
noncomputable def U7 (b:Bk)(bad:List Int)(es hs:List (PV×PV))(H:Int->Bool)(hH:mU H hs):Cons prog where
 m:=7
 S:=Bool
 X:=O0 b bad es hs
 step is x:=(is||H (numOf x),true)
 good x:=∃c:Ct,x=c.pv
 live _:=True
 m0:=by omega
 len _:=rfl
 cl c:=by
  intro bx hb;simp only[O0,jO,List.not_mem_nil,or_false]at hb;rcases hb with rfl|rfl|rfl|rfl|rfl|rfl|rfl
  .rfl
  .rfl
  .rfl
  .rfl
  .rfl
  .simp[aX,Site.lt,I9]
  .rfl
 goes _ _ _ _ _:=trivial
 sJ c x hc hx:=by
  obtain⟨y,rfl⟩:=hx;have oP:zE prog (pE P2) (.vH 61 (.t 48) (fR prog 112 0) Y112_0a Y112_0b [49]):=Eh.2.2.2.2.2.2.1.2;have hf:=hH.f y.num;have hk:=hH.k;refine YA mixed oP.1 oP.2.1 rfl rfl (by simp) rfl ?_;cases c
  all_goals
   simp[-getElem?_pos,Y112_0a,Y112_0b,O0,laid,qK,Ct.pv,hk,hf,numOf,gX,aX,AM];exact⟨[],[.par 1,.par 2,.par 3,.par 4,.par 5,.par 6],rfl,rfl,by simp[aY,I9],rfl,by simp[aY,V7]⟩
theorem Zlw {b:Bk}{bad:List Int}{es hs:List (PV×PV)}{H:Int->Bool}{hH:mU H hs}:∀(l:List Ct) (c:Bool),(U7 b bad es hs H hH).run c (lS l)=(c||l.any (fun o=>H o.num),true)
 |[],c=>by
  show(c,true)=_;simp
 |x::l,c=>by
  show(U7 b bad es hs H hH).run (c||H x.num) (lS l)=_;rw[Zlw l,List.any_cons,Bool.or_assoc]
def Bk.pU (b:Bk)(item day:Int):Bool:=(b.item item).gV||(b.qX item day 1000).any fun o=>(b.held []).contains o.num
def Bk.uY (b:Bk)(item day:Int):Int:=if b.fault=0 then(if(b.uJ item&&iZ day 0 1000)=true then(if b.pU item day=true then 0 else 10)else 2)else b.fault
def Eo (b:Bk)(item day:Int)(r:AV)(B:List (Site×aK)):Prop:=
 (b.uY item day≠0/\r=.pv (.bM [.eW,.cT,.i (b.uY item day)])/\B=[])\/
 (b.uY item day=0/\b.fault=0/\b.uJ item=true/\iZ day 0 1000=true/\b.pU item day=true/\∃es,xH b es/\r=.bM [.ptr (.ret 0) 0,.mp (.ret 2),.pv (.i 0)]/\B=[(.ret 0,.cells (aX b (.ret 1) (gB []))),(.ret 1,.map es),(.ret 2,.map (kK b [] b.nums.length))])
theorem ZoV (b:Bk)(hi:b.items.length<=1000)(hc:b.aA.length<=1000)(item day:Int):cN prog 112 [.pv b.pv,.pv (.i item),.pv (.i day)] [] (Eo b item day):=by
 have hr:=Fj b hi hc;refine cE L112 ?_;generalize hR:Eo b item day=R;have vJ:∀e,b.uY item day=e->e≠0->R (.pv (.bM [.eW,.cT,.i e])) []:=fun e h h0=>by
  rw[<-hR];exact .inl ⟨by rw[h];exact h0,by rw[h],rfl⟩
 simp[L112,Bk.pv];refine cL [.pv b.pv] [] 16 [] rfl hr ?_
 rintro r0 B0 (⟨h0,rfl,rfl⟩|⟨h0,es,kY,rfl,rfl⟩)
 .refine⟨rfl,by simp,?_⟩;have hd:decide (b.fault=0)=false:=by simpa using h0
  have h2:=vJ _ (by unfold Bk.uY;rw[if_neg h0]) h0;simp[-decide_eq_true_eq,-decide_eq_false_iff_not,hd,-aU];exact⟨[],by simpa using h2⟩
 have hb:b.ok:=Bk.V3.1 h0;refine⟨rfl,by simp[aX,GD],?_⟩;simp[aX,GD,-aU];refine cG [b.pv,.i item] (Yq b item hi) ?_;cases e1:b.uJ item
 .have h2:=vJ 2 (by unfold Bk.uY;rw[if_pos h0,e1];rfl) (by omega);simp[-aU];exact⟨[],by simpa using h2⟩
 simp[-aU];refine cG [.i day] (DH day) ?_;cases e2:iZ day 0 1000
 .have h2:=vJ 2 (by unfold Bk.uY;rw[if_pos h0,e1,e2];rfl) (by omega);simp[-aU];exact⟨[],by simpa using h2⟩
 simp[-aU];refine cM [.ptr (.par 0) 0] (laid 0 (kE b [] es)) 35 [.loc 16 0,.loc 16 1] (by simp[laid,kE,aX]) (Yp b hb [] es kY) (by simp[laid,kE,aX]) ?_;have hH:=TM hb [];have Sr:b.pU item day=true->R (.bM [.ptr (.ret 0) 0,.mp (.ret 2),.pv (.i 0)]) [(.ret 0,.cells (aX b (.ret 1) (gB []))),(.ret 1,.map es),(.ret 2,.map (kK b [] b.nums.length))]:=fun h=>by
  rw[<-hR];refine .inr ⟨?_,h0,e1,e2,h,es,kY,rfl,rfl⟩;unfold Bk.uY;rw[if_pos h0,e1,e2,if_pos (show(true&&true)=true from rfl),if_pos h]
 have Ss:b.pU item day=false->R (.pv (.bM [.eW,.cT,.i 10])) []:=fun h=>by
  refine vJ 10 ?_ (by omega);unfold Bk.uY;rw[if_pos h0,e1,e2,if_pos (show(true&&true)=true from rfl),if_neg (by simp[h])]
 generalize kK b [] b.nums.length=hs at *;have hii:0<=item/\item<b.items.length:=by
  unfold Bk.uJ iZ at e1;simp only[dK,decide_eq_true_eq]at e1;omega
 obtain⟨si,rfl⟩:∃si:Nat,item=si:=⟨item.toNat,by omega⟩;have M0:si<b.items.length:=by omega
 obtain⟨z,hz⟩:∃z,b.items[si]?=some z:=⟨b.items[si],bC M0⟩;have qA:(b.items.map It.pv)[si]?=some (.agg [.i z.dR,.bool z.gV,.i z.val.lo,.i z.val.hi]):=by rw[bX,hz];rfl
 have HI:b.item (si:Int)=z:=by unfold Bk.item;rw[H9,hz];rfl
 have Ke:b.pU si day=(z.gV||(b.qX si day 1000).any fun o=>(b.held []).contains o.num):=by unfold Bk.pU;rw[HI]
 have dG:=fun is:Bool=>Zlw (b:=b) (bad:=[]) (es:=es) (hH:=hH) (b.qX si day 1000) is
 have hit:=fun is:Bool=>Fh (U7 b [] es hs _ hH) b hb [] es kY 4 5 6 (fun c _=>⟨rfl,rfl⟩) (fun c _=>rfl) si day 1000 is trivial (fun z hz=>⟨z,rfl⟩)
 simp only[dG]at hit;generalize hAN:((b.qX si day 1000).any fun n=>(b.held []).contains n.num)=an at *;have QO:=hit z.gV;clear hit;simp[laid,kE,aX,aT,↓qA,-aU];refine cM [.ptr (.par 0) 0,.pv (.i si),.pv (.i day),.pv (.i 1000)] (laid 0 (kE b [] es)) 48 [.loc 16 0,.loc 16 1] (by simp[laid,kE,aX,aT]) (BH b [] es si day 1000) (by simp[laid,kE,aX]) ?_;simp[laid,kE,aX,OT,-aU];refine XH [.loc 61 0,.loc 12 0,.loc 11 0,.loc 35 0,.loc 48 0,.loc 16 0,.loc 16 1] [(11,.ptr (.loc 11 0) 0),(12,.ptr (.loc 12 0) 0)] (gf:=155) (fs:=[]) (cs:=[.ptr (.loc 48 0) 0,.pv (.ref [.i 1000]),.pv (.ref [.i si]),.pv (.ref [.i day])]) ?_ ?_ rfl rfl ?_ ?_ ?_ QO ?_
 .rfl
 .simp
 .simp[U7,O0,laid,aX,gX]
 .rfl
 .rfl
 rintro r B' ⟨rfl,rfl⟩;refine⟨rfl,?_,?_⟩
 .exact fun p hp=>XA (n:=7) (L:=O0 b [] es hs (z.gV||an)) (by simp[O0]) ((U7 b [] es hs _ hH).cl (z.gV||an)) p hp
 refine⟨_,_,_,_,_,rfl,?_⟩;cases Di:(z.gV||an)
 .rw[Di]at Ke;have h2:=Ss Ke;simp[U7,O0,laid,kW,aX,gX,-aU];exact⟨[],by simpa using h2⟩
 .rw[Di]at Ke;have h2:=Sr Ke;simp[U7,O0,laid,kW,aX,gX,-aU,Di];refine⟨[.loc 16 0,.loc 16 1,.loc 35 0],?_⟩;simpa[aX]using h2
end
section
attribute [local irreducible] Bk.held Bk.nums
def gQ (b:Bk)(es hs ss:List (PV×PV)):List aK:=[.cells [.ptr (.par 3) 0,.mp (.par 1),.mp (.par 2)],.map hs,.map ss,.cells (aX b (.par 4) (gB [])),.map es]
theorem ZfX (b:Bk)(es hs ss:List (PV×PV))(H:Int->Bool)(hH:mU H hs)(c:Ct):cN prog 243 [.ptr (.par 0) 0,.pv c.pv] (laid 0 (gQ b es hs ss)) (fun r B=>r=.pv (.bool (H c.num))/\B=laid 0 (gQ b es hs ss)):=by
 have hf:=hH.f c.num;have hk:=hH.k;refine cB [.par 0,.par 1,.par 2,.par 3,.par 4] L243 ?_;simp[L243,gQ,laid,aX,Ct.pv,hf,hk]
theorem Eg:zE prog (pE P2) L197.code:=Gg L197_ok L197_tab
noncomputable def S0 (b:Bk)(es hs ss:List (PV×PV))(item day:Int)(r:Cr):List aK:=[.loop (fR prog 197 0) [47] 79 [(4,.ptr (.par 2) 0),(5,.ptr (.par 3) 0),(6,.ptr (.par 4) 0),(9,.ptr (.par 5) 0),(10,.ptr (.par 1) 0)] none,
 .cells [.pv (.i r.lo),.pv (.i r.hi)],.cells [.ptr (.par 6) 0],.cells [.pv (.i item)],.cells [.pv (.i day)],.cells [.fn 243 [.ptr (.par 6) 0] []],
 .cells [.ptr (.par 9) 0,.mp (.par 7),.mp (.par 8)],.map hs,.map ss,.cells (aX b (.par 10) (gB [])),.map es,gX (.par 9)]
def IZ:PV->Ct
 |.agg [.int _ n,.int _ i,.int _ s,.int _ d,.int _ v,.int _ lo,.int _ hi]=>⟨n,i,s,d,v,⟨lo,hi⟩⟩
 |_=>ct0
theorem Fx (c:Ct):IZ c.pv=c:=rfl
def zR:PV:=.agg [.i 0,.i 0]
structure SMap (b:Bk)(S:Int->Cr)(below:Int)(ss:List (PV×PV)):Prop where
 k:A1 kI ss=true
 f:∀c∈b.aA,c.num<below->c.num∈b.held []->(eZ (.i c.num) ss).getD zR=(S c.num).pv/\(S c.num).lT 1000000000
def NY (b:Bk)(S:Int->Cr)(item day:Int)(r:Cr)(c:Ct):Cr:=match(b.held []).contains c.num with
 |true=>r.cut ((S c.num).wider ((b.item item).dR*(day-c.day)))
 |false=>r
noncomputable def j9 (b:Bk)(hb:b.ok)(es hs ss:List (PV×PV))(hH:mU (fun n=>(b.held []).contains n) hs)(S:Int->Cr)(si:Nat)(M0:si<b.items.length)(day below:Int)(hd:0<=day/\day<=1000)(hS:SMap b S below ss):Cons prog where
 m:=12
 S:=Cr
 X:=S0 b es hs ss si day
 step r x:=(NY b S si day r (IZ x),true)
 good x:=∃c∈b.qX si day below,x=c.pv
 live _:=True
 m0:=by omega
 len _:=rfl
 cl c:=by
  intro bx hb;simp only[S0,jO,List.not_mem_nil,or_false]at hb;rcases hb with rfl|rfl|rfl|rfl|rfl|rfl|rfl|rfl|rfl|rfl|rfl|rfl
  all_goals first|rfl|simp[aX,Site.lt,I9]
 goes _ _ _ _ _:=trivial
 sJ r x hc hx:=by
  obtain⟨y,hy,rfl⟩:=hx;rw[Fx];have oP:zE prog (pE P2) (.vH 79 (.t 46) (fR prog 197 0) Y197_0a Y197_0b [47]):=Eg.2.2.2.2.1.2;have mN:=ZfX b es hs ss _ hH y;obtain⟨HJ,Ad⟩:=(AL hb).1 hy;unfold Bk.pV at Ad;simp only[dK,decide_eq_true_eq]at Ad;have CV:=Yh hb HJ Ad.2.2;have jL:=xC hb HJ;obtain⟨z,hz⟩:∃z,b.items[si]?=some z:=⟨b.items[si],bC M0⟩;have qA:(b.items.map It.pv)[si]?=some (.agg [.i z.dR,.bool z.gV,.i z.val.lo,.i z.val.hi]):=by rw[bX,hz];rfl
  have HI:b.item (si:Int)=z:=by unfold Bk.item;rw[H9,hz];rfl
  rw[Ad.2.1,HI]at CV;have w1:IntKind.i64.wrap (day-y.day)=day-y.day:=wrap64 (by omega);have w2:IntKind.i64.wrap (z.dR*(day-y.day))=z.dR*(day-y.day):=wrap64 (by omega);have hk:=hS.k;have kA:NY b S si day r y=match(b.held []).contains y.num with
   |true=>r.cut ((S y.num).wider (z.dR*(day-y.day)))
   |false=>r:=by unfold NY;rw[HI]
  have sP:=fun h:(b.held []).contains y.num=true=>hS.f y HJ Ad.1 (jC.1 h)
  rw[kA];obtain⟨far,MM⟩:∃far,z.dR*(day-y.day)=far:=⟨_,rfl⟩;rw[MM]at CV kA;have w2':IntKind.i64.wrap (z.dR*(day-y.day))=far:=w2.trans MM;rw[MM];clear kA w2 MM;generalize CW:(b.held []).contains y.num=v at *;refine YA mixed oP.1 oP.2.1 rfl rfl (by simp) rfl ?_;simp[-getElem?_pos,-List.getElem?_map,Y197_0a,Y197_0b,S0,laid,qK,Ct.pv,gX,aX];refine xQ (gF:=[.ptr (.par 0) 0,.pv y.pv]) (B:=laid 0 (gQ b es hs ss)) (fs:=[.ptr (.par 6) 0]) (cs:=[]) 50 [.par 6,.par 7,.par 8,.par 9,.par 10] ?_ rfl rfl ?_ ?_ ?_ mN ?_
  .rfl
  .simp[laid,gQ,aX]
  .rfl
  .rfl
  rintro r0 B0 ⟨rfl,rfl⟩;refine⟨rfl,by simp[laid,gQ,aX],?_⟩;cases v
  .simp[-getElem?_pos,-List.getElem?_map,laid,gQ,aX,-aU];exact⟨[],[.par 1,.par 2,.par 3,.par 4,.par 5,.par 6,.par 7,.par 8,.par 9,.par 10,.par 11],rfl,rfl,by simp[aY],rfl,by simp[aY]⟩
  .obtain⟨G7,oK⟩:=sP rfl;unfold Cr.lT at oK;have hwd:=Zr4 (S y.num) far (wrap64 (by omega)) (wrap64 (by omega)) (wrap64 (by omega));have Z6:=Ec r ((S y.num).wider far);generalize S y.num=sy at *;unfold zR at G7;unfold Cr.pv at G7;simp[-getElem?_pos,-List.getElem?_map,laid,gQ,aX,-aU,hk,G7,aT,qA,w1,w2'];refine cQ [] [sy.pv,.i far] hwd ?_;simp[-getElem?_pos,-List.getElem?_map,aM];refine .inl (cQ [] [r.pv,(sy.wider far).pv] Z6 ?_);simp[-getElem?_pos,-List.getElem?_map,aM,Cr.pv];exact⟨[],[.par 1,.par 2,.par 3,.par 4,.par 5,.par 6,.par 7,.par 8,.par 9,.par 10,.par 11],rfl,rfl,by simp[aY],rfl,by simp[aY]⟩
end
section
attribute [local irreducible] Bk.held Bk.nums
theorem Zkh {b:Bk}{hb:b.ok}{es hs ss:List (PV×PV)}{hH:mU (fun n=>(b.held []).contains n) hs}{S:Int->Cr}{si:Nat}{M0:si<b.items.length}{day below:Int}{hd:0<=day/\day<=1000}{hS:SMap b S below ss}:∀(l:List Ct) (r:Cr),(j9 b hb es hs ss hH S si M0 day below hd hS).run r (lS l)=(l.foldl (NY b S si day) r,true)
 |[],r=>rfl
 |x::l,r=>by
  show(j9 b hb es hs ss hH S si M0 day below hd hS).run (NY b S si day r x) (lS l)=_;rw[Zkh l];rfl
theorem Zh5 {b:Bk}{S:Int->Cr}{item day:Int}:∀(l:List Ct) (r:Cr),l.foldl (NY b S item day) r=(l.filter fun c=>(b.held []).contains c.num).foldl (fun r c=>r.cut ((S c.num).wider ((b.item item).dR*(day-c.day)))) r
 |[],r=>rfl
 |c::l,r=>by
  rw[List.foldl_cons,Zh5 l,xP];unfold NY;cases h:(b.held []).contains c.num
  .rfl
  .rfl
theorem Zob {b:Bk}(hb:b.ok){S:Int->Cr}{item day below:Int}(h:(b.item item).gV=false):(b.qX item day below).foldl (NY b S item day) I6=b.kD (b.held []) S item day below:=by
 rw[Zh5,Ia h];refine Zqz (fun c=>?_);rw[iV,iV,AL hb,dK];exact⟨fun⟨⟨h1,h2⟩,h3⟩=>⟨h1,h2,h3⟩,fun⟨h1,h2,h3⟩=>⟨⟨h1,h2⟩,h3⟩⟩
theorem Yz (b:Bk)(hb:b.ok)(es hs ss:List (PV×PV))(kY:xH b es)(hH:mU (fun n=>(b.held []).contains n) hs)(S:Int->Cr)(si:Nat)(M0:si<b.items.length)(day below:Int)(hd:0<=day/\day<=1000)(hS:SMap b S below ss):
  cN prog 197 [.ptr (.par 0) 0,.pv (.i si),.pv (.i day),.pv (.i below)] (laid 0 (gQ b es hs ss)) (fun r B=>r=.pv (b.kD (b.held []) S si day below).pv/\B=laid 0 (gQ b es hs ss)):=by
 refine N9 [.par 0,.par 1,.par 2,.par 3,.par 4] L197 ?_;intro R hR;obtain⟨z,hz⟩:∃z,b.items[si]?=some z:=⟨b.items[si],bC M0⟩;have qA:(b.items.map It.pv)[si]?=some (.agg [.i z.dR,.bool z.gV,.i z.val.lo,.i z.val.hi]):=by rw[bX,hz];rfl
 have HI:b.item (si:Int)=z:=by unfold Bk.item;rw[H9,hz];rfl
 rcases Bool.eq_false_or_eq_true z.gV with tS|tS
 .have hv:b.kD (b.held []) S si day below=z.val:=by unfold Bk.kD;rw[HI,if_pos tS]
  simp[L197,laid,gQ,aX,aT,↓qA,tS,-aU];rw[<-hR,hv];simp[laid,gQ,aX,aT,Cr.pv]
 have hv:=Zob hb (S:=S) (item:=(si:Int)) (day:=day) (below:=below) (by rw[HI];exact tS);have hit:=Fh (j9 b hb es hs ss hH S si M0 day below hd hS) b hb [] es kY 11 9 10 (fun c _=>⟨rfl,rfl⟩) (fun c _=>rfl) si day below I6 trivial (fun z hz=>⟨z,hz,rfl⟩);rw[Zkh,hv]at hit;have gO:=(j9 b hb es hs ss hH S si M0 day below hd hS).cl (b.kD (b.held []) S si day below);generalize b.kD (b.held []) S si day below=xG at *;simp[L197,laid,gQ,aX,aT,↓qA,tS,-aU];refine .inl (cQ [] [] ZiJ ?_);simp[aM,I6,Cr.pv];refine cM [.ptr (.par 0) 0,.pv (.i si),.pv (.i day),.pv (.i below)] (laid 0 (kE b [] es)) 46 [.par 3,.par 4] (by simp[laid,kE,aX,aT]) (BH b [] es si day below) (by simp[laid,kE,aX]) ?_;simp[laid,kE,aX,OT,-aU];refine XH [.loc 79 0,.loc 10 0,.loc 4 0,.loc 5 0,.loc 6 0,.loc 9 0,.par 0,.par 1,.par 2,.par 3,.par 4,.loc 46 0] [(4,.ptr (.loc 4 0) 0),(5,.ptr (.loc 5 0) 0),(6,.ptr (.loc 6 0) 0),(9,.ptr (.loc 9 0) 0),(10,.ptr (.loc 10 0) 0)] (gf:=155) (fs:=[]) (cs:=[.ptr (.loc 46 0) 0,.pv (.ref [.i below]),.pv (.ref [.i si]),.pv (.ref [.i day])]) ?_ ?_ rfl rfl ?_ ?_ ?_ hit ?_
 .rfl
 .simp
 .simp[j9,S0,laid,aX,gX,I6]
 .rfl
 .rfl
 rintro r B' ⟨rfl,rfl⟩;refine⟨rfl,?_,?_⟩
 .exact fun p hp=>XA (n:=12) (L:=S0 b es hs ss si day xG) (by simp[S0]) gO p hp
 refine⟨_,_,_,_,_,rfl,?_⟩;simp[j9,S0,laid,kW,aX,gX,-aU];trace_state;simp;rw[<-hR];simp[laid,gQ,aX,Cr.pv]
end
section
attribute [local irreducible] Bk.held Bk.nums Bk.span
def jP (b:Bk)(k:Nat):List (PV×PV):=nR id (fun n=>(b.span (b.held []) n).pv) ((b.nums.take k).filter fun n=>(b.held []).contains n)
theorem Na {b:Bk}{k:Nat}{n x:Int}(h:b.nums[k]?=some n):x∈b.nums.take k↔x∈b.nums/\x<n:=by
 obtain⟨h2,e2⟩:=cA.1 h;have hs:=Q8.1 (TQ (b:=b));constructor
 .intro hx;obtain⟨i,hi⟩:=iK.1 hx;rw[mE]at hi;split at hi
  .rename_i qP;obtain⟨h1,e1⟩:=cA.1 hi
   have:=hs i k h1 h2 qP
   rw[e1,e2]at this;exact⟨dL hi,this⟩
  .cases hi
 .rintro⟨hx,aJ⟩;obtain⟨i,hi⟩:=iK.1 hx;obtain⟨h1,e1⟩:=cA.1 hi;rw[iK];refine⟨i,?_⟩;rw[mE,if_pos,hi];rcases Nat.lt_trichotomy i k with qP|qP|qP
  .exact qP
  .subst qP;rw[e1]at e2;omega
  .have:=hs k i h2 h1 qP
   rw[e1,e2]at this;omega
theorem Zpo {b:Bk}(hb:b.ok){k:Nat}{n:Int}(h:b.nums[k]?=some n):SMap b (b.span (b.held [])) n (jP b k):=by
 refine⟨OH,fun c hc aJ hx=>?_⟩;unfold jP;rw[KC,Gj,if_pos]
 .refine⟨rfl,?_⟩
  have:=XT hb c hc hx
  have jL:=xC hb hc;unfold Cr.lT at this ⊢;omega
 .rw[iV,Na h];exact⟨⟨(w9 hb).2 ⟨c,hc,rfl⟩,aJ⟩,jC.2 hx⟩
theorem Zfl {b:Bk}(hb:b.ok)(below:Int):SMap b (b.span (b.held [])) below (jP b b.nums.length):=by
 refine⟨OH,fun c hc aJ hx=>?_⟩;unfold jP;rw[KC,Gj,if_pos]
 .refine⟨rfl,?_⟩
  have:=XT hb c hc hx
  have jL:=xC hb hc;unfold Cr.lT at this ⊢;omega
 .rw[iV,mX];exact⟨(w9 hb).2 ⟨c,hc,rfl⟩,jC.2 hx⟩
theorem ZmW {b:Bk}{k:Nat}{n:Int}(h:b.nums[k]?=some n)(hx:(b.held []).contains n=false):jP b (k+1)=jP b k:=by
 unfold jP;rw[mR,h,I1]
 have:(Option.some n).toList.filter (fun n=>(b.held []).contains n)=[]:=by
  simp only[Option.toList,xP,hx,List.filter_nil];rfl
 rw[this,tG]
theorem Zpn {b:Bk}{k:Nat}{n:Int}(h:b.nums[k]?=some n)(hx:(b.held []).contains n=true):mI (.i n) (b.span (b.held []) n).pv (jP b k)=jP b (k+1):=by
 unfold jP;rw[Gv (fun x hm=>?_),mR,h,I1]
 .have:(Option.some n).toList.filter (fun n=>(b.held []).contains n)=[n]:=by
   simp only[Option.toList,xP,hx,List.filter_nil];rfl
  rw[this];unfold nR;rw[mH];rfl
 .have:=(Na h).1 (iV.1 hm).1
  show x≠n;omega
theorem Zkj {b:Bk}(hb:b.ok){n:Int}(hn:n∈b.nums)(hx:(b.held []).contains n=true):b.span (b.held []) n=(b.kD (b.held []) (b.span (b.held [])) (b.get n).src (b.get n).day n).plus (b.get n).diff/\(b.kD (b.held []) (b.span (b.held [])) (b.get n).src (b.get n).day n).lT 2000000000:=by
 have h1:=Ga hb n hn;obtain⟨nn,rfl⟩:∃nn:Nat,n=nn:=⟨n.toNat,by omega⟩;obtain⟨rR,nU⟩:=V4 hb hn;have jL:=xC hb rR;refine⟨?_,?_⟩
 .rw[Mm (by omega),if_pos hx]
 .have Ao:=Zk8 hb rR (bad:=[]) (by rw[nU];exact jC.1 hx);rw[nU]at Ao
  have:=ZhD hb (held:=b.held []) (S:=b.span (b.held [])) (day:=(b.get (nn:Int)).day) (below:=(nn:Int)) (A:=1000000000) jL.2.2.2.2.2.1 jL.2.2.2.2.2.2.1 (by omega) (by omega) Ao fun o ho aJ PZ=>by
   have k1:=XT hb o ho PZ;have k2:=xC hb ho;unfold Cr.lT at k1 ⊢;omega
  unfold Cr.lT at this ⊢;omega
def xZ (b:Bk)(es hs ss:List (PV×PV)):List aK:=[.cells [.ptr (.par 6) 0],.cells [.ptr (.par 3) 0],.cells [.fn 242 [] [.ptr (.par 0) 0,.ptr (.par 1) 0,.ptr (.par 2) 0]],
 .cells [.ptr (.par 6) 0,.mp (.par 4),.mp (.par 5)],.map hs,.map ss,.cells (aX b (.par 7) (gB [])),.map es]
end
section
attribute [local irreducible] Bk.held Bk.nums Bk.span
def rcJ (b:Bk)(es hs ss:List (PV×PV))(L:List PV)(n:Int)(R:Cr):AS:=⟨[(0,.pv (.aE false 1 L)),(1,.ptr (.par 0) 0),(2,.ptr (.par 1) 0),(3,.ptr (.par 2) 0),(23,.mp (.par 5)),(25,.pv (.i n)),(36,.pv (.agg [.i R.lo,.i R.hi]))],laid 0 (xZ b es hs ss)⟩
theorem YZ (b:Bk)(hb:b.ok)(es hs:List (PV×PV))(kY:xH b es)(hH:mU (fun n=>(b.held []).contains n) hs):∀m k,m+k=b.nums.length->
  cN prog 242 [.pv (.aE false 1 ((b.nums.drop k).map aO)),.ptr (.par 0) 0,.ptr (.par 1) 0,.ptr (.par 2) 0] (laid 0 (xZ b es hs (jP b k))) (fun r B=>r=.pv (.bM [])/\B=laid 0 (xZ b es hs (jP b b.nums.length)))
 |0,k,hk=>by
  have VJ:k=b.nums.length:=by omega
  subst VJ;rw[List.drop_length];refine cB [.par 0,.par 1,.par 2,.par 3,.par 4,.par 5,.par 6,.par 7] L242 ?_;simp[L242,xZ,laid,aX]
 |m+1,k,hk=>by
  have ih:=YZ b hb es hs kY hH m (k+1) (by omega);have aJ:k<b.nums.length:=by omega
  obtain⟨n,hn⟩:∃n,b.nums[k]?=some n:=⟨b.nums[k],bC aJ⟩;have y8:b.nums.drop k=n::b.nums.drop (k+1):=by
   rw[AD aJ]
   have:b.nums[k]=n:=by rw[bC aJ]at hn;exact Option.some.inj hn
   rw[this]
  have Bd:=dL hn;obtain⟨rR,nU⟩:=V4 hb Bd;have jL:=xC hb rR;have mG:=kY.f n;rw[if_pos Bd]at mG;have T5:=kY.k;have hsk:=ZmW hn;have jJ:=Zpn hn;have UY:=Zkj hb Bd;have hSM:=Zpo hb hn;have QI:=hSM.k;have N4:=ZfX b es hs (jP b k) _ hH (b.get n);rw[y8];generalize b.nums.drop (k+1)=rest at *;generalize jP b b.nums.length=SF at *;generalize jP b (k+1)=S2 at *;generalize wO:jP b k=S1 at *;generalize b.get n=y at *;obtain⟨yn,yi,ys,yd,yv,⟨yl,yh⟩⟩:=y;simp only at nU jL UY N4;subst nU;unfold Ct.pv at mG;obtain⟨si,rfl⟩:∃si:Nat,ys=si:=⟨ys.toNat,by omega⟩;have M0:si<b.items.length:=by omega
  have K7:=Yz b hb es hs S1 kY hH (b.span (b.held [])) si M0 yd yn (by omega) hSM;generalize b.kD (b.held []) (b.span (b.held [])) si yd yn=R1 at *;generalize b.span (b.held []) yn=R2 at *;generalize CW:(b.held []).contains yn=v at *;refine N9 [.par 0,.par 1,.par 2,.par 3,.par 4,.par 5,.par 6,.par 7] L242 ?_;intro R hR;have y4:(0:Int)<(rest.length:Int)+1:=by omega
  have hlz:¬((rest.length:Int)+1=0):=by omega
  simp[L242,xZ,laid,aX,hlz,T5,mG,-aU,aO];refine cM [.ptr (.par 0) 0,.pv (Ct.pv ⟨yn,yi,si,yd,yv,⟨yl,yh⟩⟩)] (laid 0 (gQ b es hs S1)) 19 [.par 3,.par 4,.par 5,.par 6,.par 7] (by simp[laid,gQ,aX]) N4 (by simp[laid,gQ,aX]) ?_;have oY:1<=rest.length+1:=by omega
  have jT:(rest.map aO).take rest.length=rest.map aO:=fP (by rw[fZ];exact fH _);cases v
  .rw[hsk rfl]at ih;simp[laid,gQ,aX,-aU,aP,oY,jT];refine cM [.pv (.aE false 1 (rest.map aO)),.ptr (.par 0) 0,.ptr (.par 1) 0,.ptr (.par 2) 0] (laid 0 (xZ b es hs S1)) 40 [.par 0,.par 1,.par 2,.par 3,.par 4,.par 5,.par 6,.par 7] (by simp[laid,xZ,aX]) ih (by simp[laid,xZ,aX]) ?_;simp[laid,xZ,aX];rw[<-hR];simp[laid,xZ,aX]
  .obtain⟨hq1,Sy⟩:=UY rfl;have nE:=jJ rfl;unfold Cr.pv at nE;unfold Cr.lT at Sy;have N6:=jL.2.2.2.2.2.2.2.2.2.2.2.2.1;unfold Cr.lT at N6;simp only at N6;have MD:=Zrz R1 ⟨yl,yh⟩ (wrap64 (by simp only;omega)) (wrap64 (by simp only;omega));rw[<-hq1]at MD;simp[laid,gQ,aX,-aU];refine JX (rcJ b es hs S1 (aO yn::rest.map aO) yn R2) ?_ ?_
   .simp[gP,gZ,-aU]
    repeat' (with_reducible refine And.intro ?_ ?_)
    all_goals
     refine cM [.ptr (.par 0) 0,.pv (.i si),.pv (.i yd),.pv (.i yn)] (laid 0 (gQ b es hs S1)) 33 [.par 3,.par 4,.par 5,.par 6,.par 7] (by simp[laid,gQ,aX]) K7 (by simp[laid,gQ,aX]) ?_;simp[laid,gQ,aX,-aU,gP,gZ,Cr.pv]
    all_goals
     refine cQ [] [R1.pv,Cr.pv ⟨yl,yh⟩] MD ?_;simp[aM,Cr.pv,-aU]
    all_goals
     refine Sub.mk ?_ ?_
     .simp[aO]
     .simp[laid,xZ,aX]
   .simp[gP,gZ,rcJ,laid,xZ,aX,-aU,QI,aP,oY,jT,nE];refine cM [.pv (.aE false 1 (rest.map aO)),.ptr (.par 0) 0,.ptr (.par 1) 0,.ptr (.par 2) 0] (laid 0 (xZ b es hs S2)) 40 [.par 0,.par 1,.par 2,.par 3,.par 4,.par 5,.par 6,.par 7] (by simp[laid,xZ,aX]) ih (by simp[laid,xZ,aX]) ?_;simp[laid,xZ,aX];rw[<-hR];simp[laid,xZ,aX]
end
section
attribute [local irreducible] Bk.held Bk.nums Bk.span
def YP (b:Bk)(es hs:List (PV×PV)):AS:=⟨[(1,.ptr (.loc 1 0) 0),(3,.ptr (.loc 3 0) 0),(10,.ptr (.loc 10 0) 0)],
 [(.loc 10 0,.cells [.ptr (.par 0) 0,.mp (.loc 7 0),.mp (.loc 8 0)]),(.loc 7 0,.map hs),(.loc 8 0,.map []),(.loc 3 0,.cells [.pv .eW]),(.loc 1 0,.cells [.ptr (.par 0) 0]),(.par 0,.cells (aX b (.par 1) (gB []))),(.par 1,.map es)]⟩
def GL (b:Bk)(es:List (PV×PV))(r:AV)(B:List (Site×aK)):Prop:=r=.ptr (.ret 0) 0/\B=[(.ret 0,.cells [.ptr (.par 0) 0,.mp (.ret 1),.mp (.ret 2)]),(.ret 1,.map (kK b [] b.nums.length)),(.ret 2,.map (jP b b.nums.length)),(.par 0,.cells (aX b (.par 1) (gB []))),(.par 1,.map es)]
theorem Zi7 (b:Bk)(hb:b.ok)(es:List (PV×PV))(kY:xH b es):cN prog 195 [.ptr (.par 0) 0] (laid 0 (kE b [] es)) (GL b es):=by
 have N5:=Yp b hb [] es kY;have nY:=YZ b hb es _ kY (TM hb []) b.nums.length 0 (by omega);have Aq:jP b 0=[]:=by unfold jP;rw[List.take_zero];rfl
 rw[Aq,List.drop_zero]at nY;refine cB [.loc 10 0,.loc 7 0,.loc 8 0,.par 0,.par 1] L195 ?_;generalize hR:GL b es=R;have hRd:∀r B,R r B↔GL b es r B:=fun r B=>by rw[hR]
 unfold GL at hRd;generalize kK b [] b.nums.length=hs at *;generalize jP b b.nums.length=SF at *;clear hR;simp[L195,laid,kE,aX,-aU];refine JX (YP b es hs) ?_ ?_
 .simp[gP,gZ,-aU]
  repeat' (with_reducible refine And.intro ?_ ?_)
  all_goals
   refine cM [.ptr (.par 0) 0] (laid 0 (kE b [] es)) 7 [.par 0,.par 1] (by simp[laid,kE,aX]) N5 (by simp[laid,kE,aX]) ?_;simp[laid,kE,aX,-aU,gP,gZ]
  repeat' (with_reducible refine And.intro ?_ ?_)
  all_goals
   refine Sub.mk ?_ ?_
   .simp
   .simp[aX]
 .simp[gP,gZ,YP,aX,-aU];refine cM [.pv (.aE false 1 (b.nums.map aO)),.ptr (.par 0) 0,.ptr (.par 1) 0,.ptr (.par 2) 0] (laid 0 (xZ b es hs [])) 17 [.loc 1 0,.loc 3 0,.loc 4 0,.loc 10 0,.loc 7 0,.loc 8 0,.par 0,.par 1] (by simp[laid,xZ,aX]) nY (by simp[laid,xZ,aX]) ?_;simp[laid,xZ,aX];rw[hRd];simp[aX]
end
section
attribute [local irreducible] Bk.held Bk.nums Bk.span
def Bk.JO (b:Bk)(n:Int):Bool:=(b.held []).contains n&&decide ((b.kD (b.held []) (b.span (b.held [])) (b.get n).it (b.get n).day 1000).hi<(b.kD (b.held []) (b.span (b.held [])) (b.get n).it (b.get n).day 1000).lo)
theorem ZjL {b:Bk}(hb:b.ok):b.contra=b.nums.any b.JO:=by
 rw[qT];unfold Bk.contra;rw[oU,oU];constructor
 .rintro⟨c,hc,h⟩;refine⟨c.num,(w9 hb).2 ⟨c,hc,rfl⟩,?_⟩;unfold Bk.JO;rw[s9 hb hc];exact h
 .rintro⟨n,hn,h⟩;obtain⟨h1,h2⟩:=V4 hb hn;refine⟨b.get n,h1,?_⟩;unfold Bk.JO at h;rw[h2];exact h
def DJ (b:Bk)(es hs ss:List (PV×PV))(k:Nat):AS:=⟨[(0,.ptr (.par 0) 0),(13,.pv (.aE false 1 (b.nums.map aO))),(14,.pv (.i b.nums.length)),(15,.pv (.i k))],laid 0 (gQ b es hs ss)⟩
theorem ZhN (b:Bk)(hb:b.ok)(es hs ss:List (PV×PV))(kY:xH b es)(hH:mU (fun n=>(b.held []).contains n) hs)(hS:SMap b (b.span (b.held [])) 1000 ss):
  cN prog 196 [.ptr (.par 0) 0] (laid 0 (gQ b es hs ss)) (fun r B=>r=.pv (.bool b.contra)/\B=laid 0 (gQ b es hs ss)):=by
 have hlen:=XF (b:=b);rw[ZjL hb];refine N9 [.par 0,.par 1,.par 2,.par 3,.par 4] L196 ?_;intro R hR;simp[L196,laid,gQ,aX,-aU];refine eP (fun n τ=>∃k:Nat,k<=b.nums.length/\n=b.nums.length-k/\(∀(j:Nat) (x:Int),j<k->b.nums[j]?=some x->b.JO x=false)/\τ=DJ b es hs ss k) ⟨b.nums.length,DJ b es hs ss 0,Sub.mk (by simp) (by simp[laid,gQ,aX]),0,gY _,rfl,(fun j x hj=>by omega),rfl⟩ ?_;rintro J hJ n τ ⟨k,hk,rfl,hinv,rfl⟩;by_cases aJ:k<b.nums.length
 .obtain⟨x,hx⟩:∃x,b.nums[k]?=some x:=⟨b.nums[k],bC aJ⟩;have K4:=dL hx;have oN:(b.nums.map aO)[k]?=some (.i x):=by rw[bX,hx];rfl
  have hw:=bN (k:=k) (by omega);have aG:b.nums.length-(k+1)<b.nums.length-k:=by omega
  obtain⟨rR,nU⟩:=V4 hb K4;have jL:=xC hb rR;have mG:=kY.f x;rw[if_pos K4]at mG;have T5:=kY.k;have N4:=ZfX b es hs ss _ hH (b.get x);have aB:b.JO x=false->J (b.nums.length-(k+1)) (DJ b es hs ss (k+1)):=fun h=>hJ _ _ ⟨k+1,aJ,rfl,(fun j y hj hy=>by
   rcases Nat.lt_succ_iff_lt_or_eq.1 hj with h'|h'
   .exact hinv j y h' hy
   .subst h';rw[hx]at hy;cases hy;exact h),rfl⟩
  have oO:b.JO x=true->b.nums.any b.JO=true:=fun h=>oU.2 ⟨x,K4,h⟩
  have Cl:b.JO x=((b.held []).contains x&&decide ((b.kD (b.held []) (b.span (b.held [])) (b.get x).it (b.get x).day 1000).hi<(b.kD (b.held []) (b.span (b.held [])) (b.get x).it (b.get x).day 1000).lo)):=rfl;generalize b.get x=y at *;obtain⟨yn,yi,ys,yd,yv,⟨yl,yh⟩⟩:=y;simp only at nU jL N4 Cl;subst nU;unfold Ct.pv at mG;obtain⟨si,rfl⟩:∃si:Nat,yi=si:=⟨yi.toNat,by omega⟩;have K7:=Yz b hb es hs ss kY hH (b.span (b.held [])) si (by omega) yd 1000 (by omega) hS;generalize b.kD (b.held []) (b.span (b.held [])) si yd 1000=R1 at *;have jA:decide ((k:Int)<(b.nums.length:Int))=true:=by simp;omega
  simp[-decide_eq_true_eq,-decide_eq_false_iff_not,DJ,laid,gQ,aX,aJ,↓oN,T5,mG,-aU];refine cM [.ptr (.par 0) 0,.pv (.i si),.pv (.i yd),.pv (.i 1000)] (laid 0 (gQ b es hs ss)) 33 [.par 0,.par 1,.par 2,.par 3,.par 4] (by simp[laid,gQ,aX]) K7 (by simp[laid,gQ,aX]) ?_;simp[-decide_eq_true_eq,-decide_eq_false_iff_not,laid,gQ,aX,-aU,Cr.pv];refine cM [.ptr (.par 0) 0,.pv (Ct.pv ⟨yn,si,ys,yd,yv,⟨yl,yh⟩⟩)] (laid 0 (gQ b es hs ss)) 36 [.par 0,.par 1,.par 2,.par 3,.par 4] (by simp[laid,gQ,aX]) N4 (by simp[laid,gQ,aX]) ?_;generalize(b.held []).contains yn=v at *;cases v
  .have aB:=aB Cl;simp[-decide_eq_true_eq,-decide_eq_false_iff_not,laid,gQ,aX,-aU,hw];exact⟨_,_,aG,Sub.mk (by simp) (by simp[laid,gQ,aX]),aB⟩
  .rw[Bool.true_and]at Cl;cases hd:decide (R1.hi<R1.lo)
   .have aB:=aB (by rw[Cl,hd]);simp[-decide_eq_true_eq,-decide_eq_false_iff_not,laid,gQ,aX,-aU,hw,hd];exact⟨_,_,aG,Sub.mk (by simp) (by simp[laid,gQ,aX]),aB⟩
   .have he:=oO (by rw[Cl,hd]);simp[-decide_eq_true_eq,-decide_eq_false_iff_not,laid,gQ,aX,hd];rw[<-hR,he];simp[laid,gQ,aX]
 .have he:k=b.nums.length:=by omega
  subst he;clear hJ;have mK:b.nums.any b.JO=false:=by
   rw[List.any_eq_false];intro x hx;obtain⟨j,hj⟩:=iK.1 hx;simp[hinv j x (cA.1 hj).1 hj]
  simp[DJ,laid,gQ,aX];rw[<-hR,mK];simp[laid,gQ,aX]
end
section
attribute [local irreducible] Bk.held Bk.nums Bk.span
def Bk.vA (b:Bk)(item day:Int):Cr×Int:=if b.uY item day=0 then(if b.contra=true then(⟨0,0⟩,9)else(b.kD (b.held []) (b.span (b.held [])) item day 1000,0))else(⟨0,0⟩,b.uY item day)
def LC (x:Cr×Int):PV:=.bM [x.1.pv,.i x.2]
theorem Zvf (b:Bk)(hi:b.items.length<=1000)(hc:b.aA.length<=1000)(item day:Int):aD prog 159 [b.pv,.i item,.i day] (LC (b.vA item day)):=by
 have RC:=ZoV b hi hc item day;refine b8 L159 ?_;intro R hR;simp[L159,Bk.pv];refine cL [.pv b.pv,.pv (.i item),.pv (.i day)] [] 16 [] rfl RC ?_
 rintro r0 B0 (⟨h0,rfl,rfl⟩|⟨h0,y7,hit,Uw,hih,es,kY,rfl,rfl⟩)
 .refine⟨rfl,by simp,?_⟩;have hd:decide (b.uY item day=0)=false:=by simpa using h0
  have hM:b.vA item day=(⟨0,0⟩,b.uY item day):=by unfold Bk.vA;rw[if_neg h0]
  simp[-decide_eq_true_eq,-decide_eq_false_iff_not,hd];rw[<-hR,hM];exact⟨rfl,rfl⟩
 have hb:b.ok:=Bk.V3.1 y7;refine⟨rfl,by simp[aX],?_⟩;have jJ:=Zi7 b hb es kY;have hH:=TM hb [];have hS:=Zfl hb 1000;simp[aX];refine cM [.ptr (.par 0) 0] (laid 0 (kE b [] es)) 25 [.loc 16 0,.loc 16 1] (by simp[laid,kE,aX]) jJ (by simp[aX]) ?_;generalize kK b [] b.nums.length=hs at *;generalize jP b b.nums.length=ss at *;have Z6:=ZhN b hb es hs ss kY hH hS;have hii:0<=item/\item<b.items.length:=by
  unfold Bk.uJ iZ at hit;simp only[dK,decide_eq_true_eq]at hit;omega
 have IE:0<=day/\day<=1000:=by
  unfold iZ at Uw;simp only[dK,decide_eq_true_eq]at Uw;omega
 obtain⟨si,rfl⟩:∃si:Nat,item=si:=⟨item.toNat,by omega⟩;have K7:=Yz b hb es hs ss kY hH (b.span (b.held [])) si (by omega) day 1000 IE hS;have hM:b.vA si day=if b.contra=true then(⟨0,0⟩,9)else(b.kD (b.held []) (b.span (b.held [])) si day 1000,0):=by unfold Bk.vA;rw[if_pos h0]
 rw[hM]at hR;generalize b.kD (b.held []) (b.span (b.held [])) si day 1000=R1 at *;simp[aX];refine cM [.ptr (.par 0) 0] (laid 0 (gQ b es hs ss)) 27 [.loc 25 0,.loc 25 1,.loc 25 2,.loc 16 0,.loc 16 1] (by simp[laid,gQ,aX]) Z6 (by simp[laid,gQ,aX]) ?_;cases nU:b.contra
 .rw[nU,if_neg (by simp)]at hR;simp[laid,gQ,aX];refine cM [.ptr (.par 0) 0,.pv (.i si),.pv (.i day),.pv (.i 1000)] (laid 0 (gQ b es hs ss)) 32 [.loc 25 0,.loc 25 1,.loc 25 2,.loc 16 0,.loc 16 1] (by simp[laid,gQ,aX]) K7 (by simp[laid,gQ,aX]) ?_;simp[laid,gQ,aX,Cr.pv];rw[<-hR];exact⟨rfl,rfl⟩
 .rw[nU,if_pos rfl]at hR;simp[laid,gQ,aX];rw[<-hR];exact⟨rfl,rfl⟩
end
def lexB:List Int->List Int->Bool
 |a::bT,b::bs=>decide (a<b)||(decide (a=b)&&lexB bT bs)
 |[],_::_=>true
 |_,[]=>false
def sE (a b:List Int):Bool:=decide (a.length<b.length)||(decide (a.length=b.length)&&lexB a b)
theorem Zk0:∀a:List Int,lexB a a=false
 |[]=>rfl
 |a::bT=>by unfold lexB;rw[Zk0 bT];simp
theorem ZkZ:∀a b:List Int,a.length=b.length->lexB a b=false->lexB b a=false->a=b
 |[],[],_,_,_=>rfl
 |[],_::_,h,_,_=>by cases h
 |_::_,[],h,_,_=>by cases h
 |a::bT,b::bs,h,h1,h2=>by
  unfold lexB at h1 h2;simp only[Bool.or_eq_false_iff,Bool.and_eq_false_iff,decide_eq_false_iff_not]at h1 h2;have e:a=b:=by omega
  subst e;rw[ZkZ bT bs (by simpa using h) (by simpa using h1.2) (by simpa using h2.2)]
theorem ZgJ:∀a b c:List Int,lexB a b=true->lexB b c=true->lexB a c=true
 |[],[],_,h,_=>by cases h
 |[],b::bs,c,_,h=>by
  cases c with
  |nil=>cases h
  |cons c cs=>rfl
 |a::bT,[],_,h,_=>by cases h
 |a::bT,b::bs,[],_,h=>by cases h
 |a::bT,b::bs,c::cs,h1,h2=>by
  unfold lexB at h1 h2 ⊢;simp only[rT,dK,decide_eq_true_eq]at h1 h2 ⊢;rcases h1 with h1|⟨h1,H7⟩<;>rcases h2 with h2|⟨h2,uA⟩
  .left;omega
  .left;omega
  .left;omega
  .right;exact⟨by omega,ZgJ bT bs cs H7 uA⟩
theorem Gh (a:List Int):sE a a=false:=by unfold sE;rw[Zk0];simp
theorem ZnT {a b:List Int}(h1:sE a b=false)(h2:sE b a=false):a=b:=by
 unfold sE at h1 h2;simp only[Bool.or_eq_false_iff,Bool.and_eq_false_iff,decide_eq_false_iff_not]at h1 h2;have e:a.length=b.length:=by omega
 exact ZkZ a b e (by rcases h1.2 with h|h;exact absurd e h;exact h) (by rcases h2.2 with h|h;exact absurd e.symm h;exact h)
theorem Zir {a b c:List Int}(h1:sE a b=true)(h2:sE b c=true):sE a c=true:=by
 unfold sE at h1 h2 ⊢;simp only[rT,dK,decide_eq_true_eq]at h1 h2 ⊢;rcases h1 with h1|⟨h1,H7⟩<;>rcases h2 with h2|⟨h2,uA⟩
 .left;omega
 .left;omega
 .left;omega
 .right;exact⟨by omega,ZgJ a b c H7 uA⟩
theorem Zk1:∀(a b:List Int) (n:Int),a.length=b.length->lexB (a++[n]) (b++[n])=lexB a b
 |[],[],n,_=>by simp[lexB]
 |[],_::_,_,h=>by cases h
 |_::_,[],_,h=>by cases h
 |a::bT,b::bs,n,h=>by
  show(decide (a<b)||(decide (a=b)&&lexB (bT++[n]) (bs++[n])))=(decide (a<b)||(decide (a=b)&&lexB bT bs));rw[Zk1 bT bs n (by simpa using h)]
theorem Ztg (a b:List Int)(n:Int):sE (a++[n]) (b++[n])=sE a b:=by
 unfold sE;rw[gD,gD];by_cases h:a.length=b.length
 .rw[Zk1 a b n h,qT];simp
 .rw[qT];simp[h]
def iC (o:Option (List Int))(x:List Int):Option (List Int):=match o with
 |none=>some x
 |some m=>if sE x m=true then some x else some m
def lM (l:List (List Int)):Option (List Int):=l.foldl iC none
theorem Zfv:∀(l:List (List Int)) (o:Option (List Int)),(o=none/\l=[]/\l.foldl iC o=none)\/∃m,l.foldl iC o=some m/\(o=some m\/m∈l)/\(∀x∈l,sE x m=false)/\∀x,o=some x->sE x m=false
 |[],none=>.inl ⟨rfl,rfl,rfl⟩
 |[],some x=>.inr ⟨x,rfl,.inl rfl,fun y hy=>(by cases hy),fun y hy=>by cases hy;exact Gh x⟩
 |y::l,o=>by
  rw[List.foldl_cons];have key:∃z,iC o y=some z/\(o=some z\/z=y)/\sE y z=false/\∀x,o=some x->sE x z=false:=by
   cases o with
   |none=>exact⟨y,rfl,.inr rfl,Gh y,fun x hx=>by cases hx⟩
   |some m=>
    unfold iC;simp only;split
    .rename_i h;refine⟨y,rfl,.inr rfl,Gh y,fun x hx=>?_⟩;cases hx;rw[Bool.eq_false_iff];intro h'
     have:=Zir h h'
     rw[Gh]at this;cases this
    .rename_i h;exact⟨m,rfl,.inl rfl,by simpa using h,fun x hx=>by cases hx;exact Gh m⟩
  obtain⟨z,h1,h2,h3,h4⟩:=key;rw[h1];rcases Zfv l (some z)with⟨h,_⟩|⟨m,k1,k2,k3,k4⟩
  .cases h
  .have kz:=k4 z rfl;have lift:∀x,sE x z=false->sE x m=false:=fun x hx=>by
    rw[Bool.eq_false_iff];intro h';by_cases e:sE z x=true
    .have:=Zir e h'
     rw[kz]at this;cases this
    .have:x=z:=ZnT hx (by simpa using e)
     subst this;rw[kz]at h';cases h'
   refine .inr ⟨m,k1,?_,fun x hx=>?_,fun x hx=>lift x (h4 x hx)⟩
   .rcases k2 with k2|k2
    .cases k2;rcases h2 with h2|h2
     .exact .inl h2
     .right;rw[h2];simp
    .right;simp[k2]
   .rcases jO.1 hx with e|e
    .subst e;exact lift _ h3
    .exact k3 x e
theorem KI {l:List (List Int)}:lM l=none↔l=[]:=by
 rcases Zfv l none with⟨_,h1,h2⟩|⟨m,h1,h2,_⟩
 .exact⟨fun _=>h1,fun _=>h2⟩
 .constructor
  .intro h;rw[lM,h1]at h;cases h
  .intro h;subst h;rcases h2 with h2|h2
   .cases h2
   .cases h2
theorem OC {l:List (List Int)}{m:List Int}(h:lM l=some m):m∈l/\∀x∈l,sE x m=false:=by
 rcases Zfv l none with⟨_,_,h2⟩|⟨m',h1,h2,h3,_⟩
 .rw[lM,h2]at h;cases h
 .rw[lM,h1]at h;cases h;rcases h2 with h2|h2
  .cases h2
  .exact⟨h2,h3⟩
theorem Lw {l:List (List Int)}{m:List Int}(h1:m∈l)(h2:∀x∈l,sE x m=false):lM l=some m:=by
 cases h:lM l with
 |none=>rw[KI]at h;subst h;cases h1
 |some m'=>
  obtain⟨k1,k2⟩:=OC h;rw[ZnT (k2 m h1) (h2 m' k1)]
theorem Ziq {l l':List (List Int)}(h:∀x,x∈l↔x∈l'):lM l=lM l':=by
 cases hm:lM l with
 |none=>
  rw[KI]at hm;subst hm;symm;rw[KI];cases l' with
  |nil=>rfl
  |cons x l'=>exact absurd ((h x).2 (by simp)) (by simp)
 |some m=>
  obtain⟨h1,h2⟩:=OC hm;exact(Lw ((h m).1 h1) fun x hx=>h2 x ((h x).2 hx)).symm
theorem ZgE {α:Type}{L:List α}{f:α->List (List Int)}:lM (L.flatMap f)=lM (L.filterMap fun x=>lM (f x)):=by
 cases hm:lM (L.flatMap f)with
 |none=>
  rw[KI,List.flatMap_eq_nil_iff]at hm;symm;rw[KI,List.filterMap_eq_nil_iff];exact fun x hx=>KI.2 (hm x hx)
 |some m=>
  obtain⟨h1,h2⟩:=OC hm;obtain⟨x,hx,K4⟩:=List.mem_flatMap.1 h1;have e:lM (f x)=some m:=Lw K4 fun y hy=>h2 y (List.mem_flatMap.2 ⟨x,hx,hy⟩)
  refine(Lw (List.mem_filterMap.2 ⟨x,hx,e⟩) fun y hy=>?_).symm;obtain⟨z,hz,hzy⟩:=List.mem_filterMap.1 hy;exact h2 y (List.mem_flatMap.2 ⟨z,hz,(OC hzy).1⟩)
theorem Zp0 {l:List (List Int)}{n:Int}:lM (l.map (·++[n]))=(lM l).map (·++[n]):=by
 cases hm:lM l with
 |none=>rw[KI]at hm;subst hm;rfl
 |some m=>
  obtain⟨h1,h2⟩:=OC hm;refine Lw (iJ.2 ⟨m,h1,rfl⟩) fun x hx=>?_
  obtain⟨y,hy,rfl⟩:=iJ.1 hx;rw[Ztg];exact h2 y hy
theorem LN (x:Int):aD prog 241 [.i x] (.bool false):=by
 refine cS L241 ?_;simp[L241]
def wT (x y:Int):Int:=if x<y then -1 else if y<x then 1 else 0
theorem Ek (x y:Int):aD prog 194 [.i x,.i y] (.i (wT x y)):=by
 refine cS L194 ?_;simp[L194];refine cG [.i x] (LN x) ?_;simp;refine cG [.i y] (LN y) ?_;simp;unfold wT;by_cases h1:x<y
 .simp[h1]
 .by_cases h2:y<x
  .simp[h1,h2]
  .simp[h1,h2]
def cmpL:List Int->List Int->Int
 |[],[]=>0
 |[],_::_=>-1
 |_::_,[]=>1
 |a::r,b::t=>if wT a b=0 then cmpL r t else wT a b
theorem Zoz {a b:List Int}{k:Nat}{x y:Int}(h1:a[k]?=some x)(h2:b[k]?=some y):cmpL (a.drop k) (b.drop k)=if wT x y=0 then cmpL (a.drop (k+1)) (b.drop (k+1))else wT x y:=by
 obtain⟨q1,e1⟩:=cA.1 h1;obtain⟨q2,e2⟩:=cA.1 h2;rw[AD q1,AD q2,e1,e2];rfl
theorem Zov (a b:List Int)(ha:a.length<=2000)(hb:b.length<=2000):aD prog 158 [.aE false 1 (a.map aO),.aE false 1 (b.map aO)] (.i (cmpL a b)):=by
 refine cS L158 ?_;simp[L158];refine eP (fun n τ=>∃k:Nat,k<=a.length/\k<=b.length/\n=a.length-k/\cmpL a b=cmpL (a.drop k) (b.drop k)/\τ=⟨[(0,.pv (.aE false 1 (a.map aO))),(1,.pv (.aE false 1 (b.map aO))),(9,.pv (.aE false 1 (a.map aO))),(10,.pv (.i a.length)),(11,.pv (.i k))],[]⟩)
  ⟨a.length,⟨[(0,.pv (.aE false 1 (a.map aO))),(1,.pv (.aE false 1 (b.map aO))),(9,.pv (.aE false 1 (a.map aO))),(10,.pv (.i a.length)),(11,.pv (.i 0))],[]⟩,Sub.mk (by simp) (by simp),0,gY _,gY _,rfl,rfl,rfl⟩ ?_
 rintro J hJ n τ ⟨k,hk,sF,rfl,hinv,rfl⟩;rw[hinv];by_cases aJ:k<a.length
 .obtain⟨x,hx⟩:∃x,a[k]?=some x:=⟨a[k],bC aJ⟩;have oN:(a.map aO)[k]?=some (.i x):=by rw[bX,hx];rfl
  have hw:=bN (k:=k) (by omega);have aG:a.length-(k+1)<a.length-k:=by omega
  have jA:decide ((k:Int)<(a.length:Int))=true:=by simp;omega
  by_cases kH:k<b.length
  .obtain⟨y,hy⟩:∃y,b[k]?=some y:=⟨b[k],bC kH⟩;have IB:(b.map aO)[k]?=some (.i y):=by rw[bX,hy];rfl
   have yQ:¬b.length<=k:=by omega
   have y8:=Zoz hx hy;have mB:=Ek x y;have aB:=fun h:wT x y=0=>hJ _ _ ⟨k+1,aJ,kH,rfl,by rw[hinv,y8,if_pos h],rfl⟩
   rw[y8];generalize wT x y=c at *;simp[-decide_eq_true_eq,-decide_eq_false_iff_not,aJ,↓oN,yQ,↓IB];refine cG [.i x,.i y] mB ?_;cases hc:decide (c=0)
   .have sS:¬c=0:=by simpa using hc
    simp[sS]
   .have sS:c=0:=by simpa using hc
    have aB:=aB sS;simp[sS,hw];exact⟨_,_,aG,Sub.mk (by simp) (by simp),aB⟩
  .have EY:k=b.length:=by omega
   have yQ:b.length<=k:=by omega
   have hv:cmpL (a.drop k) (b.drop k)=1:=by
    rw[EY,List.drop_length,AD (by omega)];rfl
   rw[hv];simp[-decide_eq_true_eq,-decide_eq_false_iff_not,aJ,↓oN,yQ]
 .have he:k=a.length:=by omega
  subst he;clear hJ;rw[List.drop_length];by_cases hl:a.length<b.length
  .have hd:decide ((a.length:Int)<(b.length:Int))=true:=by simp;omega
   have hv:cmpL [] (b.drop a.length) = -1:=by rw[AD hl];rfl
   rw[hv];simp[-decide_eq_true_eq,-decide_eq_false_iff_not,hl]
  .have hd:decide ((a.length:Int)<(b.length:Int))=false:=by simp;omega
   have hv:cmpL [] (b.drop a.length)=0:=by rw[List.drop_eq_nil_of_le (by omega)];rfl
   rw[hv];simp[-decide_eq_true_eq,-decide_eq_false_iff_not,hd,hl]
def JD (a b:List Int):Int:=if(a.length:Int)-b.length=0 then cmpL a b else(a.length:Int)-b.length
theorem Zoy:∀a b:List Int,a.length=b.length->decide (cmpL a b<0)=lexB a b
 |[],[],_=>rfl
 |[],_::_,h=>by cases h
 |_::_,[],h=>by cases h
 |a::r,b::t,h=>by
  have ih:=Zoy r t (by simpa using h);show decide ((if wT a b=0 then cmpL r t else wT a b)<0)=(decide (a<b)||(decide (a=b)&&lexB r t));unfold wT;by_cases h1:a<b
  .rw[if_pos h1];simp[h1]
  .rw[if_neg h1];by_cases h2:b<a
   .rw[if_pos h2]
    have:¬a=b:=by omega
    simp[h1,this]
   .have e:a=b:=by omega
    rw[if_neg h2,if_pos rfl,ih];simp[e]
theorem ZoL (a b:List Int):decide (JD a b<0)=sE a b:=by
 unfold JD sE;by_cases h:a.length=b.length
 .rw[if_pos (by omega),Zoy a b h];simp[h]
 .rw[if_neg (by omega),qT];simp[h];omega
theorem Qk (x y:Int):aD prog 157 [.aE false 1 [.i x,.i y]] (.i (if x=0 then y else x)):=by
 refine cS L157 ?_;simp[L157];have S:Nat->AS:=fun k=>⟨[(3,.pv (.i 0)),(6,.pv (.aE false 1 [.i x,.i y])),(7,.pv (.i 2)),(8,.pv (.i k))],[]⟩
 refine eP (fun n τ=>(n=2/\τ=⟨[(3,.pv (.i 0)),(6,.pv (.aE false 1 [.i x,.i y])),(7,.pv (.i 2)),(8,.pv (.i 0))],[]⟩)\/(n=1/\x=0/\τ=⟨[(3,.pv (.i 0)),(6,.pv (.aE false 1 [.i x,.i y])),(7,.pv (.i 2)),(8,.pv (.i 1))],[]⟩)\/(n=0/\x=0/\y=0/\τ=⟨[(3,.pv (.i 0)),(6,.pv (.aE false 1 [.i x,.i y])),(7,.pv (.i 2)),(8,.pv (.i 2))],[]⟩)) ⟨2,_,Sub.mk (by simp) (by simp),.inl ⟨rfl,rfl⟩⟩ ?_;have w1:IntKind.i64.wrap 1=1:=rfl;have w2:IntKind.i64.wrap 2=2:=rfl;rintro J hJ n τ (⟨rfl,rfl⟩|⟨rfl,hx,rfl⟩|⟨rfl,hx,hy,rfl⟩)
 .by_cases h:x=0
  .have aB:=hJ _ _ (.inr (.inl ⟨rfl,h,rfl⟩));clear hJ;subst h;simp[w1];exact⟨_,_,(by omega:1<2),Sub.mk (by simp) (by simp),aB⟩
  .simp[h]
 .subst hx;by_cases h:y=0
  .have aB:=hJ _ _ (.inr (.inr ⟨rfl,rfl,h,rfl⟩));clear hJ;subst h;simp[w2];exact⟨_,_,(by omega:0<1),Sub.mk (by simp) (by simp),aB⟩
  .simp[h]
 .subst hx hy;simp
theorem Zlq (a b:List Int)(ha:a.length<=2000)(hb:b.length<=2000):aD prog 115 [.aE false 1 (a.map aO),.aE false 1 (b.map aO)] (.i (JD a b)):=by
 have hc:=Zov a b ha hb;have hw:IntKind.i64.wrap ((a.length:Int)-(b.length:Int))=(a.length:Int)-b.length:=wrap64 (by omega);have ho:=Qk ((a.length:Int)-b.length) (cmpL a b);refine cS L115 ?_;simp[L115,hw];refine cG [.aE false 1 (a.map aO),.aE false 1 (b.map aO)] hc ?_;simp;refine gG (k:=1) (fs:=[]) (xs:=[.aE false 1 [.i ((a.length:Int)-b.length),.i (cmpL a b)]]) (cs:=[]) rfl rfl ho rfl ?_;simp[JD]
section
def Bk.z8 (b:Bk)(held:List Int):Nat->Int->List (List Int)
 |0,_=>[]
 |k+1,n=>if n=(k:Int)then(if(b.item (b.get n).src).gV=true then[[n]]else(held.filter fun m=>zD (b.get n) (b.get m)).flatMap fun m=>(b.z8 held k m).map (·++[n]))else b.z8 held k n
theorem Nb {b:Bk}{held:List Int}{k:Nat}{n:Int}:b.z8 held (k+1) n=if n=(k:Int)then(if(b.item (b.get n).src).gV=true then[[n]]else(held.filter fun m=>zD (b.get n) (b.get m)).flatMap fun m=>(b.z8 held k m).map (·++[n]))else b.z8 held k n:=rfl
theorem Zgd {b:Bk}{held:List Int}{n:Int}:∀{k:Nat},n<(k:Int)->∀j,b.z8 held (k+j) n=b.z8 held k n
 |k,h,0=>rfl
 |k,h,j+1=>by
  rw[<-Nat.add_assoc,Nb,if_neg (by omega)];exact Zgd h j
def Bk.AG (b:Bk)(held:List Int)(n:Int):List (List Int):=b.z8 held 1000 n
theorem ZiP {b:Bk}(hb:b.ok){held:List Int}(hh:∀m∈held,m∈b.nums){n:Nat}(hn:n<1000)(VE:(n:Int)∈b.nums):b.AG held n=if(b.item (b.get n).src).gV=true then[[(n:Int)]]else(held.filter fun m=>zD (b.get n) (b.get m)).flatMap fun m=>(b.AG held m).map (·++[(n:Int)]):=by
 have e:b.AG held n=b.z8 held (n+1) n:=by
  unfold Bk.AG;rw[show 1000=n+1+(1000-(n+1)) by omega];exact Zgd (by omega) _
 rw[e,Nb,if_pos rfl];split
 .rfl
 .have key:∀L:List Int,(∀m∈L,m<(n:Int))->(L.flatMap fun m=>(b.z8 held n m).map (·++[(n:Int)]))=L.flatMap fun m=>(b.AG held m).map (·++[(n:Int)]):=by
   intro L;induction L with
   |nil=>exact fun _=>rfl
   |cons m L ih=>
    intro h;rw[List.flatMap_cons,List.flatMap_cons,ih fun x hx=>h x (by simp[hx])];congr 2;unfold Bk.AG;rw[show 1000=n+(1000-n) by omega];exact(Zgd (h m (by simp)) _).symm
  refine key _ fun m hm=>?_
  rw[iV]at hm;have h1:=hm.2;unfold zD at h1;simp only[dK,decide_eq_true_eq]at h1;have h2:=(V4 hb (hh m hm.1)).2;have h3:=(V4 hb VE).2;omega
def Bk.DV (b:Bk)(held:List Int)(n:Int):Option (List Int):=lM (b.AG held n)
theorem Zol {b:Bk}(hb:b.ok){held:List Int}(hh:∀m∈held,m∈b.nums){n:Nat}(hn:n<1000)(VE:(n:Int)∈b.nums):b.DV held n=if(b.item (b.get n).src).gV=true then some [(n:Int)]else lM ((held.filter fun m=>zD (b.get n) (b.get m)).filterMap fun m=>(b.DV held m).map (·++[(n:Int)])):=by
 unfold Bk.DV;rw[ZiP hb hh hn VE];split
 .rfl
 .rw[ZgE];congr 2;funext m;exact Zp0
theorem XI {b:Bk}(hb:b.ok){bad:List Int}:∀m∈b.held bad,m∈b.nums:=fun m hm=>by
 obtain⟨c,hc,e,_⟩:=(KH hb).1 hm;exact(w9 hb).2 ⟨c,hc,e⟩
def Bk.Ew (b:Bk)(held:List Int)(item day:Int):Option (List Int):=lM ((held.filter fun m=>decide ((b.get m).it=item)&&(b.get m).on day).flatMap (b.AG held))
theorem Zq2 {b:Bk}{held:List Int}{item day:Int}:b.Ew held item day=lM ((held.filter fun m=>decide ((b.get m).it=item)&&(b.get m).on day).filterMap (b.DV held)):=by
 unfold Bk.Ew;rw[ZgE];rfl
theorem Zll {b:Bk}{held:List Int}:∀(k:Nat) (n:Int),∀l∈b.z8 held k n,∃l',l=l'++[n]
 |0,n,l,h=>by cases h
 |k+1,n,l,h=>by
  rw[Nb]at h;split at h
  .split at h
   .simp at h;exact⟨[],by simpa using h⟩
   .obtain⟨m,_,hm⟩:=List.mem_flatMap.1 h;obtain⟨l',_,rfl⟩:=iJ.1 hm;exact⟨l',rfl⟩
  .exact Zll k n l h
theorem ZjT {b:Bk}(hb:b.ok):∀n:Nat,(n:Int)∈b.held []->b.AG (b.held []) n≠[]:=by
 intro n;induction n using Nat.strongRecOn with
 |_ n ih=>
 intro hx;have VE:=XI hb _ hx;obtain⟨h1,h2⟩:=V4 hb VE;obtain⟨n',yK,h3,h4⟩:=FR hb h1
 have:n'=n:=by omega
 subst this;rw[ZiP hb (XI hb) h4 VE];split
 .simp
 .rename_i hs;intro e;rw[List.flatMap_eq_nil_iff]at e;obtain⟨c,hc,e1,e2⟩:=(KH hb).1 hx;have hcg:b.get (n':Int)=c:=by rw[<-e1];exact s9 hb hc
  unfold Bk.Q9 at e2;rw[dK,rT]at e2;rcases e2.1 with h|h
  .rw[<-hcg]at h;exact hs h
  .rw[oU]at h;obtain⟨o,ho,h5⟩:=h;rw[dK,jC]at h5;obtain⟨m,hm,_,_⟩:=FR hb ho;have aJ:o.num<c.num:=by have:=h5.1;unfold zD at this;simp only[dK,decide_eq_true_eq]at this;exact this.1.2
   have gR:o.num∈(b.held []).filter fun m=>zD (b.get n') (b.get m):=by
    rw[iV,hcg,s9 hb ho];exact⟨h5.2,h5.1⟩
   have:=e o.num gR
   rw[List.map_eq_nil_iff,hm]at this;rw[hm]at h5;exact ih m (by omega) h5.2 this
attribute [local irreducible] Bk.held Bk.nums Bk.span Bk.AG
theorem Zs {b:Bk}{held:List Int}:∀(k:Nat) (n:Int),∀l∈b.z8 held k n,l.length<=k
 |0,n,l,h=>by cases h
 |k+1,n,l,h=>by
  rw[Nb]at h;split at h
  .split at h
   .simp at h;subst h;simp
   .obtain⟨m,_,hm⟩:=List.mem_flatMap.1 h;obtain⟨l',lH,rfl⟩:=iJ.1 hm
    have:=Zs k m l' lH
    rw[gD];simp;exact this
  .have:=Zs k n l h;omega
def Bk.uH (b:Bk)(n:Int):List Int:=(b.DV (b.held []) n).getD []
theorem Gm {b:Bk}{n:Int}:(b.uH n).length<=1000:=by
 unfold Bk.uH;cases h:b.DV (b.held []) n with
 |none=>simp
 |some l=>
  unfold Bk.DV at h
  have:=(OC h).1
  unfold Bk.AG at this;exact Zs 1000 n l this
theorem KB {b:Bk}(hb:b.ok){n:Int}(h:(b.held []).contains n=true):b.DV (b.held []) n=some (b.uH n)/\b.uH n≠[]:=by
 have hx:=jC.1 h;have hn:=Ga hb n (Fo hb hx);obtain⟨nn,rfl⟩:∃nn:Nat,n=nn:=⟨n.toNat,by omega⟩;unfold Bk.uH;cases he:b.DV (b.held []) (nn:Int)with
 |none=>
  unfold Bk.DV at he;rw[KI]at he;exact absurd he (ZjT hb nn hx)
 |some l=>
  refine⟨rfl,fun e=>?_⟩;unfold Bk.DV at he
  have:=(OC he).1
  unfold Bk.AG at this;obtain⟨l',lH⟩:=Zll 1000 _ l this;have e':l=[]:=e;rw[e']at lH;simp at lH
structure x5 (b:Bk)(below:Int)(em:List (PV×PV)):Prop where
 k:A1 kI em=true
 f:∀m:Int,m<below->(eZ (.i m) em).getD (.emp (some true))=if(b.held []).contains m=true then .aE false 1 ((b.uH m).map aO)else .emp (some true)
theorem Zp (H:Int->Bool)(hs:List (PV×PV))(hH:mU H hs)(c:Ct):cN prog 113 [.pv c.pv,.ptr (.par 0) 0] (laid 0 (eT hs 0)) (fun r B=>r=.pv (.bool (H c.num))/\B=laid 0 (eT hs 0)):=by
 have hf:=hH.f c.num;have hk:=hH.k;refine cB [.par 0,.par 1] L113 ?_;simp[L113,eT,laid,Ct.pv,hf,hk]
theorem ZqH:aD prog 69 [.emp (some true)] (.emp (some true)):=by
 refine cS L69 ?_;simp[L69,dI]
end
section
attribute [local irreducible] Bk.held Bk.nums Bk.span Bk.uH
theorem NG:zE prog (pE P2) L74.code:=Gg L74_ok L74_tab
def oT:Option (List Int)->PV
 |none=>.emp (some true)
 |some l=>.aE false 1 (l.map aO)
noncomputable def c6 (b:Bk)(es hs em:List (PV×PV))(n:Int)(s:Option (List Int)):List aK:=[.loop (fR prog 74 0) [72] 136 [(11,.ptr (.par 2) 0),(12,.ptr (.par 5) 0),(14,.ptr (.par 7) 0),(16,.ptr (.par 1) 0)] none,
 .cells [.pv (oT s)],.cells [.fn 113 [] [.ptr (.par 3) 0]],.cells [.mp (.par 4)],.map hs,.cells [.mp (.par 6)],.map em,.cells [.pv (.i n)],gX (.par 9),.cells (aX b (.par 10) (gB [])),.map es]
def Fk (b:Bk)(n:Int)(s:Option (List Int))(c:Ct):Option (List Int):=match(b.held []).contains c.num with
 |true=>iC s (b.uH c.num++[n])
 |false=>s
def ZrS (s:Option (List Int)):Prop:=∀l,s=some l->l≠[]/\l.length<=1001
noncomputable def VV (b:Bk)(es hs em:List (PV×PV))(n:Int)(s:Option (List Int))(y:Ct)(a:AV)(B:List (Site×aK)):AS:=⟨[(11,.ptr (.par 2) 0),(12,.ptr (.par 5) 0),(14,.ptr (.par 7) 0),(16,.ptr (.par 1) 0),(17,.ptr (.loc 17 0) 0),(77,a),(79,.vec (.loc 79 0) 1 0 1)],
 (laid 0 (c6 b es hs em n s)).drop 1++((.loc 17 0,.cells [.pv (.i y.num),.pv (.i y.it),.pv (.i y.src),.pv (.i y.day),.pv (.i y.valid),.pv (.i y.diff.lo),.pv (.i y.diff.hi)])::(.loc 79 0,.arr 3 1 [.i n])::B)⟩
noncomputable def NI (b:Bk)(hb:b.ok)(es hs em:List (PV×PV))(hH:mU (fun n=>(b.held []).contains n) hs)(n:Int)(hE:x5 b n em):Cons prog where
 m:=11
 S:=Option (List Int)
 X:=c6 b es hs em n
 step s x:=(Fk b n s (IZ x),true)
 good x:=∃c:Ct,c.num<n/\x=c.pv
 live:=ZrS
 m0:=by omega
 len _:=rfl
 cl c:=by
  intro bx hb;simp only[c6,jO,List.not_mem_nil,or_false]at hb;rcases hb with rfl|rfl|rfl|rfl|rfl|rfl|rfl|rfl|rfl|rfl|rfl
  all_goals first|rfl|simp[aX,Site.lt,I9]
 goes s x hs hx _:=by
  obtain⟨y,hy,rfl⟩:=hx;rw[Fx];have hl:=Gm (b:=b) (n:=y.num);intro l lH;unfold Fk at lH;split at lH
  .unfold iC at lH;split at lH
   .cases lH;exact⟨by simp,by rw[gD];simp;omega⟩
   .split at lH
    .cases lH;exact⟨by simp,by rw[gD];simp;omega⟩
    .exact hs l lH
  .exact hs l lH
 sJ s x hc hx:=by
  obtain⟨y,hy,rfl⟩:=hx;rw[Fx];have oP:zE prog (pE P2) (.vH 136 (.t 71) (fR prog 74 0) Y74_0a Y74_0b [72]):=NG.2.2.2.2.2.1.2.2.2.1.2.2.2.2.1.2;have hf:=hE.f y.num hy;have hk:=hE.k;have mN:=Zp _ hs hH y;have hlen:=Gm (b:=b) (n:=y.num);have M5:=fun h:(b.held []).contains y.num=true=>(KB hb h).2
  have kA:Fk b n s y=match(b.held []).contains y.num with
   |true=>iC s (b.uH y.num++[n])
   |false=>s:=rfl
  rw[kA];clear kA;generalize b.uH y.num=E at *;generalize CW:(b.held []).contains y.num=v at *;refine YA mixed oP.1 oP.2.1 rfl rfl (by simp) rfl ?_;cases v
  .rw[if_neg (by simp)]at hf;simp[-getElem?_pos,-List.getElem?_map,Y74_0a,Y74_0b,c6,laid,qK,Ct.pv,gX,aX,hk,hf];refine JX (VV b es hs em n s y (.pv (.emp (some true))) []) ?_ ?_
   .simp[-getElem?_pos,-List.getElem?_map,gP,gZ];refine⟨?_,?_⟩
    all_goals
     refine cQ [] [.emp (some true)] ZqH ?_;simp[-getElem?_pos,-List.getElem?_map,aM,gP,gZ];refine Sub.mk ?_ ?_
     .simp
     .simp[c6,laid,gX,aX]
   .simp[-getElem?_pos,-List.getElem?_map,gP,gZ,VV,c6,laid,gX,aX,aP];refine cM [.pv y.pv,.ptr (.par 0) 0] (laid 0 (eT hs 0)) 83 [.par 3,.par 4] (by simp[laid,eT]) mN (by simp[laid,eT]) ?_;simp[-getElem?_pos,-List.getElem?_map,laid,eT,-aU];exact⟨[],[.par 1,.par 2,.par 3,.par 4,.par 5,.par 6,.par 7,.par 8,.par 9,.par 10],rfl,rfl,by simp[aY],rfl,by simp[aY]⟩
  .rw[if_pos rfl]at hf;simp[-getElem?_pos,-List.getElem?_map,Y74_0a,Y74_0b,c6,laid,qK,Ct.pv,gX,aX,hk,hf];refine JX (VV b es hs em n s y (.vec (.loc 77 0) 1 0 E.length) [(.loc 77 0,.arr 3 1 (E.map aO))]) ?_ ?_
   .simp[-getElem?_pos,-List.getElem?_map,gP,gZ];refine⟨?_,?_⟩
    all_goals
     refine ZqO [] (fs:=[]) (xs:=[.aE false 1 (E.map aO)]) (cs:=[]) rfl rfl (Zu E (M5 rfl) (by omega)) ?_;simp[-getElem?_pos,-List.getElem?_map,aM,gP,gZ];refine Sub.mk ?_ ?_
     .simp[VV]
     .simp[VV,c6,laid,gX,aX]
   .have IU:E.length<=999999:=by omega
    have VR:(E.map aO).take E.length=E.map aO:=fP (by simp);have DE:(E.map aO++[PV.i n]).take (E.length+1)=E.map aO++[PV.i n]:=fP (by simp);simp[-getElem?_pos,-List.getElem?_map,gP,gZ,VV,c6,laid,gX,aX,aP,IU];refine cM [.pv y.pv,.ptr (.par 0) 0] (laid 0 (eT hs 0)) 83 [.par 3,.par 4] (by simp[laid,eT]) mN (by simp[laid,eT]) ?_;cases s with
    |none=>
     simp[-getElem?_pos,-List.getElem?_map,laid,eT,oT,dI,-aU];exact⟨[.loc 80 0],[.par 1,.par 2,.par 3,.par 4,.par 5,.par 6,.par 7,.par 8,.par 9,.par 10],rfl,rfl,by simp[aY,AS.cH,AV.cH,AV.aY,aK.cH,FE,eB,DE],rfl,by simp[aY,AS.cH,AV.cH,AV.aY,aK.cH,FE,eB,DE,iC,aO]⟩
    |some l=>
     obtain⟨y4,oY⟩:=hc l rfl;have qO:dI .sl (.pv (.aE false 1 (l.map aO)))=some false:=by
      cases l with
      |nil=>exact absurd rfl y4
      |cons a r=>rfl
     have Vg:=Zlq (E++[n]) l (by rw[gD];simp;omega) (by omega);have aJ:=ZoL (E++[n]) l;have bU:iC (some l) (E++[n])=if sE (E++[n]) l=true then some (E++[n])else some l:=rfl;rw[bU];simp[-getElem?_pos,-List.getElem?_map,laid,eT,oT,qO,-aU];refine gG (k:=0) (fs:=[]) (xs:=[.aE false 1 ((E++[n]).map aO),.aE false 1 (l.map aO)]) (cs:=[]) rfl (by simp[jF,AV.snap,AV.FM,aO];try exact DE) Vg rfl ?_;cases hd:sE (E++[n]) l
     .rw[hd]at aJ;simp[-getElem?_pos,-List.getElem?_map,-decide_eq_true_eq,-decide_eq_false_iff_not,aJ,-aU];exact⟨[],[.par 1,.par 2,.par 3,.par 4,.par 5,.par 6,.par 7,.par 8,.par 9,.par 10],rfl,rfl,by simp[aY],rfl,by simp[aY]⟩
     .rw[hd]at aJ;simp[-getElem?_pos,-List.getElem?_map,-decide_eq_true_eq,-decide_eq_false_iff_not,aJ,-aU];exact⟨[.loc 80 0],[.par 1,.par 2,.par 3,.par 4,.par 5,.par 6,.par 7,.par 8,.par 9,.par 10],rfl,rfl,by simp[aY,AS.cH,AV.cH,AV.aY,aK.cH,FE,eB,DE],rfl,by simp[aY,AS.cH,AV.cH,AV.aY,aK.cH,FE,eB,DE,aO]⟩
end
section
attribute [local irreducible] Bk.held Bk.nums Bk.span Bk.uH
noncomputable def NH (b:Bk)(es hs em:List (PV×PV))(s:Option (List Int)):List aK:=[.loop (fR prog 74 1) [115] 136 [(11,.ptr (.par 2) 0),(12,.ptr (.par 5) 0),(19,.ptr (.par 1) 0)] none,
 .cells [.pv (oT s)],.cells [.fn 113 [] [.ptr (.par 3) 0]],.cells [.mp (.par 4)],.map hs,.cells [.mp (.par 6)],.map em,gX (.par 8),.cells (aX b (.par 9) (gB [])),.map es]
def Fl (b:Bk)(s:Option (List Int))(c:Ct):Option (List Int):=match(b.held []).contains c.num with
 |true=>iC s (b.uH c.num)
 |false=>s
noncomputable def SI (b:Bk)(hb:b.ok)(es hs em:List (PV×PV))(hH:mU (fun n=>(b.held []).contains n) hs)(hE:x5 b 1000 em):Cons prog where
 m:=10
 S:=Option (List Int)
 X:=NH b es hs em
 step s x:=(Fl b s (IZ x),true)
 good x:=∃c:Ct,c.num<1000/\x=c.pv
 live:=ZrS
 m0:=by omega
 len _:=rfl
 cl c:=by
  intro bx hb;simp only[NH,jO,List.not_mem_nil,or_false]at hb;rcases hb with rfl|rfl|rfl|rfl|rfl|rfl|rfl|rfl|rfl|rfl
  all_goals first|rfl|simp[aX,Site.lt,I9]
 goes s x hs hx _:=by
  obtain⟨y,hy,rfl⟩:=hx;rw[Fx];have hl:=Gm (b:=b) (n:=y.num);intro l lH;unfold Fl at lH;split at lH
  .rename_i hh;have cZ:=(KB hb hh).2;unfold iC at lH;split at lH
   .cases lH;exact⟨cZ,by omega⟩
   .split at lH
    .cases lH;exact⟨cZ,by omega⟩
    .exact hs l lH
  .exact hs l lH
 sJ s x hc hx:=by
  obtain⟨y,hy,rfl⟩:=hx;rw[Fx];have oP:zE prog (pE P2) (.vH 136 (.t 114) (fR prog 74 1) Y74_1a Y74_1b [115]):=NG.2.2.2.2.2.2.2.1.2;have hf:=hE.f y.num hy;have hk:=hE.k;have mN:=Zp _ hs hH y;have hlen:=Gm (b:=b) (n:=y.num);have M5:=fun h:(b.held []).contains y.num=true=>(KB hb h).2
  have kA:Fl b s y=match(b.held []).contains y.num with
   |true=>iC s (b.uH y.num)
   |false=>s:=rfl
  rw[kA];clear kA;generalize b.uH y.num=E at *;generalize CW:(b.held []).contains y.num=v at *;refine YA mixed oP.1 oP.2.1 rfl rfl (by simp) rfl ?_;cases v
  .rw[if_neg (by simp)]at hf;simp[-getElem?_pos,-List.getElem?_map,Y74_1a,Y74_1b,NH,laid,qK,Ct.pv,gX,aX,hk,hf];refine cM [.pv y.pv,.ptr (.par 0) 0] (laid 0 (eT hs 0)) 122 [.par 3,.par 4] (by simp[laid,eT]) mN (by simp[laid,eT]) ?_;simp[-getElem?_pos,-List.getElem?_map,laid,eT,-aU];exact⟨[],[.par 1,.par 2,.par 3,.par 4,.par 5,.par 6,.par 7,.par 8,.par 9],rfl,rfl,by simp[aY],rfl,by simp[aY]⟩
  .rw[if_pos rfl]at hf;simp[-getElem?_pos,-List.getElem?_map,Y74_1a,Y74_1b,NH,laid,qK,Ct.pv,gX,aX,hk,hf];refine cM [.pv y.pv,.ptr (.par 0) 0] (laid 0 (eT hs 0)) 122 [.par 3,.par 4] (by simp[laid,eT]) mN (by simp[laid,eT]) ?_;cases s with
   |none=>
    simp[-getElem?_pos,-List.getElem?_map,laid,eT,oT,dI,-aU];exact⟨[],[.par 1,.par 2,.par 3,.par 4,.par 5,.par 6,.par 7,.par 8,.par 9],rfl,rfl,by simp[aY],rfl,by simp[aY,iC]⟩
   |some l=>
    obtain⟨y4,oY⟩:=hc l rfl;have qO:dI .sl (.pv (.aE false 1 (l.map aO)))=some false:=by
     cases l with
     |nil=>exact absurd rfl y4
     |cons a r=>rfl
    have Vg:=Zlq E l (by omega) (by omega);have aJ:=ZoL E l;have bU:iC (some l) E=if sE E l=true then some E else some l:=rfl;rw[bU];simp[-getElem?_pos,-List.getElem?_map,laid,eT,oT,qO,-aU];refine cG [.aE false 1 (E.map aO),.aE false 1 (l.map aO)] Vg ?_;cases hd:sE E l
    .rw[hd]at aJ;simp[-getElem?_pos,-List.getElem?_map,-decide_eq_true_eq,-decide_eq_false_iff_not,aJ,-aU];exact⟨[],[.par 1,.par 2,.par 3,.par 4,.par 5,.par 6,.par 7,.par 8,.par 9],rfl,rfl,by simp[aY],rfl,by simp[aY]⟩
    .rw[hd]at aJ;simp[-getElem?_pos,-List.getElem?_map,-decide_eq_true_eq,-decide_eq_false_iff_not,aJ,-aU];exact⟨[],[.par 1,.par 2,.par 3,.par 4,.par 5,.par 6,.par 7,.par 8,.par 9],rfl,rfl,by simp[aY],rfl,by simp[aY,aX,aO]⟩
theorem ZoM {b:Bk}{hb:b.ok}{es hs em:List (PV×PV)}{hH:mU (fun n=>(b.held []).contains n) hs}{n:Int}{hE:x5 b n em}:∀(l:List Ct) (s:Option (List Int)),(NI b hb es hs em hH n hE).run s (lS l)=((((l.filter fun c=>(b.held []).contains c.num).map fun c=>b.uH c.num++[n])).foldl iC s,true)
 |[],s=>rfl
 |x::l,s=>by
  show(NI b hb es hs em hH n hE).run (Fk b n s x) (lS l)=_;rw[ZoM l];unfold Fk;cases h:(b.held []).contains x.num
  .simp only[xP,h,Bool.false_eq_true,if_false];rfl
  .simp only[xP,h,if_true,iN,List.foldl_cons];rfl
theorem ZoK {b:Bk}{hb:b.ok}{es hs em:List (PV×PV)}{hH:mU (fun n=>(b.held []).contains n) hs}{hE:x5 b 1000 em}:∀(l:List Ct) (s:Option (List Int)),(SI b hb es hs em hH hE).run s (lS l)=((((l.filter fun c=>(b.held []).contains c.num).map fun c=>b.uH c.num)).foldl iC s,true)
 |[],s=>rfl
 |x::l,s=>by
  show(SI b hb es hs em hH hE).run (Fl b s x) (lS l)=_;rw[ZoK l];unfold Fl;cases h:(b.held []).contains x.num
  .simp only[xP,h,Bool.false_eq_true,if_false];rfl
  .simp only[xP,h,if_true,iN,List.foldl_cons];rfl
end
section
attribute [local irreducible] Bk.held Bk.nums Bk.span Bk.uH
def IY (b:Bk)(n:Int):PV:=.aE false 1 ((b.uH n).map aO)
def mP (b:Bk)(k:Nat):List (PV×PV):=nR id (IY b) ((b.nums.take k).filter fun n=>(b.held []).contains n)
theorem Zqw {b:Bk}(hb:b.ok){k:Nat}{n:Int}(h:b.nums[k]?=some n):x5 b n (mP b k):=by
 refine⟨OH,fun m hm=>?_⟩;unfold mP;rw[KC,Gj];cases hc:(b.held []).contains m
 .rw[if_neg (by rw[iV,hc];simp),if_neg (by simp)];rfl
 .rw[if_pos (by
   rw[iV,Na h];exact⟨⟨Fo hb (jC.1 hc),hm⟩,hc⟩),if_pos rfl];rfl
theorem Zop {b:Bk}(hb:b.ok):x5 b 1000 (mP b b.nums.length):=by
 refine⟨OH,fun m hm=>?_⟩;unfold mP;rw[KC,Gj,mX];cases hc:(b.held []).contains m
 .rw[if_neg (by rw[iV,hc];simp),if_neg (by simp)];rfl
 .rw[if_pos (by
   rw[iV];exact⟨Fo hb (jC.1 hc),hc⟩),if_pos rfl];rfl
theorem Zoo {b:Bk}{k:Nat}{n:Int}(h:b.nums[k]?=some n)(hx:(b.held []).contains n=false):mP b (k+1)=mP b k:=by
 unfold mP;rw[mR,h,I1]
 have:(Option.some n).toList.filter (fun n=>(b.held []).contains n)=[]:=by
  simp only[Option.toList,xP,hx,List.filter_nil];rfl
 rw[this,tG]
theorem Zqv {b:Bk}{k:Nat}{n:Int}(h:b.nums[k]?=some n)(hx:(b.held []).contains n=true):mI (.i n) (IY b n) (mP b k)=mP b (k+1):=by
 unfold mP;rw[Gv (fun x hm=>?_),mR,h,I1]
 .have:(Option.some n).toList.filter (fun n=>(b.held []).contains n)=[n]:=by
   simp only[Option.toList,xP,hx,List.filter_nil];rfl
  rw[this];unfold nR;rw[mH];rfl
 .have:=(Na h).1 (iV.1 hm).1
  show x≠n;omega
def U5 (b:Bk)(n:Int):Option (List Int):=(((b.qX (b.get n).src (b.get n).day n).filter fun c=>(b.held []).contains c.num).map fun c=>b.uH c.num++[n]).foldl iC none
theorem ZtJ {b:Bk}(hb:b.ok){n:Int}(hn:n∈b.nums)(hx:(b.held []).contains n=true)(hs:(b.item (b.get n).src).gV=false):U5 b n=some (b.uH n):=by
 rw[<-(KB hb hx).1];have II:=Ga hb n hn;obtain⟨nn,rfl⟩:∃nn:Nat,n=nn:=⟨n.toNat,by omega⟩;rw[Zol hb (XI hb) (by omega) hn,if_neg (by simp[hs])];obtain⟨rR,nU⟩:=V4 hb hn;refine Ziq fun x=>?_
 rw[iJ,List.mem_filterMap];constructor
 .rintro⟨c,hc,rfl⟩;rw[iV]at hc;obtain⟨h1,h2⟩:=(AL hb).1 hc.1;refine⟨c.num,?_,?_⟩
  .rw[iV];refine⟨jC.1 hc.2,?_⟩;rw[s9 hb h1,Mz,nU];exact h2
  .rw[(KB hb hc.2).1];rfl
 .rintro⟨m,hm,rN⟩;rw[iV]at hm;obtain⟨H0,nF⟩:=hm;have QE:=XI hb m H0;obtain⟨g1,g2⟩:=V4 hb QE;have Bh:(b.held []).contains m=true:=jC.2 H0;rw[(KB hb Bh).1]at rN;refine⟨b.get m,?_,?_⟩
  .rw[iV,AL hb,g2];refine⟨⟨g1,?_⟩,Bh⟩;rw[Mz,nU]at nF;exact nF
  .rw[g2];simpa using rN
theorem Zqt {b:Bk}(hb:b.ok){n:Int}(hn:n∈b.nums)(hs:(b.item (b.get n).src).gV=true):b.uH n=[n]:=by
 have II:=Ga hb n hn;obtain⟨nn,rfl⟩:∃nn:Nat,n=nn:=⟨n.toNat,by omega⟩;unfold Bk.uH;rw[Zol hb (XI hb) (by omega) hn,if_pos hs];rfl
def Bk.FL (b:Bk)(item day:Int):List Int:=(b.Ew (b.held []) item day).getD []
def Bk.j3 (b:Bk)(item day:Int):List Int×Int:=if b.uY item day=0 then(if(b.item item).gV=true then([],0)else(b.FL item day,0))else([],b.uY item day)
def zW (b:Bk)(item day:Int):Option (List Int):=(((b.qX item day 1000).filter fun c=>(b.held []).contains c.num).map fun c=>b.uH c.num).foldl iC none
theorem Zq1 {b:Bk}(hb:b.ok){item day:Int}:zW b item day=b.Ew (b.held []) item day:=by
 rw[Zq2];refine Ziq fun x=>?_
 rw[iJ,List.mem_filterMap];constructor
 .rintro⟨c,hc,rfl⟩;rw[iV]at hc;obtain⟨h1,h2⟩:=(AL hb).1 hc.1;refine⟨c.num,?_,(KB hb hc.2).1⟩;rw[iV];refine⟨jC.1 hc.2,?_⟩;rw[s9 hb h1];unfold Bk.pV at h2;rw[dK]at h2;exact h2.2
 .rintro⟨m,hm,rN⟩;rw[iV]at hm;obtain⟨H0,nF⟩:=hm;have QE:=XI hb m H0;have II:=Ga hb m QE;obtain⟨g1,g2⟩:=V4 hb QE;have Bh:(b.held []).contains m=true:=jC.2 H0;rw[(KB hb Bh).1]at rN;refine⟨b.get m,?_,?_⟩
  .rw[iV,AL hb,g2];refine⟨⟨g1,?_⟩,Bh⟩;unfold Bk.pV;rw[dK];exact⟨by rw[g2];simp;omega,nF⟩
  .rw[g2];simpa using rN
theorem Zma {b:Bk}(hb:b.ok){item day:Int}(hs:(b.item item).gV=false)(hh:b.pU item day=true):zW b item day=some (b.FL item day)/\b.FL item day≠[]/\(b.FL item day).length<=1000:=by
 have he:zW b item day=b.Ew (b.held []) item day:=Zq1 hb;unfold Bk.pU at hh;rw[hs,Bool.false_or,oU]at hh;obtain⟨c,MO,FB⟩:=hh;have cZ:(((b.qX item day 1000).filter fun c=>(b.held []).contains c.num).map fun c=>b.uH c.num)≠[]:=by
  intro e
  have:c∈(b.qX item day 1000).filter fun c=>(b.held []).contains c.num:=iV.2 ⟨MO,FB⟩
  rw[List.map_eq_nil_iff]at e;rw[e]at this;cases this
 unfold Bk.FL;rw[<-he];cases pO:zW b item day with
 |none=>
  exact absurd (KI.1 pO) cZ
 |some l=>
  refine⟨rfl,?_⟩;have hm:=(OC pO).1;rw[iJ]at hm;obtain⟨o,ho,rfl⟩:=hm;exact⟨(KB hb (iV.1 ho).2).2,Gm⟩
end
theorem Mw {α:Type}{l:List α}{p:α->Bool}{k:Nat}{x:α}(h:∀(j:Nat) (x:α),j<k->l[j]?=some x->p x=true)(hx:l[k]?=some x)(hp:p x=true):∀(j:Nat) (x:α),j<k+1->l[j]?=some x->p x=true:=fun j y hj hy=>by
 rcases Nat.lt_succ_iff_lt_or_eq.1 hj with e|e
 .exact h j y e hy
 .subst e;rw[hx]at hy;cases hy;exact hp
theorem Lj {α:Type}{l:List α}{p:α->Bool}{k:Nat}{x:α}(hx:l[k]?=some x)(hp:p x=false):l.all p=false:=by
 rw[List.all_eq_false];exact⟨x,dL hx,by simp[hp]⟩
theorem Me {α:Type}{l:List α}{p:α->Bool}(h:∀(j:Nat) (x:α),j<l.length->l[j]?=some x->p x=true):l.all p=true:=by
 rw[rA];intro x hx;obtain⟨j,hj⟩:=iK.1 hx;exact h j x (cA.1 hj).1 hj
def Ct.cells (c:Ct):List AV:=[.pv (.i c.num),.pv (.i c.it),.pv (.i c.src),.pv (.i c.day),.pv (.i c.valid),.pv (.i c.diff.lo),.pv (.i c.diff.hi)]
theorem XD {α:Type}{l:List α}{p:α->Bool}{k:Nat}{x:α}(hx:l[k]?=some x):(l.take (k+1)).any p=((l.take k).any p||p x):=by
 rw[mR,hx,List.any_append];simp
theorem Zei {b:Bk}(hb:b.ok){c:Ct}(hc:c∈b.aA):IntKind.i64.wrap (c.day+c.valid)=c.day+c.valid:=by
 obtain⟨_,_,_,_,_,_,_,_,h1,h2,h3,h4,_⟩:=xC hb hc;exact wrap64 (by omega)
theorem Mk {b:Bk}{i:Int}(h0:0<=i)(h1:i<b.items.length):∃j:Nat,i=j/\j<b.items.length/\∃z,b.items[j]?=some z/\b.item i=z/\(b.items.map It.pv)[j]?=some (.agg [.i z.dR,.bool z.gV,.i z.val.lo,.i z.val.hi]):=by
 have hz:b.items[i.toNat]?=some (b.items[i.toNat]'(by omega)):=bC _;refine⟨i.toNat,by omega,by omega,_,hz,?_,?_⟩
 .unfold Bk.item;rw[hz];rfl
 .rw[bX,hz];rfl
theorem zV {b:Bk}{k:Nat}(h:k<b.aA.length):∃o,b.aA[k]?=some o/\o∈b.aA/\(b.aA.map Ct.pv)[k]?=some (.agg [.i o.num,.i o.it,.i o.src,.i o.day,.i o.valid,.i o.diff.lo,.i o.diff.hi]):=by
 have hz:b.aA[k]?=some (b.aA[k]'h):=bC _;exact⟨_,hz,dL hz,by rw[bX,hz];rfl⟩
theorem wN (l:List Int)(n:Int)(hl:l.length<=1000000):aD prog 76 [.aE false 1 (l.map aO),.i n] (.bool (l.contains n)):=by
 obtain⟨T,hT⟩:∃T,T=l.contains n:=⟨_,rfl⟩;rw[<-hT];refine cS L76 ?_;simp[L76];refine eP (fun m τ=>∃k:Nat,k<=l.length/\m=l.length-k/\(∀(j:Nat) (x:Int),j<k->l[j]?=some x->decide (x=n)=false)/\τ=⟨[(0,.pv (.aE false 1 (l.map aO))),(1,.pv (.i n)),(5,.pv (.i k))],[]⟩) ⟨l.length,⟨[(0,.pv (.aE false 1 (l.map aO))),(1,.pv (.i n)),(5,.pv (.i 0))],[]⟩,Sub.mk (by simp) (by simp),0,gY _,rfl,(fun j x hj=>by omega),rfl⟩ ?_;rintro J hJ m τ ⟨k,hk,rfl,hinv,rfl⟩;by_cases aJ:k<l.length
 .obtain⟨x,hx⟩:∃x,l[k]?=some x:=⟨l[k],bC aJ⟩;have oN:(l.map aO)[k]?=some (.i x):=by rw[bX,hx];rfl
  have hw:=bN (k:=k) (by omega);cases hc:decide (x=n)
  .have aB:=hJ _ _ ⟨k+1,aJ,rfl,(fun j y hj hy=>by
    rcases Nat.lt_succ_iff_lt_or_eq.1 hj with h'|h'
    .exact hinv j y h' hy
    .subst h';rw[hx]at hy;cases hy;exact hc),rfl⟩
   simp[-decide_eq_true_eq,-decide_eq_false_iff_not,aJ,↓oN,hw,hc];exact⟨_,_,(by omega:l.length-(k+1)<l.length-k),Sub.mk (by simp) (by simp),aB⟩
  .have De:T=true:=by
    rw[hT,jC];simp only[decide_eq_true_eq]at hc;rw[<-hc];exact dL hx
   simp[-decide_eq_true_eq,-decide_eq_false_iff_not,aJ,↓oN,hc,De]
 .have he:k=l.length:=by omega
  subst he;have De:T=false:=by
   rw[hT];cases hc:l.contains n
   .rfl
   .obtain⟨j,hj⟩:=iK.1 (jC.1 hc)
    have:=hinv j n (cA.1 hj).1 hj
    simp at this
  simp[De]
section
attribute [local irreducible] Bk.held Bk.nums Bk.span Bk.uH Bk.FL U5 zW
def Kl (b:Bk)(item day:Int)(es hs:List (PV×PV))(k:Nat):AS:=⟨[(1,.pv (.i item)),(2,.pv (.i day)),(8,.ptr (.loc 26 0) 0),(11,.ptr (.loc 11 0) 0),(12,.ptr (.loc 12 0) 0),(49,.pv (.aE false 1 (b.nums.map aO))),(50,.pv (.i b.nums.length)),(51,.pv (.i k))],
 [(.loc 45 0,.map (mP b k)),(.loc 12 0,.cells [.mp (.loc 45 0)]),(.loc 11 0,.cells [.fn 113 [] [.ptr (.loc 9 0) 0]]),(.loc 9 0,.cells [.mp (.loc 26 2)]),(.loc 26 0,.cells (aX b (.loc 26 1) (gB []))),(.loc 26 1,.map es),(.loc 26 2,.map hs)]⟩
theorem Zvj (b:Bk)(hi:b.items.length<=1000)(hc:b.aA.length<=1000)(item day:Int):cN prog 74 ([b.pv,.i item,.i day].map .pv) [] (fun r B=>r=.pv (K1 (b.j3 item day))/\B=[]):=by
 have RC:=ZoV b hi hc item day;refine cN.i7 ?_;refine Q4 [.loc 135 0] L74 ?_;intro R hR;simp[L74,Bk.pv,-aU];refine cL [.pv b.pv,.pv (.i item),.pv (.i day)] [] 26 [] rfl RC ?_
 rintro r0 B0 (⟨h0,rfl,rfl⟩|⟨h0,y7,hit,Uw,hih,es,kY,rfl,rfl⟩)
 .refine⟨rfl,by simp,?_⟩;have hd:decide (b.uY item day=0)=false:=by simpa using h0
  simp[-decide_eq_true_eq,-decide_eq_false_iff_not,hd];rw[<-hR];exact⟨_,rfl,rfl,XB (by unfold Bk.j3;rw[if_neg h0])⟩
 have hb:b.ok:=Bk.V3.1 y7;have hH:=TM hb [];have hlen:=XF (b:=b);obtain⟨si,rfl,M0,z,hz,E7,qA⟩:=Mk (b:=b) (i:=item) (by unfold Bk.uJ iZ at hit;simp only[dK,decide_eq_true_eq]at hit;omega) (by unfold Bk.uJ iZ at hit;simp only[dK,decide_eq_true_eq]at hit;omega);refine⟨rfl,by simp[aX],?_⟩;generalize kK b [] b.nums.length=hs at *;cases HN:z.gV
 case true=>
  rw[HN]at qA;simp[aX,aT,qA];rw[<-hR];exact⟨_,rfl,rfl,XB (by unfold Bk.j3;rw[if_pos h0,if_pos (by rw[E7];exact HN)])⟩
 case false=>
 rw[HN]at qA;simp[aX,aT,qA,-aU];refine eP (fun n τ=>∃k:Nat,k<=b.nums.length/\n=b.nums.length-k/\τ=Kl b si day es hs k) ⟨b.nums.length,Kl b si day es hs 0,Sub.mk (by simp) (by simp[aX,aT,mP,nR]),0,gY _,rfl,rfl⟩ ?_;rintro J hJ n τ ⟨k,hk,rfl,rfl⟩;by_cases aJ:k<b.nums.length
 .obtain⟨x,hx⟩:∃x,b.nums[k]?=some x:=⟨b.nums[k],bC aJ⟩;have K4:=dL hx;have oN:(b.nums.map aO)[k]?=some (.i x):=by rw[bX,hx];rfl
  have hw:=bN (k:=k) (by omega);have aG:b.nums.length-(k+1)<b.nums.length-k:=by omega
  obtain⟨rR,nU⟩:=V4 hb K4;have mG:=kY.f x;rw[if_pos K4]at mG;have T5:=kY.k;have jL:=xC hb rR;have aB:=hJ _ _ ⟨k+1,aJ,rfl,rfl⟩;have nE:=Zqv hx;have K9:=Zoo hx;have MZ:=Zqw hb hx;have hek:=MZ.k;have PR:=Zqt hb K4;have CC:=ZtJ hb K4;have MR:=Zp _ hs hH (b.get x);have hit:=Fh (NI b hb es hs (mP b k) hH x MZ) b hb [] es kY 8 9 10 (fun c _=>⟨rfl,rfl⟩) (fun c _=>rfl) (b.get x).src (b.get x).day x none (fun l h=>by cases h) (fun c hc=>⟨c,by
   have:=((AL hb).1 hc).2
   unfold Bk.pV at this;simp only[dK,decide_eq_true_eq]at this;exact this.1,rfl⟩)
  have dG:(NI b hb es hs (mP b k) hH x MZ).run none (lS (b.qX (b.get x).src (b.get x).day x))=(U5 b x,true):=by rw[ZoM];unfold U5;rfl
  rw[dG]at hit;clear hJ dG;unfold Kl at aB ⊢;have gO:=fun s=>(NI b hb es hs (mP b k) hH x MZ).cl s
  generalize mP b k=em at *;generalize b.get x=y at *;obtain⟨yn,yi,ys,yd,yv,⟨yl,yh⟩⟩:=y;simp only at nU jL hit PR CC MR;subst nU;unfold Ct.pv at mG;obtain⟨sj,rfl⟩:∃sj:Nat,ys=sj:=⟨ys.toNat,by omega⟩;obtain⟨nn,rfl⟩:∃nn:Nat,yn=nn:=⟨yn.toNat,by omega⟩;have CD:sj<b.items.length:=by omega
  obtain⟨u,hu⟩:∃u,b.items[sj]?=some u:=⟨b.items[sj],bC CD⟩;have Bz:(b.items.map It.pv)[sj]?=some (.agg [.i u.dR,.bool u.gV,.i u.val.lo,.i u.val.hi]):=by rw[bX,hu];rfl
  have hui:b.item (sj:Int)=u:=by unfold Bk.item;rw[H9,hu];rfl
  rw[hui]at PR CC;simp[aX,aJ,↓oN,T5,mG,-aU];refine cM [.pv (Ct.pv ⟨nn,yi,sj,yd,yv,⟨yl,yh⟩⟩),.ptr (.par 0) 0] (laid 0 (eT hs 0)) 63 [.loc 9 0,.loc 26 2] (by simp[laid,eT]) MR (by simp[laid,eT]) ?_;generalize CW:(b.held []).contains (nn:Int)=v at *;cases v
  .rw[K9 rfl]at aB;simp[laid,eT,hw,-aU];exact⟨_,_,aG,Sub.mk (by simp) (by simp[aX]),aB⟩
  have CC:=CC rfl;rw[<-nE rfl]at aB;simp[laid,eT,-aU];refine cM [.ptr (.par 0) 0,.pv (.i sj),.pv (.i yd),.pv (.i nn)] (laid 0 (kE b [] es)) 71 [.loc 26 0,.loc 26 1] (by simp[laid,kE,aX]) (BH b [] es sj yd nn) (by simp[laid,kE,aX]) ?_;simp[laid,kE,aX,OT,-aU];refine XH [.loc 136 0,.loc 16 0,.loc 11 0,.loc 9 0,.loc 26 2,.loc 12 0,.loc 45 0,.loc 14 0,.loc 71 0,.loc 26 0,.loc 26 1] [(11,.ptr (.loc 11 0) 0),(12,.ptr (.loc 12 0) 0),(14,.ptr (.loc 14 0) 0),(16,.ptr (.loc 16 0) 0)] (gf:=155) (fs:=[]) (cs:=[.ptr (.loc 71 0) 0,.pv (.ref [.i nn]),.pv (.ref [.i sj]),.pv (.ref [.i yd])]) ?_ ?_ rfl rfl ?_ ?_ ?_ hit ?_
  .rfl
  .simp
  .simp[NI,c6,oT,laid,aX,gX]
  .rfl
  .rfl
  rintro r B' ⟨rfl,rfl⟩;refine⟨rfl,?_,?_⟩
  .exact fun p hp=>XA (n:=11) (L:=c6 b es hs em nn (U5 b nn)) (by simp[c6]) (gO (U5 b nn)) p hp
  refine⟨_,_,_,_,_,rfl,?_⟩;clear gO;generalize U5 b nn=M at *;have hgu':=Bz;cases oK:u.gV
  .rw[oK]at Bz;have hM:=CC oK;subst hM;simp[NI,c6,laid,kW,aX,gX,oT,aT,↓Bz,hek,hw,-aU];exact⟨_,_,aG,Sub.mk (by simp) (by simp[aX,IY,aT]),aB⟩
  .rw[oK]at Bz;have hE:=PR oK;simp[NI,c6,laid,kW,aX,gX,oT,aT,↓Bz,CD,hek,hw,FE,eB,-aU];exact⟨_,_,aG,Sub.mk (by simp) (by simp[aX,IY,hE,aT,aO]),aB⟩
 have he:k=b.nums.length:=by omega
 subst he;clear hJ;have MZ:=Zop hb;have tS:(b.item (si:Int)).gV=false:=by rw[E7];exact HN
 obtain⟨hF,hL0,Kc⟩:=Zma hb tS hih;have hM:b.j3 si day=(b.FL si day,0):=by unfold Bk.j3;rw[if_pos h0,if_neg (by rw[tS];simp)]
 have hit:=Fh (SI b hb es hs (mP b b.nums.length) hH MZ) b hb [] es kY 7 8 9 (fun c _=>⟨rfl,rfl⟩) (fun c _=>rfl) si day 1000 none (fun l h=>by cases h) (fun c hc=>⟨c,by
  have:=((AL hb).1 hc).2
  unfold Bk.pV at this;simp only[dK,decide_eq_true_eq]at this;exact this.1,rfl⟩)
 have dG:(SI b hb es hs (mP b b.nums.length) hH MZ).run none (lS (b.qX si day 1000))=(some (b.FL si day),true):=by rw[<-hF,ZoK];unfold zW;rfl
 rw[dG]at hit;have gO:=fun s=>(SI b hb es hs (mP b b.nums.length) hH MZ).cl s
 have U0:=Zu (b.FL si day) hL0 (by omega);rw[hM]at hR;clear dG hF hM;unfold Kl;generalize mP b b.nums.length=em at *;generalize b.FL si day=L at *;simp[aX,-aU];refine cM [.ptr (.par 0) 0,.pv (.i si),.pv (.i day),.pv (.i 1000)] (laid 0 (kE b [] es)) 114 [.loc 26 0,.loc 26 1] (by simp[laid,kE,aX]) (BH b [] es si day 1000) (by simp[laid,kE,aX]) ?_;simp[laid,kE,aX,OT,-aU];refine XH [.loc 136 0,.loc 19 0,.loc 11 0,.loc 9 0,.loc 26 2,.loc 12 0,.loc 45 0,.loc 114 0,.loc 26 0,.loc 26 1] [(11,.ptr (.loc 11 0) 0),(12,.ptr (.loc 12 0) 0),(19,.ptr (.loc 19 0) 0)] (gf:=155) (fs:=[]) (cs:=[.ptr (.loc 114 0) 0,.pv (.ref [.i 1000]),.pv (.ref [.i si]),.pv (.ref [.i day])]) ?_ ?_ rfl rfl ?_ ?_ ?_ hit ?_
 .rfl
 .simp
 .simp[SI,NH,oT,laid,aX,gX]
 .rfl
 .rfl
 rintro r B' ⟨rfl,rfl⟩;refine⟨rfl,?_,?_⟩
 .exact fun p hp=>XA (n:=10) (L:=NH b es hs em (some L)) (by simp[NH]) (gO (some L)) p hp
 refine⟨_,_,_,_,_,rfl,?_⟩;clear gO;simp[SI,NH,laid,kW,aX,gX,oT,-aU];refine cM [.pv (.aE false 1 (L.map aO))] [] 135 [] rfl U0 (by simp) ?_;have hLm:(L.map aO).take L.length=L.map aO:=fP (by simp);simp[hLm,-aU];rw[<-hR];exact⟨_,rfl,rfl,fun m v h=>h⟩
end
theorem ZoN:aD prog 68 [.aE false 7 []] (.aE false 7 []):=by
 refine cN.i7 ?_;refine cF [.loc 7 0] L68 ?_;simp[L68,dI,w8,aP,bZ,B7];exact fun m v h=>AK h
def fS (l:List Ct)(bad:List Int):List Ct:=l.filter (fun x=>!wW bad x)
def fD (l:List Ct)(bad:List Int):Bk:=⟨qV,fS l bad⟩
theorem Mb (l:List Ct)(bad:List Int)(c d e:PV)(hl:l.length<=1000)(hb:bad.length<=1000):cN prog 43 [.ptr (.par 0) 0] [(.par 0,aQ (aL l) (.aE false 1 (bad.map iP)) c d e)] (fun r B=>r=.pv (fD l bad).pv/\B=[(.par 0,aQ (aL l) (.aE false 1 (bad.map iP)) c d e)]):=by
 refine N9 [.par 0] L43 ?_;intro R hR;simp[L43,aQ,aL];by_cases hn:l=[]
 .subst hn;simp only[List.map_nil];refine .inl (cQ [] [.aE false 7 []] ZoN ?_);simp;refine cM [.pv (.aE false 7 []),.fn 86 [] [.ptr (.par 0) 0]] (laid 0 ((eS.wk (.aE false 7 []) (.aE false 1 (bad.map iP)) c d e).b 0)) 11 [.loc 1 0,.par 0] (by simp[laid,eS.b,aQ]) (Ea _ _ c d e) (by simp[laid,eS.b,aQ]) ?_;simp[laid,eS.b,aQ];refine .inl (cQ [] [] Ze ?_);simp[<-hR,fD,fS,Bk.pv,aL,aT,aQ]
 .refine .inl (R4 [] (fs:=[]) (xs:=[.aE false 7 (l.map Ct.pv)]) (cs:=[]) (d:=9) rfl rfl (ZgY (l.map Ct.pv) (by rw[fZ];omega)) ?_);rintro r B (⟨h,rfl,rfl⟩|⟨rfl,rfl⟩)
  .exact absurd (List.map_eq_nil_iff.1 h) hn
  refine⟨by simp,?_⟩;simp;refine cL [.vec (.par 0) 7 0 l.length,.fn 86 [] [.ptr (.par 1) 0]] (laid 0 (.arr 88 7 (l.map Ct.pv)::(eS.wk (aL l) (.aE false 1 (bad.map iP)) c d e).b 1)) 11 [.loc 9 0,.loc 1 0,.par 0] (by simp[laid,eS.b,aQ,aL]) (Dy (.wk _ _ c d e) (ZE _ c d e bad hb) l hl) ?_
  rintro r0 B0 ⟨rfl,X,hX,rfl⟩;refine⟨rfl,by simp[laid,eS.b,aQ,aL],?_⟩;have VP:(X.map Ct.pv).take (fS l bad).length=(fS l bad).map Ct.pv:=by rw[<-List.map_take];exact congrArg _ hX
  have H5:(fS l bad).length<=X.length:=by
   have:=congrArg List.length hX
   rw[gN]at this;unfold fS;omega
  have hgf:(l.filter fun x=>!wW bad x)=fS l bad:=rfl;simp only[hgf];simp[laid,eS.b,aQ,aL];refine .inl (cQ [.loc 9 0] [] Ze ?_);simp[<-hR,fD,Bk.pv,aL,aT,aQ,VP,H5]
theorem Gy (l:List Ct)(bad:List Int)(c d e:PV)(hl:l.length<=1000)(hb:bad.length<=1000)(fU item day rd:Int):cN prog 36 [.ptr (.par 0) 0,.pv (.agg [.i fU,.i item,.i day,.i rd])] [(.par 0,aQ (aL l) (.aE false 1 (bad.map iP)) c d e)] (fun r B=>r=.pv (.bool (decide (((fD l bad).j3 item day).2=0)))/\B=[(.par 0,aQ (aL l) (.aE false 1 (bad.map iP)) c d e)]):=by
 have nY:=Mb l bad c d e hl hb;have FC:=Zvj (fD l bad) (show qV.length<=1000 by decide) (by unfold fD fS;exact lJ (Q7 _ _) hl) item day;refine N9 [.par 0] L36 ?_;intro R hR;simp[L36,aQ];refine ED (fun τ=>τ=⟨[(9,.pv (fD l bad).pv),(11,.pv (.i item)),(13,.pv (.i day))],[(.par 0,aQ (aL l) (.aE false 1 (bad.map iP)) c d e)]⟩) ?_ ?_
 .simp[gP,gZ]
  repeat' apply And.intro
  all_goals
   refine cM [.ptr (.par 0) 0] [(.par 0,aQ (aL l) (.aE false 1 (bad.map iP)) c d e)] 9 [.par 0] (by simp[aQ]) nY (by simp[aQ]) ?_;simp[aQ];exact Sub.mk (by simp) (by simp)
 .rintro τ rfl;simp[gP,gZ,aQ];refine .inl (cQ [] [(fD l bad).pv,.i item,.i day] FC ?_);simp[K1];rw[<-hR];exact⟨rfl,by simp[aQ]⟩
theorem ZrL (l:List Ct)(bad:List Int)(c d e:PV)(hl:l.length<=1000)(hb:bad.length<=1000)(fU item day rd limit:Int)(dF:IntKind.i64.wrap (rd+((fD l bad).vA item day).1.lo)=rd+((fD l bad).vA item day).1.lo):cN prog 118 [.ptr (.par 0) 0,.pv (.agg [.i fU,.i item,.i day,.i rd]),.pv (.i limit)] [(.par 0,aQ (aL l) (.aE false 1 (bad.map iP)) c d e)] (fun r B=>r=.pv (.bool (decide (limit<=rd+((fD l bad).vA item day).1.lo)))/\B=[(.par 0,aQ (aL l) (.aE false 1 (bad.map iP)) c d e)]):=by
 have nY:=Mb l bad c d e hl hb;have FC:=Zvf (fD l bad) (show qV.length<=1000 by decide) (by unfold fD fS;exact lJ (Q7 _ _) hl) item day;refine N9 [.par 0] L118 ?_;intro R hR;simp[L118,aQ];refine ED (fun τ=>τ=⟨[(18,.pv (.i ((fD l bad).vA item day).2)),(7,.ptr (.loc 7 0) 0),(4,.ptr (.loc 4 0) 0),(2,.pv (.i limit))],[(.loc 7 0,.cells [.pv (.i ((fD l bad).vA item day).1.lo),.pv (.i ((fD l bad).vA item day).1.hi)]),(.loc 4 0,.cells [.pv (.i fU),.pv (.i item),.pv (.i day),.pv (.i rd)]),(.par 0,aQ (aL l) (.aE false 1 (bad.map iP)) c d e)]⟩) ?_ ?_
 .simp[gP,gZ]
  repeat' apply And.intro
  all_goals
   refine cM [.ptr (.par 0) 0] [(.par 0,aQ (aL l) (.aE false 1 (bad.map iP)) c d e)] 11 [.par 0] (by simp[aQ]) nY (by simp[aQ]) ?_;simp[aQ,gP,gZ]
   repeat' apply And.intro
   all_goals
    refine .inl (cQ [] [(fD l bad).pv,.i item,.i day] FC ?_);simp[LC,Cr.pv,gP,gZ]
    repeat' apply And.intro
    all_goals exact Sub.mk (by simp) (by simp)
 .rintro τ rfl;simp[aQ,dF];rw[<-hR];exact⟨rfl,by simp[aQ]⟩
section
theorem Zt4 (l:List PV)(g:FuncId)(fs cs:List PV)(q:PV->Bool)(hq:∀x∈l,aD prog g (fs++[x]++cs) (.bool (q x)))(hl:l.length<=1000000)(hc:∀x∈l,∃a b c,x=.agg [.i a,.i b,.i c]):
  aD prog 248 [.aE false 3 l,.fn g fs cs] (.bool (l.any q)):=
 wX 291 (TB (row:=true) hq hl (fun x hx=>by obtain⟨a,b,c,rfl⟩:=hc x hx;exact⟨_,rfl,rfl⟩))
theorem Zri (x:PV)(g:FuncId)(fs cs:List PV)(b:Bool)(hx:∃a b c,x=.agg [.i a,.i b,.i c])(hq:aD prog g (fs++[x]++cs) (.bool b)):
  aD prog 249 [x,.ref [.fn g fs cs]] (.bool (!b)):=by
 obtain⟨a,b,c,rfl⟩:=hx;refine cS L249 ?_;simp[L249];refine gG (k:=0) rfl rfl hq rfl ?_;simp
theorem Zt8 (l:List PV)(g:FuncId)(fs cs:List PV)(q:PV->Bool)(hq:∀x∈l,aD prog g (fs++[x]++cs) (.bool (q x)))(hl:l.length<=1000000)(hc:∀x∈l,∃a b c,x=.agg [.i a,.i b,.i c]):
  aD prog 199 [.aE false 3 l,.fn g fs cs] (.bool (l.all q)):=by
 refine cS L199 ?_;simp[L199];refine gG (k:=4) rfl rfl (Zt4 l 249 [] [.ref [.fn g fs cs]] (fun x=>!q x) (fun x hx=>Zri x g fs cs (q x) (hc x hx) (hq x hx)) hl hc) rfl ?_;simp[List.not_any_eq_all_not]
theorem Pw:IntKind.i64.wrap 0=0:=by decide
theorem wr1:IntKind.i64.wrap 1=1:=by decide
theorem Ir:IntKind.i64.wrap 2=2:=by decide
theorem wr3:IntKind.i64.wrap 3=3:=by decide
theorem Iq:IntKind.i64.wrap 4=4:=by decide
theorem Ip:IntKind.i64.wrap 5=5:=by decide
theorem wr6:IntKind.i64.wrap 6=6:=by decide
attribute [local simp] Pw wr1 Ir wr3 Iq Ip wr6
theorem Zfo (n low high:Int):aD prog 198 [.i n,.i low,.i high] (.bool (decide (low<=n)&&decide (n<=high))):=by
 refine cS L198 ?_;by_cases h1:low<=n<;>by_cases h2:n<=high<;>simp[L198,h1,h2]
theorem Zsc (a b c:Int):aD prog 200 [.agg [.i a,.i b,.i c]] (.bool (decide (1<=a))):=by
 refine cS L200 ?_;simp[L200]
def dX (k:Int):PV:=.agg [.i 2,.i k,.i 2]
def eG (n:Int):PV:=.agg [.i n,.aE false 3 [dX 0,dX 1]]
theorem Zik (num n limit:Int)(ps:Bool):aD prog 120 [.agg [.i num,.i n,.i limit,.bool ps]] (eG n):=by
 refine cF [.loc 7 0] L120 ?_;simp[L120,eG,dX,aP]
def eD (bad a r:Int):Int:=if bad<=a then 1 else if r<=bad then 2 else 3
theorem Zun (t a r bad:Int):aD prog 161 [.agg [.i t,.i a,.i r],.i bad] (.int .u8 (eD bad a r)):=by
 refine cS L161 ?_;unfold eD;by_cases h1:bad<=a<;>by_cases h2:r<=bad<;>simp[L161,h1,h2]
theorem Zmh:aD prog 199 [.aE false 3 [dX 0,dX 1],.fn 200 [] []] (.bool true):=
 Zt8 [dX 0,dX 1] 200 [] [] (fun _=>true) (fun x hx=>by
  have h:∃k,x=dX k:=by
   simp at hx;rcases hx with rfl|rfl<;>exact⟨_,rfl⟩
  obtain⟨k,rfl⟩:=h;exact Zsc 2 k 2) (by decide) (fun x hx=>by
   simp at hx;rcases hx with rfl|rfl<;>exact⟨_,_,_,rfl⟩)
def JA (n t a b c k:Int):AS:=⟨[(1,.ptr (.loc 1 0) 0),(3,.pv (.i t)),(4,.ptr (.loc 4 0) 0),(31,.pv (.aE false 3 [dX 0,dX 1])),(32,.pv (.i 2)),(33,.pv (.i k))],[(.loc 1 0,.cells [.pv (.i n),.pv (.aE false 3 [dX 0,dX 1])]),(.loc 4 0,.cells [.pv (.i a),.pv (.i b),.pv (.i c)])]⟩
theorem ZjS (n:Int)(h4:4<=n)(RY:n<=30):aD prog 160 [eG n] (.i 0):=by
 have hw:=Zfo n 1 30;have hd:(decide (1<=n)&&decide (n<=30))=true:=by simp;omega
 rw[hd]at hw;have G6:=Zfo 2 1 3;have pY:=Zfo 2 2 5;refine cS L160 ?_;simp[L160,eG];refine cG [.i n,.i 1,.i 30] hw ?_;simp;refine cG [.aE false 3 [dX 0,dX 1],.fn 200 [] []] Zmh ?_;simp;have Jn:∀t:Int,0<=t->t<=4->IntKind.i64.wrap (n-t)=n-t:=fun t h1 h2=>wrap64 (by omega)
 refine eP (fun m τ=>(m=2/\τ=JA n 0 0 (-1) 0 0)\/(m=1/\τ=JA n 2 2 0 2 1)\/(m=0/\τ=JA n 4 2 1 2 2)) ⟨2,JA n 0 0 (-1) 0 0,Sub.mk (by simp) (by simp),.inl ⟨rfl,rfl⟩⟩ ?_;rintro J hJ m τ (⟨rfl,rfl⟩|⟨rfl,rfl⟩|⟨rfl,rfl⟩)
 .have hj:=hJ 1 _ (.inr (.inl ⟨rfl,rfl⟩));have h1:¬(n<2):=by omega
  have h0:IntKind.i64.wrap n=n:=wrap64 (by omega);simp[JA,dX,h0,h1];refine cG [.i 2,.i 1,.i 3] G6 ?_;simp;exact⟨_,_,by decide,Sub.mk (by simp[dX]) (by simp[dX]),hj⟩
 .have hj:=hJ 0 _ (.inr (.inr ⟨rfl,rfl⟩));have h1:¬(n-2<2):=by omega
  have h0:IntKind.i64.wrap (n-2)=n-2:=wrap64 (by omega);simp[JA,dX,setAt,h0,h1];refine cG [.i 2,.i 2,.i 5] pY ?_;simp[setAt];exact⟨_,_,by decide,Sub.mk (by simp[JA,dX]) (by simp[JA,dX]),hj⟩
 .simp[JA,dX]
def dE:List Bool->Int
 |[]=>0
 |x::l=>(if x=true then 1 else 0)+dE l
theorem ZiN {l:List Bool}{k:Nat}{x:Bool}(h:l[k]?=some x):dE (l.take (k+1))=dE (l.take k)+(if x=true then 1 else 0):=by
 induction l generalizing k with
 |nil=>cases h
 |cons y l ih=>
  cases k with
  |zero=>
   simp at h;subst h;simp[dE]
  |succ k=>
   have:=ih (k:=k) (by simpa using h)
   simp only[List.take_succ_cons,dE,this];omega
theorem Zox {l:List Bool}:0<=dE l/\dE l<=l.length:=by
 induction l with
 |nil=>exact⟨Int.le_refl _,Int.le_refl _⟩
 |cons x l ih=>
  simp only[dE,pA]
  split<;>omega
def cY (rs:List Bool):Int×Int×Int:=
 if rs.length<2 then(3,2-(rs.length:Int),0)
 else if eD (dE (rs.take 2)) 0 2=3 then
  (if rs.length<4 then(3,4-(rs.length:Int),0)
  else if 4<rs.length then(0,0,2)else(eD (1+dE ((rs.drop 2).take 2)) 1 2,0,0))
 else if 2<rs.length then(0,0,2)else(eD (dE (rs.take 2)) 0 2,0,0)
def vL (x:Int×Int×Int):PV:=.bM [.int .u8 x.1,.i x.2.1,.i x.2.2]
def ZH (n:Int)(rs:List Bool)(k:Nat):AS:=⟨[(1,.vec (.par 0) 1 0 rs.length),(8,.pv (.i ((2*k:Nat):Int))),(9,.pv (.i (k:Int))),(20,.pv (.aE false 3 [dX 0,dX 1])),(21,.pv (.i 2)),(22,.pv (.i (k:Int)))],[(.par 0,.arr 4 1 (rs.map .bool))]⟩
def UR (rs sub:List Bool)(k j:Nat):AS:=⟨[(1,.vec (.par 0) 1 0 rs.length),(8,.pv (.i ((2*k:Nat):Int))),(9,.pv (.i ((k:Int)+dE (sub.take j)))),(11,.ptr (.loc 11 0) 0),(20,.pv (.aE false 3 [dX 0,dX 1])),(21,.pv (.i 2)),(22,.pv (.i (k:Int))),(46,.vec (.par 0) 1 (2*k) 2),(47,.pv (.i 2)),(48,.pv (.i (j:Int)))],[(.loc 11 0,.cells [.pv (.i 2),.pv (.i (k:Int)),.pv (.i 2)]),(.par 0,.arr 4 1 (rs.map .bool))]⟩
theorem Znu (n:Int)(h4:4<=n)(RY:n<=30)(rs:List Bool)(hl:rs.length<=1000):cN prog 119 [.pv (eG n),.vec (.par 0) 1 0 rs.length] [(.par 0,.arr 4 1 (rs.map .bool))] (fun r B=>r=.pv (vL (cY rs))/\B=[(.par 0,.arr 4 1 (rs.map .bool))]):=by
 refine N9 [.par 0] L119 ?_;intro R hR;simp[L119,eG];refine cG [eG n] (ZjS n h4 RY) ?_;simp;refine eP (fun m τ=>∃k:Nat,(k=0\/(k=1/\2<=rs.length/\dE (rs.take 2)=1))/\m=2-k/\τ=ZH n rs k) ⟨2,ZH n rs 0,Sub.mk (by simp) (by simp),0,.inl rfl,rfl,rfl⟩ ?_;rintro J hJ m τ ⟨k,hk,rfl,rfl⟩;have sF:k<2:=by omega
 have bU:([dX 0,dX 1]:List PV)[k]?=some (.agg [.i 2,.i (k:Int),.i 2]):=by
  rcases hk with rfl|⟨rfl,_⟩<;>rfl
 have sN:IntKind.i64.wrap ((2*k:Nat)+2:Int)=((2*k+2:Nat):Int):=by rw[wrap64 (by omega)];omega
 have y5:((k:Int)<2):=by omega
 by_cases hlen:rs.length<2*k+2
 .have Tw:(rs.length:Int)<((2*k+2:Nat):Int):=by omega
  simp[-Int.natCast_add,-Int.natCast_mul,ZH,y5,↓bU,sN,Tw];rw[<-hR];refine⟨?_,by simp⟩;rw[wrap64 (by omega)];rcases hk with rfl|⟨rfl,h2,hc⟩
  .simp[vL,cY,hlen]
  .have e:eD (dE (rs.take 2)) 0 2=3:=by rw[hc];rfl
   simp[vL,cY,e,show ¬rs.length<2 by omega,show rs.length<4 by omega]
 .have Tw:¬((rs.length:Int)<((2*k+2:Nat):Int)):=by omega
  have sU:(2*k).ble (2*k+2)=true:=Nat.ble_eq_true_of_le (by omega);have pO:(2*k+2).ble rs.length=true:=Nat.ble_eq_true_of_le (by omega);obtain⟨sub,kG⟩:∃sub,sub=(rs.drop (2*k)).take 2:=⟨_,rfl⟩;have X8:sub.length=2:=by rw[kG,gN,uG];omega
  have hse:List.drop (2*k) (List.take (2*k+2) (List.map PV.bool rs))=sub.map .bool:=by
   rw[kG,List.drop_take,Nat.add_sub_cancel_left,List.map_take,List.map_drop]
  have wE:=Zox (l:=sub);simp[-Int.natCast_add,-Int.natCast_mul,ZH,y5,↓bU,sN,Tw,sU,pO];refine eP (fun m τ=>∃j:Nat,j<=2/\m=2-j/\τ=UR rs sub k j) ⟨2,UR rs sub k 0,Sub.mk (by simp[dE]) (by simp),0,gY _,rfl,rfl⟩ ?_;rintro J2 uT m τ ⟨j,hj,rfl,rfl⟩;by_cases CO:j<2
  .obtain⟨x,hx⟩:∃x,sub[j]?=some x:=⟨sub[j],bC (by omega)⟩;have hg:(rs.map PV.bool)[2*k+j]?=some (.bool x):=by
    rw[kG,mE,if_pos CO,mS]at hx;rw[bX,hx];rfl
   have Kd:=uT (2-(j+1)) _ ⟨j+1,CO,rfl,rfl⟩;unfold UR at Kd;rw[ZiN hx]at Kd;have Z6:=Zox (l:=sub.take j);have gO:((sub.take j).length:Int)<=2:=by rw[gN];omega
   have zQ:(j:Int)<2:=by omega
   have PJ:=bN (k:=j) (by omega);cases x with
   |false=>
    simp[-Int.natCast_mul,UR,zQ,↓hg,PJ,cU,CO];exact⟨_,_,(by omega:2-(j+1)<2-j),Sub.mk (by simp) (by simp),Kd⟩
   |true=>
    have PK:IntKind.i64.wrap ((k:Int)+dE (sub.take j)+1)=(k:Int)+(dE (sub.take j)+1):=by rw[wrap64 (by omega)];omega
    simp[-Int.natCast_mul,UR,zQ,↓hg,PJ,PK,cU,CO];exact⟨_,_,(by omega:2-(j+1)<2-j),Sub.mk (by simp) (by simp),Kd⟩
  .have Jx:j=2:=by omega
   subst Jx;unfold UR;rw[fP (by omega)];have UU:=bN (k:=k) (by omega);simp[-Int.natCast_add,-Int.natCast_mul,sN];refine cG [.agg [.i 2,.i (k:Int),.i 2],.i ((k:Int)+dE sub)] (Zun _ _ _ _) ?_;have oK:(2:Int)*(k:Int)+2=((2*k+2:Nat):Int):=by omega
   by_cases hv:eD ((k:Int)+dE sub) (k:Int) 2=3
   .have QL:k=0/\dE sub=1:=by
     unfold eD at hv;split at hv
     .omega
     .split at hv<;>omega
    obtain⟨rfl,MO⟩:=QL;rw[hv];simp[MO];refine⟨_,_,by decide,Sub.mk ?_ ?_,hJ 1 _ ⟨1,.inr ⟨rfl,by omega,by rw[<-MO,kG];rfl⟩,rfl,rfl⟩⟩
    .simp
    .simp[ZH]
   .have tT:¬rs.length<2:=by omega
    have hP:cY rs=(if 2*k+2<rs.length then(0,0,2)else(eD ((k:Int)+dE sub) (k:Int) 2,0,0)):=by
     rcases hk with rfl|⟨rfl,h2,hc⟩
     .have e1:((0:Nat):Int)+dE sub=dE (rs.take 2):=by rw[kG];simp
      rw[e1]at hv ⊢;unfold cY;have rO:¬eD (dE (rs.take 2)) 0 2=3:=hv;rw[if_neg tT,if_neg rO];rfl
     .have e1:((1:Nat):Int)+dE sub=1+dE ((rs.drop 2).take 2):=by rw[kG];rfl
      have e:eD (dE (rs.take 2)) 0 2=3:=by rw[hc];rfl
      rw[e1];unfold cY;rw[if_neg tT,if_pos e,if_neg (by omega)];rfl
    by_cases hm:2*k+2<rs.length
    .have Ts:(2:Int)*(k:Int)+2<(rs.length:Int):=by omega
     rw[if_pos hm]at hP;simp[hv,Ts];rw[<-hR,hP];exact⟨rfl,by simp⟩
    .have Ts:¬(2:Int)*(k:Int)+2<(rs.length:Int):=by omega
     rw[if_neg hm]at hP;simp[hv,Ts];rw[<-hR,hP];exact⟨rfl,by simp⟩
end
structure Tt where
 fU:Int
 item:Int
 day:Int
 rd:Int
deriving DecidableEq
def Tt.pv (t:Tt):PV:=.agg [.i t.fU,.i t.item,.i t.day,.i t.rd]
def GM (S:Int->Int->Bool)(sp:List (Int×Int)):List (PV×PV):=sp.map fun p=>(.agg [.i p.1,.i p.2],.bool (S p.1 p.2))
theorem ZrN (a b c d:Int):gS (.agg [.i a,.i b]) (.agg [.i c,.i d])=decide ((a,b)=(c,d)):=by
 rw[qT];simp[gS,lQ,wQ,PV.cells]
theorem Zle {S:Int->Int->Bool}{i d:Int}:∀{sp:List (Int×Int)},eZ (.agg [.i i,.i d]) (GM S sp)=if(i,d)∈sp then some (.bool (S i d))else none
 |[]=>rfl
 |p::r=>by
  have ih:=Zle (S:=S) (i:=i) (d:=d) (sp:=r);unfold GM at ih ⊢;rw[iN,eZ,ZrN];by_cases h:(i,d)=p
  .subst h;simp
  .have:decide ((i,d)=(p.1,p.2))=false:=decide_eq_false h
   rw[this];simp only[ih,jO,h,false_or]
theorem Znp {S:Int->Int->Bool}{i d:Int}:∀{sp:List (Int×Int)},(i,d)∉sp->mI (.agg [.i i,.i d]) (.bool (S i d)) (GM S sp)=GM S (sp++[(i,d)])
 |[],_=>rfl
 |p::r,h=>by
  have h1:(i,d)≠p:=fun e=>h (by simp[e])
  have ih:=Znp (S:=S) (i:=i) (d:=d) (sp:=r) (fun e=>h (by simp[e]));have h2:decide ((i,d)=(p.1,p.2))=false:=decide_eq_false h1;unfold GM at ih ⊢;rw[iN,mI,ZrN,h2];simp only[ih];rfl
theorem Ztm {S:Int->Int->Bool}{sp:List (Int×Int)}:A1 ⟨true,[.int .i64,.int .i64]⟩ (GM S sp)=true:=by
 unfold A1 GM;rw[rA];intro x hx;obtain⟨p,_,rfl⟩:=iJ.1 hx;rfl
def iB (S:Int->Int->Bool)(G:Tt->Bool)(num:Int):List Tt->List Bool->Int
 |[],_=>3
 |t::l,rs=>if t.fU=num/\S t.item t.day=true then(if(cY (rs++[!G t])).1=3 then iB S G num l (rs++[!G t])else(cY (rs++[!G t])).1)else iB S G num l rs
theorem Zmm {S:Int->Int->Bool}{G:Tt->Bool}{num:Int}{rs:List Bool}:iB S G num [] rs=3:=rfl
theorem Zgn {S:Int->Int->Bool}{G:Tt->Bool}{num:Int}{t:Tt}{l:List Tt}{rs:List Bool}:iB S G num (t::l) rs=if t.fU=num/\S t.item t.day=true then(if(cY (rs++[!G t])).1=3 then iB S G num l (rs++[!G t])else(cY (rs++[!G t])).1)else iB S G num l rs:=rfl
def stM (l:List Ct)(bad:List Int)(i d:Int):Bool:=decide (((fD l bad).j3 i d).2=0)
def nV (l:List Ct)(bad:List Int)(limit:Int)(t:Tt):Bool:=decide (limit<=t.rd+((fD l bad).vA t.item t.day).1.lo)
def bI (l:List Tt):PV:=.aE false 4 (l.map Tt.pv)
def x7 (W:aK)(x:Lt)(S:Int->Int->Bool)(ts:List Tt)(rs:List Bool)(sp:List (Int×Int))(k:Nat):AS:=
 ⟨[(0,.ptr (.par 0) 0),(3,.ptr (.loc 3 0) 0),(5,.vec (.loc 61 0) 1 0 rs.length),(6,.fn 36 [.ptr (.par 0) 0] []),(7,.pv (.int .u8 3)),(8,.mp (.loc 16 0)),(21,.pv (.aE false 4 (ts.map Tt.pv))),(22,.pv (.i ts.length)),(23,.pv (.i (k:Int)))],
  [(.loc 3 0,.cells [.pv (.i x.num),.pv (.i x.pieces),.pv (.i x.limit),.pv (.bool x.passed)]),(.loc 16 0,.map (GM S sp)),(.loc 61 0,.arr 4 1 (rs.map .bool)),(.par 0,W)]⟩
theorem Og (l:List Ct)(bad:List Int)(ls:PV)(ts:List Tt)(rn:PV)(x:Lt)(hl:l.length<=1000)(hb:bad.length<=1000)(ht:ts.length<=900)(h4:4<=x.pieces)(RY:x.pieces<=30)
  (dF:∀t∈ts,IntKind.i64.wrap (t.rd+((fD l bad).vA t.item t.day).1.lo)=t.rd+((fD l bad).vA t.item t.day).1.lo):
  cN prog 80 [.ptr (.par 0) 0,.pv x.pv] [(.par 0,aQ (aL l) (.aE false 1 (bad.map iP)) ls (bI ts) rn)] (fun r B=>r=.pv (.int .u8 (iB (stM l bad) (nV l bad x.limit) x.num ts []))/\B=[(.par 0,aQ (aL l) (.aE false 1 (bad.map iP)) ls (bI ts) rn)]):=by
 refine N9 [.par 0] L80 ?_;intro R hR;obtain⟨V,hV⟩:∃V,V=iB (stM l bad) (nV l bad x.limit) x.num ts []:=⟨_,rfl⟩;rw[<-hV]at hR;simp[L80,aQ,Lt.pv,bI];refine eP (fun m τ=>∃(k:Nat) (rs:List Bool) (sp:List (Int×Int)),k<=ts.length/\m=ts.length-k/\rs.length<=k/\τ=x7 (aQ (aL l) (.aE false 1 (bad.map iP)) ls (bI ts) rn) x (stM l bad) ts rs sp k/\iB (stM l bad) (nV l bad x.limit) x.num (ts.drop k) rs=V)
  ⟨ts.length,x7 (aQ (aL l) (.aE false 1 (bad.map iP)) ls (bI ts) rn) x (stM l bad) ts [] [] 0,Sub.trans' (Sub.mk (by simp[AS.cR]) (by simp[AS.cR,aQ,bI,GM])) (cR 61 4 1 5 rfl (by decide)),0,[],[],gY _,rfl,fH _,rfl,hV.symm⟩ ?_
 rintro J hJ m τ ⟨k,rs,sp,hk,rfl,y2,rfl,hv⟩;by_cases aJ:k<ts.length
 .obtain⟨t,hx⟩:∃t,ts[k]?=some t:=⟨ts[k],bC aJ⟩;have gR:t∈ts:=dL hx;have hg:(ts.map Tt.pv)[k]?=some t.pv:=by rw[bX,hx];rfl
  simp only[Tt.pv]at hg;have hd:ts.drop k=t::ts.drop (k+1):=by
   rw[AD aJ];congr 1;rw[bC aJ]at hx;exact Option.some.inj hx
  rw[hd]at hv;rw[Zgn]at hv;have hw:=bN (k:=k) (by omega);have aG:ts.length-(k+1)<ts.length-k:=by omega
  have eK:∀xY Qf,xY.length<=k+1->iB (stM l bad) (nV l bad x.limit) x.num (ts.drop (k+1)) xY=V->J (ts.length-(k+1)) (x7 (aQ (aL l) (.aE false 1 (bad.map iP)) ls (bI ts) rn) x (stM l bad) ts xY Qf (k+1)):=fun xY Qf h1 h2=>hJ _ _ ⟨k+1,xY,Qf,aJ,rfl,h1,rfl,h2⟩
  clear hJ;by_cases lG:t.fU=x.num
  .have hf:=Zle (S:=stM l bad) (i:=t.item) (d:=t.day) (sp:=sp);have CM:=Ztm (S:=stM l bad) (sp:=sp);have hp:=fun h=>Znp (S:=stM l bad) (i:=t.item) (d:=t.day) (sp:=sp) h
   by_cases fW:(t.item,t.day)∈sp
   .rw[if_pos fW]at hf;cases hs:stM l bad t.item t.day with
    |false=>
     rw[if_neg (by simp[hs])]at hv;rw[hs]at hf;have hn:=eK rs sp (by omega) hv;simp[x7,aQ,aJ,↓hg,aP,lG,hw,hf,CM];exact⟨_,_,aG,Sub.mk (by simp) (by simp[aQ]),hn⟩
    |true=>
     rw[hs]at hf;simp[x7,aQ,aJ,↓hg,cU,aP,setAt,lG,hw,hf,CM];have y6:=ZrL l bad ls (bI ts) rn hl hb x.num t.item t.day t.rd x.limit (dF t gR);refine cM [.ptr (.par 0) 0,.pv (.agg [.i x.num,.i t.item,.i t.day,.i t.rd]),.pv (.i x.limit)] [(.par 0,(aQ (aL l) (.aE false 1 (bad.map iP)) ls (bI ts) rn))] 58 [.par 0] (by simp[aQ]) y6 (by simp[aQ]) ?_;rw[if_pos ⟨lG,hs⟩]at hv;have EZ:decide (x.limit<=t.rd+((fD l bad).vA t.item t.day).1.lo)=nV l bad x.limit t:=rfl;rw[EZ];clear EZ y6;have h1:rs.length+1<=1000000:=by omega
     generalize nV l bad x.limit t=gv at hv ⊢;simp[aQ,h1,aP];refine .inl (cQ [] [x.pv] (Zik x.num x.pieces x.limit x.passed) ?_);simp;refine xQ (gF:=[.pv (eG x.pieces),.vec (.par 0) 1 0 (rs++[!gv]).length]) (B:=[(.par 0,.arr 4 1 ((rs++[!gv]).map .bool))]) (fs:=[]) (cs:=[]) 66 [.loc 61 0] ?_ rfl rfl ?_ ?_ ?_ (Znu x.pieces h4 RY (rs++[!gv]) (by simp;omega)) ?_
     .first|rfl|simp
     .first|rfl|simp
     .first|rfl|simp
     .first|rfl|simp
     rintro r0 B0 ⟨rfl,rfl⟩;refine⟨rfl,by simp,?_⟩;have hn:=eK (rs++[!gv]) sp (by simp;omega);generalize cY (rs++[!gv])=pm at hv ⊢;obtain⟨v,mo,er⟩:=pm;by_cases h3:v=3
     .subst h3;have hn:=hn hv;simp[vL,hw];exact⟨_,_,aG,Sub.mk (by simp) (by simp[aQ]),hn⟩
     .rw[if_neg h3]at hv;simp[vL,h3];rw[<-hR,<-hv];exact⟨rfl,by simp[aQ]⟩
   .rw[if_neg fW]at hf;have P8:=hp fW;have wE:=Gy l bad ls (bI ts) rn hl hb x.num t.item t.day t.rd;simp[x7,aQ,aJ,↓hg,aP,lG,hf,CM];refine xQ (gF:=[.ptr (.par 0) 0,.pv (.agg [.i x.num,.i t.item,.i t.day,.i t.rd])]) (B:=[(.par 0,(aQ (aL l) (.aE false 1 (bad.map iP)) ls (bI ts) rn))]) (fs:=[.ptr (.par 0) 0]) (cs:=[]) 47 [.par 0] ?_ rfl rfl ?_ ?_ ?_ wE ?_
    .rfl
    .simp[aQ]
    .rfl
    .rfl
    rintro r0 B0 ⟨rfl,rfl⟩;refine⟨rfl,by simp[aQ],?_⟩;have bU:decide (((fD l bad).j3 t.item t.day).2=0)=stM l bad t.item t.day:=rfl;rw[bU];cases hs:stM l bad t.item t.day with
    |false=>
     rw[if_neg (by simp[hs])]at hv;rw[hs]at P8;have hn:=eK rs (sp++[(t.item,t.day)]) (by omega) hv;simp[aQ,CM,P8,hw];exact⟨_,_,aG,Sub.mk (by simp[x7]) (by simp[x7,aQ]),hn⟩
    |true=>
     rw[hs]at P8;simp[aQ,CM,P8];have y6:=ZrL l bad ls (bI ts) rn hl hb x.num t.item t.day t.rd x.limit (dF t gR);refine cM [.ptr (.par 0) 0,.pv (.agg [.i x.num,.i t.item,.i t.day,.i t.rd]),.pv (.i x.limit)] [(.par 0,(aQ (aL l) (.aE false 1 (bad.map iP)) ls (bI ts) rn))] 58 [.par 0] (by simp[aQ]) y6 (by simp[aQ]) ?_;rw[if_pos ⟨lG,hs⟩]at hv;have EZ:decide (x.limit<=t.rd+((fD l bad).vA t.item t.day).1.lo)=nV l bad x.limit t:=rfl;rw[EZ];clear EZ y6;have h1:rs.length+1<=1000000:=by omega
     generalize nV l bad x.limit t=gv at hv ⊢;simp[aQ,h1,aP];refine .inl (cQ [] [x.pv] (Zik x.num x.pieces x.limit x.passed) ?_);simp;refine xQ (gF:=[.pv (eG x.pieces),.vec (.par 0) 1 0 (rs++[!gv]).length]) (B:=[(.par 0,.arr 4 1 ((rs++[!gv]).map .bool))]) (fs:=[]) (cs:=[]) 66 [.loc 61 0] ?_ rfl rfl ?_ ?_ ?_ (Znu x.pieces h4 RY (rs++[!gv]) (by simp;omega)) ?_
     .first|rfl|simp
     .first|rfl|simp
     .first|rfl|simp
     .first|rfl|simp
     rintro r0 B0 ⟨rfl,rfl⟩;refine⟨rfl,by simp,?_⟩;have hn:=eK (rs++[!gv]) (sp++[(t.item,t.day)]) (by simp;omega);generalize cY (rs++[!gv])=pm at hv ⊢;obtain⟨v,mo,er⟩:=pm;by_cases h3:v=3
     .subst h3;have hn:=hn hv;simp[vL,hw];exact⟨_,_,aG,Sub.mk (by simp[x7]) (by simp[x7,aQ]),hn⟩
     .rw[if_neg h3]at hv;simp[vL,h3];rw[<-hR,<-hv];exact⟨rfl,by simp[aQ]⟩
  .rw[if_neg (fun h=>lG h.1)]at hv;have hn:=eK rs sp (by omega) hv;simp[x7,aQ,aJ,↓hg,aP,lG,hw];exact⟨_,_,aG,Sub.mk (by simp) (by simp[aQ]),hn⟩
 .have he:k=ts.length:=by omega
  subst he;rw[List.drop_eq_nil_of_le (fH _)]at hv;rw[Zmm]at hv;simp[x7,aQ];rw[<-hR,hv];exact⟨rfl,by simp[aQ]⟩
attribute [simp] aM oF nO iQ
theorem Zh {x:Int}:∀{l:List Int},l.Pairwise (·<·)->x∈l->l[dJ l x]?=some x
 |y::r,hs,h=>by
  obtain⟨h1,h2⟩:=I0.1 hs;unfold dJ;rw[xP];by_cases hy:y<x
  .rw[if_pos (by simpa using hy)];have hm:x∈r:=by
    rcases jO.1 h with rfl|h
    .omega
    .exact h
   exact Zh h2 hm
  .rw[if_neg (by simpa using hy)];have hx:x=y:=by
    rcases jO.1 h with rfl|h
    .rfl
    .have:=h1 x h;omega
   subst hx;have hf:r.filter (fun y=>decide (y<x))=[]:=by
    rw[List.filter_eq_nil_iff];intro z hz
    have:=h1 z hz
    simp;omega
   rw[hf];rfl
theorem ZL {E:Int->Prop}{n:Int}{τ:AS}{a b c d e:PV}(h1:E n)(h2:τ.b (.par 0)=some (aQ a b c d e)):J8 (uR E) (yR n) τ:=by
 refine⟨[.par 0],rfl,fun s hs b hb=>?_,n,rfl,h1,a,b,c,d,e,?_⟩
 .cases rW.1 hs;rw[h2]at hb;cases hb;rfl
 .unfold AS.exp;rw[h2];rfl
theorem pF (n:Int){E:Int->Prop}{σ:AS}{f:bB}{args:List bB}{op:lV}{lt:Bool}{dst:Option Nat}{a b c d e:PV}(hE:E n)(hop:op=.call f args:=by rfl)(h1:(aM [] σ).o f=.pv (.fn 148 [] []):=by rfl)(h2:(aM [] σ).tN args=some [.bool false,.i n]:=by rfl)(h3:((aM [] σ).bG 99).b (.par 0)=some (aQ a b c d e):=by rfl):vW prog ⟨dst,none,op,lt⟩ (J8 (uR E)) σ:=TO (d:=99) [] (xs:=[.bool false,.i n]) (cs:=[]) h1 h2 (zY n) hop (fun x hx=>by rw[hx.1];exact ZL hE h3) (fun x B hx=>hx.2)
theorem l8 (fz:List Site){Q:PV->PV->PV->PV->PV->Prop}{τ:AS}{a b c d e:PV}(h2:(aY fz τ).b (.par 0)=some (aQ a b c d e))(hq:Q a b c d e):rJ [] (yB Q) τ:=by
 refine⟨fz,[.par 0],[],rfl,rfl,rfl,fun s hs b hb=>?_,rfl,a,b,c,d,e,?_,hq⟩
 .cases rW.1 hs;rw[h2]at hb;cases hb;rfl
 .unfold AS.exp;rw[h2];rfl
def aW (l:List Lt):PV:=.aE false 4 (l.map Lt.pv)
def bJ (l:List Int):PV:=.aE false 1 (l.map iP)
def jI (v:Lt->Int)(ls:List Lt)(n:Int):Except Int (List Lt):=
 match ls[dJ (ls.map Lt.num) n]? with
 |some x=>if x.num=n then(if x.passed=true then .error 6 else if v x=3 then .error 8 else if v x=1 then .ok (ls.set (dJ (ls.map Lt.num) n) { x with passed:=true })else .error 11)else .error 7
 |none=>.error 7
def wkQ (r:Except Int (List Lt))(l:List Ct)(bad:List Int)(ts:List Tt)(rn:PV)(a b c d e:PV):Prop:=∃ls',r=.ok ls'/\a=aL l/\b=bJ bad/\c=aW ls'/\d=bI ts/\e=rn
def zG (l:List Ct)(bad:List Int)(ts:List Tt):Prop:=∀t∈ts,IntKind.i64.wrap (t.rd+((fD l bad).vA t.item t.day).1.lo)=t.rd+((fD l bad).vA t.item t.day).1.lo
def vU (x:Lt):Prop:=1<=x.num/\x.num<=99/\4<=x.pieces/\x.pieces<=30
def cW (l:List Ct)(bad:List Int)(ts:List Tt)(x:Lt):Int:=iB (stM l bad) (nV l bad x.limit) x.num ts []
theorem Zuz (l:List Ct)(bad:List Int)(ls:List Lt)(ts:List Tt)(rn:PV)(n:Int)(hn:-1000000000<n/\n<1000000000)(hl:l.length<=1000)(hb:bad.length<=1000)(yN:ls.length<=900)(ht:ts.length<=900)(hs:(ls.map Lt.num).Pairwise (·<·))(dD:∀x∈ls,vU x)(dF:zG l bad ts):
  sY prog 191 [.ptr (.par 0) 0,.pv (.aE false 1 [iP n])] [(.par 0,aQ (aL l) (bJ bad) (aW ls) (bI ts) rn)] (yB (wkQ (jI (cW l bad ts) ls n) l bad ts rn)) (uR (fun e=>jI (cW l bad ts) ls n=.error e)):=by
 have D9:=Yi ls n (aL l) (bJ bad) (bI ts) rn hs (by omega) (fun y hy=>by obtain⟨h1,h2,_⟩:=dD y hy;exact wrap64 (by omega));refine cX L191 ?_;generalize hE:(fun e=>jI (cW l bad ts) ls n=.error e)=E;generalize hQ:wkQ (jI (cW l bad ts) ls n) l bad ts rn=Q;show fO _ (.seq _ (.seq _ (.seq _ (.seq _ (.seq _ (.seq _ (.seq _ _))))))) _ _ _;refine mF ?_;simp[hold,aQ,aW];refine cM [.ptr (.par 0) 0,.pv (.i n)] [(.par 0,aQ (aL l) (bJ bad) (aW ls) (bI ts) rn)] 12 [.par 0] (by simp[aQ,aW]) D9 (by simp[aQ]) ?_;simp[-List.mem_map,aQ];by_cases hm:n∈ls.map Lt.num
 .have lG:=Zh hs hm;rw[bX]at lG;obtain⟨x,hx,T0⟩:=eA.1 lG;unfold jI at hE hQ;rw[hx]at hE hQ;dsimp only at hE hQ;rw[if_pos T0]at hE hQ;generalize hi:dJ (ls.map Lt.num) n=i at hx hQ ⊢;refine mF ?_;simp[-List.mem_map,hold,hm];refine cG [.bool true,.i 7] (gM 7) ?_;simp;have yO:i<ls.length:=(cA.1 hx).1;have oN:(ls.map Lt.pv)[i]?=some x.pv:=by rw[bX,hx];rfl
  simp only[Lt.pv]at oN;have qN:=Og l bad (aW ls) ts rn x hl hb ht (dD x (dL hx)).2.2.1 (dD x (dL hx)).2.2.2 dF;cases yI:x.passed with
  |true=>
   rw[yI]at hE oN;have IU:E 6:=by rw[<-hE];rfl
   refine xD [_,_,_,_,_,_,_,_,_,_] ?_;simp[hold,↓oN,cU,aP];exact pF 6 IU
  |false=>
  rw[yI]at hE hQ oN;rw[if_neg (by simp)]at hE hQ;refine mF ?_;simp[hold,↓oN,cU,aP];refine cG [.bool true,.i 6] (gM 6) ?_;simp[hold];refine mF ?_;simp[hold,yO,↓oN,cU,aP];refine cM [.ptr (.par 0) 0,.pv (.agg [.i x.num,.i x.pieces,.i x.limit,.bool false])] [(.par 0,(aQ (aL l) (bJ bad) (aW ls) (bI ts) rn))] 37 [.par 0] (by simp[aQ,aW]) (by rw[Lt.pv,yI]at qN;exact qN) (by simp[aQ]) ?_;have HL:iB (stM l bad) (nV l bad x.limit) x.num ts []=cW l bad ts x:=rfl;rw[HL];clear HL qN D9;generalize cW l bad ts x=v at hE hQ ⊢;simp[aQ];by_cases h3:v=3
  .rw[if_pos h3]at hE;have DE:E 8:=by rw[<-hE]
   refine xD [_,_] ?_;simp[hold,h3];exact pF 8 DE
  rw[if_neg h3]at hE hQ;refine mF ?_;simp[hold,h3];refine cG [.bool true,.i 8] (gM 8) ?_;simp;by_cases h1:¬v=1
  .rw[if_neg h1]at hE;have Vy:E 11:=by rw[<-hE]
   refine xD [_,_] ?_;simp[hold,h1];exact pF 11 Vy
  have h1:v=1:=Decidable.not_not.1 h1;rw[if_pos h1]at hQ;refine mF ?_;simp[hold,h1];refine cG [.bool true,.i 11] (gM 11) ?_;simp[hold];refine mF ?_;simp[hold,aW];refine .inl (R4 [] (fs:=[]) (xs:=[.aE false 4 (ls.map Lt.pv)]) (cs:=[]) (d:=50) rfl rfl (ZgX (ls.map Lt.pv) (by rw[fZ];omega)) ?_);rintro r B (⟨h,rfl,rfl⟩|⟨rfl,rfl⟩)
  .rw[List.map_eq_nil_iff.1 h]at yO;exact absurd yO (Nat.not_lt_zero _)
  refine⟨by simp,?_⟩;simp;refine GB ?_;simp[hold,yO,↓oN,cU,aP,setAt];have jK:(ls.map Lt.pv).set i (.agg [.i x.num,.i x.pieces,.i x.limit,.bool true])=(ls.set i { x with passed:=true }).map Lt.pv:=by rw[List.map_set];rfl
  rw[jK];have jT:List.take ls.length ((ls.set i { x with passed:=true }).map Lt.pv)=(ls.set i { x with passed:=true }).map Lt.pv:=fP (by simp);refine l8 (a:=aL l) (b:=bJ bad) (c:=aW (ls.set i { x with passed:=true })) (d:=bI ts) (e:=rn) [.loc 50 0] ?_ ?_
  .simp[-List.map_set,aY,AS.cH,AV.cH,AV.aY,aK.cH,aQ,aW,bJ,jT]
  .rw[<-hQ];exact⟨_,rfl,rfl,rfl,rfl,rfl,rfl⟩
 .have VR:E 7:=by
   rw[<-hE];unfold jI;split
   .rename_i x hx;have cZ:¬x.num=n:=fun h=>hm (by rw[<-h];exact List.mem_map_of_mem (dL hx))
    rw[if_neg cZ]
   .rfl
  refine xD [_] ?_;simp[-List.mem_map,hold,hm];exact pF 7 VR
def kR (ts:List Tt)(n:Int):Nat:=(ts.filter fun t=>decide (t.fU=n)).length
theorem ZgG {ts:List Tt}{n:Int}{k:Nat}{t:Tt}(h:ts[k]?=some t):kR (ts.take (k+1)) n=kR (ts.take k) n+(if t.fU=n then 1 else 0):=by
 unfold kR;rw[mR,h,I1,gD];congr 1;simp only[Option.toList,xP,List.filter_nil];by_cases ht:t.fU=n<;>simp[ht]
theorem ZkS {ts:List Tt}{n:Int}:kR ts n<=ts.length:=Q7 _ _
def kO (S:Int->Int->Bool)(v:Lt->Int)(ls:List Lt)(ts:List Tt)(q:Tt):Except Int (List Tt):=
 if(decide (2<=q.item)&&decide (q.item<=5))=true/\(decide (0<=q.day)&&decide (q.day<=1000))=true/\(decide (0<=q.rd)&&decide (q.rd<=2000))=true then
  (match ls[dJ (ls.map Lt.num) q.fU]? with
  |some x=>if x.num=q.fU then(if x.passed=true then .error 8 else if v x=3 then(if(kR ts q.fU:Int)<x.pieces then(if S q.item q.day=true then .ok (ts++[q])else .error 10)else .error 3)else .error 8)else .error 7
  |none=>.error 7)
 else .error 2
def tsQ (r:Except Int (List Tt))(l:List Ct)(bad:List Int)(ls:List Lt)(rn:PV)(a b c d e:PV):Prop:=∃ts',r=.ok ts'/\a=aL l/\b=bJ bad/\c=aW ls/\d=bI ts'/\e=rn
def UC (W:aK)(x:Lt)(q:Tt)(ts:List Tt)(k:Nat):AS:=
 ⟨[(0,.ptr (.par 0) 0),(1,.pv (.aE false 1 [.i q.fU,.i q.item,.i q.day,.i q.rd])),(6,.ptr (.loc 6 0) 0),(7,.pv (.i ((kR (ts.take k) q.fU:Nat):Int))),(60,.pv (.aE false 4 (ts.map Tt.pv))),(61,.pv (.i ts.length)),(62,.pv (.i (k:Int)))],
  [(.loc 6 0,.cells [.pv (.i x.num),.pv (.i x.pieces),.pv (.i x.limit),.pv (.bool false)]),(.par 0,W)]⟩
theorem Zuh (l:List Ct)(bad:List Int)(ls:List Lt)(ts:List Tt)(rn:PV)(q:Tt)(hn:-1000000000<q.fU/\q.fU<1000000000)(hl:l.length<=1000)(hb:bad.length<=1000)(yN:ls.length<=900)(ht:ts.length<=900)(hs:(ls.map Lt.num).Pairwise (·<·))(dD:∀x∈ls,vU x)(dF:zG l bad ts):
  sY prog 190 [.ptr (.par 0) 0,.pv (.aE false 1 [iP q.fU,iP q.item,iP q.day,iP q.rd])] [(.par 0,aQ (aL l) (bJ bad) (aW ls) (bI ts) rn)] (yB (tsQ (kO (stM l bad) (cW l bad ts) ls ts q) l bad ls rn)) (uR (fun e=>kO (stM l bad) (cW l bad ts) ls ts q=.error e)):=by
 have D9:=Yi ls q.fU (aL l) (bJ bad) (bI ts) rn hs (by omega) (fun y hy=>by obtain⟨h1,h2,_⟩:=dD y hy;exact wrap64 (by omega));have w1:=KA q.item 2 5;have w2:=KA q.day 0 1000;have w3:=KA q.rd 0 2000;refine cX L190 ?_;generalize hE:(fun e=>kO (stM l bad) (cW l bad ts) ls ts q=.error e)=E;generalize hQ:tsQ (kO (stM l bad) (cW l bad ts) ls ts q) l bad ls rn=Q;unfold kO at hE hQ;generalize(decide (2<=q.item)&&decide (q.item<=5))=c1 at w1 hE hQ;generalize(decide (0<=q.day)&&decide (q.day<=1000))=c2 at w2 hE hQ;generalize(decide (0<=q.rd)&&decide (q.rd<=2000))=c3 at w3 hE hQ;show fO _ (.seq _ (.seq _ (.seq _ _))) _ _ _;by_cases hc:¬(c1=true/\c2=true/\c3=true)
 .have z7:E 2:=by rw[<-hE,if_neg hc]
  refine xD [_,_,_,_,_,_,_,_,_,_,_,_,_,_,_,_] ?_;simp[hold,iP];refine cG [.i q.item,.i 2,.i 5] w1 ?_;cases c1 with
  |false=>
   simp[hold];exact pF 2 z7
  |true=>
  simp[hold];refine cG [.i q.day,.i 0,.i 1000] w2 ?_;cases c2 with
  |false=>
   simp[hold];exact pF 2 z7
  |true=>
  simp[hold];refine cG [.i q.rd,.i 0,.i 2000] w3 ?_;cases c3 with
  |false=>
   simp[hold];exact pF 2 z7
  |true=>exact absurd ⟨rfl,rfl,rfl⟩ hc
 have hc:=Decidable.not_not.1 hc;rw[if_pos hc]at hE hQ;obtain⟨rfl,rfl,rfl⟩:=hc;refine mF ?_;simp[hold,iP];refine cG [.i q.item,.i 2,.i 5] w1 ?_;simp[hold];refine cG [.i q.day,.i 0,.i 1000] w2 ?_;simp[hold];refine cG [.i q.rd,.i 0,.i 2000] w3 ?_;simp[hold];refine cG [.bool true,.i 2] (gM 2) ?_;simp;refine mF ?_;simp[hold,aQ,aW];refine cM [.ptr (.par 0) 0,.pv (.i q.fU)] [(.par 0,aQ (aL l) (bJ bad) (aW ls) (bI ts) rn)] 33 [.par 0] (by simp[aQ,aW]) D9 (by simp[aQ]) ?_;simp[-List.mem_map,aQ];by_cases hm:¬q.fU∈ls.map Lt.num
 .have VR:E 7:=by
   rw[<-hE];split
   .rename_i x hx;have cZ:¬x.num=q.fU:=fun h=>hm (by rw[<-h];exact List.mem_map_of_mem (dL hx))
    rw[if_neg cZ]
   .rfl
  refine xD [_] ?_;simp[-List.mem_map,hold,hm];exact pF 7 VR
 have hm:=Decidable.not_not.1 hm;have lG:=Zh hs hm;rw[bX]at lG;obtain⟨x,hx,T0⟩:=eA.1 lG;rw[hx]at hE hQ;dsimp only at hE hQ;rw[if_pos T0]at hE hQ;generalize hi:dJ (ls.map Lt.num) q.fU=i at hx hQ ⊢;have yO:i<ls.length:=(cA.1 hx).1;have oN:(ls.map Lt.pv)[i]?=some x.pv:=by rw[bX,hx];rfl
 simp only[Lt.pv]at oN;have qN:=Og l bad (aW ls) ts rn x hl hb ht (dD x (dL hx)).2.2.1 (dD x (dL hx)).2.2.2 dF;refine mF ?_;simp[-List.mem_map,hold,hm];refine cG [.bool true,.i 7] (gM 7) ?_;simp[hold];refine mF ?_;simp[hold,↓oN,cU,aP,setAt];have pan8:∀τ:AS,E 8->τ.b (.par 0)=some (aQ (aL l) (bJ bad) (aW ls) (bI ts) rn)->J8 (uR E) (yR 8) τ:=fun τ h1 h2=>ZL h1 h2
 cases yI:x.passed with
 |true=>
  rw[yI]at hE;have DE:E 8:=by rw[<-hE];rfl
  refine xD [_,_,_,_,_,_,_,_,_] ?_;simp[hold];exact pF 8 DE
 |false=>
 rw[yI]at hE hQ;rw[if_neg (by simp)]at hE hQ;have HL:iB (stM l bad) (nV l bad x.limit) x.num ts []=cW l bad ts x:=rfl;rw[HL]at qN;clear HL D9;generalize cW l bad ts x=v at hE hQ qN;rw[Lt.pv,yI]at qN;by_cases h3:¬v=3
 .rw[if_neg h3]at hE;have DE:E 8:=by rw[<-hE]
  refine xD [_,_,_,_,_,_,_,_,_] ?_;simp[hold];refine cM [.ptr (.par 0) 0,.pv (.agg [.i x.num,.i x.pieces,.i x.limit,.bool false])] [(.par 0,(aQ (aL l) (bJ bad) (aW ls) (bI ts) rn))] 52 [.par 0] (by simp[aQ,aW]) qN (by simp[aQ]) ?_;simp[hold,aQ,h3];exact pF 8 DE
 have h3:=Decidable.not_not.1 h3;rw[if_pos h3]at hE hQ;refine mF ?_;simp;refine cM [.ptr (.par 0) 0,.pv (.agg [.i x.num,.i x.pieces,.i x.limit,.bool false])] [(.par 0,(aQ (aL l) (bJ bad) (aW ls) (bI ts) rn))] 52 [.par 0] (by simp[aQ,aW]) qN (by simp[aQ]) ?_;simp[hold,aQ,h3];refine cG [.bool true,.i 8] (gM 8) ?_;simp[hold];refine mF ?_;simp[hold];refine mF ?_;simp[hold,bI];refine eP (fun m τ=>∃k:Nat,k<=ts.length/\m=ts.length-k/\τ=UC (aQ (aL l) (bJ bad) (aW ls) (bI ts) rn) x q ts k) ⟨ts.length,UC (aQ (aL l) (bJ bad) (aW ls) (bI ts) rn) x q ts 0,Sub.mk (by simp[kR]) (by simp[aQ,bJ,aW,bI]),0,gY _,rfl,rfl⟩ ?_;rintro J hJ m τ ⟨k,hk,rfl,rfl⟩;by_cases aJ:k<ts.length
 .obtain⟨t,MA⟩:∃t,ts[k]?=some t:=⟨ts[k],bC aJ⟩;have hg:(ts.map Tt.pv)[k]?=some t.pv:=by rw[bX,MA];rfl
  simp only[Tt.pv]at hg;have hw:=bN (k:=k) (by omega);have H0:=ZkS (ts:=ts.take k) (n:=q.fU);rw[gN]at H0;have sN:=bN (k:=kR (ts.take k) q.fU) (by omega);have aG:ts.length-(k+1)<ts.length-k:=by omega
  have hn:=hJ (ts.length-(k+1)) _ ⟨k+1,aJ,rfl,rfl⟩;unfold UC at hn;rw[ZgG MA]at hn;by_cases nT:t.fU=q.fU
  .rw[if_pos nT]at hn;simp[UC,aQ,aJ,↓hg,aP,hw,sN,nT,T0];exact⟨_,_,aG,Sub.mk (by simp) (by simp[aQ,T0]),hn⟩
  .rw[if_neg nT]at hn;simp[UC,aQ,aJ,↓hg,aP,hw,nT,T0];exact⟨_,_,aG,Sub.mk (by simp[T0]) (by simp[aQ,T0]),hn⟩
 have he:k=ts.length:=by omega
 subst he;simp[UC,hold,aQ];by_cases VF:¬(kR ts q.fU:Int)<x.pieces
 .rw[if_neg VF]at hE;have Vx:E 3:=by rw[<-hE]
  refine xD [_,_,_,_] ?_;simp[hold,VF];exact pF 3 Vx
 have VF:=Decidable.not_not.1 VF;rw[if_pos VF]at hE hQ;refine mF ?_;simp[hold,VF];refine cG [.bool true,.i 3] (gM 3) ?_;simp;refine mF ?_;simp[hold,setAt];have wE:=Gy l bad (aW ls) (bI ts) rn hl hb q.fU q.item q.day q.rd;have bU:decide (((fD l bad).j3 q.item q.day).2=0)=stM l bad q.item q.day:=rfl;rw[bU]at wE;clear bU;cases An:stM l bad q.item q.day with
 |false=>
  rw[An]at hE wE;have Vz:E 10:=by rw[<-hE];rfl
  refine xD [_,_,_] ?_;simp[hold];refine cM [.ptr (.par 0) 0,.pv (.agg [.i q.fU,.i q.item,.i q.day,.i q.rd])] [(.par 0,(aQ (aL l) (bJ bad) (aW ls) (bI ts) rn))] 94 [.par 0] (by simp[aQ,bJ,aW,bI]) wE (by simp[aQ]) ?_;simp[aQ];exact pF 10 Vz
 |true=>
 rw[An]at hQ wE;rw[if_pos rfl]at hQ;refine mF ?_;simp[hold];refine cM [.ptr (.par 0) 0,.pv (.agg [.i q.fU,.i q.item,.i q.day,.i q.rd])] [(.par 0,(aQ (aL l) (bJ bad) (aW ls) (bI ts) rn))] 94 [.par 0] (by simp[aQ,bJ,aW,bI]) wE (by simp[aQ]) ?_;simp[aQ];refine cG [.bool true,.i 10] (gM 10) ?_;simp[hold];refine GB ?_;simp[hold,bI];refine .inl (cQ [] [.aE false 4 (ts.map Tt.pv),.agg [.i q.fU,.i q.item,.i q.day,.i q.rd]] (ZoF (ts.map Tt.pv) q.fU q.item q.day q.rd (by rw[fZ];omega)) ?_);simp;have H4:ts.map Tt.pv++[.agg [.i q.fU,.i q.item,.i q.day,.i q.rd]]=(ts++[q]).map Tt.pv:=by rw[mH];rfl
 rw[H4];refine l8 (a:=aL l) (b:=bJ bad) (c:=aW ls) (d:=bI (ts++[q])) (e:=rn) [] ?_ ?_
 .simp[-List.map_append,aY,aQ,bI,bJ]
 .rw[<-hQ];exact⟨_,rfl,rfl,rfl,rfl,rfl,rfl⟩
theorem ZqG (l:List Ct)(h0:l≠[])(hl:l.length<=1000000):cN prog 68 [.pv (aL l)] [] (fun r B=>r=.vec (.ret 0) 7 0 l.length/\B=[(.ret 0,.arr 88 7 (l.map Ct.pv))]):=by
 refine cB [.loc 7 0] L68 ?_;cases l with
 |nil=>exact absurd rfl h0
 |cons a l=>
  have h1:l.length+1<=1000000:=by simpa using hl
  have hm:(l.map Ct.pv).take l.length=l.map Ct.pv:=fP (by simp);simp[L68,aL,dI,aP,h1,aU,rC,AS.exp,jU,aK.iT,AV.map,dO,Site.uI,aK.dC,AV.dC,s4]
theorem ZD (d:Int)(c:Ct):cN prog 277 [.pv c.pv,.ptr (.par 0) 0] (laid 0 ((eS.num d).b 0)) (fun r B=>r=.pv (.bool (decide (c.num=d)))/\B=laid 0 ((eS.num d).b 0)):=by
 refine cB [.par 0] L277 ?_;simp[L277,eS.b,laid,Ct.pv]
section
section
variable {P:Program}{K:AV->AS->Prop}{σ:AS}
theorem ZtU (fz:List Site){f:bB}{args:List bB}{d:Nat}{g:FuncId}{fs xs cs:List PV}{R:AV->List (Site×aK)->Prop}{X:Prop}(h1:(aM fz σ).o f=.pv (.fn g fs cs))(h2:(aM fz σ).tN args=some xs)
  (hc:cN P g ((fs++xs++cs).map .pv) [] R) (hK:∀r B,R r B->oF r B/\K (r.map (iQ d)) (((aM fz σ).bG d).lU (nO d B))):zA P f args d K σ\/X:=
 .inl (.inr ⟨fz,g,fs,xs,cs,h1,h2,hc.mono fun r B h=>hK r B h⟩)
end
def Bk.wo (b:Bk)(n:Int):Bk:=⟨b.items,b.aA.filter fun c=>!decide (c.num=n)⟩
theorem Ft {b:Bk}{n:Int}{c:Ct}(h:c∈(b.wo n).aA):c∈b.aA:=(iV.1 h).1
theorem YG {b:Bk}(hb:b.ok)(n:Int):(b.wo n).ok:=
 ⟨hb.i,lJ (Q7 _ _) hb.c,hb.it,fun x hx=>hb.ct x (Ft hx),fun x hx y hy e=>hb.one x (Ft hx) y (Ft hy) e,fun x hx y hy e=>hb.day x (Ft hx) y (Ft hy) e⟩
def Bk.s6 (b:Bk)(n:Int):Bool:=!(b.wo n).contra
def Bk.qG (b:Bk):List Int×Int:=if b.fault=0 then(if b.contra=true then(b.nums.filter b.s6,0)else([],7))else([],b.fault)
attribute [local irreducible] Bk.held Bk.nums Bk.span Bk.contra Bk.s6
def Ix (b:Bk)(k:Nat):AS:=⟨[(1,.ptr (.loc 1 0) 0),(6,.vec (.loc 54 0) 1 0 ((b.nums.take k).filter b.s6).length),(29,.pv (.aE false 1 (b.nums.map aO))),(30,.pv (.i b.nums.length)),(31,.pv (.i k))],
 [(.loc 54 0,.arr 3 1 (((b.nums.take k).filter b.s6).map aO)),(.loc 1 0,.cells b.cells)]⟩
theorem Zmi (b:Bk)(hi:b.items.length<=1000)(hc:b.aA.length<=1000):cN prog 232 ([b.pv].map .pv) [] (fun r B=>r=.pv (K1 b.qG)/\B=[]):=by
 have hr:=Fj b hi hc;refine cN.i7 ?_;refine Q4 [.loc 54 0] L232 ?_;intro R hR;simp[L232,Bk.pv,-aU];refine cL [.pv b.pv] [] 14 [] rfl hr ?_
 rintro r0 B0 (⟨h0,rfl,rfl⟩|⟨h0,es,kY,rfl,rfl⟩)
 .refine⟨rfl,by simp,?_⟩;have hd:decide (b.fault=0)=false:=by simpa using h0
  simp[-decide_eq_true_eq,-decide_eq_false_iff_not,hd];rw[<-hR];exact⟨_,rfl,rfl,XB (by unfold Bk.qG;rw[if_neg h0])⟩
 have hb:b.ok:=Bk.V3.1 h0;have hlen:=XF (b:=b);have jJ:=Zi7 b hb es kY;have hH:=TM hb [];have hS:=Zfl hb 1000;have Z6:=ZhN b hb es (kK b [] b.nums.length) (jP b b.nums.length) kY hH hS;refine⟨rfl,by simp[aX,GD],?_⟩;simp[aX,GD,-aU];refine cM [.ptr (.par 0) 0] (laid 0 (kE b [] es)) 23 [.loc 14 0,.loc 14 1] (by simp[laid,kE,aX]) jJ (by simp[aX]) ?_;generalize kK b [] b.nums.length=hs at *;generalize jP b b.nums.length=ss at *;simp[aX,-aU];refine cM [.ptr (.par 0) 0] (laid 0 (gQ b es hs ss)) 24 [.loc 23 0,.loc 23 1,.loc 23 2,.loc 14 0,.loc 14 1] (by simp[laid,gQ,aX]) Z6 (by simp[laid,gQ,aX]) ?_;clear jJ Z6 hr;cases nU:b.contra
 .simp[laid,gQ,aX];rw[<-hR];exact⟨_,rfl,rfl,XB (by unfold Bk.qG;rw[if_pos h0,if_neg (by simp[nU])])⟩
 have hM:b.qG=(b.nums.filter b.s6,0):=by unfold Bk.qG;rw[if_pos h0,if_pos nU]
 rw[hM]at hR;simp[laid,gQ,aX,-aU];refine eP (fun m τ=>∃k:Nat,k<=b.nums.length/\m=b.nums.length-k/\τ=Ix b k) ⟨b.nums.length,Ix b 0,Sub.trans' (Sub.mk (by simp[AS.cR]) (by simp[AS.cR,Bk.cells])) (cR 54 3 1 6 rfl (by decide)),0,by omega,rfl,rfl⟩ ?_;rintro J hJ m τ ⟨k,hk,rfl,rfl⟩;have lZ:((b.nums.take k).filter b.s6).length<=1000:=lJ (Q7 _ _) (by rw[gN];omega);by_cases aJ:k<b.nums.length
 .obtain⟨n,hn⟩:∃n,b.nums[k]?=some n:=⟨_,bC aJ⟩;have Ka:(b.nums.map aO)[k]?=some (.i n):=by rw[bX,hn];rfl
  have UU:=bN (k:=k) (by omega);have aB:=hJ _ _ ⟨k+1,aJ,rfl,rfl⟩;have aG:b.nums.length-(k+1)<b.nums.length-k:=by omega
  have eK:(b.nums.take (k+1)).filter b.s6=(b.nums.take k).filter b.s6++(if b.s6 n=true then[n]else[]):=by
   rw[mR,hn,I1];congr 1;simp only[Option.toList,xP,List.filter_nil]
  have cZ:b.aA≠[]:=fun e=>by
   obtain⟨c,hc,_⟩:=(w9 hb).1 (dL hn);rw[e]at hc;cases hc
  have dD:=YG hb n;have y7:(b.wo n).fault=0:=Bk.V3.2 dD;have gO:=hb.c;have D0:=Fj (b.wo n) (by have:=dD.i;omega) (by have:=dD.c;omega);have U0:=ZqG b.aA cZ (by omega);have ID:=Dy (.num n) (ZD n) b.aA (by omega);have hsu:b.s6 n=!(b.wo n).contra:=by unfold Bk.s6;rfl
  have jN:(b.wo n).pv=.agg [aT b.items,.aE false 7 ((b.aA.filter fun c=>!decide (c.num=n)).map Ct.pv)]:=rfl;unfold Ix at aB ⊢;rw[eK,hsu]at aB;clear hJ eK hsu hR;generalize(b.nums.take k).filter b.s6=Y at *;have hY:(Y.map aO).take Y.length=Y.map aO:=fP (by simp);have hY6:Y.length<=999999:=by omega
  have pN:(b.aA.filter fun c=>!decide (c.num=n)).length<=1000:=lJ (Q7 _ _) hc;simp[aJ,↓Ka,Bk.cells,-aU];refine cM [.pv (aL b.aA)] [] 38 [] rfl U0 (by simp) ?_;simp[-aU];refine cL [.vec (.par 0) 7 0 b.aA.length,.fn 277 [] [.ptr (.par 1) 0]] (laid 0 (.arr 88 7 (b.aA.map Ct.pv)::(eS.num n).b 1)) 40 [.loc 38 0,.loc 8 0] (by simp[laid,eS.b]) ID ?_
  rintro r0 B0 ⟨rfl,X,hX,rfl⟩;refine⟨rfl,by simp[laid,eS.b],?_⟩;have VP:(X.map Ct.pv).take (b.aA.filter fun c=>!decide (c.num=n)).length=(b.aA.filter fun c=>!decide (c.num=n)).map Ct.pv:=by rw[<-List.map_take,hX]
  have H5:(b.aA.filter fun c=>!decide (c.num=n)).length<=X.length:=by
   have:=congrArg List.length hX
   rw[gN]at this;omega
  generalize(b.aA.filter fun c=>!decide (c.num=n))=Z at *;simp[laid,eS.b,-aU];refine ZtU [.loc 38 0] (fs:=[]) (xs:=[(b.wo n).pv]) (cs:=[]) rfl ?_ D0 ?_
  .simp[aM,VP,H5,jN]
  rintro r0 B0 (⟨q0,rfl,rfl⟩|⟨q0,Kh,Ch,rfl,rfl⟩)
  .exact absurd y7 q0
  have Sm:=Zi7 (b.wo n) dD Kh Ch;have hH2:=TM dD [];have mV:=Zfl dD 1000;have Va:=ZhN (b.wo n) dD Kh (kK (b.wo n) [] (b.wo n).nums.length) (jP (b.wo n) (b.wo n).nums.length) Ch hH2 mV;generalize b.wo n=b2 at *;refine⟨by simp[oF,aX,GD,I9],?_⟩;simp[aM,aX,GD,nO,iQ,VP,H5,-aU];refine cM [.ptr (.par 0) 0] (laid 0 (kE b2 [] Kh)) 48 [.loc 44 0,.loc 44 1] (by simp[laid,kE,aX]) Sm (by simp[aX]) ?_;generalize kK b2 [] b2.nums.length=oK at *;generalize jP b2 b2.nums.length=ss2 at *;simp[aX,-aU];refine cM [.ptr (.par 0) 0] (laid 0 (gQ b2 Kh oK ss2)) 49 [.loc 48 0,.loc 48 1,.loc 48 2,.loc 44 0,.loc 44 1] (by simp[laid,gQ,aX]) Va (by simp[laid,gQ,aX]) ?_;cases FB:b2.contra
  case true=>
   rw[FB,if_neg (by simp),tG]at aB;simp[laid,gQ,aX,UU,-aU];exact⟨_,_,aG,Sub.mk (by simp) (by simp[Bk.cells]),aB⟩
  case false=>
  rw[FB,if_pos (by rfl)]at aB;simp[laid,gQ,aX,UU,aP,hY6,-aU];exact⟨_,_,aG,Sub.mk (by simp) (by simp[Bk.cells,aO]),aB⟩
 have he:k=b.nums.length:=by omega
 subst he;clear hJ;unfold Ix;rw[mX]at lZ ⊢;generalize b.nums.filter b.s6=Y at *;have hY:(Y.map aO).take Y.length=Y.map aO:=fP (by simp);simp[hY,-aU];rw[<-hR];exact⟨_,rfl,rfl,fun m v h=>h⟩
end
section
attribute [local irreducible] Bk.fault Bk.qG
theorem OY:jR 3=some 3:=rfl
theorem UJ:jR 4=some 4:=rfl
theorem nI5:jR 5=some 5:=rfl
theorem nI6:jR 6=some 6:=rfl
def lX (l:List Ct)(bad:List Int)(x:Ct):Except Int (List Ct):=
 if(l.any fun y=>decide (y.num=x.num))=true then .error 6
 else if Bk.fault ⟨qV,l++[x]⟩=0 then(if(fD (l++[x]) bad).qG.2=7 then .ok (l++[x])else .error 9)
 else .error (Bk.fault ⟨qV,l++[x]⟩)
def crQ (r:Except Int (List Ct))(bad:List Int)(ls:PV)(ts:PV)(rn:PV)(a b c d e:PV):Prop:=∃l',r=.ok l'/\a=aL l'/\b=bJ bad/\c=ls/\d=ts/\e=rn
theorem Zu3 (l:List Ct)(bad:List Int)(ls ts rn:PV)(x:Ct)(hl:l.length<=900)(hb:bad.length<=1000):
  sY prog 187 [.ptr (.par 0) 0,.pv (.aE false 1 [iP x.num,iP x.it,iP x.src,iP x.day,iP x.valid,iP x.diff.lo,iP x.diff.hi])] [(.par 0,aQ (aL l) (bJ bad) ls ts rn)] (yB (crQ (lX l bad x) bad ls ts rn)) (uR (fun e=>lX l bad x=.error e)):=by
 have uS:=Zf l x.num (bJ bad) ls ts rn (by omega);refine cX L187 ?_;generalize hE:(fun e=>lX l bad x=.error e)=E;generalize hQ:crQ (lX l bad x) bad ls ts rn=Q;unfold lX at hE hQ;generalize(l.any fun y=>decide (y.num=x.num))=kn at hE hQ uS;show fO _ (.seq _ (.seq _ (.seq _ _))) _ _ _;cases kn with
 |true=>
  have IU:E 6:=by rw[<-hE];rfl
  refine xD [_,_,_,_,_,_] ?_;simp[hold,aQ,iP,aL];refine cM [.ptr (.par 0) 0,.pv (.i x.num)] [(.par 0,aQ (aL l) (bJ bad) ls ts rn)] 9 [.par 0] (by simp[aQ,aL]) uS (by simp[aQ]) ?_;simp[aQ];exact pF 6 IU
 |false=>
 rw[if_neg (by simp)]at hE hQ;refine mF ?_;simp[hold,aQ,iP,aL];refine cM [.ptr (.par 0) 0,.pv (.i x.num)] [(.par 0,aQ (aL l) (bJ bad) ls ts rn)] 9 [.par 0] (by simp[aQ,aL]) uS (by simp[aQ]) ?_;simp[aQ];refine cG [.bool true,.i 6] (gM 6) ?_;simp;refine mF ?_;simp[hold,setAt,OY,UJ,nI5,nI6];refine .inl (cQ [] [.aE false 7 (l.map Ct.pv),x.pv] (ZoH (l.map Ct.pv) x.num x.it x.src x.day x.valid x.diff.lo x.diff.hi (by rw[fZ];omega)) ?_);have H4:l.map Ct.pv++[.agg [.i x.num,.i x.it,.i x.src,.i x.day,.i x.valid,.i x.diff.lo,.i x.diff.hi]]=(l++[x]).map Ct.pv:=by rw[mH];rfl
 rw[H4];have RI:(l++[x]).length<=1000:=by rw[gD];simp;omega
 generalize l++[x]=L at hE hQ RI ⊢;clear H4 uS;simp[hold];have hwc:=Zr5 L (bJ bad) ls ts rn;have IG:=ZjQ ⟨qV,L⟩ (show qV.length<=1000 by decide) RI;generalize hF:Bk.fault ⟨qV,L⟩=F at hE hQ IG;refine mF ?_;simp;refine cM [.ptr (.par 0) 0] [(.par 0,aQ (aL L) (bJ bad) ls ts rn)] 46 [.par 0] (by simp[aQ,aL]) hwc (by simp[aQ]) ?_;simp[hold,aQ];refine cG [Bk.pv ⟨qV,L⟩] IG ?_;simp[hold];by_cases h0:¬F=0
 .rw[if_neg h0]at hE;have hEF:E F:=by rw[<-hE]
  refine xD [_,_,_] ?_;simp[hold,h0];exact pF F hEF
 have h0:=Decidable.not_not.1 h0;rw[if_pos h0]at hE hQ;refine mF ?_;simp[hold,h0];refine cG [.bool true,.i 0] (gM 0) ?_;simp[hold];have nY:=Mb L bad ls ts rn RI hb;have wE:=Zmi (fD L bad) (show qV.length<=1000 by decide) (by unfold fD fS;exact lJ (Q7 _ _) RI);generalize hS:(fD L bad).qG=sp at hE hQ wE;obtain⟨s1,s2⟩:=sp;refine mF ?_;simp;refine cM [.ptr (.par 0) 0] [(.par 0,aQ (aL L) (bJ bad) ls ts rn)] 54 [.par 0] (by simp[aQ,aL]) nY (by simp[aQ]) ?_;simp[aQ];refine .inl (cQ [] [(fD L bad).pv] wE ?_);simp[K1];by_cases h7:¬s2=7
 .rw[if_neg h7]at hE;have Vw:E 9:=by rw[<-hE]
  refine Gk [_,_] ?_;simp[hold,h7];exact pF 9 Vw
 have h7:=Decidable.not_not.1 h7;rw[if_pos h7]at hQ;refine GB ?_;simp[hold,h7];refine cG [.bool true,.i 9] (gM 9) ?_;simp[hold];refine l8 (a:=aL L) (b:=bJ bad) (c:=ls) (d:=ts) (e:=rn) [] ?_ ?_
 .simp[aY,aQ,aL,bJ]
 .rw[<-hQ];exact⟨_,rfl,rfl,rfl,rfl,rfl,rfl⟩
end
end Go.Proofs.YtlllhbmbnjnoiaaGreatDoor
namespace Go.Proofs.YtlllhbmbnjnoiaaGreatDoor.Qn
open Go.RowKit
open Tryz
section
open Go.RowKit Go.ChangeShapes Go.WideShapes Go.Deep
structure Rg where
 lo:Int
 hi:Int
structure Rq where
 hours:Int
 ready:Int
 on:List Bool
structure Qu where
 ms:List (List Rg)
 rs:List Rq
def Rg.pv (r:Rg):PV:=.agg [.i r.lo,.i r.hi]
def iD (l:List Rg):PV:=.aE false 2 (l.map Rg.pv)
def OS (l:List Bool):PV:=.aE false 1 (l.map PV.bool)
def Rq.pv (r:Rq):PV:=.agg [.i r.hours,.i r.ready,OS r.on]
def Qu.pv (q:Qu):PV:=.agg [.aE false 1 (q.ms.map iD),.aE false 3 (q.rs.map Rq.pv)]
section
variable {H:Type}{enc:TypeId×Value->H}{W:World}{sp:Nat->Bool}{held:Bool}{r:Reach}{base:Nat}
end
end
theorem GG (n lo hi:Int):aD prog 173 [.i n,.i lo,.i hi] (.bool (decide (lo<=n)&&decide (n<=hi))):=by
 refine cS L173 ?_;by_cases h:lo<=n
 all_goals simp[h,L173]
theorem yH (n lo hi:Int):aD prog 269 [.i n,.i lo,.i hi] (.bool (decide (lo<=n)&&decide (n<=hi))):=by
 refine cS L269 ?_;by_cases h:lo<=n
 all_goals simp[h,L269]
def wH (n:Int):Bool:=decide (0<=n)&&decide (n<=39)
def kT (n:Int):Bool:=decide (0<=n)&&decide (n<=40)
theorem ZrI (n:Int):aD prog 172 [.i n] (.bool (wH n)):=by
 refine cS L172 ?_;simp[L172];refine gG (k:=0) rfl rfl (GG n 0 39) rfl ?_;simp[wH]
theorem ZrF (n:Int):aD prog 132 [.i n] (.bool (kT n)):=by
 refine cS L132 ?_;simp[L132];refine gG (k:=0) rfl rfl (GG n 0 40) rfl ?_;simp[kT]
def Rg.s8 (r:Rg):Bool:=wH r.lo&&wH r.hi&&decide (r.lo<=r.hi)
theorem Ztx (r:Rg):aD prog 130 [r.pv] (.bool r.s8):=by
 refine cS L130 ?_;simp[L130,Rg.pv];refine gG (k:=0) rfl rfl (ZrI r.lo) rfl ?_;cases h1:wH r.lo
 .simp[Rg.s8,h1]
 .simp;refine gG (k:=0) rfl rfl (ZrI r.hi) rfl ?_;cases h2:wH r.hi
  .simp[Rg.s8,h1,h2]
  .simp[Rg.s8,h1,h2]
theorem Zrh (l:List PV)(g:FuncId)(fs cs:List PV)(q:PV->Bool)(hq:∀x∈l,aD prog g (fs++[x]++cs) (.bool (q x)))(hl:l.length<=1000000)(hc:∀x∈l,∃ys,x=.aE false 2 ys):
  aD prog 174 [.aE false 1 l,.fn g fs cs] (.bool (l.any q)):=
 wX 213 (TB (row:=false) hq hl (fun x hx=>by obtain⟨ys,rfl⟩:=hc x hx;exact⟨rfl,by simp⟩))
theorem Zo1 (x:PV)(g:FuncId)(fs cs:List PV)(b:Bool)(hx:∃ys,x=.aE false 2 ys)(hq:aD prog g (fs++[x]++cs) (.bool b)):
  aD prog 175 [x,.ref [.fn g fs cs]] (.bool (!b)):=by
 obtain⟨ys,rfl⟩:=hx;refine cS L175 ?_;simp[L175];refine gG (k:=0) rfl rfl hq rfl ?_;simp
theorem ZlB (l:List PV)(g:FuncId)(fs cs:List PV)(q:PV->Bool)(hq:∀x∈l,aD prog g (fs++[x]++cs) (.bool (q x)))(hl:l.length<=1000000)(hc:∀x∈l,∃ys,x=.aE false 2 ys):
  aD prog 133 [.aE false 1 l,.fn g fs cs] (.bool (l.all q)):=
 O1 174 175 (Zrh l 175 [] [.ref [.fn g fs cs]] (fun x=>!q x) (fun x hx=>Zo1 x g fs cs (q x) (hc x hx) (hq x hx)) hl hc)
theorem ZoY (l:List PV)(g:FuncId)(fs cs:List PV)(q:PV->Bool)(hq:∀x∈l,aD prog g (fs++[x]++cs) (.bool (q x)))(hl:l.length<=1000000)(hc:∀x∈l,∃a b,x=.agg [.i a,.i b]):
  aD prog 170 [.aE false 2 l,.fn g fs cs] (.bool (l.any q)):=
 wX 212 (TB (row:=true) hq hl (fun x hx=>by obtain⟨a,b,rfl⟩:=hc x hx;exact⟨_,rfl,rfl⟩))
theorem Zrl (x:PV)(g:FuncId)(fs cs:List PV)(b:Bool)(hx:∃a b,x=.agg [.i a,.i b])(hq:aD prog g (fs++[x]++cs) (.bool b)):
  aD prog 171 [x,.ref [.fn g fs cs]] (.bool (!b)):=by
 obtain⟨a,b,rfl⟩:=hx;refine cS L171 ?_;simp[L171];refine gG (k:=0) rfl rfl hq rfl ?_;simp
theorem Zub (l:List PV)(g:FuncId)(fs cs:List PV)(q:PV->Bool)(hq:∀x∈l,aD prog g (fs++[x]++cs) (.bool (q x)))(hl:l.length<=1000000)(hc:∀x∈l,∃a b,x=.agg [.i a,.i b]):
  aD prog 129 [.aE false 2 l,.fn g fs cs] (.bool (l.all q)):=
 O1 170 171 (ZoY l 171 [] [.ref [.fn g fs cs]] (fun x=>!q x) (fun x hx=>Zrl x g fs cs (q x) (hc x hx) (hq x hx)) hl hc)
theorem Zt6 (l:List PV)(g:FuncId)(fs cs:List PV)(q:PV->Bool)(hq:∀x∈l,aD prog g (fs++[x]++cs) (.bool (q x)))(hl:l.length<=1000000)(hc:∀x∈l,∃a b ys,x=.agg [.i a,.i b,.aE false 1 ys]):
  aD prog 176 [.aE false 3 l,.fn g fs cs] (.bool (l.any q)):=
 wX 214 (TB (row:=true) hq hl (fun x hx=>by obtain⟨a,b,ys,rfl⟩:=hc x hx;exact⟨_,rfl,rfl⟩))
theorem Zrk (x:PV)(g:FuncId)(fs cs:List PV)(b:Bool)(hx:∃a b ys,x=.agg [.i a,.i b,.aE false 1 ys])(hq:aD prog g (fs++[x]++cs) (.bool b)):
  aD prog 177 [x,.ref [.fn g fs cs]] (.bool (!b)):=by
 obtain⟨a,b,ys,rfl⟩:=hx;refine cS L177 ?_;simp[L177];refine gG (k:=0) rfl rfl hq rfl ?_;simp
theorem Zua (l:List PV)(g:FuncId)(fs cs:List PV)(q:PV->Bool)(hq:∀x∈l,aD prog g (fs++[x]++cs) (.bool (q x)))(hl:l.length<=1000000)(hc:∀x∈l,∃a b ys,x=.agg [.i a,.i b,.aE false 1 ys]):
  aD prog 134 [.aE false 3 l,.fn g fs cs] (.bool (l.all q)):=
 O1 176 177 (Zt6 l 177 [] [.ref [.fn g fs cs]] (fun x=>!q x) (fun x hx=>Zrk x g fs cs (q x) (hc x hx) (hq x hx)) hl hc)
theorem Du (ys:List PV):aD prog 127 [.aE false 2 ys] (.bool (decide ((ys.length:Int)<=6))):=by
 refine cS L127 ?_;simp[-decide_eq_true_eq,L127]
def Fp:PV->Bool
 |.agg [.int _ a,.int _ b]=>Rg.s8 ⟨a,b⟩
 |_=>true
theorem Zsh (l:List Rg)(hl:l.length<=1000000):aD prog 128 [iD l] (.bool (l.all Rg.s8)):=by
 have h:=Zub (l.map Rg.pv) 130 [] [] Fp (fun x hx=>by
  obtain⟨r,_,rfl⟩:=iJ.1 hx;exact Ztx r) (by simpa using hl) (fun x hx=>by
  obtain⟨r,_,rfl⟩:=iJ.1 hx;exact⟨_,_,rfl⟩)
 have e:(l.map Rg.pv).all Fp=l.all Rg.s8:=by rw[List.all_map];rfl
 rw[e]at h;refine cS L128 ?_;simp[L128,iD];refine gG (k:=0) rfl rfl h rfl ?_;simp
def Rq.okB (n:Nat)(r:Rq):Bool:=kT r.hours&&kT r.ready&&decide ((r.on.length:Int)=n)
theorem YV (q:Qu)(r:Rq):aD prog 131 [r.pv,.ref [.aE false 1 (q.ms.map iD),.aE false 3 (q.rs.map Rq.pv)]] (.bool (r.okB q.ms.length)):=by
 refine cS L131 ?_;simp[L131,Rq.pv];refine gG (k:=0) (fs:=[]) (cs:=[]) rfl rfl (ZrF r.hours) rfl ?_;cases h1:kT r.hours
 .simp[Rq.okB,h1]
 .simp;refine gG (k:=0) (fs:=[]) (cs:=[]) rfl rfl (ZrF r.ready) rfl ?_;cases h2:kT r.ready
  .simp[Rq.okB,h1,h2]
  .simp[OS,Rq.okB,h1,h2]
def Qu.xN (q:Qu):Bool:=decide (4<q.ms.length)||decide (6<q.rs.length)||!(q.ms.all fun l=>decide ((l.length:Int)<=6))
def Qu.bad (q:Qu):Bool:=!(q.ms.all fun l=>l.all Rg.s8)||!(q.rs.all fun r=>r.okB q.ms.length)
def Qu.check (q:Qu):Int:=if q.xN=true then 3 else if q.bad=true then 1 else 0
def SB:PV->Bool
 |.aE _ _ ys=>decide ((ys.length:Int)<=6)
 |_=>true
def Yv:PV->Bool
 |.aE _ _ ys=>ys.all Fp
 |_=>true
def ZN (n:Nat):PV->Bool
 |.agg [.int _ a,.int _ b,.aE _ _ ys]=>kT a&&kT b&&decide ((ys.length:Int)=n)
 |_=>true
theorem WY (q:Qu)(h1:q.ms.length<=1000000)(h2:q.rs.length<=1000000)(h3:∀l∈q.ms,l.length<=1000000):aD prog 91 [q.pv] (.i q.check):=by
 have e1:(q.ms.map iD).all SB=q.ms.all fun l=>decide ((l.length:Int)<=6):=by
  rw[List.all_map];congr 1;funext l;simp[SB,iD]
 have e2:(q.ms.map iD).all Yv=q.ms.all fun l=>l.all Rg.s8:=by
  rw[List.all_map];congr 1;funext l;show((l.map Rg.pv).all Fp)=_;rw[List.all_map];rfl
 have e3:(q.rs.map Rq.pv).all (ZN q.ms.length)=q.rs.all fun r=>r.okB q.ms.length:=by
  rw[List.all_map];congr 1;funext r;simp[ZN,Rq.pv,OS,Rq.okB]
 have a1:=ZlB (q.ms.map iD) 127 [] [] SB (fun x hx=>by
  obtain⟨l,_,rfl⟩:=iJ.1 hx;exact Du _) (by simpa using h1) (fun x hx=>by
  obtain⟨l,_,rfl⟩:=iJ.1 hx;exact⟨_,rfl⟩)
 have a2:=ZlB (q.ms.map iD) 128 [] [] Yv (fun x hx=>by
  obtain⟨l,hl,rfl⟩:=iJ.1 hx
  have:=Zsh l (h3 l hl)
  have e:Yv (iD l)=l.all Rg.s8:=by show((l.map Rg.pv).all Fp)=_;rw[List.all_map];rfl
  rw[e];exact this) (by simpa using h1) (fun x hx=>by
  obtain⟨l,_,rfl⟩:=iJ.1 hx;exact⟨_,rfl⟩)
 have a3:=Zua (q.rs.map Rq.pv) 131 [] [.ref [.aE false 1 (q.ms.map iD),.aE false 3 (q.rs.map Rq.pv)]] (ZN q.ms.length) (fun x hx=>by
  obtain⟨r,_,rfl⟩:=iJ.1 hx;have e:ZN q.ms.length r.pv=r.okB q.ms.length:=by simp[ZN,Rq.pv,OS,Rq.okB]
  rw[e];exact YV q r) (by simpa using h2) (fun x hx=>by
  obtain⟨r,_,rfl⟩:=iJ.1 hx;exact⟨_,_,_,rfl⟩)
 rw[e1]at a1;rw[e2]at a2;rw[e3]at a3;have hb:q.xN=(decide (4<q.ms.length)||decide (6<q.rs.length)||!(q.ms.all fun l=>decide ((l.length:Int)<=6))):=rfl;have hd:q.bad=(!(q.ms.all fun l=>l.all Rg.s8)||!(q.rs.all fun r=>r.okB q.ms.length)):=rfl;unfold Qu.check;generalize(q.ms.all fun l=>decide ((l.length:Int)<=6))=b1 at *;generalize(q.ms.all fun l=>l.all Rg.s8)=b2 at *;generalize(q.rs.all fun r=>r.okB q.ms.length)=b3 at *;refine cS L91 ?_;by_cases c1:4<q.ms.length
 .have k1:(4:Int)<(q.ms.length:Int):=by omega
  have C6:¬((q.ms.length:Int)<=4):=by omega
  simp[L91,Qu.pv,k1,hb,c1]
 .have d1:decide ((4:Int)<(q.ms.length:Int))=false:=by simp;omega
  by_cases c2:6<q.rs.length
  .have d2:decide ((6:Int)<(q.rs.length:Int))=true:=by simp;omega
   simp[-decide_eq_true_eq,-decide_eq_false_iff_not,L91,Qu.pv,d1,d2];simp[hb,c1,c2]
  .have d2:decide ((6:Int)<(q.rs.length:Int))=false:=by simp;omega
   simp[-decide_eq_true_eq,-decide_eq_false_iff_not,L91,Qu.pv,d1,d2];refine gG (k:=4) rfl rfl a1 rfl ?_;cases b1
   .simp[hb,c1,c2]
   .simp;refine gG (k:=4) rfl rfl a2 rfl ?_;cases b2
    .simp[hb,hd,c1,c2]
    .simp;refine gG (k:=4) rfl rfl a3 rfl ?_;cases b3<;>simp[hb,hd,c1,c2]
def Qu.cells (q:Qu):List AV:=[.pv (.aE false 1 (q.ms.map iD)),.pv (.aE false 3 (q.rs.map Rq.pv))]


def aO (n:Int):PV:=.i n
def bS (l:List Int):PV:=.aE false 1 (l.map aO)
def eG (p:List (List Int)):PV:=.aE false 1 (p.map bS)
theorem jE {k:Nat}(h:k<=1000000):IntKind.i64.wrap ((k:Int)+1)=((k+1:Nat):Int):=by rw[wrap64 (by omega)];omega
def Qu.tT (q:Qu)(i:Int):Int:=((q.rs[i.toNat]?).map Rq.hours).getD 0
def Qu.sH (q:Qu)(l:List Int):Int:=(l.map q.tT).sum
theorem Qu.ZxN {q:Qu}(hh:∀r∈q.rs,0<=r.hours/\r.hours<=40)(i:Int):0<=q.tT i/\q.tT i<=40:=by
 unfold Qu.tT;cases h:q.rs[i.toNat]? with
 |none=>simp
 |some r=>exact hh r (dL h)
theorem Qu.Zw1 {q:Qu}(hh:∀r∈q.rs,0<=r.hours/\r.hours<=40):∀l:List Int,0<=q.sH l/\q.sH l<=40*l.length
 |[]=>by simp[Qu.sH]
 |a::l=>by
  have h1:=Qu.Zw1 hh l;have h2:=q.ZxN hh a;have e:q.sH (a::l)=q.tT a+q.sH l:=by simp[Qu.sH]
  rw[e,pA];omega
theorem Qu.Zw9 (q:Qu)(a b:List Int):q.sH (a++b)=q.sH a+q.sH b:=by simp[Qu.sH]
theorem HD (q:Qu)(l:List Int)(hl:l.length<=1000)(hr:q.rs.length<=1000)(hh:∀r∈q.rs,0<=r.hours/\r.hours<=40)(fW:∀x∈l,0<=x/\x<q.rs.length):aD prog 142 [q.pv,bS l] (.i (q.sH l)):=by
 refine cS L142 ?_;simp[L142,Qu.pv,bS];refine eP (fun n τ=>∃k:Nat,k<=l.length/\n=l.length-k/\τ=⟨[(1,.pv (bS l)),(2,.ptr (.loc 2 0) 0),(5,.pv (.i (q.sH (l.take k)))),(6,.pv (.i k))],[(.loc 2 0,.cells q.cells)]⟩)
  ⟨l.length,⟨[(1,.pv (bS l)),(2,.ptr (.loc 2 0) 0),(5,.pv (.i 0)),(6,.pv (.i 0))],[(.loc 2 0,.cells q.cells)]⟩,Sub.mk (by simp[bS]) (by simp[Qu.cells]),0,gY _,rfl,by simp[Qu.sH]⟩ ?_
 rintro J hJ n τ ⟨k,hk,rfl,rfl⟩;by_cases aJ:k<l.length
 .obtain⟨x,hx⟩:∃x,l[k]?=some x:=⟨l[k],bC aJ⟩;obtain⟨BV,X4⟩:=fW x (dL hx);obtain⟨i,rfl⟩:∃i:Nat,x=i:=⟨x.toNat,by omega⟩;obtain⟨r,wG⟩:∃r,q.rs[i]?=some r:=⟨q.rs[i]'(by omega),bC _⟩;have QU:(l.map aO)[k]?=some (.i i):=by rw[bX,hx];rfl
  have H3:(q.rs.map Rq.pv)[i]?=some (.agg [.i r.hours,.i r.ready,OS r.on]):=by rw[bX,wG];rfl
  have hw:=jE (k:=k) (by omega);have jT:q.sH (l.take (k+1))=q.sH (l.take k)+r.hours:=by
   rw[mR,hx,Qu.Zw9];simp[Qu.sH,Qu.tT,wG]
  have hb:=Qu.Zw1 hh (l.take k);have pO:(l.take k).length<=1000:=by rw[gN];omega
  have RB:=hh r (dL wG);have sN:IntKind.i64.wrap (q.sH (l.take k)+r.hours)=q.sH (l.take k)+r.hours:=wrap64 (by omega);have aB:=hJ _ _ ⟨k+1,aJ,rfl,rfl⟩;clear hJ;simp[bS,Qu.cells,aJ,↓QU,↓H3,hw,sN];refine⟨_,_,(by omega:l.length-(k+1)<l.length-k),Sub.mk ?_ ?_,aB⟩
  .simp[bS,jT]
  .simp[Qu.cells]
 .have he:k=l.length:=by omega
  subst he;simp[bS,Qu.cells]
def Rg.has (s:Rg)(h:Int):Bool:=decide (s.lo<=h)&&decide (h<=s.hi)
theorem Zsi (s:Rg)(h:Int):aD prog 313 [s.pv,.ref [.i h]] (.bool (s.has h)):=by
 refine cS L313 ?_;simp[L313,Rg.pv];refine gG (k:=0) rfl rfl (GG h s.lo s.hi) rfl ?_;simp[Rg.has]
def Cy (h:Int):PV->Bool
 |.agg [.int _ a,.int _ b]=>Rg.has ⟨a,b⟩ h
 |_=>false
def Qu.run (q:Qu)(i:Nat):Rq:=(q.rs[i]?).getD ⟨0,0,[]⟩
def Qu.stops (q:Qu)(m:Nat):List Rg:=(q.ms[m]?).getD []
def Qu.may (q:Qu)(i m:Nat)(h:Int):Bool:=((q.run i).on[m]?).getD false&&decide ((q.run i).ready<=h)&&!(q.stops m).any (Rg.has · h)
structure Qu.ok (q:Qu):Prop where
 m:q.ms.length<=4
 r:q.rs.length<=6
 s:∀l∈q.ms,l.length<=6
 x:∀l∈q.ms,∀y∈l,0<=y.lo/\y.lo<=y.hi/\y.hi<=39
 h:∀r∈q.rs,0<=r.hours/\r.hours<=40
 d:∀r∈q.rs,0<=r.ready/\r.ready<=40
 f:∀r∈q.rs,r.on.length=q.ms.length
theorem Qu.Kv {q:Qu}(h:q.check=0):q.ok:=by
 unfold Qu.check at h;split at h
 .cases h
 .rename_i h1;split at h
  .cases h
  .rename_i h2;simp only[Qu.xN,Bool.not_eq_true,Bool.or_eq_false_iff,decide_eq_false_iff_not,Bool.not_eq_false',rA,decide_eq_true_eq]at h1;simp only[Qu.bad,Bool.not_eq_true,Bool.or_eq_false_iff,Bool.not_eq_false',rA]at h2;obtain⟨⟨a1,a2⟩,a3⟩:=h1;obtain⟨b1,b2⟩:=h2;refine⟨by omega,by omega,fun l hl=>by have:=a3 l hl;omega,fun l hl y hy=>?_,fun r hr=>?_,fun r hr=>?_,fun r hr=>?_⟩
   .have:=b1 l hl y hy
    simp only[Rg.s8,wH,dK,decide_eq_true_eq]at this;omega
   all_goals
    have:=b2 r hr
    simp only[Rq.okB,kT,dK,decide_eq_true_eq]at this;omega
theorem ZS (q:Qu)(hq:q.ok)(i m:Nat)(h:Int)(hi:i<q.rs.length)(hm:m<q.ms.length):aD prog 300 [q.pv,.i i,.i m,.i h] (.bool (q.may i m h)):=by
 obtain⟨r,hr⟩:∃r,q.rs[i]?=some r:=⟨q.rs[i],bC hi⟩;obtain⟨l,hl⟩:∃l,q.ms[m]?=some l:=⟨q.ms[m],bC hm⟩;obtain⟨b,hb⟩:∃b,r.on[m]?=some b:=⟨r.on[m]'(by rw[hq.f r (dL hr)];exact hm),bC _⟩;have yN:=hq.s l (dL hl);have e:q.may i m h=(b&&decide (r.ready<=h)&&!l.any (Rg.has · h)):=by simp[Qu.may,Qu.run,Qu.stops,hr,hl,hb]
 have g1:(q.rs.map Rq.pv)[i]?=some (.agg [.i r.hours,.i r.ready,.aE false 1 (r.on.map PV.bool)]):=by rw[bX,hr];rfl
 have g2:(q.ms.map iD)[m]?=some (.aE false 2 (l.map Rg.pv)):=by rw[bX,hl];rfl
 have g3:(r.on.map PV.bool)[m]?=some (.bool b):=by rw[bX,hb];rfl
 have a1:=ZoY (l.map Rg.pv) 313 [] [.ref [.i h]] (Cy h) (fun x hx=>by
  obtain⟨s,_,rfl⟩:=iJ.1 hx;exact Zsi s h) (by simp;omega) (fun x hx=>by
  obtain⟨s,_,rfl⟩:=iJ.1 hx;exact⟨_,_,rfl⟩)
 have e2:(l.map Rg.pv).any (Cy h)=l.any (Rg.has · h):=by rw[List.any_map];rfl
 rw[e2]at a1;rw[e];generalize l.any (Rg.has · h)=c at *;clear e yN e2;refine cS L300 ?_;cases b
 .simp[L300,Qu.pv,↓g1,↓g3]
 .by_cases hd:r.ready<=h
  .simp[L300,Qu.pv,↓g1,↓g2,↓g3,hd];refine gG (k:=4) (fs:=[]) (xs:=[.aE false 2 (l.map Rg.pv),.fn 313 [] [.ref [.i h]]]) (cs:=[]) rfl rfl a1 rfl ?_;simp
  .simp[L300,Qu.pv,↓g1,↓g3,hd]
def kL (p:List (List Int))(i:Nat):Nat:=(p.map (List.count (i:Int))).sum
theorem Mf (a b:List (List Int))(i:Nat):kL (a++b) i=kL a i+kL b i:=by simp[kL]
theorem ZtR (l:List Int)(i:Nat):kL [l] i=l.count (i:Int):=by simp[kL]
theorem OD {α:Type}{l:List α}{k:Nat}{x:α}(h:l[k]?=some x):l.take (k+1)=l.take k++[x]:=by rw[mR,h];rfl

theorem Zur (q:Qu)(hq:q.ok)(i m:Nat)(h:Int)(hi:i<q.rs.length)(hm:m<q.ms.length):aD prog 220 [q.pv,.i i,.i m,.i h] (.bool (q.may i m h)):=by
 obtain⟨r,hr⟩:∃r,q.rs[i]?=some r:=⟨q.rs[i],bC hi⟩;obtain⟨l,hl⟩:∃l,q.ms[m]?=some l:=⟨q.ms[m],bC hm⟩;obtain⟨b,hb⟩:∃b,r.on[m]?=some b:=⟨r.on[m]'(by rw[hq.f r (dL hr)];exact hm),bC _⟩;have yN:=hq.s l (dL hl);have e:q.may i m h=(b&&decide (r.ready<=h)&&!(l.take l.length).any (Rg.has · h)):=by simp[Qu.may,Qu.run,Qu.stops,hr,hl,hb]
 have g1:(q.rs.map Rq.pv)[i]?=some (.agg [.i r.hours,.i r.ready,.aE false 1 (r.on.map PV.bool)]):=by rw[bX,hr];rfl
 have g2:(q.ms.map iD)[m]?=some (.aE false 2 (l.map Rg.pv)):=by rw[bX,hl];rfl
 have g3:(r.on.map PV.bool)[m]?=some (.bool b):=by rw[bX,hb];rfl
 obtain⟨C,hC⟩:∃C,C=(b&&decide (r.ready<=h)):=⟨_,rfl⟩;rw[e,<-hC];clear e;refine cS L220 ?_;cases b<;>by_cases hd:r.ready<=h
 all_goals
  simp[L220,Qu.pv,↓g1,↓g3,hd];refine eP (fun n τ=>∃k:Nat,k<=l.length/\n=l.length-k/\τ=⟨[(2,.pv (.i m)),(3,.pv (.i h)),(4,.ptr (.loc 4 0) 0),(10,.pv (.bool (C&&!(l.take k).any (Rg.has · h)))),(11,.pv (.i k))],[(.loc 4 0,.cells q.cells)]⟩)
   ⟨l.length,⟨[(2,.pv (.i m)),(3,.pv (.i h)),(4,.ptr (.loc 4 0) 0),(10,.pv (.bool C)),(11,.pv (.i 0))],[(.loc 4 0,.cells q.cells)]⟩,Sub.mk (by simp[hC,hd]) (by simp[Qu.cells]),0,gY _,rfl,by simp⟩ ?_
  clear hC hd;rintro J hJ n τ ⟨k,hk,rfl,rfl⟩;by_cases aJ:k<l.length
  .obtain⟨x,hx⟩:∃x,l[k]?=some x:=⟨l[k],bC aJ⟩;have g4:(l.map Rg.pv)[k]?=some (.agg [.i x.lo,.i x.hi]):=by rw[bX,hx];rfl
   have hw:=jE (k:=k) (by omega);have aB:=hJ _ _ ⟨k+1,aJ,rfl,rfl⟩;have kA:(C&&!(l.take (k+1)).any (Rg.has · h))=((C&&!(l.take k).any (Rg.has · h))&&!x.has h):=by
    rw[OD hx,List.any_append,List.any_cons,List.any_nil,Bool.or_false,Bool.not_or,Bool.and_assoc]
   have aG:l.length-(k+1)<l.length-k:=by omega
   clear hJ;generalize(C&&!(l.take (k+1)).any (Rg.has · h))=C2 at *;generalize(C&&!(l.take k).any (Rg.has · h))=C1 at *;subst kA;cases C1
   .simp[Qu.cells,↓g2,↓g4,aJ,hw];exact⟨_,_,aG,Sub.mk (by simp) (by simp[Qu.cells]),aB⟩
   .simp[Qu.cells,↓g2,↓g4,aJ];refine gG (k:=0) (fs:=[]) (cs:=[]) rfl rfl (yH h x.lo x.hi) rfl ?_;simp[hw,-Bool.not_and];exact⟨_,_,aG,Sub.mk (by simp[Rg.has]) (by simp[Qu.cells]),aB⟩
  .have he:k=l.length:=by omega
   subst he;simp[Qu.cells,↓g2]

def Qu.SQ (q:Qu)(l:List Int)(i:Nat):Bool:=decide (0<=(l[i]?).getD (-1))&&decide ((l[i]?).getD (-1)<=(q.rs.length:Int)-1)&&(decide (i=0)||decide ((l[i-1]?).getD (-1)<(l[i]?).getD (-1)))
def Qu.rising (q:Qu)(l:List Int):Bool:=(List.range l.length).all (q.SQ l)
theorem ZqI (l:List Int)(hl:l.length<=1000000):aD prog 69 [bS l] (bS l):=by
 refine cN.i7 ?_;refine cF [.loc 7 0] L69 ?_;cases l with
 |nil=>
  simp[L69,bS,dI,w8,aP,bZ,B7];exact fun m v h=>AK h
 |cons a l=>
  have h1:l.length+1<=1000000:=by simpa using hl
  have hm:(l.map aO).take l.length=l.map aO:=fP (by simp);simp[L69,bS,dI,aP,h1,hm]


section
theorem Zdy {P:Program}{C:Cons P}{c:C.S}{k:Nat}:((laid 0 (C.X c)).filter fun p=>!p.1.fQ k).map (fun p=>(p.1,p.2.bG k))=laid 0 (C.X c):=ZeE (C.cl c)
theorem ZuS:aD prog 136 [] (.agg [.i (-1),.i (-1),.i (-1),.i (-1)]):=by
 refine cS L136 ?_;simp[L136];refine eP (fun n τ=>(n=4/\τ=⟨[(0,.ptr (.loc 0 0) 0),(2,.pv (.i 0))],[(.loc 0 0,.cells [.pv (.i 0),.pv (.i 0),.pv (.i 0),.pv (.i 0)])]⟩)\/
  (n=3/\τ=⟨[(0,.ptr (.loc 0 0) 0),(2,.pv (.i 1))],[(.loc 0 0,.cells [.pv (.i (-1)),.pv (.i 0),.pv (.i 0),.pv (.i 0)])]⟩)\/
  (n=2/\τ=⟨[(0,.ptr (.loc 0 0) 0),(2,.pv (.i 2))],[(.loc 0 0,.cells [.pv (.i (-1)),.pv (.i (-1)),.pv (.i 0),.pv (.i 0)])]⟩)\/
  (n=1/\τ=⟨[(0,.ptr (.loc 0 0) 0),(2,.pv (.i 3))],[(.loc 0 0,.cells [.pv (.i (-1)),.pv (.i (-1)),.pv (.i (-1)),.pv (.i 0)])]⟩)\/
  (n=0/\τ=⟨[(0,.ptr (.loc 0 0) 0),(2,.pv (.i 4))],[(.loc 0 0,.cells [.pv (.i (-1)),.pv (.i (-1)),.pv (.i (-1)),.pv (.i (-1))])]⟩)) ⟨4,_,Sub.mk (by simp) (by simp),.inl ⟨rfl,rfl⟩⟩ ?_
 have w1:IntKind.i64.wrap 1=1:=rfl;have w2:IntKind.i64.wrap 2=2:=rfl;have w3:IntKind.i64.wrap 3=3:=rfl;have w4:IntKind.i64.wrap 4=4:=rfl;have n3:jR 3=some 3:=rfl;rintro J hJ n τ (⟨rfl,rfl⟩|⟨rfl,rfl⟩|⟨rfl,rfl⟩|⟨rfl,rfl⟩|⟨rfl,rfl⟩)
 .have aB:=hJ _ _ (.inr (.inl ⟨rfl,rfl⟩));clear hJ;simp[w1,cU,aP];exact⟨_,_,(by omega:3<4),Sub.mk (by simp) (by simp),aB⟩
 .have aB:=hJ _ _ (.inr (.inr (.inl ⟨rfl,rfl⟩)));clear hJ;simp[w2,cU,aP];exact⟨_,_,(by omega:2<3),Sub.mk (by simp) (by simp),aB⟩
 .have aB:=hJ _ _ (.inr (.inr (.inr (.inl ⟨rfl,rfl⟩))));clear hJ;simp[w3,cU,aP];exact⟨_,_,(by omega:1<2),Sub.mk (by simp) (by simp),aB⟩
 .have aB:=hJ _ _ (.inr (.inr (.inr (.inr ⟨rfl,rfl⟩))));clear hJ;simp[w4,n3,cU,aP];exact⟨_,_,(by omega:0<1),Sub.mk (by simp) (by simp),aB⟩
 .simp
def ZT (q:Qu)(i:Nat)(h:Int):PV:=.fn 299 [] [.ref [.aE false 1 (q.ms.map iD),.aE false 3 (q.rs.map Rq.pv)],.ref [.i i],.ref [.i h]]
theorem Zez (q:Qu)(i:Nat)(h:Int):aD prog 268 [q.pv,.i i,.i h] (ZT q i h):=by
 refine cF [.loc 3 0,.loc 4 0,.loc 5 0] L268 ?_;simp[L268,Qu.pv,eB,FE];rfl
attribute [local simp] ZfT ZfS ZfR Zds Zfp Zfq Zer Zdy
attribute [local simp] AV.map AV.iO dO Site.uI aK.dC AV.dC AV.gW AS.lU
def Qu.F5 (q:Qu)(i:Nat)(h:Int)(k:Nat):List Nat:=((List.range q.ms.length).take k).filter (fun m=>q.may i m h)
theorem Qu.Zxb (q:Qu){i:Nat}{h:Int}{k:Nat}(hk:k<q.ms.length):q.F5 i h (k+1)=q.F5 i h k++(if q.may i k h=true then[k]else[]):=by
 have:(List.range q.ms.length)[k]?=some k:=by rw[List.getElem?_range hk]
 unfold Qu.F5;rw[OD this,I1,xP,List.filter_nil]
end
section
abbrev GR:=List Bool×List Int×Bool
def nL (rec:Nat->List Bool->List Int->GR)(run:Nat):List Nat->List Bool->List Int->GR
 |[],t,w=>(t,w,false)
 |m::r,t,w=>if(t[m]?).getD true=true then nL rec run r t w else
  if(w[m]?).getD (-1) = -1 then(t.set m true,w.set m run,true)else
  if(rec ((w[m]?).getD (-1)).toNat (t.set m true) w).2.2=true then((rec ((w[m]?).getD (-1)).toNat (t.set m true) w).1,(rec ((w[m]?).getD (-1)).toNat (t.set m true) w).2.1.set m run,true)
  else nL rec run r (rec ((w[m]?).getD (-1)).toNat (t.set m true) w).1 (rec ((w[m]?).getD (-1)).toNat (t.set m true) w).2.1
def Qu.AE (q:Qu)(h:Int):Nat->Nat->List Bool->List Int->GR
 |0,_,t,w=>(t,w,false)
 |n+1,run,t,w=>nL (q.AE h n) run (q.F5 run h q.ms.length) t w
def A5 (t:List Bool):Nat:=t.count false
structure GW (q:Qu)(t:List Bool)(w:List Int):Prop where
 t4:t.length=4
 w4:w.length=4
 ok:∀x∈w,x = -1\/(0<=x/\x<q.rs.length)
theorem Zmp {t:List Bool}{m:Nat}(h:t[m]?=some false):A5 (t.set m true)+1=A5 t:=by
 induction t generalizing m with
 |nil=>simp at h
 |cons a r ih=>
  cases m with
  |zero=>simp at h;subst h;simp[A5]
  |succ m=>
   have h':r[m]?=some false:=by simpa using h
   have:=ih h'
   cases a<;>simp[A5]at this ⊢<;>omega
theorem GW.set {q:Qu}{t:List Bool}{w:List Int}(h:GW q t w)(m:Nat):GW q (t.set m true) w:=⟨by simpa using h.t4,h.w4,h.ok⟩
theorem GW.put {q:Qu}{t:List Bool}{w:List Int}(h:GW q t w)(m:Nat){run:Nat}(hr:run<q.rs.length):GW q t (w.set m run):=
 ⟨h.t4,by simpa using h.w4,fun x hx=>by
  rcases List.mem_or_eq_of_mem_set hx with hx|hx
  .exact h.ok x hx
  .subst hx;right;omega⟩
theorem GW.at {q:Qu}{t:List Bool}{w:List Int}(h:GW q t w){m:Nat}(hm:m<4):∃b x,t[m]?=some b/\w[m]?=some x/\(x = -1\/(0<=x/\x<q.rs.length)):=by
 have h1:m<t.length:=by rw[h.t4];exact hm
 have h2:m<w.length:=by rw[h.w4];exact hm
 exact⟨t[m],w[m],bC h1,bC h2,h.ok _ (zZ h2)⟩
theorem ZhA {q:Qu}{rec:Nat->List Bool->List Int->GR}{n:Nat}(nD:∀run t w,run<q.rs.length->GW q t w->GW q (rec run t w).1 (rec run t w).2.1/\A5 (rec run t w).1<=A5 t){run:Nat}(hr:run<q.rs.length):
  ∀(l:List Nat),(∀m∈l,m<4)->∀(t:List Bool) (w:List Int),GW q t w->GW q (nL rec run l t w).1 (nL rec run l t w).2.1/\A5 (nL rec run l t w).1<=A5 t
 |[],_,t,w,h=>⟨h,fH _⟩
 |m::r,hl,t,w,h=>by
  obtain⟨b,x,h1,h2,h3⟩:=h.at (hl m (by simp));have lH:∀m∈r,m<4:=fun m hm=>hl m (by simp[hm])
  unfold nL;rw[h1,h2];simp only[rU];cases b with
  |true=>rw[if_pos rfl];exact ZhA (n:=n) nD hr r lH t w h
  |false=>
   rw[if_neg (by simp)];have hu:=Zmp h1;split
   .exact⟨(h.set m).put m hr,by show A5 (t.set m true)<=_;omega⟩
   .rename_i hx;have Sb:x.toNat<q.rs.length:=by rcases h3 with h3|h3;exact absurd h3 hx;omega
    obtain⟨k1,k2⟩:=nD x.toNat (t.set m true) w Sb (h.set m);split
    .exact⟨k1.put m hr,by show A5 (rec x.toNat (t.set m true) w).1<=_;omega⟩
    .obtain⟨k3,k4⟩:=ZhA (n:=n) nD hr r lH _ _ k1;exact⟨k3,by omega⟩
theorem Lv {q:Qu}(hq:q.ok){i:Nat}{h:Int}{k:Nat}:∀m∈q.F5 i h k,m<q.ms.length:=fun m hm=>by
 unfold Qu.F5 at hm
 have:=List.mem_of_mem_take (iV.1 hm).1
 simpa using this
theorem Np {q:Qu}(hq:q.ok)(h:Int):∀(n run:Nat) (t:List Bool) (w:List Int),run<q.rs.length->GW q t w->GW q (q.AE h n run t w).1 (q.AE h n run t w).2.1/\A5 (q.AE h n run t w).1<=A5 t
 |0,run,t,w,_,hw=>⟨hw,fH _⟩
 |n+1,run,t,w,hr,hw=>ZhA (n:=n) (fun run t w hr hw=>Np hq h n run t w hr hw) hr _ (fun m hm=>by have:=Lv hq m hm;have:=hq.m;omega) t w hw
def bl (t:List Bool):List AV:=t.map fun b=>.pv (.bool b)
def il (w:List Int):List AV:=w.map fun n=>.pv (.i n)
theorem Zhh {q:Site->Bool}:∀(l:List PV),AV.gW q (l.map .pv)=true
 |[]=>rfl
 |a::r=>by simp[AV.gW,AV.dC,Zhh r]
theorem Zhg {g:Site->Site}:∀(l:List PV),AV.iO g (l.map .pv)=l.map .pv
 |[]=>rfl
 |a::r=>by simp[AV.iO,AV.map,Zhg r]
theorem Zii {d:Nat}(l:List PV):(l.map AV.pv).map (AV.bG d)=l.map .pv:=by rw[List.map_map];rfl
theorem DN (t:List Bool):bl t=(t.map PV.bool).map .pv:=by rw[List.map_map];rfl
theorem BR (t:List Int):il t=(t.map (PV.int .i64)).map .pv:=by rw[List.map_map];rfl
theorem Yc {q:Site->Bool}{t:List Bool}:AV.gW q (bl t)=true:=by rw[DN];exact Zhh _
theorem Ya {q:Site->Bool}{t:List Int}:AV.gW q (il t)=true:=by rw[BR];exact Zhh _
theorem Yd {g:Site->Site}{t:List Bool}:AV.iO g (bl t)=bl t:=by rw[DN];exact Zhg _
theorem Yb {g:Site->Site}{t:List Int}:AV.iO g (il t)=il t:=by rw[BR];exact Zhg _
theorem Yf {d:Nat}{t:List Bool}:(bl t).map (AV.bG d)=bl t:=by rw[DN];exact Zii _
theorem Ye {d:Nat}{t:List Int}:(il t).map (AV.bG d)=il t:=by rw[BR];exact Zii _
attribute [local simp] Yc Ya Yd Yb Yf Ye
end
section
attribute [local simp] Yc Ya Yd Yb Yf Ye

end
section
attribute [local simp] AS.exp jU aK.iT AV.map AV.iO rC dO Site.uI aK.dC AV.dC AV.gW cK AS.lU fA gH bY oW jZ mO gJ s4
attribute [local simp] Yc Ya Yd Yb Yf Ye
def fC:List Int:=[-1,-1,-1,-1]
def n9:List Bool:=[false,false,false,false]
def Qu.yT (q:Qu)(h:Int)(runs:List Int):Nat->Nat×List Int
 |0=>(0,fC)
 |k+1=>((q.yT h runs k).1+(if(q.AE h 5 ((runs[k]?).getD 0).toNat n9 (q.yT h runs k).2).2.2=true then 1 else 0),(q.AE h 5 ((runs[k]?).getD 0).toNat n9 (q.yT h runs k).2).2.1)
def Qu.DR (q:Qu)(h:Int)(runs:List Int):Nat:=(q.yT h runs runs.length).1
theorem GW.idle {q:Qu}:GW q n9 fC:=⟨rfl,rfl,fun x hx=>by simp[fC]at hx;exact .inl hx⟩
theorem GW.fresh {q:Qu}{t:List Bool}{w:List Int}(h:GW q t w):GW q n9 w:=⟨rfl,h.w4,h.ok⟩
theorem Qu.Zxs {q:Qu}(hq:q.ok){h:Int}{runs:List Int}(fW:∀x∈runs,0<=x/\x<q.rs.length):∀k,k<=runs.length->GW q n9 (q.yT h runs k).2/\(q.yT h runs k).1<=k
 |0,_=>⟨GW.idle,fH _⟩
 |k+1,hk=>by
  obtain⟨h1,h2⟩:=Qu.Zxs hq (h:=h) fW k (by omega);have hx:runs[k]?=some runs[k]:=bC (by omega);have hr:=fW _ (dL hx)
  have:=Np hq h 5 ((runs[k]?).getD 0).toNat n9 (q.yT h runs k).2 (by rw[hx];simp only[rU];omega) h1
  refine⟨this.1.fresh,?_⟩;show(q.yT h runs k).1+_<=k+1
  split<;>omega
def Qu.AF (q:Qu)(runs:List Int):Nat->Nat
 |0=>0
 |h+1=>q.AF runs h+q.DR h runs
theorem Qu.Zw7 {q:Qu}{l:List Int}(h:q.rising l=true):∀x∈l,0<=x/\x<q.rs.length:=fun x hx=>by
 obtain⟨i,hi⟩:=iK.1 hx;have hl:=(cA.1 hi).1;simp only[Qu.rising,rA,List.mem_range]at h
 have:=h i hl
 simp only[Qu.SQ,hi,rU,dK,decide_eq_true_eq]at this;omega
end
inductive Nd where
 |ru (r:Nat)
 |rh (r h:Nat)
 |mh (m h:Nat)
 deriving DecidableEq
def Nd.pv:Nd->PV
 |.ru r=>.agg [.i r,.i (-1),.i (-1)]
 |.rh r h=>.agg [.i r,.i (-1),.i h]
 |.mh m h=>.agg [.i (-1),.i m,.i h]
def Nd.kind:Nd->Nat
 |.ru _=>0
 |.rh _ _=>1
 |.mh _ _=>2
def rowP (r:List Int):PV:=.agg (r.map (PV.int .i64))
def jQ (p:List (List Int)):List PV:=p.map rowP
def HB (l:List Int)(run:Int):Int:=match l.findIdx? (fun x=>decide (run=x))with
 |some i=>i
 |none=>-1
def xI (p:List (List Int))(run:Int)(h:Nat):Int:=HB ((p[h]?).getD []) run
def gI (p:List (List Int))(h m:Nat):Int:=(((p[h]?).getD [])[m]?).getD (-1)
def bK (q:Qu)(p:List (List Int))(b:Nat):List aK:=[.cells [.pv (.aE false 1 (q.ms.map iD)),.pv (.aE false 3 (q.rs.map Rq.pv)),.vec (.par b) 4 0 p.length],.arr 180 4 (jQ p)]
def four (p:List (List Int)):Prop:=∀l∈p,l.length=4
theorem Ztn (l:List Int)(hl:l.length<=1000)(v:Int):aD prog 124 [.aE false 1 (l.map (PV.int .i64)),.i v] (.i (HB l v)):=by
 refine cS L124 ?_;simp[L124];refine eP (fun n τ=>∃k:Nat,k<=l.length/\n=l.length-k/\(∀(j:Nat) (x:Int),j<k->l[j]?=some x->decide (v=x)=false)/\τ=⟨[(0,.pv (.aE false 1 (l.map (PV.int .i64)))),(1,.pv (.i v)),(7,.pv (.i l.length)),(8,.pv (.i k))],[]⟩)
  ⟨l.length,⟨[(0,.pv (.aE false 1 (l.map (PV.int .i64)))),(1,.pv (.i v)),(7,.pv (.i l.length)),(8,.pv (.i 0))],[]⟩,Sub.mk (by simp) (by simp),0,gY _,rfl,(fun j x hj=>by omega),rfl⟩ ?_
 rintro J hJ n τ ⟨k,hk,rfl,hinv,rfl⟩;by_cases aJ:k<l.length
 .obtain⟨x,hx⟩:∃x,l[k]?=some x:=⟨l[k],bC aJ⟩;have hg:(l.map (PV.int .i64))[k]?=some (.i x):=by rw[bX,hx];rfl
  have hw:=jE (k:=k) (by omega);have aG:l.length-(k+1)<l.length-k:=by omega
  by_cases h1:v=x
  .have hf:l.findIdx? (fun x=>decide (v=x))=some k:=by
    rw[JJ];refine⟨aJ,by rw[(cA.1 hx).2];simpa using h1,fun j hj=>?_⟩
    have:=hinv j l[j] hj (bC (by omega))
    simpa using this
   unfold HB;rw[hf];simp[aJ,↓hg,h1]
  .have aB:=hJ _ _ ⟨k+1,aJ,rfl,(fun j y hj hy=>by
    rcases Nat.lt_succ_iff_lt_or_eq.1 hj with h|h
    .exact hinv j y h hy
    .subst h;rw[hx]at hy;cases hy;simpa using h1),rfl⟩
   clear hJ;simp[aJ,↓hg,h1,hw];exact⟨_,_,aG,Sub.mk (by simp) (by simp),aB⟩
 .have hf:l.findIdx? (fun x=>decide (v=x))=none:=by
   rw[List.findIdx?_eq_none_iff];intro x hx;obtain⟨j,hj⟩:=iK.1 hx;exact hinv j x (by have:=(cA.1 hj).1;omega) hj
  have he:k=l.length:=by omega
  subst he;unfold HB;rw[hf];simp
theorem ZM (x y:PV)(p:List (List Int))(hp:four p)(run:Int)(h:Nat)(hh:h<p.length):aD prog 267 [.ref [x,y,.aE false 4 (jQ p)],.i run,.i h] (.i (xI p run h)):=by
 obtain⟨l,hl⟩:∃l,p[h]?=some l:=⟨p[h],bC hh⟩;have h4:=hp l (dL hl);have hg:(jQ p)[h]?=some (.agg (l.map (PV.int .i64))):=by rw[jQ,bX,hl];rfl
 have ht:(l.map (PV.int .i64)).take 4=l.map (PV.int .i64):=fP (by simp[h4]);have e:xI p run h=HB l run:=by simp[xI,hl]
 rw[e];refine cS L267 ?_;have n4:jR 4=some 4:=rfl;simp[L267,↓hg,n4,h4,ht,aP];refine gG (k:=0) (fs:=[]) (cs:=[]) rfl rfl (Ztn l (by omega) run) rfl ?_;simp
theorem Yl (n:Nd):aD prog 179 [n.pv] (.i n.kind):=by
 refine cS L179 ?_;cases n with
 |ru r=>simp[L179,Nd.pv,Nd.kind]
 |rh r h=>
  have:¬((h:Int) = -1):=by omega
  simp[L179,Nd.pv,Nd.kind,this]
 |mh m h=>
  have h1:¬((h:Int) = -1):=by omega
  have h2:¬((m:Int) = -1):=by omega
  simp[L179,Nd.pv,Nd.kind,h1,h2]
def Yu:List PV:=[.agg [.fn 217 [] []],.agg [.fn 218 [] []],.agg [.fn 219 [] []]]
theorem Zsj:aD prog 181 [] (.aE false 1 Yu):=by
 refine cF [.loc 4 0] L181 ?_;simp[L181];rfl
def V5 (p:List (List Int))(r:Nat)(k:Nat):List Nd:=(((List.range p.length).take k).filter fun h=>decide (xI p r h = -1)).map (Nd.rh r)
def WX (p:List (List Int))(r:Nat):List Nd:=V5 p r p.length
theorem Zjk {p:List (List Int)}{r k:Nat}(hk:k<p.length):V5 p r (k+1)=V5 p r k++(if xI p r k = -1 then[.rh r k]else[]):=by
 have:(List.range p.length)[k]?=some k:=by rw[List.getElem?_range hk]
 unfold V5;rw[OD this,I1,mH,xP,List.filter_nil];by_cases h:xI p r k = -1<;>simp[h]
theorem ZgC {p:List (List Int)}{r k:Nat}:(V5 p r k).length<=k:=by
 unfold V5;rw[fZ];refine lJ (Q7 _ _) ?_;rw[gN];omega
def vP (l:List Nd):List (Site×aK):=[(.ret 0,.arr 281 3 (l.map Nd.pv))]
theorem Zp9 (q:Qu)(p:List (List Int))(hp:four p)(hl:p.length<=1000)(r:Nat):
  cN prog 217 [.ptr (.par 0) 0,.pv (Nd.ru r).pv] (laid 0 (bK q p 1)) (fun x B=>x=.vec (.ret 0) 3 0 (WX p r).length/\B=vP (WX p r)++laid 0 (bK q p 1)):=by
 refine N9 [.loc 26 0,.par 0,.par 1] L217 ?_;intro R hR;simp[L217,bK,laid,Nd.pv];refine eP (fun n τ=>∃k:Nat,k<=p.length/\n=p.length-k/\τ=⟨[(0,.ptr (.par 0) 0),(3,.ptr (.loc 3 0) 0),(4,.vec (.loc 26 0) 3 0 (V5 p r k).length),(10,.pv (.i p.length)),(11,.pv (.i k))],[(.loc 26 0,.arr 281 3 ((V5 p r k).map Nd.pv)),(.loc 3 0,.cells [.pv (.i r),.pv (.i (-1)),.pv (.i (-1))])]++laid 0 (bK q p 1)⟩)
  ⟨p.length,⟨[(0,.ptr (.par 0) 0),(3,.ptr (.loc 3 0) 0),(4,.vec (.loc 26 0) 3 0 0),(10,.pv (.i p.length)),(11,.pv (.i 0))],[(.loc 26 0,.arr 281 3 []),(.loc 3 0,.cells [.pv (.i r),.pv (.i (-1)),.pv (.i (-1))])]++laid 0 (bK q p 1)⟩,Sub.trans' (Sub.mk (by simp[AS.cR]) (by simp[AS.cR,bK,laid])) (cR 26 281 3 4 rfl (by decide)),0,gY _,rfl,by simp[V5]⟩ ?_
 rintro J hJ n τ ⟨k,hk,rfl,rfl⟩;by_cases aJ:k<p.length
 .have hw:=jE (k:=k) (by omega);have aG:p.length-(k+1)<p.length-k:=by omega
  have aB:=hJ _ _ ⟨k+1,aJ,rfl,rfl⟩;have iG:=Zjk (r:=r) aJ;have HU:=ZgC (p:=p) (r:=r) (k:=k);have Z2:=ZM (.aE false 1 (q.ms.map iD)) (.aE false 3 (q.rs.map Rq.pv)) p hp r k aJ;have D7:(V5 p r k).length+1<=1000000:=by omega
  have MC:(jQ p).take p.length=jQ p:=fP (by simp[jQ]);have lZ:(jQ p).length=p.length:=by simp[jQ]
  clear hJ;generalize V5 p r (k+1)=N2 at *;generalize V5 p r k=N1 at *;simp[bK,laid,aJ];refine gG (k:=3) (fs:=[]) (xs:=[.ref [.aE false 1 (q.ms.map iD),.aE false 3 (q.rs.map Rq.pv),.aE false 4 (jQ p)],.i r,.i k]) (cs:=[]) rfl ?_ Z2 rfl ?_
  .simp[jF,AV.snap,AV.FM,lZ,MC]
  by_cases ho:xI p r k = -1
  .rw[if_pos ho]at iG;subst iG;simp[ho,aP,D7,hw];refine⟨_,_,aG,Sub.mk ?_ ?_,aB⟩
   .simp
   .simp[bK,laid,Nd.pv]
  .rw[if_neg ho,tG]at iG;subst iG;simp[ho,hw];refine⟨_,_,aG,Sub.mk ?_ ?_,aB⟩
   .simp
   .simp[bK,laid]
 .have he:k=p.length:=by omega
  subst he;simp[bK,laid];rw[<-hR];exact⟨rfl,by simp[vP,bK,laid,WX]⟩
theorem Lq {p:List (List Int)}{h m:Nat}{l:List Int}{x:Int}(h1:p[h]?=some l)(h2:l[m]?=some x):gI p h m=x:=by simp[gI,h1,h2]
theorem Zp4 (q:Qu)(p:List (List Int))(hp:four p)(m h:Nat)(hm:m<4)(hh:h<p.length)(r:Nat)(hr:gI p h m=r):
  cN prog 219 [.ptr (.par 0) 0,.pv (Nd.mh m h).pv] (laid 0 (bK q p 1)) (fun x B=>x=.vec (.ret 0) 3 0 1/\B=vP [.rh r h]++laid 0 (bK q p 1)):=by
 obtain⟨l,hl⟩:∃l,p[h]?=some l:=⟨p[h],bC hh⟩;have h4:=hp l (dL hl);obtain⟨x,hx⟩:∃x,l[m]?=some x:=⟨l[m]'(by omega),bC _⟩;rw[Lq hl hx]at hr;subst hr;have hg:(jQ p)[h]?=some (.agg (l.map (PV.int .i64))):=by rw[jQ,bX,hl];rfl
 have H3:(l.map (PV.int .i64))[m]?=some (.i r):=by rw[bX,hx];rfl
 refine cB [.loc 19 0,.par 0,.par 1] L219 ?_;simp[-getElem?_pos,-List.getElem?_map,L219,bK,laid,Nd.pv,cU,hh,hm,hg,H3,vP]
theorem SD:zE prog (pE P2) L218.code:=Gg L218_ok L218_tab
noncomputable def vE:aK:=.loop (fR prog 218 0) [15] 50 [(2,.ptr (.par 3) 0),(3,.ptr (.par 4) 0),(4,.ptr (.par 5) 0)] none
def vF (q:Qu)(p:List (List Int))(r h:Nat)(e:Site)(s:List Nd):List (Site×aK):=
 [(.par 1,.cells [.pv (.aE false 1 (q.ms.map iD)),.pv (.aE false 3 (q.rs.map Rq.pv)),.vec (.par 2) 4 0 p.length]),(.par 2,.arr 180 4 (jQ p)),(.par 3,.cells [.ptr (.par 1) 0]),(.par 4,.cells [.pv (.i r),.pv (.i (-1)),.pv (.i h)]),(.par 5,.cells [.vec e 3 0 s.length])]
noncomputable def zH (q:Qu)(p:List (List Int))(r h:Nat)(e:Site)(s:List Nd):List (Site×aK):=(.par 0,vE)::vF q p r h e s++[(e,.arr 281 3 (s.map Nd.pv))]
noncomputable def YR (q:Qu)(p:List (List Int))(r h:Nat)(s:List Nd):List (Site×aK):=(.par 0,vE)::(.ret 0,.arr 281 3 (s.map Nd.pv))::vF q p r h (.ret 0) s
theorem ZmS (q:Qu)(p:List (List Int))(hp:four p)(r h:Nat)(hh:h<p.length)(s:List Nd)(hs:s.length<=1000)(m:Nat)(hm:m<4):
  FV prog 0 [.pv (.i m)] (zH q p r h (.par 6) s) (fun x B=>x=.pv (.bool true)/\B=if gI p h m=r then zH q p r h (.par 6) s else YR q p r h (s++[.mh m h])):=by
 obtain⟨l,hl⟩:∃l,p[h]?=some l:=⟨p[h],bC hh⟩;have h4:=hp l (dL hl);obtain⟨x,hx⟩:∃x,l[m]?=some x:=⟨l[m]'(by omega),bC _⟩;have Sf:=Lq hl hx;have hg:(jQ p)[h]?=some (.agg (l.map (PV.int .i64))):=by rw[jQ,bX,hl];rfl
 have H3:(l.map (PV.int .i64))[m]?=some (.i x):=by rw[bX,hx];rfl
 have PS:s.length+1<=1000000:=by omega
 have oP:zE prog (pE P2) (.vH 50 (.t 14) (fR prog 218 0) Y218_0a Y218_0b [15]):=SD.2.1.2;refine YA mixed oP.1 oP.2.1 rfl rfl (by simp) rfl ?_;rw[Sf];generalize hR:(fun(z:AV) (B:List (Site×aK))=>z=.pv (.bool true)/\B=if x=(r:Int)then zH q p r h (.par 6) s else YR q p r h (s++[.mh m h]))=R;by_cases tC:x=(r:Int)
 .subst tC;simp[-getElem?_pos,-List.getElem?_map,Y218_0a,Y218_0b,zH,vE,vF,qK,cU,hh,hm,hg,H3];refine⟨[],[.par 1,.par 2,.par 3,.par 4,.par 5,.par 6],rfl,rfl,?_,?_⟩
  .simp[aY]
  .rw[<-hR];simp[zH,vE,vF,aY]
 .simp[-getElem?_pos,-List.getElem?_map,Y218_0a,Y218_0b,zH,vE,vF,qK,cU,aP,hh,hm,hg,H3,tC,PS];refine⟨[],[.loc 35 0,.par 1,.par 2,.par 3,.par 4,.par 5],rfl,rfl,?_,?_⟩
  .simp[aY]
  .rw[<-hR];simp[YR,vE,vF,aY,tC,Nd.pv]
def jG (q:Qu)(p:List (List Int))(r h k:Nat):List Nd:=((q.F5 r h k).filter fun m=>!decide (gI p h m=r)).map (Nd.mh · h)
theorem ZlK (q:Qu){p:List (List Int)}{r h k:Nat}(hk:k<q.ms.length):jG q p r h (k+1)=jG q p r h k++(if q.may r k h=true/\¬gI p h k=r then[.mh k h]else[]):=by
 unfold jG;rw[q.Zxb hk,I1,mH];cases hm:q.may r k h<;>by_cases hw:gI p h k=r<;>simp[hw]
theorem Zfk {q:Qu}{p:List (List Int)}{r h k:Nat}:(jG q p r h k).length<=k:=by
 unfold jG Qu.F5;rw[fZ];refine lJ (Q7 _ _) (lJ (Q7 _ _) ?_);rw[gN];omega
noncomputable def Iy (q:Qu)(p:List (List Int))(r h:Nat)(s:List Nd):List (Site×aK):=(.ret 0,.arr 281 3 (s.map Nd.pv))::(.par 0,vE)::vF q p r h (.ret 0) s
def LD (q:Qu)(r h k:Nat):List (Nat×AV):=[(0,.nK (.par 0)),(2,.pv (.ref [.i r])),(3,.pv (.ref [.i h])),(5,.pv (.fn 300 [q.pv] [])),(11,.pv (.i q.ms.length)),(12,.pv (.i k))]
theorem Zsu (q:Qu)(hq:q.ok)(p:List (List Int))(hp:four p)(r h:Nat)(hr:r<q.rs.length)(hh:h<p.length):
  cN prog 299 [.nK (.par 0),.pv (.ref [.aE false 1 (q.ms.map iD),.aE false 3 (q.rs.map Rq.pv)]),.pv (.ref [.i r]),.pv (.ref [.i h])] (zH q p r h (.par 6) []) (fun x B=>x=.pv (.bM [])/\B=Iy q p r h (jG q p r h q.ms.length)):=by
 have Ax:=hq.m;refine N9 [.loc 23 0,.par 0,.par 1,.par 2,.par 3,.par 4,.par 5] L299 ?_;intro R hR;simp[L299];refine eP (fun n τ=>∃(k:Nat),k<=q.ms.length/\n=q.ms.length-k/\τ=⟨LD q r h k,zH q p r h (.loc 23 0) (jG q p r h k)⟩)
  ⟨q.ms.length,⟨LD q r h 0,zH q p r h (.loc 23 0) []⟩,Sub.trans' (Sub.mk ?_ ?_) (Sub.iT 23 (.par 6) _),0,gY _,rfl,by simp[jG,Qu.F5]⟩ ?_
 .simp[AS.iT,LD,zH,vF,vE,pG,Qu.pv]
 .simp[AS.iT,zH,vF,vE,pG]
 rintro J hJ n τ ⟨k,hk,rfl,rfl⟩;by_cases aJ:k<q.ms.length
 .have hw:=jE (k:=k) (by omega);have aG:q.ms.length-(k+1)<q.ms.length-k:=by omega
  have p6:=ZS q hq r k h hr aJ;have iG:=ZlK q (p:=p) (r:=r) (h:=h) aJ;have jA:(k:Int)<(q.ms.length:Int):=by omega
  have aB:=hJ _ _ ⟨k+1,aJ,rfl,rfl⟩;have X8:=Zfk (q:=q) (p:=p) (r:=r) (h:=h) (k:=k);have hY:=ZmS q p hp r h hh (jG q p r h k) (by omega) k (by omega);clear hJ;generalize jG q p r h (k+1)=S2 at *;generalize jG q p r h k=S1 at *;simp[LD,jA];refine gG (k:=0) (fs:=[q.pv]) (xs:=[.i r,.i k,.i h]) (cs:=[]) rfl rfl p6 rfl ?_;cases hm:q.may r k h
  .rw[hm,if_neg (by simp),tG]at iG;subst iG;simp[hw];refine⟨_,_,aG,Sub.mk ?_ ?_,aB⟩
   .simp[LD]
   .simp[zH,vF,vE]
  .simp[zH,vF,vE];refine ZlF 1023 0 [.par 0,.par 1,.par 2,.par 3,.par 4,.par 5,.loc 23 0] (gF:=[.pv (.i k)]) rfl rfl rfl rfl ?_ rfl rfl hY ?_
   .simp[zH,vF,vE]
   rintro x B ⟨rfl,rfl⟩;by_cases EU:gI p h k=r
   .rw[if_neg (by simp[EU]),tG]at iG;subst iG;rw[if_pos EU];refine⟨rfl,by simp[zH,vF,vE],?_⟩;simp[zH,vF,vE,hw];refine⟨_,_,aG,Sub.mk ?_ ?_,aB⟩
    .simp[LD]
    .simp[zH,vF,vE]
   .rw[if_pos ⟨hm,EU⟩]at iG;subst iG;rw[if_neg EU];refine⟨rfl,by simp[YR,vF,vE],?_⟩;simp[YR,vF,vE,hw];refine⟨_,_,aG,Sub.trans' (Sub.mk ?_ ?_) (Sub.iT 23 (.loc 1023 0) _),aB⟩
    .simp[AS.iT,pG,LD]
    .simp[AS.iT,pG,zH,vF,vE,Nd.pv]
 .have he:k=q.ms.length:=by omega
  subst he;simp[LD,zH,vF,vE];rw[<-hR];simp[Iy,vF,vE]
def JU (q:Qu)(p:List (List Int))(r h:Nat):List Nd:=jG q p r h q.ms.length++(if xI p r h = -1 then[]else[.ru r])
theorem Zp6 (q:Qu)(hq:q.ok)(p:List (List Int))(hp:four p)(r h:Nat)(hr:r<q.rs.length)(hh:h<p.length):
  cN prog 218 [.ptr (.par 0) 0,.pv (Nd.rh r h).pv] (laid 0 (bK q p 1)) (fun x B=>x=.vec (.ret 0) 3 0 (JU q p r h).length/\B=vP (JU q p r h)++laid 0 (bK q p 1)):=by
 have Ax:=hq.m;have hit:=Zsu q hq p hp r h hr hh;have Z2:=ZM (.aE false 1 (q.ms.map iD)) (.aE false 3 (q.rs.map Rq.pv)) p hp r h hh;have X8:=Zfk (q:=q) (p:=p) (r:=r) (h:=h) (k:=q.ms.length);have MC:(jQ p).take p.length=jQ p:=fP (by simp[jQ]);have lZ:(jQ p).length=p.length:=by simp[jQ]
 have hS:JU q p r h=jG q p r h q.ms.length++(if xI p r h = -1 then[]else[.ru r]):=rfl;refine cE L218 ?_;generalize hR:(fun(x:AV) (B:List (Site×aK))=>x=.vec (.ret 0) 3 0 (JU q p r h).length/\B=vP (JU q p r h)++laid 0 (bK q p 1))=R;generalize JU q p r h=S at *;generalize jG q p r h q.ms.length=S1 at *;have PS:S1.length+1<=1000000:=by omega
 simp[L218,bK,laid,Nd.pv];refine .inl (cQ [] [q.pv,.i r,.i h] (Zez q r h) ?_);simp[aM,ZT];refine ZsK (lY 60 281 3 (s:=.loc 4 0) (cs:=[.pv (.emp (some true))]) 0 rfl rfl (by decide)) ?_;refine XH [.loc 50 0,.par 0,.par 1,.loc 2 0,.loc 3 0,.loc 4 0,.loc 60 0] [(2,.ptr (.loc 2 0) 0),(3,.ptr (.loc 3 0) 0),(4,.ptr (.loc 4 0) 0)] (gf:=299) (fs:=[]) (cs:=[.pv (.ref [.aE false 1 (q.ms.map iD),.aE false 3 (q.rs.map Rq.pv)]),.pv (.ref [.i r]),.pv (.ref [.i h])]) ?_ ?_ rfl rfl ?_ ?_ ?_ hit ?_
 .rfl
 .simp[AS.lY]
 .simp[AS.lY,zH,vF,vE]
 .rfl
 .rfl
 rintro x B ⟨rfl,rfl⟩;refine⟨rfl,by simp[Iy,vF,vE],?_⟩;refine⟨_,_,_,_,_,rfl,?_⟩;simp[AS.lY,Iy,vF,vE,kW];refine gG (k:=3) (fs:=[]) (xs:=[.ref [.aE false 1 (q.ms.map iD),.aE false 3 (q.rs.map Rq.pv),.aE false 4 (jQ p)],.i r,.i h]) (cs:=[]) rfl ?_ Z2 rfl ?_
 .simp[jF,AV.snap,AV.FM,lZ,MC]
 by_cases ho:xI p r h = -1
 .rw[if_pos ho,tG]at hS;subst hS;simp[ho];refine⟨[.loc 51 0,.par 0,.par 1],?_⟩;simp;rw[<-hR];simp[vP,bK,laid]
 .rw[if_neg ho]at hS;subst hS;simp[ho,aP,PS];refine⟨[.loc 48 0,.par 0,.par 1],?_⟩;simp;rw[<-hR];simp[vP,bK,laid,Nd.pv]
abbrev By:=List (Nd×Nd)
def par (bR:By)(n:Nd):Option Nd:=(bR.find? fun e=>decide (n=e.1)).map (·.2)
def AA (bR:By):List (PV×PV):=bR.map fun e=>(e.1.pv,e.2.pv)
def Nd.a:Nd->Int
 |.ru r=>r
 |.rh r _=>r
 |.mh _ _=>-1
def Nd.b:Nd->Int
 |.mh m _=>m
 |_=>-1
def Nd.c:Nd->Int
 |.ru _=>-1
 |.rh _ h=>h
 |.mh _ h=>h
theorem Nd.R0 (n:Nd):n.pv=.agg [.i n.a,.i n.b,.i n.c]:=by cases n<;>rfl
theorem Yo (a b:Nd):gS a.pv b.pv=decide (a=b):=by
 rw[qT];cases a<;>cases b<;>simp[gS,Nd.pv,lQ,wQ,PV.cells]<;>omega
theorem ZhI (n:Nd):∀bR:By,eZ n.pv (AA bR)=(par bR n).map Nd.pv
 |[]=>rfl
 |e::r=>by
  have ih:=ZhI n r;unfold AA at ih ⊢;rw[iN,eZ,Yo];unfold par at ih ⊢;rw[List.find?_cons];cases decide (n=e.1)with
  |true=>rfl
  |false=>exact ih
theorem Znq {n b:Nd}:∀{bR:By},par bR n=none->mI n.pv b.pv (AA bR)=AA (bR++[(n,b)])
 |[],_=>rfl
 |e::r,h=>by
  unfold par at h;rw[List.find?_cons]at h;unfold AA;rw[iN,mI,Yo];cases hd:decide (n=e.1)with
  |true=>rw[hd]at h;simp at h
  |false=>
   rw[hd]at h
   have:=Znq (n:=n) (b:=b) (bR:=r) h
   unfold AA at this;simp[this]
theorem X1 (n:Nd):KT.ok ⟨true,[.int .i64,.int .i64,.int .i64]⟩ n.pv=true:=by cases n<;>rfl
theorem Zn0 (bR:By):A1 ⟨true,[.int .i64,.int .i64,.int .i64]⟩ (AA bR)=true:=by
 unfold A1 AA;rw[List.all_map,rA];exact fun e _=>X1 e.1
def gA (p:List (List Int))(h m:Nat)(x:Int):List (List Int):=p.set h (((p[h]?).getD []).set m x)
def qR (n b:Nd)(p:List (List Int)):List (List Int):=match n,b with
 |.mh m h,b=>gA p h m b.a
 |.rh _ h,.mh m _=>gA p h m (-1)
 |_,_=>p
def wV (bR:By):Nat->Nd->List (List Int)->List (List Int)
 |0,_,p=>p
 |f+1,n,p=>match par bR n with
  |none=>p
  |some b=>if n=b then p else wV bR f b (qR n b p)
theorem OJ {p:List (List Int)}{h m:Nat}{x:Int}:(gA p h m x).length=p.length:=by simp[gA]
theorem Zia {p:List (List Int)}(hp:four p){h m:Nat}{x:Int}(hh:h<p.length):four (gA p h m x):=fun l hl=>by
 rcases List.mem_or_eq_of_mem_set hl with h1|h1
 .exact hp l h1
 .subst h1
  have:p[h]?=some p[h]:=bC hh
  rw[this];simp[hp _ (zZ hh)]
theorem Zlk {n b:Nd}{p:List (List Int)}:(qR n b p).length=p.length:=by
 cases n<;>cases b<;>simp[qR,OJ]
theorem ZlI {l:List PV}{m:Nat}{x:PV}(hm:m<l.length):aS l m [x]=l.set m x:=by
 have hs:m+[x].length<=l.length:=by simp;omega
 apply List.ext_getElem?;intro j;rw[A2 hs];by_cases e:j=m
 .subst e;rw[if_neg (by omega),if_pos (by simp),O4 hm];simp
 .rw[List.getElem?_set_ne (fun e'=>e e'.symm)];split
  .rfl
  .rw[if_neg (by simp;omega)]
theorem Znv {p:List (List Int)}{h m:Nat}{l:List Int}{x:Int}(hl:p[h]?=some l)(hm:m<l.length):(jQ p).set h (.agg (aS (l.map (PV.int .i64)) m [.i x]))=jQ (gA p h m x):=by
 rw[ZlI (by simpa using hm),jQ,jQ,gA,hl,List.map_set];simp only[rU,rowP];rw[List.map_set]
def Nd.ok (q:Qu)(p:List (List Int)):Nd->Prop
 |.ru r=>r<q.rs.length
 |.rh r h=>r<q.rs.length/\h<p.length
 |.mh m h=>m<q.ms.length/\h<p.length
structure KR (q:Qu)(p:List (List Int))(bR:By):Prop where
 nd:(bR.map (·.1)).Nodup
 ok:∀e∈bR,e.1.ok q p/\e.2.ok q p
 up:∀(i:Nat) (e:Nd×Nd),bR[i]?=some e->e.1=e.2\/∃(j:Nat) (e':Nd×Nd),j<i/\bR[j]?=some e'/\e'.1=e.2
theorem Lo {bR:By}(hn:(bR.map (·.1)).Nodup){i:Nat}{e:Nd×Nd}(h:bR[i]?=some e):par bR e.1=some e.2:=by
 induction bR generalizing i with
 |nil=>simp at h
 |cons a r ih=>
  rw[iN,List.nodup_cons]at hn;unfold par;rw[List.find?_cons];cases i with
  |zero=>simp at h;subst h;simp
  |succ i=>
   have h':r[i]?=some e:=by simpa using h
   have cZ:¬e.1=a.1:=fun e'=>hn.1 (by rw[<-e'];exact iJ.2 ⟨e,dL h',rfl⟩)
   rw[decide_eq_false cZ];exact ih hn.2 h'
theorem Nd.Kx {q:Qu}{p p':List (List Int)}(h:p'.length=p.length){n:Nd}(hn:n.ok q p):n.ok q p':=by
 cases n with
 |ru r=>exact hn
 |rh r k=>exact⟨hn.1,by rw[h];exact hn.2⟩
 |mh m k=>exact⟨hn.1,by rw[h];exact hn.2⟩
def mC (q:Qu)(p:List (List Int))(bR:By):List aK:=bK q p 1++[.map (AA bR)]
def wU (q:Qu)(p:List (List Int))(bR:By)(n:Nd):AS:=⟨[(0,.ptr (.par 0) 0),(2,.mp (.par 2)),(4,.ptr (.loc 4 0) 0)],(.loc 4 0,.cells [.pv (.i n.a),.pv (.i n.b),.pv (.i n.c)])::laid 0 (mC q p bR)⟩
theorem ZqM (q:Qu)(hq:q.ok)(bR:By)(p0:List (List Int))(hb:KR q p0 bR)(CI:four p0)(i0:Nat)(n0 b0:Nd)(H2:bR[i0]?=some (n0,b0)):
  cN prog 180 [.ptr (.par 0) 0,.pv n0.pv,.mp (.par 2)] (laid 0 (mC q p0 bR)) (fun x B=>x=.pv (.bM [])/\B=laid 0 (mC q (wV bR bR.length n0 p0) bR)):=by
 have Ax:=hq.m;refine N9 [.par 0,.par 1,.par 2] L180 ?_;intro R hR;obtain⟨xG,jB⟩:∃z,z=wV bR bR.length n0 p0:=⟨_,rfl⟩
 rw[<-jB]at hR;rw[Nd.R0];simp[L180,mC,bK,laid];refine eP (fun k τ=>∃(p:List (List Int)) (n b:Nd) (f:Nat),bR[k]?=some (n,b)/\k<f/\wV bR f n p=xG/\four p/\p.length=p0.length/\τ=wU q p bR n)
  ⟨i0,wU q p0 bR n0,Sub.mk (by simp) (by simp[mC,bK,laid]),p0,n0,b0,bR.length,H2,(cA.1 H2).1,jB.symm,CI,rfl,rfl⟩ ?_
 clear jB;rintro J hJ k τ ⟨p,n,b,f,hk,hf,eO,hp,hlen,rfl⟩;have lO:=Lo hb.nd hk;have dY:=ZhI n bR
 rw[lO]at dY;simp only[uW]at dY;have hE:=Yo n b;have mA:=Yl n;have EY:=Yl b;have N0:=X1 n;have tU:=X1 b;have p7:=Zn0 bR
 obtain⟨vN,Qm⟩:=hb.ok _ (dL hk);have vN:=Nd.Kx hlen vN;have Qm:=Nd.Kx hlen Qm;obtain⟨f',rfl⟩:∃f',f=f'+1:=⟨f-1,by omega⟩;have tW:wV bR (f'+1) n p=if n=b then p else wV bR f' b (qR n b p):=by rw[wV,lO]
 rw[tW]at eO;by_cases QD:n=b
 .rw[if_pos QD]at eO;subst eO;clear hJ;rw[decide_eq_true QD]at hE;rw[Nd.R0,Nd.R0]at hE;rw[Nd.R0,Nd.R0]at dY;rw[Nd.R0]at N0 tU;simp[-gS,-KT.ok,wU,mC,bK,laid,hE,dY,N0,tU,p7];rw[<-hR];simp[mC,bK,laid]
 .rw[if_neg QD]at eO;rw[decide_eq_false QD]at hE;obtain⟨j,e',hj,CP,CO⟩:∃(j:Nat) (e':Nd×Nd),j<k/\bR[j]?=some e'/\e'.1=b:=by
   rcases hb.up k _ hk with h|h
   .exact absurd h QD
   .exact h
  have aB:=hJ j (wU q (qR n b p) bR b) ⟨qR n b p,b,e'.2,f',by rw[CP,<-CO],by omega,eO,(by
   cases n<;>cases b<;>first|exact hp|exact Zia hp vN.2),by rw[Zlk];exact hlen,rfl⟩
  clear hJ eO tW hb;cases n with
  |mh m h=>
   obtain⟨l,hl⟩:∃l,p[h]?=some l:=⟨p[h]'vN.2,bC _⟩;have h4:=hp l (dL hl);have EX:m<q.ms.length:=vN.1;have yM:m<4:=by omega
   have hh:h<p.length:=vN.2;have hg:(jQ p)[h]?=some (.agg (l.map (PV.int .i64))):=by rw[jQ,bX,hl];rfl
   have jK:=Znv (x:=b.a) hl (m:=m) (by omega);have lZ:(jQ p).length=p.length:=by simp[jQ]
   have H0:m+1<=4:=by omega
   rw[Nd.R0 b]at hE dY tU EY;simp only[Nd.pv,Nd.kind]at hE dY N0 mA;rw[show qR (.mh m h) b p=gA p h m b.a from rfl]at aB;unfold wU at aB;generalize b.a=ba at *;generalize b.b=bb at *;generalize b.c=bc at *;simp[-gS,-KT.ok,wU,mC,bK,laid,Nd.a,Nd.b,Nd.c,hE,dY,N0,tU,p7];refine gG (k:=0) (fs:=[]) (cs:=[]) rfl rfl mA rfl ?_;simp[-gS,-KT.ok,-aS,cU,aP,hh,yM,H0,↓hg,h4,setAt,jK];refine⟨_,_,hj,Sub.mk ?_ ?_,aB⟩
   .simp
   .simp[mC,bK,laid,OJ]
  |ru r=>
   rw[Nd.R0 b]at hE dY tU EY;simp only[Nd.pv,Nd.kind]at hE dY N0 mA;rw[show qR (.ru r) b p=p by cases b<;>rfl]at aB;unfold wU at aB;generalize b.a=ba at *;generalize b.b=bb at *;generalize b.c=bc at *;simp[-gS,-KT.ok,wU,mC,bK,laid,Nd.a,Nd.b,Nd.c,hE,dY,N0,tU,p7];refine gG (k:=0) (fs:=[]) (cs:=[]) rfl rfl mA rfl ?_;simp[-gS,-KT.ok];refine gG (k:=0) (fs:=[]) (cs:=[]) rfl rfl mA rfl ?_;simp[-gS,-KT.ok];refine⟨_,_,hj,Sub.mk ?_ ?_,aB⟩
   .simp
   .simp[mC,bK,laid]
  |rh r h=>
   cases b with
   |mh m h'=>
    obtain⟨l,hl⟩:∃l,p[h]?=some l:=⟨p[h]'vN.2,bC _⟩;have h4:=hp l (dL hl);have EX:m<q.ms.length:=Qm.1;have yM:m<4:=by omega
    have hh:h<p.length:=vN.2;have hg:(jQ p)[h]?=some (.agg (l.map (PV.int .i64))):=by rw[jQ,bX,hl];rfl
    have jK:=Znv (x:=-1) hl (m:=m) (by omega);have lZ:(jQ p).length=p.length:=by simp[jQ]
    have H0:m+1<=4:=by omega
    simp only[Nd.pv,Nd.kind]at hE dY N0 tU mA EY;simp[-gS,-KT.ok,wU,mC,bK,laid,Nd.a,Nd.b,Nd.c,hE,dY,N0,tU,p7];refine gG (k:=0) (fs:=[]) (cs:=[]) rfl rfl mA rfl ?_;simp[-gS,-KT.ok];refine gG (k:=0) (fs:=[]) (cs:=[]) rfl rfl mA rfl ?_;simp[-gS,-KT.ok];refine gG (k:=0) (fs:=[]) (cs:=[]) rfl rfl EY rfl ?_;simp[-gS,-KT.ok,-aS,cU,aP,hh,yM,H0,↓hg,h4,setAt,jK];refine⟨_,_,hj,Sub.mk ?_ ?_,aB⟩
    .simp
    .simp[mC,bK,laid,qR,OJ,Nd.a,Nd.b,Nd.c]
   |ru r'=>
    simp only[Nd.pv,Nd.kind]at hE dY N0 tU mA EY;simp[-gS,-KT.ok,wU,mC,bK,laid,Nd.a,Nd.b,Nd.c,hE,dY,N0,tU,p7];refine gG (k:=0) (fs:=[]) (cs:=[]) rfl rfl mA rfl ?_;simp[-gS,-KT.ok];refine gG (k:=0) (fs:=[]) (cs:=[]) rfl rfl mA rfl ?_;simp[-gS,-KT.ok];refine gG (k:=0) (fs:=[]) (cs:=[]) rfl rfl EY rfl ?_;simp[-gS,-KT.ok];refine⟨_,_,hj,Sub.mk ?_ ?_,aB⟩
    .simp
    .simp[mC,bK,laid,qR,Nd.a,Nd.b,Nd.c]
   |rh r' h'=>
    simp only[Nd.pv,Nd.kind]at hE dY N0 tU mA EY;simp[-gS,-KT.ok,wU,mC,bK,laid,Nd.a,Nd.b,Nd.c,hE,dY,N0,tU,p7];refine gG (k:=0) (fs:=[]) (cs:=[]) rfl rfl mA rfl ?_;simp[-gS,-KT.ok];refine gG (k:=0) (fs:=[]) (cs:=[]) rfl rfl mA rfl ?_;simp[-gS,-KT.ok];refine gG (k:=0) (fs:=[]) (cs:=[]) rfl rfl EY rfl ?_;simp[-gS,-KT.ok];refine⟨_,_,hj,Sub.mk ?_ ?_,aB⟩
    .simp
    .simp[mC,bK,laid,qR,Nd.a,Nd.b,Nd.c]
def tL (p:List (List Int)):Nd->Bool
 |.mh m h=>decide (gI p h m = -1)
 |_=>false
def nx (q:Qu)(p:List (List Int)):Nd->List Nd
 |.ru r=>WX p r
 |.rh r h=>JU q p r h
 |.mh m h=>[.rh (gI p h m).toNat h]
def cJ (n:Nd)(s:By×List Nd)(x:Nd):By×List Nd:=if(par s.1 x).isSome=true then s else(s.1++[(x,n)],s.2++[x])
def JC (q:Qu)(p:List (List Int)):Nat->By->List Nd->Option (List (List Int))
 |0,_,_=>none
 |_+1,_,[]=>none
 |f+1,bR,n::rest=>if tL p n=true then some (wV bR bR.length n p)else JC q p f ((nx q p n).foldl (cJ n) (bR,rest)).1 ((nx q p n).foldl (cJ n) (bR,rest)).2
def fT (F:Nat)(q:Qu)(p:List (List Int))(run:Nat):Option (List (List Int)):=JC q p F [(.ru run,.ru run)] [.ru run]
structure PW (q:Qu)(p:List (List Int)):Prop where
 f:four p
 ok:∀l∈p,∀x∈l,x = -1\/(0<=x/\x<q.rs.length)
 l:p.length<=40
theorem PW.gI {q:Qu}{p:List (List Int)}(hp:PW q p)(h m:Nat):gI p h m = -1\/(0<=Go.Proofs.YtlllhbmbnjnoiaaGreatDoor.Qn.gI p h m/\Go.Proofs.YtlllhbmbnjnoiaaGreatDoor.Qn.gI p h m<q.rs.length):=by
 unfold Go.Proofs.YtlllhbmbnjnoiaaGreatDoor.Qn.gI;cases h1:p[h]? with
 |none=>left;simp
 |some l=>
  simp only[rU];cases h2:l[m]? with
  |none=>left;rfl
  |some x=>exact hp.ok l (dL h1) x (dL h2)
theorem ZuC {l:List Int}{v:Int}:HB l v = -1\/∃i:Nat,HB l v=i/\i<l.length/\l[i]?=some v:=by
 unfold HB;cases h:l.findIdx? (fun x=>decide (v=x))with
 |none=>exact .inl rfl
 |some i=>
  obtain⟨hi,h1,_⟩:=JJ.1 h;refine .inr ⟨i,rfl,hi,?_⟩;rw[bC hi];simp only[decide_eq_true_eq]at h1;rw[h1]
theorem BI {q:Qu}(hq:q.ok){p:List (List Int)}(hp:PW q p){n:Nd}(hn:n.ok q p)(hf:tL p n=false):∀x∈nx q p n,x.ok q p:=by
 intro x hx;cases n with
 |ru r=>
  simp only[nx,WX,V5,iJ,iV]at hx;obtain⟨h,⟨h1,_⟩,rfl⟩:=hx
  have:=List.mem_of_mem_take h1
  exact⟨hn,by simpa using this⟩
 |rh r h=>
  simp only[nx,JU,sG]at hx;rcases hx with hx|hx
  .simp only[jG,iJ,iV]at hx;obtain⟨m,⟨h1,_⟩,rfl⟩:=hx;exact⟨Lv hq m h1,hn.2⟩
  .split at hx
   .cases hx
   .simp at hx;subst hx;exact hn.1
 |mh m h=>
  simp only[nx,rW]at hx;subst hx;have h1:¬gI p h m = -1:=by simpa[tL]using hf
  have:=hp.gI h m
  exact⟨by omega,hn.2⟩
def Nd.code:Nd->Nat
 |.ru r=>r
 |.rh r h=>6+6*h+r
 |.mh m h=>246+4*h+m
theorem Nd.ZxF {q:Qu}(hq:q.ok){p:List (List Int)}(hp:PW q p){n:Nd}(hn:n.ok q p):n.code<406:=by
 have h1:=hq.r;have h2:=hq.m;have h3:=hp.l;cases n with
 |ru r=>have:r<q.rs.length:=hn;show r<406;omega
 |rh r h=>obtain⟨a,b⟩:=hn;show 6+6*h+r<406;omega
 |mh m h=>obtain⟨a,b⟩:=hn;show 246+4*h+m<406;omega
theorem Nd.Zxo {q:Qu}(hq:q.ok){p:List (List Int)}(hp:PW q p){n n':Nd}(hn:n.ok q p)(yK:n'.ok q p)(h:n.code=n'.code):n=n':=by
 have h1:=hq.r;have h2:=hq.m;have h3:=hp.l;cases n with
 |ru r=>
  have a:r<q.rs.length:=hn;cases n' with
  |ru r'=>have:r=r':=h;subst this;rfl
  |rh r' h'=>have e:r=6+6*h'+r':=h;omega
  |mh m' h'=>have e:r=246+4*h'+m':=h;omega
 |rh r k=>
  obtain⟨a,b⟩:=hn;cases n' with
  |ru r'=>have e:6+6*k+r=r':=h;have a':r'<q.rs.length:=yK;omega
  |rh r' k'=>
   obtain⟨a',b'⟩:=yK;have e:6+6*k+r=6+6*k'+r':=h;have e1:k=k':=by omega
   have e2:r=r':=by omega
   rw[e1,e2]
  |mh m' k'=>obtain⟨a',b'⟩:=yK;have e:6+6*k+r=246+4*k'+m':=h;omega
 |mh m k=>
  obtain⟨a,b⟩:=hn;cases n' with
  |ru r'=>have e:246+4*k+m=r':=h;have a':r'<q.rs.length:=yK;omega
  |rh r' k'=>obtain⟨a',b'⟩:=yK;have e:246+4*k+m=6+6*k'+r':=h;omega
  |mh m' k'=>
   obtain⟨a',b'⟩:=yK;have e:246+4*k+m=246+4*k'+m':=h;have e1:k=k':=by omega
   have e2:m=m':=by omega
   rw[e1,e2]
theorem oJ:∀(N:Nat) (l:List Nat),l.Nodup->(∀x∈l,x<N)->l.length<=N
 |0,[],_,_=>fH _
 |0,x::r,_,h=>absurd (h x (by simp)) (by omega)
 |N+1,l,hn,h=>by
  by_cases hm:N∈l
  .have h1:=oJ N (l.erase N) (hn.erase N) (fun x hx=>by
    have h2:=(hn.mem_erase_iff).1 hx
    have:=h x h2.2
    have:=h2.1
    omega)
   rw[List.length_erase_of_mem hm]at h1;omega
  .have:=oJ N l hn (fun x hx=>by
    have:=h x hx
    have:x≠N:=fun e=>hm (e▸hx)
    omega)
   omega
structure BW (q:Qu)(p:List (List Int))(s:By×List Nd):Prop where
 b:KR q p s.1
 t:∀n∈s.2,∃(i:Nat) (b:Nd),s.1[i]?=some (n,b)
theorem BW.len {q:Qu}(hq:q.ok){p:List (List Int)}(hp:PW q p){s:By×List Nd}(h:BW q p s):s.1.length<=406:=by
 have h1:((s.1.map (·.1)).map Nd.code).Nodup:=by
  rw[DT,List.pairwise_map];refine List.Pairwise.imp_of_mem ?_ (DT.1 h.b.nd);intro a b ha hb cZ e;obtain⟨x,hx,rfl⟩:=iJ.1 ha;obtain⟨y,hy,rfl⟩:=iJ.1 hb;exact cZ (Nd.Zxo hq hp (h.b.ok x hx).1 (h.b.ok y hy).1 e)
 have:=oJ 406 _ h1 (fun x hx=>by
  obtain⟨n,hn,rfl⟩:=iJ.1 hx;obtain⟨e,he,rfl⟩:=iJ.1 hn;exact Nd.ZxF hq hp (h.b.ok e he).1)
 simpa using this
theorem ZpM {bR:By}{n:Nd}(h:par bR n=none):n∉bR.map (·.1):=fun hm=>by
 obtain⟨e,he,rfl⟩:=iJ.1 hm;unfold par at h;rw[Option.map_eq_none_iff,List.find?_eq_none]at h;exact h e he (by simp)
theorem BW.push {q:Qu}{p:List (List Int)}{s:By×List Nd}(h:BW q p s){n x:Nd}(hn:∃(i:Nat) (b:Nd),s.1[i]?=some (n,b))(hx:x.ok q p):BW q p (cJ n s x)/\(∃(i:Nat) (b:Nd),(cJ n s x).1[i]?=some (n,b))/\
  (cJ n s x).2.length+s.1.length=s.2.length+(cJ n s x).1.length/\s.1.length<=(cJ n s x).1.length:=by
 unfold cJ;split
 .exact⟨h,hn,by omega,fH _⟩
 .rename_i hp;have P8:par s.1 x=none:=by cases hh:par s.1 x with
   |none=>rfl
   |some b=>rw[hh]at hp;exact absurd rfl hp
  have QB:=ZpM P8;obtain⟨i,b,hi⟩:=hn;have yO:=(cA.1 hi).1;have old:∀(j:Nat) (e:Nd×Nd),s.1[j]?=some e->(s.1++[(x,n)])[j]?=some e:=fun j e hj=>by
   rw[List.getElem?_append_left (cA.1 hj).1];exact hj
  refine⟨⟨⟨?_,fun e he=>?_,fun j e hj=>?_⟩,fun y hy=>?_⟩,⟨i,b,old i _ hi⟩,by simp;omega,by simp⟩
  .rw[mH,List.nodup_append];refine⟨h.b.nd,by simp,fun a ha c hc e=>?_⟩;simp at hc;subst hc e;exact QB ha
  .rcases sG.1 he with he|he
   .exact h.b.ok e he
   .simp at he;subst he;exact⟨hx,(h.b.ok _ (dL hi)).1⟩
  .rw[yX]at hj;split at hj
   .rcases h.b.up j e hj with h1|⟨k,e',h1,h2,h3⟩
    .exact .inl h1
    .exact .inr ⟨k,e',h1,old k e' h2,h3⟩
   .rename_i xL
    have:j-s.1.length=0:=by
     have:=(cA.1 hj).1
     simp at this;omega
    rw[this]at hj;simp at hj;subst hj;exact .inr ⟨i,(n,b),by omega,old i _ hi,rfl⟩
  .rcases sG.1 hy with hy|hy
   .obtain⟨k,c,hk⟩:=h.t y hy;exact⟨k,c,old k _ hk⟩
   .simp at hy;subst hy;exact⟨s.1.length,n,by simp⟩
theorem BW.Ky {q:Qu}{p:List (List Int)}{n:Nd}:∀(l:List Nd) {s:By×List Nd},BW q p s->(∃(i:Nat) (b:Nd),s.1[i]?=some (n,b))->(∀x∈l,x.ok q p)->BW q p (l.foldl (cJ n) s)/\(∃(i:Nat) (b:Nd),(l.foldl (cJ n) s).1[i]?=some (n,b))/\
  (l.foldl (cJ n) s).2.length+s.1.length=s.2.length+(l.foldl (cJ n) s).1.length/\s.1.length<=(l.foldl (cJ n) s).1.length
 |[],s,h,hn,_=>⟨h,hn,by simp,fH _⟩
 |x::l,s,h,hn,hl=>by
  obtain⟨h1,h2,h3,h4⟩:=h.push hn (hl x (by simp));obtain⟨k1,k2,k3,k4⟩:=BW.Ky l h1 h2 (fun y hy=>hl y (by simp[hy]));rw[List.foldl_cons];exact⟨k1,k2,by omega,by omega⟩
theorem BW.tail {q:Qu}{p:List (List Int)}{bR:By}{n:Nd}{rest:List Nd}(h:BW q p (bR,n::rest)):BW q p (bR,rest):=⟨h.b,fun x hx=>h.t x (by simp[hx])⟩
theorem BW.start {q:Qu}{p:List (List Int)}{run:Nat}(hr:run<q.rs.length):BW q p ([(.ru run,.ru run)],[.ru run]):=
 ⟨⟨by simp,fun e he=>by simp at he;subst he;exact⟨hr,hr⟩,fun i e hi=>by
  cases i with
  |zero=>simp at hi;subst hi;exact .inl rfl
  |succ i=>simp at hi⟩,fun n hn=>by simp at hn;subst hn;exact⟨0,_,rfl⟩⟩
def NB:Nd->FuncId
 |.ru _=>217
 |.rh _ _=>218
 |.mh _ _=>219
theorem Zs6 (q:Qu)(hq:q.ok)(p:List (List Int))(hp:PW q p)(n:Nd)(hn:n.ok q p)(hf:tL p n=false):
  cN prog (NB n) [.ptr (.par 0) 0,.pv n.pv] (laid 0 (bK q p 1)) (fun x B=>x=.vec (.ret 0) 3 0 (nx q p n).length/\B=vP (nx q p n)++laid 0 (bK q p 1)):=by
 have hl:=hp.l;cases n with
 |ru r=>exact Zp9 q p hp.f (by omega) r
 |rh r h=>exact Zp6 q hq p hp.f r h hn.1 hn.2
 |mh m h=>
  have h1:¬gI p h m = -1:=by simpa[tL]using hf
  have h2:=hp.gI h m
  have:=hq.m
  have hm:m<q.ms.length:=hn.1;exact Zp4 q p hp.f m h (by omega) hn.2 (gI p h m).toNat (by omega)
theorem Zmx (n:Nd):Yu[n.kind]?=some (.agg [.fn (NB n) [] []]):=by cases n<;>rfl
structure Lock (A:Prop):Prop where
 out:A
def RZ (q:Qu)(p:List (List Int))(bR:By)(todo:List Nd):AS:=⟨[(0,.ptr (.par 0) 0),(6,.mp (.loc 15 0)),(7,.vec (.loc 78 0) 3 0 todo.length)],(.loc 78 0,.arr 281 3 (todo.map Nd.pv))::(.loc 15 0,.map (AA bR))::laid 0 (bK q p 1)⟩
def Dn (q:Qu)(p:List (List Int))(n:Nd)(L:List Nd)(s:By×List Nd)(i:Nat):AS:=⟨[(0,.ptr (.par 0) 0),(6,.mp (.loc 15 0)),(7,.vec (.loc 78 0) 3 0 s.2.length),(8,.ptr (.loc 8 0) 0),(58,.vec (.loc 58 0) 3 0 L.length),(59,.pv (.i L.length)),(60,.pv (.i i))],
 (.loc 78 0,.arr 281 3 (s.2.map Nd.pv))::(.loc 15 0,.map (AA s.1))::(.loc 8 0,.cells [.pv (.i n.a),.pv (.i n.b),.pv (.i n.c)])::(.loc 58 0,.arr 281 3 (L.map Nd.pv))::laid 0 (bK q p 1)⟩
theorem ZnY {F:Nat}(hF:407<F)(q:Qu)(hq:q.ok)(p:List (List Int))(hp:PW q p)(run:Nat)(dG:run<q.rs.length):
  cN prog 137 [.ptr (.par 0) 0,.pv (.i run)] (laid 0 (bK q p 1)) (fun x B=>x=.pv (.bool (fT F q p run).isSome)/\B=laid 0 (bK q ((fT F q p run).getD p) 1)):=by
 have Ax:=hq.m;have lZ:=hp.l;obtain⟨xG,jB⟩:∃z,z=fT F q p run:=⟨_,rfl⟩;rw[<-jB];generalize hR:(fun(x:AV) (B:List (Site×aK))=>x=.pv (.bool xG.isSome)/\B=laid 0 (bK q (xG.getD p) 1))=R;refine cB [.par 0,.par 1] L137 ?_;simp[L137,bK,laid];refine eP (fun k τ=>∃(bR:By) (todo:List Nd) (f:Nat),BW q p (bR,todo)/\todo.length<=bR.length/\k=406-bR.length+todo.length/\k<f/\JC q p f bR todo=xG/\τ=RZ q p bR todo)
  ⟨406-1+1,RZ q p [(.ru run,.ru run)] [.ru run],Sub.trans' (Sub.mk ?_ ?_) (o0 78 7 [(Nd.ru run).pv] (s:=.loc 20 0) (e:=281) rfl rfl rfl rfl),[(.ru run,.ru run)],[.ru run],F,BW.start dG,fH _,rfl,by omega,jB.symm,rfl⟩ ?_
 .simp[AS.o0]
 .simp[AS.o0,bK,laid,AA,Nd.pv,mI]
 clear jB;intro J hJ k τ bU;refine Lock.out ?_;obtain⟨bR,todo,f,hB,RF,hk,hf,eO,rfl⟩:=bU;obtain⟨f',rfl⟩:∃f',f=f'+1:=⟨f-1,by omega⟩;cases todo with
 |nil=>
  have mK:xG=none:=by rw[<-eO];rfl
  subst mK;refine⟨?_⟩;simp[RZ,bK,laid];rw[<-hR];simp[bK,laid]
 |cons n rest=>
  obtain⟨i0,b0,H2⟩:=hB.t n (by simp);have vN:=(hB.b.ok _ (dL H2)).1;simp only at vN;have mA:=Yl n;have bU:=Zmx n;have X8:n.kind<3:=by cases n<;>simp[Nd.kind]
  rw[JC]at eO;have hlen:=hB.len hq hp;by_cases iU:tL p n=true
  .rw[if_pos iU]at eO;subst eO;clear hJ;cases n with
   |ru r=>simp[tL]at iU
   |rh r h=>simp[tL]at iU
   |mh m h=>
    have Cb:gI p h m = -1:=by simpa[tL]using iU
    obtain⟨l,hl⟩:∃l,p[h]?=some l:=⟨p[h]'vN.2,bC _⟩;have h4:=hp.f l (dL hl);have EX:m<q.ms.length:=vN.1;have hh:h<p.length:=vN.2;have yM:m<4:=by omega
    obtain⟨x,hx⟩:∃x,l[m]?=some x:=⟨l[m]'(by omega),bC _⟩;rw[Lq hl hx]at Cb;subst Cb;have hg:(jQ p)[h]?=some (.agg (l.map (PV.int .i64))):=by rw[jQ,bX,hl];rfl
    have H3:(l.map (PV.int .i64))[m]?=some (.i (-1)):=by rw[bX,hx];rfl
    have tW:=ZqM q hq bR p hB.b hp.f i0 (.mh m h) b0 H2
    simp only[Nd.pv,Nd.kind]at mA tW;refine⟨?_⟩;simp[RZ,bK,laid,Nd.pv,cU,aP];refine AN (k:=0) (fs:=[]) (cs:=[]) rfl rfl mA rfl ?_;simp[-getElem?_pos,-List.getElem?_map,cU,aP,hh,yM,hg,H3];refine cM [.ptr (.par 0) 0,.pv (.agg [.i (-1),.i m,.i h]),.mp (.par 2)] (laid 0 (mC q p bR)) 49 [.par 0,.par 1,.loc 15 0] (by simp[mC,bK,laid]) tW (by simp[mC,bK,laid]) ?_;simp[mC,bK,laid];rw[<-hR];simp[bK,laid]
  .have CU:tL p n=false:=by simpa using iU
   rw[if_neg iU]at eO;have iG:=Zs6 q hq p hp n vN CU;have QA:=BI hq hp vN CU;obtain⟨L,hL⟩:∃L,L=nx q p n:=⟨_,rfl⟩;rw[<-hL]at eO iG QA;have RI:L.length<=1000:=by
    rw[hL];cases n with
    |ru r=>have:=ZgC (p:=p) (r:=r) (k:=p.length);show(V5 p r p.length).length<=1000;omega
    |rh r h=>
     have:=Zfk (q:=q) (p:=p) (r:=r) (h:=h) (k:=q.ms.length)
     show(jG q p r h q.ms.length++_).length<=1000;rw[gD]
     split<;>simp<;>omega
    |mh m h=>simp[nx]
   have CH:∀i,BW q p ((L.take i).foldl (cJ n) (bR,rest))/\((L.take i).foldl (cJ n) (bR,rest)).2.length+bR.length=rest.length+((L.take i).foldl (cJ n) (bR,rest)).1.length/\bR.length<=((L.take i).foldl (cJ n) (bR,rest)).1.length:=fun i=>by
    obtain⟨h1,_,h3,h4⟩:=BW.Ky (L.take i) hB.tail ⟨i0,b0,H2⟩ (fun x hx=>QA x (List.mem_of_mem_take hx));exact⟨h1,h3,h4⟩
   have oO:BW q p (L.foldl (cJ n) (bR,rest))/\(L.foldl (cJ n) (bR,rest)).2.length+bR.length=rest.length+(L.foldl (cJ n) (bR,rest)).1.length:=by
    have:=CH L.length
    rw[mX]at this;exact⟨this.1,this.2.1⟩
   have QW:=oO.1.len hq hp;have aB:=hJ (406-(L.foldl (cJ n) (bR,rest)).1.length+(L.foldl (cJ n) (bR,rest)).2.length) _ ⟨_,_,f',oO.1,by have h1:=oO.2;rw[pA]at RF;show(L.foldl (cJ n) (bR,rest)).2.length<=(L.foldl (cJ n) (bR,rest)).1.length;omega,rfl,by
    have h1:=oO.2;rw[pA]at hk
    omega,eO,rfl⟩
   have aG:406-(L.foldl (cJ n) (bR,rest)).1.length+(L.foldl (cJ n) (bR,rest)).2.length<k:=by
    have h1:=oO.2;rw[pA]at hk;omega
   have jL:∀i,((L.take i).foldl (cJ n) (bR,rest)).2.length<=406:=fun i=>by
    obtain⟨h1,h2,h3⟩:=CH i
    have:=h1.len hq hp
    rw[pA]at RF;omega
   rw[Nd.R0]at mA iG;obtain⟨N,hN⟩:∃N,N=n:=⟨_,rfl⟩;rw[<-hN]at aB aG jL;clear oO CH QW;have hmf:∀m h,n=.mh m h->∃(l:List Int) (x:Int),jR n.c=some h/\jR n.b=some m/\h<p.length/\m<4/\(jQ p)[h]?=some (.agg (l.map (PV.int .i64)))/\(l.map (PV.int .i64))[m]?=some (.i x)/\x≠-1:=fun m h e=>by
    subst e;obtain⟨l,hl⟩:∃l,p[h]?=some l:=⟨p[h]'vN.2,bC _⟩;have h4:=hp.f l (dL hl);have EX:m<q.ms.length:=vN.1;obtain⟨x,hx⟩:∃x,l[m]?=some x:=⟨l[m]'(by omega),bC _⟩;have Cb:¬gI p h m = -1:=by simpa[tL]using CU
    rw[Lq hl hx]at Cb;exact⟨l,x,Zhp,Zhp,vN.2,by omega,by rw[jQ,bX,hl];rfl,by rw[bX,hx];rfl,Cb⟩
   clear hJ eO QA hB vN CU iU hL H2;cases n
   case' mh m h=>
    obtain⟨l,x,e1,e2,e3,e4,e5,e6,e7⟩:=hmf m h rfl;simp only[Nd.a,Nd.b,Nd.c,Nd.kind]at e1 e2 mA iG bU aB;refine⟨?_⟩;simp[RZ,bK,laid,Nd.pv,cU,aP];refine AN (k:=0) (fs:=[]) (cs:=[]) rfl rfl mA rfl ?_;simp[cU,aP,e1,e2,e3,e4,e5,e6,e7]
   case' ru r=>
    simp only[Nd.a,Nd.b,Nd.c,Nd.kind]at mA iG bU aB;refine⟨?_⟩;simp[RZ,bK,laid,Nd.pv,cU,aP];refine AN (k:=0) (fs:=[]) (cs:=[]) rfl rfl mA rfl ?_;simp[aP]
   case' rh r h=>
    simp only[Nd.a,Nd.b,Nd.c,Nd.kind]at mA iG bU aB;refine⟨?_⟩;simp[RZ,bK,laid,Nd.pv,cU,aP];refine AN (k:=0) (fs:=[]) (cs:=[]) rfl rfl mA rfl ?_;simp[cU,aP]
   all_goals
    clear hmf;refine cQ [] [] Zsj ?_;simp[aM];refine AN (k:=0) (fs:=[]) (cs:=[]) rfl rfl mA rfl ?_;simp[Yu];refine xQ (B:=laid 0 (bK q p 1)) (fs:=[]) (cs:=[]) 58 [.par 0,.par 1] ?_ rfl rfl ?_ ?_ ?_ iG ?_
    .rfl
    .simp[bK,laid]
    .rfl
    .simp
    rintro r0 B0 ⟨rfl,rfl⟩;refine⟨rfl,by simp[vP,bK,laid],?_⟩;simp[vP,bK,laid];refine eP (fun k τ=>∃i:Nat,i<=L.length/\k=L.length-i/\τ=Dn q p N L ((L.take i).foldl (cJ N) (bR,rest)) i)
     ⟨L.length,Dn q p N L (bR,rest) 0,Sub.trans' (Sub.mk ?_ ?_) (o0 78 7 (rest.map Nd.pv) (s:=.loc 78 0) (e:=281) rfl rfl ?_ rfl),0,gY _,rfl,rfl⟩ ?_
    .simp[AS.o0]
    .simp[AS.o0,bK,laid,hN,Nd.a,Nd.b,Nd.c]
    .simp;omega
    clear hN mA iG bU;rintro J2 uT k2 τ ⟨i,hi,rfl,rfl⟩;by_cases aJ:i<L.length
    .obtain⟨x,hx⟩:∃x,L[i]?=some x:=⟨L[i],bC aJ⟩;have oN:(L.map Nd.pv)[i]?=some (.agg [.i x.a,.i x.b,.i x.c]):=by rw[bX,hx];simp[Nd.R0]
     have hw:=jE (k:=i) (by omega);have rP:(L.take (i+1)).foldl (cJ N) (bR,rest)=cJ N ((L.take i).foldl (cJ N) (bR,rest)) x:=by rw[OD hx,List.foldl_append];rfl
     have cC:=uT _ _ ⟨i+1,aJ,rfl,rfl⟩;rw[rP]at cC;have Vf:=jL i;have iH:L.length-(i+1)<L.length-i:=by omega
     clear uT rP aB aG jL;generalize(L.take i).foldl (cJ N) (bR,rest)=S1 at *;obtain⟨b1,t1⟩:=S1;simp only at Vf;have dY:=ZhI x b1;have N0:=X1 x;have p7:=Zn0 b1;have Am:t1.length+1<=1000000:=by omega
     cases Ay:par b1 x with
     |none=>
      have nE:=Znq (b:=N) Ay;have Sz:cJ N (b1,t1) x=(b1++[(x,N)],t1++[x]):=by unfold cJ;rw[Ay];rfl
      rw[Sz]at cC;rw[Ay]at dY;rw[Nd.R0 x,Nd.R0 N]at nE;rw[Nd.R0 x]at dY N0;simp only[Option.map_none]at dY;simp[-gS,-KT.ok,Dn,bK,laid,cU,aP,aJ,↓oN,dY,N0,p7,nE,Am,hw];refine⟨_,_,iH,Sub.mk ?_ ?_,cC⟩
      .simp
      .simp[bK,laid,Nd.R0]
     |some b=>
      have Sz:cJ N (b1,t1) x=(b1,t1):=by unfold cJ;rw[Ay];rfl
      rw[Sz]at cC;rw[Ay]at dY;rw[Nd.R0 x]at dY N0;simp only[uW,Nd.R0 b]at dY;simp[-gS,-KT.ok,Dn,bK,laid,cU,aP,aJ,↓oN,dY,N0,p7,hw];refine⟨_,_,iH,Sub.mk ?_ ?_,cC⟩
      .simp
      .simp[bK,laid]
    .have he:i=L.length:=by omega
     subst he;rw[mX];clear uT jL;generalize L.foldl (cJ N) (bR,rest)=S1 at *;obtain⟨b1,t1⟩:=S1;simp[Dn,bK,laid];refine⟨_,_,aG,Sub.mk ?_ ?_,aB⟩
     .simp
     .simp[bK,laid]
end Go.Proofs.YtlllhbmbnjnoiaaGreatDoor.Qn
namespace Go.Proofs.YtlllhbmbnjnoiaaGreatDoor
open Go.RowKit
theorem Sub.cut {σ:AS}{s:Site}{e n:Nat}{xs:List PV}(k:Nat)(hb:σ.b s=some (.arr e n xs)):Sub (σ.set s (.arr e n (xs.take k))) σ:=fun _ _ _ _ ρ m act w hS=>by
 refine⟨ρ,m,hS.ZxJ hb ?_ (fun j hj=>?_)⟩
 .obtain⟨hn,h|⟨hr,cs,g1,g2,g3,g4,g5⟩⟩:=hS.bx s _ hb
  .exact⟨hn,.inl ⟨h.1,by rw[h.2.1];simp,h.2.2⟩⟩
  .refine⟨hn,.inr ⟨hr,cs,g1,g2,by rw[gN];omega,g4,fun i x hi=>?_⟩⟩;rw[mE]at hi;split at hi
   .exact g5 i x hi
   .cases hi
 .obtain⟨r1,r2⟩:=EF rfl hj;exact .inl ⟨r1,r2⟩
theorem Wt {σ:AS}(s:Site){e n:Nat}{xs:List PV}(k:Nat)(ys:List PV)(hb:σ.b s=some (.arr e n xs))(hy:xs.take k=ys):Sub (σ.set s (.arr e n ys)) σ:=by
 subst hy;exact Sub.cut k hb
end Go.Proofs.YtlllhbmbnjnoiaaGreatDoor
namespace Go.Proofs.YtlllhbmbnjnoiaaGreatDoor.Qn
open Go.RowKit
theorem PW.set {q:Qu}{p:List (List Int)}(hp:PW q p){h m:Nat}{x:Int}(hh:h<p.length)(hx:x = -1\/(0<=x/\x<q.rs.length)):PW q (gA p h m x):=by
 refine⟨Zia hp.f hh,fun l hl y hy=>?_,by rw[OJ];exact hp.l⟩;rcases List.mem_or_eq_of_mem_set hl with h1|h1
 .exact hp.ok l h1 y hy
 .subst h1;have e:p[h]?=some p[h]:=bC hh;rw[e]at hy;simp only[rU]at hy;rcases List.mem_or_eq_of_mem_set hy with h2|h2
  .exact hp.ok _ (zZ hh) y h2
  .subst h2;exact hx
theorem PW.qR {q:Qu}{p:List (List Int)}(hp:PW q p){n b:Nd}(hn:n.ok q p)(hb:b.ok q p):PW q (qR n b p):=by
 cases n with
 |ru r=>cases b<;>exact hp
 |rh r h=>
  cases b with
  |mh m h'=>exact hp.set hn.2 (.inl rfl)
  |ru r'=>exact hp
  |rh r' h'=>exact hp
 |mh m h=>
  refine hp.set hn.2 ?_;cases b with
  |ru r=>right;have:r<q.rs.length:=hb;show 0<=(r:Int)/\(r:Int)<_;omega
  |rh r h'=>right;have:r<q.rs.length:=hb.1;show 0<=(r:Int)/\(r:Int)<_;omega
  |mh m' h'=>exact .inl rfl
theorem PW.wV {q:Qu}{p0:List (List Int)}{bR:By}(hb:KR q p0 bR):∀(f:Nat) (n:Nd) (p:List (List Int)),PW q p->p.length=p0.length->PW q (wV bR f n p)/\(Go.Proofs.YtlllhbmbnjnoiaaGreatDoor.Qn.wV bR f n p).length=p0.length
 |0,n,p,hp,hl=>⟨hp,hl⟩
 |f+1,n,p,hp,hl=>by
  unfold Go.Proofs.YtlllhbmbnjnoiaaGreatDoor.Qn.wV;cases P8:par bR n with
  |none=>exact⟨hp,hl⟩
  |some b=>
   simp only;split
   .exact⟨hp,hl⟩
   .have gR:(n,b)∈bR:=by
     unfold par at P8;obtain⟨e,he,rfl⟩:=eA.1 P8;have h1:=List.find?_some he;simp only[decide_eq_true_eq]at h1;subst h1;exact List.mem_of_find?_eq_some he
    obtain⟨h1,h2⟩:=hb.ok _ gR;exact PW.wV hb f b _ (hp.qR (Nd.Kx hl h1) (Nd.Kx hl h2)) (by rw[Zlk];exact hl)
theorem ZrR {q:Qu}(hq:q.ok){p:List (List Int)}(hp:PW q p):∀(f:Nat) (bR:By) (todo:List Nd),BW q p (bR,todo)->∀p',JC q p f bR todo=some p'->PW q p'/\p'.length=p.length
 |0,bR,todo,_,p',h=>by cases h
 |f+1,bR,[],_,p',h=>by cases h
 |f+1,bR,n::rest,hB,p',h=>by
  obtain⟨i0,b0,H2⟩:=hB.t n (by simp);have vN:=(hB.b.ok _ (dL H2)).1;rw[JC]at h;by_cases hf:tL p n=true
  .rw[if_pos hf]at h;cases h;exact PW.wV hB.b _ _ _ hp rfl
  .rw[if_neg hf]at h;have CU:tL p n=false:=by simpa using hf
   exact ZrR hq hp f _ _ (BW.Ky _ hB.tail ⟨i0,b0,H2⟩ (BI hq hp vN CU)).1 p' h
theorem ZhG {F:Nat}{q:Qu}(hq:q.ok){p:List (List Int)}(hp:PW q p){run:Nat}(hr:run<q.rs.length){p':List (List Int)}(h:fT F q p run=some p'):PW q p'/\p'.length=p.length:=
 ZrR hq hp F _ _ (BW.start hr) p' h
def fG (F:Nat)(q:Qu):List (List Int)->List Nat->List (List Int)×List Nat
 |p,[]=>(p,[])
 |p,r::l=>match fT F q p r with
  |some p'=>fG F q p' l
  |none=>((fG F q p l).1,r::(fG F q p l).2)
def P5 (F:Nat)(q:Qu)(p:List (List Int)):List Nat->Option (Nat×List (List Int))
 |[]=>none
 |r::l=>match fT F q p r with
  |some p'=>some (0,p')
  |none=>(P5 F q p l).map fun s=>(s.1+1,s.2)
theorem Zou {F:Nat}{q:Qu}{p:List (List Int)}:∀l:List Nat,fG F q p l=match P5 F q p l with
  |none=>(p,l)
  |some (i,p')=>((fG F q p' (l.drop (i+1))).1,l.take i++(fG F q p' (l.drop (i+1))).2)
 |[]=>rfl
 |r::l=>by
  have ih:=Zou (F:=F) (q:=q) (p:=p) l;have e1:fG F q p (r::l)=match fT F q p r with
   |some p'=>fG F q p' l
   |none=>((fG F q p l).1,r::(fG F q p l).2):=rfl
  have e2:P5 F q p (r::l)=match fT F q p r with
   |some p'=>some (0,p')
   |none=>(P5 F q p l).map fun s=>(s.1+1,s.2):=rfl
  rw[e1,e2];cases hg:fT F q p r with
  |some p'=>simp
  |none=>
   simp only;rw[ih];cases hx:P5 F q p l with
   |none=>rfl
   |some s=>obtain⟨i,p'⟩:=s;simp
theorem Mg {F:Nat}{q:Qu}(hq:q.ok):∀(l:List Nat) (p:List (List Int)),PW q p->(∀r∈l,r<q.rs.length)->PW q (fG F q p l).1/\(fG F q p l).1.length=p.length/\(∀r∈(fG F q p l).2,r∈l)/\(fG F q p l).2.length<=l.length
 |[],p,hp,_=>⟨hp,rfl,fun r h=>h,fH _⟩
 |r::l,p,hp,hl=>by
  unfold fG;cases hg:fT F q p r with
  |some p'=>
   obtain⟨h1,h2⟩:=ZhG hq hp (hl r (by simp)) hg;obtain⟨k1,k2,k3,k4⟩:=Mg hq l p' h1 (fun r h=>hl r (by simp[h]));exact⟨k1,k2.trans h2,fun r h=>by simp[k3 r h],by rw[pA];exact Nat.le_succ_of_le k4⟩
  |none=>
   obtain⟨k1,k2,k3,k4⟩:=Mg hq l p hp (fun r h=>hl r (by simp[h]));refine⟨k1,k2,fun r' h=>?_,by simpa using k4⟩;rcases jO.1 h with h|h
   .simp[h]
   .simp[k3 r' h]
def tR (F:Nat)(q:Qu):Nat->List (List Int)->List Nat->Option (List (List Int))
 |_,p,[]=>some p
 |0,_,_::_=>none
 |n+1,p,r::l=>if p.length=40 then none else tR F q n (fG F q (p++[fC]) (r::l)).1 (fG F q (p++[fC]) (r::l)).2
def Qu.JL (q:Qu):List Nat:=(List.range q.rs.length).flatMap fun i=>List.replicate (q.run i).hours.toNat i
def Qu.DX (F:Nat)(q:Qu):Option (List (List Int)):=tR F q 41 [] q.JL
theorem PW.more {q:Qu}{p:List (List Int)}(hp:PW q p)(hl:p.length<40):PW q (p++[fC]):=
 ⟨fun l h=>by
  rcases sG.1 h with h|h
  .exact hp.f l h
  .simp at h;subst h;rfl,fun l h x hx=>by
  rcases sG.1 h with h|h
  .exact hp.ok l h x hx
  .simp at h;subst h;simp[fC]at hx;exact .inl hx,by simp;omega⟩
theorem PW.nil {q:Qu}:PW q []:=⟨fun l h=>(by simp at h),fun l h=>(by simp at h),by simp⟩
theorem C5 {F:Nat}{q:Qu}(hq:q.ok):∀(n:Nat) (p:List (List Int)) (l:List Nat),PW q p->(∀r∈l,r<q.rs.length)->∀p',tR F q n p l=some p'->PW q p'
 |n,p,[],hp,_,p',h=>by cases n<;>(simp only[tR]at h;cases h;exact hp)
 |0,p,r::l,_,_,p',h=>by cases h
 |n+1,p,r::l,hp,hl,p',h=>by
  unfold tR at h;split at h
  .cases h
  .rename_i RV;have h1:=hp.l;obtain⟨k1,k2,k3,k4⟩:=Mg (F:=F) hq (r::l) _ (hp.more (by omega)) hl;exact C5 hq n _ _ k1 (fun x hx=>hl x (k3 x hx)) p' h
theorem oE {q:Qu}:∀r∈q.JL,r<q.rs.length:=fun r hr=>by
 unfold Qu.JL at hr;obtain⟨i,hi,h⟩:=List.mem_flatMap.1 hr;rw[List.mem_replicate]at h;rw[h.2];simpa using hi
end Go.Proofs.YtlllhbmbnjnoiaaGreatDoor.Qn
namespace Go.Proofs.YtlllhbmbnjnoiaaGreatDoor
open Go.RowKit
noncomputable section
def L178:aZ :=⟨30,S [O 4 (.dW (.c (.int .u64 (0)))),O 5 (.dW (.c (.int .u64 (0))))] (.seq (.cond Bf (aC [Om 11 0,O 12 (.conv .u32 (.t 11)),Om 13 1,O 14 (.conv .u32 (.t 13)),Ok 15 215 [.t 12,.t 14],mQ 10 15 16 0 17 1,bL 6 16 17] (aC [Om 18 6,O 19 (.conv .u64 (.t 18)),Om 20 7,O 21 (.conv .u64 (.t 20)),bL 4 19 21] .ret)) .skip) (aC [bL 23 0 1,Ok 25 216 [.t 23,.t 24],mQ 22 25 26 0 27 1,bL 8 26 27] (aC [bL 28 8 9,bL 4 28 29] .ret))),[.tm 4,.tm 5]⟩
def L216:aZ :=⟨51,S [O 4 (.dW (.c (.int .u64 (0)))),O 5 (.dW (.c (.int .u64 (0))))] (aC [ZAd 14 0 4294967295 6] (aC [Et 16 0 32,Om 7 17] (aC [ZAd 18 1 4294967295 8] (aC [Et 20 1 32,Om 9 21] (aC [bL 22 6 8,Ob 24 .mul 22 23,Om 10 24] (aC [bL 25 7 8,Ob 27 .mul 25 26,Et 28 10 32,EI 30 27 29 11] (aC [ZAd 31 11 4294967295 12] (aC [Et 33 11 32,Om 13 34] (aC [bL 35 12 6,Om 37 9,Ob 38 .mul 36 37,EI 39 35 38 12] (aC [bL 40 7 9,Ob 42 .mul 40 41,Om 43 13,Ob 44 .add 42 43,Et 45 12 32,EI 47 44 46 4] (aC [bL 48 0 1,Ob 50 .mul 48 49,Om 5 50] .ret))))))))))),[.tm 4,.tm 5]⟩
end
end Go.Proofs.YtlllhbmbnjnoiaaGreatDoor
namespace Go.Proofs.YtlllhbmbnjnoiaaGreatDoor.Qn
open Go.RowKit
open Tryz
theorem Ep (c:Fin 41):(BitVec.ofNat 64 c.1&&& 4294967295#64).toNat=c.1:=by revert c;decide
theorem Zs9 (c:Nat)(hc:c<=40):aD prog 216 [.int .u64 1,.int .u64 c] (.bM [.int .u64 0,.int .u64 c]):=by
 have h1:=Ep ⟨c,by omega⟩;simp only at h1;have w0:IntKind.u64.wrap 0=0:=rfl;have w1:IntKind.u64.wrap 1=1:=rfl;have hw:∀n:Nat,n<=40->IntKind.u64.wrap (n:Int)=n:=fun n hn=>by rw[show IntKind.u64.wrap (n:Int)=(n:Int)%18446744073709551616 from rfl];omega
 have hd:∀n:Nat,n<=40->(n:Int).fdiv 4294967296=0:=fun n hn=>by rw[Int.fdiv_eq_ediv_of_nonneg _ (by omega)];omega
 refine cS L216 ?_;simp[L216,IntKind.bits,w0,w1,hw c hc,hd c hc];exact(by decide +kernel:∀c:Fin 41,IntKind.u64.wrap
   (IntKind.u64.wrap
     ((IntKind.u64.wrap
        ((IntKind.u64.wrap (IntKind.u64.wrap ((BitVec.ofNat 64 c.1&&& 4294967295#64).toNat:Int))).fdiv
         4294967296)).fdiv
      4294967296) +
    (IntKind.u64.wrap
       (IntKind.u64.wrap
        ((BitVec.ofInt 64
            (IntKind.u64.wrap
             ((IntKind.u64.wrap (IntKind.u64.wrap ((BitVec.ofNat 64 c.1&&& 4294967295#64).toNat:Int))).fdiv
              4294967296))&&&
           4294967295#64).toNat:Int))).fdiv
     4294967296) =
  0) ⟨c,by omega⟩
theorem ZR (c:Nat)(hc:c<=40):aD prog 178 [.int .u64 1,.int .u64 c] (.bM [.int .u64 0,.int .u64 c]):=by
 refine cS L178 ?_;simp[L178];refine gG (k:=0) (fs:=[]) (cs:=[]) rfl rfl (Zs9 c hc) rfl ?_;simp
def vK (v:Int)(c n:Nat):List PV:=List.replicate n (.i v)++List.replicate (c-n) (.i 0)
theorem ZpA {v:Int}{c n:Nat}(h:n<=c):(vK v c n).length=c:=by simp[vK];omega
theorem Zie {v:Int}{c n:Nat}:(vK v c n).take n=List.replicate n (.i v):=by simp[vK]
theorem Zna {v:Int}{c n:Nat}(h:n<=c):aS (vK v c n) n ((List.replicate n (PV.i v)).take (c-n))=vK v c (n+min n (c-n)):=by
 unfold aS vK;rw[List.take_replicate,List.length_replicate,List.take_append_of_le_length (by simp),fP (by simp),List.drop_append,List.length_replicate,List.drop_replicate,List.drop_replicate,<-I2];rw[show n-(n+min (c-n) n)=0 by omega,List.replicate_zero,tG,List.replicate_append_replicate];congr 2<;>omega
theorem Zpy (v:Int)(c:Nat)(hc:c<=40):aD prog 135 [.aE false 1 [.i v],.i c] (.aE false 1 (List.replicate c (.i v))):=by
 have hw:∀n:Nat,n<=40->IntKind.u64.wrap (n:Int)=n:=fun n hn=>by rw[show IntKind.u64.wrap (n:Int)=(n:Int)%18446744073709551616 from rfl];omega
 have hi:∀n:Nat,n<=1000->IntKind.i64.wrap (n:Int)=n:=fun n hn=>wrap64 (by omega)
 have w1:IntKind.u64.wrap 1=1:=rfl;have MP:¬((c:Int)<0):=by omega
 have IG:¬((9223372036854775807:Int)<(c:Int)):=by omega
 have hc6:c<=1000000:=by omega
 refine cF [.loc 30 0] L135 ?_;simp[L135,hw c hc,w1,MP];refine gG (k:=0) (fs:=[]) (cs:=[]) rfl rfl (ZR c hc) rfl ?_;simp[-aS,IG,hi c (by omega),aP,hc6];refine eP (fun k τ=>∃n:Nat,n<=c/\(0<n\/c=0)/\k=c-n/\τ=⟨[(7,.vec (.loc 30 0) 1 0 c),(8,.pv (.i n))],[(.loc 30 0,.arr 3 1 (vK v c n))]⟩)
  ⟨c-min c 1,⟨[(7,.vec (.loc 30 0) 1 0 c),(8,.pv (.i (min c 1:Nat)))],[(.loc 30 0,.arr 3 1 (vK v c (min c 1)))]⟩,Sub.mk ?_ ?_,min c 1,by omega,by omega,rfl,rfl⟩ ?_
 .simp
 .cases c with
  |zero=>simp[-aS,vK,aS]
  |succ c=>simp[-aS,vK,aS]
 rintro J hJ k τ ⟨n,hn,xJ,rfl,rfl⟩;have HU:=ZpA (v:=v) hn;by_cases aJ:n<c
 .have aB:=hJ _ _ ⟨n+min n (c-n),by omega,by omega,rfl,rfl⟩;have jT:=Zie (v:=v) (c:=c) (n:=n);have iG:=Zna (v:=v) hn;have jA:(n:Int)<(c:Int):=by omega
  have aG:c-(n+min n (c-n))<c-n:=by omega
  have Jn:IntKind.i64.wrap ((n:Int)+(min (c-n) n:Nat))=((n+min n (c-n):Nat):Int):=by rw[wrap64 (by omega)];omega
  have G9:n+(c-n)=c:=by omega
  clear hJ;simp[-aS,-List.take_replicate,jA,aP,hn,HU,jT,iG,G9,Jn];refine⟨_,_,aG,Sub.mk ?_ ?_,aB⟩
  .simp
  .simp
 .have he:n=c:=by omega
  subst he;have jT:=Zie (v:=v) (c:=n) (n:=n);simp[-aS,jT,HU]
def iX (l:List Nat):List PV:=l.map fun r:Nat=>.i r
theorem Zho {l:List Nat}{i r:Nat}(h:l[i]?=some r):(iX l)[i]?=some (.i r):=by rw[iX,bX,h];rfl
theorem Zhn {l:List Nat}:(iX l).length=l.length:=by simp[iX]
def gL (q:Qu)(p:List (List Int))(l:List Nat):List aK:=.arr 3 1 (iX l)::bK q p 2
def G5:Option (Nat×List (List Int))->Int
 |some s=>s.1
 |none=>-1
def UQ (p:List (List Int)):Option (Nat×List (List Int))->List (List Int)
 |some s=>s.2
 |none=>p
def lR:AV:=.fn 137 [.ptr (.par 1) 0] []
theorem Rs {F:Nat}(hF:407<F)(q:Qu)(hq:q.ok)(p:List (List Int))(hp:PW q p)(l:List Nat)(hl:l.length<=1000)(fW:∀r∈l,r<q.rs.length):
  cN prog 123 [.vec (.par 0) 1 0 l.length,lR] (laid 0 (gL q p l)) (fun x B=>x=.pv (.i (G5 (P5 F q p l)))/\B=laid 0 (gL q (UQ p (P5 F q p l)) l)):=by
 refine cB [.par 0,.par 1,.par 2] L123 ?_;obtain⟨xG,jB⟩:∃z,z=P5 F q p l:=⟨_,rfl⟩;rw[<-jB];generalize hR:(fun(x:AV) (B:List (Site×aK))=>x=.pv (.i (G5 xG))/\B=laid 0 (gL q (UQ p xG) l))=R;simp[L123,gL,lR,bK,laid];refine eP (fun n τ=>∃k:Nat,k<=l.length/\n=l.length-k/\(P5 F q p (l.drop k)).map (fun s=>(s.1+k,s.2))=xG/\τ=⟨[(0,.vec (.par 0) 1 0 l.length),(1,lR),(7,.pv (.i l.length)),(8,.pv (.i k))],laid 0 (gL q p l)⟩)
  ⟨l.length,⟨[(0,.vec (.par 0) 1 0 l.length),(1,lR),(7,.pv (.i l.length)),(8,.pv (.i 0))],laid 0 (gL q p l)⟩,Sub.mk (by simp[lR]) (by simp[gL,bK,laid]),0,gY _,rfl,by rw[jB];simp,rfl⟩ ?_
 clear jB;rintro J hJ n τ ⟨k,hk,rfl,eO,rfl⟩;by_cases aJ:k<l.length
 .obtain⟨r,hx⟩:∃x,l[k]?=some x:=⟨l[k],bC aJ⟩;have hg:=Zho hx;have HU:=Zhn (l:=l);have hw:=jE (k:=k) (by omega);have aG:l.length-(k+1)<l.length-k:=by omega
  have y8:l.drop k=r::l.drop (k+1):=by
   rw[AD aJ]
   have:l[k]=r:=by rw[bC aJ]at hx;exact Option.some.inj hx
   rw[this]
  have hC:=ZnY hF q hq p hp r (fW r (dL hx));rw[y8]at eO;have e2:P5 F q p (r::l.drop (k+1))=match fT F q p r with
   |some p'=>some (0,p')
   |none=>(P5 F q p (l.drop (k+1))).map fun s=>(s.1+1,s.2):=rfl
  rw[e2]at eO;clear e2 y8;have eK:fT F q p r=none->J (l.length-(k+1)) _:=fun hn=>hJ _ _ ⟨k+1,aJ,rfl,by
   rw[hn]at eO;rw[<-eO];cases P5 F q p (l.drop (k+1))with
   |none=>rfl
   |some s=>simp;omega,rfl⟩
  clear hJ;simp[gL,lR,bK,laid,aJ,hg,cU];refine xQ (gF:=[.ptr (.par 0) 0,.pv (.i r)]) (B:=laid 0 (bK q p 1)) (fs:=[.ptr (.par 1) 0]) (cs:=[]) 16 [.par 1,.par 2] ?_ rfl rfl ?_ ?_ ?_ hC ?_
  .rfl
  .simp[bK,laid]
  .rfl
  .rfl
  rintro r0 B0 ⟨rfl,rfl⟩;refine⟨rfl,by simp[bK,laid],?_⟩;cases yP:fT F q p r with
  |none=>
   have aB:=eK yP;simp[bK,laid,hw];refine⟨_,_,aG,Sub.mk ?_ ?_,aB⟩
   .simp[lR]
   .simp[gL,bK,laid]
  |some p'=>
   rw[yP]at eO;simp only[uW,rV]at eO;subst eO;simp[bK,laid];rw[<-hR];simp[gL,bK,laid,G5,UQ]
 .have he:k=l.length:=by omega
  subst he;rw[List.drop_length]at eO;have mK:xG=none:=by rw[<-eO];rfl
  subst mK;simp[gL,lR,bK,laid];rw[<-hR];simp[gL,bK,laid,G5,UQ]
theorem ZrH {F:Nat}{q:Qu}(hq:q.ok){p:List (List Int)}(hp:PW q p):∀(l:List Nat),(∀r∈l,r<q.rs.length)->∀i p',P5 F q p l=some (i,p')->i<l.length/\PW q p'/\p'.length=p.length
 |[],_,i,p',h=>by cases h
 |r::l,hl,i,p',h=>by
  have e2:P5 F q p (r::l)=match fT F q p r with
   |some p'=>some (0,p')
   |none=>(P5 F q p l).map fun s=>(s.1+1,s.2):=rfl
  rw[e2]at h;cases hg:fT F q p r with
  |some p2=>
   rw[hg]at h;simp only[Option.some.injEq,Prod.mk.injEq]at h;obtain⟨rfl,rfl⟩:=h;obtain⟨h1,h2⟩:=ZhG hq hp (hl r (by simp)) hg;exact⟨by simp,h1,h2⟩
  |none=>
   rw[hg]at h;obtain⟨s,hs,he⟩:=eA.1 h;obtain⟨k,p3⟩:=s;simp only[Prod.mk.injEq]at he;obtain⟨rfl,rfl⟩:=he;obtain⟨h1,h2⟩:=ZrH hq hp l (fun x hx=>hl x (by simp[hx])) k p3 hs;exact⟨by simp;omega,h2⟩
def VU (q:Qu)(p:List (List Int))(X:List Nat)(w j n:Nat):AS:=⟨[(0,.vec (.par 0) 1 0 n),(1,lR),(5,.pv (.i w)),(6,.pv (.i j))],laid 0 (gL q p X)⟩
theorem ZpY {X:List Nat}{w r:Nat}:(iX X).set w (.i r)=iX (X.set w r):=by rw[iX,iX,List.map_set]
theorem Zqx {F:Nat}(hF:407<F)(q:Qu)(hq:q.ok)(p:List (List Int))(hp:PW q p)(l:List Nat)(hl:l.length<=1000)(fW:∀r∈l,r<q.rs.length):
  cN prog 83 [.vec (.par 0) 1 0 l.length,lR] (laid 0 (gL q p l)) (fun x B=>x=.vec (.par 0) 1 0 (fG F q p l).2.length/\∃X:List Nat,X.take (fG F q p l).2.length=(fG F q p l).2/\B=laid 0 (gL q (fG F q p l).1 X)):=by
 obtain⟨xG,jB⟩:∃z,z=fG F q p l:=⟨_,rfl⟩;rw[<-jB];have hC:=Rs hF q hq p hp l hl fW;rw[Zou]at jB;refine N9 [.par 0,.par 1,.par 2] L83 ?_;intro R hR;have Bo:=ZrH (F:=F) hq hp l fW;simp[L83,gL,bK,laid];refine xQ (gF:=[.vec (.par 0) 1 0 l.length,lR]) (B:=laid 0 (gL q p l)) (fs:=[]) (cs:=[]) 10 [.par 0,.par 1,.par 2] ?_ rfl rfl ?_ ?_ ?_ hC ?_
 .rfl
 .simp[gL,bK,laid]
 .simp[lR]
 .simp[lR]
 rintro r0 B0 ⟨rfl,rfl⟩;refine⟨rfl,by simp[gL,bK,laid],?_⟩;cases hx:P5 F q p l with
 |none=>
  rw[hx]at jB;simp only at jB;subst jB;simp[gL,bK,laid,G5,UQ,lR];rw[<-hR];exact⟨rfl,l,by simp,by simp[gL,bK,laid]⟩
 |some s=>
  obtain⟨i,p1⟩:=s;obtain⟨hi,Ba,_⟩:=Bo i p1 hx;rw[hx]at jB;simp only at jB;have pY:=jE (k:=i) (by omega);have M6:¬((i:Int) = -1):=by omega
  clear Bo hC;simp[gL,bK,laid,G5,UQ,lR,pY,M6];refine eP (fun n τ=>∃(j:Nat) (X K:List Nat) (p2:List (List Int)),j<=l.length/\n=l.length-j/\X.length=l.length/\X.take K.length=K/\X.drop j=l.drop j/\K.length<j/\PW q p2/\(fG F q p2 (l.drop j)).1=xG.1/\K++(fG F q p2 (l.drop j)).2=xG.2/\τ=VU q p2 X K.length j l.length)
   ⟨l.length-(i+1),VU q p1 l i (i+1) l.length,Sub.mk (by simp[lR]) (by simp[gL,bK,laid]),i+1,l,l.take i,p1,by omega,rfl,rfl,by simp,rfl,by rw[gN];omega,Ba,by rw[jB],by rw[jB],by rw[gN,Nat.min_eq_left (by omega)]⟩ ?_
  clear jB Ba hx pY M6;rintro J hJ n τ ⟨j,X,K,p2,hj,rfl,H5,y9,MV,hKj,Td,D3,D0,rfl⟩;have HU:=Zhn (l:=X);by_cases aJ:j<l.length
  .obtain⟨r,tC⟩:∃x,l[j]?=some x:=⟨l[j],bC aJ⟩;have Dc:X[j]?=some r:=by
    have h1:(X.drop j)[0]?=(l.drop j)[0]?:=by rw[MV]
    rw[mS,mS,Nat.add_zero]at h1;rw[h1];exact tC
   have hg:=Zho Dc;have hw:=jE (k:=j) (by omega);have sN:=jE (k:=K.length) (by omega);have aG:l.length-(j+1)<l.length-j:=by omega
   have y8:l.drop j=r::l.drop (j+1):=by
    rw[AD aJ]
    have:l[j]=r:=by rw[bC aJ]at tC;exact Option.some.inj tC
    rw[this]
   have hC:=ZnY hF q hq p2 Td r (fW r (dL tC));have q8:X.drop (j+1)=l.drop (j+1):=by
    have:=congrArg List.tail MV
    simpa[List.tail_drop]using this
   rw[y8]at D3 D0;have e2:fG F q p2 (r::l.drop (j+1))=match fT F q p2 r with
    |some p'=>fG F q p' (l.drop (j+1))
    |none=>((fG F q p2 (l.drop (j+1))).1,r::(fG F q p2 (l.drop (j+1))).2):=rfl
   rw[e2]at D3 D0;clear e2 y8;have MX:K.length<X.length:=by omega
   have jK:∀Y,Y=X.set K.length r->fT F q p2 r=none->J (l.length-(j+1)) (VU q p2 Y (K.length+1) (j+1) l.length):=fun Y hY hn=>hJ _ _ ⟨j+1,Y,K++[r],p2,aJ,rfl,by rw[hY,List.length_set];exact H5,by
    rw[hY,gD];show List.take (K.length+1) _=_;rw[mR,O4 MX,List.take_set_of_le (fH _),y9];rfl,by rw[hY,List.drop_set_of_lt (by omega)];exact q8,by simp;omega,Td,by rw[hn]at D3;exact D3,by rw[hn]at D0;rw[I2];exact D0,by simp⟩
   have CR:∀p3,fT F q p2 r=some p3->J (l.length-(j+1)) (VU q p3 X K.length (j+1) l.length):=fun p3 hn=>hJ _ _ ⟨j+1,X,K,p3,aJ,rfl,H5,y9,q8,by omega,(ZhG hq Td (fW r (dL tC)) hn).1,by rw[hn]at D3;exact D3,by rw[hn]at D0;exact D0,rfl⟩
   clear hJ;have kH:j<X.length:=by omega
   have Dh:K.length<l.length:=by omega
   have Dg:(iX X)[K.length]?=some (.i (X[K.length]:Nat)):=Zho (bC MX);have bU:=ZpY (X:=X) (w:=K.length) (r:=r);simp[VU,gL,lR,bK,laid,aJ,hg,cU];refine xQ (gF:=[.ptr (.par 0) 0,.pv (.i r)]) (B:=laid 0 (bK q p2 1)) (fs:=[.ptr (.par 1) 0]) (cs:=[]) 28 [.par 1,.par 2] ?_ rfl rfl ?_ ?_ ?_ hC ?_
   .rfl
   .simp[bK,laid]
   .rfl
   .rfl
   rintro r0 B0 ⟨rfl,rfl⟩;refine⟨rfl,by simp[bK,laid],?_⟩;cases yP:fT F q p2 r with
   |none=>
    have aB:=jK _ rfl yP;simp[bK,laid,hw,sN,Dh,↓Dg,bU,cU,aP,setAt];refine⟨_,_,aG,Sub.mk ?_ ?_,aB⟩
    .simp[lR]
    .simp[gL,bK,laid]
   |some p3=>
    have aB:=CR p3 yP;simp[bK,laid,hw];refine⟨_,_,aG,Sub.mk ?_ ?_,aB⟩
    .simp[lR]
    .simp[gL,bK,laid]
  .have he:j=l.length:=by omega
   subst he;rw[List.drop_length]at D3 D0;have Sx:p2=xG.1:=D3;have Sw:K=xG.2:=by rw[<-D0];simp[fG]
   clear hJ D3 D0;have RM:K.length<=l.length:=by omega
   have IQ:K.length+(l.length-K.length)=l.length:=by omega
   have jJ:aS (iX X) K.length (List.replicate (l.length-K.length) (PV.i 0))=iX (K++List.replicate (l.length-K.length) 0):=by
    unfold aS iX;rw[List.length_replicate,IQ,List.drop_eq_nil_of_le (by simp;omega),tG,<-List.map_take,y9,mH,List.map_replicate];rfl
   simp[-aS,VU,gL,lR,bK,laid,aP,RM,IQ,HU,H5,jJ];rw[<-hR,<-Sx,<-Sw];exact⟨rfl,K++List.replicate (l.length-K.length) 0,by simp,by simp[gL,bK,laid]⟩
section
attribute [local simp] aY AS.cH AV.cH AV.aY aK.cH AS.tidy AS.e9
def Qu.O6 (q:Qu)(k:Nat):List Nat:=((List.range q.rs.length).take k).flatMap fun i=>List.replicate (q.run i).hours.toNat i
theorem Qu.Zww {q:Qu}{k:Nat}(hk:k<q.rs.length):q.O6 (k+1)=q.O6 k++List.replicate (q.run k).hours.toNat k:=by
 have:(List.range q.rs.length)[k]?=some k:=by rw[List.getElem?_range hk]
 unfold Qu.O6;rw[OD this,List.flatMap_append];simp
theorem Qu.ZwI {q:Qu}(hq:q.ok):∀k,k<=q.rs.length->(q.O6 k).length<=40*k
 |0,_=>by simp[Qu.O6]
 |k+1,hk=>by
  have h1:=Qu.ZwI hq k (by omega);obtain⟨r,hr⟩:∃r,q.rs[k]?=some r:=⟨q.rs[k],bC (by omega)⟩;have h2:=hq.h r (dL hr);have h3:q.run k=r:=by simp[Qu.run,hr]
  rw[Qu.Zww (by omega),gD,List.length_replicate,h3];omega
theorem Qu.Zw6 {q:Qu}:q.O6 q.rs.length=q.JL:=by
 unfold Qu.O6 Qu.JL;rw[fP (by simp)]
def Zg (q:Qu):Option (List (List Int))->AV->List (Site×aK)->Prop
 |none,x,B=>x=.pv (.bM [.eW,.bool false])/\B=[]
 |some p,x,B=>x=.bM [.ptr (.ret 0) 0,.pv (.bool true)]/\B=[(.ret 0,.cells [.pv (.aE false 1 (q.ms.map iD)),.pv (.aE false 3 (q.rs.map Rq.pv)),.vec (.ret 1) 4 0 p.length]),(.ret 1,.arr 180 4 (jQ p))]
def BQ (q:Qu)(p:List (List Int))(left:List Nat):AS:=⟨[(4,.ptr (.loc 10 0) 0),(5,.vec (.loc 25 0) 1 0 left.length)],[(.loc 25 0,.arr 3 1 (iX left)),(.loc 10 0,.cells [.pv (.aE false 1 (q.ms.map iD)),.pv (.aE false 3 (q.rs.map Rq.pv)),.vec (.loc 43 0) 4 0 p.length]),(.loc 43 0,.arr 180 4 (jQ p))]⟩
theorem ZX {F:Nat}(hF:407<F)(q:Qu)(hq:q.ok):cN prog 92 [.pv q.pv] [] (Zg q (q.DX F)):=by
 have hqr:=hq.r;refine cE L92 ?_;obtain⟨xG,jB⟩:∃z,z=q.DX F:=⟨_,rfl⟩;rw[<-jB];generalize hR:Zg q xG=R;simp[L92,Qu.pv];refine eP (fun n τ=>∃k:Nat,k<=q.rs.length/\n=q.rs.length-k/\τ=⟨[(4,.ptr (.loc 10 0) 0),(5,.vec (.loc 25 0) 1 0 (q.O6 k).length),(12,.pv (.aE false 3 (q.rs.map Rq.pv))),(13,.pv (.i q.rs.length)),(14,.pv (.i k))],[(.loc 25 0,.arr 3 1 (iX (q.O6 k))),(.loc 10 0,.cells [.pv (.aE false 1 (q.ms.map iD)),.pv (.aE false 3 (q.rs.map Rq.pv)),.pv (.emp (some true))])]⟩)
  ⟨q.rs.length,⟨[(4,.ptr (.loc 10 0) 0),(5,.vec (.loc 25 0) 1 0 0),(12,.pv (.aE false 3 (q.rs.map Rq.pv))),(13,.pv (.i q.rs.length)),(14,.pv (.i 0))],[(.loc 25 0,.arr 3 1 []),(.loc 10 0,.cells [.pv (.aE false 1 (q.ms.map iD)),.pv (.aE false 3 (q.rs.map Rq.pv)),.pv (.emp (some true))])]⟩,Sub.trans' (Sub.mk (by simp[AS.cR]) (by simp[AS.cR])) (cR 25 3 1 5 rfl (by decide)),0,gY _,rfl,by simp[Qu.O6,iX]⟩ ?_
 rintro J hJ n τ ⟨k,hk,rfl,rfl⟩;have T2:=Qu.ZwI hq k hk;by_cases aJ:k<q.rs.length
 .obtain⟨r,hr⟩:∃r,q.rs[k]?=some r:=⟨q.rs[k],bC aJ⟩;have dG:q.run k=r:=by simp[Qu.run,hr]
  have hh:=hq.h r (dL hr);have hg:(q.rs.map Rq.pv)[k]?=some (.agg [.i r.hours,.i r.ready,.aE false 1 (r.on.map PV.bool)]):=by rw[bX,hr];rfl
  have hw:=jE (k:=k) (by omega);have aG:q.rs.length-(k+1)<q.rs.length-k:=by omega
  have aB:=hJ _ _ ⟨k+1,aJ,rfl,rfl⟩;have iG:=Qu.Zww aJ;rw[dG]at iG;obtain⟨c,hc⟩:∃c:Nat,r.hours=c:=⟨r.hours.toNat,by omega⟩;rw[hc]at iG hg;rw[H9]at iG;have Su:=Zpy k c (by omega);have HU:(iX (q.O6 k)).length=(q.O6 k).length:=Zhn;have PS:(q.O6 k).length+c<=1000000:=by omega
  have hnv:iX (q.O6 k++List.replicate c k)=iX (q.O6 k)++List.replicate c (.i k):=by simp[iX]
  clear hJ jB;generalize q.O6 (k+1)=U2 at *;subst iG;generalize q.O6 k=U1 at *;generalize hTV:iX U1=TV at *;simp[aJ,↓hg];refine .inl (cP [.loc 21 0] [.aE false 1 [.i k],.i c] rfl ?_ Su ?_)
  .simp[aM]
  simp[aM,aP,PS,HU,hw];refine⟨_,_,aG,Sub.mk ?_ ?_,aB⟩
  .simp
  .simp[hnv]
 .have he:k=q.rs.length:=by omega
  subst he;rw[Qu.Zw6]at T2 ⊢;clear hJ;have hu:=oE (q:=q);have MW:tR F q 41 [] q.JL=xG:=jB.symm;clear jB;generalize q.JL=U at *;simp;refine eP (fun n τ=>∃(p:List (List Int)) (left:List Nat),PW q p/\left.length<=1000/\(∀r∈left,r<q.rs.length)/\n+p.length=41/\tR F q n p left=xG/\τ=BQ q p left)
   ⟨41,BQ q [] U,Sub.trans' (Sub.mk (by simp[AS.lY]) (by simp[AS.lY,jQ])) (lY 43 180 4 (s:=.loc 10 0) (cs:=[.pv (.aE false 1 (q.ms.map iD)),.pv (.aE false 3 (q.rs.map Rq.pv)),.pv (.emp (some true))]) 2 rfl rfl (by decide)),[],U,PW.nil,by omega,hu,rfl,MW,rfl⟩ ?_
  clear MW hu T2;rintro J hJ n τ ⟨p,left,hp,yN,fW,hn,eO,rfl⟩;have lZ:=hp.l;cases left with
  |nil=>
   have Aw:xG=some p:=by rw[<-eO];cases n<;>rfl
   subst Aw;simp[BQ];refine⟨[.loc 10 0,.loc 43 0],?_⟩;simp;rw[<-hR];simp[Zg]
  |cons r0 rest=>
   obtain⟨n',rfl⟩:∃n',n=n'+1:=⟨n-1,by omega⟩;have hL:tR F q (n'+1) p (r0::rest)=if p.length=40 then none else tR F q n' (fG F q (p++[fC]) (r0::rest)).1 (fG F q (p++[fC]) (r0::rest)).2:=rfl;rw[hL]at eO;clear hL;by_cases RV:p.length=40
   .rw[if_pos RV]at eO;subst eO;simp[BQ,RV];refine⟨[],?_⟩;simp;rw[<-hR];exact⟨rfl,rfl⟩
   .rw[if_neg RV]at eO;have Wi:¬((p.length:Int)=40):=by omega
    have Ba:=hp.more (q:=q) (by omega);have ID:=Zqx hF q hq (p++[fC]) Ba (r0::rest) yN fW;obtain⟨k1,k2,k3,k4⟩:=Mg (F:=F) hq (r0::rest) (p++[fC]) Ba fW;have hp6:p.length+1<=1000000:=by omega
    have hpv:jQ (p++[fC])=jQ p++[.agg [.i (-1),.i (-1),.i (-1),.i (-1)]]:=by simp[jQ,rowP,fC]
    have Tb:(jQ p).length=p.length:=by simp[jQ]
    have aB:=hJ n' _ ⟨(fG F q (p++[fC]) (r0::rest)).1,(fG F q (p++[fC]) (r0::rest)).2,k1,by omega,fun r h=>fW r (k3 r h),by rw[k2];simp;omega,eO,rfl⟩;clear hJ eO k1 k2 k3 k4;generalize fG F q (p++[fC]) (r0::rest)=D at *;obtain⟨p2,K⟩:=D;simp only at aB ID;simp[BQ,Wi];refine cQ [] [] ZuS ?_;simp[aM,aP,hp6,Tb];refine xQ (gF:=[.vec (.par 0) 1 0 (r0::rest).length,lR]) (B:=laid 0 (gL q (p++[fC]) (r0::rest))) (fs:=[]) (cs:=[]) 49 [.loc 25 0,.loc 10 0,.loc 43 0] ?_ rfl rfl ?_ ?_ ?_ ID ?_
    .rfl
    .simp[gL,bK,laid,hpv]
    .rfl
    .simp[lR]
    rintro x B0 ⟨rfl,X,hX,rfl⟩;refine⟨rfl,by simp[gL,bK,laid],?_⟩;have hXK:(iX X).take K.length=iX K:=by rw[iX,iX,<-List.map_take,hX]
    simp[gL,bK,laid];refine⟨_,_,Nat.lt_succ_self n',Sub.trans' (Sub.mk ?_ ?_) (Wt (.loc 25 0) (e:=3) (n:=1) (xs:=iX X) K.length (iX K) rfl hXK),aB⟩
    .simp
    .simp
end
end Go.Proofs.YtlllhbmbnjnoiaaGreatDoor.Qn
