import Derived.Test.YtlllhbmbnjnoiaaGreatDoorP0
import Derived.Test.YtlllhbmbnjnoiaaGreatDoorP2
import Derived.Test.YtlllhbmbnjnoiaaGreatDoorP1
import Derived.Test.YtlllhbmbnjnoiaaGreatDoorProg
set_option linter.unusedSimpArgs false
set_option linter.unusedVariables false
set_option maxHeartbeats 32000000
set_option maxRecDepth 100000
namespace Go.Proofs.YtlllhbmbnjnoiaaGreatDoor
open Go.RowKit
open Tryz
theorem Ec:yZ prog (pG P1) L82.code:=Fy L82_ok L82_tab
structure mU (H:Int->Bool)(hs:List (PV×PV)):Prop where
 k:zZ kI hs=true
 f:∀n:Int,(eX (.i n) hs).getD (.bool false)=.bool (H n)
def numOf:PV->Int
 |.agg (.int _ n::_)=>n
 |_=>0
def gX (s:Site):aJ:=.cells [.ptr s 0]
noncomputable def D0 (b:Bk)(bad:List Int)(es hs:List (PV×PV))(is:Bool):List aJ:=[.loop (fQ prog 82 0) [42] 64 [(3,.ptr (.par 2) 0),(7,.ptr (.par 1) 0)] none,
 .cells [.pv (.bool is)],.cells [.mp (.par 3)],.map hs,gX (.par 5),.cells (aW b (.par 6) (fZ bad)),.map es]
attribute [simp] AS.exp jT aJ.iR AV.map AV.iM rE dO Site.uJ aJ.dC AV.dC AV.gW aU cO AS.lT eZ gG bX oW kA mQ gI q9
attribute [simp] aJ.bG Site.fP
noncomputable def M5 (b:Bk)(bad:List Int)(es hs:List (PV×PV))(H:Int->Bool)(hH:mU H hs):Cons prog where
 m:=7
 S:=Bool
 X:=D0 b bad es hs
 step is x:=(is||H (numOf x),true)
 good x:=∃c:Ct,x=c.pv
 live _:=True
 m0:=by omega
 len _:=rfl
 cl c:=by
  intro bx hb;simp only[D0,jN,List.not_mem_nil,or_false]at hb;rcases hb with rfl|rfl|rfl|rfl|rfl|rfl|rfl
  .rfl
  .rfl
  .rfl
  .rfl
  .rfl
  .simp[aW,Site.lt,I6]
  .rfl
 goes _ _ _ _ _:=trivial
 sK c x hc hx:=by
  obtain⟨y,rfl⟩:=hx;have oO:yZ prog (pG P1) (.vE 64 (.t 41) (fQ prog 82 0) Y82_0a Y82_0b [42]):=Ec.2.2.1.2.2.2.1.2.2.2.1.2;have hf:=hH.f y.num;have hk:=hH.k;refine XS mixed oO.1 oO.2.1 rfl rfl (by simp) rfl ?_;cases c
  all_goals
   simp[-getElem?_pos,Y82_0a,Y82_0b,D0,laid,qK,Ct.pv,hk,hf,numOf,gX,aW,AE];exact⟨[],[.par 1,.par 2,.par 3,.par 4,.par 5,.par 6],rfl,rfl,by simp[aY,I6],rfl,by simp[aY,V2]⟩
theorem Zlb {b:Bk}{bad:List Int}{es hs:List (PV×PV)}{H:Int->Bool}{hH:mU H hs}:∀(l:List Ct) (c:Bool),(M5 b bad es hs H hH).run c (lR l)=(c||l.any (fun o=>H o.num),true)
 |[],c=>by
  show(c,true)=_;simp
 |x::l,c=>by
  show(M5 b bad es hs H hH).run (c||H x.num) (lR l)=_;rw[Zlb l,List.any_cons,Bool.or_assoc]
theorem Ff {b:Bk}(hb:b.ok){bad:List Int}{n:Int}(h:n∈b.held bad):n∈b.nums:=by
 obtain⟨c,hc,e,_⟩:=(KA hb).1 h;exact(s8 hb).2 ⟨c,hc,e⟩
def kK (b:Bk)(bad:List Int)(k:Nat):List (PV×PV):=nR id (fun n=>.bool ((b.held bad).contains n)) (b.nums.take k)
theorem Gb {l:List Int}{n:Int}:(l.find? fun c=>decide (id c=n))=if n∈l then some n else none:=by
 induction l with
 |nil=>rfl
 |cons x l ih=>
  rw[List.find?_cons];by_cases h:x=n
  .subst h;rw[show decide (id x=x)=true from by simp,if_pos (by simp)]
  .rw[show decide (id x=n)=false from by simpa using h,ih];by_cases hm:n∈l
   .rw[if_pos hm,if_pos (by simp[hm])]
   .rw[if_neg hm,if_neg (by simp[hm];omega)]
theorem Gm (b:Bk)(bad:List Int)(k:Nat):mU (fun n=>(b.nums.take k).contains n&&(b.held bad).contains n) (kK b bad k):=by
 refine⟨NY,fun n=>?_⟩;unfold kK;rw[JV,Gb];by_cases h:n∈b.nums.take k
 .rw[if_pos h,jB.2 h,Bool.true_and];rfl
 .rw[if_neg h];cases hc:(b.nums.take k).contains n
  .rfl
  .exact absurd (jB.1 hc) h
theorem TC {b:Bk}(hb:b.ok)(bad:List Int):mU (fun n=>(b.held bad).contains n) (kK b bad b.nums.length):=by
 have h:=Gm b bad b.nums.length;refine⟨h.k,fun n=>?_⟩;rw[h.f n,nF];cases hc:(b.held bad).contains n
 .simp
 .rw[jB.2 (Ff hb (jB.1 hc))];rfl
theorem Zqs {b:Bk}{bad:List Int}{k:Nat}{n:Int}(h:b.nums[k]?=some n):mK (.i n) (.bool ((b.held bad).contains n)) (kK b bad k)=kK b bad (k+1):=by
 unfold kK;rw[Gt (fun x hx=>?_),mJ,h]
 .unfold nR;rw[mF];rfl
 .obtain⟨i,hi⟩:=iJ.1 hx;rw[mG]at hi;split at hi
  .rename_i qO;obtain⟨h1,e1⟩:=bZ.1 hi;obtain⟨h2,e2⟩:=bZ.1 h
   have:=Q2.1 (TH (b:=b)) i k h1 h2 qO
   rw[e1,e2]at this;show x≠n;omega
  .cases hi
theorem ZlC {b:Bk}(hb:b.ok){k:Nat}{n:Int}(h:b.nums[k]?=some n)(H:Int->Bool):((b.qX (b.get n).src (b.get n).day n).any fun o=>(b.nums.take k).contains o.num&&H o.num)=(b.qX (b.get n).src (b.get n).day n).any fun o=>H o.num:=by
 rw[qS,oU,oU];constructor
 .rintro⟨o,ho,h1⟩;rw[dJ]at h1;exact⟨o,ho,h1.2⟩
 .rintro⟨o,ho,h1⟩;refine⟨o,ho,?_⟩;rw[h1,Bool.and_true,jB];obtain⟨h2,h3⟩:=(AD hb).1 ho;unfold Bk.pT at h3;simp only[dJ,decide_eq_true_eq]at h3;obtain⟨i,hi⟩:=iJ.1 ((s8 hb).2 ⟨o,h2,rfl⟩);rw[iJ];refine⟨i,?_⟩;obtain⟨q1,e1⟩:=bZ.1 hi;obtain⟨q2,e2⟩:=bZ.1 h;rw[mG,if_pos,hi];rcases Nat.lt_trichotomy i k with qO|qO|qO
  .exact qO
  .subst qO;rw[e1]at e2;omega
  .have:=Q2.1 (TH (b:=b)) k i q2 q1 qO
   rw[e1,e2]at this;omega
theorem ZiD {b:Bk}(hb:b.ok){bad:List Int}{k:Nat}{n:Int}(h:b.nums[k]?=some n):(((b.item (b.get n).src).gU||(b.qX (b.get n).src (b.get n).day n).any fun o=>(b.nums.take k).contains o.num&&(b.held bad).contains o.num)&&!bad.contains n)=(b.held bad).contains n:=by
 rw[Zla hb (dK h),ZlC hb h]
theorem Dj {a b c d:AV}{Z:List AV}{n:Nat}:(a::b::c::d::Z)[4+n]?=Z[n]?:=by rw[Nat.add_comm];rfl
def VF (b:Bk)(bad:List Int)(es:List (PV×PV))(k:Nat):AS:=⟨[(0,.ptr (.par 0) 0),(3,.ptr (.loc 3 0) 0),(13,.pv (.aF false 1 (b.nums.map aN))),(14,.pv (.i b.nums.length)),(15,.pv (.i k))],
 [(.loc 9 0,.map (kK b bad k)),(.loc 3 0,.cells [.mp (.loc 9 0)]),(.par 0,.cells (aW b (.par 1) (fZ bad))),(.par 1,.map es)]⟩
theorem Xr (b:Bk)(hb:b.ok)(bad:List Int)(es:List (PV×PV))(kZ:xD b es):cR prog 82 [.ptr (.par 0) 0] (laid 0 (kE b bad es)) (fun r B=>r=.mp (.ret 0)/\B=(.ret 0,.map (kK b bad b.nums.length))::laid 0 (kE b bad es)):=by
 have hlen:=WW (b:=b);refine N7 [.loc 9 0,.par 0,.par 1] L82 ?_;intro R hR;simp[L82,laid,kE,aW,AE];refine eO (fun n τ=>∃k:Nat,k<=b.nums.length/\n=b.nums.length-k/\τ=VF b bad es k) ⟨b.nums.length,VF b bad es 0,Sub.mk (by simp) (by simp[aW,kK,nR]),0,gV _,rfl,rfl⟩ ?_;rintro J hJ n τ ⟨k,hk,rfl,rfl⟩;by_cases aI:k<b.nums.length
 .obtain⟨x,hx⟩:∃x,b.nums[k]?=some x:=⟨b.nums[k],bB aI⟩;have K0:=dK hx;have oM:(b.nums.map aN)[k]?=some (.i x):=by rw[bW,hx];rfl
  have hw:=bN (k:=k) (by omega);have aG:b.nums.length-(k+1)<b.nums.length-k:=by omega
  obtain⟨rT,nV⟩:=U9 hb K0;have mI:=kZ.f x;rw[if_pos K0]at mI;have S8:=kZ.k;have jL:=wW hb rT;have aB:=hJ _ _ ⟨k+1,aI,rfl,rfl⟩;have nC:=Zqs (bad:=bad) hx;have bT:=ZiD hb (bad:=bad) hx;have QB:=(Gm b bad k).k;have IE:=ZlC hb hx (fun n=>(b.held bad).contains n);have dF:=fun is:Bool=>Zlb (b:=b) (bad:=bad) (es:=es) (hH:=Gm b bad k) (b.qX (b.get x).src (b.get x).day x) is
  have hit:=fun is:Bool=>Ey (M5 b bad es (kK b bad k) _ (Gm b bad k)) b hb bad es kZ 4 5 6 (fun c _=>⟨rfl,rfl⟩) (fun c _=>rfl) (b.get x).src (b.get x).day x is trivial (fun z hz=>⟨z,rfl⟩)
  simp only[dF,IE]at hit;rw[ZiD hb hx]at bT;have HH:=Zla hb (bad:=bad) K0;generalize hAN:((b.qX (b.get x).src (b.get x).day x).any fun n=>(b.held bad).contains n.num)=an at *;generalize b.get x=y at *;obtain⟨yn,yi,ys,yd,yv,⟨yl,yh⟩⟩:=y;simp only at nV jL hit HH;subst nV;unfold Ct.pv at mI;obtain⟨si,rfl⟩:∃si:Nat,ys=si:=⟨ys.toNat,by omega⟩;obtain⟨nn,rfl⟩:∃nn:Nat,yn=nn:=⟨yn.toNat,by omega⟩;have K6:si<b.items.length:=by omega
  have M0:nn<1000:=by omega
  obtain⟨z,hz⟩:∃z,b.items[si]?=some z:=⟨b.items[si],bB K6⟩;have pY:(b.items.map It.pv)[si]?=some (.agg [.i z.dR,.bool z.gU,.i z.val.lo,.i z.val.hi]):=by rw[bW,hz];rfl
  have HB:b.item (si:Int)=z:=by unfold Bk.item;rw[H7,hz];rfl
  rw[HB]at HH;have QF:=hit z.gU;clear hit;simp[VF,aW,aI,↓oM,S8,mI,aT,↓pY,AE,-aU];refine cM [.ptr (.par 0) 0,.pv (.i si),.pv (.i yd),.pv (.i nn)] (laid 0 (kE b bad es)) 41 [.par 0,.par 1] (by simp[laid,kE,aW,aT,V2,I6]) (AZ b bad es si yd nn) (by simp[laid,kE,aW,I6]) ?_;simp[laid,kE,aW,V2,OK,-aU];refine WY [.loc 64 0,.loc 7 0,.loc 3 0,.loc 9 0,.loc 41 0,.par 0,.par 1] [(3,.ptr (.loc 3 0) 0),(7,.ptr (.loc 7 0) 0)] (gf:=155) (fs:=[]) (cs:=[.ptr (.loc 41 0) 0,.pv (.ref [.i nn]),.pv (.ref [.i si]),.pv (.ref [.i yd])]) ?_ ?_ rfl rfl ?_ ?_ ?_ QF ?_
  .rfl
  .simp
  .simp[M5,D0,laid,aW,V2,I6,AE,gX]
  .rfl
  .rfl
  rintro r B' ⟨rfl,rfl⟩;refine⟨rfl,?_,?_⟩
  .exact fun p hp=>WR (n:=7) (L:=D0 b bad es (kK b bad k) (z.gU||an)) (by simp[D0]) ((M5 b bad es (kK b bad k) _ (Gm b bad k)).cl (z.gU||an)) p hp
  refine⟨_,_,_,_,_,rfl,?_⟩;have tE:(z.gU||an)=true->(b.held bad).contains (nn:Int)=!bad.contains (nn:Int):=fun h=>by rw[HH,h,Bool.true_and]
  have QN:(z.gU||an)=false->(b.held bad).contains (nn:Int)=false:=fun h=>by rw[HH,h,Bool.false_and]
  generalize Db:(z.gU||an)=is at *;have D8:=ZhQ (l:=bad) M0;cases is
  .rw[QN rfl]at nC;simp[M5,D0,laid,kX,aW,AE,V2,gX,-aU,QB,nC,hw];exact⟨_,_,aG,Sub.mk (by simp) (by simp[aW]),aB⟩
  .have hv:=tE rfl;cases ET:bad.contains (nn:Int)
   .rw[ET]at hv D8;simp only[Bool.not_false]at hv;rw[hv]at nC;simp[M5,D0,laid,kX,aW,AE,V2,gX,-aU,cV,M0,Dj,D8,QB,nC,hw];exact⟨_,_,aG,Sub.mk (by simp) (by simp[aW]),aB⟩
   .rw[ET]at hv D8;simp only[Bool.not_false,Bool.not_true]at hv;rw[hv]at nC;simp[M5,D0,laid,kX,aW,AE,ZaR,V2,gX,-aU,Db,cV,aP,M0,Dj,D8,QB,nC,hw];exact⟨_,_,aG,Sub.mk (by simp[VF]) (by simp[VF,aW,AE]),aB⟩
 .have he:k=b.nums.length:=by omega
  subst he;clear hJ;simp[VF,aW,I6,V2,rE];rw[<-hR];exact⟨rfl,by simp[laid,kE,aW]⟩
section
def B6 (l:List Int)(k:Nat):Bool:=match l[k]? with
 |some n=>iX n 1 999&&(decide (k=0)||decide ((l[k-1]?).getD 0<n))
 |none=>true
def U0 (l:List Int):Bool:=(List.range l.length).all (B6 l)
theorem Zj {l:List Int}{k:Nat}(hk:k<l.length)(h:B6 l k=false):U0 l=false:=by
 unfold U0;rw[List.all_eq_false];exact⟨k,List.mem_range.2 hk,by simp[h]⟩
theorem Zrk {l:List Int}(h:∀k,k<l.length->B6 l k=true):U0 l=true:=by
 unfold U0;rw[rC];exact fun k hk=>h k (List.mem_range.1 hk)
def woR (b:Bk)(bad:List Int)(r:AV)(B:List (Site×aJ)):Prop:=
 (b.fault≠0/\r=.pv (.bL [.eU,.i b.fault])/\B=[])\/
 (b.fault=0/\U0 bad=false/\r=.pv (.bL [.eU,.i 2])/\B=[])\/
 (b.fault=0/\U0 bad=true/\∃es,xD b es/\r=.bL [.ptr (.ret 0) 0,.pv (.i 0)]/\B=[(.ret 0,.cells (aW b (.ret 1) (fZ bad))),(.ret 1,.map es)])
def Im (b:Bk)(bad:List Int)(es:List (PV×PV))(k:Nat):AS:=⟨[(1,.pv (.aF false 1 (bad.map aN))),(6,.ptr (.loc 12 0) 0),(18,.pv (.aF false 1 (bad.map aN))),(19,.pv (.i bad.length)),(20,.pv (.i k))],
 [(.loc 12 0,.cells (aW b (.loc 12 1) (fZ (bad.take k)))),(.loc 12 1,.map es)]⟩
theorem KS {a b c d:AV}{Z:List AV}{n:Nat}:(a::b::c::d::Z).take (4+n)=a::b::c::d::Z.take n:=by rw[Nat.add_comm];rfl
theorem MX {b c d:AV}{Z:List AV}{n:Nat}:(b::c::d::Z).drop (4+n)=Z.drop (n+1):=by rw[Nat.add_comm];rfl
theorem ZmY {Z:List AV}{n:Nat}{v:AV}(h:n<Z.length):Z.take n++v::Z.drop (n+1)=Z.set n v:=by rw[List.set_eq_take_append_cons_drop,if_pos h]
attribute [local simp] AS.exp jT aJ.iR AV.map AV.iM dO Site.uJ aJ.dC AV.dC AV.gW cO AS.lT eZ gG bX oW kA mQ gI q9
theorem Zmo (b:Bk)(hi:b.items.length<=1000)(hc:b.aA.length<=1000)(bad:List Int)(xJ:bad.length<=1000):cR prog 81 [.pv b.pv,.pv (.aF false 1 (bad.map aN))] [] (woR b bad):=by
 have hr:=Fa b hi hc;refine cE L81 ?_;generalize hR:woR b bad=R;simp[L81,Bk.pv];refine cL [.pv b.pv] [] 12 [] rfl hr ?_
 rintro r0 B0 (⟨h0,rfl,rfl⟩|⟨h0,es,kZ,rfl,rfl⟩)
 .refine⟨rfl,by simp,?_⟩;have hd:decide (b.fault=0)=false:=by simpa using h0
  simp[-decide_eq_true_eq,-decide_eq_false_iff_not,hd];refine⟨[],?_⟩;simp[aU,rE];rw[<-hR];exact .inl ⟨h0,rfl,rfl⟩
 refine⟨rfl,by simp[aW,FT,I6],?_⟩;simp[aW,FT,V2];refine eO (fun n τ=>∃k:Nat,k<=bad.length/\n=bad.length-k/\(∀j,j<k->B6 bad j=true)/\τ=Im b bad es k) ⟨bad.length,Im b bad es 0,Sub.mk (by simp) (by simp[aW]),0,gV _,rfl,(fun j hj=>by omega),rfl⟩ ?_;rintro J hJ n τ ⟨k,hk,rfl,hinv,rfl⟩;by_cases aI:k<bad.length
 .obtain⟨x,hx⟩:∃x,bad[k]?=some x:=⟨bad[k],bB aI⟩;have oM:(bad.map aN)[k]?=some (.i x):=by rw[bW,hx];rfl
  have hw:=bN (k:=k) (by omega);have aG:bad.length-(k+1)<bad.length-k:=by omega
  have cZ:B6 bad k=(iX x 1 999&&(decide (k=0)||decide ((bad[k-1]?).getD 0<x))):=by unfold B6;rw[hx]
  have herr:B6 bad k=false->∃outs,aU outs [.tm 4,.tm 5] R ⟨[(5,.pv (.i 2)),(4,.pv .eU)],[]⟩:=fun h=>⟨[],by
   simp[aU,rE];rw[<-hR];exact .inr (.inl ⟨h0,Zj aI h,rfl,rfl⟩)⟩
  have C9:=ZkN x;have iY:decide ((k:Int)<(bad.length:Int))=true:=by simp;omega
  simp[-decide_eq_true_eq,-decide_eq_false_iff_not,Im,aW,aI,↓oM];refine cG [.i x] C9 ?_;cases e1:iX x 1 999
  .rw[e1,Bool.false_and]at cZ;simp[-decide_eq_true_eq,-decide_eq_false_iff_not];refine⟨[],?_⟩;simp[aU,rE];rw[<-hR];exact .inr (.inl ⟨h0,Zj aI cZ,rfl,rfl⟩)
  rw[e1,Bool.true_and]at cZ;have X0:1<=x/\x<=999:=by unfold iX at e1;simp only[dJ,decide_eq_true_eq]at e1;exact e1
  obtain⟨nn,rfl⟩:∃nn:Nat,x=nn:=⟨x.toNat,by omega⟩;have M0:nn<1000:=by omega
  have jK:=Zq8 (l:=bad.take k) M0;have jS:bad.take (k+1)=bad.take k++[(nn:Int)]:=by rw[mJ,hx];rfl
  rw[<-jS,<-ZmY (by rw[ZhP];exact M0)]at jK;have hle:4+nn<=1003:=by omega
  have aB:=fun h:B6 bad k=true=>hJ _ _ ⟨k+1,aI,rfl,(fun j hj=>by
   rcases Nat.lt_succ_iff_lt_or_eq.1 hj with h'|h'
   .exact hinv j h'
   .subst h';exact h),rfl⟩
  by_cases hz:k=0
  .have aB:=aB (by rw[cZ,hz];rfl);subst hz;have G3:IntKind.i64.wrap 1=1:=rfl;simp only[List.take_zero,rX]at jK;simp[G3,-decide_eq_true_eq,-decide_eq_false_iff_not,cV,aP,M0,KS,MX,hle,jK,ZhP];exact⟨_,_,aG,Sub.mk (by simp) (by simp[aW]),aB⟩
  .obtain⟨j,CF⟩:∃j,j+1=k:=⟨k-1,by omega⟩;obtain⟨y,hy⟩:∃y,bad[j]?=some y:=⟨bad[j]'(by omega),bB _⟩;have HU:(bad.map aN)[j]?=some (.i y):=by rw[bW,hy];rfl
   have pW:IntKind.i64.wrap ((k:Int)-1)=(j:Int):=by rw[wrap64 (by omega)];omega
   have HL:decide ((0:Int)<(k:Int))=true:=by simp;omega
   have K7:0<k:=by omega
   have xH:j<bad.length:=by omega
   have Ar:B6 bad k=decide (y<(nn:Int)):=by
    rw[cZ,show k-1=j by omega,hy,decide_eq_false hz,Bool.false_or];rfl
   cases e2:decide (y<(nn:Int))
   .have e3:decide ((nn:Int)<=y)=true:=by simp at e2 ⊢;omega
    simp[-decide_eq_true_eq,-decide_eq_false_iff_not,K7,pW,↓HU,e3];refine⟨[],?_⟩;simp[aU,rE];rw[<-hR];exact .inr (.inl ⟨h0,Zj aI (by rw[Ar,e2]),rfl,rfl⟩)
   .have e3:decide ((nn:Int)<=y)=false:=by simp at e2 ⊢;omega
    have aB:=aB (by rw[Ar,e2]);simp[-decide_eq_true_eq,-decide_eq_false_iff_not,K7,pW,↓HU,e3,hw,cV,aP,M0,KS,MX,hle,jK,ZhP];exact⟨_,_,aG,Sub.mk (by simp) (by simp[aW]),aB⟩
 .have he:k=bad.length:=by omega
  subst he;clear hJ;simp[Im,aW];refine⟨[.loc 12 0,.loc 12 1],?_⟩;simp[aU,rE,I6,V2];rw[<-hR];refine .inr (.inr ⟨h0,Zrk hinv,es,kZ,rfl,?_⟩);simp[aW]
end
theorem Yy (l:List Int)(h0:l≠[])(hl:l.length<=1000000):cR prog 69 [.pv (.aF false 1 (l.map aN))] [] (fun r B=>r=.vec (.ret 0) 1 0 l.length/\B=[(.ret 0,.arr 3 1 (l.map aN))]):=by
 refine cB [.loc 7 0] L69 ?_;cases l with
 |nil=>exact absurd rfl h0
 |cons a l=>
  have h1:l.length+1<=1000000:=by simpa using hl
  have hm:(l.map aN).take l.length=l.map aN:=fO (by simp);simp[L69,dH,aP,h1,aU,rE,AS.exp,jT,aJ.iR,AV.map,dO,Site.uJ,aJ.dC,AV.dC,q9]
attribute [simp] oF aY AS.cD AV.cD AV.aY aJ.cD AS.tidy AS.b8
theorem ZqO:aD prog 69 [.aF false 1 []] (.aF false 1 []):=by
 refine cR.U8 ?_;refine cF [.loc 7 0] L69 ?_;simp[L69,dH,s7,aP,bY,B4];exact fun m v h=>AB h
theorem Zqj {X:List Int}{w:Nat}{r:Int}:(X.map aN).set w (.i r)=(X.set w r).map aN:=by rw[List.map_set];rfl
theorem Zf2 {α:Type}{l:List α}{k:Nat}{x:α}{p:α->Bool}(h:l[k]?=some x)(hp:p x=true)(hinv:∀(j:Nat) (y:α),j<k->l[j]?=some y->p y=false):l.findIdx? p=some k:=by
 obtain⟨aI,e⟩:=bZ.1 h;rw[JC];refine⟨aI,by rw[e];exact hp,fun j hj=>?_⟩
 have:=hinv j l[j] hj (bB (by omega))
 simp[this]
theorem Zb {α:Type}{l:List α}{p:α->Bool}(hinv:∀(j:Nat) (y:α),j<l.length->l[j]?=some y->p y=false):l.findIdx? p=none:=by
 rw[List.findIdx?_eq_none_iff];intro x hx;obtain⟨j,hj⟩:=iJ.1 hx;exact hinv j x (bZ.1 hj).1 hj
def G2:Option Nat->Int
 |some i=>i
 |none=>-1
theorem ZiJ {α:Type}{l:List α}{p:α->Bool}{i:Nat}(h:l.findIdx? p=some i):i<l.length/\l.take i=(l.take (i+1)).filter (fun n=>!p n):=by
 obtain⟨h1,h2,h3⟩:=JC.1 h;refine⟨h1,?_⟩;rw[mJ,bB h1,F2];have e:(Option.some l[i]).toList.filter (fun n=>!p n)=[]:=by simp[h2]
 rw[e,uG,List.filter_eq_self.2];intro x hx;obtain⟨j,hj⟩:=iJ.1 hx;rw[mG]at hj;split at hj
 .rename_i zN;obtain⟨q1,q2⟩:=bZ.1 hj
  have:=h3 j zN
  rw[q2]at this;simpa using this
 .cases hj
theorem Zf4 {α:Type}{l:List α}{p:α->Bool}(h:l.findIdx? p=none):l.filter (fun n=>!p n)=l:=by
 rw[List.filter_eq_self];intro x hx
 have:=List.findIdx?_eq_none_iff.1 h x hx
 simp[this]
def eR (hs:List (PV×PV))(m:Nat):List aJ:=[.cells [.mp (.par (m+1))],.map hs]
theorem LA (H:Int->Bool)(hs:List (PV×PV))(hH:mU H hs)(n:Int)(_:True):cR prog 84 [.pv (.i n),.ptr (.par 0) 0] (laid 0 (eR hs 0)) (fun r B=>r=.pv (.bool (!H n))/\B=laid 0 (eR hs 0)):=by
 have hf:=hH.f n;have hk:=hH.k;refine cB [.par 0,.par 1] L84 ?_;simp[L84,eR,laid,hf,hk]
theorem ixH (H:Int->Bool)(hs:List (PV×PV))(hH:mU H hs)(l:List Int)(hl:l.length<=1000)(fU:∀n∈l,True):
  cR prog 123 [.vec (.par 0) 1 0 l.length,(.fn 84 [] [.ptr (.par 1) 0])] (laid 0 (.arr 3 1 (l.map aN)::eR hs 1)) (fun x B=>x=.pv (.i (G2 (l.findIdx? (fun n=>!H n))))/\B=laid 0 (.arr 3 1 (l.map aN)::eR hs 1)):=by
 refine N7 [.par 0,.par 1,.par 2] L123 ?_;intro R hR;simp[L123,eR,laid];refine eO (fun n τ=>∃k:Nat,k<=l.length/\n=l.length-k/\(∀(j:Nat) (y:Int),j<k->l[j]?=some y->(fun n=>!H n) y=false)/\τ=⟨[(0,.vec (.par 0) 1 0 l.length),(1,(.fn 84 [] [.ptr (.par 1) 0])),(7,.pv (.i l.length)),(8,.pv (.i k))],laid 0 (.arr 3 1 (l.map aN)::eR hs 1)⟩)
  ⟨l.length,⟨[(0,.vec (.par 0) 1 0 l.length),(1,(.fn 84 [] [.ptr (.par 1) 0])),(7,.pv (.i l.length)),(8,.pv (.i 0))],laid 0 (.arr 3 1 (l.map aN)::eR hs 1)⟩,Sub.mk (by simp) (by simp[eR,laid]),0,gV _,rfl,(fun j y hj=>by omega),rfl⟩ ?_
 rintro J hJ n τ ⟨k,hk,rfl,hinv,rfl⟩;by_cases aI:k<l.length
 .obtain⟨r,hx⟩:∃x,l[k]?=some x:=⟨l[k],bB aI⟩;have hg:(l.map aN)[k]?=some (.i r):=by rw[bW,hx];rfl
  have hw:=bN (k:=k) (by omega);have aG:l.length-(k+1)<l.length-k:=by omega
  have hC:=LA H hs hH r (fU r (dK hx));have eJ:(fun n=>!H n) r=false->J (l.length-(k+1)) _:=fun hn=>hJ _ _ ⟨k+1,aI,rfl,(fun j y hj hy=>by
   rcases Nat.lt_succ_iff_lt_or_eq.1 hj with h|h
   .exact hinv j y h hy
   .subst h;rw[hx]at hy;cases hy;exact hn),rfl⟩
  clear hJ;simp[eR,laid,aI,↓hg,cV];refine cM [.pv (.i r),.ptr (.par 0) 0] (laid 0 (eR hs 0)) 16 [.par 1,.par 2] (by simp[eR,laid]) hC (by simp[eR,laid]) ?_;cases yK:(fun n=>!H n) r with
  |false=>
   have aB:=eJ yK;have S9:(!H r)=false:=yK;simp[eR,laid,hw,S9];refine⟨_,_,aG,Sub.mk ?_ ?_,aB⟩
   .simp
   .simp[eR,laid]
  |true=>
   have hf:=Zf2 hx yK hinv;have S9:(!H r)=true:=yK;simp[eR,laid,S9];rw[<-hR,hf];simp[eR,laid,G2]
 .have he:k=l.length:=by omega
  subst he;have hf:=Zb hinv;clear hJ;simp[eR,laid];rw[<-hR,hf];simp[eR,laid,G2]
theorem Vz (H:Int->Bool)(hs:List (PV×PV))(hH:mU H hs)(l:List Int)(hl:l.length<=1000)(fU:∀n∈l,True):
  cR prog 83 [.vec (.par 0) 1 0 l.length,(.fn 84 [] [.ptr (.par 1) 0])] (laid 0 (.arr 3 1 (l.map aN)::eR hs 1)) (fun x B=>x=.vec (.par 0) 1 0 (l.filter (fun n=>!(fun n=>!H n) n)).length/\∃X:List Int,X.take (l.filter (fun n=>!(fun n=>!H n) n)).length=l.filter (fun n=>!(fun n=>!H n) n)/\B=laid 0 (.arr 3 1 (X.map aN)::eR hs 1)):=by
 have hC:=ixH H hs hH l hl fU;refine N7 [.par 0,.par 1,.par 2] L83 ?_;intro R hR;simp[L83,eR,laid];refine cM [.vec (.par 0) 1 0 l.length,(.fn 84 [] [.ptr (.par 1) 0])] (laid 0 (.arr 3 1 (l.map aN)::eR hs 1)) 10 [.par 0,.par 1,.par 2] (by simp[eR,laid]) hC (by simp[eR,laid]) ?_;cases hx:l.findIdx? (fun n=>!H n)with
 |none=>
  have qB:=Zf4 hx;simp[eR,laid,G2];rw[<-hR,qB];exact⟨rfl,l,by simp,by simp[eR,laid]⟩
 |some i=>
  obtain⟨hi,PF⟩:=ZiJ hx;have pW:=bN (k:=i) (by omega);have M1:¬((i:Int) = -1):=by omega
  clear hC;simp[eR,laid,G2,pW,M1];refine eO (fun n τ=>∃(j:Nat) (X K:List Int),j<=l.length/\n=l.length-j/\X.length=l.length/\K=(l.take j).filter (fun n=>!(fun n=>!H n) n)/\X.take K.length=K/\X.drop j=l.drop j/\K.length<j/\τ=⟨[(0,.vec (.par 0) 1 0 l.length),(1,(.fn 84 [] [.ptr (.par 1) 0])),(5,.pv (.i K.length)),(6,.pv (.i j))],laid 0 (.arr 3 1 (X.map aN)::eR hs 1)⟩)
   ⟨l.length-(i+1),⟨[(0,.vec (.par 0) 1 0 l.length),(1,(.fn 84 [] [.ptr (.par 1) 0])),(5,.pv (.i i)),(6,.pv (.i (i+1:Nat)))],laid 0 (.arr 3 1 (l.map aN)::eR hs 1)⟩,Sub.mk (by simp) (by simp[eR,laid]),i+1,l,l.take i,by omega,rfl,rfl,PF,by simp,rfl,by rw[gJ];omega,by rw[gJ,Nat.min_eq_left (by omega)]⟩ ?_
  clear hx pW M1 PF;rintro J hJ n τ ⟨j,X,K,hj,rfl,H0,RB,x9,MO,hKj,rfl⟩;by_cases aI:j<l.length
  .obtain⟨r,tD⟩:∃x,l[j]?=some x:=⟨l[j],bB aI⟩;have Cv:X[j]?=some r:=by
    have h1:(X.drop j)[0]?=(l.drop j)[0]?:=by rw[MO]
    rw[mS,mS,Nat.add_zero]at h1;rw[h1];exact tD
   have hg:(X.map aN)[j]?=some (.i r):=by rw[bW,Cv];rfl
   have hw:=bN (k:=j) (by omega);have sO:=bN (k:=K.length) (by omega);have aG:l.length-(j+1)<l.length-j:=by omega
   have hC:=LA H hs hH r (fU r (dK tD));have p4:X.drop (j+1)=l.drop (j+1):=by
    have:=congrArg List.tail MO
    simpa[List.tail_drop]using this
   have MQ:K.length<X.length:=by omega
   have HF:(l.take (j+1)).filter (fun n=>!(fun n=>!H n) n)=K++(if(!(fun n=>!H n) r)=true then[r]else[]):=by
    rw[mJ,tD,F2,<-RB];congr 1;simp only[Option.toList,xL,List.filter_nil]
   have jK:∀Y,Y=X.set K.length r->(fun n=>!H n) r=false->J (l.length-(j+1)) ⟨[(0,.vec (.par 0) 1 0 l.length),(1,(.fn 84 [] [.ptr (.par 1) 0])),(5,.pv (.i (K.length+1:Nat))),(6,.pv (.i (j+1:Nat)))],laid 0 (.arr 3 1 (Y.map aN)::eR hs 1)⟩:=fun Y hY hn=>hJ _ _ ⟨j+1,Y,K++[r],aI,rfl,by rw[hY,List.length_set];exact H0,by rw[HF,if_pos (by simp[hn])],by
    rw[hY,gD];show List.take (K.length+1) _=_;rw[mJ,O2 MQ,List.take_set_of_le (fG _),x9];rfl,by rw[hY,List.drop_set_of_lt (by omega)];exact p4,by simp;omega,by simp⟩
   have CH:(fun n=>!H n) r=true->J (l.length-(j+1)) ⟨[(0,.vec (.par 0) 1 0 l.length),(1,(.fn 84 [] [.ptr (.par 1) 0])),(5,.pv (.i K.length)),(6,.pv (.i (j+1:Nat)))],laid 0 (.arr 3 1 (X.map aN)::eR hs 1)⟩:=fun hn=>hJ _ _ ⟨j+1,X,K,aI,rfl,H0,by rw[HF,if_neg (by simp[hn]),uG],x9,p4,by omega,rfl⟩
   clear hJ;have Da:K.length<l.length:=by omega
   have kH:j<X.length:=by omega
   have Cz:(X.map aN)[K.length]?=some (.i X[K.length]):=by rw[bW,bB MQ];rfl
   have bT:=Zqj (X:=X) (w:=K.length) (r:=r);simp[eR,laid,aI,↓hg,cV];refine cM [.pv (.i r),.ptr (.par 0) 0] (laid 0 (eR hs 0)) 28 [.par 1,.par 2] (by simp[eR,laid]) hC (by simp[eR,laid]) ?_;cases yK:(fun n=>!H n) r with
   |false=>
    have aB:=jK _ rfl yK;have S9:(!H r)=false:=yK;simp[eR,laid,S9,hw,sO,Da,↓Cz,bT,cV,aP,setAt];refine⟨_,_,aG,Sub.mk ?_ ?_,aB⟩
    .simp
    .simp[eR,laid]
   |true=>
    have aB:=CH yK;have S9:(!H r)=true:=yK;simp[eR,laid,S9,hw];refine⟨_,_,aG,Sub.mk ?_ ?_,aB⟩
    .simp
    .simp[eR,laid]
  .have he:j=l.length:=by omega
   subst he;rw[nF]at RB;clear hJ;have RC:K.length<=l.length:=by omega
   have IG:K.length+(l.length-K.length)=l.length:=by omega
   have jJ:aR (X.map aN) K.length (List.replicate (l.length-K.length) (PV.i 0))=(K++List.replicate (l.length-K.length) 0).map aN:=by
    unfold aR;rw[List.length_replicate,IG,List.drop_eq_nil_of_le (by simp;omega),uG,<-List.map_take,x9,mF,List.map_replicate];rfl
   simp[-aR,eR,laid,aP,RC,IG,H0,jJ];rw[<-hR,<-RB];exact⟨rfl,K++List.replicate (l.length-K.length) 0,by simp,by simp[eR,laid]⟩
theorem Dt (hs:List (PV×PV)):cR prog 83 [.pv (.aF false 1 []),(.fn 84 [] [.ptr (.par 0) 0])] (laid 0 (eR hs 0)) (fun x B=>x=.pv (.aF false 1 [])/\B=laid 0 (eR hs 0)):=by
 have hC:cR prog 123 [.pv (.aF false 1 []),(.fn 84 [] [.ptr (.par 0) 0])] (laid 0 (eR hs 0)) (fun x B=>x=.pv (.i (-1))/\B=laid 0 (eR hs 0)):=by
  refine cB [.par 0,.par 1] L123 ?_;simp[L123,eR,laid];refine eO (fun n τ=>n=0/\τ=⟨[(0,.pv (.aF false 1 [])),(1,(.fn 84 [] [.ptr (.par 0) 0])),(7,.pv (.i 0)),(8,.pv (.i 0))],laid 0 (eR hs 0)⟩) ⟨0,⟨[(0,.pv (.aF false 1 [])),(1,(.fn 84 [] [.ptr (.par 0) 0])),(7,.pv (.i 0)),(8,.pv (.i 0))],laid 0 (eR hs 0)⟩,Sub.mk (by simp) (by simp[eR,laid]),rfl,rfl⟩ ?_;rintro J hJ n τ ⟨rfl,rfl⟩;simp[eR,laid]
 refine cB [.par 0,.par 1] L83 ?_;simp[L83,eR,laid];refine cM [.pv (.aF false 1 []),(.fn 84 [] [.ptr (.par 0) 0])] (laid 0 (eR hs 0)) 10 [.par 0,.par 1] (by simp[eR,laid]) hC (by simp[eR,laid]) ?_;simp[eR,laid]
inductive eQ|num (d:Int)|wk (a b c d e:PV)
def eQ.b:eQ->Nat->List aJ
 |.num d,_=>[.cells [.pv (.i d)]]
 |.wk a b c d e,m=>[.cells [.ptr (.par (m+1)) 0],.cells [.pv a,.pv b,.pv c,.pv d,.pv e]]
def eQ.s:eQ->List Site
 |.num _=>[.par 1]
 |.wk ..=>[.par 1,.par 2]
theorem ZtT {X:List Ct}{w:Nat}{r:Ct}:(X.map Ct.pv).set w r.pv=(X.set w r).map Ct.pv:=by rw[List.map_set]
def Ii:Ct:=⟨0,0,0,0,0,⟨0,0⟩⟩
theorem ixE {g:FuncId}{q:Ct->Bool}(E:eQ)(hp:∀x:Ct,cR prog g [.pv x.pv,.ptr (.par 0) 0] (laid 0 (E.b 0)) (fun r B=>r=.pv (.bool (q x))/\B=laid 0 (E.b 0)))(l:List Ct)(hl:l.length<=1000):
  cR prog 111 [.vec (.par 0) 7 0 l.length,(.fn g [] [.ptr (.par 1) 0])] (laid 0 (.arr 88 7 (l.map Ct.pv)::E.b 1)) (fun x B=>x=.pv (.i (G2 (l.findIdx? q)))/\B=laid 0 (.arr 88 7 (l.map Ct.pv)::E.b 1)):=by
 obtain⟨d,hE⟩|⟨a,b,c,d,e,hE⟩:(∃d,E=.num d)\/∃a b c d e,E=.wk a b c d e:=by cases E<;>simp
 all_goals
  refine Nr (.par 0::E.s) mixed L111_ok (tH rfl) ?_;generalize hR:(fun(x:AV) (B:List (Site×aJ))=>x=.pv (.i (G2 (l.findIdx? q)))/\B=laid 0 (.arr 88 7 (l.map Ct.pv)::E.b 1))=R;simp[L111,hE,eQ.b,eQ.s,laid];refine eO (fun n τ=>∃k:Nat,k<=l.length/\n=l.length-k/\(∀(j:Nat) (y:Ct),j<k->l[j]?=some y->q y=false)/\τ=⟨[(0,.vec (.par 0) 7 0 l.length),(1,(.fn g [] [.ptr (.par 1) 0])),(7,.pv (.i l.length)),(8,.pv (.i k))],laid 0 (.arr 88 7 (l.map Ct.pv)::E.b 1)⟩)
   ⟨l.length,⟨[(0,.vec (.par 0) 7 0 l.length),(1,(.fn g [] [.ptr (.par 1) 0])),(7,.pv (.i l.length)),(8,.pv (.i 0))],laid 0 (.arr 88 7 (l.map Ct.pv)::E.b 1)⟩,Sub.mk (by simp) (by simp[hE,eQ.b,eQ.s,laid]),0,gV _,rfl,(fun j y hj=>by omega),rfl⟩ ?_
  rintro J hJ n τ ⟨k,hk,rfl,hinv,rfl⟩;by_cases aI:k<l.length
  .obtain⟨r,hx⟩:∃x,l[k]?=some x:=⟨l[k],bB aI⟩;have hg:(l.map Ct.pv)[k]?=some r.pv:=by rw[bW,hx];rfl
   simp only[Ct.pv]at hg;have hw:=bN (k:=k) (by omega);have aG:l.length-(k+1)<l.length-k:=by omega
   have hC:=hp r;have eJ:q r=false->J (l.length-(k+1)) _:=fun hn=>hJ _ _ ⟨k+1,aI,rfl,(fun j y hj hy=>by
    rcases Nat.lt_succ_iff_lt_or_eq.1 hj with h|h
    .exact hinv j y h hy
    .subst h;rw[hx]at hy;cases hy;exact hn),rfl⟩
   clear hJ;simp[hE,eQ.b,eQ.s,laid,aI,↓hg,cV,aP];refine xM (gE:=[.pv r.pv,.ptr (.par 0) 0]) (B:=laid 0 (E.b 0)) (fs:=[]) (cs:=[.ptr (.par 1) 0]) 16 E.s ?_ (by simp only[hE];rfl) (by simp only[hE];rfl) ?_ ?_ ?_ hC ?_
   ·(try simp only[hE]);rfl
   .simp[hE,eQ.b,eQ.s,laid]
   ·(try simp only[hE]);rfl
   ·(try simp only[hE]);rfl
   rintro r0 B0 ⟨rfl,rfl⟩;refine⟨rfl,by simp[hE,eQ.b,eQ.s,laid],?_⟩;cases yK:q r with
   |false=>
    have aB:=eJ yK;simp[hE,eQ.b,eQ.s,laid,hw];refine⟨_,_,aG,Sub.mk ?_ ?_,aB⟩
    .simp
    .simp[hE,eQ.b,eQ.s,laid]
   |true=>
    have hf:=Zf2 hx yK hinv;simp[hE,eQ.b,eQ.s,laid];rw[<-hR,hf];simp[hE,eQ.b,eQ.s,laid,G2]
  .have he:k=l.length:=by omega
   subst he;have hf:=Zb hinv;clear hJ;simp[hE,eQ.b,eQ.s,laid];rw[<-hR,hf];simp[hE,eQ.b,eQ.s,laid,G2]
theorem Ds {g:FuncId}{q:Ct->Bool}(E:eQ)(hp:∀x:Ct,cR prog g [.pv x.pv,.ptr (.par 0) 0] (laid 0 (E.b 0)) (fun r B=>r=.pv (.bool (q x))/\B=laid 0 (E.b 0)))(l:List Ct)(hl:l.length<=1000):
  cR prog 85 [.vec (.par 0) 7 0 l.length,(.fn g [] [.ptr (.par 1) 0])] (laid 0 (.arr 88 7 (l.map Ct.pv)::E.b 1)) (fun x B=>x=.vec (.par 0) 7 0 (l.filter (fun n=>!q n)).length/\∃X:List Ct,X.take (l.filter (fun n=>!q n)).length=l.filter (fun n=>!q n)/\B=laid 0 (.arr 88 7 (X.map Ct.pv)::E.b 1)):=by
 obtain⟨d,hE⟩|⟨a,b,c,d,e,hE⟩:(∃d,E=.num d)\/∃a b c d e,E=.wk a b c d e:=by cases E<;>simp
 all_goals
  have hC:=ixE E hp l hl;refine Nr (.par 0::E.s) mixed L85_ok (tH rfl) ?_;generalize hR:(fun(x:AV) (B:List (Site×aJ))=>x=.vec (.par 0) 7 0 (l.filter (fun n=>!q n)).length/\∃X:List Ct,X.take (l.filter (fun n=>!q n)).length=l.filter (fun n=>!q n)/\B=laid 0 (.arr 88 7 (X.map Ct.pv)::E.b 1))=R;simp[L85,hE,eQ.b,eQ.s,laid];refine xM (gE:=[.vec (.par 0) 7 0 l.length,(.fn g [] [.ptr (.par 1) 0])]) (B:=laid 0 (.arr 88 7 (l.map Ct.pv)::E.b 1)) (fs:=[]) (cs:=[]) 10 (.par 0::E.s) ?_ (by simp only[hE];rfl) (by simp only[hE];rfl) ?_ ?_ ?_ hC ?_
  ·(try simp only[hE]);rfl
  .simp[hE,eQ.b,eQ.s,laid]
  ·(try simp only[hE]);rfl
  ·(try simp only[hE]);rfl
  rintro r0 B0 ⟨rfl,rfl⟩;refine⟨rfl,by simp[hE,eQ.b,eQ.s,laid],?_⟩;cases hx:l.findIdx? q with
  |none=>
   have qB:=Zf4 hx;simp[hE,eQ.b,eQ.s,laid,G2];rw[<-hR,qB];exact⟨rfl,l,by simp,by simp[hE,eQ.b,eQ.s,laid]⟩
  |some i=>
   obtain⟨hi,PF⟩:=ZiJ hx;have pW:=bN (k:=i) (by omega);have M1:¬((i:Int) = -1):=by omega
   clear hC;simp[hE,eQ.b,eQ.s,laid,G2,pW,M1];refine eO (fun n τ=>∃(j:Nat) (X K:List Ct),j<=l.length/\n=l.length-j/\X.length=l.length/\K=(l.take j).filter (fun n=>!q n)/\X.take K.length=K/\X.drop j=l.drop j/\K.length<j/\τ=⟨[(0,.vec (.par 0) 7 0 l.length),(1,(.fn g [] [.ptr (.par 1) 0])),(5,.pv (.i K.length)),(6,.pv (.i j))],laid 0 (.arr 88 7 (X.map Ct.pv)::E.b 1)⟩)
    ⟨l.length-(i+1),⟨[(0,.vec (.par 0) 7 0 l.length),(1,(.fn g [] [.ptr (.par 1) 0])),(5,.pv (.i i)),(6,.pv (.i (i+1:Nat)))],laid 0 (.arr 88 7 (l.map Ct.pv)::E.b 1)⟩,Sub.mk (by simp) (by simp[hE,eQ.b,eQ.s,laid]),i+1,l,l.take i,by omega,rfl,rfl,PF,by simp,rfl,by rw[gJ];omega,by rw[gJ,Nat.min_eq_left (by omega)]⟩ ?_
   clear hx pW M1 PF;rintro J hJ n τ ⟨j,X,K,hj,rfl,H0,RB,x9,MO,hKj,rfl⟩;by_cases aI:j<l.length
   .obtain⟨r,tD⟩:∃x,l[j]?=some x:=⟨l[j],bB aI⟩;have Cv:X[j]?=some r:=by
     have h1:(X.drop j)[0]?=(l.drop j)[0]?:=by rw[MO]
     rw[mS,mS,Nat.add_zero]at h1;rw[h1];exact tD
    have hg:(X.map Ct.pv)[j]?=some r.pv:=by rw[bW,Cv];rfl
    simp only[Ct.pv]at hg;have hw:=bN (k:=j) (by omega);have sO:=bN (k:=K.length) (by omega);have aG:l.length-(j+1)<l.length-j:=by omega
    have hC:=hp r;have p4:X.drop (j+1)=l.drop (j+1):=by
     have:=congrArg List.tail MO
     simpa[List.tail_drop]using this
    have MQ:K.length<X.length:=by omega
    have HF:(l.take (j+1)).filter (fun n=>!q n)=K++(if(!q r)=true then[r]else[]):=by
     rw[mJ,tD,F2,<-RB];congr 1;simp only[Option.toList,xL,List.filter_nil]
    have jK:∀Y,Y=X.set K.length r->q r=false->J (l.length-(j+1)) ⟨[(0,.vec (.par 0) 7 0 l.length),(1,(.fn g [] [.ptr (.par 1) 0])),(5,.pv (.i (K.length+1:Nat))),(6,.pv (.i (j+1:Nat)))],laid 0 (.arr 88 7 (Y.map Ct.pv)::E.b 1)⟩:=fun Y hY hn=>hJ _ _ ⟨j+1,Y,K++[r],aI,rfl,by rw[hY,List.length_set];exact H0,by rw[HF,if_pos (by simp[hn])],by
     rw[hY,gD];show List.take (K.length+1) _=_;rw[mJ,O2 MQ,List.take_set_of_le (fG _),x9];rfl,by rw[hY,List.drop_set_of_lt (by omega)];exact p4,by simp;omega,by simp⟩
    have CH:q r=true->J (l.length-(j+1)) ⟨[(0,.vec (.par 0) 7 0 l.length),(1,(.fn g [] [.ptr (.par 1) 0])),(5,.pv (.i K.length)),(6,.pv (.i (j+1:Nat)))],laid 0 (.arr 88 7 (X.map Ct.pv)::E.b 1)⟩:=fun hn=>hJ _ _ ⟨j+1,X,K,aI,rfl,H0,by rw[HF,if_neg (by simp[hn]),uG],x9,p4,by omega,rfl⟩
    clear hJ;have Da:K.length<l.length:=by omega
    have kH:j<X.length:=by omega
    have Cz:(X.map Ct.pv)[K.length]?=some X[K.length].pv:=by rw[bW,bB MQ];rfl
    have bT:=ZtT (X:=X) (w:=K.length) (r:=r);simp[hE,eQ.b,eQ.s,laid,aI,↓hg,cV,aP];refine xM (gE:=[.pv r.pv,.ptr (.par 0) 0]) (B:=laid 0 (E.b 0)) (fs:=[]) (cs:=[.ptr (.par 1) 0]) 28 E.s ?_ (by simp only[hE];rfl) (by simp only[hE];rfl) ?_ ?_ ?_ hC ?_
    ·(try simp only[hE]);rfl
    .simp[hE,eQ.b,eQ.s,laid]
    ·(try simp only[hE]);rfl
    ·(try simp only[hE]);rfl
    rintro r0 B0 ⟨rfl,rfl⟩;refine⟨rfl,by simp[hE,eQ.b,eQ.s,laid],?_⟩;cases yK:q r with
    |false=>
     have aB:=jK _ rfl yK;simp[hE,eQ.b,eQ.s,laid,Da,↓Cz,cV,aP,setAt];refine⟨_,_,aG,Sub.mk ?_ ?_,aB⟩
     .simp[hw,sO]
     .simp[hE,eQ.b,eQ.s,laid,Ct.pv]
    |true=>
     have aB:=CH yK;simp[hE,eQ.b,eQ.s,laid,hw];refine⟨_,_,aG,Sub.mk ?_ ?_,aB⟩
     .simp
     .simp[hE,eQ.b,eQ.s,laid]
   .have he:j=l.length:=by omega
    subst he;rw[nF]at RB;clear hJ;have RC:K.length<=l.length:=by omega
    have IG:K.length+(l.length-K.length)=l.length:=by omega
    have jJ:aR (X.map Ct.pv) K.length (List.replicate (l.length-K.length) Ii.pv)=(K++List.replicate (l.length-K.length) Ii).map Ct.pv:=by
     unfold aR;rw[List.length_replicate,IG,List.drop_eq_nil_of_le (by simp;omega),uG,<-List.map_take,x9,mF,List.map_replicate]
    simp[-aR,hE,eQ.b,eQ.s,laid,aP,RC,IG,H0];rw[<-hR,<-RB];exact⟨rfl,K++List.replicate (l.length-K.length) Ii,by simp,by
     simp[hE,eQ.b,eQ.s,laid];rw[<-List.map_take,x9,IG,List.drop_eq_nil_of_le (by simp;omega)];simp[Ii,Ct.pv]⟩
theorem Zqn (l:List Int)(n:Int)(hl:l.length<=1000000):aD prog 124 [.aF false 1 (l.map iP),.i n] (.i (match l.findIdx? (fun y=>decide (n=y))with|some i=>i|none=>-1)):=by
 refine cS L124 ?_;simp[L124];refine eO (fun m τ=>∃k:Nat,k<=l.length/\m=l.length-k/\(∀(j:Nat) (x:Int),j<k->l[j]?=some x->(fun y=>decide (n=y)) x=false)/\τ=⟨[(0,.pv (.aF false 1 (l.map iP))),(1,.pv (.i n)),(7,.pv (.i l.length)),(8,.pv (.i k))],[]⟩)
  ⟨l.length,_,Sub.mk (by simp) (by simp),0,by omega,rfl,(fun j x hj=>by omega),rfl⟩ ?_
 rintro J hJ m τ ⟨k,hk,rfl,hinv,rfl⟩;by_cases aI:k<l.length
 .obtain⟨z,hz⟩:∃x,l[k]?=some x:=⟨l[k],bB aI⟩;have hg:(l.map iP)[k]?=some (.i z):=by rw[bW,hz];rfl
  have hw:IntKind.i64.wrap ((k:Int)+1)=((k+1:Nat):Int):=by rw[wrap64 (by omega)];omega
  by_cases hb:n=z
  .have hf:l.findIdx? (fun y=>decide (n=y))=some k:=Zf2 hz (by simpa using hb) hinv;simp[aI,↓hg,hb];rw[hb]at hf;rw[hf]
  .simp[aI,↓hg,hb,hw];exact⟨_,_,(by omega:l.length-(k+1)<l.length-k),Sub.mk (by simp) (by simp),hJ _ _ ⟨k+1,by omega,rfl,fun j x hj CD=>by
    rcases Nat.lt_succ_iff_lt_or_eq.1 hj with h|h
    .exact hinv j x h CD
    .subst h;rw[hz]at CD;cases CD;simpa using hb,rfl⟩⟩
 .have he:k=l.length:=by omega
  subst he;have hf:l.findIdx? (fun y=>decide (n=y))=none:=Zb hinv;simp[hf]
theorem ZtU (l:List Int)(n:Int)(hl:l.length<=1000000):aD prog 87 [.aF false 1 (l.map iP),.i n] (.bool (l.contains n)):=by
 refine cS L87 ?_;simp[L87];refine cG [.aF false 1 (l.map iP),.i n] (Zqn l n hl) ?_;cases h:l.findIdx? (fun y=>decide (n=y))with
 |none=>
  rw[List.findIdx?_eq_none_iff]at h;have hn:n∉l:=fun hm=>by have:=h n hm;simp at this
  simp[hn]
 |some i=>
  obtain⟨h1,h2,_⟩:=JC.1 h;have hm:n∈l:=by
   have:n=l[i]:=by simpa using h2
   rw[this];exact zX h1
  have h0:(0:Int)<=(i:Int):=by omega
  simp[hm,h0]
def wQ (bad:List Int)(x:Ct):Bool:=bad.contains x.num
theorem YW (a c d e:PV)(bad:List Int)(hb:bad.length<=1000)(x:Ct):cR prog 86 [.pv x.pv,.ptr (.par 0) 0] (laid 0 ((eQ.wk a (.aF false 1 (bad.map iP)) c d e).b 0)) (fun r B=>r=.pv (.bool (wQ bad x))/\B=laid 0 ((eQ.wk a (.aF false 1 (bad.map iP)) c d e).b 0)):=by
 have hc:=ZtU bad x.num (by omega);refine cB [.par 0,.par 1] L86 ?_;simp[L86,eQ.b,laid,aO,Ct.pv];refine cG [.aF false 1 (bad.map iP),.i x.num] hc ?_;simp[wQ]
theorem Du (a b c d e:PV):cR prog 85 [.pv (.aF false 7 []),(.fn 86 [] [.ptr (.par 0) 0])] (laid 0 ((eQ.wk a b c d e).b 0)) (fun x B=>x=.pv (.aF false 7 [])/\B=laid 0 ((eQ.wk a b c d e).b 0)):=by
 have hC:cR prog 111 [.pv (.aF false 7 []),(.fn 86 [] [.ptr (.par 0) 0])] (laid 0 ((eQ.wk a b c d e).b 0)) (fun x B=>x=.pv (.i (-1))/\B=laid 0 ((eQ.wk a b c d e).b 0)):=by
  refine cB [.par 0,.par 1] L111 ?_;simp[L111,eQ.b,laid,aO];refine eO (fun n τ=>n=0/\τ=⟨[(0,.pv (.aF false 7 [])),(1,(.fn 86 [] [.ptr (.par 0) 0])),(7,.pv (.i 0)),(8,.pv (.i 0))],laid 0 ((eQ.wk a b c d e).b 0)⟩) ⟨0,⟨[(0,.pv (.aF false 7 [])),(1,(.fn 86 [] [.ptr (.par 0) 0])),(7,.pv (.i 0)),(8,.pv (.i 0))],laid 0 ((eQ.wk a b c d e).b 0)⟩,Sub.mk (by simp) (by simp[eQ.b,laid,aO]),rfl,rfl⟩ ?_;rintro J hJ n τ ⟨rfl,rfl⟩;simp[eQ.b,laid,aO]
 refine cB [.par 0,.par 1] L85 ?_;simp[L85,eQ.b,laid,aO];refine cM [.pv (.aF false 7 []),(.fn 86 [] [.ptr (.par 0) 0])] (laid 0 ((eQ.wk a b c d e).b 0)) 10 [.par 0,.par 1] (by simp[eQ.b,laid,aO]) hC (by simp[eQ.b,laid,aO]) ?_;simp[eQ.b,laid,aO]
def YC:Nat->PV->PV->Bool
 |0,_,_=>false
 |n+1,x,y=>match x,y with
  |.emp _,.aF nn _ l=>!nn&&l.isEmpty
  |.agg a,.agg b=>decide (a.length=b.length)&&(a.zip b).all fun p=>YC n p.1 p.2
  |.bL a,.bL b=>decide (a.length=b.length)&&(a.zip b).all fun p=>YC n p.1 p.2
  |.aF nn k a,.aF nn' k' b=>decide (nn=nn')&&decide (k=k')&&decide (a.length=b.length)&&(b.all fun c=>decide (c.cells.length=k))&&(a.zip b).all fun p=>(p.1.cells.zip p.2.cells).all fun p=>YC n p.1 p.2
  |x,y=>PV.beq x y
theorem Mc {α:Type}{a b:List α}{j:Nat}{x y:α}(h1:a[j]?=some x)(h2:b[j]?=some y):(x,y)∈a.zip b:=by
 refine iJ.2 ⟨j,?_⟩;rw[List.getElem?_zip_eq_some];exact⟨h1,h2⟩
theorem FW:∀(n:Nat) (x y:PV),YC n x y=true->∀(m:Mem) (v:Value),dG m v x->dG m v y
 |0,_,_,h=>by cases h
 |n+1,x,y,h=>by
  intro m v hr;unfold YC at h;split at h
  .rename_i nl nn k l;simp only[dJ,Bool.not_eq_true']at h;obtain⟨h1,h2⟩:=h;cases l with
   |nil=>subst h1;exact AB hr
   |cons a l=>cases h2
  .rename_i a b;simp only[dJ,decide_eq_true_eq,rC]at h;exact Zr1 h.1 (fun j c c' d h1 h2 hd=>FW n c c' (h.2 _ (Mc h1 h2)) m d hd) hr
  .rename_i a b;simp only[dJ,decide_eq_true_eq,rC]at h;exact Yb h.1 (fun j c c' d h1 h2 hd=>FW n c c' (h.2 _ (Mc h1 h2)) m d hd) hr
  .rename_i nn k a nn' k' b;simp only[dJ,decide_eq_true_eq,rC]at h;obtain⟨⟨⟨⟨rfl,rfl⟩,h1⟩,h2⟩,h3⟩:=h;exact ZuQ h1 (fun j c hc=>h2 c (dK hc)) (fun j c c' i d x x' k1 k2 k3 k4 hd=>FW n x x' (h3 _ (Mc k1 k2) _ (Mc k3 k4)) m d hd) hr
  .rename_i x y _ _ _ _;rw[<-PV.beq_eq _ _ h];exact hr
attribute [simp] oF aY AS.cD AV.cD AV.aY aJ.cD AS.tidy AS.b8 aM oE nO iN
def qV:List It:=[⟨0,true,⟨0,0⟩⟩,⟨0,true,⟨-2,2⟩⟩,⟨1,false,⟨0,0⟩⟩,⟨1,false,⟨0,0⟩⟩,⟨0,false,⟨0,0⟩⟩,⟨0,false,⟨0,0⟩⟩]
def WH:PV:=.aF false 1 [.aF false 2 [.agg [.i 10,.i 13]],.aF false 2 []]
theorem Yk:aD prog 88 [] (aT qV):=by
 refine cF [.loc 8 0] L88 ?_;simp[L88,aT,qV,It.pv]
theorem Zez:aD prog 93 [] WH:=by
 refine cR.U8 ?_;refine cF [.loc 3 0] L93 ?_;simp[L93];exact FW 5 _ _ rfl
theorem Zsa (l:List Ct)(b c d e:PV):cR prog 231 [.ptr (.par 0) 0] [(.par 0,aO (aL l) b c d e)] (fun r B=>r=.pv (Bk.pv ⟨qV,l⟩)/\B=[(.par 0,aO (aL l) b c d e)]):=by
 refine cB [.par 0] L231 ?_;simp[L231,aO,aL];refine cQ [] [] Yk ?_;simp[Bk.pv,aL,aT]
theorem Znp (l:List PV)(a b c d:PV):cR prog 46 [.ptr (.par 0) 0] [(.par 0,aO a b c d (.aF false 3 l))] (fun r B=>r=.pv (.agg [WH,.aF false 3 l])/\B=[(.par 0,aO a b c d (.aF false 3 l))]):=by
 refine cB [.par 0] L46 ?_;simp[L46,aO];refine cQ [] [] Zez ?_;simp[WH]
section
attribute [local simp] ZaR I6 AE V2
end
section
theorem ZjA {b:Bk}(hb:b.ok){bad:List Int}:b.nums.filter (fun n=>(b.held bad).contains n)=b.held bad:=by
 refine Yj (TH.filter _) (ZcS 1000).1 (fun x=>?_);rw[iU,jB];exact⟨fun h=>h.2,fun h=>⟨Ff hb h,h⟩⟩
attribute [local irreducible] Bk.held Bk.nums
def Bk.NK (b:Bk)(bad:List Int):List Int×Int:=if b.fault=0 then(if U0 bad=true then(b.held bad,0)else([],2))else([],b.fault)
def J7 (x:List Int×Int):PV:=.bL [.aF false 1 (x.1.map aN),.i x.2]
theorem WS {e:Int}{l:List Int×Int}(h:l=([],e)):∀m v,dG m v (.bL [.emp (some true),.i e])->dG m v (J7 l):=by
 subst h;intro m v hv;refine Yb (cs:=[.emp (some true),.i e]) (iH:=[.aF false 1 [],.i e]) rfl ?_ hv;intro j c c' d h1 h2 hr
 match j with
 |0=>simp at h1 h2;subst h1 h2;exact AB hr
 |1=>simp at h1 h2;subst h1 h2;exact hr
 |j+2=>simp at h1
attribute [simp] ZaR I6 AE V2 ZaS
theorem Zvn (b:Bk)(hi:b.items.length<=1000)(hc:b.aA.length<=1000)(bad:List Int)(xJ:bad.length<=1000):cR prog 42 [.pv b.pv,.pv (.aF false 1 (bad.map aN))] [] (fun r B=>r=.pv (J7 (b.NK bad))/\B=[]):=by
 have hr:=Zmo b hi hc bad xJ;refine cR.U8 ?_;refine N6 [.loc 24 0] L42 ?_;intro R hR;simp[L42,Bk.pv];refine cL [.pv b.pv,.pv (.aF false 1 (bad.map aN))] [] 12 [] rfl hr ?_
 rintro r0 B0 (⟨h0,rfl,rfl⟩|⟨h0,h1,rfl,rfl⟩|⟨h0,h1,es,kZ,rfl,rfl⟩)
 .refine⟨rfl,by simp,?_⟩;have hd:decide (b.fault=0)=false:=by simpa using h0
  simp[-decide_eq_true_eq,-decide_eq_false_iff_not,hd];rw[<-hR];exact⟨_,rfl,rfl,WS (by unfold Bk.NK;rw[if_neg h0])⟩
 .refine⟨rfl,by simp,?_⟩;simp;rw[<-hR];exact⟨_,rfl,rfl,WS (by unfold Bk.NK;rw[if_pos h0,if_neg (by simp[h1])])⟩
 have hb:b.ok:=Bk.U6.1 h0;have hM:b.NK bad=(b.held bad,0):=by unfold Bk.NK;rw[if_pos h0,if_pos h1]
 refine⟨rfl,by simp[aW],?_⟩;simp[aW];refine cM [.ptr (.par 0) 0] (laid 0 (kE b bad es)) 19 [.loc 12 0,.loc 12 1] (by simp[laid,kE,aW]) (Xr b hb bad es kZ) (by simp[laid,kE,aW]) ?_;have hH:=TC hb bad;have hf:=ZjA hb (bad:=bad);generalize kK b bad b.nums.length=hs at *;simp[laid,kE,aW];by_cases hn:b.nums=[]
 .have Tz:b.held bad=[]:=by rw[<-hf,hn];rfl
  rw[hn];simp only[List.map_nil];refine .inl (cQ [] [.aF false 1 []] ZqO ?_);simp[aM];refine cM [.pv (.aF false 1 []),.fn 84 [] [.ptr (.par 0) 0]] (laid 0 (eR hs 0)) 26 [.loc 8 0,.loc 19 0] (by simp[laid,eR]) (Dt hs) (by simp[laid,eR]) ?_;simp[laid,eR];rw[<-hR,hM,Tz];exact⟨_,rfl,rfl,fun m v h=>h⟩
 .have hl:=WW (b:=b);refine cM [.pv (.aF false 1 (b.nums.map aN))] [] 24 [] rfl (Yy b.nums hn (by omega)) (by simp) ?_;simp;refine cL [.vec (.par 0) 1 0 b.nums.length,.fn 84 [] [.ptr (.par 1) 0]] (laid 0 (.arr 3 1 (b.nums.map aN)::eR hs 1)) 26 [.loc 24 0,.loc 8 0,.loc 19 0] (by simp[laid,eR]) (Vz _ hs hH b.nums hl (fun _ _=>trivial)) ?_
  rintro r0 B0 ⟨rfl,X,hX,rfl⟩;have CL:(b.nums.filter fun n=>!(fun n=>!(b.held bad).contains n) n)=b.held bad:=by
   refine Eq.trans (List.filter_congr fun n _=>?_) hf;exact Bool.not_not _
  rw[CL]at hX;simp only[CL];refine⟨rfl,by simp[laid,eR],?_⟩;have VH:(X.map aN).take (b.held bad).length=(b.held bad).map aN:=by rw[<-List.map_take,hX]
  have H0:(b.held bad).length<=X.length:=by
   have:=congrArg List.length hX
   rw[gJ]at this;omega
  simp[laid,eR,VH,H0];rw[<-hR,hM];exact⟨_,rfl,rfl,fun m v h=>h⟩
end
section
attribute [local irreducible] Bk.held Bk.nums
theorem Fu {b:Bk}(hb:b.ok):∀n∈b.nums,1<=n/\n<=999:=fun n hn=>by
 obtain⟨c,hc,rfl⟩:=(s8 hb).1 hn
 have:=wW hb hc
 omega
end
section
attribute [local irreducible] Bk.held Bk.nums
theorem Eb:yZ prog (pG P1) L112.code:=Fy L112_ok L112_tab
noncomputable def N8 (b:Bk)(bad:List Int)(es hs:List (PV×PV))(is:Bool):List aJ:=[.loop (fQ prog 112 0) [49] 61 [(11,.ptr (.par 2) 0),(12,.ptr (.par 1) 0)] none,
 .cells [.pv (.bool is)],.cells [.mp (.par 3)],.map hs,gX (.par 5),.cells (aW b (.par 6) (fZ bad)),.map es]
noncomputable def T9 (b:Bk)(bad:List Int)(es hs:List (PV×PV))(H:Int->Bool)(hH:mU H hs):Cons prog where
 m:=7
 S:=Bool
 X:=N8 b bad es hs
 step is x:=(is||H (numOf x),true)
 good x:=∃c:Ct,x=c.pv
 live _:=True
 m0:=by omega
 len _:=rfl
 cl c:=by
  intro bx hb;simp only[N8,jN,List.not_mem_nil,or_false]at hb;rcases hb with rfl|rfl|rfl|rfl|rfl|rfl|rfl
  .rfl
  .rfl
  .rfl
  .rfl
  .rfl
  .simp[aW,Site.lt,I6]
  .rfl
 goes _ _ _ _ _:=trivial
 sK c x hc hx:=by
  obtain⟨y,rfl⟩:=hx;have oO:yZ prog (pG P1) (.vE 61 (.t 48) (fQ prog 112 0) Y112_0a Y112_0b [49]):=Eb.2.2.2.2.2.2.1.2;have hf:=hH.f y.num;have hk:=hH.k;refine XS mixed oO.1 oO.2.1 rfl rfl (by simp) rfl ?_;cases c
  all_goals
   simp[-getElem?_pos,Y112_0a,Y112_0b,N8,laid,qK,Ct.pv,hk,hf,numOf,gX,aW,AE];exact⟨[],[.par 1,.par 2,.par 3,.par 4,.par 5,.par 6],rfl,rfl,by simp[aY,I6],rfl,by simp[aY,V2]⟩
theorem Zlz {b:Bk}{bad:List Int}{es hs:List (PV×PV)}{H:Int->Bool}{hH:mU H hs}:∀(l:List Ct) (c:Bool),(T9 b bad es hs H hH).run c (lR l)=(c||l.any (fun o=>H o.num),true)
 |[],c=>by
  show(c,true)=_;simp
 |x::l,c=>by
  show(T9 b bad es hs H hH).run (c||H x.num) (lR l)=_;rw[Zlz l,List.any_cons,Bool.or_assoc]
def Bk.qF (b:Bk)(item day:Int):Bool:=(b.item item).gU||(b.qX item day 1000).any fun o=>(b.held []).contains o.num
def Bk.uW (b:Bk)(item day:Int):Int:=if b.fault=0 then(if(b.uK item&&iX day 0 1000)=true then(if b.qF item day=true then 0 else 10)else 2)else b.fault
def Ei (b:Bk)(item day:Int)(r:AV)(B:List (Site×aJ)):Prop:=
 (b.uW item day≠0/\r=.pv (.bL [.eU,.cT,.i (b.uW item day)])/\B=[])\/
 (b.uW item day=0/\b.fault=0/\b.uK item=true/\iX day 0 1000=true/\b.qF item day=true/\∃es,xD b es/\r=.bL [.ptr (.ret 0) 0,.mp (.ret 2),.pv (.i 0)]/\B=[(.ret 0,.cells (aW b (.ret 1) (fZ []))),(.ret 1,.map es),(.ret 2,.map (kK b [] b.nums.length))])
theorem ZoZ (b:Bk)(hi:b.items.length<=1000)(hc:b.aA.length<=1000)(item day:Int):cR prog 112 [.pv b.pv,.pv (.i item),.pv (.i day)] [] (Ei b item day):=by
 have hr:=Fa b hi hc;refine cE L112 ?_;generalize hR:Ei b item day=R;have vG:∀e,b.uW item day=e->e≠0->R (.pv (.bL [.eU,.cT,.i e])) []:=fun e h h0=>by
  rw[<-hR];exact .inl ⟨by rw[h];exact h0,by rw[h],rfl⟩
 simp[L112,Bk.pv];refine cL [.pv b.pv] [] 16 [] rfl hr ?_
 rintro r0 B0 (⟨h0,rfl,rfl⟩|⟨h0,es,kZ,rfl,rfl⟩)
 .refine⟨rfl,by simp,?_⟩;have hd:decide (b.fault=0)=false:=by simpa using h0
  have h2:=vG _ (by unfold Bk.uW;rw[if_neg h0]) h0;simp[-decide_eq_true_eq,-decide_eq_false_iff_not,hd,-aU];exact⟨[],by simpa using h2⟩
 have hb:b.ok:=Bk.U6.1 h0;refine⟨rfl,by simp[aW,FT],?_⟩;simp[aW,FT,-aU];refine cG [b.pv,.i item] (Xw b item hi) ?_;cases e1:b.uK item
 .have h2:=vG 2 (by unfold Bk.uW;rw[if_pos h0,e1];rfl) (by omega);simp[-aU];exact⟨[],by simpa using h2⟩
 simp[-aU];refine cG [.i day] (CY day) ?_;cases e2:iX day 0 1000
 .have h2:=vG 2 (by unfold Bk.uW;rw[if_pos h0,e1,e2];rfl) (by omega);simp[-aU];exact⟨[],by simpa using h2⟩
 simp[-aU];refine cM [.ptr (.par 0) 0] (laid 0 (kE b [] es)) 35 [.loc 16 0,.loc 16 1] (by simp[laid,kE,aW]) (Xr b hb [] es kZ) (by simp[laid,kE,aW]) ?_;have hH:=TC hb [];have Sb:b.qF item day=true->R (.bL [.ptr (.ret 0) 0,.mp (.ret 2),.pv (.i 0)]) [(.ret 0,.cells (aW b (.ret 1) (fZ []))),(.ret 1,.map es),(.ret 2,.map (kK b [] b.nums.length))]:=fun h=>by
  rw[<-hR];refine .inr ⟨?_,h0,e1,e2,h,es,kZ,rfl,rfl⟩;unfold Bk.uW;rw[if_pos h0,e1,e2,if_pos (show(true&&true)=true from rfl),if_pos h]
 have Sc:b.qF item day=false->R (.pv (.bL [.eU,.cT,.i 10])) []:=fun h=>by
  refine vG 10 ?_ (by omega);unfold Bk.uW;rw[if_pos h0,e1,e2,if_pos (show(true&&true)=true from rfl),if_neg (by simp[h])]
 generalize kK b [] b.nums.length=hs at *;have hii:0<=item/\item<b.items.length:=by
  unfold Bk.uK iX at e1;simp only[dJ,decide_eq_true_eq]at e1;omega
 obtain⟨si,rfl⟩:∃si:Nat,item=si:=⟨item.toNat,by omega⟩;have K6:si<b.items.length:=by omega
 obtain⟨z,hz⟩:∃z,b.items[si]?=some z:=⟨b.items[si],bB K6⟩;have pY:(b.items.map It.pv)[si]?=some (.agg [.i z.dR,.bool z.gU,.i z.val.lo,.i z.val.hi]):=by rw[bW,hz];rfl
 have HB:b.item (si:Int)=z:=by unfold Bk.item;rw[H7,hz];rfl
 have Jw:b.qF si day=(z.gU||(b.qX si day 1000).any fun o=>(b.held []).contains o.num):=by unfold Bk.qF;rw[HB]
 have dF:=fun is:Bool=>Zlz (b:=b) (bad:=[]) (es:=es) (hH:=hH) (b.qX si day 1000) is
 have hit:=fun is:Bool=>Ey (T9 b [] es hs _ hH) b hb [] es kZ 4 5 6 (fun c _=>⟨rfl,rfl⟩) (fun c _=>rfl) si day 1000 is trivial (fun z hz=>⟨z,rfl⟩)
 simp only[dF]at hit;generalize hAN:((b.qX si day 1000).any fun n=>(b.held []).contains n.num)=an at *;have QF:=hit z.gU;clear hit;simp[laid,kE,aW,aT,↓pY,-aU];refine cM [.ptr (.par 0) 0,.pv (.i si),.pv (.i day),.pv (.i 1000)] (laid 0 (kE b [] es)) 48 [.loc 16 0,.loc 16 1] (by simp[laid,kE,aW,aT]) (AZ b [] es si day 1000) (by simp[laid,kE,aW]) ?_;simp[laid,kE,aW,OK,-aU];refine WY [.loc 61 0,.loc 12 0,.loc 11 0,.loc 35 0,.loc 48 0,.loc 16 0,.loc 16 1] [(11,.ptr (.loc 11 0) 0),(12,.ptr (.loc 12 0) 0)] (gf:=155) (fs:=[]) (cs:=[.ptr (.loc 48 0) 0,.pv (.ref [.i 1000]),.pv (.ref [.i si]),.pv (.ref [.i day])]) ?_ ?_ rfl rfl ?_ ?_ ?_ QF ?_
 .rfl
 .simp
 .simp[T9,N8,laid,aW,gX]
 .rfl
 .rfl
 rintro r B' ⟨rfl,rfl⟩;refine⟨rfl,?_,?_⟩
 .exact fun p hp=>WR (n:=7) (L:=N8 b [] es hs (z.gU||an)) (by simp[N8]) ((T9 b [] es hs _ hH).cl (z.gU||an)) p hp
 refine⟨_,_,_,_,_,rfl,?_⟩;cases Db:(z.gU||an)
 .rw[Db]at Jw;have h2:=Sc Jw;simp[T9,N8,laid,kX,aW,gX,-aU];exact⟨[],by simpa using h2⟩
 .rw[Db]at Jw;have h2:=Sb Jw;simp[T9,N8,laid,kX,aW,gX,-aU,Db];refine⟨[.loc 16 0,.loc 16 1,.loc 35 0],?_⟩;simpa[aW]using h2
end
section
attribute [local irreducible] Bk.held Bk.nums
def gP (b:Bk)(es hs ss:List (PV×PV)):List aJ:=[.cells [.ptr (.par 3) 0,.mp (.par 1),.mp (.par 2)],.map hs,.map ss,.cells (aW b (.par 4) (fZ [])),.map es]
theorem ZfX (b:Bk)(es hs ss:List (PV×PV))(H:Int->Bool)(hH:mU H hs)(c:Ct):cR prog 243 [.ptr (.par 0) 0,.pv c.pv] (laid 0 (gP b es hs ss)) (fun r B=>r=.pv (.bool (H c.num))/\B=laid 0 (gP b es hs ss)):=by
 have hf:=hH.f c.num;have hk:=hH.k;refine cB [.par 0,.par 1,.par 2,.par 3,.par 4] L243 ?_;simp[L243,gP,laid,aW,Ct.pv,hf,hk]
theorem Ea:yZ prog (pG P1) L197.code:=Fy L197_ok L197_tab
noncomputable def R3 (b:Bk)(es hs ss:List (PV×PV))(item day:Int)(r:Cr):List aJ:=[.loop (fQ prog 197 0) [47] 79 [(4,.ptr (.par 2) 0),(5,.ptr (.par 3) 0),(6,.ptr (.par 4) 0),(9,.ptr (.par 5) 0),(10,.ptr (.par 1) 0)] none,
 .cells [.pv (.i r.lo),.pv (.i r.hi)],.cells [.ptr (.par 6) 0],.cells [.pv (.i item)],.cells [.pv (.i day)],.cells [.fn 243 [.ptr (.par 6) 0] []],
 .cells [.ptr (.par 9) 0,.mp (.par 7),.mp (.par 8)],.map hs,.map ss,.cells (aW b (.par 10) (fZ [])),.map es,gX (.par 9)]
def IP:PV->Ct
 |.agg [.int _ n,.int _ i,.int _ s,.int _ d,.int _ v,.int _ lo,.int _ hi]=>⟨n,i,s,d,v,⟨lo,hi⟩⟩
 |_=>ct0
theorem Fp (c:Ct):IP c.pv=c:=rfl
def zR:PV:=.agg [.i 0,.i 0]
structure SMap (b:Bk)(S:Int->Cr)(below:Int)(ss:List (PV×PV)):Prop where
 k:zZ kI ss=true
 f:∀c∈b.aA,c.num<below->c.num∈b.held []->(eX (.i c.num) ss).getD zR=(S c.num).pv/\(S c.num).lS 1000000000
def NR (b:Bk)(S:Int->Cr)(item day:Int)(r:Cr)(c:Ct):Cr:=match(b.held []).contains c.num with
 |true=>r.cut ((S c.num).wider ((b.item item).dR*(day-c.day)))
 |false=>r
noncomputable def i7 (b:Bk)(hb:b.ok)(es hs ss:List (PV×PV))(hH:mU (fun n=>(b.held []).contains n) hs)(S:Int->Cr)(si:Nat)(K6:si<b.items.length)(day below:Int)(hd:0<=day/\day<=1000)(hS:SMap b S below ss):Cons prog where
 m:=12
 S:=Cr
 X:=R3 b es hs ss si day
 step r x:=(NR b S si day r (IP x),true)
 good x:=∃c∈b.qX si day below,x=c.pv
 live _:=True
 m0:=by omega
 len _:=rfl
 cl c:=by
  intro bx hb;simp only[R3,jN,List.not_mem_nil,or_false]at hb;rcases hb with rfl|rfl|rfl|rfl|rfl|rfl|rfl|rfl|rfl|rfl|rfl|rfl
  all_goals first|rfl|simp[aW,Site.lt,I6]
 goes _ _ _ _ _:=trivial
 sK r x hc hx:=by
  obtain⟨y,hy,rfl⟩:=hx;rw[Fp];have oO:yZ prog (pG P1) (.vE 79 (.t 46) (fQ prog 197 0) Y197_0a Y197_0b [47]):=Ea.2.2.2.2.1.2;have mP:=ZfX b es hs ss _ hH y;obtain⟨HC,ZV⟩:=(AD hb).1 hy;unfold Bk.pT at ZV;simp only[dJ,decide_eq_true_eq]at ZV;have CM:=Xp hb HC ZV.2.2;have jL:=wW hb HC;obtain⟨z,hz⟩:∃z,b.items[si]?=some z:=⟨b.items[si],bB K6⟩;have pY:(b.items.map It.pv)[si]?=some (.agg [.i z.dR,.bool z.gU,.i z.val.lo,.i z.val.hi]):=by rw[bW,hz];rfl
  have HB:b.item (si:Int)=z:=by unfold Bk.item;rw[H7,hz];rfl
  rw[ZV.2.1,HB]at CM;have w1:IntKind.i64.wrap (day-y.day)=day-y.day:=wrap64 (by omega);have w2:IntKind.i64.wrap (z.dR*(day-y.day))=z.dR*(day-y.day):=wrap64 (by omega);have hk:=hS.k;have kB:NR b S si day r y=match(b.held []).contains y.num with
   |true=>r.cut ((S y.num).wider (z.dR*(day-y.day)))
   |false=>r:=by unfold NR;rw[HB]
  have sQ:=fun h:(b.held []).contains y.num=true=>hS.f y HC ZV.1 (jB.1 h)
  rw[kB];obtain⟨far,MF⟩:∃far,z.dR*(day-y.day)=far:=⟨_,rfl⟩;rw[MF]at CM kB;have w2':IntKind.i64.wrap (z.dR*(day-y.day))=far:=w2.trans MF;rw[MF];clear kB w2 MF;generalize CN:(b.held []).contains y.num=v at *;refine XS mixed oO.1 oO.2.1 rfl rfl (by simp) rfl ?_;simp[-getElem?_pos,-List.getElem?_map,Y197_0a,Y197_0b,R3,laid,qK,Ct.pv,gX,aW];refine xM (gE:=[.ptr (.par 0) 0,.pv y.pv]) (B:=laid 0 (gP b es hs ss)) (fs:=[.ptr (.par 6) 0]) (cs:=[]) 50 [.par 6,.par 7,.par 8,.par 9,.par 10] ?_ rfl rfl ?_ ?_ ?_ mP ?_
  .rfl
  .simp[laid,gP,aW]
  .rfl
  .rfl
  rintro r0 B0 ⟨rfl,rfl⟩;refine⟨rfl,by simp[laid,gP,aW],?_⟩;cases v
  .simp[-getElem?_pos,-List.getElem?_map,laid,gP,aW,-aU];exact⟨[],[.par 1,.par 2,.par 3,.par 4,.par 5,.par 6,.par 7,.par 8,.par 9,.par 10,.par 11],rfl,rfl,by simp[aY],rfl,by simp[aY]⟩
  .obtain⟨EJ,pO⟩:=sQ rfl;unfold Cr.lS at pO;have hwd:=Zr9 (S y.num) far (wrap64 (by omega)) (wrap64 (by omega)) (wrap64 (by omega));have Z2:=Dw r ((S y.num).wider far);generalize S y.num=sy at *;unfold zR at EJ;unfold Cr.pv at EJ;simp[-getElem?_pos,-List.getElem?_map,laid,gP,aW,-aU,hk,EJ,aT,pY,w1,w2'];refine cQ [] [sy.pv,.i far] hwd ?_;simp[-getElem?_pos,-List.getElem?_map,aM];refine .inl (cQ [] [r.pv,(sy.wider far).pv] Z2 ?_);simp[-getElem?_pos,-List.getElem?_map,aM,Cr.pv];exact⟨[],[.par 1,.par 2,.par 3,.par 4,.par 5,.par 6,.par 7,.par 8,.par 9,.par 10,.par 11],rfl,rfl,by simp[aY],rfl,by simp[aY]⟩
end
section
attribute [local irreducible] Bk.held Bk.nums
theorem Zki {b:Bk}{hb:b.ok}{es hs ss:List (PV×PV)}{hH:mU (fun n=>(b.held []).contains n) hs}{S:Int->Cr}{si:Nat}{K6:si<b.items.length}{day below:Int}{hd:0<=day/\day<=1000}{hS:SMap b S below ss}:∀(l:List Ct) (r:Cr),(i7 b hb es hs ss hH S si K6 day below hd hS).run r (lR l)=(l.foldl (NR b S si day) r,true)
 |[],r=>rfl
 |x::l,r=>by
  show(i7 b hb es hs ss hH S si K6 day below hd hS).run (NR b S si day r x) (lR l)=_;rw[Zki l];rfl
theorem Zh4 {b:Bk}{S:Int->Cr}{item day:Int}:∀(l:List Ct) (r:Cr),l.foldl (NR b S item day) r=(l.filter fun c=>(b.held []).contains c.num).foldl (fun r c=>r.cut ((S c.num).wider ((b.item item).dR*(day-c.day)))) r
 |[],r=>rfl
 |c::l,r=>by
  rw[List.foldl_cons,Zh4 l,xL];unfold NR;cases h:(b.held []).contains c.num
  .rfl
  .rfl
theorem Zof {b:Bk}(hb:b.ok){S:Int->Cr}{item day below:Int}(h:(b.item item).gU=false):(b.qX item day below).foldl (NR b S item day) I3=b.kD (b.held []) S item day below:=by
 rw[Zh4,Hv h];refine ZqE (fun c=>?_);rw[iU,iU,AD hb,dJ];exact⟨fun⟨⟨h1,h2⟩,h3⟩=>⟨h1,h2,h3⟩,fun⟨h1,h2,h3⟩=>⟨⟨h1,h2⟩,h3⟩⟩
theorem Yc (b:Bk)(hb:b.ok)(es hs ss:List (PV×PV))(kZ:xD b es)(hH:mU (fun n=>(b.held []).contains n) hs)(S:Int->Cr)(si:Nat)(K6:si<b.items.length)(day below:Int)(hd:0<=day/\day<=1000)(hS:SMap b S below ss):
  cR prog 197 [.ptr (.par 0) 0,.pv (.i si),.pv (.i day),.pv (.i below)] (laid 0 (gP b es hs ss)) (fun r B=>r=.pv (b.kD (b.held []) S si day below).pv/\B=laid 0 (gP b es hs ss)):=by
 refine N7 [.par 0,.par 1,.par 2,.par 3,.par 4] L197 ?_;intro R hR;obtain⟨z,hz⟩:∃z,b.items[si]?=some z:=⟨b.items[si],bB K6⟩;have pY:(b.items.map It.pv)[si]?=some (.agg [.i z.dR,.bool z.gU,.i z.val.lo,.i z.val.hi]):=by rw[bW,hz];rfl
 have HB:b.item (si:Int)=z:=by unfold Bk.item;rw[H7,hz];rfl
 rcases Bool.eq_false_or_eq_true z.gU with tT|tT
 .have hv:b.kD (b.held []) S si day below=z.val:=by unfold Bk.kD;rw[HB,if_pos tT]
  simp[L197,laid,gP,aW,aT,↓pY,tT,-aU];rw[<-hR,hv];simp[laid,gP,aW,aT,Cr.pv]
 have hv:=Zof hb (S:=S) (item:=(si:Int)) (day:=day) (below:=below) (by rw[HB];exact tT);have hit:=Ey (i7 b hb es hs ss hH S si K6 day below hd hS) b hb [] es kZ 11 9 10 (fun c _=>⟨rfl,rfl⟩) (fun c _=>rfl) si day below I3 trivial (fun z hz=>⟨z,hz,rfl⟩);rw[Zki,hv]at hit;have gN:=(i7 b hb es hs ss hH S si K6 day below hd hS).cl (b.kD (b.held []) S si day below);generalize b.kD (b.held []) S si day below=xC at *;simp[L197,laid,gP,aW,aT,↓pY,tT,-aU];refine .inl (cQ [] [] ZiL ?_);simp[aM,I3,Cr.pv];refine cM [.ptr (.par 0) 0,.pv (.i si),.pv (.i day),.pv (.i below)] (laid 0 (kE b [] es)) 46 [.par 3,.par 4] (by simp[laid,kE,aW,aT]) (AZ b [] es si day below) (by simp[laid,kE,aW]) ?_;simp[laid,kE,aW,OK,-aU];refine WY [.loc 79 0,.loc 10 0,.loc 4 0,.loc 5 0,.loc 6 0,.loc 9 0,.par 0,.par 1,.par 2,.par 3,.par 4,.loc 46 0] [(4,.ptr (.loc 4 0) 0),(5,.ptr (.loc 5 0) 0),(6,.ptr (.loc 6 0) 0),(9,.ptr (.loc 9 0) 0),(10,.ptr (.loc 10 0) 0)] (gf:=155) (fs:=[]) (cs:=[.ptr (.loc 46 0) 0,.pv (.ref [.i below]),.pv (.ref [.i si]),.pv (.ref [.i day])]) ?_ ?_ rfl rfl ?_ ?_ ?_ hit ?_
 .rfl
 .simp
 .simp[i7,R3,laid,aW,gX,I3]
 .rfl
 .rfl
 rintro r B' ⟨rfl,rfl⟩;refine⟨rfl,?_,?_⟩
 .exact fun p hp=>WR (n:=12) (L:=R3 b es hs ss si day xC) (by simp[R3]) gN p hp
 refine⟨_,_,_,_,_,rfl,?_⟩;simp[i7,R3,laid,kX,aW,gX,-aU];trace_state;simp;rw[<-hR];simp[laid,gP,aW,Cr.pv]
end
section
attribute [local irreducible] Bk.held Bk.nums Bk.span
def jO (b:Bk)(k:Nat):List (PV×PV):=nR id (fun n=>(b.span (b.held []) n).pv) ((b.nums.take k).filter fun n=>(b.held []).contains n)
theorem Mm {b:Bk}{k:Nat}{n x:Int}(h:b.nums[k]?=some n):x∈b.nums.take k↔x∈b.nums/\x<n:=by
 obtain⟨h2,e2⟩:=bZ.1 h;have hs:=Q2.1 (TH (b:=b));constructor
 .intro hx;obtain⟨i,hi⟩:=iJ.1 hx;rw[mG]at hi;split at hi
  .rename_i qO;obtain⟨h1,e1⟩:=bZ.1 hi
   have:=hs i k h1 h2 qO
   rw[e1,e2]at this;exact⟨dK hi,this⟩
  .cases hi
 .rintro⟨hx,aI⟩;obtain⟨i,hi⟩:=iJ.1 hx;obtain⟨h1,e1⟩:=bZ.1 hi;rw[iJ];refine⟨i,?_⟩;rw[mG,if_pos,hi];rcases Nat.lt_trichotomy i k with qO|qO|qO
  .exact qO
  .subst qO;rw[e1]at e2;omega
  .have:=hs k i h2 h1 qO
   rw[e1,e2]at this;omega
theorem Zpt {b:Bk}(hb:b.ok){k:Nat}{n:Int}(h:b.nums[k]?=some n):SMap b (b.span (b.held [])) n (jO b k):=by
 refine⟨NY,fun c hc aI hx=>?_⟩;unfold jO;rw[JV,Gb,if_pos]
 .refine⟨rfl,?_⟩
  have:=XL hb c hc hx
  have jL:=wW hb hc;unfold Cr.lS at this ⊢;omega
 .rw[iU,Mm h];exact⟨⟨(s8 hb).2 ⟨c,hc,rfl⟩,aI⟩,jB.2 hx⟩
theorem Zfj {b:Bk}(hb:b.ok)(below:Int):SMap b (b.span (b.held [])) below (jO b b.nums.length):=by
 refine⟨NY,fun c hc aI hx=>?_⟩;unfold jO;rw[JV,Gb,if_pos]
 .refine⟨rfl,?_⟩
  have:=XL hb c hc hx
  have jL:=wW hb hc;unfold Cr.lS at this ⊢;omega
 .rw[iU,nF];exact⟨(s8 hb).2 ⟨c,hc,rfl⟩,jB.2 hx⟩
theorem Zm1 {b:Bk}{k:Nat}{n:Int}(h:b.nums[k]?=some n)(hx:(b.held []).contains n=false):jO b (k+1)=jO b k:=by
 unfold jO;rw[mJ,h,F2]
 have:(Option.some n).toList.filter (fun n=>(b.held []).contains n)=[]:=by
  simp only[Option.toList,xL,hx,List.filter_nil];rfl
 rw[this,uG]
theorem Zps {b:Bk}{k:Nat}{n:Int}(h:b.nums[k]?=some n)(hx:(b.held []).contains n=true):mK (.i n) (b.span (b.held []) n).pv (jO b k)=jO b (k+1):=by
 unfold jO;rw[Gt (fun x hm=>?_),mJ,h,F2]
 .have:(Option.some n).toList.filter (fun n=>(b.held []).contains n)=[n]:=by
   simp only[Option.toList,xL,hx,List.filter_nil];rfl
  rw[this];unfold nR;rw[mF];rfl
 .have:=(Mm h).1 (iU.1 hm).1
  show x≠n;omega
theorem Zkk {b:Bk}(hb:b.ok){n:Int}(hn:n∈b.nums)(hx:(b.held []).contains n=true):b.span (b.held []) n=(b.kD (b.held []) (b.span (b.held [])) (b.get n).src (b.get n).day n).plus (b.get n).diff/\(b.kD (b.held []) (b.span (b.held [])) (b.get n).src (b.get n).day n).lS 2000000000:=by
 have h1:=Fu hb n hn;obtain⟨nn,rfl⟩:∃nn:Nat,n=nn:=⟨n.toNat,by omega⟩;obtain⟨rT,nV⟩:=U9 hb hn;have jL:=wW hb rT;refine⟨?_,?_⟩
 .rw[Ma (by omega),if_pos hx]
 .have Ag:=Zlc hb rT (bad:=[]) (by rw[nV];exact jB.1 hx);rw[nV]at Ag
  have:=ZhB hb (held:=b.held []) (S:=b.span (b.held [])) (day:=(b.get (nn:Int)).day) (below:=(nn:Int)) (A:=1000000000) jL.2.2.2.2.2.1 jL.2.2.2.2.2.2.1 (by omega) (by omega) Ag fun o ho aI PQ=>by
   have k1:=XL hb o ho PQ;have k2:=wW hb ho;unfold Cr.lS at k1 ⊢;omega
  unfold Cr.lS at this ⊢;omega
def xU (b:Bk)(es hs ss:List (PV×PV)):List aJ:=[.cells [.ptr (.par 6) 0],.cells [.ptr (.par 3) 0],.cells [.fn 242 [] [.ptr (.par 0) 0,.ptr (.par 1) 0,.ptr (.par 2) 0]],
 .cells [.ptr (.par 6) 0,.mp (.par 4),.mp (.par 5)],.map hs,.map ss,.cells (aW b (.par 7) (fZ [])),.map es]
end
section
attribute [local irreducible] Bk.held Bk.nums Bk.span
def rcJ (b:Bk)(es hs ss:List (PV×PV))(L:List PV)(n:Int)(R:Cr):AS:=⟨[(0,.pv (.aF false 1 L)),(1,.ptr (.par 0) 0),(2,.ptr (.par 1) 0),(3,.ptr (.par 2) 0),(23,.mp (.par 5)),(25,.pv (.i n)),(36,.pv (.agg [.i R.lo,.i R.hi]))],laid 0 (xU b es hs ss)⟩
theorem YR (b:Bk)(hb:b.ok)(es hs:List (PV×PV))(kZ:xD b es)(hH:mU (fun n=>(b.held []).contains n) hs):∀m k,m+k=b.nums.length->
  cR prog 242 [.pv (.aF false 1 ((b.nums.drop k).map aN)),.ptr (.par 0) 0,.ptr (.par 1) 0,.ptr (.par 2) 0] (laid 0 (xU b es hs (jO b k))) (fun r B=>r=.pv (.bL [])/\B=laid 0 (xU b es hs (jO b b.nums.length)))
 |0,k,hk=>by
  have VB:k=b.nums.length:=by omega
  subst VB;rw[List.drop_length];refine cB [.par 0,.par 1,.par 2,.par 3,.par 4,.par 5,.par 6,.par 7] L242 ?_;simp[L242,xU,laid,aW]
 |m+1,k,hk=>by
  have ih:=YR b hb es hs kZ hH m (k+1) (by omega);have aI:k<b.nums.length:=by omega
  obtain⟨n,hn⟩:∃n,b.nums[k]?=some n:=⟨b.nums[k],bB aI⟩;have x8:b.nums.drop k=n::b.nums.drop (k+1):=by
   rw[y8 aI]
   have:b.nums[k]=n:=by rw[bB aI]at hn;exact Option.some.inj hn
   rw[this]
  have Av:=dK hn;obtain⟨rT,nV⟩:=U9 hb Av;have jL:=wW hb rT;have mI:=kZ.f n;rw[if_pos Av]at mI;have S8:=kZ.k;have hsk:=Zm1 hn;have jJ:=Zps hn;have UP:=Zkk hb Av;have hSM:=Zpt hb hn;have QB:=hSM.k;have M9:=ZfX b es hs (jO b k) _ hH (b.get n);rw[x8];generalize b.nums.drop (k+1)=rest at *;generalize jO b b.nums.length=SF at *;generalize jO b (k+1)=S2 at *;generalize wI:jO b k=S1 at *;generalize b.get n=y at *;obtain⟨yn,yi,ys,yd,yv,⟨yl,yh⟩⟩:=y;simp only at nV jL UP M9;subst nV;unfold Ct.pv at mI;obtain⟨si,rfl⟩:∃si:Nat,ys=si:=⟨ys.toNat,by omega⟩;have K6:si<b.items.length:=by omega
  have K3:=Yc b hb es hs S1 kZ hH (b.span (b.held [])) si K6 yd yn (by omega) hSM;generalize b.kD (b.held []) (b.span (b.held [])) si yd yn=R1 at *;generalize b.span (b.held []) yn=R2 at *;generalize CN:(b.held []).contains yn=v at *;refine N7 [.par 0,.par 1,.par 2,.par 3,.par 4,.par 5,.par 6,.par 7] L242 ?_;intro R hR;have x4:(0:Int)<(rest.length:Int)+1:=by omega
  have hlz:¬((rest.length:Int)+1=0):=by omega
  simp[L242,xU,laid,aW,hlz,S8,mI,-aU,aN];refine cM [.ptr (.par 0) 0,.pv (Ct.pv ⟨yn,yi,si,yd,yv,⟨yl,yh⟩⟩)] (laid 0 (gP b es hs S1)) 19 [.par 3,.par 4,.par 5,.par 6,.par 7] (by simp[laid,gP,aW]) M9 (by simp[laid,gP,aW]) ?_;have oY:1<=rest.length+1:=by omega
  have jS:(rest.map aN).take rest.length=rest.map aN:=fO (by rw[fV];exact fG _);cases v
  .rw[hsk rfl]at ih;simp[laid,gP,aW,-aU,aP,oY,jS];refine cM [.pv (.aF false 1 (rest.map aN)),.ptr (.par 0) 0,.ptr (.par 1) 0,.ptr (.par 2) 0] (laid 0 (xU b es hs S1)) 40 [.par 0,.par 1,.par 2,.par 3,.par 4,.par 5,.par 6,.par 7] (by simp[laid,xU,aW]) ih (by simp[laid,xU,aW]) ?_;simp[laid,xU,aW];rw[<-hR];simp[laid,xU,aW]
  .obtain⟨hq1,Si⟩:=UP rfl;have nC:=jJ rfl;unfold Cr.pv at nC;unfold Cr.lS at Si;have N3:=jL.2.2.2.2.2.2.2.2.2.2.2.2.1;unfold Cr.lS at N3;simp only at N3;have LW:=ZrE R1 ⟨yl,yh⟩ (wrap64 (by simp only;omega)) (wrap64 (by simp only;omega));rw[<-hq1]at LW;simp[laid,gP,aW,-aU];refine JQ (rcJ b es hs S1 (aN yn::rest.map aN) yn R2) ?_ ?_
   .simp[gO,gY,-aU]
    repeat' (with_reducible refine And.intro ?_ ?_)
    all_goals
     refine cM [.ptr (.par 0) 0,.pv (.i si),.pv (.i yd),.pv (.i yn)] (laid 0 (gP b es hs S1)) 33 [.par 3,.par 4,.par 5,.par 6,.par 7] (by simp[laid,gP,aW]) K3 (by simp[laid,gP,aW]) ?_;simp[laid,gP,aW,-aU,gO,gY,Cr.pv]
    all_goals
     refine cQ [] [R1.pv,Cr.pv ⟨yl,yh⟩] LW ?_;simp[aM,Cr.pv,-aU]
    all_goals
     refine Sub.mk ?_ ?_
     .simp[aN]
     .simp[laid,xU,aW]
   .simp[gO,gY,rcJ,laid,xU,aW,-aU,QB,aP,oY,jS,nC];refine cM [.pv (.aF false 1 (rest.map aN)),.ptr (.par 0) 0,.ptr (.par 1) 0,.ptr (.par 2) 0] (laid 0 (xU b es hs S2)) 40 [.par 0,.par 1,.par 2,.par 3,.par 4,.par 5,.par 6,.par 7] (by simp[laid,xU,aW]) ih (by simp[laid,xU,aW]) ?_;simp[laid,xU,aW];rw[<-hR];simp[laid,xU,aW]
end
section
attribute [local irreducible] Bk.held Bk.nums Bk.span
def YH (b:Bk)(es hs:List (PV×PV)):AS:=⟨[(1,.ptr (.loc 1 0) 0),(3,.ptr (.loc 3 0) 0),(10,.ptr (.loc 10 0) 0)],
 [(.loc 10 0,.cells [.ptr (.par 0) 0,.mp (.loc 7 0),.mp (.loc 8 0)]),(.loc 7 0,.map hs),(.loc 8 0,.map []),(.loc 3 0,.cells [.pv .eU]),(.loc 1 0,.cells [.ptr (.par 0) 0]),(.par 0,.cells (aW b (.par 1) (fZ []))),(.par 1,.map es)]⟩
def GB (b:Bk)(es:List (PV×PV))(r:AV)(B:List (Site×aJ)):Prop:=r=.ptr (.ret 0) 0/\B=[(.ret 0,.cells [.ptr (.par 0) 0,.mp (.ret 1),.mp (.ret 2)]),(.ret 1,.map (kK b [] b.nums.length)),(.ret 2,.map (jO b b.nums.length)),(.par 0,.cells (aW b (.par 1) (fZ []))),(.par 1,.map es)]
theorem Zn (b:Bk)(hb:b.ok)(es:List (PV×PV))(kZ:xD b es):cR prog 195 [.ptr (.par 0) 0] (laid 0 (kE b [] es)) (GB b es):=by
 have N0:=Xr b hb [] es kZ;have lW:=YR b hb es _ kZ (TC hb []) b.nums.length 0 (by omega);have Ai:jO b 0=[]:=by unfold jO;rw[List.take_zero];rfl
 rw[Ai,List.drop_zero]at lW;refine cB [.loc 10 0,.loc 7 0,.loc 8 0,.par 0,.par 1] L195 ?_;generalize hR:GB b es=R;have hRd:∀r B,R r B↔GB b es r B:=fun r B=>by rw[hR]
 unfold GB at hRd;generalize kK b [] b.nums.length=hs at *;generalize jO b b.nums.length=SF at *;clear hR;simp[L195,laid,kE,aW,-aU];refine JQ (YH b es hs) ?_ ?_
 .simp[gO,gY,-aU]
  repeat' (with_reducible refine And.intro ?_ ?_)
  all_goals
   refine cM [.ptr (.par 0) 0] (laid 0 (kE b [] es)) 7 [.par 0,.par 1] (by simp[laid,kE,aW]) N0 (by simp[laid,kE,aW]) ?_;simp[laid,kE,aW,-aU,gO,gY]
  repeat' (with_reducible refine And.intro ?_ ?_)
  all_goals
   refine Sub.mk ?_ ?_
   .simp
   .simp[aW]
 .simp[gO,gY,YH,aW,-aU];refine cM [.pv (.aF false 1 (b.nums.map aN)),.ptr (.par 0) 0,.ptr (.par 1) 0,.ptr (.par 2) 0] (laid 0 (xU b es hs [])) 17 [.loc 1 0,.loc 3 0,.loc 4 0,.loc 10 0,.loc 7 0,.loc 8 0,.par 0,.par 1] (by simp[laid,xU,aW]) lW (by simp[laid,xU,aW]) ?_;simp[laid,xU,aW];rw[hRd];simp[aW]
end
section
attribute [local irreducible] Bk.held Bk.nums Bk.span
def Bk.JI (b:Bk)(n:Int):Bool:=(b.held []).contains n&&decide ((b.kD (b.held []) (b.span (b.held [])) (b.get n).it (b.get n).day 1000).hi<(b.kD (b.held []) (b.span (b.held [])) (b.get n).it (b.get n).day 1000).lo)
theorem ZjN {b:Bk}(hb:b.ok):b.contra=b.nums.any b.JI:=by
 rw[qS];unfold Bk.contra;rw[oU,oU];constructor
 .rintro⟨c,hc,h⟩;refine⟨c.num,(s8 hb).2 ⟨c,hc,rfl⟩,?_⟩;unfold Bk.JI;rw[r9 hb hc];exact h
 .rintro⟨n,hn,h⟩;obtain⟨h1,h2⟩:=U9 hb hn;refine⟨b.get n,h1,?_⟩;unfold Bk.JI at h;rw[h2];exact h
def DA (b:Bk)(es hs ss:List (PV×PV))(k:Nat):AS:=⟨[(0,.ptr (.par 0) 0),(13,.pv (.aF false 1 (b.nums.map aN))),(14,.pv (.i b.nums.length)),(15,.pv (.i k))],laid 0 (gP b es hs ss)⟩
theorem ZhL (b:Bk)(hb:b.ok)(es hs ss:List (PV×PV))(kZ:xD b es)(hH:mU (fun n=>(b.held []).contains n) hs)(hS:SMap b (b.span (b.held [])) 1000 ss):
  cR prog 196 [.ptr (.par 0) 0] (laid 0 (gP b es hs ss)) (fun r B=>r=.pv (.bool b.contra)/\B=laid 0 (gP b es hs ss)):=by
 have hlen:=WW (b:=b);rw[ZjN hb];refine N7 [.par 0,.par 1,.par 2,.par 3,.par 4] L196 ?_;intro R hR;simp[L196,laid,gP,aW,-aU];refine eO (fun n τ=>∃k:Nat,k<=b.nums.length/\n=b.nums.length-k/\(∀(j:Nat) (x:Int),j<k->b.nums[j]?=some x->b.JI x=false)/\τ=DA b es hs ss k) ⟨b.nums.length,DA b es hs ss 0,Sub.mk (by simp) (by simp[laid,gP,aW]),0,gV _,rfl,(fun j x hj=>by omega),rfl⟩ ?_;rintro J hJ n τ ⟨k,hk,rfl,hinv,rfl⟩;by_cases aI:k<b.nums.length
 .obtain⟨x,hx⟩:∃x,b.nums[k]?=some x:=⟨b.nums[k],bB aI⟩;have K0:=dK hx;have oM:(b.nums.map aN)[k]?=some (.i x):=by rw[bW,hx];rfl
  have hw:=bN (k:=k) (by omega);have aG:b.nums.length-(k+1)<b.nums.length-k:=by omega
  obtain⟨rT,nV⟩:=U9 hb K0;have jL:=wW hb rT;have mI:=kZ.f x;rw[if_pos K0]at mI;have S8:=kZ.k;have M9:=ZfX b es hs ss _ hH (b.get x);have aB:b.JI x=false->J (b.nums.length-(k+1)) (DA b es hs ss (k+1)):=fun h=>hJ _ _ ⟨k+1,aI,rfl,(fun j y hj hy=>by
   rcases Nat.lt_succ_iff_lt_or_eq.1 hj with h'|h'
   .exact hinv j y h' hy
   .subst h';rw[hx]at hy;cases hy;exact h),rfl⟩
  have oN:b.JI x=true->b.nums.any b.JI=true:=fun h=>oU.2 ⟨x,K0,h⟩
  have Cc:b.JI x=((b.held []).contains x&&decide ((b.kD (b.held []) (b.span (b.held [])) (b.get x).it (b.get x).day 1000).hi<(b.kD (b.held []) (b.span (b.held [])) (b.get x).it (b.get x).day 1000).lo)):=rfl;generalize b.get x=y at *;obtain⟨yn,yi,ys,yd,yv,⟨yl,yh⟩⟩:=y;simp only at nV jL M9 Cc;subst nV;unfold Ct.pv at mI;obtain⟨si,rfl⟩:∃si:Nat,yi=si:=⟨yi.toNat,by omega⟩;have K3:=Yc b hb es hs ss kZ hH (b.span (b.held [])) si (by omega) yd 1000 (by omega) hS;generalize b.kD (b.held []) (b.span (b.held [])) si yd 1000=R1 at *;have iY:decide ((k:Int)<(b.nums.length:Int))=true:=by simp;omega
  simp[-decide_eq_true_eq,-decide_eq_false_iff_not,DA,laid,gP,aW,aI,↓oM,S8,mI,-aU];refine cM [.ptr (.par 0) 0,.pv (.i si),.pv (.i yd),.pv (.i 1000)] (laid 0 (gP b es hs ss)) 33 [.par 0,.par 1,.par 2,.par 3,.par 4] (by simp[laid,gP,aW]) K3 (by simp[laid,gP,aW]) ?_;simp[-decide_eq_true_eq,-decide_eq_false_iff_not,laid,gP,aW,-aU,Cr.pv];refine cM [.ptr (.par 0) 0,.pv (Ct.pv ⟨yn,si,ys,yd,yv,⟨yl,yh⟩⟩)] (laid 0 (gP b es hs ss)) 36 [.par 0,.par 1,.par 2,.par 3,.par 4] (by simp[laid,gP,aW]) M9 (by simp[laid,gP,aW]) ?_;generalize(b.held []).contains yn=v at *;cases v
  .have aB:=aB Cc;simp[-decide_eq_true_eq,-decide_eq_false_iff_not,laid,gP,aW,-aU,hw];exact⟨_,_,aG,Sub.mk (by simp) (by simp[laid,gP,aW]),aB⟩
  .rw[Bool.true_and]at Cc;cases hd:decide (R1.hi<R1.lo)
   .have aB:=aB (by rw[Cc,hd]);simp[-decide_eq_true_eq,-decide_eq_false_iff_not,laid,gP,aW,-aU,hw,hd];exact⟨_,_,aG,Sub.mk (by simp) (by simp[laid,gP,aW]),aB⟩
   .have he:=oN (by rw[Cc,hd]);simp[-decide_eq_true_eq,-decide_eq_false_iff_not,laid,gP,aW,hd];rw[<-hR,he];simp[laid,gP,aW]
 .have he:k=b.nums.length:=by omega
  subst he;clear hJ;have mM:b.nums.any b.JI=false:=by
   rw[List.any_eq_false];intro x hx;obtain⟨j,hj⟩:=iJ.1 hx;simp[hinv j x (bZ.1 hj).1 hj]
  simp[DA,laid,gP,aW];rw[<-hR,mM];simp[laid,gP,aW]
end
section
attribute [local irreducible] Bk.held Bk.nums Bk.span
def Bk.uY (b:Bk)(item day:Int):Cr×Int:=if b.uW item day=0 then(if b.contra=true then(⟨0,0⟩,9)else(b.kD (b.held []) (b.span (b.held [])) item day 1000,0))else(⟨0,0⟩,b.uW item day)
def KV (x:Cr×Int):PV:=.bL [x.1.pv,.i x.2]
theorem Zvk (b:Bk)(hi:b.items.length<=1000)(hc:b.aA.length<=1000)(item day:Int):aD prog 159 [b.pv,.i item,.i day] (KV (b.uY item day)):=by
 have QU:=ZoZ b hi hc item day;refine T8 L159 ?_;intro R hR;simp[L159,Bk.pv];refine cL [.pv b.pv,.pv (.i item),.pv (.i day)] [] 16 [] rfl QU ?_
 rintro r0 B0 (⟨h0,rfl,rfl⟩|⟨h0,x7,hit,Uh,hih,es,kZ,rfl,rfl⟩)
 .refine⟨rfl,by simp,?_⟩;have hd:decide (b.uW item day=0)=false:=by simpa using h0
  have hM:b.uY item day=(⟨0,0⟩,b.uW item day):=by unfold Bk.uY;rw[if_neg h0]
  simp[-decide_eq_true_eq,-decide_eq_false_iff_not,hd];rw[<-hR,hM];exact⟨rfl,rfl⟩
 have hb:b.ok:=Bk.U6.1 x7;refine⟨rfl,by simp[aW],?_⟩;have jJ:=Zn b hb es kZ;have hH:=TC hb [];have hS:=Zfj hb 1000;simp[aW];refine cM [.ptr (.par 0) 0] (laid 0 (kE b [] es)) 25 [.loc 16 0,.loc 16 1] (by simp[laid,kE,aW]) jJ (by simp[aW]) ?_;generalize kK b [] b.nums.length=hs at *;generalize jO b b.nums.length=ss at *;have Z2:=ZhL b hb es hs ss kZ hH hS;have hii:0<=item/\item<b.items.length:=by
  unfold Bk.uK iX at hit;simp only[dJ,decide_eq_true_eq]at hit;omega
 have HX:0<=day/\day<=1000:=by
  unfold iX at Uh;simp only[dJ,decide_eq_true_eq]at Uh;omega
 obtain⟨si,rfl⟩:∃si:Nat,item=si:=⟨item.toNat,by omega⟩;have K3:=Yc b hb es hs ss kZ hH (b.span (b.held [])) si (by omega) day 1000 HX hS;have hM:b.uY si day=if b.contra=true then(⟨0,0⟩,9)else(b.kD (b.held []) (b.span (b.held [])) si day 1000,0):=by unfold Bk.uY;rw[if_pos h0]
 rw[hM]at hR;generalize b.kD (b.held []) (b.span (b.held [])) si day 1000=R1 at *;simp[aW];refine cM [.ptr (.par 0) 0] (laid 0 (gP b es hs ss)) 27 [.loc 25 0,.loc 25 1,.loc 25 2,.loc 16 0,.loc 16 1] (by simp[laid,gP,aW]) Z2 (by simp[laid,gP,aW]) ?_;cases nV:b.contra
 .rw[nV,if_neg (by simp)]at hR;simp[laid,gP,aW];refine cM [.ptr (.par 0) 0,.pv (.i si),.pv (.i day),.pv (.i 1000)] (laid 0 (gP b es hs ss)) 32 [.loc 25 0,.loc 25 1,.loc 25 2,.loc 16 0,.loc 16 1] (by simp[laid,gP,aW]) K3 (by simp[laid,gP,aW]) ?_;simp[laid,gP,aW,Cr.pv];rw[<-hR];exact⟨rfl,rfl⟩
 .rw[nV,if_pos rfl]at hR;simp[laid,gP,aW];rw[<-hR];exact⟨rfl,rfl⟩
end
def lexB:List Int->List Int->Bool
 |a::bS,b::bs=>decide (a<b)||(decide (a=b)&&lexB bS bs)
 |[],_::_=>true
 |_,[]=>false
def sG (a b:List Int):Bool:=decide (a.length<b.length)||(decide (a.length=b.length)&&lexB a b)
theorem Zk4:∀a:List Int,lexB a a=false
 |[]=>rfl
 |a::bS=>by unfold lexB;rw[Zk4 bS];simp
theorem Zk3:∀a b:List Int,a.length=b.length->lexB a b=false->lexB b a=false->a=b
 |[],[],_,_,_=>rfl
 |[],_::_,h,_,_=>by cases h
 |_::_,[],h,_,_=>by cases h
 |a::bS,b::bs,h,h1,h2=>by
  unfold lexB at h1 h2;simp only[Bool.or_eq_false_iff,Bool.and_eq_false_iff,decide_eq_false_iff_not]at h1 h2;have e:a=b:=by omega
  subst e;rw[Zk3 bS bs (by simpa using h) (by simpa using h1.2) (by simpa using h2.2)]
theorem ZgJ:∀a b c:List Int,lexB a b=true->lexB b c=true->lexB a c=true
 |[],[],_,h,_=>by cases h
 |[],b::bs,c,_,h=>by
  cases c with
  |nil=>cases h
  |cons c cs=>rfl
 |a::bS,[],_,h,_=>by cases h
 |a::bS,b::bs,[],_,h=>by cases h
 |a::bS,b::bs,c::cs,h1,h2=>by
  unfold lexB at h1 h2 ⊢;simp only[rV,dJ,decide_eq_true_eq]at h1 h2 ⊢;rcases h1 with h1|⟨h1,H3⟩<;>rcases h2 with h2|⟨h2,uA⟩
  .left;omega
  .left;omega
  .left;omega
  .right;exact⟨by omega,ZgJ bS bs cs H3 uA⟩
theorem Fz (a:List Int):sG a a=false:=by unfold sG;rw[Zk4];simp
theorem ZnX {a b:List Int}(h1:sG a b=false)(h2:sG b a=false):a=b:=by
 unfold sG at h1 h2;simp only[Bool.or_eq_false_iff,Bool.and_eq_false_iff,decide_eq_false_iff_not]at h1 h2;have e:a.length=b.length:=by omega
 exact Zk3 a b e (by rcases h1.2 with h|h;exact absurd e h;exact h) (by rcases h2.2 with h|h;exact absurd e.symm h;exact h)
theorem Zis {a b c:List Int}(h1:sG a b=true)(h2:sG b c=true):sG a c=true:=by
 unfold sG at h1 h2 ⊢;simp only[rV,dJ,decide_eq_true_eq]at h1 h2 ⊢;rcases h1 with h1|⟨h1,H3⟩<;>rcases h2 with h2|⟨h2,uA⟩
 .left;omega
 .left;omega
 .left;omega
 .right;exact⟨by omega,ZgJ a b c H3 uA⟩
theorem Zk5:∀(a b:List Int) (n:Int),a.length=b.length->lexB (a++[n]) (b++[n])=lexB a b
 |[],[],n,_=>by simp[lexB]
 |[],_::_,_,h=>by cases h
 |_::_,[],_,h=>by cases h
 |a::bS,b::bs,n,h=>by
  show(decide (a<b)||(decide (a=b)&&lexB (bS++[n]) (bs++[n])))=(decide (a<b)||(decide (a=b)&&lexB bS bs));rw[Zk5 bS bs n (by simpa using h)]
theorem Ztl (a b:List Int)(n:Int):sG (a++[n]) (b++[n])=sG a b:=by
 unfold sG;rw[gD,gD];by_cases h:a.length=b.length
 .rw[Zk5 a b n h,qS];simp
 .rw[qS];simp[h]
def iA (o:Option (List Int))(x:List Int):Option (List Int):=match o with
 |none=>some x
 |some m=>if sG x m=true then some x else some m
def lL (l:List (List Int)):Option (List Int):=l.foldl iA none
theorem Zfu:∀(l:List (List Int)) (o:Option (List Int)),(o=none/\l=[]/\l.foldl iA o=none)\/∃m,l.foldl iA o=some m/\(o=some m\/m∈l)/\(∀x∈l,sG x m=false)/\∀x,o=some x->sG x m=false
 |[],none=>.inl ⟨rfl,rfl,rfl⟩
 |[],some x=>.inr ⟨x,rfl,.inl rfl,fun y hy=>(by cases hy),fun y hy=>by cases hy;exact Fz x⟩
 |y::l,o=>by
  rw[List.foldl_cons];have key:∃z,iA o y=some z/\(o=some z\/z=y)/\sG y z=false/\∀x,o=some x->sG x z=false:=by
   cases o with
   |none=>exact⟨y,rfl,.inr rfl,Fz y,fun x hx=>by cases hx⟩
   |some m=>
    unfold iA;simp only;split
    .rename_i h;refine⟨y,rfl,.inr rfl,Fz y,fun x hx=>?_⟩;cases hx;rw[Bool.eq_false_iff];intro h'
     have:=Zis h h'
     rw[Fz]at this;cases this
    .rename_i h;exact⟨m,rfl,.inl rfl,by simpa using h,fun x hx=>by cases hx;exact Fz m⟩
  obtain⟨z,h1,h2,h3,h4⟩:=key;rw[h1];rcases Zfu l (some z)with⟨h,_⟩|⟨m,k1,k2,k3,k4⟩
  .cases h
  .have kz:=k4 z rfl;have lift:∀x,sG x z=false->sG x m=false:=fun x hx=>by
    rw[Bool.eq_false_iff];intro h';by_cases e:sG z x=true
    .have:=Zis e h'
     rw[kz]at this;cases this
    .have:x=z:=ZnX hx (by simpa using e)
     subst this;rw[kz]at h';cases h'
   refine .inr ⟨m,k1,?_,fun x hx=>?_,fun x hx=>lift x (h4 x hx)⟩
   .rcases k2 with k2|k2
    .cases k2;rcases h2 with h2|h2
     .exact .inl h2
     .right;rw[h2];simp
    .right;simp[k2]
   .rcases jN.1 hx with e|e
    .subst e;exact lift _ h3
    .exact k3 x e
theorem KB {l:List (List Int)}:lL l=none↔l=[]:=by
 rcases Zfu l none with⟨_,h1,h2⟩|⟨m,h1,h2,_⟩
 .exact⟨fun _=>h1,fun _=>h2⟩
 .constructor
  .intro h;rw[lL,h1]at h;cases h
  .intro h;subst h;rcases h2 with h2|h2
   .cases h2
   .cases h2
theorem OA {l:List (List Int)}{m:List Int}(h:lL l=some m):m∈l/\∀x∈l,sG x m=false:=by
 rcases Zfu l none with⟨_,_,h2⟩|⟨m',h1,h2,h3,_⟩
 .rw[lL,h2]at h;cases h
 .rw[lL,h1]at h;cases h;rcases h2 with h2|h2
  .cases h2
  .exact⟨h2,h3⟩
theorem Lj {l:List (List Int)}{m:List Int}(h1:m∈l)(h2:∀x∈l,sG x m=false):lL l=some m:=by
 cases h:lL l with
 |none=>rw[KB]at h;subst h;cases h1
 |some m'=>
  obtain⟨k1,k2⟩:=OA h;rw[ZnX (k2 m h1) (h2 m' k1)]
theorem Zir {l l':List (List Int)}(h:∀x,x∈l↔x∈l'):lL l=lL l':=by
 cases hm:lL l with
 |none=>
  rw[KB]at hm;subst hm;symm;rw[KB];cases l' with
  |nil=>rfl
  |cons x l'=>exact absurd ((h x).2 (by simp)) (by simp)
 |some m=>
  obtain⟨h1,h2⟩:=OA hm;exact(Lj ((h m).1 h1) fun x hx=>h2 x ((h x).2 hx)).symm
theorem ZgE {α:Type}{L:List α}{f:α->List (List Int)}:lL (L.flatMap f)=lL (L.filterMap fun x=>lL (f x)):=by
 cases hm:lL (L.flatMap f)with
 |none=>
  rw[KB,List.flatMap_eq_nil_iff]at hm;symm;rw[KB,List.filterMap_eq_nil_iff];exact fun x hx=>KB.2 (hm x hx)
 |some m=>
  obtain⟨h1,h2⟩:=OA hm;obtain⟨x,hx,K0⟩:=List.mem_flatMap.1 h1;have e:lL (f x)=some m:=Lj K0 fun y hy=>h2 y (List.mem_flatMap.2 ⟨x,hx,hy⟩)
  refine(Lj (List.mem_filterMap.2 ⟨x,hx,e⟩) fun y hy=>?_).symm;obtain⟨z,hz,hzy⟩:=List.mem_filterMap.1 hy;exact h2 y (List.mem_flatMap.2 ⟨z,hz,(OA hzy).1⟩)
theorem Zp5 {l:List (List Int)}{n:Int}:lL (l.map (·++[n]))=(lL l).map (·++[n]):=by
 cases hm:lL l with
 |none=>rw[KB]at hm;subst hm;rfl
 |some m=>
  obtain⟨h1,h2⟩:=OA hm;refine Lj (iI.2 ⟨m,h1,rfl⟩) fun x hx=>?_
  obtain⟨y,hy,rfl⟩:=iI.1 hx;rw[Ztl];exact h2 y hy
theorem LG (x:Int):aD prog 241 [.i x] (.bool false):=by
 refine cS L241 ?_;simp[L241]
def wN (x y:Int):Int:=if x<y then -1 else if y<x then 1 else 0
theorem Ee (x y:Int):aD prog 194 [.i x,.i y] (.i (wN x y)):=by
 refine cS L194 ?_;simp[L194];refine cG [.i x] (LG x) ?_;simp;refine cG [.i y] (LG y) ?_;simp;unfold wN;by_cases h1:x<y
 .simp[h1]
 .by_cases h2:y<x
  .simp[h1,h2]
  .simp[h1,h2]
def cmpL:List Int->List Int->Int
 |[],[]=>0
 |[],_::_=>-1
 |_::_,[]=>1
 |a::r,b::t=>if wN a b=0 then cmpL r t else wN a b
theorem ZoD {a b:List Int}{k:Nat}{x y:Int}(h1:a[k]?=some x)(h2:b[k]?=some y):cmpL (a.drop k) (b.drop k)=if wN x y=0 then cmpL (a.drop (k+1)) (b.drop (k+1))else wN x y:=by
 obtain⟨q1,e1⟩:=bZ.1 h1;obtain⟨q2,e2⟩:=bZ.1 h2;rw[y8 q1,y8 q2,e1,e2];rfl
theorem Zoz (a b:List Int)(ha:a.length<=2000)(hb:b.length<=2000):aD prog 158 [.aF false 1 (a.map aN),.aF false 1 (b.map aN)] (.i (cmpL a b)):=by
 refine cS L158 ?_;simp[L158];refine eO (fun n τ=>∃k:Nat,k<=a.length/\k<=b.length/\n=a.length-k/\cmpL a b=cmpL (a.drop k) (b.drop k)/\τ=⟨[(0,.pv (.aF false 1 (a.map aN))),(1,.pv (.aF false 1 (b.map aN))),(9,.pv (.aF false 1 (a.map aN))),(10,.pv (.i a.length)),(11,.pv (.i k))],[]⟩)
  ⟨a.length,⟨[(0,.pv (.aF false 1 (a.map aN))),(1,.pv (.aF false 1 (b.map aN))),(9,.pv (.aF false 1 (a.map aN))),(10,.pv (.i a.length)),(11,.pv (.i 0))],[]⟩,Sub.mk (by simp) (by simp),0,gV _,gV _,rfl,rfl,rfl⟩ ?_
 rintro J hJ n τ ⟨k,hk,sH,rfl,hinv,rfl⟩;rw[hinv];by_cases aI:k<a.length
 .obtain⟨x,hx⟩:∃x,a[k]?=some x:=⟨a[k],bB aI⟩;have oM:(a.map aN)[k]?=some (.i x):=by rw[bW,hx];rfl
  have hw:=bN (k:=k) (by omega);have aG:a.length-(k+1)<a.length-k:=by omega
  have iY:decide ((k:Int)<(a.length:Int))=true:=by simp;omega
  by_cases kH:k<b.length
  .obtain⟨y,hy⟩:∃y,b[k]?=some y:=⟨b[k],bB kH⟩;have HU:(b.map aN)[k]?=some (.i y):=by rw[bW,hy];rfl
   have yL:¬b.length<=k:=by omega
   have x8:=ZoD hx hy;have mB:=Ee x y;have aB:=fun h:wN x y=0=>hJ _ _ ⟨k+1,aI,kH,rfl,by rw[hinv,x8,if_pos h],rfl⟩
   rw[x8];generalize wN x y=c at *;simp[-decide_eq_true_eq,-decide_eq_false_iff_not,aI,↓oM,yL,↓HU];refine cG [.i x,.i y] mB ?_;cases hc:decide (c=0)
   .have sU:¬c=0:=by simpa using hc
    simp[sU]
   .have sU:c=0:=by simpa using hc
    have aB:=aB sU;simp[sU,hw];exact⟨_,_,aG,Sub.mk (by simp) (by simp),aB⟩
  .have EN:k=b.length:=by omega
   have yL:b.length<=k:=by omega
   have hv:cmpL (a.drop k) (b.drop k)=1:=by
    rw[EN,List.drop_length,y8 (by omega)];rfl
   rw[hv];simp[-decide_eq_true_eq,-decide_eq_false_iff_not,aI,↓oM,yL]
 .have he:k=a.length:=by omega
  subst he;clear hJ;rw[List.drop_length];by_cases hl:a.length<b.length
  .have hd:decide ((a.length:Int)<(b.length:Int))=true:=by simp;omega
   have hv:cmpL [] (b.drop a.length) = -1:=by rw[y8 hl];rfl
   rw[hv];simp[-decide_eq_true_eq,-decide_eq_false_iff_not,hl]
  .have hd:decide ((a.length:Int)<(b.length:Int))=false:=by simp;omega
   have hv:cmpL [] (b.drop a.length)=0:=by rw[List.drop_eq_nil_of_le (by omega)];rfl
   rw[hv];simp[-decide_eq_true_eq,-decide_eq_false_iff_not,hd,hl]
def IW (a b:List Int):Int:=if(a.length:Int)-b.length=0 then cmpL a b else(a.length:Int)-b.length
theorem ZoC:∀a b:List Int,a.length=b.length->decide (cmpL a b<0)=lexB a b
 |[],[],_=>rfl
 |[],_::_,h=>by cases h
 |_::_,[],h=>by cases h
 |a::r,b::t,h=>by
  have ih:=ZoC r t (by simpa using h);show decide ((if wN a b=0 then cmpL r t else wN a b)<0)=(decide (a<b)||(decide (a=b)&&lexB r t));unfold wN;by_cases h1:a<b
  .rw[if_pos h1];simp[h1]
  .rw[if_neg h1];by_cases h2:b<a
   .rw[if_pos h2]
    have:¬a=b:=by omega
    simp[h1,this]
   .have e:a=b:=by omega
    rw[if_neg h2,if_pos rfl,ih];simp[e]
theorem ZoP (a b:List Int):decide (IW a b<0)=sG a b:=by
 unfold IW sG;by_cases h:a.length=b.length
 .rw[if_pos (by omega),ZoC a b h];simp[h]
 .rw[if_neg (by omega),qS];simp[h];omega
theorem Ps (x y:Int):aD prog 157 [.aF false 1 [.i x,.i y]] (.i (if x=0 then y else x)):=by
 refine cS L157 ?_;simp[L157];have S:Nat->AS:=fun k=>⟨[(3,.pv (.i 0)),(6,.pv (.aF false 1 [.i x,.i y])),(7,.pv (.i 2)),(8,.pv (.i k))],[]⟩
 refine eO (fun n τ=>(n=2/\τ=⟨[(3,.pv (.i 0)),(6,.pv (.aF false 1 [.i x,.i y])),(7,.pv (.i 2)),(8,.pv (.i 0))],[]⟩)\/(n=1/\x=0/\τ=⟨[(3,.pv (.i 0)),(6,.pv (.aF false 1 [.i x,.i y])),(7,.pv (.i 2)),(8,.pv (.i 1))],[]⟩)\/(n=0/\x=0/\y=0/\τ=⟨[(3,.pv (.i 0)),(6,.pv (.aF false 1 [.i x,.i y])),(7,.pv (.i 2)),(8,.pv (.i 2))],[]⟩)) ⟨2,_,Sub.mk (by simp) (by simp),.inl ⟨rfl,rfl⟩⟩ ?_;have w1:IntKind.i64.wrap 1=1:=rfl;have w2:IntKind.i64.wrap 2=2:=rfl;rintro J hJ n τ (⟨rfl,rfl⟩|⟨rfl,hx,rfl⟩|⟨rfl,hx,hy,rfl⟩)
 .by_cases h:x=0
  .have aB:=hJ _ _ (.inr (.inl ⟨rfl,h,rfl⟩));clear hJ;subst h;simp[w1];exact⟨_,_,(by omega:1<2),Sub.mk (by simp) (by simp),aB⟩
  .simp[h]
 .subst hx;by_cases h:y=0
  .have aB:=hJ _ _ (.inr (.inr ⟨rfl,rfl,h,rfl⟩));clear hJ;subst h;simp[w2];exact⟨_,_,(by omega:0<1),Sub.mk (by simp) (by simp),aB⟩
  .simp[h]
 .subst hx hy;simp
theorem Zlt (a b:List Int)(ha:a.length<=2000)(hb:b.length<=2000):aD prog 115 [.aF false 1 (a.map aN),.aF false 1 (b.map aN)] (.i (IW a b)):=by
 have hc:=Zoz a b ha hb;have hw:IntKind.i64.wrap ((a.length:Int)-(b.length:Int))=(a.length:Int)-b.length:=wrap64 (by omega);have ho:=Ps ((a.length:Int)-b.length) (cmpL a b);refine cS L115 ?_;simp[L115,hw];refine cG [.aF false 1 (a.map aN),.aF false 1 (b.map aN)] hc ?_;simp;refine gF (k:=1) (fs:=[]) (xs:=[.aF false 1 [.i ((a.length:Int)-b.length),.i (cmpL a b)]]) (cs:=[]) rfl rfl ho rfl ?_;simp[IW]
section
def Bk.y2 (b:Bk)(held:List Int):Nat->Int->List (List Int)
 |0,_=>[]
 |k+1,n=>if n=(k:Int)then(if(b.item (b.get n).src).gU=true then[[n]]else(held.filter fun m=>yX (b.get n) (b.get m)).flatMap fun m=>(b.y2 held k m).map (·++[n]))else b.y2 held k n
theorem Mn {b:Bk}{held:List Int}{k:Nat}{n:Int}:b.y2 held (k+1) n=if n=(k:Int)then(if(b.item (b.get n).src).gU=true then[[n]]else(held.filter fun m=>yX (b.get n) (b.get m)).flatMap fun m=>(b.y2 held k m).map (·++[n]))else b.y2 held k n:=rfl
theorem Zgd {b:Bk}{held:List Int}{n:Int}:∀{k:Nat},n<(k:Int)->∀j,b.y2 held (k+j) n=b.y2 held k n
 |k,h,0=>rfl
 |k,h,j+1=>by
  rw[<-Nat.add_assoc,Mn,if_neg (by omega)];exact Zgd h j
def Bk.z7 (b:Bk)(held:List Int)(n:Int):List (List Int):=b.y2 held 1000 n
theorem ZiR {b:Bk}(hb:b.ok){held:List Int}(hh:∀m∈held,m∈b.nums){n:Nat}(hn:n<1000)(UW:(n:Int)∈b.nums):b.z7 held n=if(b.item (b.get n).src).gU=true then[[(n:Int)]]else(held.filter fun m=>yX (b.get n) (b.get m)).flatMap fun m=>(b.z7 held m).map (·++[(n:Int)]):=by
 have e:b.z7 held n=b.y2 held (n+1) n:=by
  unfold Bk.z7;rw[show 1000=n+1+(1000-(n+1)) by omega];exact Zgd (by omega) _
 rw[e,Mn,if_pos rfl];split
 .rfl
 .have key:∀L:List Int,(∀m∈L,m<(n:Int))->(L.flatMap fun m=>(b.y2 held n m).map (·++[(n:Int)]))=L.flatMap fun m=>(b.z7 held m).map (·++[(n:Int)]):=by
   intro L;induction L with
   |nil=>exact fun _=>rfl
   |cons m L ih=>
    intro h;rw[List.flatMap_cons,List.flatMap_cons,ih fun x hx=>h x (by simp[hx])];congr 2;unfold Bk.z7;rw[show 1000=n+(1000-n) by omega];exact(Zgd (h m (by simp)) _).symm
  refine key _ fun m hm=>?_
  rw[iU]at hm;have h1:=hm.2;unfold yX at h1;simp only[dJ,decide_eq_true_eq]at h1;have h2:=(U9 hb (hh m hm.1)).2;have h3:=(U9 hb UW).2;omega
def Bk.DM (b:Bk)(held:List Int)(n:Int):Option (List Int):=lL (b.z7 held n)
theorem Zop {b:Bk}(hb:b.ok){held:List Int}(hh:∀m∈held,m∈b.nums){n:Nat}(hn:n<1000)(UW:(n:Int)∈b.nums):b.DM held n=if(b.item (b.get n).src).gU=true then some [(n:Int)]else lL ((held.filter fun m=>yX (b.get n) (b.get m)).filterMap fun m=>(b.DM held m).map (·++[(n:Int)])):=by
 unfold Bk.DM;rw[ZiR hb hh hn UW];split
 .rfl
 .rw[ZgE];congr 2;funext m;exact Zp5
theorem XA {b:Bk}(hb:b.ok){bad:List Int}:∀m∈b.held bad,m∈b.nums:=fun m hm=>by
 obtain⟨c,hc,e,_⟩:=(KA hb).1 hm;exact(s8 hb).2 ⟨c,hc,e⟩
def Bk.En (b:Bk)(held:List Int)(item day:Int):Option (List Int):=lL ((held.filter fun m=>decide ((b.get m).it=item)&&(b.get m).on day).flatMap (b.z7 held))
theorem Zq7 {b:Bk}{held:List Int}{item day:Int}:b.En held item day=lL ((held.filter fun m=>decide ((b.get m).it=item)&&(b.get m).on day).filterMap (b.DM held)):=by
 unfold Bk.En;rw[ZgE];rfl
theorem Zlo {b:Bk}{held:List Int}:∀(k:Nat) (n:Int),∀l∈b.y2 held k n,∃l',l=l'++[n]
 |0,n,l,h=>by cases h
 |k+1,n,l,h=>by
  rw[Mn]at h;split at h
  .split at h
   .simp at h;exact⟨[],by simpa using h⟩
   .obtain⟨m,_,hm⟩:=List.mem_flatMap.1 h;obtain⟨l',_,rfl⟩:=iI.1 hm;exact⟨l',rfl⟩
  .exact Zlo k n l h
theorem ZjV {b:Bk}(hb:b.ok):∀n:Nat,(n:Int)∈b.held []->b.z7 (b.held []) n≠[]:=by
 intro n;induction n using Nat.strongRecOn with
 |_ n ih=>
 intro hx;have UW:=XA hb _ hx;obtain⟨h1,h2⟩:=U9 hb UW;obtain⟨n',yF,h3,h4⟩:=FI hb h1
 have:n'=n:=by omega
 subst this;rw[ZiR hb (XA hb) h4 UW];split
 .simp
 .rename_i hs;intro e;rw[List.flatMap_eq_nil_iff]at e;obtain⟨c,hc,e1,e2⟩:=(KA hb).1 hx;have hcg:b.get (n':Int)=c:=by rw[<-e1];exact r9 hb hc
  unfold Bk.Q3 at e2;rw[dJ,rV]at e2;rcases e2.1 with h|h
  .rw[<-hcg]at h;exact hs h
  .rw[oU]at h;obtain⟨o,ho,h5⟩:=h;rw[dJ,jB]at h5;obtain⟨m,hm,_,_⟩:=FI hb ho;have aI:o.num<c.num:=by have:=h5.1;unfold yX at this;simp only[dJ,decide_eq_true_eq]at this;exact this.1.2
   have gQ:o.num∈(b.held []).filter fun m=>yX (b.get n') (b.get m):=by
    rw[iU,hcg,r9 hb ho];exact⟨h5.2,h5.1⟩
   have:=e o.num gQ
   rw[List.map_eq_nil_iff,hm]at this;rw[hm]at h5;exact ih m (by omega) h5.2 this
attribute [local irreducible] Bk.held Bk.nums Bk.span Bk.z7
theorem Yw {b:Bk}{held:List Int}:∀(k:Nat) (n:Int),∀l∈b.y2 held k n,l.length<=k
 |0,n,l,h=>by cases h
 |k+1,n,l,h=>by
  rw[Mn]at h;split at h
  .split at h
   .simp at h;subst h;simp
   .obtain⟨m,_,hm⟩:=List.mem_flatMap.1 h;obtain⟨l',lH,rfl⟩:=iI.1 hm
    have:=Yw k m l' lH
    rw[gD];simp;exact this
  .have:=Yw k n l h;omega
def Bk.uI (b:Bk)(n:Int):List Int:=(b.DM (b.held []) n).getD []
theorem Gi {b:Bk}{n:Int}:(b.uI n).length<=1000:=by
 unfold Bk.uI;cases h:b.DM (b.held []) n with
 |none=>simp
 |some l=>
  unfold Bk.DM at h
  have:=(OA h).1
  unfold Bk.z7 at this;exact Yw 1000 n l this
theorem JU {b:Bk}(hb:b.ok){n:Int}(h:(b.held []).contains n=true):b.DM (b.held []) n=some (b.uI n)/\b.uI n≠[]:=by
 have hx:=jB.1 h;have hn:=Fu hb n (Ff hb hx);obtain⟨nn,rfl⟩:∃nn:Nat,n=nn:=⟨n.toNat,by omega⟩;unfold Bk.uI;cases he:b.DM (b.held []) (nn:Int)with
 |none=>
  unfold Bk.DM at he;rw[KB]at he;exact absurd he (ZjV hb nn hx)
 |some l=>
  refine⟨rfl,fun e=>?_⟩;unfold Bk.DM at he
  have:=(OA he).1
  unfold Bk.z7 at this;obtain⟨l',lH⟩:=Zlo 1000 _ l this;have e':l=[]:=e;rw[e']at lH;simp at lH
structure u9 (b:Bk)(below:Int)(em:List (PV×PV)):Prop where
 k:zZ kI em=true
 f:∀m:Int,m<below->(eX (.i m) em).getD (.emp (some true))=if(b.held []).contains m=true then .aF false 1 ((b.uI m).map aN)else .emp (some true)
theorem Zk (H:Int->Bool)(hs:List (PV×PV))(hH:mU H hs)(c:Ct):cR prog 113 [.pv c.pv,.ptr (.par 0) 0] (laid 0 (eR hs 0)) (fun r B=>r=.pv (.bool (H c.num))/\B=laid 0 (eR hs 0)):=by
 have hf:=hH.f c.num;have hk:=hH.k;refine cB [.par 0,.par 1] L113 ?_;simp[L113,eR,laid,Ct.pv,hf,hk]
theorem ZqM:aD prog 69 [.emp (some true)] (.emp (some true)):=by
 refine cS L69 ?_;simp[L69,dH]
end
section
attribute [local irreducible] Bk.held Bk.nums Bk.span Bk.uI
theorem MY:yZ prog (pG P1) L74.code:=Fy L74_ok L74_tab
def oS:Option (List Int)->PV
 |none=>.emp (some true)
 |some l=>.aF false 1 (l.map aN)
noncomputable def Z7 (b:Bk)(es hs em:List (PV×PV))(n:Int)(s:Option (List Int)):List aJ:=[.loop (fQ prog 74 0) [72] 136 [(11,.ptr (.par 2) 0),(12,.ptr (.par 5) 0),(14,.ptr (.par 7) 0),(16,.ptr (.par 1) 0)] none,
 .cells [.pv (oS s)],.cells [.fn 113 [] [.ptr (.par 3) 0]],.cells [.mp (.par 4)],.map hs,.cells [.mp (.par 6)],.map em,.cells [.pv (.i n)],gX (.par 9),.cells (aW b (.par 10) (fZ [])),.map es]
def Fi (b:Bk)(n:Int)(s:Option (List Int))(c:Ct):Option (List Int):=match(b.held []).contains c.num with
 |true=>iA s (b.uI c.num++[n])
 |false=>s
def ZrX (s:Option (List Int)):Prop:=∀l,s=some l->l≠[]/\l.length<=1001
noncomputable def VN (b:Bk)(es hs em:List (PV×PV))(n:Int)(s:Option (List Int))(y:Ct)(a:AV)(B:List (Site×aJ)):AS:=⟨[(11,.ptr (.par 2) 0),(12,.ptr (.par 5) 0),(14,.ptr (.par 7) 0),(16,.ptr (.par 1) 0),(17,.ptr (.loc 17 0) 0),(77,a),(79,.vec (.loc 79 0) 1 0 1)],
 (laid 0 (Z7 b es hs em n s)).drop 1++((.loc 17 0,.cells [.pv (.i y.num),.pv (.i y.it),.pv (.i y.src),.pv (.i y.day),.pv (.i y.valid),.pv (.i y.diff.lo),.pv (.i y.diff.hi)])::(.loc 79 0,.arr 3 1 [.i n])::B)⟩
noncomputable def NA (b:Bk)(hb:b.ok)(es hs em:List (PV×PV))(hH:mU (fun n=>(b.held []).contains n) hs)(n:Int)(hE:u9 b n em):Cons prog where
 m:=11
 S:=Option (List Int)
 X:=Z7 b es hs em n
 step s x:=(Fi b n s (IP x),true)
 good x:=∃c:Ct,c.num<n/\x=c.pv
 live:=ZrX
 m0:=by omega
 len _:=rfl
 cl c:=by
  intro bx hb;simp only[Z7,jN,List.not_mem_nil,or_false]at hb;rcases hb with rfl|rfl|rfl|rfl|rfl|rfl|rfl|rfl|rfl|rfl|rfl
  all_goals first|rfl|simp[aW,Site.lt,I6]
 goes s x hs hx _:=by
  obtain⟨y,hy,rfl⟩:=hx;rw[Fp];have hl:=Gi (b:=b) (n:=y.num);intro l lH;unfold Fi at lH;split at lH
  .unfold iA at lH;split at lH
   .cases lH;exact⟨by simp,by rw[gD];simp;omega⟩
   .split at lH
    .cases lH;exact⟨by simp,by rw[gD];simp;omega⟩
    .exact hs l lH
  .exact hs l lH
 sK s x hc hx:=by
  obtain⟨y,hy,rfl⟩:=hx;rw[Fp];have oO:yZ prog (pG P1) (.vE 136 (.t 71) (fQ prog 74 0) Y74_0a Y74_0b [72]):=MY.2.2.2.2.2.1.2.2.2.1.2.2.2.2.1.2;have hf:=hE.f y.num hy;have hk:=hE.k;have mP:=Zk _ hs hH y;have hlen:=Gi (b:=b) (n:=y.num);have M0:=fun h:(b.held []).contains y.num=true=>(JU hb h).2
  have kB:Fi b n s y=match(b.held []).contains y.num with
   |true=>iA s (b.uI y.num++[n])
   |false=>s:=rfl
  rw[kB];clear kB;generalize b.uI y.num=E at *;generalize CN:(b.held []).contains y.num=v at *;refine XS mixed oO.1 oO.2.1 rfl rfl (by simp) rfl ?_;cases v
  .rw[if_neg (by simp)]at hf;simp[-getElem?_pos,-List.getElem?_map,Y74_0a,Y74_0b,Z7,laid,qK,Ct.pv,gX,aW,hk,hf];refine JQ (VN b es hs em n s y (.pv (.emp (some true))) []) ?_ ?_
   .simp[-getElem?_pos,-List.getElem?_map,gO,gY];refine⟨?_,?_⟩
    all_goals
     refine cQ [] [.emp (some true)] ZqM ?_;simp[-getElem?_pos,-List.getElem?_map,aM,gO,gY];refine Sub.mk ?_ ?_
     .simp
     .simp[Z7,laid,gX,aW]
   .simp[-getElem?_pos,-List.getElem?_map,gO,gY,VN,Z7,laid,gX,aW,aP];refine cM [.pv y.pv,.ptr (.par 0) 0] (laid 0 (eR hs 0)) 83 [.par 3,.par 4] (by simp[laid,eR]) mP (by simp[laid,eR]) ?_;simp[-getElem?_pos,-List.getElem?_map,laid,eR,-aU];exact⟨[],[.par 1,.par 2,.par 3,.par 4,.par 5,.par 6,.par 7,.par 8,.par 9,.par 10],rfl,rfl,by simp[aY],rfl,by simp[aY]⟩
  .rw[if_pos rfl]at hf;simp[-getElem?_pos,-List.getElem?_map,Y74_0a,Y74_0b,Z7,laid,qK,Ct.pv,gX,aW,hk,hf];refine JQ (VN b es hs em n s y (.vec (.loc 77 0) 1 0 E.length) [(.loc 77 0,.arr 3 1 (E.map aN))]) ?_ ?_
   .simp[-getElem?_pos,-List.getElem?_map,gO,gY];refine⟨?_,?_⟩
    all_goals
     refine ZqT [] (fs:=[]) (xs:=[.aF false 1 (E.map aN)]) (cs:=[]) rfl rfl (Yy E (M0 rfl) (by omega)) ?_;simp[-getElem?_pos,-List.getElem?_map,aM,gO,gY];refine Sub.mk ?_ ?_
     .simp[VN]
     .simp[VN,Z7,laid,gX,aW]
   .have II:E.length<=999999:=by omega
    have VJ:(E.map aN).take E.length=E.map aN:=fO (by simp);have CV:(E.map aN++[PV.i n]).take (E.length+1)=E.map aN++[PV.i n]:=fO (by simp);simp[-getElem?_pos,-List.getElem?_map,gO,gY,VN,Z7,laid,gX,aW,aP,II];refine cM [.pv y.pv,.ptr (.par 0) 0] (laid 0 (eR hs 0)) 83 [.par 3,.par 4] (by simp[laid,eR]) mP (by simp[laid,eR]) ?_;cases s with
    |none=>
     simp[-getElem?_pos,-List.getElem?_map,laid,eR,oS,dH,-aU];exact⟨[.loc 80 0],[.par 1,.par 2,.par 3,.par 4,.par 5,.par 6,.par 7,.par 8,.par 9,.par 10],rfl,rfl,by simp[aY,AS.cD,AV.cD,AV.aY,aJ.cD,EV,eA,CV],rfl,by simp[aY,AS.cD,AV.cD,AV.aY,aJ.cD,EV,eA,CV,iA,aN]⟩
    |some l=>
     obtain⟨x4,oY⟩:=hc l rfl;have qN:dH .sl (.pv (.aF false 1 (l.map aN)))=some false:=by
      cases l with
      |nil=>exact absurd rfl x4
      |cons a r=>rfl
     have Up:=Zlt (E++[n]) l (by rw[gD];simp;omega) (by omega);have aI:=ZoP (E++[n]) l;have bT:iA (some l) (E++[n])=if sG (E++[n]) l=true then some (E++[n])else some l:=rfl;rw[bT];simp[-getElem?_pos,-List.getElem?_map,laid,eR,oS,qN,-aU];refine gF (k:=0) (fs:=[]) (xs:=[.aF false 1 ((E++[n]).map aN),.aF false 1 (l.map aN)]) (cs:=[]) rfl (by simp[jE,AV.snap,AV.FB,aN];try exact CV) Up rfl ?_;cases hd:sG (E++[n]) l
     .rw[hd]at aI;simp[-getElem?_pos,-List.getElem?_map,-decide_eq_true_eq,-decide_eq_false_iff_not,aI,-aU];exact⟨[],[.par 1,.par 2,.par 3,.par 4,.par 5,.par 6,.par 7,.par 8,.par 9,.par 10],rfl,rfl,by simp[aY],rfl,by simp[aY]⟩
     .rw[hd]at aI;simp[-getElem?_pos,-List.getElem?_map,-decide_eq_true_eq,-decide_eq_false_iff_not,aI,-aU];exact⟨[.loc 80 0],[.par 1,.par 2,.par 3,.par 4,.par 5,.par 6,.par 7,.par 8,.par 9,.par 10],rfl,rfl,by simp[aY,AS.cD,AV.cD,AV.aY,aJ.cD,EV,eA,CV],rfl,by simp[aY,AS.cD,AV.cD,AV.aY,aJ.cD,EV,eA,CV,aN]⟩
end
section
attribute [local irreducible] Bk.held Bk.nums Bk.span Bk.uI
noncomputable def MZ (b:Bk)(es hs em:List (PV×PV))(s:Option (List Int)):List aJ:=[.loop (fQ prog 74 1) [115] 136 [(11,.ptr (.par 2) 0),(12,.ptr (.par 5) 0),(19,.ptr (.par 1) 0)] none,
 .cells [.pv (oS s)],.cells [.fn 113 [] [.ptr (.par 3) 0]],.cells [.mp (.par 4)],.map hs,.cells [.mp (.par 6)],.map em,gX (.par 8),.cells (aW b (.par 9) (fZ [])),.map es]
def Fb (b:Bk)(s:Option (List Int))(c:Ct):Option (List Int):=match(b.held []).contains c.num with
 |true=>iA s (b.uI c.num)
 |false=>s
noncomputable def RX (b:Bk)(hb:b.ok)(es hs em:List (PV×PV))(hH:mU (fun n=>(b.held []).contains n) hs)(hE:u9 b 1000 em):Cons prog where
 m:=10
 S:=Option (List Int)
 X:=MZ b es hs em
 step s x:=(Fb b s (IP x),true)
 good x:=∃c:Ct,c.num<1000/\x=c.pv
 live:=ZrX
 m0:=by omega
 len _:=rfl
 cl c:=by
  intro bx hb;simp only[MZ,jN,List.not_mem_nil,or_false]at hb;rcases hb with rfl|rfl|rfl|rfl|rfl|rfl|rfl|rfl|rfl|rfl
  all_goals first|rfl|simp[aW,Site.lt,I6]
 goes s x hs hx _:=by
  obtain⟨y,hy,rfl⟩:=hx;rw[Fp];have hl:=Gi (b:=b) (n:=y.num);intro l lH;unfold Fb at lH;split at lH
  .rename_i hh;have dA:=(JU hb hh).2;unfold iA at lH;split at lH
   .cases lH;exact⟨dA,by omega⟩
   .split at lH
    .cases lH;exact⟨dA,by omega⟩
    .exact hs l lH
  .exact hs l lH
 sK s x hc hx:=by
  obtain⟨y,hy,rfl⟩:=hx;rw[Fp];have oO:yZ prog (pG P1) (.vE 136 (.t 114) (fQ prog 74 1) Y74_1a Y74_1b [115]):=MY.2.2.2.2.2.2.2.1.2;have hf:=hE.f y.num hy;have hk:=hE.k;have mP:=Zk _ hs hH y;have hlen:=Gi (b:=b) (n:=y.num);have M0:=fun h:(b.held []).contains y.num=true=>(JU hb h).2
  have kB:Fb b s y=match(b.held []).contains y.num with
   |true=>iA s (b.uI y.num)
   |false=>s:=rfl
  rw[kB];clear kB;generalize b.uI y.num=E at *;generalize CN:(b.held []).contains y.num=v at *;refine XS mixed oO.1 oO.2.1 rfl rfl (by simp) rfl ?_;cases v
  .rw[if_neg (by simp)]at hf;simp[-getElem?_pos,-List.getElem?_map,Y74_1a,Y74_1b,MZ,laid,qK,Ct.pv,gX,aW,hk,hf];refine cM [.pv y.pv,.ptr (.par 0) 0] (laid 0 (eR hs 0)) 122 [.par 3,.par 4] (by simp[laid,eR]) mP (by simp[laid,eR]) ?_;simp[-getElem?_pos,-List.getElem?_map,laid,eR,-aU];exact⟨[],[.par 1,.par 2,.par 3,.par 4,.par 5,.par 6,.par 7,.par 8,.par 9],rfl,rfl,by simp[aY],rfl,by simp[aY]⟩
  .rw[if_pos rfl]at hf;simp[-getElem?_pos,-List.getElem?_map,Y74_1a,Y74_1b,MZ,laid,qK,Ct.pv,gX,aW,hk,hf];refine cM [.pv y.pv,.ptr (.par 0) 0] (laid 0 (eR hs 0)) 122 [.par 3,.par 4] (by simp[laid,eR]) mP (by simp[laid,eR]) ?_;cases s with
   |none=>
    simp[-getElem?_pos,-List.getElem?_map,laid,eR,oS,dH,-aU];exact⟨[],[.par 1,.par 2,.par 3,.par 4,.par 5,.par 6,.par 7,.par 8,.par 9],rfl,rfl,by simp[aY],rfl,by simp[aY,iA]⟩
   |some l=>
    obtain⟨x4,oY⟩:=hc l rfl;have qN:dH .sl (.pv (.aF false 1 (l.map aN)))=some false:=by
     cases l with
     |nil=>exact absurd rfl x4
     |cons a r=>rfl
    have Up:=Zlt E l (by omega) (by omega);have aI:=ZoP E l;have bT:iA (some l) E=if sG E l=true then some E else some l:=rfl;rw[bT];simp[-getElem?_pos,-List.getElem?_map,laid,eR,oS,qN,-aU];refine cG [.aF false 1 (E.map aN),.aF false 1 (l.map aN)] Up ?_;cases hd:sG E l
    .rw[hd]at aI;simp[-getElem?_pos,-List.getElem?_map,-decide_eq_true_eq,-decide_eq_false_iff_not,aI,-aU];exact⟨[],[.par 1,.par 2,.par 3,.par 4,.par 5,.par 6,.par 7,.par 8,.par 9],rfl,rfl,by simp[aY],rfl,by simp[aY]⟩
    .rw[hd]at aI;simp[-getElem?_pos,-List.getElem?_map,-decide_eq_true_eq,-decide_eq_false_iff_not,aI,-aU];exact⟨[],[.par 1,.par 2,.par 3,.par 4,.par 5,.par 6,.par 7,.par 8,.par 9],rfl,rfl,by simp[aY],rfl,by simp[aY,aW,aN]⟩
theorem ZoQ {b:Bk}{hb:b.ok}{es hs em:List (PV×PV)}{hH:mU (fun n=>(b.held []).contains n) hs}{n:Int}{hE:u9 b n em}:∀(l:List Ct) (s:Option (List Int)),(NA b hb es hs em hH n hE).run s (lR l)=((((l.filter fun c=>(b.held []).contains c.num).map fun c=>b.uI c.num++[n])).foldl iA s,true)
 |[],s=>rfl
 |x::l,s=>by
  show(NA b hb es hs em hH n hE).run (Fi b n s x) (lR l)=_;rw[ZoQ l];unfold Fi;cases h:(b.held []).contains x.num
  .simp only[xL,h,Bool.false_eq_true,if_false];rfl
  .simp only[xL,h,if_true,iL,List.foldl_cons];rfl
theorem ZoO {b:Bk}{hb:b.ok}{es hs em:List (PV×PV)}{hH:mU (fun n=>(b.held []).contains n) hs}{hE:u9 b 1000 em}:∀(l:List Ct) (s:Option (List Int)),(RX b hb es hs em hH hE).run s (lR l)=((((l.filter fun c=>(b.held []).contains c.num).map fun c=>b.uI c.num)).foldl iA s,true)
 |[],s=>rfl
 |x::l,s=>by
  show(RX b hb es hs em hH hE).run (Fb b s x) (lR l)=_;rw[ZoO l];unfold Fb;cases h:(b.held []).contains x.num
  .simp only[xL,h,Bool.false_eq_true,if_false];rfl
  .simp only[xL,h,if_true,iL,List.foldl_cons];rfl
end
section
attribute [local irreducible] Bk.held Bk.nums Bk.span Bk.uI
def IM (b:Bk)(n:Int):PV:=.aF false 1 ((b.uI n).map aN)
def mR (b:Bk)(k:Nat):List (PV×PV):=nR id (IM b) ((b.nums.take k).filter fun n=>(b.held []).contains n)
theorem ZqB {b:Bk}(hb:b.ok){k:Nat}{n:Int}(h:b.nums[k]?=some n):u9 b n (mR b k):=by
 refine⟨NY,fun m hm=>?_⟩;unfold mR;rw[JV,Gb];cases hc:(b.held []).contains m
 .rw[if_neg (by rw[iU,hc];simp),if_neg (by simp)];rfl
 .rw[if_pos (by
   rw[iU,Mm h];exact⟨⟨Ff hb (jB.1 hc),hm⟩,hc⟩),if_pos rfl];rfl
theorem Zot {b:Bk}(hb:b.ok):u9 b 1000 (mR b b.nums.length):=by
 refine⟨NY,fun m hm=>?_⟩;unfold mR;rw[JV,Gb,nF];cases hc:(b.held []).contains m
 .rw[if_neg (by rw[iU,hc];simp),if_neg (by simp)];rfl
 .rw[if_pos (by
   rw[iU];exact⟨Ff hb (jB.1 hc),hc⟩),if_pos rfl];rfl
theorem Zos {b:Bk}{k:Nat}{n:Int}(h:b.nums[k]?=some n)(hx:(b.held []).contains n=false):mR b (k+1)=mR b k:=by
 unfold mR;rw[mJ,h,F2]
 have:(Option.some n).toList.filter (fun n=>(b.held []).contains n)=[]:=by
  simp only[Option.toList,xL,hx,List.filter_nil];rfl
 rw[this,uG]
theorem ZqA {b:Bk}{k:Nat}{n:Int}(h:b.nums[k]?=some n)(hx:(b.held []).contains n=true):mK (.i n) (IM b n) (mR b k)=mR b (k+1):=by
 unfold mR;rw[Gt (fun x hm=>?_),mJ,h,F2]
 .have:(Option.some n).toList.filter (fun n=>(b.held []).contains n)=[n]:=by
   simp only[Option.toList,xL,hx,List.filter_nil];rfl
  rw[this];unfold nR;rw[mF];rfl
 .have:=(Mm h).1 (iU.1 hm).1
  show x≠n;omega
def T6 (b:Bk)(n:Int):Option (List Int):=(((b.qX (b.get n).src (b.get n).day n).filter fun c=>(b.held []).contains c.num).map fun c=>b.uI c.num++[n]).foldl iA none
theorem ZtO {b:Bk}(hb:b.ok){n:Int}(hn:n∈b.nums)(hx:(b.held []).contains n=true)(hs:(b.item (b.get n).src).gU=false):T6 b n=some (b.uI n):=by
 rw[<-(JU hb hx).1];have IA:=Fu hb n hn;obtain⟨nn,rfl⟩:∃nn:Nat,n=nn:=⟨n.toNat,by omega⟩;rw[Zop hb (XA hb) (by omega) hn,if_neg (by simp[hs])];obtain⟨rT,nV⟩:=U9 hb hn;refine Zir fun x=>?_
 rw[iI,List.mem_filterMap];constructor
 .rintro⟨c,hc,rfl⟩;rw[iU]at hc;obtain⟨h1,h2⟩:=(AD hb).1 hc.1;refine⟨c.num,?_,?_⟩
  .rw[iU];refine⟨jB.1 hc.2,?_⟩;rw[r9 hb h1,Ml,nV];exact h2
  .rw[(JU hb hc.2).1];rfl
 .rintro⟨m,hm,rP⟩;rw[iU]at hm;obtain⟨G6,nD⟩:=hm;have PX:=XA hb m G6;obtain⟨g1,g2⟩:=U9 hb PX;have Ay:(b.held []).contains m=true:=jB.2 G6;rw[(JU hb Ay).1]at rP;refine⟨b.get m,?_,?_⟩
  .rw[iU,AD hb,g2];refine⟨⟨g1,?_⟩,Ay⟩;rw[Ml,nV]at nD;exact nD
  .rw[g2];simpa using rP
theorem Zqy {b:Bk}(hb:b.ok){n:Int}(hn:n∈b.nums)(hs:(b.item (b.get n).src).gU=true):b.uI n=[n]:=by
 have IA:=Fu hb n hn;obtain⟨nn,rfl⟩:∃nn:Nat,n=nn:=⟨n.toNat,by omega⟩;unfold Bk.uI;rw[Zop hb (XA hb) (by omega) hn,if_pos hs];rfl
def Bk.FD (b:Bk)(item day:Int):List Int:=(b.En (b.held []) item day).getD []
def Bk.c6 (b:Bk)(item day:Int):List Int×Int:=if b.uW item day=0 then(if(b.item item).gU=true then([],0)else(b.FD item day,0))else([],b.uW item day)
def zT (b:Bk)(item day:Int):Option (List Int):=(((b.qX item day 1000).filter fun c=>(b.held []).contains c.num).map fun c=>b.uI c.num).foldl iA none
theorem Zq6 {b:Bk}(hb:b.ok){item day:Int}:zT b item day=b.En (b.held []) item day:=by
 rw[Zq7];refine Zir fun x=>?_
 rw[iI,List.mem_filterMap];constructor
 .rintro⟨c,hc,rfl⟩;rw[iU]at hc;obtain⟨h1,h2⟩:=(AD hb).1 hc.1;refine⟨c.num,?_,(JU hb hc.2).1⟩;rw[iU];refine⟨jB.1 hc.2,?_⟩;rw[r9 hb h1];unfold Bk.pT at h2;rw[dJ]at h2;exact h2.2
 .rintro⟨m,hm,rP⟩;rw[iU]at hm;obtain⟨G6,nD⟩:=hm;have PX:=XA hb m G6;have IA:=Fu hb m PX;obtain⟨g1,g2⟩:=U9 hb PX;have Ay:(b.held []).contains m=true:=jB.2 G6;rw[(JU hb Ay).1]at rP;refine⟨b.get m,?_,?_⟩
  .rw[iU,AD hb,g2];refine⟨⟨g1,?_⟩,Ay⟩;unfold Bk.pT;rw[dJ];exact⟨by rw[g2];simp;omega,nD⟩
  .rw[g2];simpa using rP
theorem Zmc {b:Bk}(hb:b.ok){item day:Int}(hs:(b.item item).gU=false)(hh:b.qF item day=true):zT b item day=some (b.FD item day)/\b.FD item day≠[]/\(b.FD item day).length<=1000:=by
 have he:zT b item day=b.En (b.held []) item day:=Zq6 hb;unfold Bk.qF at hh;rw[hs,Bool.false_or,oU]at hh;obtain⟨c,MH,ES⟩:=hh;have dA:(((b.qX item day 1000).filter fun c=>(b.held []).contains c.num).map fun c=>b.uI c.num)≠[]:=by
  intro e
  have:c∈(b.qX item day 1000).filter fun c=>(b.held []).contains c.num:=iU.2 ⟨MH,ES⟩
  rw[List.map_eq_nil_iff]at e;rw[e]at this;cases this
 unfold Bk.FD;rw[<-he];cases pP:zT b item day with
 |none=>
  exact absurd (KB.1 pP) dA
 |some l=>
  refine⟨rfl,?_⟩;have hm:=(OA pP).1;rw[iI]at hm;obtain⟨o,ho,rfl⟩:=hm;exact⟨(JU hb (iU.1 ho).2).2,Gi⟩
end
theorem Mi {α:Type}{l:List α}{p:α->Bool}{k:Nat}{x:α}(h:∀(j:Nat) (x:α),j<k->l[j]?=some x->p x=true)(hx:l[k]?=some x)(hp:p x=true):∀(j:Nat) (x:α),j<k+1->l[j]?=some x->p x=true:=fun j y hj hy=>by
 rcases Nat.lt_succ_iff_lt_or_eq.1 hj with e|e
 .exact h j y e hy
 .subst e;rw[hx]at hy;cases hy;exact hp
theorem Kx {α:Type}{l:List α}{p:α->Bool}{k:Nat}{x:α}(hx:l[k]?=some x)(hp:p x=false):l.all p=false:=by
 rw[List.all_eq_false];exact⟨x,dK hx,by simp[hp]⟩
theorem Lq {α:Type}{l:List α}{p:α->Bool}(h:∀(j:Nat) (x:α),j<l.length->l[j]?=some x->p x=true):l.all p=true:=by
 rw[rC];intro x hx;obtain⟨j,hj⟩:=iJ.1 hx;exact h j x (bZ.1 hj).1 hj
def Ct.cells (c:Ct):List AV:=[.pv (.i c.num),.pv (.i c.it),.pv (.i c.src),.pv (.i c.day),.pv (.i c.valid),.pv (.i c.diff.lo),.pv (.i c.diff.hi)]
theorem WU {α:Type}{l:List α}{p:α->Bool}{k:Nat}{x:α}(hx:l[k]?=some x):(l.take (k+1)).any p=((l.take k).any p||p x):=by
 rw[mJ,hx,List.any_append];simp
theorem Zek {b:Bk}(hb:b.ok){c:Ct}(hc:c∈b.aA):IntKind.i64.wrap (c.day+c.valid)=c.day+c.valid:=by
 obtain⟨_,_,_,_,_,_,_,_,h1,h2,h3,h4,_⟩:=wW hb hc;exact wrap64 (by omega)
theorem Lx {b:Bk}{i:Int}(h0:0<=i)(h1:i<b.items.length):∃j:Nat,i=j/\j<b.items.length/\∃z,b.items[j]?=some z/\b.item i=z/\(b.items.map It.pv)[j]?=some (.agg [.i z.dR,.bool z.gU,.i z.val.lo,.i z.val.hi]):=by
 have hz:b.items[i.toNat]?=some (b.items[i.toNat]'(by omega)):=bB _;refine⟨i.toNat,by omega,by omega,_,hz,?_,?_⟩
 .unfold Bk.item;rw[hz];rfl
 .rw[bW,hz];rfl
theorem zS {b:Bk}{k:Nat}(h:k<b.aA.length):∃o,b.aA[k]?=some o/\o∈b.aA/\(b.aA.map Ct.pv)[k]?=some (.agg [.i o.num,.i o.it,.i o.src,.i o.day,.i o.valid,.i o.diff.lo,.i o.diff.hi]):=by
 have hz:b.aA[k]?=some (b.aA[k]'h):=bB _;exact⟨_,hz,dK hz,by rw[bW,hz];rfl⟩
theorem wH (l:List Int)(n:Int)(hl:l.length<=1000000):aD prog 76 [.aF false 1 (l.map aN),.i n] (.bool (l.contains n)):=by
 obtain⟨T,hT⟩:∃T,T=l.contains n:=⟨_,rfl⟩;rw[<-hT];refine cS L76 ?_;simp[L76];refine eO (fun m τ=>∃k:Nat,k<=l.length/\m=l.length-k/\(∀(j:Nat) (x:Int),j<k->l[j]?=some x->decide (x=n)=false)/\τ=⟨[(0,.pv (.aF false 1 (l.map aN))),(1,.pv (.i n)),(5,.pv (.i k))],[]⟩) ⟨l.length,⟨[(0,.pv (.aF false 1 (l.map aN))),(1,.pv (.i n)),(5,.pv (.i 0))],[]⟩,Sub.mk (by simp) (by simp),0,gV _,rfl,(fun j x hj=>by omega),rfl⟩ ?_;rintro J hJ m τ ⟨k,hk,rfl,hinv,rfl⟩;by_cases aI:k<l.length
 .obtain⟨x,hx⟩:∃x,l[k]?=some x:=⟨l[k],bB aI⟩;have oM:(l.map aN)[k]?=some (.i x):=by rw[bW,hx];rfl
  have hw:=bN (k:=k) (by omega);cases hc:decide (x=n)
  .have aB:=hJ _ _ ⟨k+1,aI,rfl,(fun j y hj hy=>by
    rcases Nat.lt_succ_iff_lt_or_eq.1 hj with h'|h'
    .exact hinv j y h' hy
    .subst h';rw[hx]at hy;cases hy;exact hc),rfl⟩
   simp[-decide_eq_true_eq,-decide_eq_false_iff_not,aI,↓oM,hw,hc];exact⟨_,_,(by omega:l.length-(k+1)<l.length-k),Sub.mk (by simp) (by simp),aB⟩
  .have Cx:T=true:=by
    rw[hT,jB];simp only[decide_eq_true_eq]at hc;rw[<-hc];exact dK hx
   simp[-decide_eq_true_eq,-decide_eq_false_iff_not,aI,↓oM,hc,Cx]
 .have he:k=l.length:=by omega
  subst he;have Cx:T=false:=by
   rw[hT];cases hc:l.contains n
   .rfl
   .obtain⟨j,hj⟩:=iJ.1 (jB.1 hc)
    have:=hinv j n (bZ.1 hj).1 hj
    simp at this
  simp[Cx]
section
attribute [local irreducible] Bk.held Bk.nums Bk.span Bk.uI Bk.FD T6 zT
def Kd (b:Bk)(item day:Int)(es hs:List (PV×PV))(k:Nat):AS:=⟨[(1,.pv (.i item)),(2,.pv (.i day)),(8,.ptr (.loc 26 0) 0),(11,.ptr (.loc 11 0) 0),(12,.ptr (.loc 12 0) 0),(49,.pv (.aF false 1 (b.nums.map aN))),(50,.pv (.i b.nums.length)),(51,.pv (.i k))],
 [(.loc 45 0,.map (mR b k)),(.loc 12 0,.cells [.mp (.loc 45 0)]),(.loc 11 0,.cells [.fn 113 [] [.ptr (.loc 9 0) 0]]),(.loc 9 0,.cells [.mp (.loc 26 2)]),(.loc 26 0,.cells (aW b (.loc 26 1) (fZ []))),(.loc 26 1,.map es),(.loc 26 2,.map hs)]⟩
theorem Zvo (b:Bk)(hi:b.items.length<=1000)(hc:b.aA.length<=1000)(item day:Int):cR prog 74 ([b.pv,.i item,.i day].map .pv) [] (fun r B=>r=.pv (J7 (b.c6 item day))/\B=[]):=by
 have QU:=ZoZ b hi hc item day;refine cR.U8 ?_;refine N6 [.loc 135 0] L74 ?_;intro R hR;simp[L74,Bk.pv,-aU];refine cL [.pv b.pv,.pv (.i item),.pv (.i day)] [] 26 [] rfl QU ?_
 rintro r0 B0 (⟨h0,rfl,rfl⟩|⟨h0,x7,hit,Uh,hih,es,kZ,rfl,rfl⟩)
 .refine⟨rfl,by simp,?_⟩;have hd:decide (b.uW item day=0)=false:=by simpa using h0
  simp[-decide_eq_true_eq,-decide_eq_false_iff_not,hd];rw[<-hR];exact⟨_,rfl,rfl,WS (by unfold Bk.c6;rw[if_neg h0])⟩
 have hb:b.ok:=Bk.U6.1 x7;have hH:=TC hb [];have hlen:=WW (b:=b);obtain⟨si,rfl,K6,z,hz,D8,pY⟩:=Lx (b:=b) (i:=item) (by unfold Bk.uK iX at hit;simp only[dJ,decide_eq_true_eq]at hit;omega) (by unfold Bk.uK iX at hit;simp only[dJ,decide_eq_true_eq]at hit;omega);refine⟨rfl,by simp[aW],?_⟩;generalize kK b [] b.nums.length=hs at *;cases HG:z.gU
 case true=>
  rw[HG]at pY;simp[aW,aT,pY];rw[<-hR];exact⟨_,rfl,rfl,WS (by unfold Bk.c6;rw[if_pos h0,if_pos (by rw[D8];exact HG)])⟩
 case false=>
 rw[HG]at pY;simp[aW,aT,pY,-aU];refine eO (fun n τ=>∃k:Nat,k<=b.nums.length/\n=b.nums.length-k/\τ=Kd b si day es hs k) ⟨b.nums.length,Kd b si day es hs 0,Sub.mk (by simp) (by simp[aW,aT,mR,nR]),0,gV _,rfl,rfl⟩ ?_;rintro J hJ n τ ⟨k,hk,rfl,rfl⟩;by_cases aI:k<b.nums.length
 .obtain⟨x,hx⟩:∃x,b.nums[k]?=some x:=⟨b.nums[k],bB aI⟩;have K0:=dK hx;have oM:(b.nums.map aN)[k]?=some (.i x):=by rw[bW,hx];rfl
  have hw:=bN (k:=k) (by omega);have aG:b.nums.length-(k+1)<b.nums.length-k:=by omega
  obtain⟨rT,nV⟩:=U9 hb K0;have mI:=kZ.f x;rw[if_pos K0]at mI;have S8:=kZ.k;have jL:=wW hb rT;have aB:=hJ _ _ ⟨k+1,aI,rfl,rfl⟩;have nC:=ZqA hx;have K5:=Zos hx;have MS:=ZqB hb hx;have hek:=MS.k;have PJ:=Zqy hb K0;have BQ:=ZtO hb K0;have MK:=Zk _ hs hH (b.get x);have hit:=Ey (NA b hb es hs (mR b k) hH x MS) b hb [] es kZ 8 9 10 (fun c _=>⟨rfl,rfl⟩) (fun c _=>rfl) (b.get x).src (b.get x).day x none (fun l h=>by cases h) (fun c hc=>⟨c,by
   have:=((AD hb).1 hc).2
   unfold Bk.pT at this;simp only[dJ,decide_eq_true_eq]at this;exact this.1,rfl⟩)
  have dF:(NA b hb es hs (mR b k) hH x MS).run none (lR (b.qX (b.get x).src (b.get x).day x))=(T6 b x,true):=by rw[ZoQ];unfold T6;rfl
  rw[dF]at hit;clear hJ dF;unfold Kd at aB ⊢;have gN:=fun s=>(NA b hb es hs (mR b k) hH x MS).cl s
  generalize mR b k=em at *;generalize b.get x=y at *;obtain⟨yn,yi,ys,yd,yv,⟨yl,yh⟩⟩:=y;simp only at nV jL hit PJ BQ MK;subst nV;unfold Ct.pv at mI;obtain⟨sj,rfl⟩:∃sj:Nat,ys=sj:=⟨ys.toNat,by omega⟩;obtain⟨nn,rfl⟩:∃nn:Nat,yn=nn:=⟨yn.toNat,by omega⟩;have BR:sj<b.items.length:=by omega
  obtain⟨u,hu⟩:∃u,b.items[sj]?=some u:=⟨b.items[sj],bB BR⟩;have Bp:(b.items.map It.pv)[sj]?=some (.agg [.i u.dR,.bool u.gU,.i u.val.lo,.i u.val.hi]):=by rw[bW,hu];rfl
  have hui:b.item (sj:Int)=u:=by unfold Bk.item;rw[H7,hu];rfl
  rw[hui]at PJ BQ;simp[aW,aI,↓oM,S8,mI,-aU];refine cM [.pv (Ct.pv ⟨nn,yi,sj,yd,yv,⟨yl,yh⟩⟩),.ptr (.par 0) 0] (laid 0 (eR hs 0)) 63 [.loc 9 0,.loc 26 2] (by simp[laid,eR]) MK (by simp[laid,eR]) ?_;generalize CN:(b.held []).contains (nn:Int)=v at *;cases v
  .rw[K5 rfl]at aB;simp[laid,eR,hw,-aU];exact⟨_,_,aG,Sub.mk (by simp) (by simp[aW]),aB⟩
  have BQ:=BQ rfl;rw[<-nC rfl]at aB;simp[laid,eR,-aU];refine cM [.ptr (.par 0) 0,.pv (.i sj),.pv (.i yd),.pv (.i nn)] (laid 0 (kE b [] es)) 71 [.loc 26 0,.loc 26 1] (by simp[laid,kE,aW]) (AZ b [] es sj yd nn) (by simp[laid,kE,aW]) ?_;simp[laid,kE,aW,OK,-aU];refine WY [.loc 136 0,.loc 16 0,.loc 11 0,.loc 9 0,.loc 26 2,.loc 12 0,.loc 45 0,.loc 14 0,.loc 71 0,.loc 26 0,.loc 26 1] [(11,.ptr (.loc 11 0) 0),(12,.ptr (.loc 12 0) 0),(14,.ptr (.loc 14 0) 0),(16,.ptr (.loc 16 0) 0)] (gf:=155) (fs:=[]) (cs:=[.ptr (.loc 71 0) 0,.pv (.ref [.i nn]),.pv (.ref [.i sj]),.pv (.ref [.i yd])]) ?_ ?_ rfl rfl ?_ ?_ ?_ hit ?_
  .rfl
  .simp
  .simp[NA,Z7,oS,laid,aW,gX]
  .rfl
  .rfl
  rintro r B' ⟨rfl,rfl⟩;refine⟨rfl,?_,?_⟩
  .exact fun p hp=>WR (n:=11) (L:=Z7 b es hs em nn (T6 b nn)) (by simp[Z7]) (gN (T6 b nn)) p hp
  refine⟨_,_,_,_,_,rfl,?_⟩;clear gN;generalize T6 b nn=M at *;have hgu':=Bp;cases pO:u.gU
  .rw[pO]at Bp;have hM:=BQ pO;subst hM;simp[NA,Z7,laid,kX,aW,gX,oS,aT,↓Bp,hek,hw,-aU];exact⟨_,_,aG,Sub.mk (by simp) (by simp[aW,IM,aT]),aB⟩
  .rw[pO]at Bp;have hE:=PJ pO;simp[NA,Z7,laid,kX,aW,gX,oS,aT,↓Bp,BR,hek,hw,EV,eA,-aU];exact⟨_,_,aG,Sub.mk (by simp) (by simp[aW,IM,hE,aT,aN]),aB⟩
 have he:k=b.nums.length:=by omega
 subst he;clear hJ;have MS:=Zot hb;have tT:(b.item (si:Int)).gU=false:=by rw[D8];exact HG
 obtain⟨hF,hL0,Ju⟩:=Zmc hb tT hih;have hM:b.c6 si day=(b.FD si day,0):=by unfold Bk.c6;rw[if_pos h0,if_neg (by rw[tT];simp)]
 have hit:=Ey (RX b hb es hs (mR b b.nums.length) hH MS) b hb [] es kZ 7 8 9 (fun c _=>⟨rfl,rfl⟩) (fun c _=>rfl) si day 1000 none (fun l h=>by cases h) (fun c hc=>⟨c,by
  have:=((AD hb).1 hc).2
  unfold Bk.pT at this;simp only[dJ,decide_eq_true_eq]at this;exact this.1,rfl⟩)
 have dF:(RX b hb es hs (mR b b.nums.length) hH MS).run none (lR (b.qX si day 1000))=(some (b.FD si day),true):=by rw[<-hF,ZoO];unfold zT;rfl
 rw[dF]at hit;have gN:=fun s=>(RX b hb es hs (mR b b.nums.length) hH MS).cl s
 have T3:=Yy (b.FD si day) hL0 (by omega);rw[hM]at hR;clear dF hF hM;unfold Kd;generalize mR b b.nums.length=em at *;generalize b.FD si day=L at *;simp[aW,-aU];refine cM [.ptr (.par 0) 0,.pv (.i si),.pv (.i day),.pv (.i 1000)] (laid 0 (kE b [] es)) 114 [.loc 26 0,.loc 26 1] (by simp[laid,kE,aW]) (AZ b [] es si day 1000) (by simp[laid,kE,aW]) ?_;simp[laid,kE,aW,OK,-aU];refine WY [.loc 136 0,.loc 19 0,.loc 11 0,.loc 9 0,.loc 26 2,.loc 12 0,.loc 45 0,.loc 114 0,.loc 26 0,.loc 26 1] [(11,.ptr (.loc 11 0) 0),(12,.ptr (.loc 12 0) 0),(19,.ptr (.loc 19 0) 0)] (gf:=155) (fs:=[]) (cs:=[.ptr (.loc 114 0) 0,.pv (.ref [.i 1000]),.pv (.ref [.i si]),.pv (.ref [.i day])]) ?_ ?_ rfl rfl ?_ ?_ ?_ hit ?_
 .rfl
 .simp
 .simp[RX,MZ,oS,laid,aW,gX]
 .rfl
 .rfl
 rintro r B' ⟨rfl,rfl⟩;refine⟨rfl,?_,?_⟩
 .exact fun p hp=>WR (n:=10) (L:=MZ b es hs em (some L)) (by simp[MZ]) (gN (some L)) p hp
 refine⟨_,_,_,_,_,rfl,?_⟩;clear gN;simp[RX,MZ,laid,kX,aW,gX,oS,-aU];refine cM [.pv (.aF false 1 (L.map aN))] [] 135 [] rfl T3 (by simp) ?_;have hLm:(L.map aN).take L.length=L.map aN:=fO (by simp);simp[hLm,-aU];rw[<-hR];exact⟨_,rfl,rfl,fun m v h=>h⟩
end
theorem ZoR:aD prog 68 [.aF false 7 []] (.aF false 7 []):=by
 refine cR.U8 ?_;refine cF [.loc 7 0] L68 ?_;simp[L68,dH,s7,aP,bY,B4];exact fun m v h=>AB h
def fR (l:List Ct)(bad:List Int):List Ct:=l.filter (fun x=>!wQ bad x)
def fA (l:List Ct)(bad:List Int):Bk:=⟨qV,fR l bad⟩
theorem Ln (l:List Ct)(bad:List Int)(c d e:PV)(hl:l.length<=1000)(hb:bad.length<=1000):cR prog 43 [.ptr (.par 0) 0] [(.par 0,aO (aL l) (.aF false 1 (bad.map iP)) c d e)] (fun r B=>r=.pv (fA l bad).pv/\B=[(.par 0,aO (aL l) (.aF false 1 (bad.map iP)) c d e)]):=by
 refine N7 [.par 0] L43 ?_;intro R hR;simp[L43,aO,aL];by_cases hn:l=[]
 .subst hn;simp only[List.map_nil];refine .inl (cQ [] [.aF false 7 []] ZoR ?_);simp;refine cM [.pv (.aF false 7 []),.fn 86 [] [.ptr (.par 0) 0]] (laid 0 ((eQ.wk (.aF false 7 []) (.aF false 1 (bad.map iP)) c d e).b 0)) 11 [.loc 1 0,.par 0] (by simp[laid,eQ.b,aO]) (Du _ _ c d e) (by simp[laid,eQ.b,aO]) ?_;simp[laid,eQ.b,aO];refine .inl (cQ [] [] Yk ?_);simp[<-hR,fA,fR,Bk.pv,aL,aT,aO]
 .refine .inl (O7 [] (fs:=[]) (xs:=[.aF false 7 (l.map Ct.pv)]) (cs:=[]) (d:=9) rfl rfl (ZgY (l.map Ct.pv) (by rw[fV];omega)) ?_);rintro r B (⟨h,rfl,rfl⟩|⟨rfl,rfl⟩)
  .exact absurd (List.map_eq_nil_iff.1 h) hn
  refine⟨by simp,?_⟩;simp;refine cL [.vec (.par 0) 7 0 l.length,.fn 86 [] [.ptr (.par 1) 0]] (laid 0 (.arr 88 7 (l.map Ct.pv)::(eQ.wk (aL l) (.aF false 1 (bad.map iP)) c d e).b 1)) 11 [.loc 9 0,.loc 1 0,.par 0] (by simp[laid,eQ.b,aO,aL]) (Ds (.wk _ _ c d e) (YW _ c d e bad hb) l hl) ?_
  rintro r0 B0 ⟨rfl,X,hX,rfl⟩;refine⟨rfl,by simp[laid,eQ.b,aO,aL],?_⟩;have VH:(X.map Ct.pv).take (fR l bad).length=(fR l bad).map Ct.pv:=by rw[<-List.map_take];exact congrArg _ hX
  have H0:(fR l bad).length<=X.length:=by
   have:=congrArg List.length hX
   rw[gJ]at this;unfold fR;omega
  have hgf:(l.filter fun x=>!wQ bad x)=fR l bad:=rfl;simp only[hgf];simp[laid,eQ.b,aO,aL];refine .inl (cQ [.loc 9 0] [] Yk ?_);simp[<-hR,fA,Bk.pv,aL,aT,aO,VH,H0]
theorem Gw (l:List Ct)(bad:List Int)(c d e:PV)(hl:l.length<=1000)(hb:bad.length<=1000)(gA item day rd:Int):cR prog 36 [.ptr (.par 0) 0,.pv (.agg [.i gA,.i item,.i day,.i rd])] [(.par 0,aO (aL l) (.aF false 1 (bad.map iP)) c d e)] (fun r B=>r=.pv (.bool (decide (((fA l bad).c6 item day).2=0)))/\B=[(.par 0,aO (aL l) (.aF false 1 (bad.map iP)) c d e)]):=by
 have lW:=Ln l bad c d e hl hb;have ET:=Zvo (fA l bad) (show qV.length<=1000 by decide) (by unfold fA fR;exact lC (O1 _ _) hl) item day;refine N7 [.par 0] L36 ?_;intro R hR;simp[L36,aO];refine DU (fun τ=>τ=⟨[(9,.pv (fA l bad).pv),(11,.pv (.i item)),(13,.pv (.i day))],[(.par 0,aO (aL l) (.aF false 1 (bad.map iP)) c d e)]⟩) ?_ ?_
 .simp[gO,gY]
  repeat' apply And.intro
  all_goals
   refine cM [.ptr (.par 0) 0] [(.par 0,aO (aL l) (.aF false 1 (bad.map iP)) c d e)] 9 [.par 0] (by simp[aO]) lW (by simp[aO]) ?_;simp[aO];exact Sub.mk (by simp) (by simp)
 .rintro τ rfl;simp[gO,gY,aO];refine .inl (cQ [] [(fA l bad).pv,.i item,.i day] ET ?_);simp[J7];rw[<-hR];exact⟨rfl,by simp[aO]⟩
theorem ZrQ (l:List Ct)(bad:List Int)(c d e:PV)(hl:l.length<=1000)(hb:bad.length<=1000)(gA item day rd limit:Int)(dE:IntKind.i64.wrap (rd+((fA l bad).uY item day).1.lo)=rd+((fA l bad).uY item day).1.lo):cR prog 118 [.ptr (.par 0) 0,.pv (.agg [.i gA,.i item,.i day,.i rd]),.pv (.i limit)] [(.par 0,aO (aL l) (.aF false 1 (bad.map iP)) c d e)] (fun r B=>r=.pv (.bool (decide (limit<=rd+((fA l bad).uY item day).1.lo)))/\B=[(.par 0,aO (aL l) (.aF false 1 (bad.map iP)) c d e)]):=by
 have lW:=Ln l bad c d e hl hb;have ET:=Zvk (fA l bad) (show qV.length<=1000 by decide) (by unfold fA fR;exact lC (O1 _ _) hl) item day;refine N7 [.par 0] L118 ?_;intro R hR;simp[L118,aO];refine DU (fun τ=>τ=⟨[(18,.pv (.i ((fA l bad).uY item day).2)),(7,.ptr (.loc 7 0) 0),(4,.ptr (.loc 4 0) 0),(2,.pv (.i limit))],[(.loc 7 0,.cells [.pv (.i ((fA l bad).uY item day).1.lo),.pv (.i ((fA l bad).uY item day).1.hi)]),(.loc 4 0,.cells [.pv (.i gA),.pv (.i item),.pv (.i day),.pv (.i rd)]),(.par 0,aO (aL l) (.aF false 1 (bad.map iP)) c d e)]⟩) ?_ ?_
 .simp[gO,gY]
  repeat' apply And.intro
  all_goals
   refine cM [.ptr (.par 0) 0] [(.par 0,aO (aL l) (.aF false 1 (bad.map iP)) c d e)] 11 [.par 0] (by simp[aO]) lW (by simp[aO]) ?_;simp[aO,gO,gY]
   repeat' apply And.intro
   all_goals
    refine .inl (cQ [] [(fA l bad).pv,.i item,.i day] ET ?_);simp[KV,Cr.pv,gO,gY]
    repeat' apply And.intro
    all_goals exact Sub.mk (by simp) (by simp)
 .rintro τ rfl;simp[aO,dE];rw[<-hR];exact⟨rfl,by simp[aO]⟩
section
theorem Zt9 (l:List PV)(g:FuncId)(fs cs:List PV)(q:PV->Bool)(hq:∀x∈l,aD prog g (fs++[x]++cs) (.bool (q x)))(hl:l.length<=1000000)(hc:∀x∈l,∃a b c,x=.agg [.i a,.i b,.i c]):
  aD prog 248 [.aF false 3 l,.fn g fs cs] (.bool (l.any q)):=
 wR 291 (SN (row:=true) hq hl (fun x hx=>by obtain⟨a,b,c,rfl⟩:=hc x hx;exact⟨_,rfl,rfl⟩))
theorem Zrn (x:PV)(g:FuncId)(fs cs:List PV)(b:Bool)(hx:∃a b c,x=.agg [.i a,.i b,.i c])(hq:aD prog g (fs++[x]++cs) (.bool b)):
  aD prog 249 [x,.ref [.fn g fs cs]] (.bool (!b)):=by
 obtain⟨a,b,c,rfl⟩:=hx;refine cS L249 ?_;simp[L249];refine gF (k:=0) rfl rfl hq rfl ?_;simp
theorem Zud (l:List PV)(g:FuncId)(fs cs:List PV)(q:PV->Bool)(hq:∀x∈l,aD prog g (fs++[x]++cs) (.bool (q x)))(hl:l.length<=1000000)(hc:∀x∈l,∃a b c,x=.agg [.i a,.i b,.i c]):
  aD prog 199 [.aF false 3 l,.fn g fs cs] (.bool (l.all q)):=by
 refine cS L199 ?_;simp[L199];refine gF (k:=4) rfl rfl (Zt9 l 249 [] [.ref [.fn g fs cs]] (fun x=>!q x) (fun x hx=>Zrn x g fs cs (q x) (hc x hx) (hq x hx)) hl hc) rfl ?_;simp[List.not_any_eq_all_not]
theorem Og:IntKind.i64.wrap 0=0:=by decide
theorem wr1:IntKind.i64.wrap 1=1:=by decide
theorem Il:IntKind.i64.wrap 2=2:=by decide
theorem wr3:IntKind.i64.wrap 3=3:=by decide
theorem Ik:IntKind.i64.wrap 4=4:=by decide
theorem Ij:IntKind.i64.wrap 5=5:=by decide
theorem wr6:IntKind.i64.wrap 6=6:=by decide
attribute [local simp] Og wr1 Il wr3 Ik Ij wr6
theorem Zfm (n low high:Int):aD prog 198 [.i n,.i low,.i high] (.bool (decide (low<=n)&&decide (n<=high))):=by
 refine cS L198 ?_;by_cases h1:low<=n<;>by_cases h2:n<=high<;>simp[L198,h1,h2]
theorem Zsh (a b c:Int):aD prog 200 [.agg [.i a,.i b,.i c]] (.bool (decide (1<=a))):=by
 refine cS L200 ?_;simp[L200]
def dW (k:Int):PV:=.agg [.i 2,.i k,.i 2]
def eD (n:Int):PV:=.agg [.i n,.aF false 3 [dW 0,dW 1]]
theorem Zil (num n limit:Int)(ps:Bool):aD prog 120 [.agg [.i num,.i n,.i limit,.bool ps]] (eD n):=by
 refine cF [.loc 7 0] L120 ?_;simp[L120,eD,dW,aP]
def eB (bad a r:Int):Int:=if bad<=a then 1 else if r<=bad then 2 else 3
theorem Zus (t a r bad:Int):aD prog 161 [.agg [.i t,.i a,.i r],.i bad] (.int .u8 (eB bad a r)):=by
 refine cS L161 ?_;unfold eB;by_cases h1:bad<=a<;>by_cases h2:r<=bad<;>simp[L161,h1,h2]
theorem Zmj:aD prog 199 [.aF false 3 [dW 0,dW 1],.fn 200 [] []] (.bool true):=
 Zud [dW 0,dW 1] 200 [] [] (fun _=>true) (fun x hx=>by
  have h:∃k,x=dW k:=by
   simp at hx;rcases hx with rfl|rfl<;>exact⟨_,rfl⟩
  obtain⟨k,rfl⟩:=h;exact Zsh 2 k 2) (by decide) (fun x hx=>by
   simp at hx;rcases hx with rfl|rfl<;>exact⟨_,_,_,rfl⟩)
def IQ (n t a b c k:Int):AS:=⟨[(1,.ptr (.loc 1 0) 0),(3,.pv (.i t)),(4,.ptr (.loc 4 0) 0),(31,.pv (.aF false 3 [dW 0,dW 1])),(32,.pv (.i 2)),(33,.pv (.i k))],[(.loc 1 0,.cells [.pv (.i n),.pv (.aF false 3 [dW 0,dW 1])]),(.loc 4 0,.cells [.pv (.i a),.pv (.i b),.pv (.i c)])]⟩
theorem ZjU (n:Int)(h4:4<=n)(RM:n<=30):aD prog 160 [eD n] (.i 0):=by
 have hw:=Zfm n 1 30;have hd:(decide (1<=n)&&decide (n<=30))=true:=by simp;omega
 rw[hd]at hw;have G3:=Zfm 2 1 3;have pW:=Zfm 2 2 5;refine cS L160 ?_;simp[L160,eD];refine cG [.i n,.i 1,.i 30] hw ?_;simp;refine cG [.aF false 3 [dW 0,dW 1],.fn 200 [] []] Zmj ?_;simp;have Jh:∀t:Int,0<=t->t<=4->IntKind.i64.wrap (n-t)=n-t:=fun t h1 h2=>wrap64 (by omega)
 refine eO (fun m τ=>(m=2/\τ=IQ n 0 0 (-1) 0 0)\/(m=1/\τ=IQ n 2 2 0 2 1)\/(m=0/\τ=IQ n 4 2 1 2 2)) ⟨2,IQ n 0 0 (-1) 0 0,Sub.mk (by simp) (by simp),.inl ⟨rfl,rfl⟩⟩ ?_;rintro J hJ m τ (⟨rfl,rfl⟩|⟨rfl,rfl⟩|⟨rfl,rfl⟩)
 .have hj:=hJ 1 _ (.inr (.inl ⟨rfl,rfl⟩));have h1:¬(n<2):=by omega
  have h0:IntKind.i64.wrap n=n:=wrap64 (by omega);simp[IQ,dW,h0,h1];refine cG [.i 2,.i 1,.i 3] G3 ?_;simp;exact⟨_,_,by decide,Sub.mk (by simp[dW]) (by simp[dW]),hj⟩
 .have hj:=hJ 0 _ (.inr (.inr ⟨rfl,rfl⟩));have h1:¬(n-2<2):=by omega
  have h0:IntKind.i64.wrap (n-2)=n-2:=wrap64 (by omega);simp[IQ,dW,setAt,h0,h1];refine cG [.i 2,.i 2,.i 5] pW ?_;simp[setAt];exact⟨_,_,by decide,Sub.mk (by simp[IQ,dW]) (by simp[IQ,dW]),hj⟩
 .simp[IQ,dW]
def dD:List Bool->Int
 |[]=>0
 |x::l=>(if x=true then 1 else 0)+dD l
theorem ZiP {l:List Bool}{k:Nat}{x:Bool}(h:l[k]?=some x):dD (l.take (k+1))=dD (l.take k)+(if x=true then 1 else 0):=by
 induction l generalizing k with
 |nil=>cases h
 |cons y l ih=>
  cases k with
  |zero=>
   simp at h;subst h;simp[dD]
  |succ k=>
   have:=ih (k:=k) (by simpa using h)
   simp only[List.take_succ_cons,dD,this];omega
theorem ZoB {l:List Bool}:0<=dD l/\dD l<=l.length:=by
 induction l with
 |nil=>exact⟨Int.le_refl _,Int.le_refl _⟩
 |cons x l ih=>
  simp only[dD,pB]
  split<;>omega
def cY (rs:List Bool):Int×Int×Int:=
 if rs.length<2 then(3,2-(rs.length:Int),0)
 else if eB (dD (rs.take 2)) 0 2=3 then
  (if rs.length<4 then(3,4-(rs.length:Int),0)
  else if 4<rs.length then(0,0,2)else(eB (1+dD ((rs.drop 2).take 2)) 1 2,0,0))
 else if 2<rs.length then(0,0,2)else(eB (dD (rs.take 2)) 0 2,0,0)
def vI (x:Int×Int×Int):PV:=.bL [.int .u8 x.1,.i x.2.1,.i x.2.2]
def YZ (n:Int)(rs:List Bool)(k:Nat):AS:=⟨[(1,.vec (.par 0) 1 0 rs.length),(8,.pv (.i ((2*k:Nat):Int))),(9,.pv (.i (k:Int))),(20,.pv (.aF false 3 [dW 0,dW 1])),(21,.pv (.i 2)),(22,.pv (.i (k:Int)))],[(.par 0,.arr 4 1 (rs.map .bool))]⟩
def UJ (rs sub:List Bool)(k j:Nat):AS:=⟨[(1,.vec (.par 0) 1 0 rs.length),(8,.pv (.i ((2*k:Nat):Int))),(9,.pv (.i ((k:Int)+dD (sub.take j)))),(11,.ptr (.loc 11 0) 0),(20,.pv (.aF false 3 [dW 0,dW 1])),(21,.pv (.i 2)),(22,.pv (.i (k:Int))),(46,.vec (.par 0) 1 (2*k) 2),(47,.pv (.i 2)),(48,.pv (.i (j:Int)))],[(.loc 11 0,.cells [.pv (.i 2),.pv (.i (k:Int)),.pv (.i 2)]),(.par 0,.arr 4 1 (rs.map .bool))]⟩
theorem Zny (n:Int)(h4:4<=n)(RM:n<=30)(rs:List Bool)(hl:rs.length<=1000):cR prog 119 [.pv (eD n),.vec (.par 0) 1 0 rs.length] [(.par 0,.arr 4 1 (rs.map .bool))] (fun r B=>r=.pv (vI (cY rs))/\B=[(.par 0,.arr 4 1 (rs.map .bool))]):=by
 refine N7 [.par 0] L119 ?_;intro R hR;simp[L119,eD];refine cG [eD n] (ZjU n h4 RM) ?_;simp;refine eO (fun m τ=>∃k:Nat,(k=0\/(k=1/\2<=rs.length/\dD (rs.take 2)=1))/\m=2-k/\τ=YZ n rs k) ⟨2,YZ n rs 0,Sub.mk (by simp) (by simp),0,.inl rfl,rfl,rfl⟩ ?_;rintro J hJ m τ ⟨k,hk,rfl,rfl⟩;have sH:k<2:=by omega
 have bT:([dW 0,dW 1]:List PV)[k]?=some (.agg [.i 2,.i (k:Int),.i 2]):=by
  rcases hk with rfl|⟨rfl,_⟩<;>rfl
 have sO:IntKind.i64.wrap ((2*k:Nat)+2:Int)=((2*k+2:Nat):Int):=by rw[wrap64 (by omega)];omega
 have x5:((k:Int)<2):=by omega
 by_cases hlen:rs.length<2*k+2
 .have Tg:(rs.length:Int)<((2*k+2:Nat):Int):=by omega
  simp[-Int.natCast_add,-Int.natCast_mul,YZ,x5,↓bT,sO,Tg];rw[<-hR];refine⟨?_,by simp⟩;rw[wrap64 (by omega)];rcases hk with rfl|⟨rfl,h2,hc⟩
  .simp[vI,cY,hlen]
  .have e:eB (dD (rs.take 2)) 0 2=3:=by rw[hc];rfl
   simp[vI,cY,e,show ¬rs.length<2 by omega,show rs.length<4 by omega]
 .have Tg:¬((rs.length:Int)<((2*k+2:Nat):Int)):=by omega
  have sV:(2*k).ble (2*k+2)=true:=Nat.ble_eq_true_of_le (by omega);have pP:(2*k+2).ble rs.length=true:=Nat.ble_eq_true_of_le (by omega);obtain⟨sub,kG⟩:∃sub,sub=(rs.drop (2*k)).take 2:=⟨_,rfl⟩;have X4:sub.length=2:=by rw[kG,gJ,uH];omega
  have hse:List.drop (2*k) (List.take (2*k+2) (List.map PV.bool rs))=sub.map .bool:=by
   rw[kG,List.drop_take,Nat.add_sub_cancel_left,List.map_take,List.map_drop]
  have vZ:=ZoB (l:=sub);simp[-Int.natCast_add,-Int.natCast_mul,YZ,x5,↓bT,sO,Tg,sV,pP];refine eO (fun m τ=>∃j:Nat,j<=2/\m=2-j/\τ=UJ rs sub k j) ⟨2,UJ rs sub k 0,Sub.mk (by simp[dD]) (by simp),0,gV _,rfl,rfl⟩ ?_;rintro J2 uS m τ ⟨j,hj,rfl,rfl⟩;by_cases CE:j<2
  .obtain⟨x,hx⟩:∃x,sub[j]?=some x:=⟨sub[j],bB (by omega)⟩;have hg:(rs.map PV.bool)[2*k+j]?=some (.bool x):=by
    rw[kG,mG,if_pos CE,mS]at hx;rw[bW,hx];rfl
   have Jv:=uS (2-(j+1)) _ ⟨j+1,CE,rfl,rfl⟩;unfold UJ at Jv;rw[ZiP hx]at Jv;have Z2:=ZoB (l:=sub.take j);have gN:((sub.take j).length:Int)<=2:=by rw[gJ];omega
   have zN:(j:Int)<2:=by omega
   have PC:=bN (k:=j) (by omega);cases x with
   |false=>
    simp[-Int.natCast_mul,UJ,zN,↓hg,PC,cV,CE];exact⟨_,_,(by omega:2-(j+1)<2-j),Sub.mk (by simp) (by simp),Jv⟩
   |true=>
    have PD:IntKind.i64.wrap ((k:Int)+dD (sub.take j)+1)=(k:Int)+(dD (sub.take j)+1):=by rw[wrap64 (by omega)];omega
    simp[-Int.natCast_mul,UJ,zN,↓hg,PC,PD,cV,CE];exact⟨_,_,(by omega:2-(j+1)<2-j),Sub.mk (by simp) (by simp),Jv⟩
  .have Jp:j=2:=by omega
   subst Jp;unfold UJ;rw[fO (by omega)];have UM:=bN (k:=k) (by omega);simp[-Int.natCast_add,-Int.natCast_mul,sO];refine cG [.agg [.i 2,.i (k:Int),.i 2],.i ((k:Int)+dD sub)] (Zus _ _ _ _) ?_;have pO:(2:Int)*(k:Int)+2=((2*k+2:Nat):Int):=by omega
   by_cases hv:eB ((k:Int)+dD sub) (k:Int) 2=3
   .have QD:k=0/\dD sub=1:=by
     unfold eB at hv;split at hv
     .omega
     .split at hv<;>omega
    obtain⟨rfl,MH⟩:=QD;rw[hv];simp[MH];refine⟨_,_,by decide,Sub.mk ?_ ?_,hJ 1 _ ⟨1,.inr ⟨rfl,by omega,by rw[<-MH,kG];rfl⟩,rfl,rfl⟩⟩
    .simp
    .simp[YZ]
   .have tU:¬rs.length<2:=by omega
    have hP:cY rs=(if 2*k+2<rs.length then(0,0,2)else(eB ((k:Int)+dD sub) (k:Int) 2,0,0)):=by
     rcases hk with rfl|⟨rfl,h2,hc⟩
     .have e1:((0:Nat):Int)+dD sub=dD (rs.take 2):=by rw[kG];simp
      rw[e1]at hv ⊢;unfold cY;have rQ:¬eB (dD (rs.take 2)) 0 2=3:=hv;rw[if_neg tU,if_neg rQ];rfl
     .have e1:((1:Nat):Int)+dD sub=1+dD ((rs.drop 2).take 2):=by rw[kG];rfl
      have e:eB (dD (rs.take 2)) 0 2=3:=by rw[hc];rfl
      rw[e1];unfold cY;rw[if_neg tU,if_pos e,if_neg (by omega)];rfl
    by_cases hm:2*k+2<rs.length
    .have Td:(2:Int)*(k:Int)+2<(rs.length:Int):=by omega
     rw[if_pos hm]at hP;simp[hv,Td];rw[<-hR,hP];exact⟨rfl,by simp⟩
    .have Td:¬(2:Int)*(k:Int)+2<(rs.length:Int):=by omega
     rw[if_neg hm]at hP;simp[hv,Td];rw[<-hR,hP];exact⟨rfl,by simp⟩
end
structure Tt where
 gA:Int
 item:Int
 day:Int
 rd:Int
deriving DecidableEq
def Tt.pv (t:Tt):PV:=.agg [.i t.gA,.i t.item,.i t.day,.i t.rd]
def GD (S:Int->Int->Bool)(sp:List (Int×Int)):List (PV×PV):=sp.map fun p=>(.agg [.i p.1,.i p.2],.bool (S p.1 p.2))
theorem ZrS (a b c d:Int):gR (.agg [.i a,.i b]) (.agg [.i c,.i d])=decide ((a,b)=(c,d)):=by
 rw[qS];simp[gR,lP,wK,PV.cells]
theorem Zlh {S:Int->Int->Bool}{i d:Int}:∀{sp:List (Int×Int)},eX (.agg [.i i,.i d]) (GD S sp)=if(i,d)∈sp then some (.bool (S i d))else none
 |[]=>rfl
 |p::r=>by
  have ih:=Zlh (S:=S) (i:=i) (d:=d) (sp:=r);unfold GD at ih ⊢;rw[iL,eX,ZrS];by_cases h:(i,d)=p
  .subst h;simp
  .have:decide ((i,d)=(p.1,p.2))=false:=decide_eq_false h
   rw[this];simp only[ih,jN,h,false_or]
theorem Znu {S:Int->Int->Bool}{i d:Int}:∀{sp:List (Int×Int)},(i,d)∉sp->mK (.agg [.i i,.i d]) (.bool (S i d)) (GD S sp)=GD S (sp++[(i,d)])
 |[],_=>rfl
 |p::r,h=>by
  have h1:(i,d)≠p:=fun e=>h (by simp[e])
  have ih:=Znu (S:=S) (i:=i) (d:=d) (sp:=r) (fun e=>h (by simp[e]));have h2:decide ((i,d)=(p.1,p.2))=false:=decide_eq_false h1;unfold GD at ih ⊢;rw[iL,mK,ZrS,h2];simp only[ih];rfl
theorem Ztr {S:Int->Int->Bool}{sp:List (Int×Int)}:zZ ⟨true,[.int .i64,.int .i64]⟩ (GD S sp)=true:=by
 unfold zZ GD;rw[rC];intro x hx;obtain⟨p,_,rfl⟩:=iI.1 hx;rfl
def hZ (S:Int->Int->Bool)(G:Tt->Bool)(num:Int):List Tt->List Bool->Int
 |[],_=>3
 |t::l,rs=>if t.gA=num/\S t.item t.day=true then(if(cY (rs++[!G t])).1=3 then hZ S G num l (rs++[!G t])else(cY (rs++[!G t])).1)else hZ S G num l rs
theorem Zmr {S:Int->Int->Bool}{G:Tt->Bool}{num:Int}{rs:List Bool}:hZ S G num [] rs=3:=rfl
theorem Zgm {S:Int->Int->Bool}{G:Tt->Bool}{num:Int}{t:Tt}{l:List Tt}{rs:List Bool}:hZ S G num (t::l) rs=if t.gA=num/\S t.item t.day=true then(if(cY (rs++[!G t])).1=3 then hZ S G num l (rs++[!G t])else(cY (rs++[!G t])).1)else hZ S G num l rs:=rfl
def stM (l:List Ct)(bad:List Int)(i d:Int):Bool:=decide (((fA l bad).c6 i d).2=0)
def nM (l:List Ct)(bad:List Int)(limit:Int)(t:Tt):Bool:=decide (limit<=t.rd+((fA l bad).uY t.item t.day).1.lo)
def bH (l:List Tt):PV:=.aF false 4 (l.map Tt.pv)
def v8 (W:aJ)(x:Lt)(S:Int->Int->Bool)(ts:List Tt)(rs:List Bool)(sp:List (Int×Int))(k:Nat):AS:=
 ⟨[(0,.ptr (.par 0) 0),(3,.ptr (.loc 3 0) 0),(5,.vec (.loc 61 0) 1 0 rs.length),(6,.fn 36 [.ptr (.par 0) 0] []),(7,.pv (.int .u8 3)),(8,.mp (.loc 16 0)),(21,.pv (.aF false 4 (ts.map Tt.pv))),(22,.pv (.i ts.length)),(23,.pv (.i (k:Int)))],
  [(.loc 3 0,.cells [.pv (.i x.num),.pv (.i x.pieces),.pv (.i x.limit),.pv (.bool x.passed)]),(.loc 16 0,.map (GD S sp)),(.loc 61 0,.arr 4 1 (rs.map .bool)),(.par 0,W)]⟩
theorem Nc (l:List Ct)(bad:List Int)(ls:PV)(ts:List Tt)(rn:PV)(x:Lt)(hl:l.length<=1000)(hb:bad.length<=1000)(ht:ts.length<=900)(h4:4<=x.pieces)(RM:x.pieces<=30)
  (dE:∀t∈ts,IntKind.i64.wrap (t.rd+((fA l bad).uY t.item t.day).1.lo)=t.rd+((fA l bad).uY t.item t.day).1.lo):
  cR prog 80 [.ptr (.par 0) 0,.pv x.pv] [(.par 0,aO (aL l) (.aF false 1 (bad.map iP)) ls (bH ts) rn)] (fun r B=>r=.pv (.int .u8 (hZ (stM l bad) (nM l bad x.limit) x.num ts []))/\B=[(.par 0,aO (aL l) (.aF false 1 (bad.map iP)) ls (bH ts) rn)]):=by
 refine N7 [.par 0] L80 ?_;intro R hR;obtain⟨V,hV⟩:∃V,V=hZ (stM l bad) (nM l bad x.limit) x.num ts []:=⟨_,rfl⟩;rw[<-hV]at hR;simp[L80,aO,Lt.pv,bH];refine eO (fun m τ=>∃(k:Nat) (rs:List Bool) (sp:List (Int×Int)),k<=ts.length/\m=ts.length-k/\rs.length<=k/\τ=v8 (aO (aL l) (.aF false 1 (bad.map iP)) ls (bH ts) rn) x (stM l bad) ts rs sp k/\hZ (stM l bad) (nM l bad x.limit) x.num (ts.drop k) rs=V)
  ⟨ts.length,v8 (aO (aL l) (.aF false 1 (bad.map iP)) ls (bH ts) rn) x (stM l bad) ts [] [] 0,Sub.trans' (Sub.mk (by simp[AS.cI]) (by simp[AS.cI,aO,bH,GD])) (cI 61 4 1 5 rfl (by decide)),0,[],[],gV _,rfl,fG _,rfl,hV.symm⟩ ?_
 rintro J hJ m τ ⟨k,rs,sp,hk,rfl,n7,rfl,hv⟩;by_cases aI:k<ts.length
 .obtain⟨t,hx⟩:∃t,ts[k]?=some t:=⟨ts[k],bB aI⟩;have gQ:t∈ts:=dK hx;have hg:(ts.map Tt.pv)[k]?=some t.pv:=by rw[bW,hx];rfl
  simp only[Tt.pv]at hg;have hd:ts.drop k=t::ts.drop (k+1):=by
   rw[y8 aI];congr 1;rw[bB aI]at hx;exact Option.some.inj hx
  rw[hd]at hv;rw[Zgm]at hv;have hw:=bN (k:=k) (by omega);have aG:ts.length-(k+1)<ts.length-k:=by omega
  have eJ:∀xT Oy,xT.length<=k+1->hZ (stM l bad) (nM l bad x.limit) x.num (ts.drop (k+1)) xT=V->J (ts.length-(k+1)) (v8 (aO (aL l) (.aF false 1 (bad.map iP)) ls (bH ts) rn) x (stM l bad) ts xT Oy (k+1)):=fun xT Oy h1 h2=>hJ _ _ ⟨k+1,xT,Oy,aI,rfl,h1,rfl,h2⟩
  clear hJ;by_cases kN:t.gA=x.num
  .have hf:=Zlh (S:=stM l bad) (i:=t.item) (d:=t.day) (sp:=sp);have CC:=Ztr (S:=stM l bad) (sp:=sp);have hp:=fun h=>Znu (S:=stM l bad) (i:=t.item) (d:=t.day) (sp:=sp) h
   by_cases fU:(t.item,t.day)∈sp
   .rw[if_pos fU]at hf;cases hs:stM l bad t.item t.day with
    |false=>
     rw[if_neg (by simp[hs])]at hv;rw[hs]at hf;have hn:=eJ rs sp (by omega) hv;simp[v8,aO,aI,↓hg,aP,kN,hw,hf,CC];exact⟨_,_,aG,Sub.mk (by simp) (by simp[aO]),hn⟩
    |true=>
     rw[hs]at hf;simp[v8,aO,aI,↓hg,cV,aP,setAt,kN,hw,hf,CC];have x6:=ZrQ l bad ls (bH ts) rn hl hb x.num t.item t.day t.rd x.limit (dE t gQ);refine cM [.ptr (.par 0) 0,.pv (.agg [.i x.num,.i t.item,.i t.day,.i t.rd]),.pv (.i x.limit)] [(.par 0,(aO (aL l) (.aF false 1 (bad.map iP)) ls (bH ts) rn))] 58 [.par 0] (by simp[aO]) x6 (by simp[aO]) ?_;rw[if_pos ⟨kN,hs⟩]at hv;have EO:decide (x.limit<=t.rd+((fA l bad).uY t.item t.day).1.lo)=nM l bad x.limit t:=rfl;rw[EO];clear EO x6;have h1:rs.length+1<=1000000:=by omega
     generalize nM l bad x.limit t=gv at hv ⊢;simp[aO,h1,aP];refine .inl (cQ [] [x.pv] (Zil x.num x.pieces x.limit x.passed) ?_);simp;refine xM (gE:=[.pv (eD x.pieces),.vec (.par 0) 1 0 (rs++[!gv]).length]) (B:=[(.par 0,.arr 4 1 ((rs++[!gv]).map .bool))]) (fs:=[]) (cs:=[]) 66 [.loc 61 0] ?_ rfl rfl ?_ ?_ ?_ (Zny x.pieces h4 RM (rs++[!gv]) (by simp;omega)) ?_
     .first|rfl|simp
     .first|rfl|simp
     .first|rfl|simp
     .first|rfl|simp
     rintro r0 B0 ⟨rfl,rfl⟩;refine⟨rfl,by simp,?_⟩;have hn:=eJ (rs++[!gv]) sp (by simp;omega);generalize cY (rs++[!gv])=pm at hv ⊢;obtain⟨v,mo,er⟩:=pm;by_cases h3:v=3
     .subst h3;have hn:=hn hv;simp[vI,hw];exact⟨_,_,aG,Sub.mk (by simp) (by simp[aO]),hn⟩
     .rw[if_neg h3]at hv;simp[vI,h3];rw[<-hR,<-hv];exact⟨rfl,by simp[aO]⟩
   .rw[if_neg fU]at hf;have P7:=hp fU;have vZ:=Gw l bad ls (bH ts) rn hl hb x.num t.item t.day t.rd;simp[v8,aO,aI,↓hg,aP,kN,hf,CC];refine xM (gE:=[.ptr (.par 0) 0,.pv (.agg [.i x.num,.i t.item,.i t.day,.i t.rd])]) (B:=[(.par 0,(aO (aL l) (.aF false 1 (bad.map iP)) ls (bH ts) rn))]) (fs:=[.ptr (.par 0) 0]) (cs:=[]) 47 [.par 0] ?_ rfl rfl ?_ ?_ ?_ vZ ?_
    .rfl
    .simp[aO]
    .rfl
    .rfl
    rintro r0 B0 ⟨rfl,rfl⟩;refine⟨rfl,by simp[aO],?_⟩;have bT:decide (((fA l bad).c6 t.item t.day).2=0)=stM l bad t.item t.day:=rfl;rw[bT];cases hs:stM l bad t.item t.day with
    |false=>
     rw[if_neg (by simp[hs])]at hv;rw[hs]at P7;have hn:=eJ rs (sp++[(t.item,t.day)]) (by omega) hv;simp[aO,CC,P7,hw];exact⟨_,_,aG,Sub.mk (by simp[v8]) (by simp[v8,aO]),hn⟩
    |true=>
     rw[hs]at P7;simp[aO,CC,P7];have x6:=ZrQ l bad ls (bH ts) rn hl hb x.num t.item t.day t.rd x.limit (dE t gQ);refine cM [.ptr (.par 0) 0,.pv (.agg [.i x.num,.i t.item,.i t.day,.i t.rd]),.pv (.i x.limit)] [(.par 0,(aO (aL l) (.aF false 1 (bad.map iP)) ls (bH ts) rn))] 58 [.par 0] (by simp[aO]) x6 (by simp[aO]) ?_;rw[if_pos ⟨kN,hs⟩]at hv;have EO:decide (x.limit<=t.rd+((fA l bad).uY t.item t.day).1.lo)=nM l bad x.limit t:=rfl;rw[EO];clear EO x6;have h1:rs.length+1<=1000000:=by omega
     generalize nM l bad x.limit t=gv at hv ⊢;simp[aO,h1,aP];refine .inl (cQ [] [x.pv] (Zil x.num x.pieces x.limit x.passed) ?_);simp;refine xM (gE:=[.pv (eD x.pieces),.vec (.par 0) 1 0 (rs++[!gv]).length]) (B:=[(.par 0,.arr 4 1 ((rs++[!gv]).map .bool))]) (fs:=[]) (cs:=[]) 66 [.loc 61 0] ?_ rfl rfl ?_ ?_ ?_ (Zny x.pieces h4 RM (rs++[!gv]) (by simp;omega)) ?_
     .first|rfl|simp
     .first|rfl|simp
     .first|rfl|simp
     .first|rfl|simp
     rintro r0 B0 ⟨rfl,rfl⟩;refine⟨rfl,by simp,?_⟩;have hn:=eJ (rs++[!gv]) (sp++[(t.item,t.day)]) (by simp;omega);generalize cY (rs++[!gv])=pm at hv ⊢;obtain⟨v,mo,er⟩:=pm;by_cases h3:v=3
     .subst h3;have hn:=hn hv;simp[vI,hw];exact⟨_,_,aG,Sub.mk (by simp[v8]) (by simp[v8,aO]),hn⟩
     .rw[if_neg h3]at hv;simp[vI,h3];rw[<-hR,<-hv];exact⟨rfl,by simp[aO]⟩
  .rw[if_neg (fun h=>kN h.1)]at hv;have hn:=eJ rs sp (by omega) hv;simp[v8,aO,aI,↓hg,aP,kN,hw];exact⟨_,_,aG,Sub.mk (by simp) (by simp[aO]),hn⟩
 .have he:k=ts.length:=by omega
  subst he;rw[List.drop_eq_nil_of_le (fG _)]at hv;rw[Zmr]at hv;simp[v8,aO];rw[<-hR,hv];exact⟨rfl,by simp[aO]⟩
attribute [simp] aM oE nO iN
theorem Yn {x:Int}:∀{l:List Int},l.Pairwise (·<·)->x∈l->l[dI l x]?=some x
 |y::r,hs,h=>by
  obtain⟨h1,h2⟩:=H8.1 hs;unfold dI;rw[xL];by_cases hy:y<x
  .rw[if_pos (by simpa using hy)];have hm:x∈r:=by
    rcases jN.1 h with rfl|h
    .omega
    .exact h
   exact Yn h2 hm
  .rw[if_neg (by simpa using hy)];have hx:x=y:=by
    rcases jN.1 h with rfl|h
    .rfl
    .have:=h1 x h;omega
   subst hx;have hf:r.filter (fun y=>decide (y<x))=[]:=by
    rw[List.filter_eq_nil_iff];intro z hz
    have:=h1 z hz
    simp;omega
   rw[hf];rfl
theorem ZD {E:Int->Prop}{n:Int}{τ:AS}{a b c d e:PV}(h1:E n)(h2:τ.b (.par 0)=some (aO a b c d e)):J4 (uR E) (yM n) τ:=by
 refine⟨[.par 0],rfl,fun s hs b hb=>?_,n,rfl,h1,a,b,c,d,e,?_⟩
 .cases rY.1 hs;rw[h2]at hb;cases hb;rfl
 .unfold AS.exp;rw[h2];rfl
theorem pF (n:Int){E:Int->Prop}{σ:AS}{f:bA}{args:List bA}{op:lU}{lt:Bool}{dst:Option Nat}{a b c d e:PV}(hE:E n)(hop:op=.call f args:=by rfl)(h1:(aM [] σ).o f=.pv (.fn 148 [] []):=by rfl)(h2:(aM [] σ).tO args=some [.bool false,.i n]:=by rfl)(h3:((aM [] σ).bG 99).b (.par 0)=some (aO a b c d e):=by rfl):vT prog ⟨dst,none,op,lt⟩ (J4 (uR E)) σ:=TF (d:=99) [] (xs:=[.bool false,.i n]) (cs:=[]) h1 h2 (zV n) hop (fun x hx=>by rw[hx.1];exact ZD hE h3) (fun x B hx=>hx.2)
theorem j3 (fz:List Site){Q:PV->PV->PV->PV->PV->Prop}{τ:AS}{a b c d e:PV}(h2:(aY fz τ).b (.par 0)=some (aO a b c d e))(hq:Q a b c d e):rM [] (xW Q) τ:=by
 refine⟨fz,[.par 0],[],rfl,rfl,rfl,fun s hs b hb=>?_,rfl,a,b,c,d,e,?_,hq⟩
 .cases rY.1 hs;rw[h2]at hb;cases hb;rfl
 .unfold AS.exp;rw[h2];rfl
def aS (l:List Lt):PV:=.aF false 4 (l.map Lt.pv)
def bI (l:List Int):PV:=.aF false 1 (l.map iP)
def jH (v:Lt->Int)(ls:List Lt)(n:Int):Except Int (List Lt):=
 match ls[dI (ls.map Lt.num) n]? with
 |some x=>if x.num=n then(if x.passed=true then .error 6 else if v x=3 then .error 8 else if v x=1 then .ok (ls.set (dI (ls.map Lt.num) n) { x with passed:=true })else .error 11)else .error 7
 |none=>.error 7
def wkQ (r:Except Int (List Lt))(l:List Ct)(bad:List Int)(ts:List Tt)(rn:PV)(a b c d e:PV):Prop:=∃ls',r=.ok ls'/\a=aL l/\b=bI bad/\c=aS ls'/\d=bH ts/\e=rn
def zB (l:List Ct)(bad:List Int)(ts:List Tt):Prop:=∀t∈ts,IntKind.i64.wrap (t.rd+((fA l bad).uY t.item t.day).1.lo)=t.rd+((fA l bad).uY t.item t.day).1.lo
def vR (x:Lt):Prop:=1<=x.num/\x.num<=99/\4<=x.pieces/\x.pieces<=30
def cH (l:List Ct)(bad:List Int)(ts:List Tt)(x:Lt):Int:=hZ (stM l bad) (nM l bad x.limit) x.num ts []
theorem ZuE (l:List Ct)(bad:List Int)(ls:List Lt)(ts:List Tt)(rn:PV)(n:Int)(hn:-1000000000<n/\n<1000000000)(hl:l.length<=1000)(hb:bad.length<=1000)(yI:ls.length<=900)(ht:ts.length<=900)(hs:(ls.map Lt.num).Pairwise (·<·))(cZ:∀x∈ls,vR x)(dE:zB l bad ts):
  sZ prog 191 [.ptr (.par 0) 0,.pv (.aF false 1 [iP n])] [(.par 0,aO (aL l) (bI bad) (aS ls) (bH ts) rn)] (xW (wkQ (jH (cH l bad ts) ls n) l bad ts rn)) (uR (fun e=>jH (cH l bad ts) ls n=.error e)):=by
 have D6:=Xq ls n (aL l) (bI bad) (bH ts) rn hs (by omega) (fun y hy=>by obtain⟨h1,h2,_⟩:=cZ y hy;exact wrap64 (by omega));refine cX L191 ?_;generalize hE:(fun e=>jH (cH l bad ts) ls n=.error e)=E;generalize hQ:wkQ (jH (cH l bad ts) ls n) l bad ts rn=Q;show fM _ (.seq _ (.seq _ (.seq _ (.seq _ (.seq _ (.seq _ (.seq _ _))))))) _ _ _;refine mH ?_;simp[hold,aO,aS];refine cM [.ptr (.par 0) 0,.pv (.i n)] [(.par 0,aO (aL l) (bI bad) (aS ls) (bH ts) rn)] 12 [.par 0] (by simp[aO,aS]) D6 (by simp[aO]) ?_;simp[-List.mem_map,aO];by_cases hm:n∈ls.map Lt.num
 .have kN:=Yn hs hm;rw[bW]at kN;obtain⟨x,hx,S3⟩:=dZ.1 kN;unfold jH at hE hQ;rw[hx]at hE hQ;dsimp only at hE hQ;rw[if_pos S3]at hE hQ;generalize hi:dI (ls.map Lt.num) n=i at hx hQ ⊢;refine mH ?_;simp[-List.mem_map,hold,hm];refine cG [.bool true,.i 7] (gM 7) ?_;simp;have yJ:i<ls.length:=(bZ.1 hx).1;have oM:(ls.map Lt.pv)[i]?=some x.pv:=by rw[bW,hx];rfl
  simp only[Lt.pv]at oM;have oJ:=Nc l bad (aS ls) ts rn x hl hb ht (cZ x (dK hx)).2.2.1 (cZ x (dK hx)).2.2.2 dE;cases yD:x.passed with
  |true=>
   rw[yD]at hE oM;have II:E 6:=by rw[<-hE];rfl
   refine wX [_,_,_,_,_,_,_,_,_,_] ?_;simp[hold,↓oM,cV,aP];exact pF 6 II
  |false=>
  rw[yD]at hE hQ oM;rw[if_neg (by simp)]at hE hQ;refine mH ?_;simp[hold,↓oM,cV,aP];refine cG [.bool true,.i 6] (gM 6) ?_;simp[hold];refine mH ?_;simp[hold,yJ,↓oM,cV,aP];refine cM [.ptr (.par 0) 0,.pv (.agg [.i x.num,.i x.pieces,.i x.limit,.bool false])] [(.par 0,(aO (aL l) (bI bad) (aS ls) (bH ts) rn))] 37 [.par 0] (by simp[aO,aS]) (by rw[Lt.pv,yD]at oJ;exact oJ) (by simp[aO]) ?_;have HE:hZ (stM l bad) (nM l bad x.limit) x.num ts []=cH l bad ts x:=rfl;rw[HE];clear HE oJ D6;generalize cH l bad ts x=v at hE hQ ⊢;simp[aO];by_cases h3:v=3
  .rw[if_pos h3]at hE;have CV:E 8:=by rw[<-hE]
   refine wX [_,_] ?_;simp[hold,h3];exact pF 8 CV
  rw[if_neg h3]at hE hQ;refine mH ?_;simp[hold,h3];refine cG [.bool true,.i 8] (gM 8) ?_;simp;by_cases h1:¬v=1
  .rw[if_neg h1]at hE;have Vi:E 11:=by rw[<-hE]
   refine wX [_,_] ?_;simp[hold,h1];exact pF 11 Vi
  have h1:v=1:=Decidable.not_not.1 h1;rw[if_pos h1]at hQ;refine mH ?_;simp[hold,h1];refine cG [.bool true,.i 11] (gM 11) ?_;simp[hold];refine mH ?_;simp[hold,aS];refine .inl (O7 [] (fs:=[]) (xs:=[.aF false 4 (ls.map Lt.pv)]) (cs:=[]) (d:=50) rfl rfl (ZgX (ls.map Lt.pv) (by rw[fV];omega)) ?_);rintro r B (⟨h,rfl,rfl⟩|⟨rfl,rfl⟩)
  .rw[List.map_eq_nil_iff.1 h]at yJ;exact absurd yJ (Nat.not_lt_zero _)
  refine⟨by simp,?_⟩;simp;refine FR ?_;simp[hold,yJ,↓oM,cV,aP,setAt];have jK:(ls.map Lt.pv).set i (.agg [.i x.num,.i x.pieces,.i x.limit,.bool true])=(ls.set i { x with passed:=true }).map Lt.pv:=by rw[List.map_set];rfl
  rw[jK];have jS:List.take ls.length ((ls.set i { x with passed:=true }).map Lt.pv)=(ls.set i { x with passed:=true }).map Lt.pv:=fO (by simp);refine j3 (a:=aL l) (b:=bI bad) (c:=aS (ls.set i { x with passed:=true })) (d:=bH ts) (e:=rn) [.loc 50 0] ?_ ?_
  .simp[-List.map_set,aY,AS.cD,AV.cD,AV.aY,aJ.cD,aO,aS,bI,jS]
  .rw[<-hQ];exact⟨_,rfl,rfl,rfl,rfl,rfl,rfl⟩
 .have VJ:E 7:=by
   rw[<-hE];unfold jH;split
   .rename_i x hx;have dA:¬x.num=n:=fun h=>hm (by rw[<-h];exact List.mem_map_of_mem (dK hx))
    rw[if_neg dA]
   .rfl
  refine wX [_] ?_;simp[-List.mem_map,hold,hm];exact pF 7 VJ
def kS (ts:List Tt)(n:Int):Nat:=(ts.filter fun t=>decide (t.gA=n)).length
theorem ZgG {ts:List Tt}{n:Int}{k:Nat}{t:Tt}(h:ts[k]?=some t):kS (ts.take (k+1)) n=kS (ts.take k) n+(if t.gA=n then 1 else 0):=by
 unfold kS;rw[mJ,h,F2,gD];congr 1;simp only[Option.toList,xL,List.filter_nil];by_cases ht:t.gA=n<;>simp[ht]
theorem ZkW {ts:List Tt}{n:Int}:kS ts n<=ts.length:=O1 _ _
def kP (S:Int->Int->Bool)(v:Lt->Int)(ls:List Lt)(ts:List Tt)(q:Tt):Except Int (List Tt):=
 if(decide (2<=q.item)&&decide (q.item<=5))=true/\(decide (0<=q.day)&&decide (q.day<=1000))=true/\(decide (0<=q.rd)&&decide (q.rd<=2000))=true then
  (match ls[dI (ls.map Lt.num) q.gA]? with
  |some x=>if x.num=q.gA then(if x.passed=true then .error 8 else if v x=3 then(if(kS ts q.gA:Int)<x.pieces then(if S q.item q.day=true then .ok (ts++[q])else .error 10)else .error 3)else .error 8)else .error 7
  |none=>.error 7)
 else .error 2
def tsQ (r:Except Int (List Tt))(l:List Ct)(bad:List Int)(ls:List Lt)(rn:PV)(a b c d e:PV):Prop:=∃ts',r=.ok ts'/\a=aL l/\b=bI bad/\c=aS ls/\d=bH ts'/\e=rn
def TS (W:aJ)(x:Lt)(q:Tt)(ts:List Tt)(k:Nat):AS:=
 ⟨[(0,.ptr (.par 0) 0),(1,.pv (.aF false 1 [.i q.gA,.i q.item,.i q.day,.i q.rd])),(6,.ptr (.loc 6 0) 0),(7,.pv (.i ((kS (ts.take k) q.gA:Nat):Int))),(60,.pv (.aF false 4 (ts.map Tt.pv))),(61,.pv (.i ts.length)),(62,.pv (.i (k:Int)))],
  [(.loc 6 0,.cells [.pv (.i x.num),.pv (.i x.pieces),.pv (.i x.limit),.pv (.bool false)]),(.par 0,W)]⟩
theorem Zum (l:List Ct)(bad:List Int)(ls:List Lt)(ts:List Tt)(rn:PV)(q:Tt)(hn:-1000000000<q.gA/\q.gA<1000000000)(hl:l.length<=1000)(hb:bad.length<=1000)(yI:ls.length<=900)(ht:ts.length<=900)(hs:(ls.map Lt.num).Pairwise (·<·))(cZ:∀x∈ls,vR x)(dE:zB l bad ts):
  sZ prog 190 [.ptr (.par 0) 0,.pv (.aF false 1 [iP q.gA,iP q.item,iP q.day,iP q.rd])] [(.par 0,aO (aL l) (bI bad) (aS ls) (bH ts) rn)] (xW (tsQ (kP (stM l bad) (cH l bad ts) ls ts q) l bad ls rn)) (uR (fun e=>kP (stM l bad) (cH l bad ts) ls ts q=.error e)):=by
 have D6:=Xq ls q.gA (aL l) (bI bad) (bH ts) rn hs (by omega) (fun y hy=>by obtain⟨h1,h2,_⟩:=cZ y hy;exact wrap64 (by omega));have w1:=JT q.item 2 5;have w2:=JT q.day 0 1000;have w3:=JT q.rd 0 2000;refine cX L190 ?_;generalize hE:(fun e=>kP (stM l bad) (cH l bad ts) ls ts q=.error e)=E;generalize hQ:tsQ (kP (stM l bad) (cH l bad ts) ls ts q) l bad ls rn=Q;unfold kP at hE hQ;generalize(decide (2<=q.item)&&decide (q.item<=5))=c1 at w1 hE hQ;generalize(decide (0<=q.day)&&decide (q.day<=1000))=c2 at w2 hE hQ;generalize(decide (0<=q.rd)&&decide (q.rd<=2000))=c3 at w3 hE hQ;show fM _ (.seq _ (.seq _ (.seq _ _))) _ _ _;by_cases hc:¬(c1=true/\c2=true/\c3=true)
 .have y1:E 2:=by rw[<-hE,if_neg hc]
  refine wX [_,_,_,_,_,_,_,_,_,_,_,_,_,_,_,_] ?_;simp[hold,iP];refine cG [.i q.item,.i 2,.i 5] w1 ?_;cases c1 with
  |false=>
   simp[hold];exact pF 2 y1
  |true=>
  simp[hold];refine cG [.i q.day,.i 0,.i 1000] w2 ?_;cases c2 with
  |false=>
   simp[hold];exact pF 2 y1
  |true=>
  simp[hold];refine cG [.i q.rd,.i 0,.i 2000] w3 ?_;cases c3 with
  |false=>
   simp[hold];exact pF 2 y1
  |true=>exact absurd ⟨rfl,rfl,rfl⟩ hc
 have hc:=Decidable.not_not.1 hc;rw[if_pos hc]at hE hQ;obtain⟨rfl,rfl,rfl⟩:=hc;refine mH ?_;simp[hold,iP];refine cG [.i q.item,.i 2,.i 5] w1 ?_;simp[hold];refine cG [.i q.day,.i 0,.i 1000] w2 ?_;simp[hold];refine cG [.i q.rd,.i 0,.i 2000] w3 ?_;simp[hold];refine cG [.bool true,.i 2] (gM 2) ?_;simp;refine mH ?_;simp[hold,aO,aS];refine cM [.ptr (.par 0) 0,.pv (.i q.gA)] [(.par 0,aO (aL l) (bI bad) (aS ls) (bH ts) rn)] 33 [.par 0] (by simp[aO,aS]) D6 (by simp[aO]) ?_;simp[-List.mem_map,aO];by_cases hm:¬q.gA∈ls.map Lt.num
 .have VJ:E 7:=by
   rw[<-hE];split
   .rename_i x hx;have dA:¬x.num=q.gA:=fun h=>hm (by rw[<-h];exact List.mem_map_of_mem (dK hx))
    rw[if_neg dA]
   .rfl
  refine wX [_] ?_;simp[-List.mem_map,hold,hm];exact pF 7 VJ
 have hm:=Decidable.not_not.1 hm;have kN:=Yn hs hm;rw[bW]at kN;obtain⟨x,hx,S3⟩:=dZ.1 kN;rw[hx]at hE hQ;dsimp only at hE hQ;rw[if_pos S3]at hE hQ;generalize hi:dI (ls.map Lt.num) q.gA=i at hx hQ ⊢;have yJ:i<ls.length:=(bZ.1 hx).1;have oM:(ls.map Lt.pv)[i]?=some x.pv:=by rw[bW,hx];rfl
 simp only[Lt.pv]at oM;have oJ:=Nc l bad (aS ls) ts rn x hl hb ht (cZ x (dK hx)).2.2.1 (cZ x (dK hx)).2.2.2 dE;refine mH ?_;simp[-List.mem_map,hold,hm];refine cG [.bool true,.i 7] (gM 7) ?_;simp[hold];refine mH ?_;simp[hold,↓oM,cV,aP,setAt];have pan8:∀τ:AS,E 8->τ.b (.par 0)=some (aO (aL l) (bI bad) (aS ls) (bH ts) rn)->J4 (uR E) (yM 8) τ:=fun τ h1 h2=>ZD h1 h2
 cases yD:x.passed with
 |true=>
  rw[yD]at hE;have CV:E 8:=by rw[<-hE];rfl
  refine wX [_,_,_,_,_,_,_,_,_] ?_;simp[hold];exact pF 8 CV
 |false=>
 rw[yD]at hE hQ;rw[if_neg (by simp)]at hE hQ;have HE:hZ (stM l bad) (nM l bad x.limit) x.num ts []=cH l bad ts x:=rfl;rw[HE]at oJ;clear HE D6;generalize cH l bad ts x=v at hE hQ oJ;rw[Lt.pv,yD]at oJ;by_cases h3:¬v=3
 .rw[if_neg h3]at hE;have CV:E 8:=by rw[<-hE]
  refine wX [_,_,_,_,_,_,_,_,_] ?_;simp[hold];refine cM [.ptr (.par 0) 0,.pv (.agg [.i x.num,.i x.pieces,.i x.limit,.bool false])] [(.par 0,(aO (aL l) (bI bad) (aS ls) (bH ts) rn))] 52 [.par 0] (by simp[aO,aS]) oJ (by simp[aO]) ?_;simp[hold,aO,h3];exact pF 8 CV
 have h3:=Decidable.not_not.1 h3;rw[if_pos h3]at hE hQ;refine mH ?_;simp;refine cM [.ptr (.par 0) 0,.pv (.agg [.i x.num,.i x.pieces,.i x.limit,.bool false])] [(.par 0,(aO (aL l) (bI bad) (aS ls) (bH ts) rn))] 52 [.par 0] (by simp[aO,aS]) oJ (by simp[aO]) ?_;simp[hold,aO,h3];refine cG [.bool true,.i 8] (gM 8) ?_;simp[hold];refine mH ?_;simp[hold];refine mH ?_;simp[hold,bH];refine eO (fun m τ=>∃k:Nat,k<=ts.length/\m=ts.length-k/\τ=TS (aO (aL l) (bI bad) (aS ls) (bH ts) rn) x q ts k) ⟨ts.length,TS (aO (aL l) (bI bad) (aS ls) (bH ts) rn) x q ts 0,Sub.mk (by simp[kS]) (by simp[aO,bI,aS,bH]),0,gV _,rfl,rfl⟩ ?_;rintro J hJ m τ ⟨k,hk,rfl,rfl⟩;by_cases aI:k<ts.length
 .obtain⟨t,LS⟩:∃t,ts[k]?=some t:=⟨ts[k],bB aI⟩;have hg:(ts.map Tt.pv)[k]?=some t.pv:=by rw[bW,LS];rfl
  simp only[Tt.pv]at hg;have hw:=bN (k:=k) (by omega);have G6:=ZkW (ts:=ts.take k) (n:=q.gA);rw[gJ]at G6;have sO:=bN (k:=kS (ts.take k) q.gA) (by omega);have aG:ts.length-(k+1)<ts.length-k:=by omega
  have hn:=hJ (ts.length-(k+1)) _ ⟨k+1,aI,rfl,rfl⟩;unfold TS at hn;rw[ZgG LS]at hn;by_cases nU:t.gA=q.gA
  .rw[if_pos nU]at hn;simp[TS,aO,aI,↓hg,aP,hw,sO,nU,S3];exact⟨_,_,aG,Sub.mk (by simp) (by simp[aO,S3]),hn⟩
  .rw[if_neg nU]at hn;simp[TS,aO,aI,↓hg,aP,hw,nU,S3];exact⟨_,_,aG,Sub.mk (by simp[S3]) (by simp[aO,S3]),hn⟩
 have he:k=ts.length:=by omega
 subst he;simp[TS,hold,aO];by_cases UX:¬(kS ts q.gA:Int)<x.pieces
 .rw[if_neg UX]at hE;have Vh:E 3:=by rw[<-hE]
  refine wX [_,_,_,_] ?_;simp[hold,UX];exact pF 3 Vh
 have UX:=Decidable.not_not.1 UX;rw[if_pos UX]at hE hQ;refine mH ?_;simp[hold,UX];refine cG [.bool true,.i 3] (gM 3) ?_;simp;refine mH ?_;simp[hold,setAt];have vZ:=Gw l bad (aS ls) (bH ts) rn hl hb q.gA q.item q.day q.rd;have bT:decide (((fA l bad).c6 q.item q.day).2=0)=stM l bad q.item q.day:=rfl;rw[bT]at vZ;clear bT;cases Af:stM l bad q.item q.day with
 |false=>
  rw[Af]at hE vZ;have Vj:E 10:=by rw[<-hE];rfl
  refine wX [_,_,_] ?_;simp[hold];refine cM [.ptr (.par 0) 0,.pv (.agg [.i q.gA,.i q.item,.i q.day,.i q.rd])] [(.par 0,(aO (aL l) (bI bad) (aS ls) (bH ts) rn))] 94 [.par 0] (by simp[aO,bI,aS,bH]) vZ (by simp[aO]) ?_;simp[aO];exact pF 10 Vj
 |true=>
 rw[Af]at hQ vZ;rw[if_pos rfl]at hQ;refine mH ?_;simp[hold];refine cM [.ptr (.par 0) 0,.pv (.agg [.i q.gA,.i q.item,.i q.day,.i q.rd])] [(.par 0,(aO (aL l) (bI bad) (aS ls) (bH ts) rn))] 94 [.par 0] (by simp[aO,bI,aS,bH]) vZ (by simp[aO]) ?_;simp[aO];refine cG [.bool true,.i 10] (gM 10) ?_;simp[hold];refine FR ?_;simp[hold,bH];refine .inl (cQ [] [.aF false 4 (ts.map Tt.pv),.agg [.i q.gA,.i q.item,.i q.day,.i q.rd]] (ZoJ (ts.map Tt.pv) q.gA q.item q.day q.rd (by rw[fV];omega)) ?_);simp;have G9:ts.map Tt.pv++[.agg [.i q.gA,.i q.item,.i q.day,.i q.rd]]=(ts++[q]).map Tt.pv:=by rw[mF];rfl
 rw[G9];refine j3 (a:=aL l) (b:=bI bad) (c:=aS ls) (d:=bH (ts++[q])) (e:=rn) [] ?_ ?_
 .simp[-List.map_append,aY,aO,bH,bI]
 .rw[<-hQ];exact⟨_,rfl,rfl,rfl,rfl,rfl,rfl⟩
theorem ZqL (l:List Ct)(h0:l≠[])(hl:l.length<=1000000):cR prog 68 [.pv (aL l)] [] (fun r B=>r=.vec (.ret 0) 7 0 l.length/\B=[(.ret 0,.arr 88 7 (l.map Ct.pv))]):=by
 refine cB [.loc 7 0] L68 ?_;cases l with
 |nil=>exact absurd rfl h0
 |cons a l=>
  have h1:l.length+1<=1000000:=by simpa using hl
  have hm:(l.map Ct.pv).take l.length=l.map Ct.pv:=fO (by simp);simp[L68,aL,dH,aP,h1,aU,rE,AS.exp,jT,aJ.iR,AV.map,dO,Site.uJ,aJ.dC,AV.dC,q9]
theorem YV (d:Int)(c:Ct):cR prog 277 [.pv c.pv,.ptr (.par 0) 0] (laid 0 ((eQ.num d).b 0)) (fun r B=>r=.pv (.bool (decide (c.num=d)))/\B=laid 0 ((eQ.num d).b 0)):=by
 refine cB [.par 0] L277 ?_;simp[L277,eQ.b,laid,Ct.pv]
section
section
variable {P:Program}{K:AV->AS->Prop}{σ:AS}
theorem ZtZ (fz:List Site){f:bA}{args:List bA}{d:Nat}{g:FuncId}{fs xs cs:List PV}{R:AV->List (Site×aJ)->Prop}{X:Prop}(h1:(aM fz σ).o f=.pv (.fn g fs cs))(h2:(aM fz σ).tO args=some xs)
  (hc:cR P g ((fs++xs++cs).map .pv) [] R) (hK:∀r B,R r B->oE r B/\K (r.map (iN d)) (((aM fz σ).bG d).lT (nO d B))):yV P f args d K σ\/X:=
 .inl (.inr ⟨fz,g,fs,xs,cs,h1,h2,hc.mono fun r B h=>hK r B h⟩)
end
def Bk.wo (b:Bk)(n:Int):Bk:=⟨b.items,b.aA.filter fun c=>!decide (c.num=n)⟩
theorem Fk {b:Bk}{n:Int}{c:Ct}(h:c∈(b.wo n).aA):c∈b.aA:=(iU.1 h).1
theorem XZ {b:Bk}(hb:b.ok)(n:Int):(b.wo n).ok:=
 ⟨hb.i,lC (O1 _ _) hb.c,hb.it,fun x hx=>hb.ct x (Fk hx),fun x hx y hy e=>hb.one x (Fk hx) y (Fk hy) e,fun x hx y hy e=>hb.day x (Fk hx) y (Fk hy) e⟩
def Bk.r5 (b:Bk)(n:Int):Bool:=!(b.wo n).contra
def Bk.qU (b:Bk):List Int×Int:=if b.fault=0 then(if b.contra=true then(b.nums.filter b.r5,0)else([],7))else([],b.fault)
attribute [local irreducible] Bk.held Bk.nums Bk.span Bk.contra Bk.r5
def Iq (b:Bk)(k:Nat):AS:=⟨[(1,.ptr (.loc 1 0) 0),(6,.vec (.loc 54 0) 1 0 ((b.nums.take k).filter b.r5).length),(29,.pv (.aF false 1 (b.nums.map aN))),(30,.pv (.i b.nums.length)),(31,.pv (.i k))],
 [(.loc 54 0,.arr 3 1 (((b.nums.take k).filter b.r5).map aN)),(.loc 1 0,.cells b.cells)]⟩
theorem Zmk (b:Bk)(hi:b.items.length<=1000)(hc:b.aA.length<=1000):cR prog 232 ([b.pv].map .pv) [] (fun r B=>r=.pv (J7 b.qU)/\B=[]):=by
 have hr:=Fa b hi hc;refine cR.U8 ?_;refine N6 [.loc 54 0] L232 ?_;intro R hR;simp[L232,Bk.pv,-aU];refine cL [.pv b.pv] [] 14 [] rfl hr ?_
 rintro r0 B0 (⟨h0,rfl,rfl⟩|⟨h0,es,kZ,rfl,rfl⟩)
 .refine⟨rfl,by simp,?_⟩;have hd:decide (b.fault=0)=false:=by simpa using h0
  simp[-decide_eq_true_eq,-decide_eq_false_iff_not,hd];rw[<-hR];exact⟨_,rfl,rfl,WS (by unfold Bk.qU;rw[if_neg h0])⟩
 have hb:b.ok:=Bk.U6.1 h0;have hlen:=WW (b:=b);have jJ:=Zn b hb es kZ;have hH:=TC hb [];have hS:=Zfj hb 1000;have Z2:=ZhL b hb es (kK b [] b.nums.length) (jO b b.nums.length) kZ hH hS;refine⟨rfl,by simp[aW,FT],?_⟩;simp[aW,FT,-aU];refine cM [.ptr (.par 0) 0] (laid 0 (kE b [] es)) 23 [.loc 14 0,.loc 14 1] (by simp[laid,kE,aW]) jJ (by simp[aW]) ?_;generalize kK b [] b.nums.length=hs at *;generalize jO b b.nums.length=ss at *;simp[aW,-aU];refine cM [.ptr (.par 0) 0] (laid 0 (gP b es hs ss)) 24 [.loc 23 0,.loc 23 1,.loc 23 2,.loc 14 0,.loc 14 1] (by simp[laid,gP,aW]) Z2 (by simp[laid,gP,aW]) ?_;clear jJ Z2 hr;cases nV:b.contra
 .simp[laid,gP,aW];rw[<-hR];exact⟨_,rfl,rfl,WS (by unfold Bk.qU;rw[if_pos h0,if_neg (by simp[nV])])⟩
 have hM:b.qU=(b.nums.filter b.r5,0):=by unfold Bk.qU;rw[if_pos h0,if_pos nV]
 rw[hM]at hR;simp[laid,gP,aW,-aU];refine eO (fun m τ=>∃k:Nat,k<=b.nums.length/\m=b.nums.length-k/\τ=Iq b k) ⟨b.nums.length,Iq b 0,Sub.trans' (Sub.mk (by simp[AS.cI]) (by simp[AS.cI,Bk.cells])) (cI 54 3 1 6 rfl (by decide)),0,by omega,rfl,rfl⟩ ?_;rintro J hJ m τ ⟨k,hk,rfl,rfl⟩;have lZ:((b.nums.take k).filter b.r5).length<=1000:=lC (O1 _ _) (by rw[gJ];omega);by_cases aI:k<b.nums.length
 .obtain⟨n,hn⟩:∃n,b.nums[k]?=some n:=⟨_,bB aI⟩;have Js:(b.nums.map aN)[k]?=some (.i n):=by rw[bW,hn];rfl
  have UM:=bN (k:=k) (by omega);have aB:=hJ _ _ ⟨k+1,aI,rfl,rfl⟩;have aG:b.nums.length-(k+1)<b.nums.length-k:=by omega
  have eJ:(b.nums.take (k+1)).filter b.r5=(b.nums.take k).filter b.r5++(if b.r5 n=true then[n]else[]):=by
   rw[mJ,hn,F2];congr 1;simp only[Option.toList,xL,List.filter_nil]
  have dA:b.aA≠[]:=fun e=>by
   obtain⟨c,hc,_⟩:=(s8 hb).1 (dK hn);rw[e]at hc;cases hc
  have cZ:=XZ hb n;have x7:(b.wo n).fault=0:=Bk.U6.2 cZ;have gN:=hb.c;have C7:=Fa (b.wo n) (by have:=cZ.i;omega) (by have:=cZ.c;omega);have T3:=ZqL b.aA dA (by omega);have HW:=Ds (.num n) (YV n) b.aA (by omega);have hsu:b.r5 n=!(b.wo n).contra:=by unfold Bk.r5;rfl
  have jI:(b.wo n).pv=.agg [aT b.items,.aF false 7 ((b.aA.filter fun c=>!decide (c.num=n)).map Ct.pv)]:=rfl;unfold Iq at aB ⊢;rw[eJ,hsu]at aB;clear hJ eJ hsu hR;generalize(b.nums.take k).filter b.r5=Y at *;have hY:(Y.map aN).take Y.length=Y.map aN:=fO (by simp);have hY6:Y.length<=999999:=by omega
  have qB:(b.aA.filter fun c=>!decide (c.num=n)).length<=1000:=lC (O1 _ _) hc;simp[aI,↓Js,Bk.cells,-aU];refine cM [.pv (aL b.aA)] [] 38 [] rfl T3 (by simp) ?_;simp[-aU];refine cL [.vec (.par 0) 7 0 b.aA.length,.fn 277 [] [.ptr (.par 1) 0]] (laid 0 (.arr 88 7 (b.aA.map Ct.pv)::(eQ.num n).b 1)) 40 [.loc 38 0,.loc 8 0] (by simp[laid,eQ.b]) HW ?_
  rintro r0 B0 ⟨rfl,X,hX,rfl⟩;refine⟨rfl,by simp[laid,eQ.b],?_⟩;have VH:(X.map Ct.pv).take (b.aA.filter fun c=>!decide (c.num=n)).length=(b.aA.filter fun c=>!decide (c.num=n)).map Ct.pv:=by rw[<-List.map_take,hX]
  have H0:(b.aA.filter fun c=>!decide (c.num=n)).length<=X.length:=by
   have:=congrArg List.length hX
   rw[gJ]at this;omega
  generalize(b.aA.filter fun c=>!decide (c.num=n))=Z at *;simp[laid,eQ.b,-aU];refine ZtZ [.loc 38 0] (fs:=[]) (xs:=[(b.wo n).pv]) (cs:=[]) rfl ?_ C7 ?_
  .simp[aM,VH,H0,jI]
  rintro r0 B0 (⟨q0,rfl,rfl⟩|⟨q0,Jz,Bw,rfl,rfl⟩)
  .exact absurd x7 q0
  have Rv:=Zn (b.wo n) cZ Jz Bw;have hH2:=TC cZ [];have mV:=Zfj cZ 1000;have Uk:=ZhL (b.wo n) cZ Jz (kK (b.wo n) [] (b.wo n).nums.length) (jO (b.wo n) (b.wo n).nums.length) Bw hH2 mV;generalize b.wo n=b2 at *;refine⟨by simp[oE,aW,FT,I6],?_⟩;simp[aM,aW,FT,nO,iN,VH,H0,-aU];refine cM [.ptr (.par 0) 0] (laid 0 (kE b2 [] Jz)) 48 [.loc 44 0,.loc 44 1] (by simp[laid,kE,aW]) Rv (by simp[aW]) ?_;generalize kK b2 [] b2.nums.length=pO at *;generalize jO b2 b2.nums.length=ss2 at *;simp[aW,-aU];refine cM [.ptr (.par 0) 0] (laid 0 (gP b2 Jz pO ss2)) 49 [.loc 48 0,.loc 48 1,.loc 48 2,.loc 44 0,.loc 44 1] (by simp[laid,gP,aW]) Uk (by simp[laid,gP,aW]) ?_;cases ES:b2.contra
  case true=>
   rw[ES,if_neg (by simp),uG]at aB;simp[laid,gP,aW,UM,-aU];exact⟨_,_,aG,Sub.mk (by simp) (by simp[Bk.cells]),aB⟩
  case false=>
  rw[ES,if_pos (by rfl)]at aB;simp[laid,gP,aW,UM,aP,hY6,-aU];exact⟨_,_,aG,Sub.mk (by simp) (by simp[Bk.cells,aN]),aB⟩
 have he:k=b.nums.length:=by omega
 subst he;clear hJ;unfold Iq;rw[nF]at lZ ⊢;generalize b.nums.filter b.r5=Y at *;have hY:(Y.map aN).take Y.length=Y.map aN:=fO (by simp);simp[hY,-aU];rw[<-hR];exact⟨_,rfl,rfl,fun m v h=>h⟩
end
section
attribute [local irreducible] Bk.fault Bk.qU
theorem OQ:jQ 3=some 3:=rfl
theorem UB:jQ 4=some 4:=rfl
theorem nI5:jQ 5=some 5:=rfl
theorem nI6:jQ 6=some 6:=rfl
def lX (l:List Ct)(bad:List Int)(x:Ct):Except Int (List Ct):=
 if(l.any fun y=>decide (y.num=x.num))=true then .error 6
 else if Bk.fault ⟨qV,l++[x]⟩=0 then(if(fA (l++[x]) bad).qU.2=7 then .ok (l++[x])else .error 9)
 else .error (Bk.fault ⟨qV,l++[x]⟩)
def crQ (r:Except Int (List Ct))(bad:List Int)(ls:PV)(ts:PV)(rn:PV)(a b c d e:PV):Prop:=∃l',r=.ok l'/\a=aL l'/\b=bI bad/\c=ls/\d=ts/\e=rn
theorem Zu8 (l:List Ct)(bad:List Int)(ls ts rn:PV)(x:Ct)(hl:l.length<=900)(hb:bad.length<=1000):
  sZ prog 187 [.ptr (.par 0) 0,.pv (.aF false 1 [iP x.num,iP x.it,iP x.src,iP x.day,iP x.valid,iP x.diff.lo,iP x.diff.hi])] [(.par 0,aO (aL l) (bI bad) ls ts rn)] (xW (crQ (lX l bad x) bad ls ts rn)) (uR (fun e=>lX l bad x=.error e)):=by
 have M7:=Yl l x.num (bI bad) ls ts rn (by omega);refine cX L187 ?_;generalize hE:(fun e=>lX l bad x=.error e)=E;generalize hQ:crQ (lX l bad x) bad ls ts rn=Q;unfold lX at hE hQ;generalize(l.any fun y=>decide (y.num=x.num))=kn at hE hQ M7;show fM _ (.seq _ (.seq _ (.seq _ _))) _ _ _;cases kn with
 |true=>
  have II:E 6:=by rw[<-hE];rfl
  refine wX [_,_,_,_,_,_] ?_;simp[hold,aO,iP,aL];refine cM [.ptr (.par 0) 0,.pv (.i x.num)] [(.par 0,aO (aL l) (bI bad) ls ts rn)] 9 [.par 0] (by simp[aO,aL]) M7 (by simp[aO]) ?_;simp[aO];exact pF 6 II
 |false=>
 rw[if_neg (by simp)]at hE hQ;refine mH ?_;simp[hold,aO,iP,aL];refine cM [.ptr (.par 0) 0,.pv (.i x.num)] [(.par 0,aO (aL l) (bI bad) ls ts rn)] 9 [.par 0] (by simp[aO,aL]) M7 (by simp[aO]) ?_;simp[aO];refine cG [.bool true,.i 6] (gM 6) ?_;simp;refine mH ?_;simp[hold,setAt,OQ,UB,nI5,nI6];refine .inl (cQ [] [.aF false 7 (l.map Ct.pv),x.pv] (ZoL (l.map Ct.pv) x.num x.it x.src x.day x.valid x.diff.lo x.diff.hi (by rw[fV];omega)) ?_);have G9:l.map Ct.pv++[.agg [.i x.num,.i x.it,.i x.src,.i x.day,.i x.valid,.i x.diff.lo,.i x.diff.hi]]=(l++[x]).map Ct.pv:=by rw[mF];rfl
 rw[G9];have RA:(l++[x]).length<=1000:=by rw[gD];simp;omega
 generalize l++[x]=L at hE hQ RA ⊢;clear G9 M7;simp[hold];have hwc:=Zsa L (bI bad) ls ts rn;have HZ:=ZjS ⟨qV,L⟩ (show qV.length<=1000 by decide) RA;generalize hF:Bk.fault ⟨qV,L⟩=F at hE hQ HZ;refine mH ?_;simp;refine cM [.ptr (.par 0) 0] [(.par 0,aO (aL L) (bI bad) ls ts rn)] 46 [.par 0] (by simp[aO,aL]) hwc (by simp[aO]) ?_;simp[hold,aO];refine cG [Bk.pv ⟨qV,L⟩] HZ ?_;simp[hold];by_cases h0:¬F=0
 .rw[if_neg h0]at hE;have hEF:E F:=by rw[<-hE]
  refine wX [_,_,_] ?_;simp[hold,h0];exact pF F hEF
 have h0:=Decidable.not_not.1 h0;rw[if_pos h0]at hE hQ;refine mH ?_;simp[hold,h0];refine cG [.bool true,.i 0] (gM 0) ?_;simp[hold];have lW:=Ln L bad ls ts rn RA hb;have vZ:=Zmk (fA L bad) (show qV.length<=1000 by decide) (by unfold fA fR;exact lC (O1 _ _) RA);generalize hS:(fA L bad).qU=sp at hE hQ vZ;obtain⟨s1,s2⟩:=sp;refine mH ?_;simp;refine cM [.ptr (.par 0) 0] [(.par 0,aO (aL L) (bI bad) ls ts rn)] 54 [.par 0] (by simp[aO,aL]) lW (by simp[aO]) ?_;simp[aO];refine .inl (cQ [] [(fA L bad).pv] vZ ?_);simp[J7];by_cases h7:¬s2=7
 .rw[if_neg h7]at hE;have Vg:E 9:=by rw[<-hE]
  refine Gc [_,_] ?_;simp[hold,h7];exact pF 9 Vg
 have h7:=Decidable.not_not.1 h7;rw[if_pos h7]at hQ;refine FR ?_;simp[hold,h7];refine cG [.bool true,.i 9] (gM 9) ?_;simp[hold];refine j3 (a:=aL L) (b:=bI bad) (c:=ls) (d:=ts) (e:=rn) [] ?_ ?_
 .simp[aY,aO,aL,bI]
 .rw[<-hQ];exact⟨_,rfl,rfl,rfl,rfl,rfl,rfl⟩
end
end Go.Proofs.YtlllhbmbnjnoiaaGreatDoor
namespace Go.Proofs.YtlllhbmbnjnoiaaGreatDoor.Qn
open Go.RowKit
open Tryz
section
open Go.RowKit Go.ChangeShapes Go.WideShapes Go.Deep
structure Rg where
 lo:Int
 hi:Int
structure Rq where
 hours:Int
 ready:Int
 on:List Bool
structure Qu where
 ms:List (List Rg)
 rs:List Rq
def Rg.pv (r:Rg):PV:=.agg [.i r.lo,.i r.hi]
def iB (l:List Rg):PV:=.aF false 2 (l.map Rg.pv)
def OJ (l:List Bool):PV:=.aF false 1 (l.map PV.bool)
def Rq.pv (r:Rq):PV:=.agg [.i r.hours,.i r.ready,OJ r.on]
def Qu.pv (q:Qu):PV:=.agg [.aF false 1 (q.ms.map iB),.aF false 3 (q.rs.map Rq.pv)]
section
variable {H:Type}{enc:TypeId×Value->H}{W:World}{sp:Nat->Bool}{held:Bool}{r:Reach}{base:Nat}
end
end
theorem FV (n lo hi:Int):aD prog 173 [.i n,.i lo,.i hi] (.bool (decide (lo<=n)&&decide (n<=hi))):=by
 refine cS L173 ?_;by_cases h:lo<=n
 all_goals simp[h,L173]
theorem yC (n lo hi:Int):aD prog 269 [.i n,.i lo,.i hi] (.bool (decide (lo<=n)&&decide (n<=hi))):=by
 refine cS L269 ?_;by_cases h:lo<=n
 all_goals simp[h,L269]
def wC (n:Int):Bool:=decide (0<=n)&&decide (n<=39)
def kU (n:Int):Bool:=decide (0<=n)&&decide (n<=40)
theorem ZrN (n:Int):aD prog 172 [.i n] (.bool (wC n)):=by
 refine cS L172 ?_;simp[L172];refine gF (k:=0) rfl rfl (FV n 0 39) rfl ?_;simp[wC]
theorem ZrK (n:Int):aD prog 132 [.i n] (.bool (kU n)):=by
 refine cS L132 ?_;simp[L132];refine gF (k:=0) rfl rfl (FV n 0 40) rfl ?_;simp[kU]
def Rg.r8 (r:Rg):Bool:=wC r.lo&&wC r.hi&&decide (r.lo<=r.hi)
theorem ZtC (r:Rg):aD prog 130 [r.pv] (.bool r.r8):=by
 refine cS L130 ?_;simp[L130,Rg.pv];refine gF (k:=0) rfl rfl (ZrN r.lo) rfl ?_;cases h1:wC r.lo
 .simp[Rg.r8,h1]
 .simp;refine gF (k:=0) rfl rfl (ZrN r.hi) rfl ?_;cases h2:wC r.hi
  .simp[Rg.r8,h1,h2]
  .simp[Rg.r8,h1,h2]
theorem Zrm (l:List PV)(g:FuncId)(fs cs:List PV)(q:PV->Bool)(hq:∀x∈l,aD prog g (fs++[x]++cs) (.bool (q x)))(hl:l.length<=1000000)(hc:∀x∈l,∃ys,x=.aF false 2 ys):
  aD prog 174 [.aF false 1 l,.fn g fs cs] (.bool (l.any q)):=
 wR 213 (SN (row:=false) hq hl (fun x hx=>by obtain⟨ys,rfl⟩:=hc x hx;exact⟨rfl,by simp⟩))
theorem Zo5 (x:PV)(g:FuncId)(fs cs:List PV)(b:Bool)(hx:∃ys,x=.aF false 2 ys)(hq:aD prog g (fs++[x]++cs) (.bool b)):
  aD prog 175 [x,.ref [.fn g fs cs]] (.bool (!b)):=by
 obtain⟨ys,rfl⟩:=hx;refine cS L175 ?_;simp[L175];refine gF (k:=0) rfl rfl hq rfl ?_;simp
theorem ZlE (l:List PV)(g:FuncId)(fs cs:List PV)(q:PV->Bool)(hq:∀x∈l,aD prog g (fs++[x]++cs) (.bool (q x)))(hl:l.length<=1000000)(hc:∀x∈l,∃ys,x=.aF false 2 ys):
  aD prog 133 [.aF false 1 l,.fn g fs cs] (.bool (l.all q)):=
 N9 174 175 (Zrm l 175 [] [.ref [.fn g fs cs]] (fun x=>!q x) (fun x hx=>Zo5 x g fs cs (q x) (hc x hx) (hq x hx)) hl hc)
theorem Zo2 (l:List PV)(g:FuncId)(fs cs:List PV)(q:PV->Bool)(hq:∀x∈l,aD prog g (fs++[x]++cs) (.bool (q x)))(hl:l.length<=1000000)(hc:∀x∈l,∃a b,x=.agg [.i a,.i b]):
  aD prog 170 [.aF false 2 l,.fn g fs cs] (.bool (l.any q)):=
 wR 212 (SN (row:=true) hq hl (fun x hx=>by obtain⟨a,b,rfl⟩:=hc x hx;exact⟨_,rfl,rfl⟩))
theorem Zrq (x:PV)(g:FuncId)(fs cs:List PV)(b:Bool)(hx:∃a b,x=.agg [.i a,.i b])(hq:aD prog g (fs++[x]++cs) (.bool b)):
  aD prog 171 [x,.ref [.fn g fs cs]] (.bool (!b)):=by
 obtain⟨a,b,rfl⟩:=hx;refine cS L171 ?_;simp[L171];refine gF (k:=0) rfl rfl hq rfl ?_;simp
theorem Zug (l:List PV)(g:FuncId)(fs cs:List PV)(q:PV->Bool)(hq:∀x∈l,aD prog g (fs++[x]++cs) (.bool (q x)))(hl:l.length<=1000000)(hc:∀x∈l,∃a b,x=.agg [.i a,.i b]):
  aD prog 129 [.aF false 2 l,.fn g fs cs] (.bool (l.all q)):=
 N9 170 171 (Zo2 l 171 [] [.ref [.fn g fs cs]] (fun x=>!q x) (fun x hx=>Zrq x g fs cs (q x) (hc x hx) (hq x hx)) hl hc)
theorem Zub (l:List PV)(g:FuncId)(fs cs:List PV)(q:PV->Bool)(hq:∀x∈l,aD prog g (fs++[x]++cs) (.bool (q x)))(hl:l.length<=1000000)(hc:∀x∈l,∃a b ys,x=.agg [.i a,.i b,.aF false 1 ys]):
  aD prog 176 [.aF false 3 l,.fn g fs cs] (.bool (l.any q)):=
 wR 214 (SN (row:=true) hq hl (fun x hx=>by obtain⟨a,b,ys,rfl⟩:=hc x hx;exact⟨_,rfl,rfl⟩))
theorem Zrp (x:PV)(g:FuncId)(fs cs:List PV)(b:Bool)(hx:∃a b ys,x=.agg [.i a,.i b,.aF false 1 ys])(hq:aD prog g (fs++[x]++cs) (.bool b)):
  aD prog 177 [x,.ref [.fn g fs cs]] (.bool (!b)):=by
 obtain⟨a,b,ys,rfl⟩:=hx;refine cS L177 ?_;simp[L177];refine gF (k:=0) rfl rfl hq rfl ?_;simp
theorem Zuf (l:List PV)(g:FuncId)(fs cs:List PV)(q:PV->Bool)(hq:∀x∈l,aD prog g (fs++[x]++cs) (.bool (q x)))(hl:l.length<=1000000)(hc:∀x∈l,∃a b ys,x=.agg [.i a,.i b,.aF false 1 ys]):
  aD prog 134 [.aF false 3 l,.fn g fs cs] (.bool (l.all q)):=
 N9 176 177 (Zub l 177 [] [.ref [.fn g fs cs]] (fun x=>!q x) (fun x hx=>Zrp x g fs cs (q x) (hc x hx) (hq x hx)) hl hc)
theorem Dn (ys:List PV):aD prog 127 [.aF false 2 ys] (.bool (decide ((ys.length:Int)<=6))):=by
 refine cS L127 ?_;simp[-decide_eq_true_eq,L127]
def Fg:PV->Bool
 |.agg [.int _ a,.int _ b]=>Rg.r8 ⟨a,b⟩
 |_=>true
theorem Zsm (l:List Rg)(hl:l.length<=1000000):aD prog 128 [iB l] (.bool (l.all Rg.r8)):=by
 have h:=Zug (l.map Rg.pv) 130 [] [] Fg (fun x hx=>by
  obtain⟨r,_,rfl⟩:=iI.1 hx;exact ZtC r) (by simpa using hl) (fun x hx=>by
  obtain⟨r,_,rfl⟩:=iI.1 hx;exact⟨_,_,rfl⟩)
 have e:(l.map Rg.pv).all Fg=l.all Rg.r8:=by rw[List.all_map];rfl
 rw[e]at h;refine cS L128 ?_;simp[L128,iB];refine gF (k:=0) rfl rfl h rfl ?_;simp
def Rq.okB (n:Nat)(r:Rq):Bool:=kU r.hours&&kU r.ready&&decide ((r.on.length:Int)=n)
theorem YN (q:Qu)(r:Rq):aD prog 131 [r.pv,.ref [.aF false 1 (q.ms.map iB),.aF false 3 (q.rs.map Rq.pv)]] (.bool (r.okB q.ms.length)):=by
 refine cS L131 ?_;simp[L131,Rq.pv];refine gF (k:=0) (fs:=[]) (cs:=[]) rfl rfl (ZrK r.hours) rfl ?_;cases h1:kU r.hours
 .simp[Rq.okB,h1]
 .simp;refine gF (k:=0) (fs:=[]) (cs:=[]) rfl rfl (ZrK r.ready) rfl ?_;cases h2:kU r.ready
  .simp[Rq.okB,h1,h2]
  .simp[OJ,Rq.okB,h1,h2]
def Qu.xK (q:Qu):Bool:=decide (4<q.ms.length)||decide (6<q.rs.length)||!(q.ms.all fun l=>decide ((l.length:Int)<=6))
def Qu.bad (q:Qu):Bool:=!(q.ms.all fun l=>l.all Rg.r8)||!(q.rs.all fun r=>r.okB q.ms.length)
def Qu.check (q:Qu):Int:=if q.xK=true then 3 else if q.bad=true then 1 else 0
def RP:PV->Bool
 |.aF _ _ ys=>decide ((ys.length:Int)<=6)
 |_=>true
def Yf:PV->Bool
 |.aF _ _ ys=>ys.all Fg
 |_=>true
def ZF (n:Nat):PV->Bool
 |.agg [.int _ a,.int _ b,.aF _ _ ys]=>kU a&&kU b&&decide ((ys.length:Int)=n)
 |_=>true
theorem SR (q:Qu)(h1:q.ms.length<=1000000)(h2:q.rs.length<=1000000)(h3:∀l∈q.ms,l.length<=1000000):aD prog 91 [q.pv] (.i q.check):=by
 have e1:(q.ms.map iB).all RP=q.ms.all fun l=>decide ((l.length:Int)<=6):=by
  rw[List.all_map];congr 1;funext l;simp[RP,iB]
 have e2:(q.ms.map iB).all Yf=q.ms.all fun l=>l.all Rg.r8:=by
  rw[List.all_map];congr 1;funext l;show((l.map Rg.pv).all Fg)=_;rw[List.all_map];rfl
 have e3:(q.rs.map Rq.pv).all (ZF q.ms.length)=q.rs.all fun r=>r.okB q.ms.length:=by
  rw[List.all_map];congr 1;funext r;simp[ZF,Rq.pv,OJ,Rq.okB]
 have a1:=ZlE (q.ms.map iB) 127 [] [] RP (fun x hx=>by
  obtain⟨l,_,rfl⟩:=iI.1 hx;exact Dn _) (by simpa using h1) (fun x hx=>by
  obtain⟨l,_,rfl⟩:=iI.1 hx;exact⟨_,rfl⟩)
 have a2:=ZlE (q.ms.map iB) 128 [] [] Yf (fun x hx=>by
  obtain⟨l,hl,rfl⟩:=iI.1 hx
  have:=Zsm l (h3 l hl)
  have e:Yf (iB l)=l.all Rg.r8:=by show((l.map Rg.pv).all Fg)=_;rw[List.all_map];rfl
  rw[e];exact this) (by simpa using h1) (fun x hx=>by
  obtain⟨l,_,rfl⟩:=iI.1 hx;exact⟨_,rfl⟩)
 have a3:=Zuf (q.rs.map Rq.pv) 131 [] [.ref [.aF false 1 (q.ms.map iB),.aF false 3 (q.rs.map Rq.pv)]] (ZF q.ms.length) (fun x hx=>by
  obtain⟨r,_,rfl⟩:=iI.1 hx;have e:ZF q.ms.length r.pv=r.okB q.ms.length:=by simp[ZF,Rq.pv,OJ,Rq.okB]
  rw[e];exact YN q r) (by simpa using h2) (fun x hx=>by
  obtain⟨r,_,rfl⟩:=iI.1 hx;exact⟨_,_,_,rfl⟩)
 rw[e1]at a1;rw[e2]at a2;rw[e3]at a3;have hb:q.xK=(decide (4<q.ms.length)||decide (6<q.rs.length)||!(q.ms.all fun l=>decide ((l.length:Int)<=6))):=rfl;have hd:q.bad=(!(q.ms.all fun l=>l.all Rg.r8)||!(q.rs.all fun r=>r.okB q.ms.length)):=rfl;unfold Qu.check;generalize(q.ms.all fun l=>decide ((l.length:Int)<=6))=b1 at *;generalize(q.ms.all fun l=>l.all Rg.r8)=b2 at *;generalize(q.rs.all fun r=>r.okB q.ms.length)=b3 at *;refine cS L91 ?_;by_cases c1:4<q.ms.length
 .have k1:(4:Int)<(q.ms.length:Int):=by omega
  have C0:¬((q.ms.length:Int)<=4):=by omega
  simp[L91,Qu.pv,k1,hb,c1]
 .have d1:decide ((4:Int)<(q.ms.length:Int))=false:=by simp;omega
  by_cases c2:6<q.rs.length
  .have d2:decide ((6:Int)<(q.rs.length:Int))=true:=by simp;omega
   simp[-decide_eq_true_eq,-decide_eq_false_iff_not,L91,Qu.pv,d1,d2];simp[hb,c1,c2]
  .have d2:decide ((6:Int)<(q.rs.length:Int))=false:=by simp;omega
   simp[-decide_eq_true_eq,-decide_eq_false_iff_not,L91,Qu.pv,d1,d2];refine gF (k:=4) rfl rfl a1 rfl ?_;cases b1
   .simp[hb,c1,c2]
   .simp;refine gF (k:=4) rfl rfl a2 rfl ?_;cases b2
    .simp[hb,hd,c1,c2]
    .simp;refine gF (k:=4) rfl rfl a3 rfl ?_;cases b3<;>simp[hb,hd,c1,c2]
def Qu.cells (q:Qu):List AV:=[.pv (.aF false 1 (q.ms.map iB)),.pv (.aF false 3 (q.rs.map Rq.pv))]


def aN (n:Int):PV:=.i n
def bR (l:List Int):PV:=.aF false 1 (l.map aN)
def eD (p:List (List Int)):PV:=.aF false 1 (p.map bR)
theorem jD {k:Nat}(h:k<=1000000):IntKind.i64.wrap ((k:Int)+1)=((k+1:Nat):Int):=by rw[wrap64 (by omega)];omega
def Qu.tU (q:Qu)(i:Int):Int:=((q.rs[i.toNat]?).map Rq.hours).getD 0
def Qu.sJ (q:Qu)(l:List Int):Int:=(l.map q.tU).sum
theorem Qu.ZxS {q:Qu}(hh:∀r∈q.rs,0<=r.hours/\r.hours<=40)(i:Int):0<=q.tU i/\q.tU i<=40:=by
 unfold Qu.tU;cases h:q.rs[i.toNat]? with
 |none=>simp
 |some r=>exact hh r (dK h)
theorem Qu.Zw6 {q:Qu}(hh:∀r∈q.rs,0<=r.hours/\r.hours<=40):∀l:List Int,0<=q.sJ l/\q.sJ l<=40*l.length
 |[]=>by simp[Qu.sJ]
 |a::l=>by
  have h1:=Qu.Zw6 hh l;have h2:=q.ZxS hh a;have e:q.sJ (a::l)=q.tU a+q.sJ l:=by simp[Qu.sJ]
  rw[e,pB];omega
theorem Qu.Zxe (q:Qu)(a b:List Int):q.sJ (a++b)=q.sJ a+q.sJ b:=by simp[Qu.sJ]
theorem GX (q:Qu)(l:List Int)(hl:l.length<=1000)(hr:q.rs.length<=1000)(hh:∀r∈q.rs,0<=r.hours/\r.hours<=40)(fU:∀x∈l,0<=x/\x<q.rs.length):aD prog 142 [q.pv,bR l] (.i (q.sJ l)):=by
 refine cS L142 ?_;simp[L142,Qu.pv,bR];refine eO (fun n τ=>∃k:Nat,k<=l.length/\n=l.length-k/\τ=⟨[(1,.pv (bR l)),(2,.ptr (.loc 2 0) 0),(5,.pv (.i (q.sJ (l.take k)))),(6,.pv (.i k))],[(.loc 2 0,.cells q.cells)]⟩)
  ⟨l.length,⟨[(1,.pv (bR l)),(2,.ptr (.loc 2 0) 0),(5,.pv (.i 0)),(6,.pv (.i 0))],[(.loc 2 0,.cells q.cells)]⟩,Sub.mk (by simp[bR]) (by simp[Qu.cells]),0,gV _,rfl,by simp[Qu.sJ]⟩ ?_
 rintro J hJ n τ ⟨k,hk,rfl,rfl⟩;by_cases aI:k<l.length
 .obtain⟨x,hx⟩:∃x,l[k]?=some x:=⟨l[k],bB aI⟩;obtain⟨BM,X0⟩:=fU x (dK hx);obtain⟨i,rfl⟩:∃i:Nat,x=i:=⟨x.toNat,by omega⟩;obtain⟨r,wB⟩:∃r,q.rs[i]?=some r:=⟨q.rs[i]'(by omega),bB _⟩;have QM:(l.map aN)[k]?=some (.i i):=by rw[bW,hx];rfl
  have G8:(q.rs.map Rq.pv)[i]?=some (.agg [.i r.hours,.i r.ready,OJ r.on]):=by rw[bW,wB];rfl
  have hw:=jD (k:=k) (by omega);have jS:q.sJ (l.take (k+1))=q.sJ (l.take k)+r.hours:=by
   rw[mJ,hx,Qu.Zxe];simp[Qu.sJ,Qu.tU,wB]
  have hb:=Qu.Zw6 hh (l.take k);have pP:(l.take k).length<=1000:=by rw[gJ];omega
  have QT:=hh r (dK wB);have sO:IntKind.i64.wrap (q.sJ (l.take k)+r.hours)=q.sJ (l.take k)+r.hours:=wrap64 (by omega);have aB:=hJ _ _ ⟨k+1,aI,rfl,rfl⟩;clear hJ;simp[bR,Qu.cells,aI,↓QM,↓G8,hw,sO];refine⟨_,_,(by omega:l.length-(k+1)<l.length-k),Sub.mk ?_ ?_,aB⟩
  .simp[bR,jS]
  .simp[Qu.cells]
 .have he:k=l.length:=by omega
  subst he;simp[bR,Qu.cells]
def Rg.has (s:Rg)(h:Int):Bool:=decide (s.lo<=h)&&decide (h<=s.hi)
theorem Zsn (s:Rg)(h:Int):aD prog 313 [s.pv,.ref [.i h]] (.bool (s.has h)):=by
 refine cS L313 ?_;simp[L313,Rg.pv];refine gF (k:=0) rfl rfl (FV h s.lo s.hi) rfl ?_;simp[Rg.has]
def Cp (h:Int):PV->Bool
 |.agg [.int _ a,.int _ b]=>Rg.has ⟨a,b⟩ h
 |_=>false
def Qu.run (q:Qu)(i:Nat):Rq:=(q.rs[i]?).getD ⟨0,0,[]⟩
def Qu.stops (q:Qu)(m:Nat):List Rg:=(q.ms[m]?).getD []
def Qu.may (q:Qu)(i m:Nat)(h:Int):Bool:=((q.run i).on[m]?).getD false&&decide ((q.run i).ready<=h)&&!(q.stops m).any (Rg.has · h)
structure Qu.ok (q:Qu):Prop where
 m:q.ms.length<=4
 r:q.rs.length<=6
 s:∀l∈q.ms,l.length<=6
 x:∀l∈q.ms,∀y∈l,0<=y.lo/\y.lo<=y.hi/\y.hi<=39
 h:∀r∈q.rs,0<=r.hours/\r.hours<=40
 d:∀r∈q.rs,0<=r.ready/\r.ready<=40
 f:∀r∈q.rs,r.on.length=q.ms.length
theorem Qu.Kl {q:Qu}(h:q.check=0):q.ok:=by
 unfold Qu.check at h;split at h
 .cases h
 .rename_i h1;split at h
  .cases h
  .rename_i h2;simp only[Qu.xK,Bool.not_eq_true,Bool.or_eq_false_iff,decide_eq_false_iff_not,Bool.not_eq_false',rC,decide_eq_true_eq]at h1;simp only[Qu.bad,Bool.not_eq_true,Bool.or_eq_false_iff,Bool.not_eq_false',rC]at h2;obtain⟨⟨a1,a2⟩,a3⟩:=h1;obtain⟨b1,b2⟩:=h2;refine⟨by omega,by omega,fun l hl=>by have:=a3 l hl;omega,fun l hl y hy=>?_,fun r hr=>?_,fun r hr=>?_,fun r hr=>?_⟩
   .have:=b1 l hl y hy
    simp only[Rg.r8,wC,dJ,decide_eq_true_eq]at this;omega
   all_goals
    have:=b2 r hr
    simp only[Rq.okB,kU,dJ,decide_eq_true_eq]at this;omega
theorem ZK (q:Qu)(hq:q.ok)(i m:Nat)(h:Int)(hi:i<q.rs.length)(hm:m<q.ms.length):aD prog 300 [q.pv,.i i,.i m,.i h] (.bool (q.may i m h)):=by
 obtain⟨r,hr⟩:∃r,q.rs[i]?=some r:=⟨q.rs[i],bB hi⟩;obtain⟨l,hl⟩:∃l,q.ms[m]?=some l:=⟨q.ms[m],bB hm⟩;obtain⟨b,hb⟩:∃b,r.on[m]?=some b:=⟨r.on[m]'(by rw[hq.f r (dK hr)];exact hm),bB _⟩;have yI:=hq.s l (dK hl);have e:q.may i m h=(b&&decide (r.ready<=h)&&!l.any (Rg.has · h)):=by simp[Qu.may,Qu.run,Qu.stops,hr,hl,hb]
 have g1:(q.rs.map Rq.pv)[i]?=some (.agg [.i r.hours,.i r.ready,.aF false 1 (r.on.map PV.bool)]):=by rw[bW,hr];rfl
 have g2:(q.ms.map iB)[m]?=some (.aF false 2 (l.map Rg.pv)):=by rw[bW,hl];rfl
 have g3:(r.on.map PV.bool)[m]?=some (.bool b):=by rw[bW,hb];rfl
 have a1:=Zo2 (l.map Rg.pv) 313 [] [.ref [.i h]] (Cp h) (fun x hx=>by
  obtain⟨s,_,rfl⟩:=iI.1 hx;exact Zsn s h) (by simp;omega) (fun x hx=>by
  obtain⟨s,_,rfl⟩:=iI.1 hx;exact⟨_,_,rfl⟩)
 have e2:(l.map Rg.pv).any (Cp h)=l.any (Rg.has · h):=by rw[List.any_map];rfl
 rw[e2]at a1;rw[e];generalize l.any (Rg.has · h)=c at *;clear e yI e2;refine cS L300 ?_;cases b
 .simp[L300,Qu.pv,↓g1,↓g3]
 .by_cases hd:r.ready<=h
  .simp[L300,Qu.pv,↓g1,↓g2,↓g3,hd];refine gF (k:=4) (fs:=[]) (xs:=[.aF false 2 (l.map Rg.pv),.fn 313 [] [.ref [.i h]]]) (cs:=[]) rfl rfl a1 rfl ?_;simp
  .simp[L300,Qu.pv,↓g1,↓g3,hd]
def kL (p:List (List Int))(i:Nat):Nat:=(p.map (List.count (i:Int))).sum
theorem Lr (a b:List (List Int))(i:Nat):kL (a++b) i=kL a i+kL b i:=by simp[kL]
theorem ZtW (l:List Int)(i:Nat):kL [l] i=l.count (i:Int):=by simp[kL]
theorem NV {α:Type}{l:List α}{k:Nat}{x:α}(h:l[k]?=some x):l.take (k+1)=l.take k++[x]:=by rw[mJ,h];rfl

theorem Zuw (q:Qu)(hq:q.ok)(i m:Nat)(h:Int)(hi:i<q.rs.length)(hm:m<q.ms.length):aD prog 220 [q.pv,.i i,.i m,.i h] (.bool (q.may i m h)):=by
 obtain⟨r,hr⟩:∃r,q.rs[i]?=some r:=⟨q.rs[i],bB hi⟩;obtain⟨l,hl⟩:∃l,q.ms[m]?=some l:=⟨q.ms[m],bB hm⟩;obtain⟨b,hb⟩:∃b,r.on[m]?=some b:=⟨r.on[m]'(by rw[hq.f r (dK hr)];exact hm),bB _⟩;have yI:=hq.s l (dK hl);have e:q.may i m h=(b&&decide (r.ready<=h)&&!(l.take l.length).any (Rg.has · h)):=by simp[Qu.may,Qu.run,Qu.stops,hr,hl,hb]
 have g1:(q.rs.map Rq.pv)[i]?=some (.agg [.i r.hours,.i r.ready,.aF false 1 (r.on.map PV.bool)]):=by rw[bW,hr];rfl
 have g2:(q.ms.map iB)[m]?=some (.aF false 2 (l.map Rg.pv)):=by rw[bW,hl];rfl
 have g3:(r.on.map PV.bool)[m]?=some (.bool b):=by rw[bW,hb];rfl
 obtain⟨C,hC⟩:∃C,C=(b&&decide (r.ready<=h)):=⟨_,rfl⟩;rw[e,<-hC];clear e;refine cS L220 ?_;cases b<;>by_cases hd:r.ready<=h
 all_goals
  simp[L220,Qu.pv,↓g1,↓g3,hd];refine eO (fun n τ=>∃k:Nat,k<=l.length/\n=l.length-k/\τ=⟨[(2,.pv (.i m)),(3,.pv (.i h)),(4,.ptr (.loc 4 0) 0),(10,.pv (.bool (C&&!(l.take k).any (Rg.has · h)))),(11,.pv (.i k))],[(.loc 4 0,.cells q.cells)]⟩)
   ⟨l.length,⟨[(2,.pv (.i m)),(3,.pv (.i h)),(4,.ptr (.loc 4 0) 0),(10,.pv (.bool C)),(11,.pv (.i 0))],[(.loc 4 0,.cells q.cells)]⟩,Sub.mk (by simp[hC,hd]) (by simp[Qu.cells]),0,gV _,rfl,by simp⟩ ?_
  clear hC hd;rintro J hJ n τ ⟨k,hk,rfl,rfl⟩;by_cases aI:k<l.length
  .obtain⟨x,hx⟩:∃x,l[k]?=some x:=⟨l[k],bB aI⟩;have g4:(l.map Rg.pv)[k]?=some (.agg [.i x.lo,.i x.hi]):=by rw[bW,hx];rfl
   have hw:=jD (k:=k) (by omega);have aB:=hJ _ _ ⟨k+1,aI,rfl,rfl⟩;have kB:(C&&!(l.take (k+1)).any (Rg.has · h))=((C&&!(l.take k).any (Rg.has · h))&&!x.has h):=by
    rw[NV hx,List.any_append,List.any_cons,List.any_nil,Bool.or_false,Bool.not_or,Bool.and_assoc]
   have aG:l.length-(k+1)<l.length-k:=by omega
   clear hJ;generalize(C&&!(l.take (k+1)).any (Rg.has · h))=C2 at *;generalize(C&&!(l.take k).any (Rg.has · h))=C1 at *;subst kB;cases C1
   .simp[Qu.cells,↓g2,↓g4,aI,hw];exact⟨_,_,aG,Sub.mk (by simp) (by simp[Qu.cells]),aB⟩
   .simp[Qu.cells,↓g2,↓g4,aI];refine gF (k:=0) (fs:=[]) (cs:=[]) rfl rfl (yC h x.lo x.hi) rfl ?_;simp[hw,-Bool.not_and];exact⟨_,_,aG,Sub.mk (by simp[Rg.has]) (by simp[Qu.cells]),aB⟩
  .have he:k=l.length:=by omega
   subst he;simp[Qu.cells,↓g2]

def Qu.SI (q:Qu)(l:List Int)(i:Nat):Bool:=decide (0<=(l[i]?).getD (-1))&&decide ((l[i]?).getD (-1)<=(q.rs.length:Int)-1)&&(decide (i=0)||decide ((l[i-1]?).getD (-1)<(l[i]?).getD (-1)))
def Qu.rising (q:Qu)(l:List Int):Bool:=(List.range l.length).all (q.SI l)
theorem ZqN (l:List Int)(hl:l.length<=1000000):aD prog 69 [bR l] (bR l):=by
 refine cR.U8 ?_;refine cF [.loc 7 0] L69 ?_;cases l with
 |nil=>
  simp[L69,bR,dH,s7,aP,bY,B4];exact fun m v h=>AB h
 |cons a l=>
  have h1:l.length+1<=1000000:=by simpa using hl
  have hm:(l.map aN).take l.length=l.map aN:=fO (by simp);simp[L69,bR,dH,aP,h1,hm]


section
theorem Zdx {P:Program}{C:Cons P}{c:C.S}{k:Nat}:((laid 0 (C.X c)).filter fun p=>!p.1.fP k).map (fun p=>(p.1,p.2.bG k))=laid 0 (C.X c):=ZeF (C.cl c)
theorem ZuX:aD prog 136 [] (.agg [.i (-1),.i (-1),.i (-1),.i (-1)]):=by
 refine cS L136 ?_;simp[L136];refine eO (fun n τ=>(n=4/\τ=⟨[(0,.ptr (.loc 0 0) 0),(2,.pv (.i 0))],[(.loc 0 0,.cells [.pv (.i 0),.pv (.i 0),.pv (.i 0),.pv (.i 0)])]⟩)\/
  (n=3/\τ=⟨[(0,.ptr (.loc 0 0) 0),(2,.pv (.i 1))],[(.loc 0 0,.cells [.pv (.i (-1)),.pv (.i 0),.pv (.i 0),.pv (.i 0)])]⟩)\/
  (n=2/\τ=⟨[(0,.ptr (.loc 0 0) 0),(2,.pv (.i 2))],[(.loc 0 0,.cells [.pv (.i (-1)),.pv (.i (-1)),.pv (.i 0),.pv (.i 0)])]⟩)\/
  (n=1/\τ=⟨[(0,.ptr (.loc 0 0) 0),(2,.pv (.i 3))],[(.loc 0 0,.cells [.pv (.i (-1)),.pv (.i (-1)),.pv (.i (-1)),.pv (.i 0)])]⟩)\/
  (n=0/\τ=⟨[(0,.ptr (.loc 0 0) 0),(2,.pv (.i 4))],[(.loc 0 0,.cells [.pv (.i (-1)),.pv (.i (-1)),.pv (.i (-1)),.pv (.i (-1))])]⟩)) ⟨4,_,Sub.mk (by simp) (by simp),.inl ⟨rfl,rfl⟩⟩ ?_
 have w1:IntKind.i64.wrap 1=1:=rfl;have w2:IntKind.i64.wrap 2=2:=rfl;have w3:IntKind.i64.wrap 3=3:=rfl;have w4:IntKind.i64.wrap 4=4:=rfl;have n3:jQ 3=some 3:=rfl;rintro J hJ n τ (⟨rfl,rfl⟩|⟨rfl,rfl⟩|⟨rfl,rfl⟩|⟨rfl,rfl⟩|⟨rfl,rfl⟩)
 .have aB:=hJ _ _ (.inr (.inl ⟨rfl,rfl⟩));clear hJ;simp[w1,cV,aP];exact⟨_,_,(by omega:3<4),Sub.mk (by simp) (by simp),aB⟩
 .have aB:=hJ _ _ (.inr (.inr (.inl ⟨rfl,rfl⟩)));clear hJ;simp[w2,cV,aP];exact⟨_,_,(by omega:2<3),Sub.mk (by simp) (by simp),aB⟩
 .have aB:=hJ _ _ (.inr (.inr (.inr (.inl ⟨rfl,rfl⟩))));clear hJ;simp[w3,cV,aP];exact⟨_,_,(by omega:1<2),Sub.mk (by simp) (by simp),aB⟩
 .have aB:=hJ _ _ (.inr (.inr (.inr (.inr ⟨rfl,rfl⟩))));clear hJ;simp[w4,n3,cV,aP];exact⟨_,_,(by omega:0<1),Sub.mk (by simp) (by simp),aB⟩
 .simp
def ZL (q:Qu)(i:Nat)(h:Int):PV:=.fn 299 [] [.ref [.aF false 1 (q.ms.map iB),.aF false 3 (q.rs.map Rq.pv)],.ref [.i i],.ref [.i h]]
theorem Zez (q:Qu)(i:Nat)(h:Int):aD prog 268 [q.pv,.i i,.i h] (ZL q i h):=by
 refine cF [.loc 3 0,.loc 4 0,.loc 5 0] L268 ?_;simp[L268,Qu.pv,eA,EV];rfl
attribute [local simp] ZfT ZfS ZfR Zds Zfn Zfo Zes Zdx
attribute [local simp] AV.map AV.iM dO Site.uJ aJ.dC AV.dC AV.gW AS.lT
def Qu.F3 (q:Qu)(i:Nat)(h:Int)(k:Nat):List Nat:=((List.range q.ms.length).take k).filter (fun m=>q.may i m h)
theorem Qu.Zxg (q:Qu){i:Nat}{h:Int}{k:Nat}(hk:k<q.ms.length):q.F3 i h (k+1)=q.F3 i h k++(if q.may i k h=true then[k]else[]):=by
 have:(List.range q.ms.length)[k]?=some k:=by rw[List.getElem?_range hk]
 unfold Qu.F3;rw[NV this,F2,xL,List.filter_nil]
end
section
abbrev GR:=List Bool×List Int×Bool
def nK (rec:Nat->List Bool->List Int->GR)(run:Nat):List Nat->List Bool->List Int->GR
 |[],t,w=>(t,w,false)
 |m::r,t,w=>if(t[m]?).getD true=true then nK rec run r t w else
  if(w[m]?).getD (-1) = -1 then(t.set m true,w.set m run,true)else
  if(rec ((w[m]?).getD (-1)).toNat (t.set m true) w).2.2=true then((rec ((w[m]?).getD (-1)).toNat (t.set m true) w).1,(rec ((w[m]?).getD (-1)).toNat (t.set m true) w).2.1.set m run,true)
  else nK rec run r (rec ((w[m]?).getD (-1)).toNat (t.set m true) w).1 (rec ((w[m]?).getD (-1)).toNat (t.set m true) w).2.1
def Qu.y9 (q:Qu)(h:Int):Nat->Nat->List Bool->List Int->GR
 |0,_,t,w=>(t,w,false)
 |n+1,run,t,w=>nK (q.y9 h n) run (q.F3 run h q.ms.length) t w
def A2 (t:List Bool):Nat:=t.count false
structure GW (q:Qu)(t:List Bool)(w:List Int):Prop where
 t4:t.length=4
 w4:w.length=4
 ok:∀x∈w,x = -1\/(0<=x/\x<q.rs.length)
theorem Zmu {t:List Bool}{m:Nat}(h:t[m]?=some false):A2 (t.set m true)+1=A2 t:=by
 induction t generalizing m with
 |nil=>simp at h
 |cons a r ih=>
  cases m with
  |zero=>simp at h;subst h;simp[A2]
  |succ m=>
   have h':r[m]?=some false:=by simpa using h
   have:=ih h'
   cases a<;>simp[A2]at this ⊢<;>omega
theorem GW.set {q:Qu}{t:List Bool}{w:List Int}(h:GW q t w)(m:Nat):GW q (t.set m true) w:=⟨by simpa using h.t4,h.w4,h.ok⟩
theorem GW.put {q:Qu}{t:List Bool}{w:List Int}(h:GW q t w)(m:Nat){run:Nat}(hr:run<q.rs.length):GW q t (w.set m run):=
 ⟨h.t4,by simpa using h.w4,fun x hx=>by
  rcases List.mem_or_eq_of_mem_set hx with hx|hx
  .exact h.ok x hx
  .subst hx;right;omega⟩
theorem GW.at {q:Qu}{t:List Bool}{w:List Int}(h:GW q t w){m:Nat}(hm:m<4):∃b x,t[m]?=some b/\w[m]?=some x/\(x = -1\/(0<=x/\x<q.rs.length)):=by
 have h1:m<t.length:=by rw[h.t4];exact hm
 have h2:m<w.length:=by rw[h.w4];exact hm
 exact⟨t[m],w[m],bB h1,bB h2,h.ok _ (zX h2)⟩
theorem Zs {q:Qu}{rec:Nat->List Bool->List Int->GR}{n:Nat}(nB:∀run t w,run<q.rs.length->GW q t w->GW q (rec run t w).1 (rec run t w).2.1/\A2 (rec run t w).1<=A2 t){run:Nat}(hr:run<q.rs.length):
  ∀(l:List Nat),(∀m∈l,m<4)->∀(t:List Bool) (w:List Int),GW q t w->GW q (nK rec run l t w).1 (nK rec run l t w).2.1/\A2 (nK rec run l t w).1<=A2 t
 |[],_,t,w,h=>⟨h,fG _⟩
 |m::r,hl,t,w,h=>by
  obtain⟨b,x,h1,h2,h3⟩:=h.at (hl m (by simp));have lH:∀m∈r,m<4:=fun m hm=>hl m (by simp[hm])
  unfold nK;rw[h1,h2];simp only[rW];cases b with
  |true=>rw[if_pos rfl];exact Zs (n:=n) nB hr r lH t w h
  |false=>
   rw[if_neg (by simp)];have hu:=Zmu h1;split
   .exact⟨(h.set m).put m hr,by show A2 (t.set m true)<=_;omega⟩
   .rename_i hx;have Rj:x.toNat<q.rs.length:=by rcases h3 with h3|h3;exact absurd h3 hx;omega
    obtain⟨k1,k2⟩:=nB x.toNat (t.set m true) w Rj (h.set m);split
    .exact⟨k1.put m hr,by show A2 (rec x.toNat (t.set m true) w).1<=_;omega⟩
    .obtain⟨k3,k4⟩:=Zs (n:=n) nB hr r lH _ _ k1;exact⟨k3,by omega⟩
theorem Li {q:Qu}(hq:q.ok){i:Nat}{h:Int}{k:Nat}:∀m∈q.F3 i h k,m<q.ms.length:=fun m hm=>by
 unfold Qu.F3 at hm
 have:=List.mem_of_mem_take (iU.1 hm).1
 simpa using this
theorem Mr {q:Qu}(hq:q.ok)(h:Int):∀(n run:Nat) (t:List Bool) (w:List Int),run<q.rs.length->GW q t w->GW q (q.y9 h n run t w).1 (q.y9 h n run t w).2.1/\A2 (q.y9 h n run t w).1<=A2 t
 |0,run,t,w,_,hw=>⟨hw,fG _⟩
 |n+1,run,t,w,hr,hw=>Zs (n:=n) (fun run t w hr hw=>Mr hq h n run t w hr hw) hr _ (fun m hm=>by have:=Li hq m hm;have:=hq.m;omega) t w hw
def bl (t:List Bool):List AV:=t.map fun b=>.pv (.bool b)
def il (w:List Int):List AV:=w.map fun n=>.pv (.i n)
theorem Zhg {q:Site->Bool}:∀(l:List PV),AV.gW q (l.map .pv)=true
 |[]=>rfl
 |a::r=>by simp[AV.gW,AV.dC,Zhg r]
theorem Zhf {g:Site->Site}:∀(l:List PV),AV.iM g (l.map .pv)=l.map .pv
 |[]=>rfl
 |a::r=>by simp[AV.iM,AV.map,Zhf r]
theorem Zij {d:Nat}(l:List PV):(l.map AV.pv).map (AV.bG d)=l.map .pv:=by rw[List.map_map];rfl
theorem DE (t:List Bool):bl t=(t.map PV.bool).map .pv:=by rw[List.map_map];rfl
theorem BH (t:List Int):il t=(t.map (PV.int .i64)).map .pv:=by rw[List.map_map];rfl
theorem Xk {q:Site->Bool}{t:List Bool}:AV.gW q (bl t)=true:=by rw[DE];exact Zhg _
theorem Xi {q:Site->Bool}{t:List Int}:AV.gW q (il t)=true:=by rw[BH];exact Zhg _
theorem Xl {g:Site->Site}{t:List Bool}:AV.iM g (bl t)=bl t:=by rw[DE];exact Zhf _
theorem Xj {g:Site->Site}{t:List Int}:AV.iM g (il t)=il t:=by rw[BH];exact Zhf _
theorem Xn {d:Nat}{t:List Bool}:(bl t).map (AV.bG d)=bl t:=by rw[DE];exact Zij _
theorem Xm {d:Nat}{t:List Int}:(il t).map (AV.bG d)=il t:=by rw[BH];exact Zij _
attribute [local simp] Xk Xi Xl Xj Xn Xm
end
section
attribute [local simp] Xk Xi Xl Xj Xn Xm

end
section
attribute [local simp] AS.exp jT aJ.iR AV.map AV.iM rE dO Site.uJ aJ.dC AV.dC AV.gW cO AS.lT eZ gG bX oW kA mQ gI q9
attribute [local simp] Xk Xi Xl Xj Xn Xm
def fC:List Int:=[-1,-1,-1,-1]
def j7:List Bool:=[false,false,false,false]
def Qu.yO (q:Qu)(h:Int)(runs:List Int):Nat->Nat×List Int
 |0=>(0,fC)
 |k+1=>((q.yO h runs k).1+(if(q.y9 h 5 ((runs[k]?).getD 0).toNat j7 (q.yO h runs k).2).2.2=true then 1 else 0),(q.y9 h 5 ((runs[k]?).getD 0).toNat j7 (q.yO h runs k).2).2.1)
def Qu.DI (q:Qu)(h:Int)(runs:List Int):Nat:=(q.yO h runs runs.length).1
theorem GW.idle {q:Qu}:GW q j7 fC:=⟨rfl,rfl,fun x hx=>by simp[fC]at hx;exact .inl hx⟩
theorem GW.fresh {q:Qu}{t:List Bool}{w:List Int}(h:GW q t w):GW q j7 w:=⟨rfl,h.w4,h.ok⟩
theorem Qu.Zxx {q:Qu}(hq:q.ok){h:Int}{runs:List Int}(fU:∀x∈runs,0<=x/\x<q.rs.length):∀k,k<=runs.length->GW q j7 (q.yO h runs k).2/\(q.yO h runs k).1<=k
 |0,_=>⟨GW.idle,fG _⟩
 |k+1,hk=>by
  obtain⟨h1,h2⟩:=Qu.Zxx hq (h:=h) fU k (by omega);have hx:runs[k]?=some runs[k]:=bB (by omega);have hr:=fU _ (dK hx)
  have:=Mr hq h 5 ((runs[k]?).getD 0).toNat j7 (q.yO h runs k).2 (by rw[hx];simp only[rW];omega) h1
  refine⟨this.1.fresh,?_⟩;show(q.yO h runs k).1+_<=k+1
  split<;>omega
def Qu.z6 (q:Qu)(runs:List Int):Nat->Nat
 |0=>0
 |h+1=>q.z6 runs h+q.DI h runs
theorem Qu.Zxc {q:Qu}{l:List Int}(h:q.rising l=true):∀x∈l,0<=x/\x<q.rs.length:=fun x hx=>by
 obtain⟨i,hi⟩:=iJ.1 hx;have hl:=(bZ.1 hi).1;simp only[Qu.rising,rC,List.mem_range]at h
 have:=h i hl
 simp only[Qu.SI,hi,rW,dJ,decide_eq_true_eq]at this;omega
end
inductive Nd where
 |ru (r:Nat)
 |rh (r h:Nat)
 |mh (m h:Nat)
 deriving DecidableEq
def Nd.pv:Nd->PV
 |.ru r=>.agg [.i r,.i (-1),.i (-1)]
 |.rh r h=>.agg [.i r,.i (-1),.i h]
 |.mh m h=>.agg [.i (-1),.i m,.i h]
def Nd.kind:Nd->Nat
 |.ru _=>0
 |.rh _ _=>1
 |.mh _ _=>2
def rowP (r:List Int):PV:=.agg (r.map (PV.int .i64))
def jP (p:List (List Int)):List PV:=p.map rowP
def GU (l:List Int)(run:Int):Int:=match l.findIdx? (fun x=>decide (run=x))with
 |some i=>i
 |none=>-1
def xE (p:List (List Int))(run:Int)(h:Nat):Int:=GU ((p[h]?).getD []) run
def gH (p:List (List Int))(h m:Nat):Int:=(((p[h]?).getD [])[m]?).getD (-1)
def bK (q:Qu)(p:List (List Int))(b:Nat):List aJ:=[.cells [.pv (.aF false 1 (q.ms.map iB)),.pv (.aF false 3 (q.rs.map Rq.pv)),.vec (.par b) 4 0 p.length],.arr 180 4 (jP p)]
def four (p:List (List Int)):Prop:=∀l∈p,l.length=4
theorem Zts (l:List Int)(hl:l.length<=1000)(v:Int):aD prog 124 [.aF false 1 (l.map (PV.int .i64)),.i v] (.i (GU l v)):=by
 refine cS L124 ?_;simp[L124];refine eO (fun n τ=>∃k:Nat,k<=l.length/\n=l.length-k/\(∀(j:Nat) (x:Int),j<k->l[j]?=some x->decide (v=x)=false)/\τ=⟨[(0,.pv (.aF false 1 (l.map (PV.int .i64)))),(1,.pv (.i v)),(7,.pv (.i l.length)),(8,.pv (.i k))],[]⟩)
  ⟨l.length,⟨[(0,.pv (.aF false 1 (l.map (PV.int .i64)))),(1,.pv (.i v)),(7,.pv (.i l.length)),(8,.pv (.i 0))],[]⟩,Sub.mk (by simp) (by simp),0,gV _,rfl,(fun j x hj=>by omega),rfl⟩ ?_
 rintro J hJ n τ ⟨k,hk,rfl,hinv,rfl⟩;by_cases aI:k<l.length
 .obtain⟨x,hx⟩:∃x,l[k]?=some x:=⟨l[k],bB aI⟩;have hg:(l.map (PV.int .i64))[k]?=some (.i x):=by rw[bW,hx];rfl
  have hw:=jD (k:=k) (by omega);have aG:l.length-(k+1)<l.length-k:=by omega
  by_cases h1:v=x
  .have hf:l.findIdx? (fun x=>decide (v=x))=some k:=by
    rw[JC];refine⟨aI,by rw[(bZ.1 hx).2];simpa using h1,fun j hj=>?_⟩
    have:=hinv j l[j] hj (bB (by omega))
    simpa using this
   unfold GU;rw[hf];simp[aI,↓hg,h1]
  .have aB:=hJ _ _ ⟨k+1,aI,rfl,(fun j y hj hy=>by
    rcases Nat.lt_succ_iff_lt_or_eq.1 hj with h|h
    .exact hinv j y h hy
    .subst h;rw[hx]at hy;cases hy;simpa using h1),rfl⟩
   clear hJ;simp[aI,↓hg,h1,hw];exact⟨_,_,aG,Sub.mk (by simp) (by simp),aB⟩
 .have hf:l.findIdx? (fun x=>decide (v=x))=none:=by
   rw[List.findIdx?_eq_none_iff];intro x hx;obtain⟨j,hj⟩:=iJ.1 hx;exact hinv j x (by have:=(bZ.1 hj).1;omega) hj
  have he:k=l.length:=by omega
  subst he;unfold GU;rw[hf];simp
theorem ZE (x y:PV)(p:List (List Int))(hp:four p)(run:Int)(h:Nat)(hh:h<p.length):aD prog 267 [.ref [x,y,.aF false 4 (jP p)],.i run,.i h] (.i (xE p run h)):=by
 obtain⟨l,hl⟩:∃l,p[h]?=some l:=⟨p[h],bB hh⟩;have h4:=hp l (dK hl);have hg:(jP p)[h]?=some (.agg (l.map (PV.int .i64))):=by rw[jP,bW,hl];rfl
 have ht:(l.map (PV.int .i64)).take 4=l.map (PV.int .i64):=fO (by simp[h4]);have e:xE p run h=GU l run:=by simp[xE,hl]
 rw[e];refine cS L267 ?_;have n4:jQ 4=some 4:=rfl;simp[L267,↓hg,n4,h4,ht,aP];refine gF (k:=0) (fs:=[]) (cs:=[]) rfl rfl (Zts l (by omega) run) rfl ?_;simp
theorem Xz (n:Nd):aD prog 179 [n.pv] (.i n.kind):=by
 refine cS L179 ?_;cases n with
 |ru r=>simp[L179,Nd.pv,Nd.kind]
 |rh r h=>
  have:¬((h:Int) = -1):=by omega
  simp[L179,Nd.pv,Nd.kind,this]
 |mh m h=>
  have h1:¬((h:Int) = -1):=by omega
  have h2:¬((m:Int) = -1):=by omega
  simp[L179,Nd.pv,Nd.kind,h1,h2]
def Ye:List PV:=[.agg [.fn 217 [] []],.agg [.fn 218 [] []],.agg [.fn 219 [] []]]
theorem Zso:aD prog 181 [] (.aF false 1 Ye):=by
 refine cF [.loc 4 0] L181 ?_;simp[L181];rfl
def V0 (p:List (List Int))(r:Nat)(k:Nat):List Nd:=(((List.range p.length).take k).filter fun h=>decide (xE p r h = -1)).map (Nd.rh r)
def WO (p:List (List Int))(r:Nat):List Nd:=V0 p r p.length
theorem Zjm {p:List (List Int)}{r k:Nat}(hk:k<p.length):V0 p r (k+1)=V0 p r k++(if xE p r k = -1 then[.rh r k]else[]):=by
 have:(List.range p.length)[k]?=some k:=by rw[List.getElem?_range hk]
 unfold V0;rw[NV this,F2,mF,xL,List.filter_nil];by_cases h:xE p r k = -1<;>simp[h]
theorem ZgC {p:List (List Int)}{r k:Nat}:(V0 p r k).length<=k:=by
 unfold V0;rw[fV];refine lC (O1 _ _) ?_;rw[gJ];omega
def vM (l:List Nd):List (Site×aJ):=[(.ret 0,.arr 281 3 (l.map Nd.pv))]
theorem Zqe (q:Qu)(p:List (List Int))(hp:four p)(hl:p.length<=1000)(r:Nat):
  cR prog 217 [.ptr (.par 0) 0,.pv (Nd.ru r).pv] (laid 0 (bK q p 1)) (fun x B=>x=.vec (.ret 0) 3 0 (WO p r).length/\B=vM (WO p r)++laid 0 (bK q p 1)):=by
 refine N7 [.loc 26 0,.par 0,.par 1] L217 ?_;intro R hR;simp[L217,bK,laid,Nd.pv];refine eO (fun n τ=>∃k:Nat,k<=p.length/\n=p.length-k/\τ=⟨[(0,.ptr (.par 0) 0),(3,.ptr (.loc 3 0) 0),(4,.vec (.loc 26 0) 3 0 (V0 p r k).length),(10,.pv (.i p.length)),(11,.pv (.i k))],[(.loc 26 0,.arr 281 3 ((V0 p r k).map Nd.pv)),(.loc 3 0,.cells [.pv (.i r),.pv (.i (-1)),.pv (.i (-1))])]++laid 0 (bK q p 1)⟩)
  ⟨p.length,⟨[(0,.ptr (.par 0) 0),(3,.ptr (.loc 3 0) 0),(4,.vec (.loc 26 0) 3 0 0),(10,.pv (.i p.length)),(11,.pv (.i 0))],[(.loc 26 0,.arr 281 3 []),(.loc 3 0,.cells [.pv (.i r),.pv (.i (-1)),.pv (.i (-1))])]++laid 0 (bK q p 1)⟩,Sub.trans' (Sub.mk (by simp[AS.cI]) (by simp[AS.cI,bK,laid])) (cI 26 281 3 4 rfl (by decide)),0,gV _,rfl,by simp[V0]⟩ ?_
 rintro J hJ n τ ⟨k,hk,rfl,rfl⟩;by_cases aI:k<p.length
 .have hw:=jD (k:=k) (by omega);have aG:p.length-(k+1)<p.length-k:=by omega
  have aB:=hJ _ _ ⟨k+1,aI,rfl,rfl⟩;have iD:=Zjm (r:=r) aI;have HN:=ZgC (p:=p) (r:=r) (k:=k);have X7:=ZE (.aF false 1 (q.ms.map iB)) (.aF false 3 (q.rs.map Rq.pv)) p hp r k aI;have D3:(V0 p r k).length+1<=1000000:=by omega
  have LV:(jP p).take p.length=jP p:=fO (by simp[jP]);have lZ:(jP p).length=p.length:=by simp[jP]
  clear hJ;generalize V0 p r (k+1)=N2 at *;generalize V0 p r k=N1 at *;simp[bK,laid,aI];refine gF (k:=3) (fs:=[]) (xs:=[.ref [.aF false 1 (q.ms.map iB),.aF false 3 (q.rs.map Rq.pv),.aF false 4 (jP p)],.i r,.i k]) (cs:=[]) rfl ?_ X7 rfl ?_
  .simp[jE,AV.snap,AV.FB,lZ,LV]
  by_cases ho:xE p r k = -1
  .rw[if_pos ho]at iD;subst iD;simp[ho,aP,D3,hw];refine⟨_,_,aG,Sub.mk ?_ ?_,aB⟩
   .simp
   .simp[bK,laid,Nd.pv]
  .rw[if_neg ho,uG]at iD;subst iD;simp[ho,hw];refine⟨_,_,aG,Sub.mk ?_ ?_,aB⟩
   .simp
   .simp[bK,laid]
 .have he:k=p.length:=by omega
  subst he;simp[bK,laid];rw[<-hR];exact⟨rfl,by simp[vM,bK,laid,WO]⟩
theorem La {p:List (List Int)}{h m:Nat}{l:List Int}{x:Int}(h1:p[h]?=some l)(h2:l[m]?=some x):gH p h m=x:=by simp[gH,h1,h2]
theorem Zp9 (q:Qu)(p:List (List Int))(hp:four p)(m h:Nat)(hm:m<4)(hh:h<p.length)(r:Nat)(hr:gH p h m=r):
  cR prog 219 [.ptr (.par 0) 0,.pv (Nd.mh m h).pv] (laid 0 (bK q p 1)) (fun x B=>x=.vec (.ret 0) 3 0 1/\B=vM [.rh r h]++laid 0 (bK q p 1)):=by
 obtain⟨l,hl⟩:∃l,p[h]?=some l:=⟨p[h],bB hh⟩;have h4:=hp l (dK hl);obtain⟨x,hx⟩:∃x,l[m]?=some x:=⟨l[m]'(by omega),bB _⟩;rw[La hl hx]at hr;subst hr;have hg:(jP p)[h]?=some (.agg (l.map (PV.int .i64))):=by rw[jP,bW,hl];rfl
 have G8:(l.map (PV.int .i64))[m]?=some (.i r):=by rw[bW,hx];rfl
 refine cB [.loc 19 0,.par 0,.par 1] L219 ?_;simp[-getElem?_pos,-List.getElem?_map,L219,bK,laid,Nd.pv,cV,hh,hm,hg,G8,vM]
theorem RR:yZ prog (pG P1) L218.code:=Fy L218_ok L218_tab
noncomputable def vB:aJ:=.loop (fQ prog 218 0) [15] 50 [(2,.ptr (.par 3) 0),(3,.ptr (.par 4) 0),(4,.ptr (.par 5) 0)] none
def vC (q:Qu)(p:List (List Int))(r h:Nat)(e:Site)(s:List Nd):List (Site×aJ):=
 [(.par 1,.cells [.pv (.aF false 1 (q.ms.map iB)),.pv (.aF false 3 (q.rs.map Rq.pv)),.vec (.par 2) 4 0 p.length]),(.par 2,.arr 180 4 (jP p)),(.par 3,.cells [.ptr (.par 1) 0]),(.par 4,.cells [.pv (.i r),.pv (.i (-1)),.pv (.i h)]),(.par 5,.cells [.vec e 3 0 s.length])]
noncomputable def zC (q:Qu)(p:List (List Int))(r h:Nat)(e:Site)(s:List Nd):List (Site×aJ):=(.par 0,vB)::vC q p r h e s++[(e,.arr 281 3 (s.map Nd.pv))]
noncomputable def YJ (q:Qu)(p:List (List Int))(r h:Nat)(s:List Nd):List (Site×aJ):=(.par 0,vB)::(.ret 0,.arr 281 3 (s.map Nd.pv))::vC q p r h (.ret 0) s
theorem ZmX (q:Qu)(p:List (List Int))(hp:four p)(r h:Nat)(hh:h<p.length)(s:List Nd)(hs:s.length<=1000)(m:Nat)(hm:m<4):
  FL prog 0 [.pv (.i m)] (zC q p r h (.par 6) s) (fun x B=>x=.pv (.bool true)/\B=if gH p h m=r then zC q p r h (.par 6) s else YJ q p r h (s++[.mh m h])):=by
 obtain⟨l,hl⟩:∃l,p[h]?=some l:=⟨p[h],bB hh⟩;have h4:=hp l (dK hl);obtain⟨x,hx⟩:∃x,l[m]?=some x:=⟨l[m]'(by omega),bB _⟩;have Rm:=La hl hx;have hg:(jP p)[h]?=some (.agg (l.map (PV.int .i64))):=by rw[jP,bW,hl];rfl
 have G8:(l.map (PV.int .i64))[m]?=some (.i x):=by rw[bW,hx];rfl
 have PK:s.length+1<=1000000:=by omega
 have oO:yZ prog (pG P1) (.vE 50 (.t 14) (fQ prog 218 0) Y218_0a Y218_0b [15]):=RR.2.1.2;refine XS mixed oO.1 oO.2.1 rfl rfl (by simp) rfl ?_;rw[Rm];generalize hR:(fun(z:AV) (B:List (Site×aJ))=>z=.pv (.bool true)/\B=if x=(r:Int)then zC q p r h (.par 6) s else YJ q p r h (s++[.mh m h]))=R;by_cases tD:x=(r:Int)
 .subst tD;simp[-getElem?_pos,-List.getElem?_map,Y218_0a,Y218_0b,zC,vB,vC,qK,cV,hh,hm,hg,G8];refine⟨[],[.par 1,.par 2,.par 3,.par 4,.par 5,.par 6],rfl,rfl,?_,?_⟩
  .simp[aY]
  .rw[<-hR];simp[zC,vB,vC,aY]
 .simp[-getElem?_pos,-List.getElem?_map,Y218_0a,Y218_0b,zC,vB,vC,qK,cV,aP,hh,hm,hg,G8,tD,PK];refine⟨[],[.loc 35 0,.par 1,.par 2,.par 3,.par 4,.par 5],rfl,rfl,?_,?_⟩
  .simp[aY]
  .rw[<-hR];simp[YJ,vB,vC,aY,tD,Nd.pv]
def jF (q:Qu)(p:List (List Int))(r h k:Nat):List Nd:=((q.F3 r h k).filter fun m=>!decide (gH p h m=r)).map (Nd.mh · h)
theorem ZlN (q:Qu){p:List (List Int)}{r h k:Nat}(hk:k<q.ms.length):jF q p r h (k+1)=jF q p r h k++(if q.may r k h=true/\¬gH p h k=r then[.mh k h]else[]):=by
 unfold jF;rw[q.Zxg hk,F2,mF];cases hm:q.may r k h<;>by_cases hw:gH p h k=r<;>simp[hw]
theorem Zfi {q:Qu}{p:List (List Int)}{r h k:Nat}:(jF q p r h k).length<=k:=by
 unfold jF Qu.F3;rw[fV];refine lC (O1 _ _) (lC (O1 _ _) ?_);rw[gJ];omega
noncomputable def Ir (q:Qu)(p:List (List Int))(r h:Nat)(s:List Nd):List (Site×aJ):=(.ret 0,.arr 281 3 (s.map Nd.pv))::(.par 0,vB)::vC q p r h (.ret 0) s
def KW (q:Qu)(r h k:Nat):List (Nat×AV):=[(0,.nJ (.par 0)),(2,.pv (.ref [.i r])),(3,.pv (.ref [.i h])),(5,.pv (.fn 300 [q.pv] [])),(11,.pv (.i q.ms.length)),(12,.pv (.i k))]
theorem Zsz (q:Qu)(hq:q.ok)(p:List (List Int))(hp:four p)(r h:Nat)(hr:r<q.rs.length)(hh:h<p.length):
  cR prog 299 [.nJ (.par 0),.pv (.ref [.aF false 1 (q.ms.map iB),.aF false 3 (q.rs.map Rq.pv)]),.pv (.ref [.i r]),.pv (.ref [.i h])] (zC q p r h (.par 6) []) (fun x B=>x=.pv (.bL [])/\B=Ir q p r h (jF q p r h q.ms.length)):=by
 have An:=hq.m;refine N7 [.loc 23 0,.par 0,.par 1,.par 2,.par 3,.par 4,.par 5] L299 ?_;intro R hR;simp[L299];refine eO (fun n τ=>∃(k:Nat),k<=q.ms.length/\n=q.ms.length-k/\τ=⟨KW q r h k,zC q p r h (.loc 23 0) (jF q p r h k)⟩)
  ⟨q.ms.length,⟨KW q r h 0,zC q p r h (.loc 23 0) []⟩,Sub.trans' (Sub.mk ?_ ?_) (Sub.iR 23 (.par 6) _),0,gV _,rfl,by simp[jF,Qu.F3]⟩ ?_
 .simp[AS.iR,KW,zC,vC,vB,pH,Qu.pv]
 .simp[AS.iR,zC,vC,vB,pH]
 rintro J hJ n τ ⟨k,hk,rfl,rfl⟩;by_cases aI:k<q.ms.length
 .have hw:=jD (k:=k) (by omega);have aG:q.ms.length-(k+1)<q.ms.length-k:=by omega
  have o0:=ZK q hq r k h hr aI;have iD:=ZlN q (p:=p) (r:=r) (h:=h) aI;have iY:(k:Int)<(q.ms.length:Int):=by omega
  have aB:=hJ _ _ ⟨k+1,aI,rfl,rfl⟩;have X4:=Zfi (q:=q) (p:=p) (r:=r) (h:=h) (k:=k);have hY:=ZmX q p hp r h hh (jF q p r h k) (by omega) k (by omega);clear hJ;generalize jF q p r h (k+1)=S2 at *;generalize jF q p r h k=S1 at *;simp[KW,iY];refine gF (k:=0) (fs:=[q.pv]) (xs:=[.i r,.i k,.i h]) (cs:=[]) rfl rfl o0 rfl ?_;cases hm:q.may r k h
  .rw[hm,if_neg (by simp),uG]at iD;subst iD;simp[hw];refine⟨_,_,aG,Sub.mk ?_ ?_,aB⟩
   .simp[KW]
   .simp[zC,vC,vB]
  .simp[zC,vC,vB];refine ZlI 1023 0 [.par 0,.par 1,.par 2,.par 3,.par 4,.par 5,.loc 23 0] (gE:=[.pv (.i k)]) rfl rfl rfl rfl ?_ rfl rfl hY ?_
   .simp[zC,vC,vB]
   rintro x B ⟨rfl,rfl⟩;by_cases EI:gH p h k=r
   .rw[if_neg (by simp[EI]),uG]at iD;subst iD;rw[if_pos EI];refine⟨rfl,by simp[zC,vC,vB],?_⟩;simp[zC,vC,vB,hw];refine⟨_,_,aG,Sub.mk ?_ ?_,aB⟩
    .simp[KW]
    .simp[zC,vC,vB]
   .rw[if_pos ⟨hm,EI⟩]at iD;subst iD;rw[if_neg EI];refine⟨rfl,by simp[YJ,vC,vB],?_⟩;simp[YJ,vC,vB,hw];refine⟨_,_,aG,Sub.trans' (Sub.mk ?_ ?_) (Sub.iR 23 (.loc 1023 0) _),aB⟩
    .simp[AS.iR,pH,KW]
    .simp[AS.iR,pH,zC,vC,vB,Nd.pv]
 .have he:k=q.ms.length:=by omega
  subst he;simp[KW,zC,vC,vB];rw[<-hR];simp[Ir,vC,vB]
def JM (q:Qu)(p:List (List Int))(r h:Nat):List Nd:=jF q p r h q.ms.length++(if xE p r h = -1 then[]else[.ru r])
theorem Zqb (q:Qu)(hq:q.ok)(p:List (List Int))(hp:four p)(r h:Nat)(hr:r<q.rs.length)(hh:h<p.length):
  cR prog 218 [.ptr (.par 0) 0,.pv (Nd.rh r h).pv] (laid 0 (bK q p 1)) (fun x B=>x=.vec (.ret 0) 3 0 (JM q p r h).length/\B=vM (JM q p r h)++laid 0 (bK q p 1)):=by
 have An:=hq.m;have hit:=Zsz q hq p hp r h hr hh;have X7:=ZE (.aF false 1 (q.ms.map iB)) (.aF false 3 (q.rs.map Rq.pv)) p hp r h hh;have X4:=Zfi (q:=q) (p:=p) (r:=r) (h:=h) (k:=q.ms.length);have LV:(jP p).take p.length=jP p:=fO (by simp[jP]);have lZ:(jP p).length=p.length:=by simp[jP]
 have hS:JM q p r h=jF q p r h q.ms.length++(if xE p r h = -1 then[]else[.ru r]):=rfl;refine cE L218 ?_;generalize hR:(fun(x:AV) (B:List (Site×aJ))=>x=.vec (.ret 0) 3 0 (JM q p r h).length/\B=vM (JM q p r h)++laid 0 (bK q p 1))=R;generalize JM q p r h=S at *;generalize jF q p r h q.ms.length=S1 at *;have PK:S1.length+1<=1000000:=by omega
 simp[L218,bK,laid,Nd.pv];refine .inl (cQ [] [q.pv,.i r,.i h] (Zez q r h) ?_);simp[aM,ZL];refine ZsP (lY 60 281 3 (s:=.loc 4 0) (cs:=[.pv (.emp (some true))]) 0 rfl rfl (by decide)) ?_;refine WY [.loc 50 0,.par 0,.par 1,.loc 2 0,.loc 3 0,.loc 4 0,.loc 60 0] [(2,.ptr (.loc 2 0) 0),(3,.ptr (.loc 3 0) 0),(4,.ptr (.loc 4 0) 0)] (gf:=299) (fs:=[]) (cs:=[.pv (.ref [.aF false 1 (q.ms.map iB),.aF false 3 (q.rs.map Rq.pv)]),.pv (.ref [.i r]),.pv (.ref [.i h])]) ?_ ?_ rfl rfl ?_ ?_ ?_ hit ?_
 .rfl
 .simp[AS.lY]
 .simp[AS.lY,zC,vC,vB]
 .rfl
 .rfl
 rintro x B ⟨rfl,rfl⟩;refine⟨rfl,by simp[Ir,vC,vB],?_⟩;refine⟨_,_,_,_,_,rfl,?_⟩;simp[AS.lY,Ir,vC,vB,kX];refine gF (k:=3) (fs:=[]) (xs:=[.ref [.aF false 1 (q.ms.map iB),.aF false 3 (q.rs.map Rq.pv),.aF false 4 (jP p)],.i r,.i h]) (cs:=[]) rfl ?_ X7 rfl ?_
 .simp[jE,AV.snap,AV.FB,lZ,LV]
 by_cases ho:xE p r h = -1
 .rw[if_pos ho,uG]at hS;subst hS;simp[ho];refine⟨[.loc 51 0,.par 0,.par 1],?_⟩;simp;rw[<-hR];simp[vM,bK,laid]
 .rw[if_neg ho]at hS;subst hS;simp[ho,aP,PK];refine⟨[.loc 48 0,.par 0,.par 1],?_⟩;simp;rw[<-hR];simp[vM,bK,laid,Nd.pv]
abbrev By:=List (Nd×Nd)
def par (bQ:By)(n:Nd):Option Nd:=(bQ.find? fun e=>decide (n=e.1)).map (·.2)
def y5 (bQ:By):List (PV×PV):=bQ.map fun e=>(e.1.pv,e.2.pv)
def Nd.a:Nd->Int
 |.ru r=>r
 |.rh r _=>r
 |.mh _ _=>-1
def Nd.b:Nd->Int
 |.mh m _=>m
 |_=>-1
def Nd.c:Nd->Int
 |.ru _=>-1
 |.rh _ h=>h
 |.mh _ h=>h
theorem Nd.Q4 (n:Nd):n.pv=.agg [.i n.a,.i n.b,.i n.c]:=by cases n<;>rfl
theorem Xv (a b:Nd):gR a.pv b.pv=decide (a=b):=by
 rw[qS];cases a<;>cases b<;>simp[gR,Nd.pv,lP,wK,PV.cells]<;>omega
theorem ZhG (n:Nd):∀bQ:By,eX n.pv (y5 bQ)=(par bQ n).map Nd.pv
 |[]=>rfl
 |e::r=>by
  have ih:=ZhG n r;unfold y5 at ih ⊢;rw[iL,eX,Xv];unfold par at ih ⊢;rw[List.find?_cons];cases decide (n=e.1)with
  |true=>rfl
  |false=>exact ih
theorem Znv {n b:Nd}:∀{bQ:By},par bQ n=none->mK n.pv b.pv (y5 bQ)=y5 (bQ++[(n,b)])
 |[],_=>rfl
 |e::r,h=>by
  unfold par at h;rw[List.find?_cons]at h;unfold y5;rw[iL,mK,Xv];cases hd:decide (n=e.1)with
  |true=>rw[hd]at h;simp at h
  |false=>
   rw[hd]at h
   have:=Znv (n:=n) (b:=b) (bQ:=r) h
   unfold y5 at this;simp[this]
theorem W7 (n:Nd):KT.ok ⟨true,[.int .i64,.int .i64,.int .i64]⟩ n.pv=true:=by cases n<;>rfl
theorem Zn4 (bQ:By):zZ ⟨true,[.int .i64,.int .i64,.int .i64]⟩ (y5 bQ)=true:=by
 unfold zZ y5;rw[List.all_map,rC];exact fun e _=>W7 e.1
def fY (p:List (List Int))(h m:Nat)(x:Int):List (List Int):=p.set h (((p[h]?).getD []).set m x)
def qQ (n b:Nd)(p:List (List Int)):List (List Int):=match n,b with
 |.mh m h,b=>fY p h m b.a
 |.rh _ h,.mh m _=>fY p h m (-1)
 |_,_=>p
def wP (bQ:By):Nat->Nd->List (List Int)->List (List Int)
 |0,_,p=>p
 |f+1,n,p=>match par bQ n with
  |none=>p
  |some b=>if n=b then p else wP bQ f b (qQ n b p)
theorem OB {p:List (List Int)}{h m:Nat}{x:Int}:(fY p h m x).length=p.length:=by simp[fY]
theorem Zh9 {p:List (List Int)}(hp:four p){h m:Nat}{x:Int}(hh:h<p.length):four (fY p h m x):=fun l hl=>by
 rcases List.mem_or_eq_of_mem_set hl with h1|h1
 .exact hp l h1
 .subst h1
  have:p[h]?=some p[h]:=bB hh
  rw[this];simp[hp _ (zX hh)]
theorem Zln {n b:Nd}{p:List (List Int)}:(qQ n b p).length=p.length:=by
 cases n<;>cases b<;>simp[qQ,OB]
theorem ZlL {l:List PV}{m:Nat}{x:PV}(hm:m<l.length):aR l m [x]=l.set m x:=by
 have hs:m+[x].length<=l.length:=by simp;omega
 apply List.ext_getElem?;intro j;rw[A0 hs];by_cases e:j=m
 .subst e;rw[if_neg (by omega),if_pos (by simp),O2 hm];simp
 .rw[List.getElem?_set_ne (fun e'=>e e'.symm)];split
  .rfl
  .rw[if_neg (by simp;omega)]
theorem Znz {p:List (List Int)}{h m:Nat}{l:List Int}{x:Int}(hl:p[h]?=some l)(hm:m<l.length):(jP p).set h (.agg (aR (l.map (PV.int .i64)) m [.i x]))=jP (fY p h m x):=by
 rw[ZlL (by simpa using hm),jP,jP,fY,hl,List.map_set];simp only[rW,rowP];rw[List.map_set]
def Nd.ok (q:Qu)(p:List (List Int)):Nd->Prop
 |.ru r=>r<q.rs.length
 |.rh r h=>r<q.rs.length/\h<p.length
 |.mh m h=>m<q.ms.length/\h<p.length
structure KK (q:Qu)(p:List (List Int))(bQ:By):Prop where
 nd:(bQ.map (·.1)).Nodup
 ok:∀e∈bQ,e.1.ok q p/\e.2.ok q p
 up:∀(i:Nat) (e:Nd×Nd),bQ[i]?=some e->e.1=e.2\/∃(j:Nat) (e':Nd×Nd),j<i/\bQ[j]?=some e'/\e'.1=e.2
theorem Ld {bQ:By}(hn:(bQ.map (·.1)).Nodup){i:Nat}{e:Nd×Nd}(h:bQ[i]?=some e):par bQ e.1=some e.2:=by
 induction bQ generalizing i with
 |nil=>simp at h
 |cons a r ih=>
  rw[iL,List.nodup_cons]at hn;unfold par;rw[List.find?_cons];cases i with
  |zero=>simp at h;subst h;simp
  |succ i=>
   have h':r[i]?=some e:=by simpa using h
   have dA:¬e.1=a.1:=fun e'=>hn.1 (by rw[<-e'];exact iI.2 ⟨e,dK h',rfl⟩)
   rw[decide_eq_false dA];exact ih hn.2 h'
theorem Nd.Ks {q:Qu}{p p':List (List Int)}(h:p'.length=p.length){n:Nd}(hn:n.ok q p):n.ok q p':=by
 cases n with
 |ru r=>exact hn
 |rh r k=>exact⟨hn.1,by rw[h];exact hn.2⟩
 |mh m k=>exact⟨hn.1,by rw[h];exact hn.2⟩
def mC (q:Qu)(p:List (List Int))(bQ:By):List aJ:=bK q p 1++[.map (y5 bQ)]
def wO (q:Qu)(p:List (List Int))(bQ:By)(n:Nd):AS:=⟨[(0,.ptr (.par 0) 0),(2,.mp (.par 2)),(4,.ptr (.loc 4 0) 0)],(.loc 4 0,.cells [.pv (.i n.a),.pv (.i n.b),.pv (.i n.c)])::laid 0 (mC q p bQ)⟩
theorem ZqR (q:Qu)(hq:q.ok)(bQ:By)(p0:List (List Int))(hb:KK q p0 bQ)(BZ:four p0)(i0:Nat)(n0 b0:Nd)(G7:bQ[i0]?=some (n0,b0)):
  cR prog 180 [.ptr (.par 0) 0,.pv n0.pv,.mp (.par 2)] (laid 0 (mC q p0 bQ)) (fun x B=>x=.pv (.bL [])/\B=laid 0 (mC q (wP bQ bQ.length n0 p0) bQ)):=by
 have An:=hq.m;refine N7 [.par 0,.par 1,.par 2] L180 ?_;intro R hR;obtain⟨xC,iZ⟩:∃z,z=wP bQ bQ.length n0 p0:=⟨_,rfl⟩
 rw[<-iZ]at hR;rw[Nd.Q4];simp[L180,mC,bK,laid];refine eO (fun k τ=>∃(p:List (List Int)) (n b:Nd) (f:Nat),bQ[k]?=some (n,b)/\k<f/\wP bQ f n p=xC/\four p/\p.length=p0.length/\τ=wO q p bQ n)
  ⟨i0,wO q p0 bQ n0,Sub.mk (by simp) (by simp[mC,bK,laid]),p0,n0,b0,bQ.length,G7,(bZ.1 G7).1,iZ.symm,BZ,rfl,rfl⟩ ?_
 clear iZ;rintro J hJ k τ ⟨p,n,b,f,hk,hf,eM,hp,hlen,rfl⟩;have lN:=Ld hb.nd hk;have dX:=ZhG n bQ
 rw[lN]at dX;simp only[uU]at dX;have hE:=Xv n b;have mA:=Xz n;have EN:=Xz b;have M6:=W7 n;have tV:=W7 b;have o7:=Zn4 bQ
 obtain⟨vK,Pv⟩:=hb.ok _ (dK hk);have vK:=Nd.Ks hlen vK;have Pv:=Nd.Ks hlen Pv;obtain⟨f',rfl⟩:∃f',f=f'+1:=⟨f-1,by omega⟩;have rA:wP bQ (f'+1) n p=if n=b then p else wP bQ f' b (qQ n b p):=by rw[wP,lN]
 rw[rA]at eM;by_cases PU:n=b
 .rw[if_pos PU]at eM;subst eM;clear hJ;rw[decide_eq_true PU]at hE;rw[Nd.Q4,Nd.Q4]at hE;rw[Nd.Q4,Nd.Q4]at dX;rw[Nd.Q4]at M6 tV;simp[-gR,-KT.ok,wO,mC,bK,laid,hE,dX,M6,tV,o7];rw[<-hR];simp[mC,bK,laid]
 .rw[if_neg PU]at eM;rw[decide_eq_false PU]at hE;obtain⟨j,e',hj,CF,CE⟩:∃(j:Nat) (e':Nd×Nd),j<k/\bQ[j]?=some e'/\e'.1=b:=by
   rcases hb.up k _ hk with h|h
   .exact absurd h PU
   .exact h
  have aB:=hJ j (wO q (qQ n b p) bQ b) ⟨qQ n b p,b,e'.2,f',by rw[CF,<-CE],by omega,eM,(by
   cases n<;>cases b<;>first|exact hp|exact Zh9 hp vK.2),by rw[Zln];exact hlen,rfl⟩
  clear hJ eM rA hb;cases n with
  |mh m h=>
   obtain⟨l,hl⟩:∃l,p[h]?=some l:=⟨p[h]'vK.2,bB _⟩;have h4:=hp l (dK hl);have EM:m<q.ms.length:=vK.1;have yH:m<4:=by omega
   have hh:h<p.length:=vK.2;have hg:(jP p)[h]?=some (.agg (l.map (PV.int .i64))):=by rw[jP,bW,hl];rfl
   have jK:=Znz (x:=b.a) hl (m:=m) (by omega);have lZ:(jP p).length=p.length:=by simp[jP]
   have G6:m+1<=4:=by omega
   rw[Nd.Q4 b]at hE dX tV EN;simp only[Nd.pv,Nd.kind]at hE dX M6 mA;rw[show qQ (.mh m h) b p=fY p h m b.a from rfl]at aB;unfold wO at aB;generalize b.a=ba at *;generalize b.b=bb at *;generalize b.c=bc at *;simp[-gR,-KT.ok,wO,mC,bK,laid,Nd.a,Nd.b,Nd.c,hE,dX,M6,tV,o7];refine gF (k:=0) (fs:=[]) (cs:=[]) rfl rfl mA rfl ?_;simp[-gR,-KT.ok,-aR,cV,aP,hh,yH,G6,↓hg,h4,setAt,jK];refine⟨_,_,hj,Sub.mk ?_ ?_,aB⟩
   .simp
   .simp[mC,bK,laid,OB]
  |ru r=>
   rw[Nd.Q4 b]at hE dX tV EN;simp only[Nd.pv,Nd.kind]at hE dX M6 mA;rw[show qQ (.ru r) b p=p by cases b<;>rfl]at aB;unfold wO at aB;generalize b.a=ba at *;generalize b.b=bb at *;generalize b.c=bc at *;simp[-gR,-KT.ok,wO,mC,bK,laid,Nd.a,Nd.b,Nd.c,hE,dX,M6,tV,o7];refine gF (k:=0) (fs:=[]) (cs:=[]) rfl rfl mA rfl ?_;simp[-gR,-KT.ok];refine gF (k:=0) (fs:=[]) (cs:=[]) rfl rfl mA rfl ?_;simp[-gR,-KT.ok];refine⟨_,_,hj,Sub.mk ?_ ?_,aB⟩
   .simp
   .simp[mC,bK,laid]
  |rh r h=>
   cases b with
   |mh m h'=>
    obtain⟨l,hl⟩:∃l,p[h]?=some l:=⟨p[h]'vK.2,bB _⟩;have h4:=hp l (dK hl);have EM:m<q.ms.length:=Pv.1;have yH:m<4:=by omega
    have hh:h<p.length:=vK.2;have hg:(jP p)[h]?=some (.agg (l.map (PV.int .i64))):=by rw[jP,bW,hl];rfl
    have jK:=Znz (x:=-1) hl (m:=m) (by omega);have lZ:(jP p).length=p.length:=by simp[jP]
    have G6:m+1<=4:=by omega
    simp only[Nd.pv,Nd.kind]at hE dX M6 tV mA EN;simp[-gR,-KT.ok,wO,mC,bK,laid,Nd.a,Nd.b,Nd.c,hE,dX,M6,tV,o7];refine gF (k:=0) (fs:=[]) (cs:=[]) rfl rfl mA rfl ?_;simp[-gR,-KT.ok];refine gF (k:=0) (fs:=[]) (cs:=[]) rfl rfl mA rfl ?_;simp[-gR,-KT.ok];refine gF (k:=0) (fs:=[]) (cs:=[]) rfl rfl EN rfl ?_;simp[-gR,-KT.ok,-aR,cV,aP,hh,yH,G6,↓hg,h4,setAt,jK];refine⟨_,_,hj,Sub.mk ?_ ?_,aB⟩
    .simp
    .simp[mC,bK,laid,qQ,OB,Nd.a,Nd.b,Nd.c]
   |ru r'=>
    simp only[Nd.pv,Nd.kind]at hE dX M6 tV mA EN;simp[-gR,-KT.ok,wO,mC,bK,laid,Nd.a,Nd.b,Nd.c,hE,dX,M6,tV,o7];refine gF (k:=0) (fs:=[]) (cs:=[]) rfl rfl mA rfl ?_;simp[-gR,-KT.ok];refine gF (k:=0) (fs:=[]) (cs:=[]) rfl rfl mA rfl ?_;simp[-gR,-KT.ok];refine gF (k:=0) (fs:=[]) (cs:=[]) rfl rfl EN rfl ?_;simp[-gR,-KT.ok];refine⟨_,_,hj,Sub.mk ?_ ?_,aB⟩
    .simp
    .simp[mC,bK,laid,qQ,Nd.a,Nd.b,Nd.c]
   |rh r' h'=>
    simp only[Nd.pv,Nd.kind]at hE dX M6 tV mA EN;simp[-gR,-KT.ok,wO,mC,bK,laid,Nd.a,Nd.b,Nd.c,hE,dX,M6,tV,o7];refine gF (k:=0) (fs:=[]) (cs:=[]) rfl rfl mA rfl ?_;simp[-gR,-KT.ok];refine gF (k:=0) (fs:=[]) (cs:=[]) rfl rfl mA rfl ?_;simp[-gR,-KT.ok];refine gF (k:=0) (fs:=[]) (cs:=[]) rfl rfl EN rfl ?_;simp[-gR,-KT.ok];refine⟨_,_,hj,Sub.mk ?_ ?_,aB⟩
    .simp
    .simp[mC,bK,laid,qQ,Nd.a,Nd.b,Nd.c]
def tL (p:List (List Int)):Nd->Bool
 |.mh m h=>decide (gH p h m = -1)
 |_=>false
def nx (q:Qu)(p:List (List Int)):Nd->List Nd
 |.ru r=>WO p r
 |.rh r h=>JM q p r h
 |.mh m h=>[.rh (gH p h m).toNat h]
def cN (n:Nd)(s:By×List Nd)(x:Nd):By×List Nd:=if(par s.1 x).isSome=true then s else(s.1++[(x,n)],s.2++[x])
def IV (q:Qu)(p:List (List Int)):Nat->By->List Nd->Option (List (List Int))
 |0,_,_=>none
 |_+1,_,[]=>none
 |f+1,bQ,n::rest=>if tL p n=true then some (wP bQ bQ.length n p)else IV q p f ((nx q p n).foldl (cN n) (bQ,rest)).1 ((nx q p n).foldl (cN n) (bQ,rest)).2
def fS (F:Nat)(q:Qu)(p:List (List Int))(run:Nat):Option (List (List Int)):=IV q p F [(.ru run,.ru run)] [.ru run]
structure PW (q:Qu)(p:List (List Int)):Prop where
 f:four p
 ok:∀l∈p,∀x∈l,x = -1\/(0<=x/\x<q.rs.length)
 l:p.length<=40
theorem PW.gH {q:Qu}{p:List (List Int)}(hp:PW q p)(h m:Nat):gH p h m = -1\/(0<=Go.Proofs.YtlllhbmbnjnoiaaGreatDoor.Qn.gH p h m/\Go.Proofs.YtlllhbmbnjnoiaaGreatDoor.Qn.gH p h m<q.rs.length):=by
 unfold Go.Proofs.YtlllhbmbnjnoiaaGreatDoor.Qn.gH;cases h1:p[h]? with
 |none=>left;simp
 |some l=>
  simp only[rW];cases h2:l[m]? with
  |none=>left;rfl
  |some x=>exact hp.ok l (dK h1) x (dK h2)
theorem ZuH {l:List Int}{v:Int}:GU l v = -1\/∃i:Nat,GU l v=i/\i<l.length/\l[i]?=some v:=by
 unfold GU;cases h:l.findIdx? (fun x=>decide (v=x))with
 |none=>exact .inl rfl
 |some i=>
  obtain⟨hi,h1,_⟩:=JC.1 h;refine .inr ⟨i,rfl,hi,?_⟩;rw[bB hi];simp only[decide_eq_true_eq]at h1;rw[h1]
theorem BA {q:Qu}(hq:q.ok){p:List (List Int)}(hp:PW q p){n:Nd}(hn:n.ok q p)(hf:tL p n=false):∀x∈nx q p n,x.ok q p:=by
 intro x hx;cases n with
 |ru r=>
  simp only[nx,WO,V0,iI,iU]at hx;obtain⟨h,⟨h1,_⟩,rfl⟩:=hx
  have:=List.mem_of_mem_take h1
  exact⟨hn,by simpa using this⟩
 |rh r h=>
  simp only[nx,JM,sI]at hx;rcases hx with hx|hx
  .simp only[jF,iI,iU]at hx;obtain⟨m,⟨h1,_⟩,rfl⟩:=hx;exact⟨Li hq m h1,hn.2⟩
  .split at hx
   .cases hx
   .simp at hx;subst hx;exact hn.1
 |mh m h=>
  simp only[nx,rY]at hx;subst hx;have h1:¬gH p h m = -1:=by simpa[tL]using hf
  have:=hp.gH h m
  exact⟨by omega,hn.2⟩
def Nd.code:Nd->Nat
 |.ru r=>r
 |.rh r h=>6+6*h+r
 |.mh m h=>246+4*h+m
theorem Nd.ZxK {q:Qu}(hq:q.ok){p:List (List Int)}(hp:PW q p){n:Nd}(hn:n.ok q p):n.code<406:=by
 have h1:=hq.r;have h2:=hq.m;have h3:=hp.l;cases n with
 |ru r=>have:r<q.rs.length:=hn;show r<406;omega
 |rh r h=>obtain⟨a,b⟩:=hn;show 6+6*h+r<406;omega
 |mh m h=>obtain⟨a,b⟩:=hn;show 246+4*h+m<406;omega
theorem Nd.Zxt {q:Qu}(hq:q.ok){p:List (List Int)}(hp:PW q p){n n':Nd}(hn:n.ok q p)(yF:n'.ok q p)(h:n.code=n'.code):n=n':=by
 have h1:=hq.r;have h2:=hq.m;have h3:=hp.l;cases n with
 |ru r=>
  have a:r<q.rs.length:=hn;cases n' with
  |ru r'=>have:r=r':=h;subst this;rfl
  |rh r' h'=>have e:r=6+6*h'+r':=h;omega
  |mh m' h'=>have e:r=246+4*h'+m':=h;omega
 |rh r k=>
  obtain⟨a,b⟩:=hn;cases n' with
  |ru r'=>have e:6+6*k+r=r':=h;have a':r'<q.rs.length:=yF;omega
  |rh r' k'=>
   obtain⟨a',b'⟩:=yF;have e:6+6*k+r=6+6*k'+r':=h;have e1:k=k':=by omega
   have e2:r=r':=by omega
   rw[e1,e2]
  |mh m' k'=>obtain⟨a',b'⟩:=yF;have e:6+6*k+r=246+4*k'+m':=h;omega
 |mh m k=>
  obtain⟨a,b⟩:=hn;cases n' with
  |ru r'=>have e:246+4*k+m=r':=h;have a':r'<q.rs.length:=yF;omega
  |rh r' k'=>obtain⟨a',b'⟩:=yF;have e:246+4*k+m=6+6*k'+r':=h;omega
  |mh m' k'=>
   obtain⟨a',b'⟩:=yF;have e:246+4*k+m=246+4*k'+m':=h;have e1:k=k':=by omega
   have e2:m=m':=by omega
   rw[e1,e2]
theorem oI:∀(N:Nat) (l:List Nat),l.Nodup->(∀x∈l,x<N)->l.length<=N
 |0,[],_,_=>fG _
 |0,x::r,_,h=>absurd (h x (by simp)) (by omega)
 |N+1,l,hn,h=>by
  by_cases hm:N∈l
  .have h1:=oI N (l.erase N) (hn.erase N) (fun x hx=>by
    have h2:=(hn.mem_erase_iff).1 hx
    have:=h x h2.2
    have:=h2.1
    omega)
   rw[List.length_erase_of_mem hm]at h1;omega
  .have:=oI N l hn (fun x hx=>by
    have:=h x hx
    have:x≠N:=fun e=>hm (e▸hx)
    omega)
   omega
structure BW (q:Qu)(p:List (List Int))(s:By×List Nd):Prop where
 b:KK q p s.1
 t:∀n∈s.2,∃(i:Nat) (b:Nd),s.1[i]?=some (n,b)
theorem BW.len {q:Qu}(hq:q.ok){p:List (List Int)}(hp:PW q p){s:By×List Nd}(h:BW q p s):s.1.length<=406:=by
 have h1:((s.1.map (·.1)).map Nd.code).Nodup:=by
  rw[DK,List.pairwise_map];refine List.Pairwise.imp_of_mem ?_ (DK.1 h.b.nd);intro a b ha hb dA e;obtain⟨x,hx,rfl⟩:=iI.1 ha;obtain⟨y,hy,rfl⟩:=iI.1 hb;exact dA (Nd.Zxt hq hp (h.b.ok x hx).1 (h.b.ok y hy).1 e)
 have:=oI 406 _ h1 (fun x hx=>by
  obtain⟨n,hn,rfl⟩:=iI.1 hx;obtain⟨e,he,rfl⟩:=iI.1 hn;exact Nd.ZxK hq hp (h.b.ok e he).1)
 simpa using this
theorem ZpR {bQ:By}{n:Nd}(h:par bQ n=none):n∉bQ.map (·.1):=fun hm=>by
 obtain⟨e,he,rfl⟩:=iI.1 hm;unfold par at h;rw[Option.map_eq_none_iff,List.find?_eq_none]at h;exact h e he (by simp)
theorem BW.push {q:Qu}{p:List (List Int)}{s:By×List Nd}(h:BW q p s){n x:Nd}(hn:∃(i:Nat) (b:Nd),s.1[i]?=some (n,b))(hx:x.ok q p):BW q p (cN n s x)/\(∃(i:Nat) (b:Nd),(cN n s x).1[i]?=some (n,b))/\
  (cN n s x).2.length+s.1.length=s.2.length+(cN n s x).1.length/\s.1.length<=(cN n s x).1.length:=by
 unfold cN;split
 .exact⟨h,hn,by omega,fG _⟩
 .rename_i hp;have P7:par s.1 x=none:=by cases hh:par s.1 x with
   |none=>rfl
   |some b=>rw[hh]at hp;exact absurd rfl hp
  have PS:=ZpR P7;obtain⟨i,b,hi⟩:=hn;have yJ:=(bZ.1 hi).1;have old:∀(j:Nat) (e:Nd×Nd),s.1[j]?=some e->(s.1++[(x,n)])[j]?=some e:=fun j e hj=>by
   rw[List.getElem?_append_left (bZ.1 hj).1];exact hj
  refine⟨⟨⟨?_,fun e he=>?_,fun j e hj=>?_⟩,fun y hy=>?_⟩,⟨i,b,old i _ hi⟩,by simp;omega,by simp⟩
  .rw[mF,List.nodup_append];refine⟨h.b.nd,by simp,fun a ha c hc e=>?_⟩;simp at hc;subst hc e;exact PS ha
  .rcases sI.1 he with he|he
   .exact h.b.ok e he
   .simp at he;subst he;exact⟨hx,(h.b.ok _ (dK hi)).1⟩
  .rw[yS]at hj;split at hj
   .rcases h.b.up j e hj with h1|⟨k,e',h1,h2,h3⟩
    .exact .inl h1
    .exact .inr ⟨k,e',h1,old k e' h2,h3⟩
   .rename_i xH
    have:j-s.1.length=0:=by
     have:=(bZ.1 hj).1
     simp at this;omega
    rw[this]at hj;simp at hj;subst hj;exact .inr ⟨i,(n,b),by omega,old i _ hi,rfl⟩
  .rcases sI.1 hy with hy|hy
   .obtain⟨k,c,hk⟩:=h.t y hy;exact⟨k,c,old k _ hk⟩
   .simp at hy;subst hy;exact⟨s.1.length,n,by simp⟩
theorem BW.Kt {q:Qu}{p:List (List Int)}{n:Nd}:∀(l:List Nd) {s:By×List Nd},BW q p s->(∃(i:Nat) (b:Nd),s.1[i]?=some (n,b))->(∀x∈l,x.ok q p)->BW q p (l.foldl (cN n) s)/\(∃(i:Nat) (b:Nd),(l.foldl (cN n) s).1[i]?=some (n,b))/\
  (l.foldl (cN n) s).2.length+s.1.length=s.2.length+(l.foldl (cN n) s).1.length/\s.1.length<=(l.foldl (cN n) s).1.length
 |[],s,h,hn,_=>⟨h,hn,by simp,fG _⟩
 |x::l,s,h,hn,hl=>by
  obtain⟨h1,h2,h3,h4⟩:=h.push hn (hl x (by simp));obtain⟨k1,k2,k3,k4⟩:=BW.Kt l h1 h2 (fun y hy=>hl y (by simp[hy]));rw[List.foldl_cons];exact⟨k1,k2,by omega,by omega⟩
theorem BW.tail {q:Qu}{p:List (List Int)}{bQ:By}{n:Nd}{rest:List Nd}(h:BW q p (bQ,n::rest)):BW q p (bQ,rest):=⟨h.b,fun x hx=>h.t x (by simp[hx])⟩
theorem BW.start {q:Qu}{p:List (List Int)}{run:Nat}(hr:run<q.rs.length):BW q p ([(.ru run,.ru run)],[.ru run]):=
 ⟨⟨by simp,fun e he=>by simp at he;subst he;exact⟨hr,hr⟩,fun i e hi=>by
  cases i with
  |zero=>simp at hi;subst hi;exact .inl rfl
  |succ i=>simp at hi⟩,fun n hn=>by simp at hn;subst hn;exact⟨0,_,rfl⟩⟩
def MU:Nd->FuncId
 |.ru _=>217
 |.rh _ _=>218
 |.mh _ _=>219
theorem Ztb (q:Qu)(hq:q.ok)(p:List (List Int))(hp:PW q p)(n:Nd)(hn:n.ok q p)(hf:tL p n=false):
  cR prog (MU n) [.ptr (.par 0) 0,.pv n.pv] (laid 0 (bK q p 1)) (fun x B=>x=.vec (.ret 0) 3 0 (nx q p n).length/\B=vM (nx q p n)++laid 0 (bK q p 1)):=by
 have hl:=hp.l;cases n with
 |ru r=>exact Zqe q p hp.f (by omega) r
 |rh r h=>exact Zqb q hq p hp.f r h hn.1 hn.2
 |mh m h=>
  have h1:¬gH p h m = -1:=by simpa[tL]using hf
  have h2:=hp.gH h m
  have:=hq.m
  have hm:m<q.ms.length:=hn.1;exact Zp9 q p hp.f m h (by omega) hn.2 (gH p h m).toNat (by omega)
theorem ZmC (n:Nd):Ye[n.kind]?=some (.agg [.fn (MU n) [] []]):=by cases n<;>rfl
structure Lock (A:Prop):Prop where
 out:A
def RN (q:Qu)(p:List (List Int))(bQ:By)(todo:List Nd):AS:=⟨[(0,.ptr (.par 0) 0),(6,.mp (.loc 15 0)),(7,.vec (.loc 78 0) 3 0 todo.length)],(.loc 78 0,.arr 281 3 (todo.map Nd.pv))::(.loc 15 0,.map (y5 bQ))::laid 0 (bK q p 1)⟩
def Dh (q:Qu)(p:List (List Int))(n:Nd)(L:List Nd)(s:By×List Nd)(i:Nat):AS:=⟨[(0,.ptr (.par 0) 0),(6,.mp (.loc 15 0)),(7,.vec (.loc 78 0) 3 0 s.2.length),(8,.ptr (.loc 8 0) 0),(58,.vec (.loc 58 0) 3 0 L.length),(59,.pv (.i L.length)),(60,.pv (.i i))],
 (.loc 78 0,.arr 281 3 (s.2.map Nd.pv))::(.loc 15 0,.map (y5 s.1))::(.loc 8 0,.cells [.pv (.i n.a),.pv (.i n.b),.pv (.i n.c)])::(.loc 58 0,.arr 281 3 (L.map Nd.pv))::laid 0 (bK q p 1)⟩
theorem Zn2 {F:Nat}(hF:407<F)(q:Qu)(hq:q.ok)(p:List (List Int))(hp:PW q p)(run:Nat)(dF:run<q.rs.length):
  cR prog 137 [.ptr (.par 0) 0,.pv (.i run)] (laid 0 (bK q p 1)) (fun x B=>x=.pv (.bool (fS F q p run).isSome)/\B=laid 0 (bK q ((fS F q p run).getD p) 1)):=by
 have An:=hq.m;have lZ:=hp.l;obtain⟨xC,iZ⟩:∃z,z=fS F q p run:=⟨_,rfl⟩;rw[<-iZ];generalize hR:(fun(x:AV) (B:List (Site×aJ))=>x=.pv (.bool xC.isSome)/\B=laid 0 (bK q (xC.getD p) 1))=R;refine cB [.par 0,.par 1] L137 ?_;simp[L137,bK,laid];refine eO (fun k τ=>∃(bQ:By) (todo:List Nd) (f:Nat),BW q p (bQ,todo)/\todo.length<=bQ.length/\k=406-bQ.length+todo.length/\k<f/\IV q p f bQ todo=xC/\τ=RN q p bQ todo)
  ⟨406-1+1,RN q p [(.ru run,.ru run)] [.ru run],Sub.trans' (Sub.mk ?_ ?_) (j8 78 7 [(Nd.ru run).pv] (s:=.loc 20 0) (e:=281) rfl rfl rfl rfl),[(.ru run,.ru run)],[.ru run],F,BW.start dF,fG _,rfl,by omega,iZ.symm,rfl⟩ ?_
 .simp[AS.j8]
 .simp[AS.j8,bK,laid,y5,Nd.pv,mK]
 clear iZ;intro J hJ k τ bT;refine Lock.out ?_;obtain⟨bQ,todo,f,hB,QX,hk,hf,eM,rfl⟩:=bT;obtain⟨f',rfl⟩:∃f',f=f'+1:=⟨f-1,by omega⟩;cases todo with
 |nil=>
  have mM:xC=none:=by rw[<-eM];rfl
  subst mM;refine⟨?_⟩;simp[RN,bK,laid];rw[<-hR];simp[bK,laid]
 |cons n rest=>
  obtain⟨i0,b0,G7⟩:=hB.t n (by simp);have vK:=(hB.b.ok _ (dK G7)).1;simp only at vK;have mA:=Xz n;have bT:=ZmC n;have X4:n.kind<3:=by cases n<;>simp[Nd.kind]
  rw[IV]at eM;have hlen:=hB.len hq hp;by_cases iS:tL p n=true
  .rw[if_pos iS]at eM;subst eM;clear hJ;cases n with
   |ru r=>simp[tL]at iS
   |rh r h=>simp[tL]at iS
   |mh m h=>
    have Br:gH p h m = -1:=by simpa[tL]using iS
    obtain⟨l,hl⟩:∃l,p[h]?=some l:=⟨p[h]'vK.2,bB _⟩;have h4:=hp.f l (dK hl);have EM:m<q.ms.length:=vK.1;have hh:h<p.length:=vK.2;have yH:m<4:=by omega
    obtain⟨x,hx⟩:∃x,l[m]?=some x:=⟨l[m]'(by omega),bB _⟩;rw[La hl hx]at Br;subst Br;have hg:(jP p)[h]?=some (.agg (l.map (PV.int .i64))):=by rw[jP,bW,hl];rfl
    have G8:(l.map (PV.int .i64))[m]?=some (.i (-1)):=by rw[bW,hx];rfl
    have rA:=ZqR q hq bQ p hB.b hp.f i0 (.mh m h) b0 G7
    simp only[Nd.pv,Nd.kind]at mA rA;refine⟨?_⟩;simp[RN,bK,laid,Nd.pv,cV,aP];refine AF (k:=0) (fs:=[]) (cs:=[]) rfl rfl mA rfl ?_;simp[-getElem?_pos,-List.getElem?_map,cV,aP,hh,yH,hg,G8];refine cM [.ptr (.par 0) 0,.pv (.agg [.i (-1),.i m,.i h]),.mp (.par 2)] (laid 0 (mC q p bQ)) 49 [.par 0,.par 1,.loc 15 0] (by simp[mC,bK,laid]) rA (by simp[mC,bK,laid]) ?_;simp[mC,bK,laid];rw[<-hR];simp[bK,laid]
  .have CL:tL p n=false:=by simpa using iS
   rw[if_neg iS]at eM;have iD:=Ztb q hq p hp n vK CL;have PR:=BA hq hp vK CL;obtain⟨L,hL⟩:∃L,L=nx q p n:=⟨_,rfl⟩;rw[<-hL]at eM iD PR;have RA:L.length<=1000:=by
    rw[hL];cases n with
    |ru r=>have:=ZgC (p:=p) (r:=r) (k:=p.length);show(V0 p r p.length).length<=1000;omega
    |rh r h=>
     have:=Zfi (q:=q) (p:=p) (r:=r) (h:=h) (k:=q.ms.length)
     show(jF q p r h q.ms.length++_).length<=1000;rw[gD]
     split<;>simp<;>omega
    |mh m h=>simp[nx]
   have BV:∀i,BW q p ((L.take i).foldl (cN n) (bQ,rest))/\((L.take i).foldl (cN n) (bQ,rest)).2.length+bQ.length=rest.length+((L.take i).foldl (cN n) (bQ,rest)).1.length/\bQ.length<=((L.take i).foldl (cN n) (bQ,rest)).1.length:=fun i=>by
    obtain⟨h1,_,h3,h4⟩:=BW.Kt (L.take i) hB.tail ⟨i0,b0,G7⟩ (fun x hx=>PR x (List.mem_of_mem_take hx));exact⟨h1,h3,h4⟩
   have oN:BW q p (L.foldl (cN n) (bQ,rest))/\(L.foldl (cN n) (bQ,rest)).2.length+bQ.length=rest.length+(L.foldl (cN n) (bQ,rest)).1.length:=by
    have:=BV L.length
    rw[nF]at this;exact⟨this.1,this.2.1⟩
   have QO:=oN.1.len hq hp;have aB:=hJ (406-(L.foldl (cN n) (bQ,rest)).1.length+(L.foldl (cN n) (bQ,rest)).2.length) _ ⟨_,_,f',oN.1,by have h1:=oN.2;rw[pB]at QX;show(L.foldl (cN n) (bQ,rest)).2.length<=(L.foldl (cN n) (bQ,rest)).1.length;omega,rfl,by
    have h1:=oN.2;rw[pB]at hk
    omega,eM,rfl⟩
   have aG:406-(L.foldl (cN n) (bQ,rest)).1.length+(L.foldl (cN n) (bQ,rest)).2.length<k:=by
    have h1:=oN.2;rw[pB]at hk;omega
   have jL:∀i,((L.take i).foldl (cN n) (bQ,rest)).2.length<=406:=fun i=>by
    obtain⟨h1,h2,h3⟩:=BV i
    have:=h1.len hq hp
    rw[pB]at QX;omega
   rw[Nd.Q4]at mA iD;obtain⟨N,hN⟩:∃N,N=n:=⟨_,rfl⟩;rw[<-hN]at aB aG jL;clear oN BV QO;have hmf:∀m h,n=.mh m h->∃(l:List Int) (x:Int),jQ n.c=some h/\jQ n.b=some m/\h<p.length/\m<4/\(jP p)[h]?=some (.agg (l.map (PV.int .i64)))/\(l.map (PV.int .i64))[m]?=some (.i x)/\x≠-1:=fun m h e=>by
    subst e;obtain⟨l,hl⟩:∃l,p[h]?=some l:=⟨p[h]'vK.2,bB _⟩;have h4:=hp.f l (dK hl);have EM:m<q.ms.length:=vK.1;obtain⟨x,hx⟩:∃x,l[m]?=some x:=⟨l[m]'(by omega),bB _⟩;have Br:¬gH p h m = -1:=by simpa[tL]using CL
    rw[La hl hx]at Br;exact⟨l,x,Zho,Zho,vK.2,by omega,by rw[jP,bW,hl];rfl,by rw[bW,hx];rfl,Br⟩
   clear hJ eM PR hB vK CL iS hL G7;cases n
   case' mh m h=>
    obtain⟨l,x,e1,e2,e3,e4,e5,e6,e7⟩:=hmf m h rfl;simp only[Nd.a,Nd.b,Nd.c,Nd.kind]at e1 e2 mA iD bT aB;refine⟨?_⟩;simp[RN,bK,laid,Nd.pv,cV,aP];refine AF (k:=0) (fs:=[]) (cs:=[]) rfl rfl mA rfl ?_;simp[cV,aP,e1,e2,e3,e4,e5,e6,e7]
   case' ru r=>
    simp only[Nd.a,Nd.b,Nd.c,Nd.kind]at mA iD bT aB;refine⟨?_⟩;simp[RN,bK,laid,Nd.pv,cV,aP];refine AF (k:=0) (fs:=[]) (cs:=[]) rfl rfl mA rfl ?_;simp[aP]
   case' rh r h=>
    simp only[Nd.a,Nd.b,Nd.c,Nd.kind]at mA iD bT aB;refine⟨?_⟩;simp[RN,bK,laid,Nd.pv,cV,aP];refine AF (k:=0) (fs:=[]) (cs:=[]) rfl rfl mA rfl ?_;simp[cV,aP]
   all_goals
    clear hmf;refine cQ [] [] Zso ?_;simp[aM];refine AF (k:=0) (fs:=[]) (cs:=[]) rfl rfl mA rfl ?_;simp[Ye];refine xM (B:=laid 0 (bK q p 1)) (fs:=[]) (cs:=[]) 58 [.par 0,.par 1] ?_ rfl rfl ?_ ?_ ?_ iD ?_
    .rfl
    .simp[bK,laid]
    .rfl
    .simp
    rintro r0 B0 ⟨rfl,rfl⟩;refine⟨rfl,by simp[vM,bK,laid],?_⟩;simp[vM,bK,laid];refine eO (fun k τ=>∃i:Nat,i<=L.length/\k=L.length-i/\τ=Dh q p N L ((L.take i).foldl (cN N) (bQ,rest)) i)
     ⟨L.length,Dh q p N L (bQ,rest) 0,Sub.trans' (Sub.mk ?_ ?_) (j8 78 7 (rest.map Nd.pv) (s:=.loc 78 0) (e:=281) rfl rfl ?_ rfl),0,gV _,rfl,rfl⟩ ?_
    .simp[AS.j8]
    .simp[AS.j8,bK,laid,hN,Nd.a,Nd.b,Nd.c]
    .simp;omega
    clear hN mA iD bT;rintro J2 uS k2 τ ⟨i,hi,rfl,rfl⟩;by_cases aI:i<L.length
    .obtain⟨x,hx⟩:∃x,L[i]?=some x:=⟨L[i],bB aI⟩;have oM:(L.map Nd.pv)[i]?=some (.agg [.i x.a,.i x.b,.i x.c]):=by rw[bW,hx];simp[Nd.Q4]
     have hw:=jD (k:=i) (by omega);have rR:(L.take (i+1)).foldl (cN N) (bQ,rest)=cN N ((L.take i).foldl (cN N) (bQ,rest)) x:=by rw[NV hx,List.foldl_append];rfl
     have cA:=uS _ _ ⟨i+1,aI,rfl,rfl⟩;rw[rR]at cA;have Uo:=jL i;have iF:L.length-(i+1)<L.length-i:=by omega
     clear uS rR aB aG jL;generalize(L.take i).foldl (cN N) (bQ,rest)=S1 at *;obtain⟨b1,t1⟩:=S1;simp only at Uo;have dX:=ZhG x b1;have M6:=W7 x;have o7:=Zn4 b1;have Ae:t1.length+1<=1000000:=by omega
     cases Ao:par b1 x with
     |none=>
      have nC:=Znv (b:=N) Ao;have Sj:cN N (b1,t1) x=(b1++[(x,N)],t1++[x]):=by unfold cN;rw[Ao];rfl
      rw[Sj]at cA;rw[Ao]at dX;rw[Nd.Q4 x,Nd.Q4 N]at nC;rw[Nd.Q4 x]at dX M6;simp only[Option.map_none]at dX;simp[-gR,-KT.ok,Dh,bK,laid,cV,aP,aI,↓oM,dX,M6,o7,nC,Ae,hw];refine⟨_,_,iF,Sub.mk ?_ ?_,cA⟩
      .simp
      .simp[bK,laid,Nd.Q4]
     |some b=>
      have Sj:cN N (b1,t1) x=(b1,t1):=by unfold cN;rw[Ao];rfl
      rw[Sj]at cA;rw[Ao]at dX;rw[Nd.Q4 x]at dX M6;simp only[uU,Nd.Q4 b]at dX;simp[-gR,-KT.ok,Dh,bK,laid,cV,aP,aI,↓oM,dX,M6,o7,hw];refine⟨_,_,iF,Sub.mk ?_ ?_,cA⟩
      .simp
      .simp[bK,laid]
    .have he:i=L.length:=by omega
     subst he;rw[nF];clear uS jL;generalize L.foldl (cN N) (bQ,rest)=S1 at *;obtain⟨b1,t1⟩:=S1;simp[Dh,bK,laid];refine⟨_,_,aG,Sub.mk ?_ ?_,aB⟩
     .simp
     .simp[bK,laid]
end Go.Proofs.YtlllhbmbnjnoiaaGreatDoor.Qn
namespace Go.Proofs.YtlllhbmbnjnoiaaGreatDoor
open Go.RowKit
theorem Sub.cut {σ:AS}{s:Site}{e n:Nat}{xs:List PV}(k:Nat)(hb:σ.b s=some (.arr e n xs)):Sub (σ.set s (.arr e n (xs.take k))) σ:=fun _ _ _ _ ρ m act w hS=>by
 refine⟨ρ,m,hS.ZxO hb ?_ (fun j hj=>?_)⟩
 .obtain⟨hn,h|⟨hr,cs,g1,g2,g3,g4,g5⟩⟩:=hS.bx s _ hb
  .exact⟨hn,.inl ⟨h.1,by rw[h.2.1];simp,h.2.2⟩⟩
  .refine⟨hn,.inr ⟨hr,cs,g1,g2,by rw[gJ];omega,g4,fun i x hi=>?_⟩⟩;rw[mG]at hi;split at hi
   .exact g5 i x hi
   .cases hi
 .obtain⟨r1,r2⟩:=DW rfl hj;exact .inl ⟨r1,r2⟩
theorem Wa {σ:AS}(s:Site){e n:Nat}{xs:List PV}(k:Nat)(ys:List PV)(hb:σ.b s=some (.arr e n xs))(hy:xs.take k=ys):Sub (σ.set s (.arr e n ys)) σ:=by
 subst hy;exact Sub.cut k hb
end Go.Proofs.YtlllhbmbnjnoiaaGreatDoor
namespace Go.Proofs.YtlllhbmbnjnoiaaGreatDoor.Qn
open Go.RowKit
theorem PW.set {q:Qu}{p:List (List Int)}(hp:PW q p){h m:Nat}{x:Int}(hh:h<p.length)(hx:x = -1\/(0<=x/\x<q.rs.length)):PW q (fY p h m x):=by
 refine⟨Zh9 hp.f hh,fun l hl y hy=>?_,by rw[OB];exact hp.l⟩;rcases List.mem_or_eq_of_mem_set hl with h1|h1
 .exact hp.ok l h1 y hy
 .subst h1;have e:p[h]?=some p[h]:=bB hh;rw[e]at hy;simp only[rW]at hy;rcases List.mem_or_eq_of_mem_set hy with h2|h2
  .exact hp.ok _ (zX hh) y h2
  .subst h2;exact hx
theorem PW.qQ {q:Qu}{p:List (List Int)}(hp:PW q p){n b:Nd}(hn:n.ok q p)(hb:b.ok q p):PW q (qQ n b p):=by
 cases n with
 |ru r=>cases b<;>exact hp
 |rh r h=>
  cases b with
  |mh m h'=>exact hp.set hn.2 (.inl rfl)
  |ru r'=>exact hp
  |rh r' h'=>exact hp
 |mh m h=>
  refine hp.set hn.2 ?_;cases b with
  |ru r=>right;have:r<q.rs.length:=hb;show 0<=(r:Int)/\(r:Int)<_;omega
  |rh r h'=>right;have:r<q.rs.length:=hb.1;show 0<=(r:Int)/\(r:Int)<_;omega
  |mh m' h'=>exact .inl rfl
theorem PW.wP {q:Qu}{p0:List (List Int)}{bQ:By}(hb:KK q p0 bQ):∀(f:Nat) (n:Nd) (p:List (List Int)),PW q p->p.length=p0.length->PW q (wP bQ f n p)/\(Go.Proofs.YtlllhbmbnjnoiaaGreatDoor.Qn.wP bQ f n p).length=p0.length
 |0,n,p,hp,hl=>⟨hp,hl⟩
 |f+1,n,p,hp,hl=>by
  unfold Go.Proofs.YtlllhbmbnjnoiaaGreatDoor.Qn.wP;cases P7:par bQ n with
  |none=>exact⟨hp,hl⟩
  |some b=>
   simp only;split
   .exact⟨hp,hl⟩
   .have gQ:(n,b)∈bQ:=by
     unfold par at P7;obtain⟨e,he,rfl⟩:=dZ.1 P7;have h1:=List.find?_some he;simp only[decide_eq_true_eq]at h1;subst h1;exact List.mem_of_find?_eq_some he
    obtain⟨h1,h2⟩:=hb.ok _ gQ;exact PW.wP hb f b _ (hp.qQ (Nd.Ks hl h1) (Nd.Ks hl h2)) (by rw[Zln];exact hl)
theorem ZrW {q:Qu}(hq:q.ok){p:List (List Int)}(hp:PW q p):∀(f:Nat) (bQ:By) (todo:List Nd),BW q p (bQ,todo)->∀p',IV q p f bQ todo=some p'->PW q p'/\p'.length=p.length
 |0,bQ,todo,_,p',h=>by cases h
 |f+1,bQ,[],_,p',h=>by cases h
 |f+1,bQ,n::rest,hB,p',h=>by
  obtain⟨i0,b0,G7⟩:=hB.t n (by simp);have vK:=(hB.b.ok _ (dK G7)).1;rw[IV]at h;by_cases hf:tL p n=true
  .rw[if_pos hf]at h;cases h;exact PW.wP hB.b _ _ _ hp rfl
  .rw[if_neg hf]at h;have CL:tL p n=false:=by simpa using hf
   exact ZrW hq hp f _ _ (BW.Kt _ hB.tail ⟨i0,b0,G7⟩ (BA hq hp vK CL)).1 p' h
theorem ZhE {F:Nat}{q:Qu}(hq:q.ok){p:List (List Int)}(hp:PW q p){run:Nat}(hr:run<q.rs.length){p':List (List Int)}(h:fS F q p run=some p'):PW q p'/\p'.length=p.length:=
 ZrW hq hp F _ _ (BW.start hr) p' h
def fE (F:Nat)(q:Qu):List (List Int)->List Nat->List (List Int)×List Nat
 |p,[]=>(p,[])
 |p,r::l=>match fS F q p r with
  |some p'=>fE F q p' l
  |none=>((fE F q p l).1,r::(fE F q p l).2)
def P4 (F:Nat)(q:Qu)(p:List (List Int)):List Nat->Option (Nat×List (List Int))
 |[]=>none
 |r::l=>match fS F q p r with
  |some p'=>some (0,p')
  |none=>(P4 F q p l).map fun s=>(s.1+1,s.2)
theorem Zoy {F:Nat}{q:Qu}{p:List (List Int)}:∀l:List Nat,fE F q p l=match P4 F q p l with
  |none=>(p,l)
  |some (i,p')=>((fE F q p' (l.drop (i+1))).1,l.take i++(fE F q p' (l.drop (i+1))).2)
 |[]=>rfl
 |r::l=>by
  have ih:=Zoy (F:=F) (q:=q) (p:=p) l;have e1:fE F q p (r::l)=match fS F q p r with
   |some p'=>fE F q p' l
   |none=>((fE F q p l).1,r::(fE F q p l).2):=rfl
  have e2:P4 F q p (r::l)=match fS F q p r with
   |some p'=>some (0,p')
   |none=>(P4 F q p l).map fun s=>(s.1+1,s.2):=rfl
  rw[e1,e2];cases hg:fS F q p r with
  |some p'=>simp
  |none=>
   simp only;rw[ih];cases hx:P4 F q p l with
   |none=>rfl
   |some s=>obtain⟨i,p'⟩:=s;simp
theorem Ls {F:Nat}{q:Qu}(hq:q.ok):∀(l:List Nat) (p:List (List Int)),PW q p->(∀r∈l,r<q.rs.length)->PW q (fE F q p l).1/\(fE F q p l).1.length=p.length/\(∀r∈(fE F q p l).2,r∈l)/\(fE F q p l).2.length<=l.length
 |[],p,hp,_=>⟨hp,rfl,fun r h=>h,fG _⟩
 |r::l,p,hp,hl=>by
  unfold fE;cases hg:fS F q p r with
  |some p'=>
   obtain⟨h1,h2⟩:=ZhE hq hp (hl r (by simp)) hg;obtain⟨k1,k2,k3,k4⟩:=Ls hq l p' h1 (fun r h=>hl r (by simp[h]));exact⟨k1,k2.trans h2,fun r h=>by simp[k3 r h],by rw[pB];exact Nat.le_succ_of_le k4⟩
  |none=>
   obtain⟨k1,k2,k3,k4⟩:=Ls hq l p hp (fun r h=>hl r (by simp[h]));refine⟨k1,k2,fun r' h=>?_,by simpa using k4⟩;rcases jN.1 h with h|h
   .simp[h]
   .simp[k3 r' h]
def tS (F:Nat)(q:Qu):Nat->List (List Int)->List Nat->Option (List (List Int))
 |_,p,[]=>some p
 |0,_,_::_=>none
 |n+1,p,r::l=>if p.length=40 then none else tS F q n (fE F q (p++[fC]) (r::l)).1 (fE F q (p++[fC]) (r::l)).2
def Qu.JH (q:Qu):List Nat:=(List.range q.rs.length).flatMap fun i=>List.replicate (q.run i).hours.toNat i
def Qu.DO (F:Nat)(q:Qu):Option (List (List Int)):=tS F q 41 [] q.JH
theorem PW.more {q:Qu}{p:List (List Int)}(hp:PW q p)(hl:p.length<40):PW q (p++[fC]):=
 ⟨fun l h=>by
  rcases sI.1 h with h|h
  .exact hp.f l h
  .simp at h;subst h;rfl,fun l h x hx=>by
  rcases sI.1 h with h|h
  .exact hp.ok l h x hx
  .simp at h;subst h;simp[fC]at hx;exact .inl hx,by simp;omega⟩
theorem PW.nil {q:Qu}:PW q []:=⟨fun l h=>(by simp at h),fun l h=>(by simp at h),by simp⟩
theorem B9 {F:Nat}{q:Qu}(hq:q.ok):∀(n:Nat) (p:List (List Int)) (l:List Nat),PW q p->(∀r∈l,r<q.rs.length)->∀p',tS F q n p l=some p'->PW q p'
 |n,p,[],hp,_,p',h=>by cases n<;>(simp only[tS]at h;cases h;exact hp)
 |0,p,r::l,_,_,p',h=>by cases h
 |n+1,p,r::l,hp,hl,p',h=>by
  unfold tS at h;split at h
  .cases h
  .rename_i RI;have h1:=hp.l;obtain⟨k1,k2,k3,k4⟩:=Ls (F:=F) hq (r::l) _ (hp.more (by omega)) hl;exact B9 hq n _ _ k1 (fun x hx=>hl x (k3 x hx)) p' h
theorem oD {q:Qu}:∀r∈q.JH,r<q.rs.length:=fun r hr=>by
 unfold Qu.JH at hr;obtain⟨i,hi,h⟩:=List.mem_flatMap.1 hr;rw[List.mem_replicate]at h;rw[h.2];simpa using hi
end Go.Proofs.YtlllhbmbnjnoiaaGreatDoor.Qn
namespace Go.Proofs.YtlllhbmbnjnoiaaGreatDoor
open Go.RowKit
noncomputable section
def L178:aX :=⟨30,S [O 4 (.dV (.c (.int .u64 (0)))),O 5 (.dV (.c (.int .u64 (0))))] (.seq (.cond Bf (aC [Om 11 0,O 12 (.conv .u32 (.t 11)),Om 13 1,O 14 (.conv .u32 (.t 13)),Ok 15 215 [.t 12,.t 14],mE 10 15 16 0 17 1,bM 6 16 17] (aC [Om 18 6,O 19 (.conv .u64 (.t 18)),Om 20 7,O 21 (.conv .u64 (.t 20)),bM 4 19 21] .ret)) .skip) (aC [bM 23 0 1,Ok 25 216 [.t 23,.t 24],mE 22 25 26 0 27 1,bM 8 26 27] (aC [bM 28 8 9,bM 4 28 29] .ret))),[.tm 4,.tm 5]⟩
def L216:aX :=⟨51,S [O 4 (.dV (.c (.int .u64 (0)))),O 5 (.dV (.c (.int .u64 (0))))] (aC [ZAg 14 0 4294967295 6] (aC [Em 16 0 32,Om 7 17] (aC [ZAg 18 1 4294967295 8] (aC [Em 20 1 32,Om 9 21] (aC [bM 22 6 8,Ob 24 .mul 22 23,Om 10 24] (aC [bM 25 7 8,Ob 27 .mul 25 26,Em 28 10 32,DY 30 27 29 11] (aC [ZAg 31 11 4294967295 12] (aC [Em 33 11 32,Om 13 34] (aC [bM 35 12 6,Om 37 9,Ob 38 .mul 36 37,DY 39 35 38 12] (aC [bM 40 7 9,Ob 42 .mul 40 41,Om 43 13,Ob 44 .add 42 43,Em 45 12 32,DY 47 44 46 4] (aC [bM 48 0 1,Ob 50 .mul 48 49,Om 5 50] .ret))))))))))),[.tm 4,.tm 5]⟩
end
end Go.Proofs.YtlllhbmbnjnoiaaGreatDoor
namespace Go.Proofs.YtlllhbmbnjnoiaaGreatDoor.Qn
open Go.RowKit
open Tryz
theorem Ej (c:Fin 41):(BitVec.ofNat 64 c.1&&& 4294967295#64).toNat=c.1:=by revert c;decide
theorem Zte (c:Nat)(hc:c<=40):aD prog 216 [.int .u64 1,.int .u64 c] (.bL [.int .u64 0,.int .u64 c]):=by
 have h1:=Ej ⟨c,by omega⟩;simp only at h1;have w0:IntKind.u64.wrap 0=0:=rfl;have w1:IntKind.u64.wrap 1=1:=rfl;have hw:∀n:Nat,n<=40->IntKind.u64.wrap (n:Int)=n:=fun n hn=>by rw[show IntKind.u64.wrap (n:Int)=(n:Int)%18446744073709551616 from rfl];omega
 have hd:∀n:Nat,n<=40->(n:Int).fdiv 4294967296=0:=fun n hn=>by rw[Int.fdiv_eq_ediv_of_nonneg _ (by omega)];omega
 refine cS L216 ?_;simp[L216,IntKind.bits,w0,w1,hw c hc,hd c hc];exact(by decide +kernel:∀c:Fin 41,IntKind.u64.wrap
   (IntKind.u64.wrap
     ((IntKind.u64.wrap
        ((IntKind.u64.wrap (IntKind.u64.wrap ((BitVec.ofNat 64 c.1&&& 4294967295#64).toNat:Int))).fdiv
         4294967296)).fdiv
      4294967296) +
    (IntKind.u64.wrap
       (IntKind.u64.wrap
        ((BitVec.ofInt 64
            (IntKind.u64.wrap
             ((IntKind.u64.wrap (IntKind.u64.wrap ((BitVec.ofNat 64 c.1&&& 4294967295#64).toNat:Int))).fdiv
              4294967296))&&&
           4294967295#64).toNat:Int))).fdiv
     4294967296) =
  0) ⟨c,by omega⟩
theorem ZJ (c:Nat)(hc:c<=40):aD prog 178 [.int .u64 1,.int .u64 c] (.bL [.int .u64 0,.int .u64 c]):=by
 refine cS L178 ?_;simp[L178];refine gF (k:=0) (fs:=[]) (cs:=[]) rfl rfl (Zte c hc) rfl ?_;simp
def vH (v:Int)(c n:Nat):List PV:=List.replicate n (.i v)++List.replicate (c-n) (.i 0)
theorem ZpF {v:Int}{c n:Nat}(h:n<=c):(vH v c n).length=c:=by simp[vH];omega
theorem Zie {v:Int}{c n:Nat}:(vH v c n).take n=List.replicate n (.i v):=by simp[vH]
theorem Zne {v:Int}{c n:Nat}(h:n<=c):aR (vH v c n) n ((List.replicate n (PV.i v)).take (c-n))=vH v c (n+min n (c-n)):=by
 unfold aR vH;rw[List.take_replicate,List.length_replicate,List.take_append_of_le_length (by simp),fO (by simp),List.drop_append,List.length_replicate,List.drop_replicate,List.drop_replicate,<-H9];rw[show n-(n+min (c-n) n)=0 by omega,List.replicate_zero,uG,List.replicate_append_replicate];congr 2<;>omega
theorem ZpD (v:Int)(c:Nat)(hc:c<=40):aD prog 135 [.aF false 1 [.i v],.i c] (.aF false 1 (List.replicate c (.i v))):=by
 have hw:∀n:Nat,n<=40->IntKind.u64.wrap (n:Int)=n:=fun n hn=>by rw[show IntKind.u64.wrap (n:Int)=(n:Int)%18446744073709551616 from rfl];omega
 have hi:∀n:Nat,n<=1000->IntKind.i64.wrap (n:Int)=n:=fun n hn=>wrap64 (by omega)
 have w1:IntKind.u64.wrap 1=1:=rfl;have MI:¬((c:Int)<0):=by omega
 have HZ:¬((9223372036854775807:Int)<(c:Int)):=by omega
 have hc6:c<=1000000:=by omega
 refine cF [.loc 30 0] L135 ?_;simp[L135,hw c hc,w1,MI];refine gF (k:=0) (fs:=[]) (cs:=[]) rfl rfl (ZJ c hc) rfl ?_;simp[-aR,HZ,hi c (by omega),aP,hc6];refine eO (fun k τ=>∃n:Nat,n<=c/\(0<n\/c=0)/\k=c-n/\τ=⟨[(7,.vec (.loc 30 0) 1 0 c),(8,.pv (.i n))],[(.loc 30 0,.arr 3 1 (vH v c n))]⟩)
  ⟨c-min c 1,⟨[(7,.vec (.loc 30 0) 1 0 c),(8,.pv (.i (min c 1:Nat)))],[(.loc 30 0,.arr 3 1 (vH v c (min c 1)))]⟩,Sub.mk ?_ ?_,min c 1,by omega,by omega,rfl,rfl⟩ ?_
 .simp
 .cases c with
  |zero=>simp[-aR,vH,aR]
  |succ c=>simp[-aR,vH,aR]
 rintro J hJ k τ ⟨n,hn,xF,rfl,rfl⟩;have HN:=ZpF (v:=v) hn;by_cases aI:n<c
 .have aB:=hJ _ _ ⟨n+min n (c-n),by omega,by omega,rfl,rfl⟩;have jS:=Zie (v:=v) (c:=c) (n:=n);have iD:=Zne (v:=v) hn;have iY:(n:Int)<(c:Int):=by omega
  have aG:c-(n+min n (c-n))<c-n:=by omega
  have Jh:IntKind.i64.wrap ((n:Int)+(min (c-n) n:Nat))=((n+min n (c-n):Nat):Int):=by rw[wrap64 (by omega)];omega
  have G5:n+(c-n)=c:=by omega
  clear hJ;simp[-aR,-List.take_replicate,iY,aP,hn,HN,jS,iD,G5,Jh];refine⟨_,_,aG,Sub.mk ?_ ?_,aB⟩
  .simp
  .simp
 .have he:n=c:=by omega
  subst he;have jS:=Zie (v:=v) (c:=n) (n:=n);simp[-aR,jS,HN]
def iV (l:List Nat):List PV:=l.map fun r:Nat=>.i r
theorem Zhn {l:List Nat}{i r:Nat}(h:l[i]?=some r):(iV l)[i]?=some (.i r):=by rw[iV,bW,h];rfl
theorem Zhm {l:List Nat}:(iV l).length=l.length:=by simp[iV]
def gL (q:Qu)(p:List (List Int))(l:List Nat):List aJ:=.arr 3 1 (iV l)::bK q p 2
def G2:Option (Nat×List (List Int))->Int
 |some s=>s.1
 |none=>-1
def UI (p:List (List Int)):Option (Nat×List (List Int))->List (List Int)
 |some s=>s.2
 |none=>p
def lQ:AV:=.fn 137 [.ptr (.par 1) 0] []
theorem Qz {F:Nat}(hF:407<F)(q:Qu)(hq:q.ok)(p:List (List Int))(hp:PW q p)(l:List Nat)(hl:l.length<=1000)(fU:∀r∈l,r<q.rs.length):
  cR prog 123 [.vec (.par 0) 1 0 l.length,lQ] (laid 0 (gL q p l)) (fun x B=>x=.pv (.i (G2 (P4 F q p l)))/\B=laid 0 (gL q (UI p (P4 F q p l)) l)):=by
 refine cB [.par 0,.par 1,.par 2] L123 ?_;obtain⟨xC,iZ⟩:∃z,z=P4 F q p l:=⟨_,rfl⟩;rw[<-iZ];generalize hR:(fun(x:AV) (B:List (Site×aJ))=>x=.pv (.i (G2 xC))/\B=laid 0 (gL q (UI p xC) l))=R;simp[L123,gL,lQ,bK,laid];refine eO (fun n τ=>∃k:Nat,k<=l.length/\n=l.length-k/\(P4 F q p (l.drop k)).map (fun s=>(s.1+k,s.2))=xC/\τ=⟨[(0,.vec (.par 0) 1 0 l.length),(1,lQ),(7,.pv (.i l.length)),(8,.pv (.i k))],laid 0 (gL q p l)⟩)
  ⟨l.length,⟨[(0,.vec (.par 0) 1 0 l.length),(1,lQ),(7,.pv (.i l.length)),(8,.pv (.i 0))],laid 0 (gL q p l)⟩,Sub.mk (by simp[lQ]) (by simp[gL,bK,laid]),0,gV _,rfl,by rw[iZ];simp,rfl⟩ ?_
 clear iZ;rintro J hJ n τ ⟨k,hk,rfl,eM,rfl⟩;by_cases aI:k<l.length
 .obtain⟨r,hx⟩:∃x,l[k]?=some x:=⟨l[k],bB aI⟩;have hg:=Zhn hx;have HN:=Zhm (l:=l);have hw:=jD (k:=k) (by omega);have aG:l.length-(k+1)<l.length-k:=by omega
  have x8:l.drop k=r::l.drop (k+1):=by
   rw[y8 aI]
   have:l[k]=r:=by rw[bB aI]at hx;exact Option.some.inj hx
   rw[this]
  have hC:=Zn2 hF q hq p hp r (fU r (dK hx));rw[x8]at eM;have e2:P4 F q p (r::l.drop (k+1))=match fS F q p r with
   |some p'=>some (0,p')
   |none=>(P4 F q p (l.drop (k+1))).map fun s=>(s.1+1,s.2):=rfl
  rw[e2]at eM;clear e2 x8;have eJ:fS F q p r=none->J (l.length-(k+1)) _:=fun hn=>hJ _ _ ⟨k+1,aI,rfl,by
   rw[hn]at eM;rw[<-eM];cases P4 F q p (l.drop (k+1))with
   |none=>rfl
   |some s=>simp;omega,rfl⟩
  clear hJ;simp[gL,lQ,bK,laid,aI,hg,cV];refine xM (gE:=[.ptr (.par 0) 0,.pv (.i r)]) (B:=laid 0 (bK q p 1)) (fs:=[.ptr (.par 1) 0]) (cs:=[]) 16 [.par 1,.par 2] ?_ rfl rfl ?_ ?_ ?_ hC ?_
  .rfl
  .simp[bK,laid]
  .rfl
  .rfl
  rintro r0 B0 ⟨rfl,rfl⟩;refine⟨rfl,by simp[bK,laid],?_⟩;cases yK:fS F q p r with
  |none=>
   have aB:=eJ yK;simp[bK,laid,hw];refine⟨_,_,aG,Sub.mk ?_ ?_,aB⟩
   .simp[lQ]
   .simp[gL,bK,laid]
  |some p'=>
   rw[yK]at eM;simp only[uU,rX]at eM;subst eM;simp[bK,laid];rw[<-hR];simp[gL,bK,laid,G2,UI]
 .have he:k=l.length:=by omega
  subst he;rw[List.drop_length]at eM;have mM:xC=none:=by rw[<-eM];rfl
  subst mM;simp[gL,lQ,bK,laid];rw[<-hR];simp[gL,bK,laid,G2,UI]
theorem ZrM {F:Nat}{q:Qu}(hq:q.ok){p:List (List Int)}(hp:PW q p):∀(l:List Nat),(∀r∈l,r<q.rs.length)->∀i p',P4 F q p l=some (i,p')->i<l.length/\PW q p'/\p'.length=p.length
 |[],_,i,p',h=>by cases h
 |r::l,hl,i,p',h=>by
  have e2:P4 F q p (r::l)=match fS F q p r with
   |some p'=>some (0,p')
   |none=>(P4 F q p l).map fun s=>(s.1+1,s.2):=rfl
  rw[e2]at h;cases hg:fS F q p r with
  |some p2=>
   rw[hg]at h;simp only[Option.some.injEq,Prod.mk.injEq]at h;obtain⟨rfl,rfl⟩:=h;obtain⟨h1,h2⟩:=ZhE hq hp (hl r (by simp)) hg;exact⟨by simp,h1,h2⟩
  |none=>
   rw[hg]at h;obtain⟨s,hs,he⟩:=dZ.1 h;obtain⟨k,p3⟩:=s;simp only[Prod.mk.injEq]at he;obtain⟨rfl,rfl⟩:=he;obtain⟨h1,h2⟩:=ZrM hq hp l (fun x hx=>hl x (by simp[hx])) k p3 hs;exact⟨by simp;omega,h2⟩
def VM (q:Qu)(p:List (List Int))(X:List Nat)(w j n:Nat):AS:=⟨[(0,.vec (.par 0) 1 0 n),(1,lQ),(5,.pv (.i w)),(6,.pv (.i j))],laid 0 (gL q p X)⟩
theorem Zp3 {X:List Nat}{w r:Nat}:(iV X).set w (.i r)=iV (X.set w r):=by rw[iV,iV,List.map_set]
theorem ZqC {F:Nat}(hF:407<F)(q:Qu)(hq:q.ok)(p:List (List Int))(hp:PW q p)(l:List Nat)(hl:l.length<=1000)(fU:∀r∈l,r<q.rs.length):
  cR prog 83 [.vec (.par 0) 1 0 l.length,lQ] (laid 0 (gL q p l)) (fun x B=>x=.vec (.par 0) 1 0 (fE F q p l).2.length/\∃X:List Nat,X.take (fE F q p l).2.length=(fE F q p l).2/\B=laid 0 (gL q (fE F q p l).1 X)):=by
 obtain⟨xC,iZ⟩:∃z,z=fE F q p l:=⟨_,rfl⟩;rw[<-iZ];have hC:=Qz hF q hq p hp l hl fU;rw[Zoy]at iZ;refine N7 [.par 0,.par 1,.par 2] L83 ?_;intro R hR;have Bg:=ZrM (F:=F) hq hp l fU;simp[L83,gL,bK,laid];refine xM (gE:=[.vec (.par 0) 1 0 l.length,lQ]) (B:=laid 0 (gL q p l)) (fs:=[]) (cs:=[]) 10 [.par 0,.par 1,.par 2] ?_ rfl rfl ?_ ?_ ?_ hC ?_
 .rfl
 .simp[gL,bK,laid]
 .simp[lQ]
 .simp[lQ]
 rintro r0 B0 ⟨rfl,rfl⟩;refine⟨rfl,by simp[gL,bK,laid],?_⟩;cases hx:P4 F q p l with
 |none=>
  rw[hx]at iZ;simp only at iZ;subst iZ;simp[gL,bK,laid,G2,UI,lQ];rw[<-hR];exact⟨rfl,l,by simp,by simp[gL,bK,laid]⟩
 |some s=>
  obtain⟨i,p1⟩:=s;obtain⟨hi,Aq,_⟩:=Bg i p1 hx;rw[hx]at iZ;simp only at iZ;have pW:=jD (k:=i) (by omega);have M1:¬((i:Int) = -1):=by omega
  clear Bg hC;simp[gL,bK,laid,G2,UI,lQ,pW,M1];refine eO (fun n τ=>∃(j:Nat) (X K:List Nat) (p2:List (List Int)),j<=l.length/\n=l.length-j/\X.length=l.length/\X.take K.length=K/\X.drop j=l.drop j/\K.length<j/\PW q p2/\(fE F q p2 (l.drop j)).1=xC.1/\K++(fE F q p2 (l.drop j)).2=xC.2/\τ=VM q p2 X K.length j l.length)
   ⟨l.length-(i+1),VM q p1 l i (i+1) l.length,Sub.mk (by simp[lQ]) (by simp[gL,bK,laid]),i+1,l,l.take i,p1,by omega,rfl,rfl,by simp,rfl,by rw[gJ];omega,Aq,by rw[iZ],by rw[iZ],by rw[gJ,Nat.min_eq_left (by omega)]⟩ ?_
  clear iZ Aq hx pW M1;rintro J hJ n τ ⟨j,X,K,p2,hj,rfl,H0,x9,MO,hKj,Sn,C8,C7,rfl⟩;have HN:=Zhm (l:=X);by_cases aI:j<l.length
  .obtain⟨r,tD⟩:∃x,l[j]?=some x:=⟨l[j],bB aI⟩;have Cv:X[j]?=some r:=by
    have h1:(X.drop j)[0]?=(l.drop j)[0]?:=by rw[MO]
    rw[mS,mS,Nat.add_zero]at h1;rw[h1];exact tD
   have hg:=Zhn Cv;have hw:=jD (k:=j) (by omega);have sO:=jD (k:=K.length) (by omega);have aG:l.length-(j+1)<l.length-j:=by omega
   have x8:l.drop j=r::l.drop (j+1):=by
    rw[y8 aI]
    have:l[j]=r:=by rw[bB aI]at tD;exact Option.some.inj tD
    rw[this]
   have hC:=Zn2 hF q hq p2 Sn r (fU r (dK tD));have p4:X.drop (j+1)=l.drop (j+1):=by
    have:=congrArg List.tail MO
    simpa[List.tail_drop]using this
   rw[x8]at C8 C7;have e2:fE F q p2 (r::l.drop (j+1))=match fS F q p2 r with
    |some p'=>fE F q p' (l.drop (j+1))
    |none=>((fE F q p2 (l.drop (j+1))).1,r::(fE F q p2 (l.drop (j+1))).2):=rfl
   rw[e2]at C8 C7;clear e2 x8;have MQ:K.length<X.length:=by omega
   have jK:∀Y,Y=X.set K.length r->fS F q p2 r=none->J (l.length-(j+1)) (VM q p2 Y (K.length+1) (j+1) l.length):=fun Y hY hn=>hJ _ _ ⟨j+1,Y,K++[r],p2,aI,rfl,by rw[hY,List.length_set];exact H0,by
    rw[hY,gD];show List.take (K.length+1) _=_;rw[mJ,O2 MQ,List.take_set_of_le (fG _),x9];rfl,by rw[hY,List.drop_set_of_lt (by omega)];exact p4,by simp;omega,Sn,by rw[hn]at C8;exact C8,by rw[hn]at C7;rw[H9];exact C7,by simp⟩
   have CH:∀p3,fS F q p2 r=some p3->J (l.length-(j+1)) (VM q p3 X K.length (j+1) l.length):=fun p3 hn=>hJ _ _ ⟨j+1,X,K,p3,aI,rfl,H0,x9,p4,by omega,(ZhE hq Sn (fU r (dK tD)) hn).1,by rw[hn]at C8;exact C8,by rw[hn]at C7;exact C7,rfl⟩
   clear hJ;have kH:j<X.length:=by omega
   have Da:K.length<l.length:=by omega
   have Cz:(iV X)[K.length]?=some (.i (X[K.length]:Nat)):=Zhn (bB MQ);have bT:=Zp3 (X:=X) (w:=K.length) (r:=r);simp[VM,gL,lQ,bK,laid,aI,hg,cV];refine xM (gE:=[.ptr (.par 0) 0,.pv (.i r)]) (B:=laid 0 (bK q p2 1)) (fs:=[.ptr (.par 1) 0]) (cs:=[]) 28 [.par 1,.par 2] ?_ rfl rfl ?_ ?_ ?_ hC ?_
   .rfl
   .simp[bK,laid]
   .rfl
   .rfl
   rintro r0 B0 ⟨rfl,rfl⟩;refine⟨rfl,by simp[bK,laid],?_⟩;cases yK:fS F q p2 r with
   |none=>
    have aB:=jK _ rfl yK;simp[bK,laid,hw,sO,Da,↓Cz,bT,cV,aP,setAt];refine⟨_,_,aG,Sub.mk ?_ ?_,aB⟩
    .simp[lQ]
    .simp[gL,bK,laid]
   |some p3=>
    have aB:=CH p3 yK;simp[bK,laid,hw];refine⟨_,_,aG,Sub.mk ?_ ?_,aB⟩
    .simp[lQ]
    .simp[gL,bK,laid]
  .have he:j=l.length:=by omega
   subst he;rw[List.drop_length]at C8 C7;have Sh:p2=xC.1:=C8;have Sg:K=xC.2:=by rw[<-C7];simp[fE]
   clear hJ C8 C7;have RC:K.length<=l.length:=by omega
   have IG:K.length+(l.length-K.length)=l.length:=by omega
   have jJ:aR (iV X) K.length (List.replicate (l.length-K.length) (PV.i 0))=iV (K++List.replicate (l.length-K.length) 0):=by
    unfold aR iV;rw[List.length_replicate,IG,List.drop_eq_nil_of_le (by simp;omega),uG,<-List.map_take,x9,mF,List.map_replicate];rfl
   simp[-aR,VM,gL,lQ,bK,laid,aP,RC,IG,HN,H0,jJ];rw[<-hR,<-Sh,<-Sg];exact⟨rfl,K++List.replicate (l.length-K.length) 0,by simp,by simp[gL,bK,laid]⟩
section
attribute [local simp] aY AS.cD AV.cD AV.aY aJ.cD AS.tidy AS.b8
def Qu.O4 (q:Qu)(k:Nat):List Nat:=((List.range q.rs.length).take k).flatMap fun i=>List.replicate (q.run i).hours.toNat i
theorem Qu.ZwB {q:Qu}{k:Nat}(hk:k<q.rs.length):q.O4 (k+1)=q.O4 k++List.replicate (q.run k).hours.toNat k:=by
 have:(List.range q.rs.length)[k]?=some k:=by rw[List.getElem?_range hk]
 unfold Qu.O4;rw[NV this,List.flatMap_append];simp
theorem Qu.ZwN {q:Qu}(hq:q.ok):∀k,k<=q.rs.length->(q.O4 k).length<=40*k
 |0,_=>by simp[Qu.O4]
 |k+1,hk=>by
  have h1:=Qu.ZwN hq k (by omega);obtain⟨r,hr⟩:∃r,q.rs[k]?=some r:=⟨q.rs[k],bB (by omega)⟩;have h2:=hq.h r (dK hr);have h3:q.run k=r:=by simp[Qu.run,hr]
  rw[Qu.ZwB (by omega),gD,List.length_replicate,h3];omega
theorem Qu.Zxb {q:Qu}:q.O4 q.rs.length=q.JH:=by
 unfold Qu.O4 Qu.JH;rw[fO (by simp)]
def Ym (q:Qu):Option (List (List Int))->AV->List (Site×aJ)->Prop
 |none,x,B=>x=.pv (.bL [.eU,.bool false])/\B=[]
 |some p,x,B=>x=.bL [.ptr (.ret 0) 0,.pv (.bool true)]/\B=[(.ret 0,.cells [.pv (.aF false 1 (q.ms.map iB)),.pv (.aF false 3 (q.rs.map Rq.pv)),.vec (.ret 1) 4 0 p.length]),(.ret 1,.arr 180 4 (jP p))]
def BG (q:Qu)(p:List (List Int))(left:List Nat):AS:=⟨[(4,.ptr (.loc 10 0) 0),(5,.vec (.loc 25 0) 1 0 left.length)],[(.loc 25 0,.arr 3 1 (iV left)),(.loc 10 0,.cells [.pv (.aF false 1 (q.ms.map iB)),.pv (.aF false 3 (q.rs.map Rq.pv)),.vec (.loc 43 0) 4 0 p.length]),(.loc 43 0,.arr 180 4 (jP p))]⟩
theorem ZP {F:Nat}(hF:407<F)(q:Qu)(hq:q.ok):cR prog 92 [.pv q.pv] [] (Ym q (q.DO F)):=by
 have hqr:=hq.r;refine cE L92 ?_;obtain⟨xC,iZ⟩:∃z,z=q.DO F:=⟨_,rfl⟩;rw[<-iZ];generalize hR:Ym q xC=R;simp[L92,Qu.pv];refine eO (fun n τ=>∃k:Nat,k<=q.rs.length/\n=q.rs.length-k/\τ=⟨[(4,.ptr (.loc 10 0) 0),(5,.vec (.loc 25 0) 1 0 (q.O4 k).length),(12,.pv (.aF false 3 (q.rs.map Rq.pv))),(13,.pv (.i q.rs.length)),(14,.pv (.i k))],[(.loc 25 0,.arr 3 1 (iV (q.O4 k))),(.loc 10 0,.cells [.pv (.aF false 1 (q.ms.map iB)),.pv (.aF false 3 (q.rs.map Rq.pv)),.pv (.emp (some true))])]⟩)
  ⟨q.rs.length,⟨[(4,.ptr (.loc 10 0) 0),(5,.vec (.loc 25 0) 1 0 0),(12,.pv (.aF false 3 (q.rs.map Rq.pv))),(13,.pv (.i q.rs.length)),(14,.pv (.i 0))],[(.loc 25 0,.arr 3 1 []),(.loc 10 0,.cells [.pv (.aF false 1 (q.ms.map iB)),.pv (.aF false 3 (q.rs.map Rq.pv)),.pv (.emp (some true))])]⟩,Sub.trans' (Sub.mk (by simp[AS.cI]) (by simp[AS.cI])) (cI 25 3 1 5 rfl (by decide)),0,gV _,rfl,by simp[Qu.O4,iV]⟩ ?_
 rintro J hJ n τ ⟨k,hk,rfl,rfl⟩;have S5:=Qu.ZwN hq k hk;by_cases aI:k<q.rs.length
 .obtain⟨r,hr⟩:∃r,q.rs[k]?=some r:=⟨q.rs[k],bB aI⟩;have dF:q.run k=r:=by simp[Qu.run,hr]
  have hh:=hq.h r (dK hr);have hg:(q.rs.map Rq.pv)[k]?=some (.agg [.i r.hours,.i r.ready,.aF false 1 (r.on.map PV.bool)]):=by rw[bW,hr];rfl
  have hw:=jD (k:=k) (by omega);have aG:q.rs.length-(k+1)<q.rs.length-k:=by omega
  have aB:=hJ _ _ ⟨k+1,aI,rfl,rfl⟩;have iD:=Qu.ZwB aI;rw[dF]at iD;obtain⟨c,hc⟩:∃c:Nat,r.hours=c:=⟨r.hours.toNat,by omega⟩;rw[hc]at iD hg;rw[H7]at iD;have Se:=ZpD k c (by omega);have HN:(iV (q.O4 k)).length=(q.O4 k).length:=Zhm;have PK:(q.O4 k).length+c<=1000000:=by omega
  have hnv:iV (q.O4 k++List.replicate c k)=iV (q.O4 k)++List.replicate c (.i k):=by simp[iV]
  clear hJ iZ;generalize q.O4 (k+1)=U2 at *;subst iD;generalize q.O4 k=U1 at *;generalize hTV:iV U1=TV at *;simp[aI,↓hg];refine .inl (cP [.loc 21 0] [.aF false 1 [.i k],.i c] rfl ?_ Se ?_)
  .simp[aM]
  simp[aM,aP,PK,HN,hw];refine⟨_,_,aG,Sub.mk ?_ ?_,aB⟩
  .simp
  .simp[hnv]
 .have he:k=q.rs.length:=by omega
  subst he;rw[Qu.Zxb]at S5 ⊢;clear hJ;have hu:=oD (q:=q);have MP:tS F q 41 [] q.JH=xC:=iZ.symm;clear iZ;generalize q.JH=U at *;simp;refine eO (fun n τ=>∃(p:List (List Int)) (left:List Nat),PW q p/\left.length<=1000/\(∀r∈left,r<q.rs.length)/\n+p.length=41/\tS F q n p left=xC/\τ=BG q p left)
   ⟨41,BG q [] U,Sub.trans' (Sub.mk (by simp[AS.lY]) (by simp[AS.lY,jP])) (lY 43 180 4 (s:=.loc 10 0) (cs:=[.pv (.aF false 1 (q.ms.map iB)),.pv (.aF false 3 (q.rs.map Rq.pv)),.pv (.emp (some true))]) 2 rfl rfl (by decide)),[],U,PW.nil,by omega,hu,rfl,MP,rfl⟩ ?_
  clear MP hu S5;rintro J hJ n τ ⟨p,left,hp,yI,fU,hn,eM,rfl⟩;have lZ:=hp.l;cases left with
  |nil=>
   have Am:xC=some p:=by rw[<-eM];cases n<;>rfl
   subst Am;simp[BG];refine⟨[.loc 10 0,.loc 43 0],?_⟩;simp;rw[<-hR];simp[Ym]
  |cons r0 rest=>
   obtain⟨n',rfl⟩:∃n',n=n'+1:=⟨n-1,by omega⟩;have hL:tS F q (n'+1) p (r0::rest)=if p.length=40 then none else tS F q n' (fE F q (p++[fC]) (r0::rest)).1 (fE F q (p++[fC]) (r0::rest)).2:=rfl;rw[hL]at eM;clear hL;by_cases RI:p.length=40
   .rw[if_pos RI]at eM;subst eM;simp[BG,RI];refine⟨[],?_⟩;simp;rw[<-hR];exact⟨rfl,rfl⟩
   .rw[if_neg RI]at eM;have Vr:¬((p.length:Int)=40):=by omega
    have Aq:=hp.more (q:=q) (by omega);have HW:=ZqC hF q hq (p++[fC]) Aq (r0::rest) yI fU;obtain⟨k1,k2,k3,k4⟩:=Ls (F:=F) hq (r0::rest) (p++[fC]) Aq fU;have hp6:p.length+1<=1000000:=by omega
    have hpv:jP (p++[fC])=jP p++[.agg [.i (-1),.i (-1),.i (-1),.i (-1)]]:=by simp[jP,rowP,fC]
    have Sl:(jP p).length=p.length:=by simp[jP]
    have aB:=hJ n' _ ⟨(fE F q (p++[fC]) (r0::rest)).1,(fE F q (p++[fC]) (r0::rest)).2,k1,by omega,fun r h=>fU r (k3 r h),by rw[k2];simp;omega,eM,rfl⟩;clear hJ eM k1 k2 k3 k4;generalize fE F q (p++[fC]) (r0::rest)=D at *;obtain⟨p2,K⟩:=D;simp only at aB HW;simp[BG,Vr];refine cQ [] [] ZuX ?_;simp[aM,aP,hp6,Sl];refine xM (gE:=[.vec (.par 0) 1 0 (r0::rest).length,lQ]) (B:=laid 0 (gL q (p++[fC]) (r0::rest))) (fs:=[]) (cs:=[]) 49 [.loc 25 0,.loc 10 0,.loc 43 0] ?_ rfl rfl ?_ ?_ ?_ HW ?_
    .rfl
    .simp[gL,bK,laid,hpv]
    .rfl
    .simp[lQ]
    rintro x B0 ⟨rfl,X,hX,rfl⟩;refine⟨rfl,by simp[gL,bK,laid],?_⟩;have hXK:(iV X).take K.length=iV K:=by rw[iV,iV,<-List.map_take,hX]
    simp[gL,bK,laid];refine⟨_,_,Nat.lt_succ_self n',Sub.trans' (Sub.mk ?_ ?_) (Wa (.loc 25 0) (e:=3) (n:=1) (xs:=iV X) K.length (iV K) rfl hXK),aB⟩
    .simp
    .simp
end
end Go.Proofs.YtlllhbmbnjnoiaaGreatDoor.Qn
