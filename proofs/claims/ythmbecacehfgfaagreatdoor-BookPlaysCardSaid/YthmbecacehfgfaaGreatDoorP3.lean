import Derived.Test.YthmbecacehfgfaaGreatDoorP0
import Derived.Test.YthmbecacehfgfaaGreatDoorP2
import Derived.Test.YthmbecacehfgfaaGreatDoorP1
import Derived.Test.YthmbecacehfgfaaGreatDoorProg
set_option linter.unusedSimpArgs false
set_option linter.unusedVariables false
set_option maxHeartbeats 32000000
set_option maxRecDepth 100000
namespace Go.Proofs.YthmbecacehfgfaaGreatDoor
open Go.RowKit
open Tryz
theorem Ec:yZ prog (pE P4) L58.code:=Fw L58_ok L58_tab
structure mY (H:Int->Bool)(hs:List (PV×PV)):Prop where
 k:zZ kI hs=true
 f:∀n:Int,(eX (.i n) hs).getD (.bool false)=.bool (H n)
def numOf:PV->Int
 |.agg (.int _ n::_)=>n
 |_=>0
def iA (s:Site):aL:=.cells [.ptr s 0]
noncomputable def D3 (b:Bk)(bad:List Int)(es hs:List (PV×PV))(is:Bool):List aL:=[.loop (fX prog 58 0) [42] 64 [(3,.ptr (.par 2) 0),(7,.ptr (.par 1) 0)] none,
 .cells [.pv (.bool is)],.cells [.mp (.par 3)],.map hs,iA (.par 5),.cells (aY b (.par 6) (gB bad)),.map es]
attribute [simp] AS.exp jV aL.iW AV.map AV.iR rB dO Site.uI aL.dC AV.dC AV.hZ aT cK AS.lY eY gH bX oV kB mT gK s6
attribute [simp] aL.bI Site.fP
noncomputable def N0 (b:Bk)(bad:List Int)(es hs:List (PV×PV))(H:Int->Bool)(hH:mY H hs):Cons prog where
 m:=7
 S:=Bool
 X:=D3 b bad es hs
 step is x:=(is||H (numOf x),true)
 good x:=∃c:Ct,x=c.pv
 live _:=True
 m0:=by omega
 len _:=rfl
 cl c:=by
  intro bx hb;simp only[D3,jQ,List.not_mem_nil,or_false]at hb;rcases hb with rfl|rfl|rfl|rfl|rfl|rfl|rfl
  .rfl
  .rfl
  .rfl
  .rfl
  .rfl
  .simp[aY,Site.lt,I7]
  .rfl
 goes _ _ _ _ _:=trivial
 sH c x hc hx:=by
  obtain⟨y,rfl⟩:=hx;have oO:yZ prog (pE P4) (.vF 64 (.t 41) (fX prog 58 0) Y58_0a Y58_0b [42]):=Ec.2.2.1.2.2.2.1.2.2.2.1.2;have hf:=hH.f y.num;have hk:=hH.k;refine XS mixed oO.1 oO.2.1 rfl rfl (by simp) rfl ?_;cases c
  all_goals
   simp[-getElem?_pos,Y58_0a,Y58_0b,D3,laid,qH,Ct.pv,hk,hf,numOf,iA,aY,AO];exact⟨[],[.par 1,.par 2,.par 3,.par 4,.par 5,.par 6],rfl,rfl,by simp[bB,I7],rfl,by simp[bB,W4]⟩
theorem Zk4 {b:Bk}{bad:List Int}{es hs:List (PV×PV)}{H:Int->Bool}{hH:mY H hs}:∀(l:List Ct) (c:Bool),(N0 b bad es hs H hH).run c (lU l)=(c||l.any (fun o=>H o.num),true)
 |[],c=>by
  show(c,true)=_;simp
 |x::l,c=>by
  show(N0 b bad es hs H hH).run (c||H x.num) (lU l)=_;rw[Zk4 l,List.any_cons,Bool.or_assoc]
theorem Fk {b:Bk}(hb:b.ok){bad:List Int}{n:Int}(h:n∈b.held bad):n∈b.nums:=by
 obtain⟨c,hc,e,_⟩:=(KI hb).1 h;exact(x4 hb).2 ⟨c,hc,e⟩
def kL (b:Bk)(bad:List Int)(k:Nat):List (PV×PV):=nU id (fun n=>.bool ((b.held bad).contains n)) (b.nums.take k)
theorem Gb {l:List Int}{n:Int}:(l.find? fun c=>decide (id c=n))=if n∈l then some n else none:=by
 induction l with
 |nil=>rfl
 |cons x l ih=>
  rw[List.find?_cons];by_cases h:x=n
  .subst h;rw[show decide (id x=x)=true from by simp,if_pos (by simp)]
  .rw[show decide (id x=n)=false from by simpa using h,ih];by_cases hm:n∈l
   .rw[if_pos hm,if_pos (by simp[hm])]
   .rw[if_neg hm,if_neg (by simp[hm];omega)]
theorem Gi (b:Bk)(bad:List Int)(k:Nat):mY (fun n=>(b.nums.take k).contains n&&(b.held bad).contains n) (kL b bad k):=by
 refine⟨OD,fun n=>?_⟩;unfold kL;rw[KD,Gb];by_cases h:n∈b.nums.take k
 .rw[if_pos h,jF.2 h,Bool.true_and];rfl
 .rw[if_neg h];cases hc:(b.nums.take k).contains n
  .rfl
  .exact absurd (jF.1 hc) h
theorem TD {b:Bk}(hb:b.ok)(bad:List Int):mY (fun n=>(b.held bad).contains n) (kL b bad b.nums.length):=by
 have h:=Gi b bad b.nums.length;refine⟨h.k,fun n=>?_⟩;rw[h.f n,nC];cases hc:(b.held bad).contains n
 .simp
 .rw[jF.2 (Fk hb (jF.1 hc))];rfl
theorem Zqn {b:Bk}{bad:List Int}{k:Nat}{n:Int}(h:b.nums[k]?=some n):mN (.i n) (.bool ((b.held bad).contains n)) (kL b bad k)=kL b bad (k+1):=by
 unfold kL;rw[Gp (fun x hx=>?_),lX,h]
 .unfold nU;rw[lI];rfl
 .obtain⟨i,hi⟩:=iM.1 hx;rw[mG]at hi;split at hi
  .rename_i qM;obtain⟨h1,e1⟩:=bZ.1 hi;obtain⟨h2,e2⟩:=bZ.1 h
   have:=R0.1 (TI (b:=b)) i k h1 h2 qM
   rw[e1,e2]at this;show x≠n;omega
  .cases hi
theorem Zlw {b:Bk}(hb:b.ok){k:Nat}{n:Int}(h:b.nums[k]?=some n)(H:Int->Bool):((b.qU (b.get n).src (b.get n).day n).any fun o=>(b.nums.take k).contains o.num&&H o.num)=(b.qU (b.get n).src (b.get n).day n).any fun o=>H o.num:=by
 rw[qQ,oT,oT];constructor
 .rintro⟨o,ho,h1⟩;rw[dK]at h1;exact⟨o,ho,h1.2⟩
 .rintro⟨o,ho,h1⟩;refine⟨o,ho,?_⟩;rw[h1,Bool.and_true,jF];obtain⟨h2,h3⟩:=(AN hb).1 ho;unfold Bk.pS at h3;simp only[dK,decide_eq_true_eq]at h3;obtain⟨i,hi⟩:=iM.1 ((x4 hb).2 ⟨o,h2,rfl⟩);rw[iM];refine⟨i,?_⟩;obtain⟨q1,e1⟩:=bZ.1 hi;obtain⟨q2,e2⟩:=bZ.1 h;rw[mG,if_pos,hi];rcases Nat.lt_trichotomy i k with qM|qM|qM
  .exact qM
  .subst qM;rw[e1]at e2;omega
  .have:=R0.1 (TI (b:=b)) k i q2 q1 qM
   rw[e1,e2]at this;omega
theorem Ziz {b:Bk}(hb:b.ok){bad:List Int}{k:Nat}{n:Int}(h:b.nums[k]?=some n):(((b.item (b.get n).src).gZ||(b.qU (b.get n).src (b.get n).day n).any fun o=>(b.nums.take k).contains o.num&&(b.held bad).contains o.num)&&!bad.contains n)=(b.held bad).contains n:=by
 rw[Zk3 hb (dL h),Zlw hb h]
theorem Dj {a b c d:AV}{Z:List AV}{n:Nat}:(a::b::c::d::Z)[4+n]?=Z[n]?:=by rw[Nat.add_comm];rfl
def VG (b:Bk)(bad:List Int)(es:List (PV×PV))(k:Nat):AS:=⟨[(0,.ptr (.par 0) 0),(3,.ptr (.loc 3 0) 0),(13,.pv (.aE false 1 (b.nums.map aN))),(14,.pv (.i b.nums.length)),(15,.pv (.i k))],
 [(.loc 9 0,.map (kL b bad k)),(.loc 3 0,.cells [.mp (.loc 9 0)]),(.par 0,.cells (aY b (.par 1) (gB bad))),(.par 1,.map es)]⟩
theorem Ye (b:Bk)(hb:b.ok)(bad:List Int)(es:List (PV×PV))(kZ:xD b es):cN prog 58 [.ptr (.par 0) 0] (laid 0 (kG b bad es)) (fun r B=>r=.mp (.ret 0)/\B=(.ret 0,.map (kL b bad b.nums.length))::laid 0 (kG b bad es)):=by
 have hlen:=WX (b:=b);refine O2 [.loc 9 0,.par 0,.par 1] L58 ?_;intro R hR;simp[L58,laid,kG,aY,AO];refine dY (fun n τ=>∃k:Nat,k<=b.nums.length/\n=b.nums.length-k/\τ=VG b bad es k) ⟨b.nums.length,VG b bad es 0,Sub.mk (by simp) (by simp[aY,kL,nU]),0,fT _,rfl,rfl⟩ ?_;rintro J hJ n τ ⟨k,hk,rfl,rfl⟩;by_cases aI:k<b.nums.length
 .obtain⟨x,hx⟩:∃x,b.nums[k]?=some x:=⟨b.nums[k],aX aI⟩;have K5:=dL hx;have nX:(b.nums.map aN)[k]?=some (.i x):=by rw[bR,hx];rfl
  have hw:=bA (k:=k) (by omega);have aH:b.nums.length-(k+1)<b.nums.length-k:=by omega
  obtain⟨rP,nY⟩:=V9 hb K5;have mL:=kZ.f x;rw[if_pos K5]at mL;have T9:=kZ.k;have jO:=wY hb rP;have aB:=hJ _ _ ⟨k+1,aI,rfl,rfl⟩;have nH:=Zqn (bad:=bad) hx;have bQ:=Ziz hb (bad:=bad) hx;have QF:=(Gi b bad k).k;have IP:=Zlw hb hx (fun n=>(b.held bad).contains n);have dF:=fun is:Bool=>Zk4 (b:=b) (bad:=bad) (es:=es) (hH:=Gi b bad k) (b.qU (b.get x).src (b.get x).day x) is
  have hit:=fun is:Bool=>Fb (N0 b bad es (kL b bad k) _ (Gi b bad k)) b hb bad es kZ 4 5 6 (fun c _=>⟨rfl,rfl⟩) (fun c _=>rfl) (b.get x).src (b.get x).day x is trivial (fun z hz=>⟨z,rfl⟩)
  simp only[dF,IP]at hit;rw[Ziz hb hx]at bQ;have HP:=Zk3 hb (bad:=bad) K5;generalize hAN:((b.qU (b.get x).src (b.get x).day x).any fun n=>(b.held bad).contains n.num)=an at *;generalize b.get x=y at *;obtain⟨yn,yi,ys,yd,yv,⟨yl,yh⟩⟩:=y;simp only at nY jO hit HP;subst nY;unfold Ct.pv at mL;obtain⟨si,rfl⟩:∃si:Nat,ys=si:=⟨ys.toNat,by omega⟩;obtain⟨nn,rfl⟩:∃nn:Nat,yn=nn:=⟨yn.toNat,by omega⟩;have M1:si<b.items.length:=by omega
  have M6:nn<1000:=by omega
  obtain⟨z,hz⟩:∃z,b.items[si]?=some z:=⟨b.items[si],aX M1⟩;have pX:(b.items.map It.pv)[si]?=some (.agg [.i z.dR,.bool z.gZ,.i z.val.lo,.i z.val.hi]):=by rw[bR,hz];rfl
  have HJ:b.item (si:Int)=z:=by unfold Bk.item;rw[H7,hz];rfl
  rw[HJ]at HP;have QJ:=hit z.gZ;clear hit;simp[VG,aY,aI,↓nX,T9,mL,aS,↓pX,AO,-aT];refine cM [.ptr (.par 0) 0,.pv (.i si),.pv (.i yd),.pv (.i nn)] (laid 0 (kG b bad es)) 41 [.par 0,.par 1] (by simp[laid,kG,aY,aS,W4,I7]) (BI b bad es si yd nn) (by simp[laid,kG,aY,I7]) ?_;simp[laid,kG,aY,W4,OR,-aT];refine WZ [.loc 64 0,.loc 7 0,.loc 3 0,.loc 9 0,.loc 41 0,.par 0,.par 1] [(3,.ptr (.loc 3 0) 0),(7,.ptr (.loc 7 0) 0)] (gf:=133) (fs:=[]) (cs:=[.ptr (.loc 41 0) 0,.pv (.ref [.i nn]),.pv (.ref [.i si]),.pv (.ref [.i yd])]) ?_ ?_ rfl rfl ?_ ?_ ?_ QJ ?_
  .rfl
  .simp
  .simp[N0,D3,laid,aY,W4,I7,AO,iA]
  .rfl
  .rfl
  rintro r B' ⟨rfl,rfl⟩;refine⟨rfl,?_,?_⟩
  .exact fun p hp=>WT (n:=7) (L:=D3 b bad es (kL b bad k) (z.gZ||an)) (by simp[D3]) ((N0 b bad es (kL b bad k) _ (Gi b bad k)).cl (z.gZ||an)) p hp
  refine⟨_,_,_,_,_,rfl,?_⟩;have tD:(z.gZ||an)=true->(b.held bad).contains (nn:Int)=!bad.contains (nn:Int):=fun h=>by rw[HP,h,Bool.true_and]
  have QR:(z.gZ||an)=false->(b.held bad).contains (nn:Int)=false:=fun h=>by rw[HP,h,Bool.false_and]
  generalize Db:(z.gZ||an)=is at *;have D8:=ZhO (l:=bad) M6;cases is
  .rw[QR rfl]at nH;simp[N0,D3,laid,kX,aY,AO,W4,iA,-aT,QF,nH,hw];exact⟨_,_,aH,Sub.mk (by simp) (by simp[aY]),aB⟩
  .have hv:=tD rfl;cases FB:bad.contains (nn:Int)
   .rw[FB]at hv D8;simp only[Bool.not_false]at hv;rw[hv]at nH;simp[N0,D3,laid,kX,aY,AO,W4,iA,-aT,cO,M6,Dj,D8,QF,nH,hw];exact⟨_,_,aH,Sub.mk (by simp) (by simp[aY]),aB⟩
   .rw[FB]at hv D8;simp only[Bool.not_false,Bool.not_true]at hv;rw[hv]at nH;simp[N0,D3,laid,kX,aY,AO,ZaR,W4,iA,-aT,Db,cO,aP,M6,Dj,D8,QF,nH,hw];exact⟨_,_,aH,Sub.mk (by simp[VG]) (by simp[VG,aY,AO]),aB⟩
 .have he:k=b.nums.length:=by omega
  subst he;clear hJ;simp[VG,aY,I7,W4,rB];rw[<-hR];exact⟨rfl,by simp[laid,kG,aY]⟩
section
def B6 (l:List Int)(k:Nat):Bool:=match l[k]? with
 |some n=>jC n 1 999&&(decide (k=0)||decide ((l[k-1]?).getD 0<n))
 |none=>true
def V3 (l:List Int):Bool:=(List.range l.length).all (B6 l)
theorem Zf {l:List Int}{k:Nat}(hk:k<l.length)(h:B6 l k=false):V3 l=false:=by
 unfold V3;rw[List.all_eq_false];exact⟨k,List.mem_range.2 hk,by simp[h]⟩
theorem Zrf {l:List Int}(h:∀k,k<l.length->B6 l k=true):V3 l=true:=by
 unfold V3;rw[qZ];exact fun k hk=>h k (List.mem_range.1 hk)
def woR (b:Bk)(bad:List Int)(r:AV)(B:List (Site×aL)):Prop:=
 (b.fault≠0/\r=.pv (.bM [.eU,.i b.fault])/\B=[])\/
 (b.fault=0/\V3 bad=false/\r=.pv (.bM [.eU,.i 2])/\B=[])\/
 (b.fault=0/\V3 bad=true/\∃es,xD b es/\r=.bM [.ptr (.ret 0) 0,.pv (.i 0)]/\B=[(.ret 0,.cells (aY b (.ret 1) (gB bad))),(.ret 1,.map es)])
def Im (b:Bk)(bad:List Int)(es:List (PV×PV))(k:Nat):AS:=⟨[(1,.pv (.aE false 1 (bad.map aN))),(6,.ptr (.loc 12 0) 0),(18,.pv (.aE false 1 (bad.map aN))),(19,.pv (.i bad.length)),(20,.pv (.i k))],
 [(.loc 12 0,.cells (aY b (.loc 12 1) (gB (bad.take k)))),(.loc 12 1,.map es)]⟩
theorem LA {a b c d:AV}{Z:List AV}{n:Nat}:(a::b::c::d::Z).take (4+n)=a::b::c::d::Z.take n:=by rw[Nat.add_comm];rfl
theorem NH {b c d:AV}{Z:List AV}{n:Nat}:(b::c::d::Z).drop (4+n)=Z.drop (n+1):=by rw[Nat.add_comm];rfl
theorem ZmR {Z:List AV}{n:Nat}{v:AV}(h:n<Z.length):Z.take n++v::Z.drop (n+1)=Z.set n v:=by rw[List.set_eq_take_append_cons_drop,if_pos h]
attribute [local simp] AS.exp jV aL.iW AV.map AV.iR dO Site.uI aL.dC AV.dC AV.hZ cK AS.lY eY gH bX oV kB mT gK s6
theorem Zmh (b:Bk)(hi:b.items.length<=1000)(hc:b.aA.length<=1000)(bad:List Int)(xJ:bad.length<=1000):cN prog 57 [.pv b.pv,.pv (.aE false 1 (bad.map aN))] [] (woR b bad):=by
 have hr:=Fe b hi hc;refine cE L57 ?_;generalize hR:woR b bad=R;simp[L57,Bk.pv];refine cL [.pv b.pv] [] 12 [] rfl hr ?_
 rintro r0 B0 (⟨h0,rfl,rfl⟩|⟨h0,es,kZ,rfl,rfl⟩)
 .refine⟨rfl,by simp,?_⟩;have hd:decide (b.fault=0)=false:=by simpa using h0
  simp[-decide_eq_true_eq,-decide_eq_false_iff_not,hd];refine⟨[],?_⟩;simp[aT,rB];rw[<-hR];exact .inl ⟨h0,rfl,rfl⟩
 refine⟨rfl,by simp[aY,GD,I7],?_⟩;simp[aY,GD,W4];refine dY (fun n τ=>∃k:Nat,k<=bad.length/\n=bad.length-k/\(∀j,j<k->B6 bad j=true)/\τ=Im b bad es k) ⟨bad.length,Im b bad es 0,Sub.mk (by simp) (by simp[aY]),0,fT _,rfl,(fun j hj=>by omega),rfl⟩ ?_;rintro J hJ n τ ⟨k,hk,rfl,hinv,rfl⟩;by_cases aI:k<bad.length
 .obtain⟨x,hx⟩:∃x,bad[k]?=some x:=⟨bad[k],aX aI⟩;have nX:(bad.map aN)[k]?=some (.i x):=by rw[bR,hx];rfl
  have hw:=bA (k:=k) (by omega);have aH:bad.length-(k+1)<bad.length-k:=by omega
  have cU:B6 bad k=(jC x 1 999&&(decide (k=0)||decide ((bad[k-1]?).getD 0<x))):=by unfold B6;rw[hx]
  have herr:B6 bad k=false->∃outs,aT outs [.tm 4,.tm 5] R ⟨[(5,.pv (.i 2)),(4,.pv .eU)],[]⟩:=fun h=>⟨[],by
   simp[aT,rB];rw[<-hR];exact .inr (.inl ⟨h0,Zf aI h,rfl,rfl⟩)⟩
  have D0:=ZkG x;have jD:decide ((k:Int)<(bad.length:Int))=true:=by simp;omega
  simp[-decide_eq_true_eq,-decide_eq_false_iff_not,Im,aY,aI,↓nX];refine cG [.i x] D0 ?_;cases e1:jC x 1 999
  .rw[e1,Bool.false_and]at cU;simp[-decide_eq_true_eq,-decide_eq_false_iff_not];refine⟨[],?_⟩;simp[aT,rB];rw[<-hR];exact .inr (.inl ⟨h0,Zf aI cU,rfl,rfl⟩)
  rw[e1,Bool.true_and]at cU;have Z1:1<=x/\x<=999:=by unfold jC at e1;simp only[dK,decide_eq_true_eq]at e1;exact e1
  obtain⟨nn,rfl⟩:∃nn:Nat,x=nn:=⟨x.toNat,by omega⟩;have M6:nn<1000:=by omega
  have jN:=Zq3 (l:=bad.take k) M6;have iH:bad.take (k+1)=bad.take k++[(nn:Int)]:=by rw[lX,hx];rfl
  rw[<-iH,<-ZmR (by rw[ZhN];exact M6)]at jN;have hle:4+nn<=1003:=by omega
  have aB:=fun h:B6 bad k=true=>hJ _ _ ⟨k+1,aI,rfl,(fun j hj=>by
   rcases Nat.lt_succ_iff_lt_or_eq.1 hj with h'|h'
   .exact hinv j h'
   .subst h';exact h),rfl⟩
  by_cases hz:k=0
  .have aB:=aB (by rw[cU,hz];rfl);subst hz;have G4:IntKind.i64.wrap 1=1:=rfl;simp only[List.take_zero,rT]at jN;simp[G4,-decide_eq_true_eq,-decide_eq_false_iff_not,cO,aP,M6,LA,NH,hle,jN,ZhN];exact⟨_,_,aH,Sub.mk (by simp) (by simp[aY]),aB⟩
  .obtain⟨j,CO⟩:∃j,j+1=k:=⟨k-1,by omega⟩;obtain⟨y,hy⟩:∃y,bad[j]?=some y:=⟨bad[j]'(by omega),aX _⟩;have IC:(bad.map aN)[j]?=some (.i y):=by rw[bR,hy];rfl
   have pV:IntKind.i64.wrap ((k:Int)-1)=(j:Int):=by rw[wrap64 (by omega)];omega
   have HT:decide ((0:Int)<(k:Int))=true:=by simp;omega
   have M3:0<k:=by omega
   have xH:j<bad.length:=by omega
   have Aq:B6 bad k=decide (y<(nn:Int)):=by
    rw[cU,show k-1=j by omega,hy,decide_eq_false hz,Bool.false_or];rfl
   cases e2:decide (y<(nn:Int))
   .have e3:decide ((nn:Int)<=y)=true:=by simp at e2 ⊢;omega
    simp[-decide_eq_true_eq,-decide_eq_false_iff_not,M3,pV,↓IC,e3];refine⟨[],?_⟩;simp[aT,rB];rw[<-hR];exact .inr (.inl ⟨h0,Zf aI (by rw[Aq,e2]),rfl,rfl⟩)
   .have e3:decide ((nn:Int)<=y)=false:=by simp at e2 ⊢;omega
    have aB:=aB (by rw[Aq,e2]);simp[-decide_eq_true_eq,-decide_eq_false_iff_not,M3,pV,↓IC,e3,hw,cO,aP,M6,LA,NH,hle,jN,ZhN];exact⟨_,_,aH,Sub.mk (by simp) (by simp[aY]),aB⟩
 .have he:k=bad.length:=by omega
  subst he;clear hJ;simp[Im,aY];refine⟨[.loc 12 0,.loc 12 1],?_⟩;simp[aT,rB,I7,W4];rw[<-hR];refine .inr (.inr ⟨h0,Zrf hinv,es,kZ,rfl,?_⟩);simp[aY]
end
theorem Zl (l:List Int)(h0:l≠[])(hl:l.length<=1000000):cN prog 40 [.pv (.aE false 1 (l.map aN))] [] (fun r B=>r=.vec (.ret 0) 1 0 l.length/\B=[(.ret 0,.arr 3 1 (l.map aN))]):=by
 refine cB [.loc 7 0] L40 ?_;cases l with
 |nil=>exact absurd rfl h0
 |cons a l=>
  have h1:l.length+1<=1000000:=by simpa using hl
  have hm:(l.map aN).take l.length=l.map aN:=fH (by simp);simp[L40,dH,aP,h1,aT,rB,AS.exp,jV,aL.iW,AV.map,dO,Site.uI,aL.dC,AV.dC,s6]
attribute [simp] oH bB AS.cH AV.cH AV.bB aL.cH AS.tidy AS.i7
theorem ZqJ:aD prog 40 [.aE false 1 []] (.aE false 1 []):=by
 refine cN.j4 ?_;refine cF [.loc 7 0] L40 ?_;simp[L40,dH,x3,aP,bY,B4];exact fun m v h=>AM h
theorem Zqe {X:List Int}{w:Nat}{r:Int}:(X.map aN).set w (.i r)=(X.set w r).map aN:=by rw[List.map_set];rfl
theorem ZfZ {α:Type}{l:List α}{k:Nat}{x:α}{p:α->Bool}(h:l[k]?=some x)(hp:p x=true)(hinv:∀(j:Nat) (y:α),j<k->l[j]?=some y->p y=false):l.findIdx? p=some k:=by
 obtain⟨aI,e⟩:=bZ.1 h;rw[JL];refine⟨aI,by rw[e];exact hp,fun j hj=>?_⟩
 have:=hinv j l[j] hj (aX (by omega))
 simp[this]
theorem Zo {α:Type}{l:List α}{p:α->Bool}(hinv:∀(j:Nat) (y:α),j<l.length->l[j]?=some y->p y=false):l.findIdx? p=none:=by
 rw[List.findIdx?_eq_none_iff];intro x hx;obtain⟨j,hj⟩:=iM.1 hx;exact hinv j x (bZ.1 hj).1 hj
def G3:Option Nat->Int
 |some i=>i
 |none=>-1
theorem ZiE {α:Type}{l:List α}{p:α->Bool}{i:Nat}(h:l.findIdx? p=some i):i<l.length/\l.take i=(l.take (i+1)).filter (fun n=>!p n):=by
 obtain⟨h1,h2,h3⟩:=JL.1 h;refine⟨h1,?_⟩;rw[lX,aX h1,H9];have e:(Option.some l[i]).toList.filter (fun n=>!p n)=[]:=by simp[h2]
 rw[e,wW,List.filter_eq_self.2];intro x hx;obtain⟨j,hj⟩:=iM.1 hx;rw[mG]at hj;split at hj
 .rename_i zN;obtain⟨q1,q2⟩:=bZ.1 hj
  have:=h3 j zN
  rw[q2]at this;simpa using this
 .cases hj
theorem Zf1 {α:Type}{l:List α}{p:α->Bool}(h:l.findIdx? p=none):l.filter (fun n=>!p n)=l:=by
 rw[List.filter_eq_self];intro x hx
 have:=List.findIdx?_eq_none_iff.1 h x hx
 simp[this]
def eR (hs:List (PV×PV))(m:Nat):List aL:=[.cells [.mp (.par (m+1))],.map hs]
theorem LJ (H:Int->Bool)(hs:List (PV×PV))(hH:mY H hs)(n:Int)(_:True):cN prog 60 [.pv (.i n),.ptr (.par 0) 0] (laid 0 (eR hs 0)) (fun r B=>r=.pv (.bool (!H n))/\B=laid 0 (eR hs 0)):=by
 have hf:=hH.f n;have hk:=hH.k;refine cB [.par 0,.par 1] L60 ?_;simp[L60,eR,laid,hf,hk]
theorem ixH (H:Int->Bool)(hs:List (PV×PV))(hH:mY H hs)(l:List Int)(hl:l.length<=1000)(gA:∀n∈l,True):
  cN prog 99 [.vec (.par 0) 1 0 l.length,(.fn 60 [] [.ptr (.par 1) 0])] (laid 0 (.arr 3 1 (l.map aN)::eR hs 1)) (fun x B=>x=.pv (.i (G3 (l.findIdx? (fun n=>!H n))))/\B=laid 0 (.arr 3 1 (l.map aN)::eR hs 1)):=by
 refine O2 [.par 0,.par 1,.par 2] L99 ?_;intro R hR;simp[L99,eR,laid];refine dY (fun n τ=>∃k:Nat,k<=l.length/\n=l.length-k/\(∀(j:Nat) (y:Int),j<k->l[j]?=some y->(fun n=>!H n) y=false)/\τ=⟨[(0,.vec (.par 0) 1 0 l.length),(1,(.fn 60 [] [.ptr (.par 1) 0])),(7,.pv (.i l.length)),(8,.pv (.i k))],laid 0 (.arr 3 1 (l.map aN)::eR hs 1)⟩)
  ⟨l.length,⟨[(0,.vec (.par 0) 1 0 l.length),(1,(.fn 60 [] [.ptr (.par 1) 0])),(7,.pv (.i l.length)),(8,.pv (.i 0))],laid 0 (.arr 3 1 (l.map aN)::eR hs 1)⟩,Sub.mk (by simp) (by simp[eR,laid]),0,fT _,rfl,(fun j y hj=>by omega),rfl⟩ ?_
 rintro J hJ n τ ⟨k,hk,rfl,hinv,rfl⟩;by_cases aI:k<l.length
 .obtain⟨r,hx⟩:∃x,l[k]?=some x:=⟨l[k],aX aI⟩;have hg:(l.map aN)[k]?=some (.i r):=by rw[bR,hx];rfl
  have hw:=bA (k:=k) (by omega);have aH:l.length-(k+1)<l.length-k:=by omega
  have hC:=LJ H hs hH r (gA r (dL hx));have eK:(fun n=>!H n) r=false->J (l.length-(k+1)) _:=fun hn=>hJ _ _ ⟨k+1,aI,rfl,(fun j y hj hy=>by
   rcases Nat.lt_succ_iff_lt_or_eq.1 hj with h|h
   .exact hinv j y h hy
   .subst h;rw[hx]at hy;cases hy;exact hn),rfl⟩
  clear hJ;simp[eR,laid,aI,↓hg,cO];refine cM [.pv (.i r),.ptr (.par 0) 0] (laid 0 (eR hs 0)) 16 [.par 1,.par 2] (by simp[eR,laid]) hC (by simp[eR,laid]) ?_;cases yJ:(fun n=>!H n) r with
  |false=>
   have aB:=eK yJ;have U0:(!H r)=false:=yJ;simp[eR,laid,hw,U0];refine⟨_,_,aH,Sub.mk ?_ ?_,aB⟩
   .simp
   .simp[eR,laid]
  |true=>
   have hf:=ZfZ hx yJ hinv;have U0:(!H r)=true:=yJ;simp[eR,laid,U0];rw[<-hR,hf];simp[eR,laid,G3]
 .have he:k=l.length:=by omega
  subst he;have hf:=Zo hinv;clear hJ;simp[eR,laid];rw[<-hR,hf];simp[eR,laid,G3]
theorem Wi (H:Int->Bool)(hs:List (PV×PV))(hH:mY H hs)(l:List Int)(hl:l.length<=1000)(gA:∀n∈l,True):
  cN prog 59 [.vec (.par 0) 1 0 l.length,(.fn 60 [] [.ptr (.par 1) 0])] (laid 0 (.arr 3 1 (l.map aN)::eR hs 1)) (fun x B=>x=.vec (.par 0) 1 0 (l.filter (fun n=>!(fun n=>!H n) n)).length/\∃X:List Int,X.take (l.filter (fun n=>!(fun n=>!H n) n)).length=l.filter (fun n=>!(fun n=>!H n) n)/\B=laid 0 (.arr 3 1 (X.map aN)::eR hs 1)):=by
 have hC:=ixH H hs hH l hl gA;refine O2 [.par 0,.par 1,.par 2] L59 ?_;intro R hR;simp[L59,eR,laid];refine cM [.vec (.par 0) 1 0 l.length,(.fn 60 [] [.ptr (.par 1) 0])] (laid 0 (.arr 3 1 (l.map aN)::eR hs 1)) 10 [.par 0,.par 1,.par 2] (by simp[eR,laid]) hC (by simp[eR,laid]) ?_;cases hx:l.findIdx? (fun n=>!H n)with
 |none=>
  have qA:=Zf1 hx;simp[eR,laid,G3];rw[<-hR,qA];exact⟨rfl,l,by simp,by simp[eR,laid]⟩
 |some i=>
  obtain⟨hi,PK⟩:=ZiE hx;have pV:=bA (k:=i) (by omega);have M7:¬((i:Int) = -1):=by omega
  clear hC;simp[eR,laid,G3,pV,M7];refine dY (fun n τ=>∃(j:Nat) (X K:List Int),j<=l.length/\n=l.length-j/\X.length=l.length/\K=(l.take j).filter (fun n=>!(fun n=>!H n) n)/\X.take K.length=K/\X.drop j=l.drop j/\K.length<j/\τ=⟨[(0,.vec (.par 0) 1 0 l.length),(1,(.fn 60 [] [.ptr (.par 1) 0])),(5,.pv (.i K.length)),(6,.pv (.i j))],laid 0 (.arr 3 1 (X.map aN)::eR hs 1)⟩)
   ⟨l.length-(i+1),⟨[(0,.vec (.par 0) 1 0 l.length),(1,(.fn 60 [] [.ptr (.par 1) 0])),(5,.pv (.i i)),(6,.pv (.i (i+1:Nat)))],laid 0 (.arr 3 1 (l.map aN)::eR hs 1)⟩,Sub.mk (by simp) (by simp[eR,laid]),i+1,l,l.take i,by omega,rfl,rfl,PK,by simp,rfl,by rw[gI];omega,by rw[gI,Nat.min_eq_left (by omega)]⟩ ?_
  clear hx pV M7 PK;rintro J hJ n τ ⟨j,X,K,hj,rfl,H2,RE,z7,MX,hKj,rfl⟩;by_cases aI:j<l.length
  .obtain⟨r,tC⟩:∃x,l[j]?=some x:=⟨l[j],aX aI⟩;have Cv:X[j]?=some r:=by
    have h1:(X.drop j)[0]?=(l.drop j)[0]?:=by rw[MX]
    rw[mW,mW,Nat.add_zero]at h1;rw[h1];exact tC
   have hg:(X.map aN)[j]?=some (.i r):=by rw[bR,Cv];rfl
   have hw:=bA (k:=j) (by omega);have sL:=bA (k:=K.length) (by omega);have aH:l.length-(j+1)<l.length-j:=by omega
   have hC:=LJ H hs hH r (gA r (dL tC));have r5:X.drop (j+1)=l.drop (j+1):=by
    have:=congrArg List.tail MX
    simpa[List.tail_drop]using this
   have MZ:K.length<X.length:=by omega
   have HN:(l.take (j+1)).filter (fun n=>!(fun n=>!H n) n)=K++(if(!(fun n=>!H n) r)=true then[r]else[]):=by
    rw[lX,tC,H9,<-RE];congr 1;simp only[Option.toList,xL,List.filter_nil]
   have jN:∀Y,Y=X.set K.length r->(fun n=>!H n) r=false->J (l.length-(j+1)) ⟨[(0,.vec (.par 0) 1 0 l.length),(1,(.fn 60 [] [.ptr (.par 1) 0])),(5,.pv (.i (K.length+1:Nat))),(6,.pv (.i (j+1:Nat)))],laid 0 (.arr 3 1 (Y.map aN)::eR hs 1)⟩:=fun Y hY hn=>hJ _ _ ⟨j+1,Y,K++[r],aI,rfl,by rw[hY,List.length_set];exact H2,by rw[HN,if_pos (by simp[hn])],by
    rw[hY,gE];show List.take (K.length+1) _=_;rw[lX,O6 MZ,List.take_set_of_le (fE _),z7];rfl,by rw[hY,List.drop_set_of_lt (by omega)];exact r5,by simp;omega,by simp⟩
   have CQ:(fun n=>!H n) r=true->J (l.length-(j+1)) ⟨[(0,.vec (.par 0) 1 0 l.length),(1,(.fn 60 [] [.ptr (.par 1) 0])),(5,.pv (.i K.length)),(6,.pv (.i (j+1:Nat)))],laid 0 (.arr 3 1 (X.map aN)::eR hs 1)⟩:=fun hn=>hJ _ _ ⟨j+1,X,K,aI,rfl,H2,by rw[HN,if_neg (by simp[hn]),wW],z7,r5,by omega,rfl⟩
   clear hJ;have Da:K.length<l.length:=by omega
   have iO:j<X.length:=by omega
   have Cz:(X.map aN)[K.length]?=some (.i X[K.length]):=by rw[bR,aX MZ];rfl
   have bQ:=Zqe (X:=X) (w:=K.length) (r:=r);simp[eR,laid,aI,↓hg,cO];refine cM [.pv (.i r),.ptr (.par 0) 0] (laid 0 (eR hs 0)) 28 [.par 1,.par 2] (by simp[eR,laid]) hC (by simp[eR,laid]) ?_;cases yJ:(fun n=>!H n) r with
   |false=>
    have aB:=jN _ rfl yJ;have U0:(!H r)=false:=yJ;simp[eR,laid,U0,hw,sL,Da,↓Cz,bQ,cO,aP,setAt];refine⟨_,_,aH,Sub.mk ?_ ?_,aB⟩
    .simp
    .simp[eR,laid]
   |true=>
    have aB:=CQ yJ;have U0:(!H r)=true:=yJ;simp[eR,laid,U0,hw];refine⟨_,_,aH,Sub.mk ?_ ?_,aB⟩
    .simp
    .simp[eR,laid]
  .have he:j=l.length:=by omega
   subst he;rw[nC]at RE;clear hJ;have RF:K.length<=l.length:=by omega
   have IU:K.length+(l.length-K.length)=l.length:=by omega
   have jM:aR (X.map aN) K.length (List.replicate (l.length-K.length) (PV.i 0))=(K++List.replicate (l.length-K.length) 0).map aN:=by
    unfold aR;rw[List.length_replicate,IU,List.drop_eq_nil_of_le (by simp;omega),wW,<-List.map_take,z7,lI,List.map_replicate];rfl
   simp[-aR,eR,laid,aP,RF,IU,H2,jM];rw[<-hR,<-RE];exact⟨rfl,K++List.replicate (l.length-K.length) 0,by simp,by simp[eR,laid]⟩
theorem Dt (hs:List (PV×PV)):cN prog 59 [.pv (.aE false 1 []),(.fn 60 [] [.ptr (.par 0) 0])] (laid 0 (eR hs 0)) (fun x B=>x=.pv (.aE false 1 [])/\B=laid 0 (eR hs 0)):=by
 have hC:cN prog 99 [.pv (.aE false 1 []),(.fn 60 [] [.ptr (.par 0) 0])] (laid 0 (eR hs 0)) (fun x B=>x=.pv (.i (-1))/\B=laid 0 (eR hs 0)):=by
  refine cB [.par 0,.par 1] L99 ?_;simp[L99,eR,laid];refine dY (fun n τ=>n=0/\τ=⟨[(0,.pv (.aE false 1 [])),(1,(.fn 60 [] [.ptr (.par 0) 0])),(7,.pv (.i 0)),(8,.pv (.i 0))],laid 0 (eR hs 0)⟩) ⟨0,⟨[(0,.pv (.aE false 1 [])),(1,(.fn 60 [] [.ptr (.par 0) 0])),(7,.pv (.i 0)),(8,.pv (.i 0))],laid 0 (eR hs 0)⟩,Sub.mk (by simp) (by simp[eR,laid]),rfl,rfl⟩ ?_;rintro J hJ n τ ⟨rfl,rfl⟩;simp[eR,laid]
 refine cB [.par 0,.par 1] L59 ?_;simp[L59,eR,laid];refine cM [.pv (.aE false 1 []),(.fn 60 [] [.ptr (.par 0) 0])] (laid 0 (eR hs 0)) 10 [.par 0,.par 1] (by simp[eR,laid]) hC (by simp[eR,laid]) ?_;simp[eR,laid]
inductive eQ|num (d:Int)|wk (a b c d e:PV)
def eQ.b:eQ->Nat->List aL
 |.num d,_=>[.cells [.pv (.i d)]]
 |.wk a b c d e,m=>[.cells [.ptr (.par (m+1)) 0],.cells [.pv a,.pv b,.pv c,.pv d,.pv e]]
def eQ.s:eQ->List Site
 |.num _=>[.par 1]
 |.wk ..=>[.par 1,.par 2]
theorem ZtR {X:List Ct}{w:Nat}{r:Ct}:(X.map Ct.pv).set w r.pv=(X.set w r).map Ct.pv:=by rw[List.map_set]
def Ii:Ct:=⟨0,0,0,0,0,⟨0,0⟩⟩
theorem ixE {g:FuncId}{q:Ct->Bool}(E:eQ)(hp:∀x:Ct,cN prog g [.pv x.pv,.ptr (.par 0) 0] (laid 0 (E.b 0)) (fun r B=>r=.pv (.bool (q x))/\B=laid 0 (E.b 0)))(l:List Ct)(hl:l.length<=1000):
  cN prog 88 [.vec (.par 0) 7 0 l.length,(.fn g [] [.ptr (.par 1) 0])] (laid 0 (.arr 76 7 (l.map Ct.pv)::E.b 1)) (fun x B=>x=.pv (.i (G3 (l.findIdx? q)))/\B=laid 0 (.arr 76 7 (l.map Ct.pv)::E.b 1)):=by
 obtain⟨d,hE⟩|⟨a,b,c,d,e,hE⟩:(∃d,E=.num d)\/∃a b c d e,E=.wk a b c d e:=by cases E<;>simp
 all_goals
  refine Oq (.par 0::E.s) mixed L88_ok (tG rfl) ?_;generalize hR:(fun(x:AV) (B:List (Site×aL))=>x=.pv (.i (G3 (l.findIdx? q)))/\B=laid 0 (.arr 76 7 (l.map Ct.pv)::E.b 1))=R;simp[L88,hE,eQ.b,eQ.s,laid];refine dY (fun n τ=>∃k:Nat,k<=l.length/\n=l.length-k/\(∀(j:Nat) (y:Ct),j<k->l[j]?=some y->q y=false)/\τ=⟨[(0,.vec (.par 0) 7 0 l.length),(1,(.fn g [] [.ptr (.par 1) 0])),(7,.pv (.i l.length)),(8,.pv (.i k))],laid 0 (.arr 76 7 (l.map Ct.pv)::E.b 1)⟩)
   ⟨l.length,⟨[(0,.vec (.par 0) 7 0 l.length),(1,(.fn g [] [.ptr (.par 1) 0])),(7,.pv (.i l.length)),(8,.pv (.i 0))],laid 0 (.arr 76 7 (l.map Ct.pv)::E.b 1)⟩,Sub.mk (by simp) (by simp[hE,eQ.b,eQ.s,laid]),0,fT _,rfl,(fun j y hj=>by omega),rfl⟩ ?_
  rintro J hJ n τ ⟨k,hk,rfl,hinv,rfl⟩;by_cases aI:k<l.length
  .obtain⟨r,hx⟩:∃x,l[k]?=some x:=⟨l[k],aX aI⟩;have hg:(l.map Ct.pv)[k]?=some r.pv:=by rw[bR,hx];rfl
   simp only[Ct.pv]at hg;have hw:=bA (k:=k) (by omega);have aH:l.length-(k+1)<l.length-k:=by omega
   have hC:=hp r;have eK:q r=false->J (l.length-(k+1)) _:=fun hn=>hJ _ _ ⟨k+1,aI,rfl,(fun j y hj hy=>by
    rcases Nat.lt_succ_iff_lt_or_eq.1 hj with h|h
    .exact hinv j y h hy
    .subst h;rw[hx]at hy;cases hy;exact hn),rfl⟩
   clear hJ;simp[hE,eQ.b,eQ.s,laid,aI,↓hg,cO,aP];refine xM (gF:=[.pv r.pv,.ptr (.par 0) 0]) (B:=laid 0 (E.b 0)) (fs:=[]) (cs:=[.ptr (.par 1) 0]) 16 E.s ?_ (by simp only[hE];rfl) (by simp only[hE];rfl) ?_ ?_ ?_ hC ?_
   ·(try simp only[hE]);rfl
   .simp[hE,eQ.b,eQ.s,laid]
   ·(try simp only[hE]);rfl
   ·(try simp only[hE]);rfl
   rintro r0 B0 ⟨rfl,rfl⟩;refine⟨rfl,by simp[hE,eQ.b,eQ.s,laid],?_⟩;cases yJ:q r with
   |false=>
    have aB:=eK yJ;simp[hE,eQ.b,eQ.s,laid,hw];refine⟨_,_,aH,Sub.mk ?_ ?_,aB⟩
    .simp
    .simp[hE,eQ.b,eQ.s,laid]
   |true=>
    have hf:=ZfZ hx yJ hinv;simp[hE,eQ.b,eQ.s,laid];rw[<-hR,hf];simp[hE,eQ.b,eQ.s,laid,G3]
  .have he:k=l.length:=by omega
   subst he;have hf:=Zo hinv;clear hJ;simp[hE,eQ.b,eQ.s,laid];rw[<-hR,hf];simp[hE,eQ.b,eQ.s,laid,G3]
theorem Ds {g:FuncId}{q:Ct->Bool}(E:eQ)(hp:∀x:Ct,cN prog g [.pv x.pv,.ptr (.par 0) 0] (laid 0 (E.b 0)) (fun r B=>r=.pv (.bool (q x))/\B=laid 0 (E.b 0)))(l:List Ct)(hl:l.length<=1000):
  cN prog 61 [.vec (.par 0) 7 0 l.length,(.fn g [] [.ptr (.par 1) 0])] (laid 0 (.arr 76 7 (l.map Ct.pv)::E.b 1)) (fun x B=>x=.vec (.par 0) 7 0 (l.filter (fun n=>!q n)).length/\∃X:List Ct,X.take (l.filter (fun n=>!q n)).length=l.filter (fun n=>!q n)/\B=laid 0 (.arr 76 7 (X.map Ct.pv)::E.b 1)):=by
 obtain⟨d,hE⟩|⟨a,b,c,d,e,hE⟩:(∃d,E=.num d)\/∃a b c d e,E=.wk a b c d e:=by cases E<;>simp
 all_goals
  have hC:=ixE E hp l hl;refine Oq (.par 0::E.s) mixed L61_ok (tG rfl) ?_;generalize hR:(fun(x:AV) (B:List (Site×aL))=>x=.vec (.par 0) 7 0 (l.filter (fun n=>!q n)).length/\∃X:List Ct,X.take (l.filter (fun n=>!q n)).length=l.filter (fun n=>!q n)/\B=laid 0 (.arr 76 7 (X.map Ct.pv)::E.b 1))=R;simp[L61,hE,eQ.b,eQ.s,laid];refine xM (gF:=[.vec (.par 0) 7 0 l.length,(.fn g [] [.ptr (.par 1) 0])]) (B:=laid 0 (.arr 76 7 (l.map Ct.pv)::E.b 1)) (fs:=[]) (cs:=[]) 10 (.par 0::E.s) ?_ (by simp only[hE];rfl) (by simp only[hE];rfl) ?_ ?_ ?_ hC ?_
  ·(try simp only[hE]);rfl
  .simp[hE,eQ.b,eQ.s,laid]
  ·(try simp only[hE]);rfl
  ·(try simp only[hE]);rfl
  rintro r0 B0 ⟨rfl,rfl⟩;refine⟨rfl,by simp[hE,eQ.b,eQ.s,laid],?_⟩;cases hx:l.findIdx? q with
  |none=>
   have qA:=Zf1 hx;simp[hE,eQ.b,eQ.s,laid,G3];rw[<-hR,qA];exact⟨rfl,l,by simp,by simp[hE,eQ.b,eQ.s,laid]⟩
  |some i=>
   obtain⟨hi,PK⟩:=ZiE hx;have pV:=bA (k:=i) (by omega);have M7:¬((i:Int) = -1):=by omega
   clear hC;simp[hE,eQ.b,eQ.s,laid,G3,pV,M7];refine dY (fun n τ=>∃(j:Nat) (X K:List Ct),j<=l.length/\n=l.length-j/\X.length=l.length/\K=(l.take j).filter (fun n=>!q n)/\X.take K.length=K/\X.drop j=l.drop j/\K.length<j/\τ=⟨[(0,.vec (.par 0) 7 0 l.length),(1,(.fn g [] [.ptr (.par 1) 0])),(5,.pv (.i K.length)),(6,.pv (.i j))],laid 0 (.arr 76 7 (X.map Ct.pv)::E.b 1)⟩)
    ⟨l.length-(i+1),⟨[(0,.vec (.par 0) 7 0 l.length),(1,(.fn g [] [.ptr (.par 1) 0])),(5,.pv (.i i)),(6,.pv (.i (i+1:Nat)))],laid 0 (.arr 76 7 (l.map Ct.pv)::E.b 1)⟩,Sub.mk (by simp) (by simp[hE,eQ.b,eQ.s,laid]),i+1,l,l.take i,by omega,rfl,rfl,PK,by simp,rfl,by rw[gI];omega,by rw[gI,Nat.min_eq_left (by omega)]⟩ ?_
   clear hx pV M7 PK;rintro J hJ n τ ⟨j,X,K,hj,rfl,H2,RE,z7,MX,hKj,rfl⟩;by_cases aI:j<l.length
   .obtain⟨r,tC⟩:∃x,l[j]?=some x:=⟨l[j],aX aI⟩;have Cv:X[j]?=some r:=by
     have h1:(X.drop j)[0]?=(l.drop j)[0]?:=by rw[MX]
     rw[mW,mW,Nat.add_zero]at h1;rw[h1];exact tC
    have hg:(X.map Ct.pv)[j]?=some r.pv:=by rw[bR,Cv];rfl
    simp only[Ct.pv]at hg;have hw:=bA (k:=j) (by omega);have sL:=bA (k:=K.length) (by omega);have aH:l.length-(j+1)<l.length-j:=by omega
    have hC:=hp r;have r5:X.drop (j+1)=l.drop (j+1):=by
     have:=congrArg List.tail MX
     simpa[List.tail_drop]using this
    have MZ:K.length<X.length:=by omega
    have HN:(l.take (j+1)).filter (fun n=>!q n)=K++(if(!q r)=true then[r]else[]):=by
     rw[lX,tC,H9,<-RE];congr 1;simp only[Option.toList,xL,List.filter_nil]
    have jN:∀Y,Y=X.set K.length r->q r=false->J (l.length-(j+1)) ⟨[(0,.vec (.par 0) 7 0 l.length),(1,(.fn g [] [.ptr (.par 1) 0])),(5,.pv (.i (K.length+1:Nat))),(6,.pv (.i (j+1:Nat)))],laid 0 (.arr 76 7 (Y.map Ct.pv)::E.b 1)⟩:=fun Y hY hn=>hJ _ _ ⟨j+1,Y,K++[r],aI,rfl,by rw[hY,List.length_set];exact H2,by rw[HN,if_pos (by simp[hn])],by
     rw[hY,gE];show List.take (K.length+1) _=_;rw[lX,O6 MZ,List.take_set_of_le (fE _),z7];rfl,by rw[hY,List.drop_set_of_lt (by omega)];exact r5,by simp;omega,by simp⟩
    have CQ:q r=true->J (l.length-(j+1)) ⟨[(0,.vec (.par 0) 7 0 l.length),(1,(.fn g [] [.ptr (.par 1) 0])),(5,.pv (.i K.length)),(6,.pv (.i (j+1:Nat)))],laid 0 (.arr 76 7 (X.map Ct.pv)::E.b 1)⟩:=fun hn=>hJ _ _ ⟨j+1,X,K,aI,rfl,H2,by rw[HN,if_neg (by simp[hn]),wW],z7,r5,by omega,rfl⟩
    clear hJ;have Da:K.length<l.length:=by omega
    have iO:j<X.length:=by omega
    have Cz:(X.map Ct.pv)[K.length]?=some X[K.length].pv:=by rw[bR,aX MZ];rfl
    have bQ:=ZtR (X:=X) (w:=K.length) (r:=r);simp[hE,eQ.b,eQ.s,laid,aI,↓hg,cO,aP];refine xM (gF:=[.pv r.pv,.ptr (.par 0) 0]) (B:=laid 0 (E.b 0)) (fs:=[]) (cs:=[.ptr (.par 1) 0]) 28 E.s ?_ (by simp only[hE];rfl) (by simp only[hE];rfl) ?_ ?_ ?_ hC ?_
    ·(try simp only[hE]);rfl
    .simp[hE,eQ.b,eQ.s,laid]
    ·(try simp only[hE]);rfl
    ·(try simp only[hE]);rfl
    rintro r0 B0 ⟨rfl,rfl⟩;refine⟨rfl,by simp[hE,eQ.b,eQ.s,laid],?_⟩;cases yJ:q r with
    |false=>
     have aB:=jN _ rfl yJ;simp[hE,eQ.b,eQ.s,laid,Da,↓Cz,cO,aP,setAt];refine⟨_,_,aH,Sub.mk ?_ ?_,aB⟩
     .simp[hw,sL]
     .simp[hE,eQ.b,eQ.s,laid,Ct.pv]
    |true=>
     have aB:=CQ yJ;simp[hE,eQ.b,eQ.s,laid,hw];refine⟨_,_,aH,Sub.mk ?_ ?_,aB⟩
     .simp
     .simp[hE,eQ.b,eQ.s,laid]
   .have he:j=l.length:=by omega
    subst he;rw[nC]at RE;clear hJ;have RF:K.length<=l.length:=by omega
    have IU:K.length+(l.length-K.length)=l.length:=by omega
    have jM:aR (X.map Ct.pv) K.length (List.replicate (l.length-K.length) Ii.pv)=(K++List.replicate (l.length-K.length) Ii).map Ct.pv:=by
     unfold aR;rw[List.length_replicate,IU,List.drop_eq_nil_of_le (by simp;omega),wW,<-List.map_take,z7,lI,List.map_replicate]
    simp[-aR,hE,eQ.b,eQ.s,laid,aP,RF,IU,H2];rw[<-hR,<-RE];exact⟨rfl,K++List.replicate (l.length-K.length) Ii,by simp,by
     simp[hE,eQ.b,eQ.s,laid];rw[<-List.map_take,z7,IU,List.drop_eq_nil_of_le (by simp;omega)];simp[Ii,Ct.pv]⟩
theorem Zqi (l:List Int)(n:Int)(hl:l.length<=1000000):aD prog 100 [.aE false 1 (l.map iP),.i n] (.i (match l.findIdx? (fun y=>decide (n=y))with|some i=>i|none=>-1)):=by
 refine cS L100 ?_;simp[L100];refine dY (fun m τ=>∃k:Nat,k<=l.length/\m=l.length-k/\(∀(j:Nat) (x:Int),j<k->l[j]?=some x->(fun y=>decide (n=y)) x=false)/\τ=⟨[(0,.pv (.aE false 1 (l.map iP))),(1,.pv (.i n)),(7,.pv (.i l.length)),(8,.pv (.i k))],[]⟩)
  ⟨l.length,_,Sub.mk (by simp) (by simp),0,by omega,rfl,(fun j x hj=>by omega),rfl⟩ ?_
 rintro J hJ m τ ⟨k,hk,rfl,hinv,rfl⟩;by_cases aI:k<l.length
 .obtain⟨z,hz⟩:∃x,l[k]?=some x:=⟨l[k],aX aI⟩;have hg:(l.map iP)[k]?=some (.i z):=by rw[bR,hz];rfl
  have hw:IntKind.i64.wrap ((k:Int)+1)=((k+1:Nat):Int):=by rw[wrap64 (by omega)];omega
  by_cases hb:n=z
  .have hf:l.findIdx? (fun y=>decide (n=y))=some k:=ZfZ hz (by simpa using hb) hinv;simp[aI,↓hg,hb];rw[hb]at hf;rw[hf]
  .simp[aI,↓hg,hb,hw];exact⟨_,_,(by omega:l.length-(k+1)<l.length-k),Sub.mk (by simp) (by simp),hJ _ _ ⟨k+1,by omega,rfl,fun j x hj CM=>by
    rcases Nat.lt_succ_iff_lt_or_eq.1 hj with h|h
    .exact hinv j x h CM
    .subst h;rw[hz]at CM;cases CM;simpa using hb,rfl⟩⟩
 .have he:k=l.length:=by omega
  subst he;have hf:l.findIdx? (fun y=>decide (n=y))=none:=Zo hinv;simp[hf]
theorem ZtS (l:List Int)(n:Int)(hl:l.length<=1000000):aD prog 63 [.aE false 1 (l.map iP),.i n] (.bool (l.contains n)):=by
 refine cS L63 ?_;simp[L63];refine cG [.aE false 1 (l.map iP),.i n] (Zqi l n hl) ?_;cases h:l.findIdx? (fun y=>decide (n=y))with
 |none=>
  rw[List.findIdx?_eq_none_iff]at h;have hn:n∉l:=fun hm=>by have:=h n hm;simp at this
  simp[hn]
 |some i=>
  obtain⟨h1,h2,_⟩:=JL.1 h;have hm:n∈l:=by
   have:n=l[i]:=by simpa using h2
   rw[this];exact zX h1
  have h0:(0:Int)<=(i:Int):=by omega
  simp[hm,h0]
def wR (bad:List Int)(x:Ct):Bool:=bad.contains x.num
theorem YU (a c d e:PV)(bad:List Int)(hb:bad.length<=1000)(x:Ct):cN prog 62 [.pv x.pv,.ptr (.par 0) 0] (laid 0 ((eQ.wk a (.aE false 1 (bad.map iP)) c d e).b 0)) (fun r B=>r=.pv (.bool (wR bad x))/\B=laid 0 ((eQ.wk a (.aE false 1 (bad.map iP)) c d e).b 0)):=by
 have hc:=ZtS bad x.num (by omega);refine cB [.par 0,.par 1] L62 ?_;simp[L62,eQ.b,laid,aO,Ct.pv];refine cG [.aE false 1 (bad.map iP),.i x.num] hc ?_;simp[wR]
theorem Du (a b c d e:PV):cN prog 61 [.pv (.aE false 7 []),(.fn 62 [] [.ptr (.par 0) 0])] (laid 0 ((eQ.wk a b c d e).b 0)) (fun x B=>x=.pv (.aE false 7 [])/\B=laid 0 ((eQ.wk a b c d e).b 0)):=by
 have hC:cN prog 88 [.pv (.aE false 7 []),(.fn 62 [] [.ptr (.par 0) 0])] (laid 0 ((eQ.wk a b c d e).b 0)) (fun x B=>x=.pv (.i (-1))/\B=laid 0 ((eQ.wk a b c d e).b 0)):=by
  refine cB [.par 0,.par 1] L88 ?_;simp[L88,eQ.b,laid,aO];refine dY (fun n τ=>n=0/\τ=⟨[(0,.pv (.aE false 7 [])),(1,(.fn 62 [] [.ptr (.par 0) 0])),(7,.pv (.i 0)),(8,.pv (.i 0))],laid 0 ((eQ.wk a b c d e).b 0)⟩) ⟨0,⟨[(0,.pv (.aE false 7 [])),(1,(.fn 62 [] [.ptr (.par 0) 0])),(7,.pv (.i 0)),(8,.pv (.i 0))],laid 0 ((eQ.wk a b c d e).b 0)⟩,Sub.mk (by simp) (by simp[eQ.b,laid,aO]),rfl,rfl⟩ ?_;rintro J hJ n τ ⟨rfl,rfl⟩;simp[eQ.b,laid,aO]
 refine cB [.par 0,.par 1] L61 ?_;simp[L61,eQ.b,laid,aO];refine cM [.pv (.aE false 7 []),(.fn 62 [] [.ptr (.par 0) 0])] (laid 0 ((eQ.wk a b c d e).b 0)) 10 [.par 0,.par 1] (by simp[eQ.b,laid,aO]) hC (by simp[eQ.b,laid,aO]) ?_;simp[eQ.b,laid,aO]
def YA:Nat->PV->PV->Bool
 |0,_,_=>false
 |n+1,x,y=>match x,y with
  |.emp _,.aE nn _ l=>!nn&&l.isEmpty
  |.agg a,.agg b=>decide (a.length=b.length)&&(a.zip b).all fun p=>YA n p.1 p.2
  |.bM a,.bM b=>decide (a.length=b.length)&&(a.zip b).all fun p=>YA n p.1 p.2
  |.aE nn k a,.aE nn' k' b=>decide (nn=nn')&&decide (k=k')&&decide (a.length=b.length)&&(b.all fun c=>decide (c.cells.length=k))&&(a.zip b).all fun p=>(p.1.cells.zip p.2.cells).all fun p=>YA n p.1 p.2
  |x,y=>PV.beq x y
theorem Mg {α:Type}{a b:List α}{j:Nat}{x y:α}(h1:a[j]?=some x)(h2:b[j]?=some y):(x,y)∈a.zip b:=by
 refine iM.2 ⟨j,?_⟩;rw[List.getElem?_zip_eq_some];exact⟨h1,h2⟩
theorem GH:∀(n:Nat) (x y:PV),YA n x y=true->∀(m:Mem) (v:Value),dG m v x->dG m v y
 |0,_,_,h=>by cases h
 |n+1,x,y,h=>by
  intro m v hr;unfold YA at h;split at h
  .rename_i nl nn k l;simp only[dK,Bool.not_eq_true']at h;obtain⟨h1,h2⟩:=h;cases l with
   |nil=>subst h1;exact AM hr
   |cons a l=>cases h2
  .rename_i a b;simp only[dK,decide_eq_true_eq,qZ]at h;exact ZrX h.1 (fun j c c' d h1 h2 hd=>GH n c c' (h.2 _ (Mg h1 h2)) m d hd) hr
  .rename_i a b;simp only[dK,decide_eq_true_eq,qZ]at h;exact Yl h.1 (fun j c c' d h1 h2 hd=>GH n c c' (h.2 _ (Mg h1 h2)) m d hd) hr
  .rename_i nn k a nn' k' b;simp only[dK,decide_eq_true_eq,qZ]at h;obtain⟨⟨⟨⟨rfl,rfl⟩,h1⟩,h2⟩,h3⟩:=h;exact ZuO h1 (fun j c hc=>h2 c (dL hc)) (fun j c c' i d x x' k1 k2 k3 k4 hd=>GH n x x' (h3 _ (Mg k1 k2) _ (Mg k3 k4)) m d hd) hr
  .rename_i x y _ _ _ _;rw[<-PV.beq_eq _ _ h];exact hr
attribute [simp] oH bB AS.cH AV.cH AV.bB aL.cH AS.tidy AS.i7 aM oG nR iT
def qS:List It:=[⟨0,true,⟨0,0⟩⟩,⟨0,true,⟨-2,2⟩⟩,⟨1,false,⟨0,0⟩⟩,⟨1,false,⟨0,0⟩⟩,⟨0,false,⟨0,0⟩⟩,⟨0,false,⟨0,0⟩⟩]
def WJ:PV:=.aE false 1 [.aE false 2 [.agg [.i 10,.i 13]],.aE false 2 []]
theorem Yv:aD prog 64 [] (aS qS):=by
 refine cF [.loc 8 0] L64 ?_;simp[L64,aS,qS,It.pv]
theorem Zev:aD prog 69 [] WJ:=by
 refine cN.j4 ?_;refine cF [.loc 3 0] L69 ?_;simp[L69];exact GH 5 _ _ rfl
theorem Zr7 (l:List Ct)(b c d e:PV):cN prog 204 [.ptr (.par 0) 0] [(.par 0,aO (aK l) b c d e)] (fun r B=>r=.pv (Bk.pv ⟨qS,l⟩)/\B=[(.par 0,aO (aK l) b c d e)]):=by
 refine cB [.par 0] L204 ?_;simp[L204,aO,aK];refine cQ [] [] Yv ?_;simp[Bk.pv,aK,aS]
theorem Zni (l:List PV)(a b c d:PV):cN prog 32 [.ptr (.par 0) 0] [(.par 0,aO a b c d (.aE false 3 l))] (fun r B=>r=.pv (.agg [WJ,.aE false 3 l])/\B=[(.par 0,aO a b c d (.aE false 3 l))]):=by
 refine cB [.par 0] L32 ?_;simp[L32,aO];refine cQ [] [] Zev ?_;simp[WJ]
section
attribute [local simp] ZaR I7 AO W4
end
section
theorem Zju {b:Bk}(hb:b.ok){bad:List Int}:b.nums.filter (fun n=>(b.held bad).contains n)=b.held bad:=by
 refine Yu (TI.filter _) (ZcR 1000).1 (fun x=>?_);rw[iY,jF];exact⟨fun h=>h.2,fun h=>⟨Fk hb h,h⟩⟩
attribute [local irreducible] Bk.held Bk.nums
def Bk.NP (b:Bk)(bad:List Int):List Int×Int:=if b.fault=0 then(if V3 bad=true then(b.held bad,0)else([],2))else([],b.fault)
def K2 (x:List Int×Int):PV:=.bM [.aE false 1 (x.1.map aN),.i x.2]
theorem WM {e:Int}{l:List Int×Int}(h:l=([],e)):∀m v,dG m v (.bM [.emp (some true),.i e])->dG m v (K2 l):=by
 subst h;intro m v hv;refine Yl (cs:=[.emp (some true),.i e]) (iK:=[.aE false 1 [],.i e]) rfl ?_ hv;intro j c c' d h1 h2 hr
 match j with
 |0=>simp at h1 h2;subst h1 h2;exact AM hr
 |1=>simp at h1 h2;subst h1 h2;exact hr
 |j+2=>simp at h1
attribute [simp] ZaR I7 AO W4 ZaS
theorem Zvk (b:Bk)(hi:b.items.length<=1000)(hc:b.aA.length<=1000)(bad:List Int)(xJ:bad.length<=1000):cN prog 28 [.pv b.pv,.pv (.aE false 1 (bad.map aN))] [] (fun r B=>r=.pv (K2 (b.NP bad))/\B=[]):=by
 have hr:=Zmh b hi hc bad xJ;refine cN.j4 ?_;refine O1 [.loc 24 0] L28 ?_;intro R hR;simp[L28,Bk.pv];refine cL [.pv b.pv,.pv (.aE false 1 (bad.map aN))] [] 12 [] rfl hr ?_
 rintro r0 B0 (⟨h0,rfl,rfl⟩|⟨h0,h1,rfl,rfl⟩|⟨h0,h1,es,kZ,rfl,rfl⟩)
 .refine⟨rfl,by simp,?_⟩;have hd:decide (b.fault=0)=false:=by simpa using h0
  simp[-decide_eq_true_eq,-decide_eq_false_iff_not,hd];rw[<-hR];exact⟨_,rfl,rfl,WM (by unfold Bk.NP;rw[if_neg h0])⟩
 .refine⟨rfl,by simp,?_⟩;simp;rw[<-hR];exact⟨_,rfl,rfl,WM (by unfold Bk.NP;rw[if_pos h0,if_neg (by simp[h1])])⟩
 have hb:b.ok:=Bk.V7.1 h0;have hM:b.NP bad=(b.held bad,0):=by unfold Bk.NP;rw[if_pos h0,if_pos h1]
 refine⟨rfl,by simp[aY],?_⟩;simp[aY];refine cM [.ptr (.par 0) 0] (laid 0 (kG b bad es)) 19 [.loc 12 0,.loc 12 1] (by simp[laid,kG,aY]) (Ye b hb bad es kZ) (by simp[laid,kG,aY]) ?_;have hH:=TD hb bad;have hf:=Zju hb (bad:=bad);generalize kL b bad b.nums.length=hs at *;simp[laid,kG,aY];by_cases hn:b.nums=[]
 .have Uh:b.held bad=[]:=by rw[<-hf,hn];rfl
  rw[hn];simp only[List.map_nil];refine .inl (cQ [] [.aE false 1 []] ZqJ ?_);simp[aM];refine cM [.pv (.aE false 1 []),.fn 60 [] [.ptr (.par 0) 0]] (laid 0 (eR hs 0)) 26 [.loc 8 0,.loc 19 0] (by simp[laid,eR]) (Dt hs) (by simp[laid,eR]) ?_;simp[laid,eR];rw[<-hR,hM,Uh];exact⟨_,rfl,rfl,fun m v h=>h⟩
 .have hl:=WX (b:=b);refine cM [.pv (.aE false 1 (b.nums.map aN))] [] 24 [] rfl (Zl b.nums hn (by omega)) (by simp) ?_;simp;refine cL [.vec (.par 0) 1 0 b.nums.length,.fn 60 [] [.ptr (.par 1) 0]] (laid 0 (.arr 3 1 (b.nums.map aN)::eR hs 1)) 26 [.loc 24 0,.loc 8 0,.loc 19 0] (by simp[laid,eR]) (Wi _ hs hH b.nums hl (fun _ _=>trivial)) ?_
  rintro r0 B0 ⟨rfl,X,hX,rfl⟩;have CT:(b.nums.filter fun n=>!(fun n=>!(b.held bad).contains n) n)=b.held bad:=by
   refine Eq.trans (List.filter_congr fun n _=>?_) hf;exact Bool.not_not _
  rw[CT]at hX;simp only[CT];refine⟨rfl,by simp[laid,eR],?_⟩;have VH:(X.map aN).take (b.held bad).length=(b.held bad).map aN:=by rw[<-List.map_take,hX]
  have H2:(b.held bad).length<=X.length:=by
   have:=congrArg List.length hX
   rw[gI]at this;omega
  simp[laid,eR,VH,H2];rw[<-hR,hM];exact⟨_,rfl,rfl,fun m v h=>h⟩
end
section
attribute [local irreducible] Bk.held Bk.nums
theorem Fs {b:Bk}(hb:b.ok):∀n∈b.nums,1<=n/\n<=999:=fun n hn=>by
 obtain⟨c,hc,rfl⟩:=(x4 hb).1 hn
 have:=wY hb hc
 omega
end
section
attribute [local irreducible] Bk.held Bk.nums
theorem Eb:yZ prog (pE P4) L89.code:=Fw L89_ok L89_tab
noncomputable def O3 (b:Bk)(bad:List Int)(es hs:List (PV×PV))(is:Bool):List aL:=[.loop (fX prog 89 0) [49] 61 [(11,.ptr (.par 2) 0),(12,.ptr (.par 1) 0)] none,
 .cells [.pv (.bool is)],.cells [.mp (.par 3)],.map hs,iA (.par 5),.cells (aY b (.par 6) (gB bad)),.map es]
noncomputable def V2 (b:Bk)(bad:List Int)(es hs:List (PV×PV))(H:Int->Bool)(hH:mY H hs):Cons prog where
 m:=7
 S:=Bool
 X:=O3 b bad es hs
 step is x:=(is||H (numOf x),true)
 good x:=∃c:Ct,x=c.pv
 live _:=True
 m0:=by omega
 len _:=rfl
 cl c:=by
  intro bx hb;simp only[O3,jQ,List.not_mem_nil,or_false]at hb;rcases hb with rfl|rfl|rfl|rfl|rfl|rfl|rfl
  .rfl
  .rfl
  .rfl
  .rfl
  .rfl
  .simp[aY,Site.lt,I7]
  .rfl
 goes _ _ _ _ _:=trivial
 sH c x hc hx:=by
  obtain⟨y,rfl⟩:=hx;have oO:yZ prog (pE P4) (.vF 61 (.t 48) (fX prog 89 0) Y89_0a Y89_0b [49]):=Eb.2.2.2.2.2.2.1.2;have hf:=hH.f y.num;have hk:=hH.k;refine XS mixed oO.1 oO.2.1 rfl rfl (by simp) rfl ?_;cases c
  all_goals
   simp[-getElem?_pos,Y89_0a,Y89_0b,O3,laid,qH,Ct.pv,hk,hf,numOf,iA,aY,AO];exact⟨[],[.par 1,.par 2,.par 3,.par 4,.par 5,.par 6],rfl,rfl,by simp[bB,I7],rfl,by simp[bB,W4]⟩
theorem Zlt {b:Bk}{bad:List Int}{es hs:List (PV×PV)}{H:Int->Bool}{hH:mY H hs}:∀(l:List Ct) (c:Bool),(V2 b bad es hs H hH).run c (lU l)=(c||l.any (fun o=>H o.num),true)
 |[],c=>by
  show(c,true)=_;simp
 |x::l,c=>by
  show(V2 b bad es hs H hH).run (c||H x.num) (lU l)=_;rw[Zlt l,List.any_cons,Bool.or_assoc]
def Bk.rA (b:Bk)(item day:Int):Bool:=(b.item item).gZ||(b.qU item day 1000).any fun o=>(b.held []).contains o.num
def Bk.uW (b:Bk)(item day:Int):Int:=if b.fault=0 then(if(b.uJ item&&jC day 0 1000)=true then(if b.rA item day=true then 0 else 10)else 2)else b.fault
def Ei (b:Bk)(item day:Int)(r:AV)(B:List (Site×aL)):Prop:=
 (b.uW item day≠0/\r=.pv (.bM [.eU,.cR,.i (b.uW item day)])/\B=[])\/
 (b.uW item day=0/\b.fault=0/\b.uJ item=true/\jC day 0 1000=true/\b.rA item day=true/\∃es,xD b es/\r=.bM [.ptr (.ret 0) 0,.mp (.ret 2),.pv (.i 0)]/\B=[(.ret 0,.cells (aY b (.ret 1) (gB []))),(.ret 1,.map es),(.ret 2,.map (kL b [] b.nums.length))])
theorem ZoT (b:Bk)(hi:b.items.length<=1000)(hc:b.aA.length<=1000)(item day:Int):cN prog 89 [.pv b.pv,.pv (.i item),.pv (.i day)] [] (Ei b item day):=by
 have hr:=Fe b hi hc;refine cE L89 ?_;generalize hR:Ei b item day=R;have vH:∀e,b.uW item day=e->e≠0->R (.pv (.bM [.eU,.cR,.i e])) []:=fun e h h0=>by
  rw[<-hR];exact .inl ⟨by rw[h];exact h0,by rw[h],rfl⟩
 simp[L89,Bk.pv];refine cL [.pv b.pv] [] 16 [] rfl hr ?_
 rintro r0 B0 (⟨h0,rfl,rfl⟩|⟨h0,es,kZ,rfl,rfl⟩)
 .refine⟨rfl,by simp,?_⟩;have hd:decide (b.fault=0)=false:=by simpa using h0
  have h2:=vH _ (by unfold Bk.uW;rw[if_neg h0]) h0;simp[-decide_eq_true_eq,-decide_eq_false_iff_not,hd,-aT];exact⟨[],by simpa using h2⟩
 have hb:b.ok:=Bk.V7.1 h0;refine⟨rfl,by simp[aY,GD],?_⟩;simp[aY,GD,-aT];refine cG [b.pv,.i item] (Yf b item hi) ?_;cases e1:b.uJ item
 .have h2:=vH 2 (by unfold Bk.uW;rw[if_pos h0,e1];rfl) (by omega);simp[-aT];exact⟨[],by simpa using h2⟩
 simp[-aT];refine cG [.i day] (DG day) ?_;cases e2:jC day 0 1000
 .have h2:=vH 2 (by unfold Bk.uW;rw[if_pos h0,e1,e2];rfl) (by omega);simp[-aT];exact⟨[],by simpa using h2⟩
 simp[-aT];refine cM [.ptr (.par 0) 0] (laid 0 (kG b [] es)) 35 [.loc 16 0,.loc 16 1] (by simp[laid,kG,aY]) (Ye b hb [] es kZ) (by simp[laid,kG,aY]) ?_;have hH:=TD hb [];have Sj:b.rA item day=true->R (.bM [.ptr (.ret 0) 0,.mp (.ret 2),.pv (.i 0)]) [(.ret 0,.cells (aY b (.ret 1) (gB []))),(.ret 1,.map es),(.ret 2,.map (kL b [] b.nums.length))]:=fun h=>by
  rw[<-hR];refine .inr ⟨?_,h0,e1,e2,h,es,kZ,rfl,rfl⟩;unfold Bk.uW;rw[if_pos h0,e1,e2,if_pos (show(true&&true)=true from rfl),if_pos h]
 have Sk:b.rA item day=false->R (.pv (.bM [.eU,.cR,.i 10])) []:=fun h=>by
  refine vH 10 ?_ (by omega);unfold Bk.uW;rw[if_pos h0,e1,e2,if_pos (show(true&&true)=true from rfl),if_neg (by simp[h])]
 generalize kL b [] b.nums.length=hs at *;have hii:0<=item/\item<b.items.length:=by
  unfold Bk.uJ jC at e1;simp only[dK,decide_eq_true_eq]at e1;omega
 obtain⟨si,rfl⟩:∃si:Nat,item=si:=⟨item.toNat,by omega⟩;have M1:si<b.items.length:=by omega
 obtain⟨z,hz⟩:∃z,b.items[si]?=some z:=⟨b.items[si],aX M1⟩;have pX:(b.items.map It.pv)[si]?=some (.agg [.i z.dR,.bool z.gZ,.i z.val.lo,.i z.val.hi]):=by rw[bR,hz];rfl
 have HJ:b.item (si:Int)=z:=by unfold Bk.item;rw[H7,hz];rfl
 have Ka:b.rA si day=(z.gZ||(b.qU si day 1000).any fun o=>(b.held []).contains o.num):=by unfold Bk.rA;rw[HJ]
 have dF:=fun is:Bool=>Zlt (b:=b) (bad:=[]) (es:=es) (hH:=hH) (b.qU si day 1000) is
 have hit:=fun is:Bool=>Fb (V2 b [] es hs _ hH) b hb [] es kZ 4 5 6 (fun c _=>⟨rfl,rfl⟩) (fun c _=>rfl) si day 1000 is trivial (fun z hz=>⟨z,rfl⟩)
 simp only[dF]at hit;generalize hAN:((b.qU si day 1000).any fun n=>(b.held []).contains n.num)=an at *;have QJ:=hit z.gZ;clear hit;simp[laid,kG,aY,aS,↓pX,-aT];refine cM [.ptr (.par 0) 0,.pv (.i si),.pv (.i day),.pv (.i 1000)] (laid 0 (kG b [] es)) 48 [.loc 16 0,.loc 16 1] (by simp[laid,kG,aY,aS]) (BI b [] es si day 1000) (by simp[laid,kG,aY]) ?_;simp[laid,kG,aY,OR,-aT];refine WZ [.loc 61 0,.loc 12 0,.loc 11 0,.loc 35 0,.loc 48 0,.loc 16 0,.loc 16 1] [(11,.ptr (.loc 11 0) 0),(12,.ptr (.loc 12 0) 0)] (gf:=133) (fs:=[]) (cs:=[.ptr (.loc 48 0) 0,.pv (.ref [.i 1000]),.pv (.ref [.i si]),.pv (.ref [.i day])]) ?_ ?_ rfl rfl ?_ ?_ ?_ QJ ?_
 .rfl
 .simp
 .simp[V2,O3,laid,aY,iA]
 .rfl
 .rfl
 rintro r B' ⟨rfl,rfl⟩;refine⟨rfl,?_,?_⟩
 .exact fun p hp=>WT (n:=7) (L:=O3 b [] es hs (z.gZ||an)) (by simp[O3]) ((V2 b [] es hs _ hH).cl (z.gZ||an)) p hp
 refine⟨_,_,_,_,_,rfl,?_⟩;cases Db:(z.gZ||an)
 .rw[Db]at Ka;have h2:=Sk Ka;simp[V2,O3,laid,kX,aY,iA,-aT];exact⟨[],by simpa using h2⟩
 .rw[Db]at Ka;have h2:=Sj Ka;simp[V2,O3,laid,kX,aY,iA,-aT,Db];refine⟨[.loc 16 0,.loc 16 1,.loc 35 0],?_⟩;simpa[aY]using h2
end
section
attribute [local irreducible] Bk.held Bk.nums
def gT (b:Bk)(es hs ss:List (PV×PV)):List aL:=[.cells [.ptr (.par 3) 0,.mp (.par 1),.mp (.par 2)],.map hs,.map ss,.cells (aY b (.par 4) (gB [])),.map es]
theorem ZfU (b:Bk)(es hs ss:List (PV×PV))(H:Int->Bool)(hH:mY H hs)(c:Ct):cN prog 220 [.ptr (.par 0) 0,.pv c.pv] (laid 0 (gT b es hs ss)) (fun r B=>r=.pv (.bool (H c.num))/\B=laid 0 (gT b es hs ss)):=by
 have hf:=hH.f c.num;have hk:=hH.k;refine cB [.par 0,.par 1,.par 2,.par 3,.par 4] L220 ?_;simp[L220,gT,laid,aY,Ct.pv,hf,hk]
theorem Ea:yZ prog (pE P4) L176.code:=Fw L176_ok L176_tab
noncomputable def S5 (b:Bk)(es hs ss:List (PV×PV))(item day:Int)(r:Cr):List aL:=[.loop (fX prog 176 0) [47] 79 [(4,.ptr (.par 2) 0),(5,.ptr (.par 3) 0),(6,.ptr (.par 4) 0),(9,.ptr (.par 5) 0),(10,.ptr (.par 1) 0)] none,
 .cells [.pv (.i r.lo),.pv (.i r.hi)],.cells [.ptr (.par 6) 0],.cells [.pv (.i item)],.cells [.pv (.i day)],.cells [.fn 220 [.ptr (.par 6) 0] []],
 .cells [.ptr (.par 9) 0,.mp (.par 7),.mp (.par 8)],.map hs,.map ss,.cells (aY b (.par 10) (gB [])),.map es,iA (.par 9)]
def JA:PV->Ct
 |.agg [.int _ n,.int _ i,.int _ s,.int _ d,.int _ v,.int _ lo,.int _ hi]=>⟨n,i,s,d,v,⟨lo,hi⟩⟩
 |_=>ct0
theorem Fz (c:Ct):JA c.pv=c:=rfl
def zR:PV:=.agg [.i 0,.i 0]
structure SMap (b:Bk)(S:Int->Cr)(below:Int)(ss:List (PV×PV)):Prop where
 k:zZ kI ss=true
 f:∀c∈b.aA,c.num<below->c.num∈b.held []->(eX (.i c.num) ss).getD zR=(S c.num).pv/\(S c.num).lV 1000000000
def NW (b:Bk)(S:Int->Cr)(item day:Int)(r:Cr)(c:Ct):Cr:=match(b.held []).contains c.num with
 |true=>r.cut ((S c.num).wider ((b.item item).dR*(day-c.day)))
 |false=>r
noncomputable def l8 (b:Bk)(hb:b.ok)(es hs ss:List (PV×PV))(hH:mY (fun n=>(b.held []).contains n) hs)(S:Int->Cr)(si:Nat)(M1:si<b.items.length)(day below:Int)(hd:0<=day/\day<=1000)(hS:SMap b S below ss):Cons prog where
 m:=12
 S:=Cr
 X:=S5 b es hs ss si day
 step r x:=(NW b S si day r (JA x),true)
 good x:=∃c∈b.qU si day below,x=c.pv
 live _:=True
 m0:=by omega
 len _:=rfl
 cl c:=by
  intro bx hb;simp only[S5,jQ,List.not_mem_nil,or_false]at hb;rcases hb with rfl|rfl|rfl|rfl|rfl|rfl|rfl|rfl|rfl|rfl|rfl|rfl
  all_goals first|rfl|simp[aY,Site.lt,I7]
 goes _ _ _ _ _:=trivial
 sH r x hc hx:=by
  obtain⟨y,hy,rfl⟩:=hx;rw[Fz];have oO:yZ prog (pE P4) (.vF 79 (.t 46) (fX prog 176 0) Y176_0a Y176_0b [47]):=Ea.2.2.2.2.1.2;have mS:=ZfU b es hs ss _ hH y;obtain⟨HK,ZT⟩:=(AN hb).1 hy;unfold Bk.pS at ZT;simp only[dK,decide_eq_true_eq]at ZT;have CU:=Xv hb HK ZT.2.2;have jO:=wY hb HK;obtain⟨z,hz⟩:∃z,b.items[si]?=some z:=⟨b.items[si],aX M1⟩;have pX:(b.items.map It.pv)[si]?=some (.agg [.i z.dR,.bool z.gZ,.i z.val.lo,.i z.val.hi]):=by rw[bR,hz];rfl
  have HJ:b.item (si:Int)=z:=by unfold Bk.item;rw[H7,hz];rfl
  rw[ZT.2.1,HJ]at CU;have w1:IntKind.i64.wrap (day-y.day)=day-y.day:=wrap64 (by omega);have w2:IntKind.i64.wrap (z.dR*(day-y.day))=z.dR*(day-y.day):=wrap64 (by omega);have hk:=hS.k;have kC:NW b S si day r y=match(b.held []).contains y.num with
   |true=>r.cut ((S y.num).wider (z.dR*(day-y.day)))
   |false=>r:=by unfold NW;rw[HJ]
  have sN:=fun h:(b.held []).contains y.num=true=>hS.f y HK ZT.1 (jF.1 h)
  rw[kC];obtain⟨far,MO⟩:∃far,z.dR*(day-y.day)=far:=⟨_,rfl⟩;rw[MO]at CU kC;have w2':IntKind.i64.wrap (z.dR*(day-y.day))=far:=w2.trans MO;rw[MO];clear kC w2 MO;generalize CV:(b.held []).contains y.num=v at *;refine XS mixed oO.1 oO.2.1 rfl rfl (by simp) rfl ?_;simp[-getElem?_pos,-List.getElem?_map,Y176_0a,Y176_0b,S5,laid,qH,Ct.pv,iA,aY];refine xM (gF:=[.ptr (.par 0) 0,.pv y.pv]) (B:=laid 0 (gT b es hs ss)) (fs:=[.ptr (.par 6) 0]) (cs:=[]) 50 [.par 6,.par 7,.par 8,.par 9,.par 10] ?_ rfl rfl ?_ ?_ ?_ mS ?_
  .rfl
  .simp[laid,gT,aY]
  .rfl
  .rfl
  rintro r0 B0 ⟨rfl,rfl⟩;refine⟨rfl,by simp[laid,gT,aY],?_⟩;cases v
  .simp[-getElem?_pos,-List.getElem?_map,laid,gT,aY,-aT];exact⟨[],[.par 1,.par 2,.par 3,.par 4,.par 5,.par 6,.par 7,.par 8,.par 9,.par 10,.par 11],rfl,rfl,by simp[bB],rfl,by simp[bB]⟩
  .obtain⟨ET,qV⟩:=sN rfl;unfold Cr.lV at qV;have hwd:=Zr6 (S y.num) far (wrap64 (by omega)) (wrap64 (by omega)) (wrap64 (by omega));have b8:=Dw r ((S y.num).wider far);generalize S y.num=sy at *;unfold zR at ET;unfold Cr.pv at ET;simp[-getElem?_pos,-List.getElem?_map,laid,gT,aY,-aT,hk,ET,aS,pX,w1,w2'];refine cQ [] [sy.pv,.i far] hwd ?_;simp[-getElem?_pos,-List.getElem?_map,aM];refine .inl (cQ [] [r.pv,(sy.wider far).pv] b8 ?_);simp[-getElem?_pos,-List.getElem?_map,aM,Cr.pv];exact⟨[],[.par 1,.par 2,.par 3,.par 4,.par 5,.par 6,.par 7,.par 8,.par 9,.par 10,.par 11],rfl,rfl,by simp[bB],rfl,by simp[bB]⟩
end
section
attribute [local irreducible] Bk.held Bk.nums
theorem Zkd {b:Bk}{hb:b.ok}{es hs ss:List (PV×PV)}{hH:mY (fun n=>(b.held []).contains n) hs}{S:Int->Cr}{si:Nat}{M1:si<b.items.length}{day below:Int}{hd:0<=day/\day<=1000}{hS:SMap b S below ss}:∀(l:List Ct) (r:Cr),(l8 b hb es hs ss hH S si M1 day below hd hS).run r (lU l)=(l.foldl (NW b S si day) r,true)
 |[],r=>rfl
 |x::l,r=>by
  show(l8 b hb es hs ss hH S si M1 day below hd hS).run (NW b S si day r x) (lU l)=_;rw[Zkd l];rfl
theorem Zh1 {b:Bk}{S:Int->Cr}{item day:Int}:∀(l:List Ct) (r:Cr),l.foldl (NW b S item day) r=(l.filter fun c=>(b.held []).contains c.num).foldl (fun r c=>r.cut ((S c.num).wider ((b.item item).dR*(day-c.day)))) r
 |[],r=>rfl
 |c::l,r=>by
  rw[List.foldl_cons,Zh1 l,xL];unfold NW;cases h:(b.held []).contains c.num
  .rfl
  .rfl
theorem Zn9 {b:Bk}(hb:b.ok){S:Int->Cr}{item day below:Int}(h:(b.item item).gZ=false):(b.qU item day below).foldl (NW b S item day) I4=b.kF (b.held []) S item day below:=by
 rw[Zh1,Hu h];refine Zqz (fun c=>?_);rw[iY,iY,AN hb,dK];exact⟨fun⟨⟨h1,h2⟩,h3⟩=>⟨h1,h2,h3⟩,fun⟨h1,h2,h3⟩=>⟨⟨h1,h2⟩,h3⟩⟩
theorem Yn (b:Bk)(hb:b.ok)(es hs ss:List (PV×PV))(kZ:xD b es)(hH:mY (fun n=>(b.held []).contains n) hs)(S:Int->Cr)(si:Nat)(M1:si<b.items.length)(day below:Int)(hd:0<=day/\day<=1000)(hS:SMap b S below ss):
  cN prog 176 [.ptr (.par 0) 0,.pv (.i si),.pv (.i day),.pv (.i below)] (laid 0 (gT b es hs ss)) (fun r B=>r=.pv (b.kF (b.held []) S si day below).pv/\B=laid 0 (gT b es hs ss)):=by
 refine O2 [.par 0,.par 1,.par 2,.par 3,.par 4] L176 ?_;intro R hR;obtain⟨z,hz⟩:∃z,b.items[si]?=some z:=⟨b.items[si],aX M1⟩;have pX:(b.items.map It.pv)[si]?=some (.agg [.i z.dR,.bool z.gZ,.i z.val.lo,.i z.val.hi]):=by rw[bR,hz];rfl
 have HJ:b.item (si:Int)=z:=by unfold Bk.item;rw[H7,hz];rfl
 rcases Bool.eq_false_or_eq_true z.gZ with tS|tS
 .have hv:b.kF (b.held []) S si day below=z.val:=by unfold Bk.kF;rw[HJ,if_pos tS]
  simp[L176,laid,gT,aY,aS,↓pX,tS,-aT];rw[<-hR,hv];simp[laid,gT,aY,aS,Cr.pv]
 have hv:=Zn9 hb (S:=S) (item:=(si:Int)) (day:=day) (below:=below) (by rw[HJ];exact tS);have hit:=Fb (l8 b hb es hs ss hH S si M1 day below hd hS) b hb [] es kZ 11 9 10 (fun c _=>⟨rfl,rfl⟩) (fun c _=>rfl) si day below I4 trivial (fun z hz=>⟨z,hz,rfl⟩);rw[Zkd,hv]at hit;have gS:=(l8 b hb es hs ss hH S si M1 day below hd hS).cl (b.kF (b.held []) S si day below);generalize b.kF (b.held []) S si day below=xC at *;simp[L176,laid,gT,aY,aS,↓pX,tS,-aT];refine .inl (cQ [] [] ZiG ?_);simp[aM,I4,Cr.pv];refine cM [.ptr (.par 0) 0,.pv (.i si),.pv (.i day),.pv (.i below)] (laid 0 (kG b [] es)) 46 [.par 3,.par 4] (by simp[laid,kG,aY,aS]) (BI b [] es si day below) (by simp[laid,kG,aY]) ?_;simp[laid,kG,aY,OR,-aT];refine WZ [.loc 79 0,.loc 10 0,.loc 4 0,.loc 5 0,.loc 6 0,.loc 9 0,.par 0,.par 1,.par 2,.par 3,.par 4,.loc 46 0] [(4,.ptr (.loc 4 0) 0),(5,.ptr (.loc 5 0) 0),(6,.ptr (.loc 6 0) 0),(9,.ptr (.loc 9 0) 0),(10,.ptr (.loc 10 0) 0)] (gf:=133) (fs:=[]) (cs:=[.ptr (.loc 46 0) 0,.pv (.ref [.i below]),.pv (.ref [.i si]),.pv (.ref [.i day])]) ?_ ?_ rfl rfl ?_ ?_ ?_ hit ?_
 .rfl
 .simp
 .simp[l8,S5,laid,aY,iA,I4]
 .rfl
 .rfl
 rintro r B' ⟨rfl,rfl⟩;refine⟨rfl,?_,?_⟩
 .exact fun p hp=>WT (n:=12) (L:=S5 b es hs ss si day xC) (by simp[S5]) gS p hp
 refine⟨_,_,_,_,_,rfl,?_⟩;simp[l8,S5,laid,kX,aY,iA,-aT];trace_state;simp;rw[<-hR];simp[laid,gT,aY,Cr.pv]
end
section
attribute [local irreducible] Bk.held Bk.nums Bk.span
def jR (b:Bk)(k:Nat):List (PV×PV):=nU id (fun n=>(b.span (b.held []) n).pv) ((b.nums.take k).filter fun n=>(b.held []).contains n)
theorem Nb {b:Bk}{k:Nat}{n x:Int}(h:b.nums[k]?=some n):x∈b.nums.take k↔x∈b.nums/\x<n:=by
 obtain⟨h2,e2⟩:=bZ.1 h;have hs:=R0.1 (TI (b:=b));constructor
 .intro hx;obtain⟨i,hi⟩:=iM.1 hx;rw[mG]at hi;split at hi
  .rename_i qM;obtain⟨h1,e1⟩:=bZ.1 hi
   have:=hs i k h1 h2 qM
   rw[e1,e2]at this;exact⟨dL hi,this⟩
  .cases hi
 .rintro⟨hx,aI⟩;obtain⟨i,hi⟩:=iM.1 hx;obtain⟨h1,e1⟩:=bZ.1 hi;rw[iM];refine⟨i,?_⟩;rw[mG,if_pos,hi];rcases Nat.lt_trichotomy i k with qM|qM|qM
  .exact qM
  .subst qM;rw[e1]at e2;omega
  .have:=hs k i h2 h1 qM
   rw[e1,e2]at this;omega
theorem Zpo {b:Bk}(hb:b.ok){k:Nat}{n:Int}(h:b.nums[k]?=some n):SMap b (b.span (b.held [])) n (jR b k):=by
 refine⟨OD,fun c hc aI hx=>?_⟩;unfold jR;rw[KD,Gb,if_pos]
 .refine⟨rfl,?_⟩
  have:=XL hb c hc hx
  have jO:=wY hb hc;unfold Cr.lV at this ⊢;omega
 .rw[iY,Nb h];exact⟨⟨(x4 hb).2 ⟨c,hc,rfl⟩,aI⟩,jF.2 hx⟩
theorem Zfh {b:Bk}(hb:b.ok)(below:Int):SMap b (b.span (b.held [])) below (jR b b.nums.length):=by
 refine⟨OD,fun c hc aI hx=>?_⟩;unfold jR;rw[KD,Gb,if_pos]
 .refine⟨rfl,?_⟩
  have:=XL hb c hc hx
  have jO:=wY hb hc;unfold Cr.lV at this ⊢;omega
 .rw[iY,nC];exact⟨(x4 hb).2 ⟨c,hc,rfl⟩,jF.2 hx⟩
theorem ZmU {b:Bk}{k:Nat}{n:Int}(h:b.nums[k]?=some n)(hx:(b.held []).contains n=false):jR b (k+1)=jR b k:=by
 unfold jR;rw[lX,h,H9]
 have:(Option.some n).toList.filter (fun n=>(b.held []).contains n)=[]:=by
  simp only[Option.toList,xL,hx,List.filter_nil];rfl
 rw[this,wW]
theorem Zpn {b:Bk}{k:Nat}{n:Int}(h:b.nums[k]?=some n)(hx:(b.held []).contains n=true):mN (.i n) (b.span (b.held []) n).pv (jR b k)=jR b (k+1):=by
 unfold jR;rw[Gp (fun x hm=>?_),lX,h,H9]
 .have:(Option.some n).toList.filter (fun n=>(b.held []).contains n)=[n]:=by
   simp only[Option.toList,xL,hx,List.filter_nil];rfl
  rw[this];unfold nU;rw[lI];rfl
 .have:=(Nb h).1 (iY.1 hm).1
  show x≠n;omega
theorem Zkf {b:Bk}(hb:b.ok){n:Int}(hn:n∈b.nums)(hx:(b.held []).contains n=true):b.span (b.held []) n=(b.kF (b.held []) (b.span (b.held [])) (b.get n).src (b.get n).day n).plus (b.get n).diff/\(b.kF (b.held []) (b.span (b.held [])) (b.get n).src (b.get n).day n).lV 2000000000:=by
 have h1:=Fs hb n hn;obtain⟨nn,rfl⟩:∃nn:Nat,n=nn:=⟨n.toNat,by omega⟩;obtain⟨rP,nY⟩:=V9 hb hn;have jO:=wY hb rP;refine⟨?_,?_⟩
 .rw[Ml (by omega),if_pos hx]
 .have Ae:=Zk5 hb rP (bad:=[]) (by rw[nY];exact jF.1 hx);rw[nY]at Ae
  have:=Zx hb (held:=b.held []) (S:=b.span (b.held [])) (day:=(b.get (nn:Int)).day) (below:=(nn:Int)) (A:=1000000000) jO.2.2.2.2.2.1 jO.2.2.2.2.2.2.1 (by omega) (by omega) Ae fun o ho aI PU=>by
   have k1:=XL hb o ho PU;have k2:=wY hb ho;unfold Cr.lV at k1 ⊢;omega
  unfold Cr.lV at this ⊢;omega
def xV (b:Bk)(es hs ss:List (PV×PV)):List aL:=[.cells [.ptr (.par 6) 0],.cells [.ptr (.par 3) 0],.cells [.fn 219 [] [.ptr (.par 0) 0,.ptr (.par 1) 0,.ptr (.par 2) 0]],
 .cells [.ptr (.par 6) 0,.mp (.par 4),.mp (.par 5)],.map hs,.map ss,.cells (aY b (.par 7) (gB [])),.map es]
end
section
attribute [local irreducible] Bk.held Bk.nums Bk.span
def rcJ (b:Bk)(es hs ss:List (PV×PV))(L:List PV)(n:Int)(R:Cr):AS:=⟨[(0,.pv (.aE false 1 L)),(1,.ptr (.par 0) 0),(2,.ptr (.par 1) 0),(3,.ptr (.par 2) 0),(23,.mp (.par 5)),(25,.pv (.i n)),(36,.pv (.agg [.i R.lo,.i R.hi]))],laid 0 (xV b es hs ss)⟩
theorem YP (b:Bk)(hb:b.ok)(es hs:List (PV×PV))(kZ:xD b es)(hH:mY (fun n=>(b.held []).contains n) hs):∀m k,m+k=b.nums.length->
  cN prog 219 [.pv (.aE false 1 ((b.nums.drop k).map aN)),.ptr (.par 0) 0,.ptr (.par 1) 0,.ptr (.par 2) 0] (laid 0 (xV b es hs (jR b k))) (fun r B=>r=.pv (.bM [])/\B=laid 0 (xV b es hs (jR b b.nums.length)))
 |0,k,hk=>by
  have VC:k=b.nums.length:=by omega
  subst VC;rw[List.drop_length];refine cB [.par 0,.par 1,.par 2,.par 3,.par 4,.par 5,.par 6,.par 7] L219 ?_;simp[L219,xV,laid,aY]
 |m+1,k,hk=>by
  have ih:=YP b hb es hs kZ hH m (k+1) (by omega);have aI:k<b.nums.length:=by omega
  obtain⟨n,hn⟩:∃n,b.nums[k]?=some n:=⟨b.nums[k],aX aI⟩;have z6:b.nums.drop k=n::b.nums.drop (k+1):=by
   rw[AF aI]
   have:b.nums[k]=n:=by rw[aX aI]at hn;exact Option.some.inj hn
   rw[this]
  have Au:=dL hn;obtain⟨rP,nY⟩:=V9 hb Au;have jO:=wY hb rP;have mL:=kZ.f n;rw[if_pos Au]at mL;have T9:=kZ.k;have hsk:=ZmU hn;have jM:=Zpn hn;have UQ:=Zkf hb Au;have hSM:=Zpo hb hn;have QF:=hSM.k;have N6:=ZfU b es hs (jR b k) _ hH (b.get n);rw[z6];generalize b.nums.drop (k+1)=rest at *;generalize jR b b.nums.length=SF at *;generalize jR b (k+1)=S2 at *;generalize wJ:jR b k=S1 at *;generalize b.get n=y at *;obtain⟨yn,yi,ys,yd,yv,⟨yl,yh⟩⟩:=y;simp only at nY jO UQ N6;subst nY;unfold Ct.pv at mL;obtain⟨si,rfl⟩:∃si:Nat,ys=si:=⟨ys.toNat,by omega⟩;have M1:si<b.items.length:=by omega
  have K8:=Yn b hb es hs S1 kZ hH (b.span (b.held [])) si M1 yd yn (by omega) hSM;generalize b.kF (b.held []) (b.span (b.held [])) si yd yn=R1 at *;generalize b.span (b.held []) yn=R2 at *;generalize CV:(b.held []).contains yn=v at *;refine O2 [.par 0,.par 1,.par 2,.par 3,.par 4,.par 5,.par 6,.par 7] L219 ?_;intro R hR;have y5:(0:Int)<(rest.length:Int)+1:=by omega
  have hlz:¬((rest.length:Int)+1=0):=by omega
  simp[L219,xV,laid,aY,hlz,T9,mL,-aT,aN];refine cM [.ptr (.par 0) 0,.pv (Ct.pv ⟨yn,yi,si,yd,yv,⟨yl,yh⟩⟩)] (laid 0 (gT b es hs S1)) 19 [.par 3,.par 4,.par 5,.par 6,.par 7] (by simp[laid,gT,aY]) N6 (by simp[laid,gT,aY]) ?_;have oX:1<=rest.length+1:=by omega
  have iH:(rest.map aN).take rest.length=rest.map aN:=fH (by rw[fQ];exact fE _);cases v
  .rw[hsk rfl]at ih;simp[laid,gT,aY,-aT,aP,oX,iH];refine cM [.pv (.aE false 1 (rest.map aN)),.ptr (.par 0) 0,.ptr (.par 1) 0,.ptr (.par 2) 0] (laid 0 (xV b es hs S1)) 40 [.par 0,.par 1,.par 2,.par 3,.par 4,.par 5,.par 6,.par 7] (by simp[laid,xV,aY]) ih (by simp[laid,xV,aY]) ?_;simp[laid,xV,aY];rw[<-hR];simp[laid,xV,aY]
  .obtain⟨hq1,Sr⟩:=UQ rfl;have nH:=jM rfl;unfold Cr.pv at nH;unfold Cr.lV at Sr;have N8:=jO.2.2.2.2.2.2.2.2.2.2.2.2.1;unfold Cr.lV at N8;simp only at N8;have MF:=ZrA R1 ⟨yl,yh⟩ (wrap64 (by simp only;omega)) (wrap64 (by simp only;omega));rw[<-hq1]at MF;simp[laid,gT,aY,-aT];refine FV (rcJ b es hs S1 (aN yn::rest.map aN) yn R2) ?_ ?_
   .simp[gN,gW,-aT]
    repeat' (with_reducible refine And.intro ?_ ?_)
    all_goals
     refine cM [.ptr (.par 0) 0,.pv (.i si),.pv (.i yd),.pv (.i yn)] (laid 0 (gT b es hs S1)) 33 [.par 3,.par 4,.par 5,.par 6,.par 7] (by simp[laid,gT,aY]) K8 (by simp[laid,gT,aY]) ?_;simp[laid,gT,aY,-aT,gN,gW,Cr.pv]
    all_goals
     refine cQ [] [R1.pv,Cr.pv ⟨yl,yh⟩] MF ?_;simp[aM,Cr.pv,-aT]
    all_goals
     refine Sub.mk ?_ ?_
     .simp[aN]
     .simp[laid,xV,aY]
   .simp[gN,gW,rcJ,laid,xV,aY,-aT,QF,aP,oX,iH,nH];refine cM [.pv (.aE false 1 (rest.map aN)),.ptr (.par 0) 0,.ptr (.par 1) 0,.ptr (.par 2) 0] (laid 0 (xV b es hs S2)) 40 [.par 0,.par 1,.par 2,.par 3,.par 4,.par 5,.par 6,.par 7] (by simp[laid,xV,aY]) ih (by simp[laid,xV,aY]) ?_;simp[laid,xV,aY];rw[<-hR];simp[laid,xV,aY]
end
section
attribute [local irreducible] Bk.held Bk.nums Bk.span
def YF (b:Bk)(es hs:List (PV×PV)):AS:=⟨[(1,.ptr (.loc 1 0) 0),(3,.ptr (.loc 3 0) 0),(10,.ptr (.loc 10 0) 0)],
 [(.loc 10 0,.cells [.ptr (.par 0) 0,.mp (.loc 7 0),.mp (.loc 8 0)]),(.loc 7 0,.map hs),(.loc 8 0,.map []),(.loc 3 0,.cells [.pv .eU]),(.loc 1 0,.cells [.ptr (.par 0) 0]),(.par 0,.cells (aY b (.par 1) (gB []))),(.par 1,.map es)]⟩
def GM (b:Bk)(es:List (PV×PV))(r:AV)(B:List (Site×aL)):Prop:=r=.ptr (.ret 0) 0/\B=[(.ret 0,.cells [.ptr (.par 0) 0,.mp (.ret 1),.mp (.ret 2)]),(.ret 1,.map (kL b [] b.nums.length)),(.ret 2,.map (jR b b.nums.length)),(.par 0,.cells (aY b (.par 1) (gB []))),(.par 1,.map es)]
theorem Zt (b:Bk)(hb:b.ok)(es:List (PV×PV))(kZ:xD b es):cN prog 174 [.ptr (.par 0) 0] (laid 0 (kG b [] es)) (GM b es):=by
 have N7:=Ye b hb [] es kZ;have oB:=YP b hb es _ kZ (TD hb []) b.nums.length 0 (by omega);have Ah:jR b 0=[]:=by unfold jR;rw[List.take_zero];rfl
 rw[Ah,List.drop_zero]at oB;refine cB [.loc 10 0,.loc 7 0,.loc 8 0,.par 0,.par 1] L174 ?_;generalize hR:GM b es=R;have hRd:∀r B,R r B↔GM b es r B:=fun r B=>by rw[hR]
 unfold GM at hRd;generalize kL b [] b.nums.length=hs at *;generalize jR b b.nums.length=SF at *;clear hR;simp[L174,laid,kG,aY,-aT];refine FV (YF b es hs) ?_ ?_
 .simp[gN,gW,-aT]
  repeat' (with_reducible refine And.intro ?_ ?_)
  all_goals
   refine cM [.ptr (.par 0) 0] (laid 0 (kG b [] es)) 7 [.par 0,.par 1] (by simp[laid,kG,aY]) N7 (by simp[laid,kG,aY]) ?_;simp[laid,kG,aY,-aT,gN,gW]
  repeat' (with_reducible refine And.intro ?_ ?_)
  all_goals
   refine Sub.mk ?_ ?_
   .simp
   .simp[aY]
 .simp[gN,gW,YF,aY,-aT];refine cM [.pv (.aE false 1 (b.nums.map aN)),.ptr (.par 0) 0,.ptr (.par 1) 0,.ptr (.par 2) 0] (laid 0 (xV b es hs [])) 17 [.loc 1 0,.loc 3 0,.loc 4 0,.loc 10 0,.loc 7 0,.loc 8 0,.par 0,.par 1] (by simp[laid,xV,aY]) oB (by simp[laid,xV,aY]) ?_;simp[laid,xV,aY];rw[hRd];simp[aY]
end
section
attribute [local irreducible] Bk.held Bk.nums Bk.span
def Bk.JR (b:Bk)(n:Int):Bool:=(b.held []).contains n&&decide ((b.kF (b.held []) (b.span (b.held [])) (b.get n).it (b.get n).day 1000).hi<(b.kF (b.held []) (b.span (b.held [])) (b.get n).it (b.get n).day 1000).lo)
theorem ZjH {b:Bk}(hb:b.ok):b.contra=b.nums.any b.JR:=by
 rw[qQ];unfold Bk.contra;rw[oT,oT];constructor
 .rintro⟨c,hc,h⟩;refine⟨c.num,(x4 hb).2 ⟨c,hc,rfl⟩,?_⟩;unfold Bk.JR;rw[u9 hb hc];exact h
 .rintro⟨n,hn,h⟩;obtain⟨h1,h2⟩:=V9 hb hn;refine⟨b.get n,h1,?_⟩;unfold Bk.JR at h;rw[h2];exact h
def DI (b:Bk)(es hs ss:List (PV×PV))(k:Nat):AS:=⟨[(0,.ptr (.par 0) 0),(13,.pv (.aE false 1 (b.nums.map aN))),(14,.pv (.i b.nums.length)),(15,.pv (.i k))],laid 0 (gT b es hs ss)⟩
theorem ZhJ (b:Bk)(hb:b.ok)(es hs ss:List (PV×PV))(kZ:xD b es)(hH:mY (fun n=>(b.held []).contains n) hs)(hS:SMap b (b.span (b.held [])) 1000 ss):
  cN prog 175 [.ptr (.par 0) 0] (laid 0 (gT b es hs ss)) (fun r B=>r=.pv (.bool b.contra)/\B=laid 0 (gT b es hs ss)):=by
 have hlen:=WX (b:=b);rw[ZjH hb];refine O2 [.par 0,.par 1,.par 2,.par 3,.par 4] L175 ?_;intro R hR;simp[L175,laid,gT,aY,-aT];refine dY (fun n τ=>∃k:Nat,k<=b.nums.length/\n=b.nums.length-k/\(∀(j:Nat) (x:Int),j<k->b.nums[j]?=some x->b.JR x=false)/\τ=DI b es hs ss k) ⟨b.nums.length,DI b es hs ss 0,Sub.mk (by simp) (by simp[laid,gT,aY]),0,fT _,rfl,(fun j x hj=>by omega),rfl⟩ ?_;rintro J hJ n τ ⟨k,hk,rfl,hinv,rfl⟩;by_cases aI:k<b.nums.length
 .obtain⟨x,hx⟩:∃x,b.nums[k]?=some x:=⟨b.nums[k],aX aI⟩;have K5:=dL hx;have nX:(b.nums.map aN)[k]?=some (.i x):=by rw[bR,hx];rfl
  have hw:=bA (k:=k) (by omega);have aH:b.nums.length-(k+1)<b.nums.length-k:=by omega
  obtain⟨rP,nY⟩:=V9 hb K5;have jO:=wY hb rP;have mL:=kZ.f x;rw[if_pos K5]at mL;have T9:=kZ.k;have N6:=ZfU b es hs ss _ hH (b.get x);have aB:b.JR x=false->J (b.nums.length-(k+1)) (DI b es hs ss (k+1)):=fun h=>hJ _ _ ⟨k+1,aI,rfl,(fun j y hj hy=>by
   rcases Nat.lt_succ_iff_lt_or_eq.1 hj with h'|h'
   .exact hinv j y h' hy
   .subst h';rw[hx]at hy;cases hy;exact h),rfl⟩
  have oN:b.JR x=true->b.nums.any b.JR=true:=fun h=>oT.2 ⟨x,K5,h⟩
  have Cb:b.JR x=((b.held []).contains x&&decide ((b.kF (b.held []) (b.span (b.held [])) (b.get x).it (b.get x).day 1000).hi<(b.kF (b.held []) (b.span (b.held [])) (b.get x).it (b.get x).day 1000).lo)):=rfl;generalize b.get x=y at *;obtain⟨yn,yi,ys,yd,yv,⟨yl,yh⟩⟩:=y;simp only at nY jO N6 Cb;subst nY;unfold Ct.pv at mL;obtain⟨si,rfl⟩:∃si:Nat,yi=si:=⟨yi.toNat,by omega⟩;have K8:=Yn b hb es hs ss kZ hH (b.span (b.held [])) si (by omega) yd 1000 (by omega) hS;generalize b.kF (b.held []) (b.span (b.held [])) si yd 1000=R1 at *;have jD:decide ((k:Int)<(b.nums.length:Int))=true:=by simp;omega
  simp[-decide_eq_true_eq,-decide_eq_false_iff_not,DI,laid,gT,aY,aI,↓nX,T9,mL,-aT];refine cM [.ptr (.par 0) 0,.pv (.i si),.pv (.i yd),.pv (.i 1000)] (laid 0 (gT b es hs ss)) 33 [.par 0,.par 1,.par 2,.par 3,.par 4] (by simp[laid,gT,aY]) K8 (by simp[laid,gT,aY]) ?_;simp[-decide_eq_true_eq,-decide_eq_false_iff_not,laid,gT,aY,-aT,Cr.pv];refine cM [.ptr (.par 0) 0,.pv (Ct.pv ⟨yn,si,ys,yd,yv,⟨yl,yh⟩⟩)] (laid 0 (gT b es hs ss)) 36 [.par 0,.par 1,.par 2,.par 3,.par 4] (by simp[laid,gT,aY]) N6 (by simp[laid,gT,aY]) ?_;generalize(b.held []).contains yn=v at *;cases v
  .have aB:=aB Cb;simp[-decide_eq_true_eq,-decide_eq_false_iff_not,laid,gT,aY,-aT,hw];exact⟨_,_,aH,Sub.mk (by simp) (by simp[laid,gT,aY]),aB⟩
  .rw[Bool.true_and]at Cb;cases hd:decide (R1.hi<R1.lo)
   .have aB:=aB (by rw[Cb,hd]);simp[-decide_eq_true_eq,-decide_eq_false_iff_not,laid,gT,aY,-aT,hw,hd];exact⟨_,_,aH,Sub.mk (by simp) (by simp[laid,gT,aY]),aB⟩
   .have he:=oN (by rw[Cb,hd]);simp[-decide_eq_true_eq,-decide_eq_false_iff_not,laid,gT,aY,hd];rw[<-hR,he];simp[laid,gT,aY]
 .have he:k=b.nums.length:=by omega
  subst he;clear hJ;have mP:b.nums.any b.JR=false:=by
   rw[List.any_eq_false];intro x hx;obtain⟨j,hj⟩:=iM.1 hx;simp[hinv j x (bZ.1 hj).1 hj]
  simp[DI,laid,gT,aY];rw[<-hR,mP];simp[laid,gT,aY]
end
section
attribute [local irreducible] Bk.held Bk.nums Bk.span
def Bk.uY (b:Bk)(item day:Int):Cr×Int:=if b.uW item day=0 then(if b.contra=true then(⟨0,0⟩,9)else(b.kF (b.held []) (b.span (b.held [])) item day 1000,0))else(⟨0,0⟩,b.uW item day)
def LC (x:Cr×Int):PV:=.bM [x.1.pv,.i x.2]
theorem Zvi (b:Bk)(hi:b.items.length<=1000)(hc:b.aA.length<=1000)(item day:Int):aD prog 137 [b.pv,.i item,.i day] (LC (b.uY item day)):=by
 have QY:=ZoT b hi hc item day;refine V1 L137 ?_;intro R hR;simp[L137,Bk.pv];refine cL [.pv b.pv,.pv (.i item),.pv (.i day)] [] 16 [] rfl QY ?_
 rintro r0 B0 (⟨h0,rfl,rfl⟩|⟨h0,y9,hit,Uo,hih,es,kZ,rfl,rfl⟩)
 .refine⟨rfl,by simp,?_⟩;have hd:decide (b.uW item day=0)=false:=by simpa using h0
  have hM:b.uY item day=(⟨0,0⟩,b.uW item day):=by unfold Bk.uY;rw[if_neg h0]
  simp[-decide_eq_true_eq,-decide_eq_false_iff_not,hd];rw[<-hR,hM];exact⟨rfl,rfl⟩
 have hb:b.ok:=Bk.V7.1 y9;refine⟨rfl,by simp[aY],?_⟩;have jM:=Zt b hb es kZ;have hH:=TD hb [];have hS:=Zfh hb 1000;simp[aY];refine cM [.ptr (.par 0) 0] (laid 0 (kG b [] es)) 25 [.loc 16 0,.loc 16 1] (by simp[laid,kG,aY]) jM (by simp[aY]) ?_;generalize kL b [] b.nums.length=hs at *;generalize jR b b.nums.length=ss at *;have b8:=ZhJ b hb es hs ss kZ hH hS;have hii:0<=item/\item<b.items.length:=by
  unfold Bk.uJ jC at hit;simp only[dK,decide_eq_true_eq]at hit;omega
 have IF:0<=day/\day<=1000:=by
  unfold jC at Uo;simp only[dK,decide_eq_true_eq]at Uo;omega
 obtain⟨si,rfl⟩:∃si:Nat,item=si:=⟨item.toNat,by omega⟩;have K8:=Yn b hb es hs ss kZ hH (b.span (b.held [])) si (by omega) day 1000 IF hS;have hM:b.uY si day=if b.contra=true then(⟨0,0⟩,9)else(b.kF (b.held []) (b.span (b.held [])) si day 1000,0):=by unfold Bk.uY;rw[if_pos h0]
 rw[hM]at hR;generalize b.kF (b.held []) (b.span (b.held [])) si day 1000=R1 at *;simp[aY];refine cM [.ptr (.par 0) 0] (laid 0 (gT b es hs ss)) 27 [.loc 25 0,.loc 25 1,.loc 25 2,.loc 16 0,.loc 16 1] (by simp[laid,gT,aY]) b8 (by simp[laid,gT,aY]) ?_;cases nY:b.contra
 .rw[nY,if_neg (by simp)]at hR;simp[laid,gT,aY];refine cM [.ptr (.par 0) 0,.pv (.i si),.pv (.i day),.pv (.i 1000)] (laid 0 (gT b es hs ss)) 32 [.loc 25 0,.loc 25 1,.loc 25 2,.loc 16 0,.loc 16 1] (by simp[laid,gT,aY]) K8 (by simp[laid,gT,aY]) ?_;simp[laid,gT,aY,Cr.pv];rw[<-hR];exact⟨rfl,rfl⟩
 .rw[nY,if_pos rfl]at hR;simp[laid,gT,aY];rw[<-hR];exact⟨rfl,rfl⟩
end
def lexB:List Int->List Int->Bool
 |a::bU,b::bs=>decide (a<b)||(decide (a=b)&&lexB bU bs)
 |[],_::_=>true
 |_,[]=>false
def sC (a b:List Int):Bool:=decide (a.length<b.length)||(decide (a.length=b.length)&&lexB a b)
theorem ZkX:∀a:List Int,lexB a a=false
 |[]=>rfl
 |a::bU=>by unfold lexB;rw[ZkX bU];simp
theorem ZkW:∀a b:List Int,a.length=b.length->lexB a b=false->lexB b a=false->a=b
 |[],[],_,_,_=>rfl
 |[],_::_,h,_,_=>by cases h
 |_::_,[],h,_,_=>by cases h
 |a::bU,b::bs,h,h1,h2=>by
  unfold lexB at h1 h2;simp only[Bool.or_eq_false_iff,Bool.and_eq_false_iff,decide_eq_false_iff_not]at h1 h2;have e:a=b:=by omega
  subst e;rw[ZkW bU bs (by simpa using h) (by simpa using h1.2) (by simpa using h2.2)]
theorem ZgF:∀a b c:List Int,lexB a b=true->lexB b c=true->lexB a c=true
 |[],[],_,h,_=>by cases h
 |[],b::bs,c,_,h=>by
  cases c with
  |nil=>cases h
  |cons c cs=>rfl
 |a::bU,[],_,h,_=>by cases h
 |a::bU,b::bs,[],_,h=>by cases h
 |a::bU,b::bs,c::cs,h1,h2=>by
  unfold lexB at h1 h2 ⊢;simp only[rR,dK,decide_eq_true_eq]at h1 h2 ⊢;rcases h1 with h1|⟨h1,H4⟩<;>rcases h2 with h2|⟨h2,uA⟩
  .left;omega
  .left;omega
  .left;omega
  .right;exact⟨by omega,ZgF bU bs cs H4 uA⟩
theorem Fx (a:List Int):sC a a=false:=by unfold sC;rw[ZkX];simp
theorem ZnR {a b:List Int}(h1:sC a b=false)(h2:sC b a=false):a=b:=by
 unfold sC at h1 h2;simp only[Bool.or_eq_false_iff,Bool.and_eq_false_iff,decide_eq_false_iff_not]at h1 h2;have e:a.length=b.length:=by omega
 exact ZkW a b e (by rcases h1.2 with h|h;exact absurd e h;exact h) (by rcases h2.2 with h|h;exact absurd e.symm h;exact h)
theorem Zio {a b c:List Int}(h1:sC a b=true)(h2:sC b c=true):sC a c=true:=by
 unfold sC at h1 h2 ⊢;simp only[rR,dK,decide_eq_true_eq]at h1 h2 ⊢;rcases h1 with h1|⟨h1,H4⟩<;>rcases h2 with h2|⟨h2,uA⟩
 .left;omega
 .left;omega
 .left;omega
 .right;exact⟨by omega,ZgF a b c H4 uA⟩
theorem ZkY:∀(a b:List Int) (n:Int),a.length=b.length->lexB (a++[n]) (b++[n])=lexB a b
 |[],[],n,_=>by simp[lexB]
 |[],_::_,_,h=>by cases h
 |_::_,[],_,h=>by cases h
 |a::bU,b::bs,n,h=>by
  show(decide (a<b)||(decide (a=b)&&lexB (bU++[n]) (bs++[n])))=(decide (a<b)||(decide (a=b)&&lexB bU bs));rw[ZkY bU bs n (by simpa using h)]
theorem Ztj (a b:List Int)(n:Int):sC (a++[n]) (b++[n])=sC a b:=by
 unfold sC;rw[gE,gE];by_cases h:a.length=b.length
 .rw[ZkY a b n h,qQ];simp
 .rw[qQ];simp[h]
def iD (o:Option (List Int))(x:List Int):Option (List Int):=match o with
 |none=>some x
 |some m=>if sC x m=true then some x else some m
def lN (l:List (List Int)):Option (List Int):=l.foldl iD none
theorem Zfr:∀(l:List (List Int)) (o:Option (List Int)),(o=none/\l=[]/\l.foldl iD o=none)\/∃m,l.foldl iD o=some m/\(o=some m\/m∈l)/\(∀x∈l,sC x m=false)/\∀x,o=some x->sC x m=false
 |[],none=>.inl ⟨rfl,rfl,rfl⟩
 |[],some x=>.inr ⟨x,rfl,.inl rfl,fun y hy=>(by cases hy),fun y hy=>by cases hy;exact Fx x⟩
 |y::l,o=>by
  rw[List.foldl_cons];have key:∃z,iD o y=some z/\(o=some z\/z=y)/\sC y z=false/\∀x,o=some x->sC x z=false:=by
   cases o with
   |none=>exact⟨y,rfl,.inr rfl,Fx y,fun x hx=>by cases hx⟩
   |some m=>
    unfold iD;simp only;split
    .rename_i h;refine⟨y,rfl,.inr rfl,Fx y,fun x hx=>?_⟩;cases hx;rw[Bool.eq_false_iff];intro h'
     have:=Zio h h'
     rw[Fx]at this;cases this
    .rename_i h;exact⟨m,rfl,.inl rfl,by simpa using h,fun x hx=>by cases hx;exact Fx m⟩
  obtain⟨z,h1,h2,h3,h4⟩:=key;rw[h1];rcases Zfr l (some z)with⟨h,_⟩|⟨m,k1,k2,k3,k4⟩
  .cases h
  .have kz:=k4 z rfl;have lift:∀x,sC x z=false->sC x m=false:=fun x hx=>by
    rw[Bool.eq_false_iff];intro h';by_cases e:sC z x=true
    .have:=Zio e h'
     rw[kz]at this;cases this
    .have:x=z:=ZnR hx (by simpa using e)
     subst this;rw[kz]at h';cases h'
   refine .inr ⟨m,k1,?_,fun x hx=>?_,fun x hx=>lift x (h4 x hx)⟩
   .rcases k2 with k2|k2
    .cases k2;rcases h2 with h2|h2
     .exact .inl h2
     .right;rw[h2];simp
    .right;simp[k2]
   .rcases jQ.1 hx with e|e
    .subst e;exact lift _ h3
    .exact k3 x e
theorem KJ {l:List (List Int)}:lN l=none↔l=[]:=by
 rcases Zfr l none with⟨_,h1,h2⟩|⟨m,h1,h2,_⟩
 .exact⟨fun _=>h1,fun _=>h2⟩
 .constructor
  .intro h;rw[lN,h1]at h;cases h
  .intro h;subst h;rcases h2 with h2|h2
   .cases h2
   .cases h2
theorem OG {l:List (List Int)}{m:List Int}(h:lN l=some m):m∈l/\∀x∈l,sC x m=false:=by
 rcases Zfr l none with⟨_,_,h2⟩|⟨m',h1,h2,h3,_⟩
 .rw[lN,h2]at h;cases h
 .rw[lN,h1]at h;cases h;rcases h2 with h2|h2
  .cases h2
  .exact⟨h2,h3⟩
theorem Lu {l:List (List Int)}{m:List Int}(h1:m∈l)(h2:∀x∈l,sC x m=false):lN l=some m:=by
 cases h:lN l with
 |none=>rw[KJ]at h;subst h;cases h1
 |some m'=>
  obtain⟨k1,k2⟩:=OG h;rw[ZnR (k2 m h1) (h2 m' k1)]
theorem Zin {l l':List (List Int)}(h:∀x,x∈l↔x∈l'):lN l=lN l':=by
 cases hm:lN l with
 |none=>
  rw[KJ]at hm;subst hm;symm;rw[KJ];cases l' with
  |nil=>rfl
  |cons x l'=>exact absurd ((h x).2 (by simp)) (by simp)
 |some m=>
  obtain⟨h1,h2⟩:=OG hm;exact(Lu ((h m).1 h1) fun x hx=>h2 x ((h x).2 hx)).symm
theorem ZgA {α:Type}{L:List α}{f:α->List (List Int)}:lN (L.flatMap f)=lN (L.filterMap fun x=>lN (f x)):=by
 cases hm:lN (L.flatMap f)with
 |none=>
  rw[KJ,List.flatMap_eq_nil_iff]at hm;symm;rw[KJ,List.filterMap_eq_nil_iff];exact fun x hx=>KJ.2 (hm x hx)
 |some m=>
  obtain⟨h1,h2⟩:=OG hm;obtain⟨x,hx,K5⟩:=List.mem_flatMap.1 h1;have e:lN (f x)=some m:=Lu K5 fun y hy=>h2 y (List.mem_flatMap.2 ⟨x,hx,hy⟩)
  refine(Lu (List.mem_filterMap.2 ⟨x,hx,e⟩) fun y hy=>?_).symm;obtain⟨z,hz,hzy⟩:=List.mem_filterMap.1 hy;exact h2 y (List.mem_flatMap.2 ⟨z,hz,(OG hzy).1⟩)
theorem Zp0 {l:List (List Int)}{n:Int}:lN (l.map (·++[n]))=(lN l).map (·++[n]):=by
 cases hm:lN l with
 |none=>rw[KJ]at hm;subst hm;rfl
 |some m=>
  obtain⟨h1,h2⟩:=OG hm;refine Lu (iL.2 ⟨m,h1,rfl⟩) fun x hx=>?_
  obtain⟨y,hy,rfl⟩:=iL.1 hx;rw[Ztj];exact h2 y hy
theorem LQ (x:Int):aD prog 218 [.i x] (.bool false):=by
 refine cS L218 ?_;simp[L218]
def wO (x y:Int):Int:=if x<y then -1 else if y<x then 1 else 0
theorem Ee (x y:Int):aD prog 173 [.i x,.i y] (.i (wO x y)):=by
 refine cS L173 ?_;simp[L173];refine cG [.i x] (LQ x) ?_;simp;refine cG [.i y] (LQ y) ?_;simp;unfold wO;by_cases h1:x<y
 .simp[h1]
 .by_cases h2:y<x
  .simp[h1,h2]
  .simp[h1,h2]
def cmpL:List Int->List Int->Int
 |[],[]=>0
 |[],_::_=>-1
 |_::_,[]=>1
 |a::r,b::t=>if wO a b=0 then cmpL r t else wO a b
theorem Zox {a b:List Int}{k:Nat}{x y:Int}(h1:a[k]?=some x)(h2:b[k]?=some y):cmpL (a.drop k) (b.drop k)=if wO x y=0 then cmpL (a.drop (k+1)) (b.drop (k+1))else wO x y:=by
 obtain⟨q1,e1⟩:=bZ.1 h1;obtain⟨q2,e2⟩:=bZ.1 h2;rw[AF q1,AF q2,e1,e2];rfl
theorem Zot (a b:List Int)(ha:a.length<=2000)(hb:b.length<=2000):aD prog 136 [.aE false 1 (a.map aN),.aE false 1 (b.map aN)] (.i (cmpL a b)):=by
 refine cS L136 ?_;simp[L136];refine dY (fun n τ=>∃k:Nat,k<=a.length/\k<=b.length/\n=a.length-k/\cmpL a b=cmpL (a.drop k) (b.drop k)/\τ=⟨[(0,.pv (.aE false 1 (a.map aN))),(1,.pv (.aE false 1 (b.map aN))),(9,.pv (.aE false 1 (a.map aN))),(10,.pv (.i a.length)),(11,.pv (.i k))],[]⟩)
  ⟨a.length,⟨[(0,.pv (.aE false 1 (a.map aN))),(1,.pv (.aE false 1 (b.map aN))),(9,.pv (.aE false 1 (a.map aN))),(10,.pv (.i a.length)),(11,.pv (.i 0))],[]⟩,Sub.mk (by simp) (by simp),0,fT _,fT _,rfl,rfl,rfl⟩ ?_
 rintro J hJ n τ ⟨k,hk,sD,rfl,hinv,rfl⟩;rw[hinv];by_cases aI:k<a.length
 .obtain⟨x,hx⟩:∃x,a[k]?=some x:=⟨a[k],aX aI⟩;have nX:(a.map aN)[k]?=some (.i x):=by rw[bR,hx];rfl
  have hw:=bA (k:=k) (by omega);have aH:a.length-(k+1)<a.length-k:=by omega
  have jD:decide ((k:Int)<(a.length:Int))=true:=by simp;omega
  by_cases iO:k<b.length
  .obtain⟨y,hy⟩:∃y,b[k]?=some y:=⟨b[k],aX iO⟩;have IC:(b.map aN)[k]?=some (.i y):=by rw[bR,hy];rfl
   have yK:¬b.length<=k:=by omega
   have z6:=Zox hx hy;have mD:=Ee x y;have aB:=fun h:wO x y=0=>hJ _ _ ⟨k+1,aI,iO,rfl,by rw[hinv,z6,if_pos h],rfl⟩
   rw[z6];generalize wO x y=c at *;simp[-decide_eq_true_eq,-decide_eq_false_iff_not,aI,↓nX,yK,↓IC];refine cG [.i x,.i y] mD ?_;cases hc:decide (c=0)
   .have sR:¬c=0:=by simpa using hc
    simp[sR]
   .have sR:c=0:=by simpa using hc
    have aB:=aB sR;simp[sR,hw];exact⟨_,_,aH,Sub.mk (by simp) (by simp),aB⟩
  .have EX:k=b.length:=by omega
   have yK:b.length<=k:=by omega
   have hv:cmpL (a.drop k) (b.drop k)=1:=by
    rw[EX,List.drop_length,AF (by omega)];rfl
   rw[hv];simp[-decide_eq_true_eq,-decide_eq_false_iff_not,aI,↓nX,yK]
 .have he:k=a.length:=by omega
  subst he;clear hJ;rw[List.drop_length];by_cases hl:a.length<b.length
  .have hd:decide ((a.length:Int)<(b.length:Int))=true:=by simp;omega
   have hv:cmpL [] (b.drop a.length) = -1:=by rw[AF hl];rfl
   rw[hv];simp[-decide_eq_true_eq,-decide_eq_false_iff_not,hl]
  .have hd:decide ((a.length:Int)<(b.length:Int))=false:=by simp;omega
   have hv:cmpL [] (b.drop a.length)=0:=by rw[List.drop_eq_nil_of_le (by omega)];rfl
   rw[hv];simp[-decide_eq_true_eq,-decide_eq_false_iff_not,hd,hl]
def JE (a b:List Int):Int:=if(a.length:Int)-b.length=0 then cmpL a b else(a.length:Int)-b.length
theorem Zow:∀a b:List Int,a.length=b.length->decide (cmpL a b<0)=lexB a b
 |[],[],_=>rfl
 |[],_::_,h=>by cases h
 |_::_,[],h=>by cases h
 |a::r,b::t,h=>by
  have ih:=Zow r t (by simpa using h);show decide ((if wO a b=0 then cmpL r t else wO a b)<0)=(decide (a<b)||(decide (a=b)&&lexB r t));unfold wO;by_cases h1:a<b
  .rw[if_pos h1];simp[h1]
  .rw[if_neg h1];by_cases h2:b<a
   .rw[if_pos h2]
    have:¬a=b:=by omega
    simp[h1,this]
   .have e:a=b:=by omega
    rw[if_neg h2,if_pos rfl,ih];simp[e]
theorem ZoJ (a b:List Int):decide (JE a b<0)=sC a b:=by
 unfold JE sC;by_cases h:a.length=b.length
 .rw[if_pos (by omega),Zow a b h];simp[h]
 .rw[if_neg (by omega),qQ];simp[h];omega
theorem Qe (x y:Int):aD prog 135 [.aE false 1 [.i x,.i y]] (.i (if x=0 then y else x)):=by
 refine cS L135 ?_;simp[L135];have S:Nat->AS:=fun k=>⟨[(3,.pv (.i 0)),(6,.pv (.aE false 1 [.i x,.i y])),(7,.pv (.i 2)),(8,.pv (.i k))],[]⟩
 refine dY (fun n τ=>(n=2/\τ=⟨[(3,.pv (.i 0)),(6,.pv (.aE false 1 [.i x,.i y])),(7,.pv (.i 2)),(8,.pv (.i 0))],[]⟩)\/(n=1/\x=0/\τ=⟨[(3,.pv (.i 0)),(6,.pv (.aE false 1 [.i x,.i y])),(7,.pv (.i 2)),(8,.pv (.i 1))],[]⟩)\/(n=0/\x=0/\y=0/\τ=⟨[(3,.pv (.i 0)),(6,.pv (.aE false 1 [.i x,.i y])),(7,.pv (.i 2)),(8,.pv (.i 2))],[]⟩)) ⟨2,_,Sub.mk (by simp) (by simp),.inl ⟨rfl,rfl⟩⟩ ?_;have w1:IntKind.i64.wrap 1=1:=rfl;have w2:IntKind.i64.wrap 2=2:=rfl;rintro J hJ n τ (⟨rfl,rfl⟩|⟨rfl,hx,rfl⟩|⟨rfl,hx,hy,rfl⟩)
 .by_cases h:x=0
  .have aB:=hJ _ _ (.inr (.inl ⟨rfl,h,rfl⟩));clear hJ;subst h;simp[w1];exact⟨_,_,(by omega:1<2),Sub.mk (by simp) (by simp),aB⟩
  .simp[h]
 .subst hx;by_cases h:y=0
  .have aB:=hJ _ _ (.inr (.inr ⟨rfl,rfl,h,rfl⟩));clear hJ;subst h;simp[w2];exact⟨_,_,(by omega:0<1),Sub.mk (by simp) (by simp),aB⟩
  .simp[h]
 .subst hx hy;simp
theorem Zln (a b:List Int)(ha:a.length<=2000)(hb:b.length<=2000):aD prog 92 [.aE false 1 (a.map aN),.aE false 1 (b.map aN)] (.i (JE a b)):=by
 have hc:=Zot a b ha hb;have hw:IntKind.i64.wrap ((a.length:Int)-(b.length:Int))=(a.length:Int)-b.length:=wrap64 (by omega);have ho:=Qe ((a.length:Int)-b.length) (cmpL a b);refine cS L92 ?_;simp[L92,hw];refine cG [.aE false 1 (a.map aN),.aE false 1 (b.map aN)] hc ?_;simp;refine gG (k:=1) (fs:=[]) (xs:=[.aE false 1 [.i ((a.length:Int)-b.length),.i (cmpL a b)]]) (cs:=[]) rfl rfl ho rfl ?_;simp[JE]
section
def Bk.AB (b:Bk)(held:List Int):Nat->Int->List (List Int)
 |0,_=>[]
 |k+1,n=>if n=(k:Int)then(if(b.item (b.get n).src).gZ=true then[[n]]else(held.filter fun m=>yY (b.get n) (b.get m)).flatMap fun m=>(b.AB held k m).map (·++[n]))else b.AB held k n
theorem Nc {b:Bk}{held:List Int}{k:Nat}{n:Int}:b.AB held (k+1) n=if n=(k:Int)then(if(b.item (b.get n).src).gZ=true then[[n]]else(held.filter fun m=>yY (b.get n) (b.get m)).flatMap fun m=>(b.AB held k m).map (·++[n]))else b.AB held k n:=rfl
theorem Zga {b:Bk}{held:List Int}{n:Int}:∀{k:Nat},n<(k:Int)->∀j,b.AB held (k+j) n=b.AB held k n
 |k,h,0=>rfl
 |k,h,j+1=>by
  rw[<-Nat.add_assoc,Nc,if_neg (by omega)];exact Zga h j
def Bk.AJ (b:Bk)(held:List Int)(n:Int):List (List Int):=b.AB held 1000 n
theorem ZiM {b:Bk}(hb:b.ok){held:List Int}(hh:∀m∈held,m∈b.nums){n:Nat}(hn:n<1000)(UX:(n:Int)∈b.nums):b.AJ held n=if(b.item (b.get n).src).gZ=true then[[(n:Int)]]else(held.filter fun m=>yY (b.get n) (b.get m)).flatMap fun m=>(b.AJ held m).map (·++[(n:Int)]):=by
 have e:b.AJ held n=b.AB held (n+1) n:=by
  unfold Bk.AJ;rw[show 1000=n+1+(1000-(n+1)) by omega];exact Zga (by omega) _
 rw[e,Nc,if_pos rfl];split
 .rfl
 .have key:∀L:List Int,(∀m∈L,m<(n:Int))->(L.flatMap fun m=>(b.AB held n m).map (·++[(n:Int)]))=L.flatMap fun m=>(b.AJ held m).map (·++[(n:Int)]):=by
   intro L;induction L with
   |nil=>exact fun _=>rfl
   |cons m L ih=>
    intro h;rw[List.flatMap_cons,List.flatMap_cons,ih fun x hx=>h x (by simp[hx])];congr 2;unfold Bk.AJ;rw[show 1000=n+(1000-n) by omega];exact(Zga (h m (by simp)) _).symm
  refine key _ fun m hm=>?_
  rw[iY]at hm;have h1:=hm.2;unfold yY at h1;simp only[dK,decide_eq_true_eq]at h1;have h2:=(V9 hb (hh m hm.1)).2;have h3:=(V9 hb UX).2;omega
def Bk.DU (b:Bk)(held:List Int)(n:Int):Option (List Int):=lN (b.AJ held n)
theorem Zoj {b:Bk}(hb:b.ok){held:List Int}(hh:∀m∈held,m∈b.nums){n:Nat}(hn:n<1000)(UX:(n:Int)∈b.nums):b.DU held n=if(b.item (b.get n).src).gZ=true then some [(n:Int)]else lN ((held.filter fun m=>yY (b.get n) (b.get m)).filterMap fun m=>(b.DU held m).map (·++[(n:Int)])):=by
 unfold Bk.DU;rw[ZiM hb hh hn UX];split
 .rfl
 .rw[ZgA];congr 2;funext m;exact Zp0
theorem XA {b:Bk}(hb:b.ok){bad:List Int}:∀m∈b.held bad,m∈b.nums:=fun m hm=>by
 obtain⟨c,hc,e,_⟩:=(KI hb).1 hm;exact(x4 hb).2 ⟨c,hc,e⟩
def Bk.Ep (b:Bk)(held:List Int)(item day:Int):Option (List Int):=lN ((held.filter fun m=>decide ((b.get m).it=item)&&(b.get m).on day).flatMap (b.AJ held))
theorem Zq2 {b:Bk}{held:List Int}{item day:Int}:b.Ep held item day=lN ((held.filter fun m=>decide ((b.get m).it=item)&&(b.get m).on day).filterMap (b.DU held)):=by
 unfold Bk.Ep;rw[ZgA];rfl
theorem Zli {b:Bk}{held:List Int}:∀(k:Nat) (n:Int),∀l∈b.AB held k n,∃l',l=l'++[n]
 |0,n,l,h=>by cases h
 |k+1,n,l,h=>by
  rw[Nc]at h;split at h
  .split at h
   .simp at h;exact⟨[],by simpa using h⟩
   .obtain⟨m,_,hm⟩:=List.mem_flatMap.1 h;obtain⟨l',_,rfl⟩:=iL.1 hm;exact⟨l',rfl⟩
  .exact Zli k n l h
theorem ZjP {b:Bk}(hb:b.ok):∀n:Nat,(n:Int)∈b.held []->b.AJ (b.held []) n≠[]:=by
 intro n;induction n using Nat.strongRecOn with
 |_ n ih=>
 intro hx;have UX:=XA hb _ hx;obtain⟨h1,h2⟩:=V9 hb UX;obtain⟨n',yG,h3,h4⟩:=FQ hb h1
 have:n'=n:=by omega
 subst this;rw[ZiM hb (XA hb) h4 UX];split
 .simp
 .rename_i hs;intro e;rw[List.flatMap_eq_nil_iff]at e;obtain⟨c,hc,e1,e2⟩:=(KI hb).1 hx;have hcg:b.get (n':Int)=c:=by rw[<-e1];exact u9 hb hc
  unfold Bk.R4 at e2;rw[dK,rR]at e2;rcases e2.1 with h|h
  .rw[<-hcg]at h;exact hs h
  .rw[oT]at h;obtain⟨o,ho,h5⟩:=h;rw[dK,jF]at h5;obtain⟨m,hm,_,_⟩:=FQ hb ho;have aI:o.num<c.num:=by have:=h5.1;unfold yY at this;simp only[dK,decide_eq_true_eq]at this;exact this.1.2
   have gU:o.num∈(b.held []).filter fun m=>yY (b.get n') (b.get m):=by
    rw[iY,hcg,u9 hb ho];exact⟨h5.2,h5.1⟩
   have:=e o.num gU
   rw[List.map_eq_nil_iff,hm]at this;rw[hm]at h5;exact ih m (by omega) h5.2 this
attribute [local irreducible] Bk.held Bk.nums Bk.span Bk.AJ
theorem Zj {b:Bk}{held:List Int}:∀(k:Nat) (n:Int),∀l∈b.AB held k n,l.length<=k
 |0,n,l,h=>by cases h
 |k+1,n,l,h=>by
  rw[Nc]at h;split at h
  .split at h
   .simp at h;subst h;simp
   .obtain⟨m,_,hm⟩:=List.mem_flatMap.1 h;obtain⟨l',lH,rfl⟩:=iL.1 hm
    have:=Zj k m l' lH
    rw[gE];simp;exact this
  .have:=Zj k n l h;omega
def Bk.uH (b:Bk)(n:Int):List Int:=(b.DU (b.held []) n).getD []
theorem Gt {b:Bk}{n:Int}:(b.uH n).length<=1000:=by
 unfold Bk.uH;cases h:b.DU (b.held []) n with
 |none=>simp
 |some l=>
  unfold Bk.DU at h
  have:=(OG h).1
  unfold Bk.AJ at this;exact Zj 1000 n l this
theorem KC {b:Bk}(hb:b.ok){n:Int}(h:(b.held []).contains n=true):b.DU (b.held []) n=some (b.uH n)/\b.uH n≠[]:=by
 have hx:=jF.1 h;have hn:=Fs hb n (Fk hb hx);obtain⟨nn,rfl⟩:∃nn:Nat,n=nn:=⟨n.toNat,by omega⟩;unfold Bk.uH;cases he:b.DU (b.held []) (nn:Int)with
 |none=>
  unfold Bk.DU at he;rw[KJ]at he;exact absurd he (ZjP hb nn hx)
 |some l=>
  refine⟨rfl,fun e=>?_⟩;unfold Bk.DU at he
  have:=(OG he).1
  unfold Bk.AJ at this;obtain⟨l',lH⟩:=Zli 1000 _ l this;have e':l=[]:=e;rw[e']at lH;simp at lH
structure x7 (b:Bk)(below:Int)(em:List (PV×PV)):Prop where
 k:zZ kI em=true
 f:∀m:Int,m<below->(eX (.i m) em).getD (.emp (some true))=if(b.held []).contains m=true then .aE false 1 ((b.uH m).map aN)else .emp (some true)
theorem Zg (H:Int->Bool)(hs:List (PV×PV))(hH:mY H hs)(c:Ct):cN prog 90 [.pv c.pv,.ptr (.par 0) 0] (laid 0 (eR hs 0)) (fun r B=>r=.pv (.bool (H c.num))/\B=laid 0 (eR hs 0)):=by
 have hf:=hH.f c.num;have hk:=hH.k;refine cB [.par 0,.par 1] L90 ?_;simp[L90,eR,laid,Ct.pv,hf,hk]
theorem ZqH:aD prog 40 [.emp (some true)] (.emp (some true)):=by
 refine cS L40 ?_;simp[L40,dH]
end
section
attribute [local irreducible] Bk.held Bk.nums Bk.span Bk.uH
theorem NI:yZ prog (pE P4) L52.code:=Fw L52_ok L52_tab
def oS:Option (List Int)->PV
 |none=>.emp (some true)
 |some l=>.aE false 1 (l.map aN)
noncomputable def e9 (b:Bk)(es hs em:List (PV×PV))(n:Int)(s:Option (List Int)):List aL:=[.loop (fX prog 52 0) [72] 136 [(11,.ptr (.par 2) 0),(12,.ptr (.par 5) 0),(14,.ptr (.par 7) 0),(16,.ptr (.par 1) 0)] none,
 .cells [.pv (oS s)],.cells [.fn 90 [] [.ptr (.par 3) 0]],.cells [.mp (.par 4)],.map hs,.cells [.mp (.par 6)],.map em,.cells [.pv (.i n)],iA (.par 9),.cells (aY b (.par 10) (gB [])),.map es]
def Fh (b:Bk)(n:Int)(s:Option (List Int))(c:Ct):Option (List Int):=match(b.held []).contains c.num with
 |true=>iD s (b.uH c.num++[n])
 |false=>s
def ZrT (s:Option (List Int)):Prop:=∀l,s=some l->l≠[]/\l.length<=1001
noncomputable def VN (b:Bk)(es hs em:List (PV×PV))(n:Int)(s:Option (List Int))(y:Ct)(a:AV)(B:List (Site×aL)):AS:=⟨[(11,.ptr (.par 2) 0),(12,.ptr (.par 5) 0),(14,.ptr (.par 7) 0),(16,.ptr (.par 1) 0),(17,.ptr (.loc 17 0) 0),(77,a),(79,.vec (.loc 79 0) 1 0 1)],
 (laid 0 (e9 b es hs em n s)).drop 1++((.loc 17 0,.cells [.pv (.i y.num),.pv (.i y.it),.pv (.i y.src),.pv (.i y.day),.pv (.i y.valid),.pv (.i y.diff.lo),.pv (.i y.diff.hi)])::(.loc 79 0,.arr 3 1 [.i n])::B)⟩
noncomputable def NK (b:Bk)(hb:b.ok)(es hs em:List (PV×PV))(hH:mY (fun n=>(b.held []).contains n) hs)(n:Int)(hE:x7 b n em):Cons prog where
 m:=11
 S:=Option (List Int)
 X:=e9 b es hs em n
 step s x:=(Fh b n s (JA x),true)
 good x:=∃c:Ct,c.num<n/\x=c.pv
 live:=ZrT
 m0:=by omega
 len _:=rfl
 cl c:=by
  intro bx hb;simp only[e9,jQ,List.not_mem_nil,or_false]at hb;rcases hb with rfl|rfl|rfl|rfl|rfl|rfl|rfl|rfl|rfl|rfl|rfl
  all_goals first|rfl|simp[aY,Site.lt,I7]
 goes s x hs hx _:=by
  obtain⟨y,hy,rfl⟩:=hx;rw[Fz];have hl:=Gt (b:=b) (n:=y.num);intro l lH;unfold Fh at lH;split at lH
  .unfold iD at lH;split at lH
   .cases lH;exact⟨by simp,by rw[gE];simp;omega⟩
   .split at lH
    .cases lH;exact⟨by simp,by rw[gE];simp;omega⟩
    .exact hs l lH
  .exact hs l lH
 sH s x hc hx:=by
  obtain⟨y,hy,rfl⟩:=hx;rw[Fz];have oO:yZ prog (pE P4) (.vF 136 (.t 71) (fX prog 52 0) Y52_0a Y52_0b [72]):=NI.2.2.2.2.2.1.2.2.2.1.2.2.2.2.1.2;have hf:=hE.f y.num hy;have hk:=hE.k;have mS:=Zg _ hs hH y;have hlen:=Gt (b:=b) (n:=y.num);have M6:=fun h:(b.held []).contains y.num=true=>(KC hb h).2
  have kC:Fh b n s y=match(b.held []).contains y.num with
   |true=>iD s (b.uH y.num++[n])
   |false=>s:=rfl
  rw[kC];clear kC;generalize b.uH y.num=E at *;generalize CV:(b.held []).contains y.num=v at *;refine XS mixed oO.1 oO.2.1 rfl rfl (by simp) rfl ?_;cases v
  .rw[if_neg (by simp)]at hf;simp[-getElem?_pos,-List.getElem?_map,Y52_0a,Y52_0b,e9,laid,qH,Ct.pv,iA,aY,hk,hf];refine FV (VN b es hs em n s y (.pv (.emp (some true))) []) ?_ ?_
   .simp[-getElem?_pos,-List.getElem?_map,gN,gW];refine⟨?_,?_⟩
    all_goals
     refine cQ [] [.emp (some true)] ZqH ?_;simp[-getElem?_pos,-List.getElem?_map,aM,gN,gW];refine Sub.mk ?_ ?_
     .simp
     .simp[e9,laid,iA,aY]
   .simp[-getElem?_pos,-List.getElem?_map,gN,gW,VN,e9,laid,iA,aY,aP];refine cM [.pv y.pv,.ptr (.par 0) 0] (laid 0 (eR hs 0)) 83 [.par 3,.par 4] (by simp[laid,eR]) mS (by simp[laid,eR]) ?_;simp[-getElem?_pos,-List.getElem?_map,laid,eR,-aT];exact⟨[],[.par 1,.par 2,.par 3,.par 4,.par 5,.par 6,.par 7,.par 8,.par 9,.par 10],rfl,rfl,by simp[bB],rfl,by simp[bB]⟩
  .rw[if_pos rfl]at hf;simp[-getElem?_pos,-List.getElem?_map,Y52_0a,Y52_0b,e9,laid,qH,Ct.pv,iA,aY,hk,hf];refine FV (VN b es hs em n s y (.vec (.loc 77 0) 1 0 E.length) [(.loc 77 0,.arr 3 1 (E.map aN))]) ?_ ?_
   .simp[-getElem?_pos,-List.getElem?_map,gN,gW];refine⟨?_,?_⟩
    all_goals
     refine ZqO [] (fs:=[]) (xs:=[.aE false 1 (E.map aN)]) (cs:=[]) rfl rfl (Zl E (M6 rfl) (by omega)) ?_;simp[-getElem?_pos,-List.getElem?_map,aM,gN,gW];refine Sub.mk ?_ ?_
     .simp[VN]
     .simp[VN,e9,laid,iA,aY]
   .have IV:E.length<=999999:=by omega
    have VJ:(E.map aN).take E.length=E.map aN:=fH (by simp);have DD:(E.map aN++[PV.i n]).take (E.length+1)=E.map aN++[PV.i n]:=fH (by simp);simp[-getElem?_pos,-List.getElem?_map,gN,gW,VN,e9,laid,iA,aY,aP,IV];refine cM [.pv y.pv,.ptr (.par 0) 0] (laid 0 (eR hs 0)) 83 [.par 3,.par 4] (by simp[laid,eR]) mS (by simp[laid,eR]) ?_;cases s with
    |none=>
     simp[-getElem?_pos,-List.getElem?_map,laid,eR,oS,dH,-aT];exact⟨[.loc 80 0],[.par 1,.par 2,.par 3,.par 4,.par 5,.par 6,.par 7,.par 8,.par 9,.par 10],rfl,rfl,by simp[bB,AS.cH,AV.cH,AV.bB,aL.cH,FD,eB,DD],rfl,by simp[bB,AS.cH,AV.cH,AV.bB,aL.cH,FD,eB,DD,iD,aN]⟩
    |some l=>
     obtain⟨y5,oX⟩:=hc l rfl;have qL:dH .sl (.pv (.aE false 1 (l.map aN)))=some false:=by
      cases l with
      |nil=>exact absurd rfl y5
      |cons a r=>rfl
     have Ux:=Zln (E++[n]) l (by rw[gE];simp;omega) (by omega);have aI:=ZoJ (E++[n]) l;have bQ:iD (some l) (E++[n])=if sC (E++[n]) l=true then some (E++[n])else some l:=rfl;rw[bQ];simp[-getElem?_pos,-List.getElem?_map,laid,eR,oS,qL,-aT];refine gG (k:=0) (fs:=[]) (xs:=[.aE false 1 ((E++[n]).map aN),.aE false 1 (l.map aN)]) (cs:=[]) rfl (by simp[jI,AV.snap,AV.FL,aN];try exact DD) Ux rfl ?_;cases hd:sC (E++[n]) l
     .rw[hd]at aI;simp[-getElem?_pos,-List.getElem?_map,-decide_eq_true_eq,-decide_eq_false_iff_not,aI,-aT];exact⟨[],[.par 1,.par 2,.par 3,.par 4,.par 5,.par 6,.par 7,.par 8,.par 9,.par 10],rfl,rfl,by simp[bB],rfl,by simp[bB]⟩
     .rw[hd]at aI;simp[-getElem?_pos,-List.getElem?_map,-decide_eq_true_eq,-decide_eq_false_iff_not,aI,-aT];exact⟨[.loc 80 0],[.par 1,.par 2,.par 3,.par 4,.par 5,.par 6,.par 7,.par 8,.par 9,.par 10],rfl,rfl,by simp[bB,AS.cH,AV.cH,AV.bB,aL.cH,FD,eB,DD],rfl,by simp[bB,AS.cH,AV.cH,AV.bB,aL.cH,FD,eB,DD,aN]⟩
end
section
attribute [local irreducible] Bk.held Bk.nums Bk.span Bk.uH
noncomputable def NJ (b:Bk)(es hs em:List (PV×PV))(s:Option (List Int)):List aL:=[.loop (fX prog 52 1) [115] 136 [(11,.ptr (.par 2) 0),(12,.ptr (.par 5) 0),(19,.ptr (.par 1) 0)] none,
 .cells [.pv (oS s)],.cells [.fn 90 [] [.ptr (.par 3) 0]],.cells [.mp (.par 4)],.map hs,.cells [.mp (.par 6)],.map em,iA (.par 8),.cells (aY b (.par 9) (gB [])),.map es]
def Fi (b:Bk)(s:Option (List Int))(c:Ct):Option (List Int):=match(b.held []).contains c.num with
 |true=>iD s (b.uH c.num)
 |false=>s
noncomputable def SA (b:Bk)(hb:b.ok)(es hs em:List (PV×PV))(hH:mY (fun n=>(b.held []).contains n) hs)(hE:x7 b 1000 em):Cons prog where
 m:=10
 S:=Option (List Int)
 X:=NJ b es hs em
 step s x:=(Fi b s (JA x),true)
 good x:=∃c:Ct,c.num<1000/\x=c.pv
 live:=ZrT
 m0:=by omega
 len _:=rfl
 cl c:=by
  intro bx hb;simp only[NJ,jQ,List.not_mem_nil,or_false]at hb;rcases hb with rfl|rfl|rfl|rfl|rfl|rfl|rfl|rfl|rfl|rfl
  all_goals first|rfl|simp[aY,Site.lt,I7]
 goes s x hs hx _:=by
  obtain⟨y,hy,rfl⟩:=hx;rw[Fz];have hl:=Gt (b:=b) (n:=y.num);intro l lH;unfold Fi at lH;split at lH
  .rename_i hh;have cZ:=(KC hb hh).2;unfold iD at lH;split at lH
   .cases lH;exact⟨cZ,by omega⟩
   .split at lH
    .cases lH;exact⟨cZ,by omega⟩
    .exact hs l lH
  .exact hs l lH
 sH s x hc hx:=by
  obtain⟨y,hy,rfl⟩:=hx;rw[Fz];have oO:yZ prog (pE P4) (.vF 136 (.t 114) (fX prog 52 1) Y52_1a Y52_1b [115]):=NI.2.2.2.2.2.2.2.1.2;have hf:=hE.f y.num hy;have hk:=hE.k;have mS:=Zg _ hs hH y;have hlen:=Gt (b:=b) (n:=y.num);have M6:=fun h:(b.held []).contains y.num=true=>(KC hb h).2
  have kC:Fi b s y=match(b.held []).contains y.num with
   |true=>iD s (b.uH y.num)
   |false=>s:=rfl
  rw[kC];clear kC;generalize b.uH y.num=E at *;generalize CV:(b.held []).contains y.num=v at *;refine XS mixed oO.1 oO.2.1 rfl rfl (by simp) rfl ?_;cases v
  .rw[if_neg (by simp)]at hf;simp[-getElem?_pos,-List.getElem?_map,Y52_1a,Y52_1b,NJ,laid,qH,Ct.pv,iA,aY,hk,hf];refine cM [.pv y.pv,.ptr (.par 0) 0] (laid 0 (eR hs 0)) 122 [.par 3,.par 4] (by simp[laid,eR]) mS (by simp[laid,eR]) ?_;simp[-getElem?_pos,-List.getElem?_map,laid,eR,-aT];exact⟨[],[.par 1,.par 2,.par 3,.par 4,.par 5,.par 6,.par 7,.par 8,.par 9],rfl,rfl,by simp[bB],rfl,by simp[bB]⟩
  .rw[if_pos rfl]at hf;simp[-getElem?_pos,-List.getElem?_map,Y52_1a,Y52_1b,NJ,laid,qH,Ct.pv,iA,aY,hk,hf];refine cM [.pv y.pv,.ptr (.par 0) 0] (laid 0 (eR hs 0)) 122 [.par 3,.par 4] (by simp[laid,eR]) mS (by simp[laid,eR]) ?_;cases s with
   |none=>
    simp[-getElem?_pos,-List.getElem?_map,laid,eR,oS,dH,-aT];exact⟨[],[.par 1,.par 2,.par 3,.par 4,.par 5,.par 6,.par 7,.par 8,.par 9],rfl,rfl,by simp[bB],rfl,by simp[bB,iD]⟩
   |some l=>
    obtain⟨y5,oX⟩:=hc l rfl;have qL:dH .sl (.pv (.aE false 1 (l.map aN)))=some false:=by
     cases l with
     |nil=>exact absurd rfl y5
     |cons a r=>rfl
    have Ux:=Zln E l (by omega) (by omega);have aI:=ZoJ E l;have bQ:iD (some l) E=if sC E l=true then some E else some l:=rfl;rw[bQ];simp[-getElem?_pos,-List.getElem?_map,laid,eR,oS,qL,-aT];refine cG [.aE false 1 (E.map aN),.aE false 1 (l.map aN)] Ux ?_;cases hd:sC E l
    .rw[hd]at aI;simp[-getElem?_pos,-List.getElem?_map,-decide_eq_true_eq,-decide_eq_false_iff_not,aI,-aT];exact⟨[],[.par 1,.par 2,.par 3,.par 4,.par 5,.par 6,.par 7,.par 8,.par 9],rfl,rfl,by simp[bB],rfl,by simp[bB]⟩
    .rw[hd]at aI;simp[-getElem?_pos,-List.getElem?_map,-decide_eq_true_eq,-decide_eq_false_iff_not,aI,-aT];exact⟨[],[.par 1,.par 2,.par 3,.par 4,.par 5,.par 6,.par 7,.par 8,.par 9],rfl,rfl,by simp[bB],rfl,by simp[bB,aY,aN]⟩
theorem ZoK {b:Bk}{hb:b.ok}{es hs em:List (PV×PV)}{hH:mY (fun n=>(b.held []).contains n) hs}{n:Int}{hE:x7 b n em}:∀(l:List Ct) (s:Option (List Int)),(NK b hb es hs em hH n hE).run s (lU l)=((((l.filter fun c=>(b.held []).contains c.num).map fun c=>b.uH c.num++[n])).foldl iD s,true)
 |[],s=>rfl
 |x::l,s=>by
  show(NK b hb es hs em hH n hE).run (Fh b n s x) (lU l)=_;rw[ZoK l];unfold Fh;cases h:(b.held []).contains x.num
  .simp only[xL,h,Bool.false_eq_true,if_false];rfl
  .simp only[xL,h,if_true,iQ,List.foldl_cons];rfl
theorem ZoI {b:Bk}{hb:b.ok}{es hs em:List (PV×PV)}{hH:mY (fun n=>(b.held []).contains n) hs}{hE:x7 b 1000 em}:∀(l:List Ct) (s:Option (List Int)),(SA b hb es hs em hH hE).run s (lU l)=((((l.filter fun c=>(b.held []).contains c.num).map fun c=>b.uH c.num)).foldl iD s,true)
 |[],s=>rfl
 |x::l,s=>by
  show(SA b hb es hs em hH hE).run (Fi b s x) (lU l)=_;rw[ZoI l];unfold Fi;cases h:(b.held []).contains x.num
  .simp only[xL,h,Bool.false_eq_true,if_false];rfl
  .simp only[xL,h,if_true,iQ,List.foldl_cons];rfl
end
section
attribute [local irreducible] Bk.held Bk.nums Bk.span Bk.uH
def IZ (b:Bk)(n:Int):PV:=.aE false 1 ((b.uH n).map aN)
def mU (b:Bk)(k:Nat):List (PV×PV):=nU id (IZ b) ((b.nums.take k).filter fun n=>(b.held []).contains n)
theorem Zqw {b:Bk}(hb:b.ok){k:Nat}{n:Int}(h:b.nums[k]?=some n):x7 b n (mU b k):=by
 refine⟨OD,fun m hm=>?_⟩;unfold mU;rw[KD,Gb];cases hc:(b.held []).contains m
 .rw[if_neg (by rw[iY,hc];simp),if_neg (by simp)];rfl
 .rw[if_pos (by
   rw[iY,Nb h];exact⟨⟨Fk hb (jF.1 hc),hm⟩,hc⟩),if_pos rfl];rfl
theorem Zon {b:Bk}(hb:b.ok):x7 b 1000 (mU b b.nums.length):=by
 refine⟨OD,fun m hm=>?_⟩;unfold mU;rw[KD,Gb,nC];cases hc:(b.held []).contains m
 .rw[if_neg (by rw[iY,hc];simp),if_neg (by simp)];rfl
 .rw[if_pos (by
   rw[iY];exact⟨Fk hb (jF.1 hc),hc⟩),if_pos rfl];rfl
theorem Zom {b:Bk}{k:Nat}{n:Int}(h:b.nums[k]?=some n)(hx:(b.held []).contains n=false):mU b (k+1)=mU b k:=by
 unfold mU;rw[lX,h,H9]
 have:(Option.some n).toList.filter (fun n=>(b.held []).contains n)=[]:=by
  simp only[Option.toList,xL,hx,List.filter_nil];rfl
 rw[this,wW]
theorem Zqv {b:Bk}{k:Nat}{n:Int}(h:b.nums[k]?=some n)(hx:(b.held []).contains n=true):mN (.i n) (IZ b n) (mU b k)=mU b (k+1):=by
 unfold mU;rw[Gp (fun x hm=>?_),lX,h,H9]
 .have:(Option.some n).toList.filter (fun n=>(b.held []).contains n)=[n]:=by
   simp only[Option.toList,xL,hx,List.filter_nil];rfl
  rw[this];unfold nU;rw[lI];rfl
 .have:=(Nb h).1 (iY.1 hm).1
  show x≠n;omega
def U9 (b:Bk)(n:Int):Option (List Int):=(((b.qU (b.get n).src (b.get n).day n).filter fun c=>(b.held []).contains c.num).map fun c=>b.uH c.num++[n]).foldl iD none
theorem ZtM {b:Bk}(hb:b.ok){n:Int}(hn:n∈b.nums)(hx:(b.held []).contains n=true)(hs:(b.item (b.get n).src).gZ=false):U9 b n=some (b.uH n):=by
 rw[<-(KC hb hx).1];have IJ:=Fs hb n hn;obtain⟨nn,rfl⟩:∃nn:Nat,n=nn:=⟨n.toNat,by omega⟩;rw[Zoj hb (XA hb) (by omega) hn,if_neg (by simp[hs])];obtain⟨rP,nY⟩:=V9 hb hn;refine Zin fun x=>?_
 rw[iL,List.mem_filterMap];constructor
 .rintro⟨c,hc,rfl⟩;rw[iY]at hc;obtain⟨h1,h2⟩:=(AN hb).1 hc.1;refine⟨c.num,?_,?_⟩
  .rw[iY];refine⟨jF.1 hc.2,?_⟩;rw[u9 hb h1,Na,nY];exact h2
  .rw[(KC hb hc.2).1];rfl
 .rintro⟨m,hm,rL⟩;rw[iY]at hm;obtain⟨G7,mK⟩:=hm;have QB:=XA hb m G7;obtain⟨g1,g2⟩:=V9 hb QB;have Ax:(b.held []).contains m=true:=jF.2 G7;rw[(KC hb Ax).1]at rL;refine⟨b.get m,?_,?_⟩
  .rw[iY,AN hb,g2];refine⟨⟨g1,?_⟩,Ax⟩;rw[Na,nY]at mK;exact mK
  .rw[g2];simpa using rL
theorem Zqt {b:Bk}(hb:b.ok){n:Int}(hn:n∈b.nums)(hs:(b.item (b.get n).src).gZ=true):b.uH n=[n]:=by
 have IJ:=Fs hb n hn;obtain⟨nn,rfl⟩:∃nn:Nat,n=nn:=⟨n.toNat,by omega⟩;unfold Bk.uH;rw[Zoj hb (XA hb) (by omega) hn,if_pos hs];rfl
def Bk.FK (b:Bk)(item day:Int):List Int:=(b.Ep (b.held []) item day).getD []
def Bk.j5 (b:Bk)(item day:Int):List Int×Int:=if b.uW item day=0 then(if(b.item item).gZ=true then([],0)else(b.FK item day,0))else([],b.uW item day)
def zT (b:Bk)(item day:Int):Option (List Int):=(((b.qU item day 1000).filter fun c=>(b.held []).contains c.num).map fun c=>b.uH c.num).foldl iD none
theorem Zq1 {b:Bk}(hb:b.ok){item day:Int}:zT b item day=b.Ep (b.held []) item day:=by
 rw[Zq2];refine Zin fun x=>?_
 rw[iL,List.mem_filterMap];constructor
 .rintro⟨c,hc,rfl⟩;rw[iY]at hc;obtain⟨h1,h2⟩:=(AN hb).1 hc.1;refine⟨c.num,?_,(KC hb hc.2).1⟩;rw[iY];refine⟨jF.1 hc.2,?_⟩;rw[u9 hb h1];unfold Bk.pS at h2;rw[dK]at h2;exact h2.2
 .rintro⟨m,hm,rL⟩;rw[iY]at hm;obtain⟨G7,mK⟩:=hm;have QB:=XA hb m G7;have IJ:=Fs hb m QB;obtain⟨g1,g2⟩:=V9 hb QB;have Ax:(b.held []).contains m=true:=jF.2 G7;rw[(KC hb Ax).1]at rL;refine⟨b.get m,?_,?_⟩
  .rw[iY,AN hb,g2];refine⟨⟨g1,?_⟩,Ax⟩;unfold Bk.pS;rw[dK];exact⟨by rw[g2];simp;omega,mK⟩
  .rw[g2];simpa using rL
theorem Zl7 {b:Bk}(hb:b.ok){item day:Int}(hs:(b.item item).gZ=false)(hh:b.rA item day=true):zT b item day=some (b.FK item day)/\b.FK item day≠[]/\(b.FK item day).length<=1000:=by
 have he:zT b item day=b.Ep (b.held []) item day:=Zq1 hb;unfold Bk.rA at hh;rw[hs,Bool.false_or,oT]at hh;obtain⟨c,MQ,FA⟩:=hh;have cZ:(((b.qU item day 1000).filter fun c=>(b.held []).contains c.num).map fun c=>b.uH c.num)≠[]:=by
  intro e
  have:c∈(b.qU item day 1000).filter fun c=>(b.held []).contains c.num:=iY.2 ⟨MQ,FA⟩
  rw[List.map_eq_nil_iff]at e;rw[e]at this;cases this
 unfold Bk.FK;rw[<-he];cases pN:zT b item day with
 |none=>
  exact absurd (KJ.1 pN) cZ
 |some l=>
  refine⟨rfl,?_⟩;have hm:=(OG pN).1;rw[iL]at hm;obtain⟨o,ho,rfl⟩:=hm;exact⟨(KC hb (iY.1 ho).2).2,Gt⟩
end
theorem Mx {α:Type}{l:List α}{p:α->Bool}{k:Nat}{x:α}(h:∀(j:Nat) (x:α),j<k->l[j]?=some x->p x=true)(hx:l[k]?=some x)(hp:p x=true):∀(j:Nat) (x:α),j<k+1->l[j]?=some x->p x=true:=fun j y hj hy=>by
 rcases Nat.lt_succ_iff_lt_or_eq.1 hj with e|e
 .exact h j y e hy
 .subst e;rw[hx]at hy;cases hy;exact hp
theorem Ld {α:Type}{l:List α}{p:α->Bool}{k:Nat}{x:α}(hx:l[k]?=some x)(hp:p x=false):l.all p=false:=by
 rw[List.all_eq_false];exact⟨x,dL hx,by simp[hp]⟩
theorem Ly {α:Type}{l:List α}{p:α->Bool}(h:∀(j:Nat) (x:α),j<l.length->l[j]?=some x->p x=true):l.all p=true:=by
 rw[qZ];intro x hx;obtain⟨j,hj⟩:=iM.1 hx;exact h j x (bZ.1 hj).1 hj
def Ct.cells (c:Ct):List AV:=[.pv (.i c.num),.pv (.i c.it),.pv (.i c.src),.pv (.i c.day),.pv (.i c.valid),.pv (.i c.diff.lo),.pv (.i c.diff.hi)]
theorem WV {α:Type}{l:List α}{p:α->Bool}{k:Nat}{x:α}(hx:l[k]?=some x):(l.take (k+1)).any p=((l.take k).any p||p x):=by
 rw[lX,hx,List.any_append];simp
theorem Zeg {b:Bk}(hb:b.ok){c:Ct}(hc:c∈b.aA):IntKind.i64.wrap (c.day+c.valid)=c.day+c.valid:=by
 obtain⟨_,_,_,_,_,_,_,_,h1,h2,h3,h4,_⟩:=wY hb hc;exact wrap64 (by omega)
theorem Mf {b:Bk}{i:Int}(h0:0<=i)(h1:i<b.items.length):∃j:Nat,i=j/\j<b.items.length/\∃z,b.items[j]?=some z/\b.item i=z/\(b.items.map It.pv)[j]?=some (.agg [.i z.dR,.bool z.gZ,.i z.val.lo,.i z.val.hi]):=by
 have hz:b.items[i.toNat]?=some (b.items[i.toNat]'(by omega)):=aX _;refine⟨i.toNat,by omega,by omega,_,hz,?_,?_⟩
 .unfold Bk.item;rw[hz];rfl
 .rw[bR,hz];rfl
theorem zS {b:Bk}{k:Nat}(h:k<b.aA.length):∃o,b.aA[k]?=some o/\o∈b.aA/\(b.aA.map Ct.pv)[k]?=some (.agg [.i o.num,.i o.it,.i o.src,.i o.day,.i o.valid,.i o.diff.lo,.i o.diff.hi]):=by
 have hz:b.aA[k]?=some (b.aA[k]'h):=aX _;exact⟨_,hz,dL hz,by rw[bR,hz];rfl⟩
theorem wI (l:List Int)(n:Int)(hl:l.length<=1000000):aD prog 81 [.aE false 1 (l.map aN),.i n] (.bool (l.contains n)):=by
 obtain⟨T,hT⟩:∃T,T=l.contains n:=⟨_,rfl⟩;rw[<-hT];refine cS L81 ?_;simp[L81];refine dY (fun m τ=>∃k:Nat,k<=l.length/\m=l.length-k/\(∀(j:Nat) (x:Int),j<k->l[j]?=some x->decide (x=n)=false)/\τ=⟨[(0,.pv (.aE false 1 (l.map aN))),(1,.pv (.i n)),(5,.pv (.i k))],[]⟩) ⟨l.length,⟨[(0,.pv (.aE false 1 (l.map aN))),(1,.pv (.i n)),(5,.pv (.i 0))],[]⟩,Sub.mk (by simp) (by simp),0,fT _,rfl,(fun j x hj=>by omega),rfl⟩ ?_;rintro J hJ m τ ⟨k,hk,rfl,hinv,rfl⟩;by_cases aI:k<l.length
 .obtain⟨x,hx⟩:∃x,l[k]?=some x:=⟨l[k],aX aI⟩;have nX:(l.map aN)[k]?=some (.i x):=by rw[bR,hx];rfl
  have hw:=bA (k:=k) (by omega);cases hc:decide (x=n)
  .have aB:=hJ _ _ ⟨k+1,aI,rfl,(fun j y hj hy=>by
    rcases Nat.lt_succ_iff_lt_or_eq.1 hj with h'|h'
    .exact hinv j y h' hy
    .subst h';rw[hx]at hy;cases hy;exact hc),rfl⟩
   simp[-decide_eq_true_eq,-decide_eq_false_iff_not,aI,↓nX,hw,hc];exact⟨_,_,(by omega:l.length-(k+1)<l.length-k),Sub.mk (by simp) (by simp),aB⟩
  .have Cx:T=true:=by
    rw[hT,jF];simp only[decide_eq_true_eq]at hc;rw[<-hc];exact dL hx
   simp[-decide_eq_true_eq,-decide_eq_false_iff_not,aI,↓nX,hc,Cx]
 .have he:k=l.length:=by omega
  subst he;have Cx:T=false:=by
   rw[hT];cases hc:l.contains n
   .rfl
   .obtain⟨j,hj⟩:=iM.1 (jF.1 hc)
    have:=hinv j n (bZ.1 hj).1 hj
    simp at this
  simp[Cx]
section
attribute [local irreducible] Bk.held Bk.nums Bk.span Bk.uH Bk.FK U9 zT
def Kh (b:Bk)(item day:Int)(es hs:List (PV×PV))(k:Nat):AS:=⟨[(1,.pv (.i item)),(2,.pv (.i day)),(8,.ptr (.loc 26 0) 0),(11,.ptr (.loc 11 0) 0),(12,.ptr (.loc 12 0) 0),(49,.pv (.aE false 1 (b.nums.map aN))),(50,.pv (.i b.nums.length)),(51,.pv (.i k))],
 [(.loc 45 0,.map (mU b k)),(.loc 12 0,.cells [.mp (.loc 45 0)]),(.loc 11 0,.cells [.fn 90 [] [.ptr (.loc 9 0) 0]]),(.loc 9 0,.cells [.mp (.loc 26 2)]),(.loc 26 0,.cells (aY b (.loc 26 1) (gB []))),(.loc 26 1,.map es),(.loc 26 2,.map hs)]⟩
theorem Zvl (b:Bk)(hi:b.items.length<=1000)(hc:b.aA.length<=1000)(item day:Int):cN prog 52 ([b.pv,.i item,.i day].map .pv) [] (fun r B=>r=.pv (K2 (b.j5 item day))/\B=[]):=by
 have QY:=ZoT b hi hc item day;refine cN.j4 ?_;refine O1 [.loc 135 0] L52 ?_;intro R hR;simp[L52,Bk.pv,-aT];refine cL [.pv b.pv,.pv (.i item),.pv (.i day)] [] 26 [] rfl QY ?_
 rintro r0 B0 (⟨h0,rfl,rfl⟩|⟨h0,y9,hit,Uo,hih,es,kZ,rfl,rfl⟩)
 .refine⟨rfl,by simp,?_⟩;have hd:decide (b.uW item day=0)=false:=by simpa using h0
  simp[-decide_eq_true_eq,-decide_eq_false_iff_not,hd];rw[<-hR];exact⟨_,rfl,rfl,WM (by unfold Bk.j5;rw[if_neg h0])⟩
 have hb:b.ok:=Bk.V7.1 y9;have hH:=TD hb [];have hlen:=WX (b:=b);obtain⟨si,rfl,M1,z,hz,D8,pX⟩:=Mf (b:=b) (i:=item) (by unfold Bk.uJ jC at hit;simp only[dK,decide_eq_true_eq]at hit;omega) (by unfold Bk.uJ jC at hit;simp only[dK,decide_eq_true_eq]at hit;omega);refine⟨rfl,by simp[aY],?_⟩;generalize kL b [] b.nums.length=hs at *;cases HO:z.gZ
 case true=>
  rw[HO]at pX;simp[aY,aS,pX];rw[<-hR];exact⟨_,rfl,rfl,WM (by unfold Bk.j5;rw[if_pos h0,if_pos (by rw[D8];exact HO)])⟩
 case false=>
 rw[HO]at pX;simp[aY,aS,pX,-aT];refine dY (fun n τ=>∃k:Nat,k<=b.nums.length/\n=b.nums.length-k/\τ=Kh b si day es hs k) ⟨b.nums.length,Kh b si day es hs 0,Sub.mk (by simp) (by simp[aY,aS,mU,nU]),0,fT _,rfl,rfl⟩ ?_;rintro J hJ n τ ⟨k,hk,rfl,rfl⟩;by_cases aI:k<b.nums.length
 .obtain⟨x,hx⟩:∃x,b.nums[k]?=some x:=⟨b.nums[k],aX aI⟩;have K5:=dL hx;have nX:(b.nums.map aN)[k]?=some (.i x):=by rw[bR,hx];rfl
  have hw:=bA (k:=k) (by omega);have aH:b.nums.length-(k+1)<b.nums.length-k:=by omega
  obtain⟨rP,nY⟩:=V9 hb K5;have mL:=kZ.f x;rw[if_pos K5]at mL;have T9:=kZ.k;have jO:=wY hb rP;have aB:=hJ _ _ ⟨k+1,aI,rfl,rfl⟩;have nH:=Zqv hx;have M0:=Zom hx;have NB:=Zqw hb hx;have hek:=NB.k;have PO:=Zqt hb K5;have CB:=ZtM hb K5;have MT:=Zg _ hs hH (b.get x);have hit:=Fb (NK b hb es hs (mU b k) hH x NB) b hb [] es kZ 8 9 10 (fun c _=>⟨rfl,rfl⟩) (fun c _=>rfl) (b.get x).src (b.get x).day x none (fun l h=>by cases h) (fun c hc=>⟨c,by
   have:=((AN hb).1 hc).2
   unfold Bk.pS at this;simp only[dK,decide_eq_true_eq]at this;exact this.1,rfl⟩)
  have dF:(NK b hb es hs (mU b k) hH x NB).run none (lU (b.qU (b.get x).src (b.get x).day x))=(U9 b x,true):=by rw[ZoK];unfold U9;rfl
  rw[dF]at hit;clear hJ dF;unfold Kh at aB ⊢;have gS:=fun s=>(NK b hb es hs (mU b k) hH x NB).cl s
  generalize mU b k=em at *;generalize b.get x=y at *;obtain⟨yn,yi,ys,yd,yv,⟨yl,yh⟩⟩:=y;simp only at nY jO hit PO CB MT;subst nY;unfold Ct.pv at mL;obtain⟨sj,rfl⟩:∃sj:Nat,ys=sj:=⟨ys.toNat,by omega⟩;obtain⟨nn,rfl⟩:∃nn:Nat,yn=nn:=⟨yn.toNat,by omega⟩;have CC:sj<b.items.length:=by omega
  obtain⟨u,hu⟩:∃u,b.items[sj]?=some u:=⟨b.items[sj],aX CC⟩;have Bn:(b.items.map It.pv)[sj]?=some (.agg [.i u.dR,.bool u.gZ,.i u.val.lo,.i u.val.hi]):=by rw[bR,hu];rfl
  have hui:b.item (sj:Int)=u:=by unfold Bk.item;rw[H7,hu];rfl
  rw[hui]at PO CB;simp[aY,aI,↓nX,T9,mL,-aT];refine cM [.pv (Ct.pv ⟨nn,yi,sj,yd,yv,⟨yl,yh⟩⟩),.ptr (.par 0) 0] (laid 0 (eR hs 0)) 63 [.loc 9 0,.loc 26 2] (by simp[laid,eR]) MT (by simp[laid,eR]) ?_;generalize CV:(b.held []).contains (nn:Int)=v at *;cases v
  .rw[M0 rfl]at aB;simp[laid,eR,hw,-aT];exact⟨_,_,aH,Sub.mk (by simp) (by simp[aY]),aB⟩
  have CB:=CB rfl;rw[<-nH rfl]at aB;simp[laid,eR,-aT];refine cM [.ptr (.par 0) 0,.pv (.i sj),.pv (.i yd),.pv (.i nn)] (laid 0 (kG b [] es)) 71 [.loc 26 0,.loc 26 1] (by simp[laid,kG,aY]) (BI b [] es sj yd nn) (by simp[laid,kG,aY]) ?_;simp[laid,kG,aY,OR,-aT];refine WZ [.loc 136 0,.loc 16 0,.loc 11 0,.loc 9 0,.loc 26 2,.loc 12 0,.loc 45 0,.loc 14 0,.loc 71 0,.loc 26 0,.loc 26 1] [(11,.ptr (.loc 11 0) 0),(12,.ptr (.loc 12 0) 0),(14,.ptr (.loc 14 0) 0),(16,.ptr (.loc 16 0) 0)] (gf:=133) (fs:=[]) (cs:=[.ptr (.loc 71 0) 0,.pv (.ref [.i nn]),.pv (.ref [.i sj]),.pv (.ref [.i yd])]) ?_ ?_ rfl rfl ?_ ?_ ?_ hit ?_
  .rfl
  .simp
  .simp[NK,e9,oS,laid,aY,iA]
  .rfl
  .rfl
  rintro r B' ⟨rfl,rfl⟩;refine⟨rfl,?_,?_⟩
  .exact fun p hp=>WT (n:=11) (L:=e9 b es hs em nn (U9 b nn)) (by simp[e9]) (gS (U9 b nn)) p hp
  refine⟨_,_,_,_,_,rfl,?_⟩;clear gS;generalize U9 b nn=M at *;have hgu':=Bn;cases qV:u.gZ
  .rw[qV]at Bn;have hM:=CB qV;subst hM;simp[NK,e9,laid,kX,aY,iA,oS,aS,↓Bn,hek,hw,-aT];exact⟨_,_,aH,Sub.mk (by simp) (by simp[aY,IZ,aS]),aB⟩
  .rw[qV]at Bn;have hE:=PO qV;simp[NK,e9,laid,kX,aY,iA,oS,aS,↓Bn,CC,hek,hw,FD,eB,-aT];exact⟨_,_,aH,Sub.mk (by simp) (by simp[aY,IZ,hE,aS,aN]),aB⟩
 have he:k=b.nums.length:=by omega
 subst he;clear hJ;have NB:=Zon hb;have tS:(b.item (si:Int)).gZ=false:=by rw[D8];exact HO
 obtain⟨hF,hL0,Jy⟩:=Zl7 hb tS hih;have hM:b.j5 si day=(b.FK si day,0):=by unfold Bk.j5;rw[if_pos h0,if_neg (by rw[tS];simp)]
 have hit:=Fb (SA b hb es hs (mU b b.nums.length) hH NB) b hb [] es kZ 7 8 9 (fun c _=>⟨rfl,rfl⟩) (fun c _=>rfl) si day 1000 none (fun l h=>by cases h) (fun c hc=>⟨c,by
  have:=((AN hb).1 hc).2
  unfold Bk.pS at this;simp only[dK,decide_eq_true_eq]at this;exact this.1,rfl⟩)
 have dF:(SA b hb es hs (mU b b.nums.length) hH NB).run none (lU (b.qU si day 1000))=(some (b.FK si day),true):=by rw[<-hF,ZoI];unfold zT;rfl
 rw[dF]at hit;have gS:=fun s=>(SA b hb es hs (mU b b.nums.length) hH NB).cl s
 have U6:=Zl (b.FK si day) hL0 (by omega);rw[hM]at hR;clear dF hF hM;unfold Kh;generalize mU b b.nums.length=em at *;generalize b.FK si day=L at *;simp[aY,-aT];refine cM [.ptr (.par 0) 0,.pv (.i si),.pv (.i day),.pv (.i 1000)] (laid 0 (kG b [] es)) 114 [.loc 26 0,.loc 26 1] (by simp[laid,kG,aY]) (BI b [] es si day 1000) (by simp[laid,kG,aY]) ?_;simp[laid,kG,aY,OR,-aT];refine WZ [.loc 136 0,.loc 19 0,.loc 11 0,.loc 9 0,.loc 26 2,.loc 12 0,.loc 45 0,.loc 114 0,.loc 26 0,.loc 26 1] [(11,.ptr (.loc 11 0) 0),(12,.ptr (.loc 12 0) 0),(19,.ptr (.loc 19 0) 0)] (gf:=133) (fs:=[]) (cs:=[.ptr (.loc 114 0) 0,.pv (.ref [.i 1000]),.pv (.ref [.i si]),.pv (.ref [.i day])]) ?_ ?_ rfl rfl ?_ ?_ ?_ hit ?_
 .rfl
 .simp
 .simp[SA,NJ,oS,laid,aY,iA]
 .rfl
 .rfl
 rintro r B' ⟨rfl,rfl⟩;refine⟨rfl,?_,?_⟩
 .exact fun p hp=>WT (n:=10) (L:=NJ b es hs em (some L)) (by simp[NJ]) (gS (some L)) p hp
 refine⟨_,_,_,_,_,rfl,?_⟩;clear gS;simp[SA,NJ,laid,kX,aY,iA,oS,-aT];refine cM [.pv (.aE false 1 (L.map aN))] [] 135 [] rfl U6 (by simp) ?_;have hLm:(L.map aN).take L.length=L.map aN:=fH (by simp);simp[hLm,-aT];rw[<-hR];exact⟨_,rfl,rfl,fun m v h=>h⟩
end
theorem ZoL:aD prog 39 [.aE false 7 []] (.aE false 7 []):=by
 refine cN.j4 ?_;refine cF [.loc 7 0] L39 ?_;simp[L39,dH,x3,aP,bY,B4];exact fun m v h=>AM h
def fR (l:List Ct)(bad:List Int):List Ct:=l.filter (fun x=>!wR bad x)
def fB (l:List Ct)(bad:List Int):Bk:=⟨qS,fR l bad⟩
theorem Mh (l:List Ct)(bad:List Int)(c d e:PV)(hl:l.length<=1000)(hb:bad.length<=1000):cN prog 29 [.ptr (.par 0) 0] [(.par 0,aO (aK l) (.aE false 1 (bad.map iP)) c d e)] (fun r B=>r=.pv (fB l bad).pv/\B=[(.par 0,aO (aK l) (.aE false 1 (bad.map iP)) c d e)]):=by
 refine O2 [.par 0] L29 ?_;intro R hR;simp[L29,aO,aK];by_cases hn:l=[]
 .subst hn;simp only[List.map_nil];refine .inl (cQ [] [.aE false 7 []] ZoL ?_);simp;refine cM [.pv (.aE false 7 []),.fn 62 [] [.ptr (.par 0) 0]] (laid 0 ((eQ.wk (.aE false 7 []) (.aE false 1 (bad.map iP)) c d e).b 0)) 11 [.loc 1 0,.par 0] (by simp[laid,eQ.b,aO]) (Du _ _ c d e) (by simp[laid,eQ.b,aO]) ?_;simp[laid,eQ.b,aO];refine .inl (cQ [] [] Yv ?_);simp[<-hR,fB,fR,Bk.pv,aK,aS,aO]
 .refine .inl (R7 [] (fs:=[]) (xs:=[.aE false 7 (l.map Ct.pv)]) (cs:=[]) (d:=9) rfl rfl (ZgU (l.map Ct.pv) (by rw[fQ];omega)) ?_);rintro r B (⟨h,rfl,rfl⟩|⟨rfl,rfl⟩)
  .exact absurd (List.map_eq_nil_iff.1 h) hn
  refine⟨by simp,?_⟩;simp;refine cL [.vec (.par 0) 7 0 l.length,.fn 62 [] [.ptr (.par 1) 0]] (laid 0 (.arr 76 7 (l.map Ct.pv)::(eQ.wk (aK l) (.aE false 1 (bad.map iP)) c d e).b 1)) 11 [.loc 9 0,.loc 1 0,.par 0] (by simp[laid,eQ.b,aO,aK]) (Ds (.wk _ _ c d e) (YU _ c d e bad hb) l hl) ?_
  rintro r0 B0 ⟨rfl,X,hX,rfl⟩;refine⟨rfl,by simp[laid,eQ.b,aO,aK],?_⟩;have VH:(X.map Ct.pv).take (fR l bad).length=(fR l bad).map Ct.pv:=by rw[<-List.map_take];exact congrArg _ hX
  have H2:(fR l bad).length<=X.length:=by
   have:=congrArg List.length hX
   rw[gI]at this;unfold fR;omega
  have hgf:(l.filter fun x=>!wR bad x)=fR l bad:=rfl;simp only[hgf];simp[laid,eQ.b,aO,aK];refine .inl (cQ [.loc 9 0] [] Yv ?_);simp[<-hR,fB,Bk.pv,aK,aS,aO,VH,H2]
theorem Gs (l:List Ct)(bad:List Int)(c d e:PV)(hl:l.length<=1000)(hb:bad.length<=1000)(fU item day rd:Int):cN prog 24 [.ptr (.par 0) 0,.pv (.agg [.i fU,.i item,.i day,.i rd])] [(.par 0,aO (aK l) (.aE false 1 (bad.map iP)) c d e)] (fun r B=>r=.pv (.bool (decide (((fB l bad).j5 item day).2=0)))/\B=[(.par 0,aO (aK l) (.aE false 1 (bad.map iP)) c d e)]):=by
 have oB:=Mh l bad c d e hl hb;have FB:=Zvl (fB l bad) (show qS.length<=1000 by decide) (by unfold fB fR;exact lJ (R3 _ _) hl) item day;refine O2 [.par 0] L24 ?_;intro R hR;simp[L24,aO];refine EC (fun τ=>τ=⟨[(9,.pv (fB l bad).pv),(11,.pv (.i item)),(13,.pv (.i day))],[(.par 0,aO (aK l) (.aE false 1 (bad.map iP)) c d e)]⟩) ?_ ?_
 .simp[gN,gW]
  repeat' apply And.intro
  all_goals
   refine cM [.ptr (.par 0) 0] [(.par 0,aO (aK l) (.aE false 1 (bad.map iP)) c d e)] 9 [.par 0] (by simp[aO]) oB (by simp[aO]) ?_;simp[aO];exact Sub.mk (by simp) (by simp)
 .rintro τ rfl;simp[gN,gW,aO];refine .inl (cQ [] [(fB l bad).pv,.i item,.i day] FB ?_);simp[K2];rw[<-hR];exact⟨rfl,by simp[aO]⟩
theorem ZrM (l:List Ct)(bad:List Int)(c d e:PV)(hl:l.length<=1000)(hb:bad.length<=1000)(fU item day rd limit:Int)(dE:IntKind.i64.wrap (rd+((fB l bad).uY item day).1.lo)=rd+((fB l bad).uY item day).1.lo):cN prog 94 [.ptr (.par 0) 0,.pv (.agg [.i fU,.i item,.i day,.i rd]),.pv (.i limit)] [(.par 0,aO (aK l) (.aE false 1 (bad.map iP)) c d e)] (fun r B=>r=.pv (.bool (decide (limit<=rd+((fB l bad).uY item day).1.lo)))/\B=[(.par 0,aO (aK l) (.aE false 1 (bad.map iP)) c d e)]):=by
 have oB:=Mh l bad c d e hl hb;have FB:=Zvi (fB l bad) (show qS.length<=1000 by decide) (by unfold fB fR;exact lJ (R3 _ _) hl) item day;refine O2 [.par 0] L94 ?_;intro R hR;simp[L94,aO];refine EC (fun τ=>τ=⟨[(18,.pv (.i ((fB l bad).uY item day).2)),(7,.ptr (.loc 7 0) 0),(4,.ptr (.loc 4 0) 0),(2,.pv (.i limit))],[(.loc 7 0,.cells [.pv (.i ((fB l bad).uY item day).1.lo),.pv (.i ((fB l bad).uY item day).1.hi)]),(.loc 4 0,.cells [.pv (.i fU),.pv (.i item),.pv (.i day),.pv (.i rd)]),(.par 0,aO (aK l) (.aE false 1 (bad.map iP)) c d e)]⟩) ?_ ?_
 .simp[gN,gW]
  repeat' apply And.intro
  all_goals
   refine cM [.ptr (.par 0) 0] [(.par 0,aO (aK l) (.aE false 1 (bad.map iP)) c d e)] 11 [.par 0] (by simp[aO]) oB (by simp[aO]) ?_;simp[aO,gN,gW]
   repeat' apply And.intro
   all_goals
    refine .inl (cQ [] [(fB l bad).pv,.i item,.i day] FB ?_);simp[LC,Cr.pv,gN,gW]
    repeat' apply And.intro
    all_goals exact Sub.mk (by simp) (by simp)
 .rintro τ rfl;simp[aO,dE];rw[<-hR];exact⟨rfl,by simp[aO]⟩
section
theorem Zt7 (l:List PV)(g:FuncId)(fs cs:List PV)(q:PV->Bool)(hq:∀x∈l,aD prog g (fs++[x]++cs) (.bool (q x)))(hl:l.length<=1000000)(hc:∀x∈l,∃a b c,x=.agg [.i a,.i b,.i c]):
  aD prog 225 [.aE false 3 l,.fn g fs cs] (.bool (l.any q)):=
 wS 271 (SU (row:=true) hq hl (fun x hx=>by obtain⟨a,b,c,rfl⟩:=hc x hx;exact⟨_,rfl,rfl⟩))
theorem Zri (x:PV)(g:FuncId)(fs cs:List PV)(b:Bool)(hx:∃a b c,x=.agg [.i a,.i b,.i c])(hq:aD prog g (fs++[x]++cs) (.bool b)):
  aD prog 226 [x,.ref [.fn g fs cs]] (.bool (!b)):=by
 obtain⟨a,b,c,rfl⟩:=hx;refine cS L226 ?_;simp[L226];refine gG (k:=0) rfl rfl hq rfl ?_;simp
theorem Zub (l:List PV)(g:FuncId)(fs cs:List PV)(q:PV->Bool)(hq:∀x∈l,aD prog g (fs++[x]++cs) (.bool (q x)))(hl:l.length<=1000000)(hc:∀x∈l,∃a b c,x=.agg [.i a,.i b,.i c]):
  aD prog 178 [.aE false 3 l,.fn g fs cs] (.bool (l.all q)):=by
 refine cS L178 ?_;simp[L178];refine gG (k:=4) rfl rfl (Zt7 l 226 [] [.ref [.fn g fs cs]] (fun x=>!q x) (fun x hx=>Zri x g fs cs (q x) (hc x hx) (hq x hx)) hl hc) rfl ?_;simp[List.not_any_eq_all_not]
theorem Pd:IntKind.i64.wrap 0=0:=by decide
theorem wr1:IntKind.i64.wrap 1=1:=by decide
theorem Il:IntKind.i64.wrap 2=2:=by decide
theorem wr3:IntKind.i64.wrap 3=3:=by decide
theorem Ik:IntKind.i64.wrap 4=4:=by decide
theorem Ij:IntKind.i64.wrap 5=5:=by decide
theorem wr6:IntKind.i64.wrap 6=6:=by decide
attribute [local simp] Pd wr1 Il wr3 Ik Ij wr6
theorem Zfk (n low high:Int):aD prog 177 [.i n,.i low,.i high] (.bool (decide (low<=n)&&decide (n<=high))):=by
 refine cS L177 ?_;by_cases h1:low<=n<;>by_cases h2:n<=high<;>simp[L177,h1,h2]
theorem Zse (a b c:Int):aD prog 179 [.agg [.i a,.i b,.i c]] (.bool (decide (1<=a))):=by
 refine cS L179 ?_;simp[L179]
def dW (k:Int):PV:=.agg [.i 2,.i k,.i 2]
def eG (n:Int):PV:=.agg [.i n,.aE false 3 [dW 0,dW 1]]
theorem Zih (num n limit:Int)(ps:Bool):aD prog 96 [.agg [.i num,.i n,.i limit,.bool ps]] (eG n):=by
 refine cF [.loc 7 0] L96 ?_;simp[L96,eG,dW,aP]
def eD (bad a r:Int):Int:=if bad<=a then 1 else if r<=bad then 2 else 3
theorem Zuq (t a r bad:Int):aD prog 139 [.agg [.i t,.i a,.i r],.i bad] (.int .u8 (eD bad a r)):=by
 refine cS L139 ?_;unfold eD;by_cases h1:bad<=a<;>by_cases h2:r<=bad<;>simp[L139,h1,h2]
theorem Zme:aD prog 178 [.aE false 3 [dW 0,dW 1],.fn 179 [] []] (.bool true):=
 Zub [dW 0,dW 1] 179 [] [] (fun _=>true) (fun x hx=>by
  have h:∃k,x=dW k:=by
   simp at hx;rcases hx with rfl|rfl<;>exact⟨_,rfl⟩
  obtain⟨k,rfl⟩:=h;exact Zse 2 k 2) (by decide) (fun x hx=>by
   simp at hx;rcases hx with rfl|rfl<;>exact⟨_,_,_,rfl⟩)
def JB (n t a b c k:Int):AS:=⟨[(1,.ptr (.loc 1 0) 0),(3,.pv (.i t)),(4,.ptr (.loc 4 0) 0),(31,.pv (.aE false 3 [dW 0,dW 1])),(32,.pv (.i 2)),(33,.pv (.i k))],[(.loc 1 0,.cells [.pv (.i n),.pv (.aE false 3 [dW 0,dW 1])]),(.loc 4 0,.cells [.pv (.i a),.pv (.i b),.pv (.i c)])]⟩
theorem ZjO (n:Int)(h4:4<=n)(RP:n<=30):aD prog 138 [eG n] (.i 0):=by
 have hw:=Zfk n 1 30;have hd:(decide (1<=n)&&decide (n<=30))=true:=by simp;omega
 rw[hd]at hw;have G4:=Zfk 2 1 3;have pV:=Zfk 2 2 5;refine cS L138 ?_;simp[L138,eG];refine cG [.i n,.i 1,.i 30] hw ?_;simp;refine cG [.aE false 3 [dW 0,dW 1],.fn 179 [] []] Zme ?_;simp;have Jj:∀t:Int,0<=t->t<=4->IntKind.i64.wrap (n-t)=n-t:=fun t h1 h2=>wrap64 (by omega)
 refine dY (fun m τ=>(m=2/\τ=JB n 0 0 (-1) 0 0)\/(m=1/\τ=JB n 2 2 0 2 1)\/(m=0/\τ=JB n 4 2 1 2 2)) ⟨2,JB n 0 0 (-1) 0 0,Sub.mk (by simp) (by simp),.inl ⟨rfl,rfl⟩⟩ ?_;rintro J hJ m τ (⟨rfl,rfl⟩|⟨rfl,rfl⟩|⟨rfl,rfl⟩)
 .have hj:=hJ 1 _ (.inr (.inl ⟨rfl,rfl⟩));have h1:¬(n<2):=by omega
  have h0:IntKind.i64.wrap n=n:=wrap64 (by omega);simp[JB,dW,h0,h1];refine cG [.i 2,.i 1,.i 3] G4 ?_;simp;exact⟨_,_,by decide,Sub.mk (by simp[dW]) (by simp[dW]),hj⟩
 .have hj:=hJ 0 _ (.inr (.inr ⟨rfl,rfl⟩));have h1:¬(n-2<2):=by omega
  have h0:IntKind.i64.wrap (n-2)=n-2:=wrap64 (by omega);simp[JB,dW,setAt,h0,h1];refine cG [.i 2,.i 2,.i 5] pV ?_;simp[setAt];exact⟨_,_,by decide,Sub.mk (by simp[JB,dW]) (by simp[JB,dW]),hj⟩
 .simp[JB,dW]
def dD:List Bool->Int
 |[]=>0
 |x::l=>(if x=true then 1 else 0)+dD l
theorem ZiK {l:List Bool}{k:Nat}{x:Bool}(h:l[k]?=some x):dD (l.take (k+1))=dD (l.take k)+(if x=true then 1 else 0):=by
 induction l generalizing k with
 |nil=>cases h
 |cons y l ih=>
  cases k with
  |zero=>
   simp at h;subst h;simp[dD]
  |succ k=>
   have:=ih (k:=k) (by simpa using h)
   simp only[List.take_succ_cons,dD,this];omega
theorem Zov {l:List Bool}:0<=dD l/\dD l<=l.length:=by
 induction l with
 |nil=>exact⟨Int.le_refl _,Int.le_refl _⟩
 |cons x l ih=>
  simp only[dD,pA]
  split<;>omega
def cY (rs:List Bool):Int×Int×Int:=
 if rs.length<2 then(3,2-(rs.length:Int),0)
 else if eD (dD (rs.take 2)) 0 2=3 then
  (if rs.length<4 then(3,4-(rs.length:Int),0)
  else if 4<rs.length then(0,0,2)else(eD (1+dD ((rs.drop 2).take 2)) 1 2,0,0))
 else if 2<rs.length then(0,0,2)else(eD (dD (rs.take 2)) 0 2,0,0)
def vJ (x:Int×Int×Int):PV:=.bM [.int .u8 x.1,.i x.2.1,.i x.2.2]
def YX (n:Int)(rs:List Bool)(k:Nat):AS:=⟨[(1,.vec (.par 0) 1 0 rs.length),(8,.pv (.i ((2*k:Nat):Int))),(9,.pv (.i (k:Int))),(20,.pv (.aE false 3 [dW 0,dW 1])),(21,.pv (.i 2)),(22,.pv (.i (k:Int)))],[(.par 0,.arr 4 1 (rs.map .bool))]⟩
def UK (rs sub:List Bool)(k j:Nat):AS:=⟨[(1,.vec (.par 0) 1 0 rs.length),(8,.pv (.i ((2*k:Nat):Int))),(9,.pv (.i ((k:Int)+dD (sub.take j)))),(11,.ptr (.loc 11 0) 0),(20,.pv (.aE false 3 [dW 0,dW 1])),(21,.pv (.i 2)),(22,.pv (.i (k:Int))),(46,.vec (.par 0) 1 (2*k) 2),(47,.pv (.i 2)),(48,.pv (.i (j:Int)))],[(.loc 11 0,.cells [.pv (.i 2),.pv (.i (k:Int)),.pv (.i 2)]),(.par 0,.arr 4 1 (rs.map .bool))]⟩
theorem Zns (n:Int)(h4:4<=n)(RP:n<=30)(rs:List Bool)(hl:rs.length<=1000):cN prog 95 [.pv (eG n),.vec (.par 0) 1 0 rs.length] [(.par 0,.arr 4 1 (rs.map .bool))] (fun r B=>r=.pv (vJ (cY rs))/\B=[(.par 0,.arr 4 1 (rs.map .bool))]):=by
 refine O2 [.par 0] L95 ?_;intro R hR;simp[L95,eG];refine cG [eG n] (ZjO n h4 RP) ?_;simp;refine dY (fun m τ=>∃k:Nat,(k=0\/(k=1/\2<=rs.length/\dD (rs.take 2)=1))/\m=2-k/\τ=YX n rs k) ⟨2,YX n rs 0,Sub.mk (by simp) (by simp),0,.inl rfl,rfl,rfl⟩ ?_;rintro J hJ m τ ⟨k,hk,rfl,rfl⟩;have sD:k<2:=by omega
 have bQ:([dW 0,dW 1]:List PV)[k]?=some (.agg [.i 2,.i (k:Int),.i 2]):=by
  rcases hk with rfl|⟨rfl,_⟩<;>rfl
 have sL:IntKind.i64.wrap ((2*k:Nat)+2:Int)=((2*k+2:Nat):Int):=by rw[wrap64 (by omega)];omega
 have y7:((k:Int)<2):=by omega
 by_cases hlen:rs.length<2*k+2
 .have To:(rs.length:Int)<((2*k+2:Nat):Int):=by omega
  simp[-Int.natCast_add,-Int.natCast_mul,YX,y7,↓bQ,sL,To];rw[<-hR];refine⟨?_,by simp⟩;rw[wrap64 (by omega)];rcases hk with rfl|⟨rfl,h2,hc⟩
  .simp[vJ,cY,hlen]
  .have e:eD (dD (rs.take 2)) 0 2=3:=by rw[hc];rfl
   simp[vJ,cY,e,show ¬rs.length<2 by omega,show rs.length<4 by omega]
 .have To:¬((rs.length:Int)<((2*k+2:Nat):Int)):=by omega
  have sS:(2*k).ble (2*k+2)=true:=Nat.ble_eq_true_of_le (by omega);have pN:(2*k+2).ble rs.length=true:=Nat.ble_eq_true_of_le (by omega);obtain⟨sub,kJ⟩:∃sub,sub=(rs.drop (2*k)).take 2:=⟨_,rfl⟩;have Z4:sub.length=2:=by rw[kJ,gI,uG];omega
  have hse:List.drop (2*k) (List.take (2*k+2) (List.map PV.bool rs))=sub.map .bool:=by
   rw[kJ,List.drop_take,Nat.add_sub_cancel_left,List.map_take,List.map_drop]
  have wA:=Zov (l:=sub);simp[-Int.natCast_add,-Int.natCast_mul,YX,y7,↓bQ,sL,To,sS,pN];refine dY (fun m τ=>∃j:Nat,j<=2/\m=2-j/\τ=UK rs sub k j) ⟨2,UK rs sub k 0,Sub.mk (by simp[dD]) (by simp),0,fT _,rfl,rfl⟩ ?_;rintro J2 uS m τ ⟨j,hj,rfl,rfl⟩;by_cases CN:j<2
  .obtain⟨x,hx⟩:∃x,sub[j]?=some x:=⟨sub[j],aX (by omega)⟩;have hg:(rs.map PV.bool)[2*k+j]?=some (.bool x):=by
    rw[kJ,mG,if_pos CN,mW]at hx;rw[bR,hx];rfl
   have Jz:=uS (2-(j+1)) _ ⟨j+1,CN,rfl,rfl⟩;unfold UK at Jz;rw[ZiK hx]at Jz;have b8:=Zov (l:=sub.take j);have gS:((sub.take j).length:Int)<=2:=by rw[gI];omega
   have zN:(j:Int)<2:=by omega
   have PH:=bA (k:=j) (by omega);cases x with
   |false=>
    simp[-Int.natCast_mul,UK,zN,↓hg,PH,cO,CN];exact⟨_,_,(by omega:2-(j+1)<2-j),Sub.mk (by simp) (by simp),Jz⟩
   |true=>
    have PI:IntKind.i64.wrap ((k:Int)+dD (sub.take j)+1)=(k:Int)+(dD (sub.take j)+1):=by rw[wrap64 (by omega)];omega
    simp[-Int.natCast_mul,UK,zN,↓hg,PH,PI,cO,CN];exact⟨_,_,(by omega:2-(j+1)<2-j),Sub.mk (by simp) (by simp),Jz⟩
  .have Jt:j=2:=by omega
   subst Jt;unfold UK;rw[fH (by omega)];have UN:=bA (k:=k) (by omega);simp[-Int.natCast_add,-Int.natCast_mul,sL];refine cG [.agg [.i 2,.i (k:Int),.i 2],.i ((k:Int)+dD sub)] (Zuq _ _ _ _) ?_;have qV:(2:Int)*(k:Int)+2=((2*k+2:Nat):Int):=by omega
   by_cases hv:eD ((k:Int)+dD sub) (k:Int) 2=3
   .have QH:k=0/\dD sub=1:=by
     unfold eD at hv;split at hv
     .omega
     .split at hv<;>omega
    obtain⟨rfl,MQ⟩:=QH;rw[hv];simp[MQ];refine⟨_,_,by decide,Sub.mk ?_ ?_,hJ 1 _ ⟨1,.inr ⟨rfl,by omega,by rw[<-MQ,kJ];rfl⟩,rfl,rfl⟩⟩
    .simp
    .simp[YX]
   .have tT:¬rs.length<2:=by omega
    have hP:cY rs=(if 2*k+2<rs.length then(0,0,2)else(eD ((k:Int)+dD sub) (k:Int) 2,0,0)):=by
     rcases hk with rfl|⟨rfl,h2,hc⟩
     .have e1:((0:Nat):Int)+dD sub=dD (rs.take 2):=by rw[kJ];simp
      rw[e1]at hv ⊢;unfold cY;have rM:¬eD (dD (rs.take 2)) 0 2=3:=hv;rw[if_neg tT,if_neg rM];rfl
     .have e1:((1:Nat):Int)+dD sub=1+dD ((rs.drop 2).take 2):=by rw[kJ];rfl
      have e:eD (dD (rs.take 2)) 0 2=3:=by rw[hc];rfl
      rw[e1];unfold cY;rw[if_neg tT,if_pos e,if_neg (by omega)];rfl
    by_cases hm:2*k+2<rs.length
    .have Tl:(2:Int)*(k:Int)+2<(rs.length:Int):=by omega
     rw[if_pos hm]at hP;simp[hv,Tl];rw[<-hR,hP];exact⟨rfl,by simp⟩
    .have Tl:¬(2:Int)*(k:Int)+2<(rs.length:Int):=by omega
     rw[if_neg hm]at hP;simp[hv,Tl];rw[<-hR,hP];exact⟨rfl,by simp⟩
end
structure Tt where
 fU:Int
 item:Int
 day:Int
 rd:Int
deriving DecidableEq
def Tt.pv (t:Tt):PV:=.agg [.i t.fU,.i t.item,.i t.day,.i t.rd]
def GN (S:Int->Int->Bool)(sp:List (Int×Int)):List (PV×PV):=sp.map fun p=>(.agg [.i p.1,.i p.2],.bool (S p.1 p.2))
theorem ZrO (a b c d:Int):gV (.agg [.i a,.i b]) (.agg [.i c,.i d])=decide ((a,b)=(c,d)):=by
 rw[qQ];simp[gV,lR,wL,PV.cells]
theorem Zlb {S:Int->Int->Bool}{i d:Int}:∀{sp:List (Int×Int)},eX (.agg [.i i,.i d]) (GN S sp)=if(i,d)∈sp then some (.bool (S i d))else none
 |[]=>rfl
 |p::r=>by
  have ih:=Zlb (S:=S) (i:=i) (d:=d) (sp:=r);unfold GN at ih ⊢;rw[iQ,eX,ZrO];by_cases h:(i,d)=p
  .subst h;simp
  .have:decide ((i,d)=(p.1,p.2))=false:=decide_eq_false h
   rw[this];simp only[ih,jQ,h,false_or]
theorem Znn {S:Int->Int->Bool}{i d:Int}:∀{sp:List (Int×Int)},(i,d)∉sp->mN (.agg [.i i,.i d]) (.bool (S i d)) (GN S sp)=GN S (sp++[(i,d)])
 |[],_=>rfl
 |p::r,h=>by
  have h1:(i,d)≠p:=fun e=>h (by simp[e])
  have ih:=Znn (S:=S) (i:=i) (d:=d) (sp:=r) (fun e=>h (by simp[e]));have h2:decide ((i,d)=(p.1,p.2))=false:=decide_eq_false h1;unfold GN at ih ⊢;rw[iQ,mN,ZrO,h2];simp only[ih];rfl
theorem Ztp {S:Int->Int->Bool}{sp:List (Int×Int)}:zZ ⟨true,[.int .i64,.int .i64]⟩ (GN S sp)=true:=by
 unfold zZ GN;rw[qZ];intro x hx;obtain⟨p,_,rfl⟩:=iL.1 hx;rfl
def iC (S:Int->Int->Bool)(G:Tt->Bool)(num:Int):List Tt->List Bool->Int
 |[],_=>3
 |t::l,rs=>if t.fU=num/\S t.item t.day=true then(if(cY (rs++[!G t])).1=3 then iC S G num l (rs++[!G t])else(cY (rs++[!G t])).1)else iC S G num l rs
theorem Zmk {S:Int->Int->Bool}{G:Tt->Bool}{num:Int}{rs:List Bool}:iC S G num [] rs=3:=rfl
theorem Zgj {S:Int->Int->Bool}{G:Tt->Bool}{num:Int}{t:Tt}{l:List Tt}{rs:List Bool}:iC S G num (t::l) rs=if t.fU=num/\S t.item t.day=true then(if(cY (rs++[!G t])).1=3 then iC S G num l (rs++[!G t])else(cY (rs++[!G t])).1)else iC S G num l rs:=rfl
def stM (l:List Ct)(bad:List Int)(i d:Int):Bool:=decide (((fB l bad).j5 i d).2=0)
def oY (l:List Ct)(bad:List Int)(limit:Int)(t:Tt):Bool:=decide (limit<=t.rd+((fB l bad).uY t.item t.day).1.lo)
def bE (l:List Tt):PV:=.aE false 4 (l.map Tt.pv)
def x9 (W:aL)(x:Lt)(S:Int->Int->Bool)(ts:List Tt)(rs:List Bool)(sp:List (Int×Int))(k:Nat):AS:=
 ⟨[(0,.ptr (.par 0) 0),(3,.ptr (.loc 3 0) 0),(5,.vec (.loc 61 0) 1 0 rs.length),(6,.fn 24 [.ptr (.par 0) 0] []),(7,.pv (.int .u8 3)),(8,.mp (.loc 16 0)),(21,.pv (.aE false 4 (ts.map Tt.pv))),(22,.pv (.i ts.length)),(23,.pv (.i (k:Int)))],
  [(.loc 3 0,.cells [.pv (.i x.num),.pv (.i x.pieces),.pv (.i x.limit),.pv (.bool x.passed)]),(.loc 16 0,.map (GN S sp)),(.loc 61 0,.arr 4 1 (rs.map .bool)),(.par 0,W)]⟩
theorem Ny (l:List Ct)(bad:List Int)(ls:PV)(ts:List Tt)(rn:PV)(x:Lt)(hl:l.length<=1000)(hb:bad.length<=1000)(ht:ts.length<=900)(h4:4<=x.pieces)(RP:x.pieces<=30)
  (dE:∀t∈ts,IntKind.i64.wrap (t.rd+((fB l bad).uY t.item t.day).1.lo)=t.rd+((fB l bad).uY t.item t.day).1.lo):
  cN prog 55 [.ptr (.par 0) 0,.pv x.pv] [(.par 0,aO (aK l) (.aE false 1 (bad.map iP)) ls (bE ts) rn)] (fun r B=>r=.pv (.int .u8 (iC (stM l bad) (oY l bad x.limit) x.num ts []))/\B=[(.par 0,aO (aK l) (.aE false 1 (bad.map iP)) ls (bE ts) rn)]):=by
 refine O2 [.par 0] L55 ?_;intro R hR;obtain⟨V,hV⟩:∃V,V=iC (stM l bad) (oY l bad x.limit) x.num ts []:=⟨_,rfl⟩;rw[<-hV]at hR;simp[L55,aO,Lt.pv,bE];refine dY (fun m τ=>∃(k:Nat) (rs:List Bool) (sp:List (Int×Int)),k<=ts.length/\m=ts.length-k/\rs.length<=k/\τ=x9 (aO (aK l) (.aE false 1 (bad.map iP)) ls (bE ts) rn) x (stM l bad) ts rs sp k/\iC (stM l bad) (oY l bad x.limit) x.num (ts.drop k) rs=V)
  ⟨ts.length,x9 (aO (aK l) (.aE false 1 (bad.map iP)) ls (bE ts) rn) x (stM l bad) ts [] [] 0,Sub.trans' (Sub.mk (by simp[AS.cT]) (by simp[AS.cT,aO,bE,GN])) (cT 61 4 1 5 rfl (by decide)),0,[],[],fT _,rfl,fE _,rfl,hV.symm⟩ ?_
 rintro J hJ m τ ⟨k,rs,sp,hk,rfl,p7,rfl,hv⟩;by_cases aI:k<ts.length
 .obtain⟨t,hx⟩:∃t,ts[k]?=some t:=⟨ts[k],aX aI⟩;have gU:t∈ts:=dL hx;have hg:(ts.map Tt.pv)[k]?=some t.pv:=by rw[bR,hx];rfl
  simp only[Tt.pv]at hg;have hd:ts.drop k=t::ts.drop (k+1):=by
   rw[AF aI];congr 1;rw[aX aI]at hx;exact Option.some.inj hx
  rw[hd]at hv;rw[Zgj]at hv;have hw:=bA (k:=k) (by omega);have aH:ts.length-(k+1)<ts.length-k:=by omega
  have eK:∀xU Px,xU.length<=k+1->iC (stM l bad) (oY l bad x.limit) x.num (ts.drop (k+1)) xU=V->J (ts.length-(k+1)) (x9 (aO (aK l) (.aE false 1 (bad.map iP)) ls (bE ts) rn) x (stM l bad) ts xU Px (k+1)):=fun xU Px h1 h2=>hJ _ _ ⟨k+1,xU,Px,aI,rfl,h1,rfl,h2⟩
  clear hJ;by_cases lG:t.fU=x.num
  .have hf:=Zlb (S:=stM l bad) (i:=t.item) (d:=t.day) (sp:=sp);have CL:=Ztp (S:=stM l bad) (sp:=sp);have hp:=fun h=>Znn (S:=stM l bad) (i:=t.item) (d:=t.day) (sp:=sp) h
   by_cases gA:(t.item,t.day)∈sp
   .rw[if_pos gA]at hf;cases hs:stM l bad t.item t.day with
    |false=>
     rw[if_neg (by simp[hs])]at hv;rw[hs]at hf;have hn:=eK rs sp (by omega) hv;simp[x9,aO,aI,↓hg,aP,lG,hw,hf,CL];exact⟨_,_,aH,Sub.mk (by simp) (by simp[aO]),hn⟩
    |true=>
     rw[hs]at hf;simp[x9,aO,aI,↓hg,cO,aP,setAt,lG,hw,hf,CL];have y8:=ZrM l bad ls (bE ts) rn hl hb x.num t.item t.day t.rd x.limit (dE t gU);refine cM [.ptr (.par 0) 0,.pv (.agg [.i x.num,.i t.item,.i t.day,.i t.rd]),.pv (.i x.limit)] [(.par 0,(aO (aK l) (.aE false 1 (bad.map iP)) ls (bE ts) rn))] 58 [.par 0] (by simp[aO]) y8 (by simp[aO]) ?_;rw[if_pos ⟨lG,hs⟩]at hv;have EY:decide (x.limit<=t.rd+((fB l bad).uY t.item t.day).1.lo)=oY l bad x.limit t:=rfl;rw[EY];clear EY y8;have h1:rs.length+1<=1000000:=by omega
     generalize oY l bad x.limit t=gv at hv ⊢;simp[aO,h1,aP];refine .inl (cQ [] [x.pv] (Zih x.num x.pieces x.limit x.passed) ?_);simp;refine xM (gF:=[.pv (eG x.pieces),.vec (.par 0) 1 0 (rs++[!gv]).length]) (B:=[(.par 0,.arr 4 1 ((rs++[!gv]).map .bool))]) (fs:=[]) (cs:=[]) 66 [.loc 61 0] ?_ rfl rfl ?_ ?_ ?_ (Zns x.pieces h4 RP (rs++[!gv]) (by simp;omega)) ?_
     .first|rfl|simp
     .first|rfl|simp
     .first|rfl|simp
     .first|rfl|simp
     rintro r0 B0 ⟨rfl,rfl⟩;refine⟨rfl,by simp,?_⟩;have hn:=eK (rs++[!gv]) sp (by simp;omega);generalize cY (rs++[!gv])=pm at hv ⊢;obtain⟨v,mo,er⟩:=pm;by_cases h3:v=3
     .subst h3;have hn:=hn hv;simp[vJ,hw];exact⟨_,_,aH,Sub.mk (by simp) (by simp[aO]),hn⟩
     .rw[if_neg h3]at hv;simp[vJ,h3];rw[<-hR,<-hv];exact⟨rfl,by simp[aO]⟩
   .rw[if_neg gA]at hf;have Q0:=hp gA;have wA:=Gs l bad ls (bE ts) rn hl hb x.num t.item t.day t.rd;simp[x9,aO,aI,↓hg,aP,lG,hf,CL];refine xM (gF:=[.ptr (.par 0) 0,.pv (.agg [.i x.num,.i t.item,.i t.day,.i t.rd])]) (B:=[(.par 0,(aO (aK l) (.aE false 1 (bad.map iP)) ls (bE ts) rn))]) (fs:=[.ptr (.par 0) 0]) (cs:=[]) 47 [.par 0] ?_ rfl rfl ?_ ?_ ?_ wA ?_
    .rfl
    .simp[aO]
    .rfl
    .rfl
    rintro r0 B0 ⟨rfl,rfl⟩;refine⟨rfl,by simp[aO],?_⟩;have bQ:decide (((fB l bad).j5 t.item t.day).2=0)=stM l bad t.item t.day:=rfl;rw[bQ];cases hs:stM l bad t.item t.day with
    |false=>
     rw[if_neg (by simp[hs])]at hv;rw[hs]at Q0;have hn:=eK rs (sp++[(t.item,t.day)]) (by omega) hv;simp[aO,CL,Q0,hw];exact⟨_,_,aH,Sub.mk (by simp[x9]) (by simp[x9,aO]),hn⟩
    |true=>
     rw[hs]at Q0;simp[aO,CL,Q0];have y8:=ZrM l bad ls (bE ts) rn hl hb x.num t.item t.day t.rd x.limit (dE t gU);refine cM [.ptr (.par 0) 0,.pv (.agg [.i x.num,.i t.item,.i t.day,.i t.rd]),.pv (.i x.limit)] [(.par 0,(aO (aK l) (.aE false 1 (bad.map iP)) ls (bE ts) rn))] 58 [.par 0] (by simp[aO]) y8 (by simp[aO]) ?_;rw[if_pos ⟨lG,hs⟩]at hv;have EY:decide (x.limit<=t.rd+((fB l bad).uY t.item t.day).1.lo)=oY l bad x.limit t:=rfl;rw[EY];clear EY y8;have h1:rs.length+1<=1000000:=by omega
     generalize oY l bad x.limit t=gv at hv ⊢;simp[aO,h1,aP];refine .inl (cQ [] [x.pv] (Zih x.num x.pieces x.limit x.passed) ?_);simp;refine xM (gF:=[.pv (eG x.pieces),.vec (.par 0) 1 0 (rs++[!gv]).length]) (B:=[(.par 0,.arr 4 1 ((rs++[!gv]).map .bool))]) (fs:=[]) (cs:=[]) 66 [.loc 61 0] ?_ rfl rfl ?_ ?_ ?_ (Zns x.pieces h4 RP (rs++[!gv]) (by simp;omega)) ?_
     .first|rfl|simp
     .first|rfl|simp
     .first|rfl|simp
     .first|rfl|simp
     rintro r0 B0 ⟨rfl,rfl⟩;refine⟨rfl,by simp,?_⟩;have hn:=eK (rs++[!gv]) (sp++[(t.item,t.day)]) (by simp;omega);generalize cY (rs++[!gv])=pm at hv ⊢;obtain⟨v,mo,er⟩:=pm;by_cases h3:v=3
     .subst h3;have hn:=hn hv;simp[vJ,hw];exact⟨_,_,aH,Sub.mk (by simp[x9]) (by simp[x9,aO]),hn⟩
     .rw[if_neg h3]at hv;simp[vJ,h3];rw[<-hR,<-hv];exact⟨rfl,by simp[aO]⟩
  .rw[if_neg (fun h=>lG h.1)]at hv;have hn:=eK rs sp (by omega) hv;simp[x9,aO,aI,↓hg,aP,lG,hw];exact⟨_,_,aH,Sub.mk (by simp) (by simp[aO]),hn⟩
 .have he:k=ts.length:=by omega
  subst he;rw[List.drop_eq_nil_of_le (fE _)]at hv;rw[Zmk]at hv;simp[x9,aO];rw[<-hR,hv];exact⟨rfl,by simp[aO]⟩
attribute [simp] aM oG nR iT
theorem Yy {x:Int}:∀{l:List Int},l.Pairwise (·<·)->x∈l->l[dJ l x]?=some x
 |y::r,hs,h=>by
  obtain⟨h1,h2⟩:=H8.1 hs;unfold dJ;rw[xL];by_cases hy:y<x
  .rw[if_pos (by simpa using hy)];have hm:x∈r:=by
    rcases jQ.1 h with rfl|h
    .omega
    .exact h
   exact Yy h2 hm
  .rw[if_neg (by simpa using hy)];have hx:x=y:=by
    rcases jQ.1 h with rfl|h
    .rfl
    .have:=h1 x h;omega
   subst hx;have hf:r.filter (fun y=>decide (y<x))=[]:=by
    rw[List.filter_eq_nil_iff];intro z hz
    have:=h1 z hz
    simp;omega
   rw[hf];rfl
theorem ZB {E:Int->Prop}{n:Int}{τ:AS}{a b c d e:PV}(h1:E n)(h2:τ.b (.par 0)=some (aO a b c d e)):J9 (uQ E) (yL n) τ:=by
 refine⟨[.par 0],rfl,fun s hs b hb=>?_,n,rfl,h1,a,b,c,d,e,?_⟩
 .cases rU.1 hs;rw[h2]at hb;cases hb;rfl
 .unfold AS.exp;rw[h2];rfl
theorem pF (n:Int){E:Int->Prop}{σ:AS}{f:bD}{args:List bD}{op:lZ}{lt:Bool}{dst:Option Nat}{a b c d e:PV}(hE:E n)(hop:op=.call f args:=by rfl)(h1:(aM [] σ).o f=.pv (.fn 118 [] []):=by rfl)(h2:(aM [] σ).tN args=some [.bool false,.i n]:=by rfl)(h3:((aM [] σ).bI 99).b (.par 0)=some (aO a b c d e):=by rfl):vU prog ⟨dst,none,op,lt⟩ (J9 (uQ E)) σ:=TG (d:=99) [] (xs:=[.bool false,.i n]) (cs:=[]) h1 h2 (zV n) hop (fun x hx=>by rw[hx.1];exact ZB hE h3) (fun x B hx=>hx.2)
theorem l9 (fz:List Site){Q:PV->PV->PV->PV->PV->Prop}{τ:AS}{a b c d e:PV}(h2:(bB fz τ).b (.par 0)=some (aO a b c d e))(hq:Q a b c d e):rI [] (xX Q) τ:=by
 refine⟨fz,[.par 0],[],rfl,rfl,rfl,fun s hs b hb=>?_,rfl,a,b,c,d,e,?_,hq⟩
 .cases rU.1 hs;rw[h2]at hb;cases hb;rfl
 .unfold AS.exp;rw[h2];rfl
def aU (l:List Lt):PV:=.aE false 4 (l.map Lt.pv)
def bG (l:List Int):PV:=.aE false 1 (l.map iP)
def jK (v:Lt->Int)(ls:List Lt)(n:Int):Except Int (List Lt):=
 match ls[dJ (ls.map Lt.num) n]? with
 |some x=>if x.num=n then(if x.passed=true then .error 6 else if v x=3 then .error 8 else if v x=1 then .ok (ls.set (dJ (ls.map Lt.num) n) { x with passed:=true })else .error 11)else .error 7
 |none=>.error 7
def wkQ (r:Except Int (List Lt))(l:List Ct)(bad:List Int)(ts:List Tt)(rn:PV)(a b c d e:PV):Prop:=∃ls',r=.ok ls'/\a=aK l/\b=bG bad/\c=aU ls'/\d=bE ts/\e=rn
def zB (l:List Ct)(bad:List Int)(ts:List Tt):Prop:=∀t∈ts,IntKind.i64.wrap (t.rd+((fB l bad).uY t.item t.day).1.lo)=t.rd+((fB l bad).uY t.item t.day).1.lo
def vS (x:Lt):Prop:=1<=x.num/\x.num<=99/\4<=x.pieces/\x.pieces<=30
def cW (l:List Ct)(bad:List Int)(ts:List Tt)(x:Lt):Int:=iC (stM l bad) (oY l bad x.limit) x.num ts []
theorem ZuC (l:List Ct)(bad:List Int)(ls:List Lt)(ts:List Tt)(rn:PV)(n:Int)(hn:-1000000000<n/\n<1000000000)(hl:l.length<=1000)(hb:bad.length<=1000)(zL:ls.length<=900)(ht:ts.length<=900)(hs:(ls.map Lt.num).Pairwise (·<·))(cU:∀x∈ls,vS x)(dE:zB l bad ts):
  sX prog 165 [.ptr (.par 0) 0,.pv (.aE false 1 [iP n])] [(.par 0,aO (aK l) (bG bad) (aU ls) (bE ts) rn)] (xX (wkQ (jK (cW l bad ts) ls n) l bad ts rn)) (uQ (fun e=>jK (cW l bad ts) ls n=.error e)):=by
 have D6:=Xw ls n (aK l) (bG bad) (bE ts) rn hs (by omega) (fun y hy=>by obtain⟨h1,h2,_⟩:=cU y hy;exact wrap64 (by omega));refine cX L165 ?_;generalize hE:(fun e=>jK (cW l bad ts) ls n=.error e)=E;generalize hQ:wkQ (jK (cW l bad ts) ls n) l bad ts rn=Q;show fO _ (.seq _ (.seq _ (.seq _ (.seq _ (.seq _ (.seq _ (.seq _ _))))))) _ _ _;refine mH ?_;simp[hold,aO,aU];refine cM [.ptr (.par 0) 0,.pv (.i n)] [(.par 0,aO (aK l) (bG bad) (aU ls) (bE ts) rn)] 12 [.par 0] (by simp[aO,aU]) D6 (by simp[aO]) ?_;simp[-List.mem_map,aO];by_cases hm:n∈ls.map Lt.num
 .have lG:=Yy hs hm;rw[bR]at lG;obtain⟨x,hx,T3⟩:=eA.1 lG;unfold jK at hE hQ;rw[hx]at hE hQ;dsimp only at hE hQ;rw[if_pos T3]at hE hQ;generalize hi:dJ (ls.map Lt.num) n=i at hx hQ ⊢;refine mH ?_;simp[-List.mem_map,hold,hm];refine cG [.bool true,.i 7] (gQ 7) ?_;simp;have yI:i<ls.length:=(bZ.1 hx).1;have nX:(ls.map Lt.pv)[i]?=some x.pv:=by rw[bR,hx];rfl
  simp only[Lt.pv]at nX;have qK:=Ny l bad (aU ls) ts rn x hl hb ht (cU x (dL hx)).2.2.1 (cU x (dL hx)).2.2.2 dE;cases yE:x.passed with
  |true=>
   rw[yE]at hE nX;have IV:E 6:=by rw[<-hE];rfl
   refine wZ [_,_,_,_,_,_,_,_,_,_] ?_;simp[hold,↓nX,cO,aP];exact pF 6 IV
  |false=>
  rw[yE]at hE hQ nX;rw[if_neg (by simp)]at hE hQ;refine mH ?_;simp[hold,↓nX,cO,aP];refine cG [.bool true,.i 6] (gQ 6) ?_;simp[hold];refine mH ?_;simp[hold,yI,↓nX,cO,aP];refine cM [.ptr (.par 0) 0,.pv (.agg [.i x.num,.i x.pieces,.i x.limit,.bool false])] [(.par 0,(aO (aK l) (bG bad) (aU ls) (bE ts) rn))] 37 [.par 0] (by simp[aO,aU]) (by rw[Lt.pv,yE]at qK;exact qK) (by simp[aO]) ?_;have HM:iC (stM l bad) (oY l bad x.limit) x.num ts []=cW l bad ts x:=rfl;rw[HM];clear HM qK D6;generalize cW l bad ts x=v at hE hQ ⊢;simp[aO];by_cases h3:v=3
  .rw[if_pos h3]at hE;have DD:E 8:=by rw[<-hE]
   refine wZ [_,_] ?_;simp[hold,h3];exact pF 8 DD
  rw[if_neg h3]at hE hQ;refine mH ?_;simp[hold,h3];refine cG [.bool true,.i 8] (gQ 8) ?_;simp;by_cases h1:¬v=1
  .rw[if_neg h1]at hE;have Vq:E 11:=by rw[<-hE]
   refine wZ [_,_] ?_;simp[hold,h1];exact pF 11 Vq
  have h1:v=1:=Decidable.not_not.1 h1;rw[if_pos h1]at hQ;refine mH ?_;simp[hold,h1];refine cG [.bool true,.i 11] (gQ 11) ?_;simp[hold];refine mH ?_;simp[hold,aU];refine .inl (R7 [] (fs:=[]) (xs:=[.aE false 4 (ls.map Lt.pv)]) (cs:=[]) (d:=50) rfl rfl (ZgT (ls.map Lt.pv) (by rw[fQ];omega)) ?_);rintro r B (⟨h,rfl,rfl⟩|⟨rfl,rfl⟩)
  .rw[List.map_eq_nil_iff.1 h]at yI;exact absurd yI (Nat.not_lt_zero _)
  refine⟨by simp,?_⟩;simp;refine GB ?_;simp[hold,yI,↓nX,cO,aP,setAt];have jN:(ls.map Lt.pv).set i (.agg [.i x.num,.i x.pieces,.i x.limit,.bool true])=(ls.set i { x with passed:=true }).map Lt.pv:=by rw[List.map_set];rfl
  rw[jN];have iH:List.take ls.length ((ls.set i { x with passed:=true }).map Lt.pv)=(ls.set i { x with passed:=true }).map Lt.pv:=fH (by simp);refine l9 (a:=aK l) (b:=bG bad) (c:=aU (ls.set i { x with passed:=true })) (d:=bE ts) (e:=rn) [.loc 50 0] ?_ ?_
  .simp[-List.map_set,bB,AS.cH,AV.cH,AV.bB,aL.cH,aO,aU,bG,iH]
  .rw[<-hQ];exact⟨_,rfl,rfl,rfl,rfl,rfl,rfl⟩
 .have VJ:E 7:=by
   rw[<-hE];unfold jK;split
   .rename_i x hx;have cZ:¬x.num=n:=fun h=>hm (by rw[<-h];exact List.mem_map_of_mem (dL hx))
    rw[if_neg cZ]
   .rfl
  refine wZ [_] ?_;simp[-List.mem_map,hold,hm];exact pF 7 VJ
def kS (ts:List Tt)(n:Int):Nat:=(ts.filter fun t=>decide (t.fU=n)).length
theorem ZgC {ts:List Tt}{n:Int}{k:Nat}{t:Tt}(h:ts[k]?=some t):kS (ts.take (k+1)) n=kS (ts.take k) n+(if t.fU=n then 1 else 0):=by
 unfold kS;rw[lX,h,H9,gE];congr 1;simp only[Option.toList,xL,List.filter_nil];by_cases ht:t.fU=n<;>simp[ht]
theorem ZkP {ts:List Tt}{n:Int}:kS ts n<=ts.length:=R3 _ _
def kP (S:Int->Int->Bool)(v:Lt->Int)(ls:List Lt)(ts:List Tt)(q:Tt):Except Int (List Tt):=
 if(decide (2<=q.item)&&decide (q.item<=5))=true/\(decide (0<=q.day)&&decide (q.day<=1000))=true/\(decide (0<=q.rd)&&decide (q.rd<=2000))=true then
  (match ls[dJ (ls.map Lt.num) q.fU]? with
  |some x=>if x.num=q.fU then(if x.passed=true then .error 8 else if v x=3 then(if(kS ts q.fU:Int)<x.pieces then(if S q.item q.day=true then .ok (ts++[q])else .error 10)else .error 3)else .error 8)else .error 7
  |none=>.error 7)
 else .error 2
def tsQ (r:Except Int (List Tt))(l:List Ct)(bad:List Int)(ls:List Lt)(rn:PV)(a b c d e:PV):Prop:=∃ts',r=.ok ts'/\a=aK l/\b=bG bad/\c=aU ls/\d=bE ts'/\e=rn
def TT (W:aL)(x:Lt)(q:Tt)(ts:List Tt)(k:Nat):AS:=
 ⟨[(0,.ptr (.par 0) 0),(1,.pv (.aE false 1 [.i q.fU,.i q.item,.i q.day,.i q.rd])),(6,.ptr (.loc 6 0) 0),(7,.pv (.i ((kS (ts.take k) q.fU:Nat):Int))),(60,.pv (.aE false 4 (ts.map Tt.pv))),(61,.pv (.i ts.length)),(62,.pv (.i (k:Int)))],
  [(.loc 6 0,.cells [.pv (.i x.num),.pv (.i x.pieces),.pv (.i x.limit),.pv (.bool false)]),(.par 0,W)]⟩
theorem Zuk (l:List Ct)(bad:List Int)(ls:List Lt)(ts:List Tt)(rn:PV)(q:Tt)(hn:-1000000000<q.fU/\q.fU<1000000000)(hl:l.length<=1000)(hb:bad.length<=1000)(zL:ls.length<=900)(ht:ts.length<=900)(hs:(ls.map Lt.num).Pairwise (·<·))(cU:∀x∈ls,vS x)(dE:zB l bad ts):
  sX prog 164 [.ptr (.par 0) 0,.pv (.aE false 1 [iP q.fU,iP q.item,iP q.day,iP q.rd])] [(.par 0,aO (aK l) (bG bad) (aU ls) (bE ts) rn)] (xX (tsQ (kP (stM l bad) (cW l bad ts) ls ts q) l bad ls rn)) (uQ (fun e=>kP (stM l bad) (cW l bad ts) ls ts q=.error e)):=by
 have D6:=Xw ls q.fU (aK l) (bG bad) (bE ts) rn hs (by omega) (fun y hy=>by obtain⟨h1,h2,_⟩:=cU y hy;exact wrap64 (by omega));have w1:=KB q.item 2 5;have w2:=KB q.day 0 1000;have w3:=KB q.rd 0 2000;refine cX L164 ?_;generalize hE:(fun e=>kP (stM l bad) (cW l bad ts) ls ts q=.error e)=E;generalize hQ:tsQ (kP (stM l bad) (cW l bad ts) ls ts q) l bad ls rn=Q;unfold kP at hE hQ;generalize(decide (2<=q.item)&&decide (q.item<=5))=c1 at w1 hE hQ;generalize(decide (0<=q.day)&&decide (q.day<=1000))=c2 at w2 hE hQ;generalize(decide (0<=q.rd)&&decide (q.rd<=2000))=c3 at w3 hE hQ;show fO _ (.seq _ (.seq _ (.seq _ _))) _ _ _;by_cases hc:¬(c1=true/\c2=true/\c3=true)
 .have AA:E 2:=by rw[<-hE,if_neg hc]
  refine wZ [_,_,_,_,_,_,_,_,_,_,_,_,_,_,_,_] ?_;simp[hold,iP];refine cG [.i q.item,.i 2,.i 5] w1 ?_;cases c1 with
  |false=>
   simp[hold];exact pF 2 AA
  |true=>
  simp[hold];refine cG [.i q.day,.i 0,.i 1000] w2 ?_;cases c2 with
  |false=>
   simp[hold];exact pF 2 AA
  |true=>
  simp[hold];refine cG [.i q.rd,.i 0,.i 2000] w3 ?_;cases c3 with
  |false=>
   simp[hold];exact pF 2 AA
  |true=>exact absurd ⟨rfl,rfl,rfl⟩ hc
 have hc:=Decidable.not_not.1 hc;rw[if_pos hc]at hE hQ;obtain⟨rfl,rfl,rfl⟩:=hc;refine mH ?_;simp[hold,iP];refine cG [.i q.item,.i 2,.i 5] w1 ?_;simp[hold];refine cG [.i q.day,.i 0,.i 1000] w2 ?_;simp[hold];refine cG [.i q.rd,.i 0,.i 2000] w3 ?_;simp[hold];refine cG [.bool true,.i 2] (gQ 2) ?_;simp;refine mH ?_;simp[hold,aO,aU];refine cM [.ptr (.par 0) 0,.pv (.i q.fU)] [(.par 0,aO (aK l) (bG bad) (aU ls) (bE ts) rn)] 33 [.par 0] (by simp[aO,aU]) D6 (by simp[aO]) ?_;simp[-List.mem_map,aO];by_cases hm:¬q.fU∈ls.map Lt.num
 .have VJ:E 7:=by
   rw[<-hE];split
   .rename_i x hx;have cZ:¬x.num=q.fU:=fun h=>hm (by rw[<-h];exact List.mem_map_of_mem (dL hx))
    rw[if_neg cZ]
   .rfl
  refine wZ [_] ?_;simp[-List.mem_map,hold,hm];exact pF 7 VJ
 have hm:=Decidable.not_not.1 hm;have lG:=Yy hs hm;rw[bR]at lG;obtain⟨x,hx,T3⟩:=eA.1 lG;rw[hx]at hE hQ;dsimp only at hE hQ;rw[if_pos T3]at hE hQ;generalize hi:dJ (ls.map Lt.num) q.fU=i at hx hQ ⊢;have yI:i<ls.length:=(bZ.1 hx).1;have nX:(ls.map Lt.pv)[i]?=some x.pv:=by rw[bR,hx];rfl
 simp only[Lt.pv]at nX;have qK:=Ny l bad (aU ls) ts rn x hl hb ht (cU x (dL hx)).2.2.1 (cU x (dL hx)).2.2.2 dE;refine mH ?_;simp[-List.mem_map,hold,hm];refine cG [.bool true,.i 7] (gQ 7) ?_;simp[hold];refine mH ?_;simp[hold,↓nX,cO,aP,setAt];have pan8:∀τ:AS,E 8->τ.b (.par 0)=some (aO (aK l) (bG bad) (aU ls) (bE ts) rn)->J9 (uQ E) (yL 8) τ:=fun τ h1 h2=>ZB h1 h2
 cases yE:x.passed with
 |true=>
  rw[yE]at hE;have DD:E 8:=by rw[<-hE];rfl
  refine wZ [_,_,_,_,_,_,_,_,_] ?_;simp[hold];exact pF 8 DD
 |false=>
 rw[yE]at hE hQ;rw[if_neg (by simp)]at hE hQ;have HM:iC (stM l bad) (oY l bad x.limit) x.num ts []=cW l bad ts x:=rfl;rw[HM]at qK;clear HM D6;generalize cW l bad ts x=v at hE hQ qK;rw[Lt.pv,yE]at qK;by_cases h3:¬v=3
 .rw[if_neg h3]at hE;have DD:E 8:=by rw[<-hE]
  refine wZ [_,_,_,_,_,_,_,_,_] ?_;simp[hold];refine cM [.ptr (.par 0) 0,.pv (.agg [.i x.num,.i x.pieces,.i x.limit,.bool false])] [(.par 0,(aO (aK l) (bG bad) (aU ls) (bE ts) rn))] 52 [.par 0] (by simp[aO,aU]) qK (by simp[aO]) ?_;simp[hold,aO,h3];exact pF 8 DD
 have h3:=Decidable.not_not.1 h3;rw[if_pos h3]at hE hQ;refine mH ?_;simp;refine cM [.ptr (.par 0) 0,.pv (.agg [.i x.num,.i x.pieces,.i x.limit,.bool false])] [(.par 0,(aO (aK l) (bG bad) (aU ls) (bE ts) rn))] 52 [.par 0] (by simp[aO,aU]) qK (by simp[aO]) ?_;simp[hold,aO,h3];refine cG [.bool true,.i 8] (gQ 8) ?_;simp[hold];refine mH ?_;simp[hold];refine mH ?_;simp[hold,bE];refine dY (fun m τ=>∃k:Nat,k<=ts.length/\m=ts.length-k/\τ=TT (aO (aK l) (bG bad) (aU ls) (bE ts) rn) x q ts k) ⟨ts.length,TT (aO (aK l) (bG bad) (aU ls) (bE ts) rn) x q ts 0,Sub.mk (by simp[kS]) (by simp[aO,bG,aU,bE]),0,fT _,rfl,rfl⟩ ?_;rintro J hJ m τ ⟨k,hk,rfl,rfl⟩;by_cases aI:k<ts.length
 .obtain⟨t,MB⟩:∃t,ts[k]?=some t:=⟨ts[k],aX aI⟩;have hg:(ts.map Tt.pv)[k]?=some t.pv:=by rw[bR,MB];rfl
  simp only[Tt.pv]at hg;have hw:=bA (k:=k) (by omega);have G7:=ZkP (ts:=ts.take k) (n:=q.fU);rw[gI]at G7;have sL:=bA (k:=kS (ts.take k) q.fU) (by omega);have aH:ts.length-(k+1)<ts.length-k:=by omega
  have hn:=hJ (ts.length-(k+1)) _ ⟨k+1,aI,rfl,rfl⟩;unfold TT at hn;rw[ZgC MB]at hn;by_cases mI:t.fU=q.fU
  .rw[if_pos mI]at hn;simp[TT,aO,aI,↓hg,aP,hw,sL,mI,T3];exact⟨_,_,aH,Sub.mk (by simp) (by simp[aO,T3]),hn⟩
  .rw[if_neg mI]at hn;simp[TT,aO,aI,↓hg,aP,hw,mI,T3];exact⟨_,_,aH,Sub.mk (by simp[T3]) (by simp[aO,T3]),hn⟩
 have he:k=ts.length:=by omega
 subst he;simp[TT,hold,aO];by_cases UY:¬(kS ts q.fU:Int)<x.pieces
 .rw[if_neg UY]at hE;have Vp:E 3:=by rw[<-hE]
  refine wZ [_,_,_,_] ?_;simp[hold,UY];exact pF 3 Vp
 have UY:=Decidable.not_not.1 UY;rw[if_pos UY]at hE hQ;refine mH ?_;simp[hold,UY];refine cG [.bool true,.i 3] (gQ 3) ?_;simp;refine mH ?_;simp[hold,setAt];have wA:=Gs l bad (aU ls) (bE ts) rn hl hb q.fU q.item q.day q.rd;have bQ:decide (((fB l bad).j5 q.item q.day).2=0)=stM l bad q.item q.day:=rfl;rw[bQ]at wA;clear bQ;cases Ad:stM l bad q.item q.day with
 |false=>
  rw[Ad]at hE wA;have Vr:E 10:=by rw[<-hE];rfl
  refine wZ [_,_,_] ?_;simp[hold];refine cM [.ptr (.par 0) 0,.pv (.agg [.i q.fU,.i q.item,.i q.day,.i q.rd])] [(.par 0,(aO (aK l) (bG bad) (aU ls) (bE ts) rn))] 94 [.par 0] (by simp[aO,bG,aU,bE]) wA (by simp[aO]) ?_;simp[aO];exact pF 10 Vr
 |true=>
 rw[Ad]at hQ wA;rw[if_pos rfl]at hQ;refine mH ?_;simp[hold];refine cM [.ptr (.par 0) 0,.pv (.agg [.i q.fU,.i q.item,.i q.day,.i q.rd])] [(.par 0,(aO (aK l) (bG bad) (aU ls) (bE ts) rn))] 94 [.par 0] (by simp[aO,bG,aU,bE]) wA (by simp[aO]) ?_;simp[aO];refine cG [.bool true,.i 10] (gQ 10) ?_;simp[hold];refine GB ?_;simp[hold,bE];refine .inl (cQ [] [.aE false 4 (ts.map Tt.pv),.agg [.i q.fU,.i q.item,.i q.day,.i q.rd]] (ZoD (ts.map Tt.pv) q.fU q.item q.day q.rd (by rw[fQ];omega)) ?_);simp;have H0:ts.map Tt.pv++[.agg [.i q.fU,.i q.item,.i q.day,.i q.rd]]=(ts++[q]).map Tt.pv:=by rw[lI];rfl
 rw[H0];refine l9 (a:=aK l) (b:=bG bad) (c:=aU ls) (d:=bE (ts++[q])) (e:=rn) [] ?_ ?_
 .simp[-List.map_append,bB,aO,bE,bG]
 .rw[<-hQ];exact⟨_,rfl,rfl,rfl,rfl,rfl,rfl⟩
theorem ZqG (l:List Ct)(h0:l≠[])(hl:l.length<=1000000):cN prog 39 [.pv (aK l)] [] (fun r B=>r=.vec (.ret 0) 7 0 l.length/\B=[(.ret 0,.arr 76 7 (l.map Ct.pv))]):=by
 refine cB [.loc 7 0] L39 ?_;cases l with
 |nil=>exact absurd rfl h0
 |cons a l=>
  have h1:l.length+1<=1000000:=by simpa using hl
  have hm:(l.map Ct.pv).take l.length=l.map Ct.pv:=fH (by simp);simp[L39,aK,dH,aP,h1,aT,rB,AS.exp,jV,aL.iW,AV.map,dO,Site.uI,aL.dC,AV.dC,s6]
theorem YT (d:Int)(c:Ct):cN prog 250 [.pv c.pv,.ptr (.par 0) 0] (laid 0 ((eQ.num d).b 0)) (fun r B=>r=.pv (.bool (decide (c.num=d)))/\B=laid 0 ((eQ.num d).b 0)):=by
 refine cB [.par 0] L250 ?_;simp[L250,eQ.b,laid,Ct.pv]
section
section
variable {P:Program}{K:AV->AS->Prop}{σ:AS}
theorem ZtX (fz:List Site){f:bD}{args:List bD}{d:Nat}{g:FuncId}{fs xs cs:List PV}{R:AV->List (Site×aL)->Prop}{X:Prop}(h1:(aM fz σ).o f=.pv (.fn g fs cs))(h2:(aM fz σ).tN args=some xs)
  (hc:cN P g ((fs++xs++cs).map .pv) [] R) (hK:∀r B,R r B->oG r B/\K (r.map (iT d)) (((aM fz σ).bI d).lY (nR d B))):yV P f args d K σ\/X:=
 .inl (.inr ⟨fz,g,fs,xs,cs,h1,h2,hc.mono fun r B h=>hK r B h⟩)
end
def Bk.wo (b:Bk)(n:Int):Bk:=⟨b.items,b.aA.filter fun c=>!decide (c.num=n)⟩
theorem Fl {b:Bk}{n:Int}{c:Ct}(h:c∈(b.wo n).aA):c∈b.aA:=(iY.1 h).1
theorem XX {b:Bk}(hb:b.ok)(n:Int):(b.wo n).ok:=
 ⟨hb.i,lJ (R3 _ _) hb.c,hb.it,fun x hx=>hb.ct x (Fl hx),fun x hx y hy e=>hb.one x (Fl hx) y (Fl hy) e,fun x hx y hy e=>hb.day x (Fl hx) y (Fl hy) e⟩
def Bk.s8 (b:Bk)(n:Int):Bool:=!(b.wo n).contra
def Bk.rV (b:Bk):List Int×Int:=if b.fault=0 then(if b.contra=true then(b.nums.filter b.s8,0)else([],7))else([],b.fault)
attribute [local irreducible] Bk.held Bk.nums Bk.span Bk.contra Bk.s8
def Iq (b:Bk)(k:Nat):AS:=⟨[(1,.ptr (.loc 1 0) 0),(6,.vec (.loc 54 0) 1 0 ((b.nums.take k).filter b.s8).length),(29,.pv (.aE false 1 (b.nums.map aN))),(30,.pv (.i b.nums.length)),(31,.pv (.i k))],
 [(.loc 54 0,.arr 3 1 (((b.nums.take k).filter b.s8).map aN)),(.loc 1 0,.cells b.cells)]⟩
theorem Zmf (b:Bk)(hi:b.items.length<=1000)(hc:b.aA.length<=1000):cN prog 205 ([b.pv].map .pv) [] (fun r B=>r=.pv (K2 b.rV)/\B=[]):=by
 have hr:=Fe b hi hc;refine cN.j4 ?_;refine O1 [.loc 54 0] L205 ?_;intro R hR;simp[L205,Bk.pv,-aT];refine cL [.pv b.pv] [] 14 [] rfl hr ?_
 rintro r0 B0 (⟨h0,rfl,rfl⟩|⟨h0,es,kZ,rfl,rfl⟩)
 .refine⟨rfl,by simp,?_⟩;have hd:decide (b.fault=0)=false:=by simpa using h0
  simp[-decide_eq_true_eq,-decide_eq_false_iff_not,hd];rw[<-hR];exact⟨_,rfl,rfl,WM (by unfold Bk.rV;rw[if_neg h0])⟩
 have hb:b.ok:=Bk.V7.1 h0;have hlen:=WX (b:=b);have jM:=Zt b hb es kZ;have hH:=TD hb [];have hS:=Zfh hb 1000;have b8:=ZhJ b hb es (kL b [] b.nums.length) (jR b b.nums.length) kZ hH hS;refine⟨rfl,by simp[aY,GD],?_⟩;simp[aY,GD,-aT];refine cM [.ptr (.par 0) 0] (laid 0 (kG b [] es)) 23 [.loc 14 0,.loc 14 1] (by simp[laid,kG,aY]) jM (by simp[aY]) ?_;generalize kL b [] b.nums.length=hs at *;generalize jR b b.nums.length=ss at *;simp[aY,-aT];refine cM [.ptr (.par 0) 0] (laid 0 (gT b es hs ss)) 24 [.loc 23 0,.loc 23 1,.loc 23 2,.loc 14 0,.loc 14 1] (by simp[laid,gT,aY]) b8 (by simp[laid,gT,aY]) ?_;clear jM b8 hr;cases nY:b.contra
 .simp[laid,gT,aY];rw[<-hR];exact⟨_,rfl,rfl,WM (by unfold Bk.rV;rw[if_pos h0,if_neg (by simp[nY])])⟩
 have hM:b.rV=(b.nums.filter b.s8,0):=by unfold Bk.rV;rw[if_pos h0,if_pos nY]
 rw[hM]at hR;simp[laid,gT,aY,-aT];refine dY (fun m τ=>∃k:Nat,k<=b.nums.length/\m=b.nums.length-k/\τ=Iq b k) ⟨b.nums.length,Iq b 0,Sub.trans' (Sub.mk (by simp[AS.cT]) (by simp[AS.cT,Bk.cells])) (cT 54 3 1 6 rfl (by decide)),0,by omega,rfl,rfl⟩ ?_;rintro J hJ m τ ⟨k,hk,rfl,rfl⟩;have mJ:((b.nums.take k).filter b.s8).length<=1000:=lJ (R3 _ _) (by rw[gI];omega);by_cases aI:k<b.nums.length
 .obtain⟨n,hn⟩:∃n,b.nums[k]?=some n:=⟨_,aX aI⟩;have Jw:(b.nums.map aN)[k]?=some (.i n):=by rw[bR,hn];rfl
  have UN:=bA (k:=k) (by omega);have aB:=hJ _ _ ⟨k+1,aI,rfl,rfl⟩;have aH:b.nums.length-(k+1)<b.nums.length-k:=by omega
  have eK:(b.nums.take (k+1)).filter b.s8=(b.nums.take k).filter b.s8++(if b.s8 n=true then[n]else[]):=by
   rw[lX,hn,H9];congr 1;simp only[Option.toList,xL,List.filter_nil]
  have cZ:b.aA≠[]:=fun e=>by
   obtain⟨c,hc,_⟩:=(x4 hb).1 (dL hn);rw[e]at hc;cases hc
  have cU:=XX hb n;have y9:(b.wo n).fault=0:=Bk.V7.2 cU;have gS:=hb.c;have C8:=Fe (b.wo n) (by have:=cU.i;omega) (by have:=cU.c;omega);have U6:=ZqG b.aA cZ (by omega);have IE:=Ds (.num n) (YT n) b.aA (by omega);have hsu:b.s8 n=!(b.wo n).contra:=by unfold Bk.s8;rfl
  have jL:(b.wo n).pv=.agg [aS b.items,.aE false 7 ((b.aA.filter fun c=>!decide (c.num=n)).map Ct.pv)]:=rfl;unfold Iq at aB ⊢;rw[eK,hsu]at aB;clear hJ eK hsu hR;generalize(b.nums.take k).filter b.s8=Y at *;have hY:(Y.map aN).take Y.length=Y.map aN:=fH (by simp);have hY6:Y.length<=999999:=by omega
  have qA:(b.aA.filter fun c=>!decide (c.num=n)).length<=1000:=lJ (R3 _ _) hc;simp[aI,↓Jw,Bk.cells,-aT];refine cM [.pv (aK b.aA)] [] 38 [] rfl U6 (by simp) ?_;simp[-aT];refine cL [.vec (.par 0) 7 0 b.aA.length,.fn 250 [] [.ptr (.par 1) 0]] (laid 0 (.arr 76 7 (b.aA.map Ct.pv)::(eQ.num n).b 1)) 40 [.loc 38 0,.loc 8 0] (by simp[laid,eQ.b]) IE ?_
  rintro r0 B0 ⟨rfl,X,hX,rfl⟩;refine⟨rfl,by simp[laid,eQ.b],?_⟩;have VH:(X.map Ct.pv).take (b.aA.filter fun c=>!decide (c.num=n)).length=(b.aA.filter fun c=>!decide (c.num=n)).map Ct.pv:=by rw[<-List.map_take,hX]
  have H2:(b.aA.filter fun c=>!decide (c.num=n)).length<=X.length:=by
   have:=congrArg List.length hX
   rw[gI]at this;omega
  generalize(b.aA.filter fun c=>!decide (c.num=n))=Z at *;simp[laid,eQ.b,-aT];refine ZtX [.loc 38 0] (fs:=[]) (xs:=[(b.wo n).pv]) (cs:=[]) rfl ?_ C8 ?_
  .simp[aM,VH,H2,jL]
  rintro r0 B0 (⟨q0,rfl,rfl⟩|⟨q0,Kd,Bv,rfl,rfl⟩)
  .exact absurd y9 q0
  have Sf:=Zt (b.wo n) cU Kd Bv;have hH2:=TD cU [];have mZ:=Zfh cU 1000;have Us:=ZhJ (b.wo n) cU Kd (kL (b.wo n) [] (b.wo n).nums.length) (jR (b.wo n) (b.wo n).nums.length) Bv hH2 mZ;generalize b.wo n=b2 at *;refine⟨by simp[oG,aY,GD,I7],?_⟩;simp[aM,aY,GD,nR,iT,VH,H2,-aT];refine cM [.ptr (.par 0) 0] (laid 0 (kG b2 [] Kd)) 48 [.loc 44 0,.loc 44 1] (by simp[laid,kG,aY]) Sf (by simp[aY]) ?_;generalize kL b2 [] b2.nums.length=qV at *;generalize jR b2 b2.nums.length=ss2 at *;simp[aY,-aT];refine cM [.ptr (.par 0) 0] (laid 0 (gT b2 Kd qV ss2)) 49 [.loc 48 0,.loc 48 1,.loc 48 2,.loc 44 0,.loc 44 1] (by simp[laid,gT,aY]) Us (by simp[laid,gT,aY]) ?_;cases FA:b2.contra
  case true=>
   rw[FA,if_neg (by simp),wW]at aB;simp[laid,gT,aY,UN,-aT];exact⟨_,_,aH,Sub.mk (by simp) (by simp[Bk.cells]),aB⟩
  case false=>
  rw[FA,if_pos (by rfl)]at aB;simp[laid,gT,aY,UN,aP,hY6,-aT];exact⟨_,_,aH,Sub.mk (by simp) (by simp[Bk.cells,aN]),aB⟩
 have he:k=b.nums.length:=by omega
 subst he;clear hJ;unfold Iq;rw[nC]at mJ ⊢;generalize b.nums.filter b.s8=Y at *;have hY:(Y.map aN).take Y.length=Y.map aN:=fH (by simp);simp[hY,-aT];rw[<-hR];exact⟨_,rfl,rfl,fun m v h=>h⟩
end
section
attribute [local irreducible] Bk.fault Bk.rV
theorem OW:jT 3=some 3:=rfl
theorem UC:jT 4=some 4:=rfl
theorem nI5:jT 5=some 5:=rfl
theorem nI6:jT 6=some 6:=rfl
def mB (l:List Ct)(bad:List Int)(x:Ct):Except Int (List Ct):=
 if(l.any fun y=>decide (y.num=x.num))=true then .error 6
 else if Bk.fault ⟨qS,l++[x]⟩=0 then(if(fB (l++[x]) bad).rV.2=7 then .ok (l++[x])else .error 9)
 else .error (Bk.fault ⟨qS,l++[x]⟩)
def crQ (r:Except Int (List Ct))(bad:List Int)(ls:PV)(ts:PV)(rn:PV)(a b c d e:PV):Prop:=∃l',r=.ok l'/\a=aK l'/\b=bG bad/\c=ls/\d=ts/\e=rn
theorem Zu6 (l:List Ct)(bad:List Int)(ls ts rn:PV)(x:Ct)(hl:l.length<=900)(hb:bad.length<=1000):
  sX prog 161 [.ptr (.par 0) 0,.pv (.aE false 1 [iP x.num,iP x.it,iP x.src,iP x.day,iP x.valid,iP x.diff.lo,iP x.diff.hi])] [(.par 0,aO (aK l) (bG bad) ls ts rn)] (xX (crQ (mB l bad x) bad ls ts rn)) (uQ (fun e=>mB l bad x=.error e)):=by
 have N4:=Yw l x.num (bG bad) ls ts rn (by omega);refine cX L161 ?_;generalize hE:(fun e=>mB l bad x=.error e)=E;generalize hQ:crQ (mB l bad x) bad ls ts rn=Q;unfold mB at hE hQ;generalize(l.any fun y=>decide (y.num=x.num))=kn at hE hQ N4;show fO _ (.seq _ (.seq _ (.seq _ _))) _ _ _;cases kn with
 |true=>
  have IV:E 6:=by rw[<-hE];rfl
  refine wZ [_,_,_,_,_,_] ?_;simp[hold,aO,iP,aK];refine cM [.ptr (.par 0) 0,.pv (.i x.num)] [(.par 0,aO (aK l) (bG bad) ls ts rn)] 9 [.par 0] (by simp[aO,aK]) N4 (by simp[aO]) ?_;simp[aO];exact pF 6 IV
 |false=>
 rw[if_neg (by simp)]at hE hQ;refine mH ?_;simp[hold,aO,iP,aK];refine cM [.ptr (.par 0) 0,.pv (.i x.num)] [(.par 0,aO (aK l) (bG bad) ls ts rn)] 9 [.par 0] (by simp[aO,aK]) N4 (by simp[aO]) ?_;simp[aO];refine cG [.bool true,.i 6] (gQ 6) ?_;simp;refine mH ?_;simp[hold,setAt,OW,UC,nI5,nI6];refine .inl (cQ [] [.aE false 7 (l.map Ct.pv),x.pv] (ZoF (l.map Ct.pv) x.num x.it x.src x.day x.valid x.diff.lo x.diff.hi (by rw[fQ];omega)) ?_);have H0:l.map Ct.pv++[.agg [.i x.num,.i x.it,.i x.src,.i x.day,.i x.valid,.i x.diff.lo,.i x.diff.hi]]=(l++[x]).map Ct.pv:=by rw[lI];rfl
 rw[H0];have RD:(l++[x]).length<=1000:=by rw[gE];simp;omega
 generalize l++[x]=L at hE hQ RD ⊢;clear H0 N4;simp[hold];have hwc:=Zr7 L (bG bad) ls ts rn;have II:=ZjM ⟨qS,L⟩ (show qS.length<=1000 by decide) RD;generalize hF:Bk.fault ⟨qS,L⟩=F at hE hQ II;refine mH ?_;simp;refine cM [.ptr (.par 0) 0] [(.par 0,aO (aK L) (bG bad) ls ts rn)] 46 [.par 0] (by simp[aO,aK]) hwc (by simp[aO]) ?_;simp[hold,aO];refine cG [Bk.pv ⟨qS,L⟩] II ?_;simp[hold];by_cases h0:¬F=0
 .rw[if_neg h0]at hE;have hEF:E F:=by rw[<-hE]
  refine wZ [_,_,_] ?_;simp[hold,h0];exact pF F hEF
 have h0:=Decidable.not_not.1 h0;rw[if_pos h0]at hE hQ;refine mH ?_;simp[hold,h0];refine cG [.bool true,.i 0] (gQ 0) ?_;simp[hold];have oB:=Mh L bad ls ts rn RD hb;have wA:=Zmf (fB L bad) (show qS.length<=1000 by decide) (by unfold fB fR;exact lJ (R3 _ _) RD);generalize hS:(fB L bad).rV=sp at hE hQ wA;obtain⟨s1,s2⟩:=sp;refine mH ?_;simp;refine cM [.ptr (.par 0) 0] [(.par 0,aO (aK L) (bG bad) ls ts rn)] 54 [.par 0] (by simp[aO,aK]) oB (by simp[aO]) ?_;simp[aO];refine .inl (cQ [] [(fB L bad).pv] wA ?_);simp[K2];by_cases h7:¬s2=7
 .rw[if_neg h7]at hE;have Vo:E 9:=by rw[<-hE]
  refine Gc [_,_] ?_;simp[hold,h7];exact pF 9 Vo
 have h7:=Decidable.not_not.1 h7;rw[if_pos h7]at hQ;refine GB ?_;simp[hold,h7];refine cG [.bool true,.i 9] (gQ 9) ?_;simp[hold];refine l9 (a:=aK L) (b:=bG bad) (c:=ls) (d:=ts) (e:=rn) [] ?_ ?_
 .simp[bB,aO,aK,bG]
 .rw[<-hQ];exact⟨_,rfl,rfl,rfl,rfl,rfl,rfl⟩
end
end Go.Proofs.YthmbecacehfgfaaGreatDoor
namespace Go.Proofs.YthmbecacehfgfaaGreatDoor.Qn
open Go.RowKit
open Tryz
section
open Go.RowKit Go.ChangeShapes Go.WideShapes Go.Deep
structure Rg where
 lo:Int
 hi:Int
structure Rq where
 hours:Int
 ready:Int
 on:List Bool
structure Qu where
 ms:List (List Rg)
 rs:List Rq
def Rg.pv (r:Rg):PV:=.agg [.i r.lo,.i r.hi]
def iF (l:List Rg):PV:=.aE false 2 (l.map Rg.pv)
def X3 (l:List Bool):PV:=.aE false 1 (l.map PV.bool)
def Rq.pv (r:Rq):PV:=.agg [.i r.hours,.i r.ready,X3 r.on]
def Qu.pv (q:Qu):PV:=.agg [.aE false 1 (q.ms.map iF),.aE false 3 (q.rs.map Rq.pv)]
section
variable {H:Type}{enc:TypeId×Value->H}{W:World}{sp:Nat->Bool}{held:Bool}{r:Reach}{base:Nat}
end
end
theorem GG (n lo hi:Int):aD prog 151 [.i n,.i lo,.i hi] (.bool (decide (lo<=n)&&decide (n<=hi))):=by
 refine cS L151 ?_;by_cases h:lo<=n
 all_goals simp[h,L151]
theorem yD (n lo hi:Int):aD prog 266 [.i n,.i lo,.i hi] (.bool (decide (lo<=n)&&decide (n<=hi))):=by
 refine cS L266 ?_;by_cases h:lo<=n
 all_goals simp[h,L266]
def wD (n:Int):Bool:=decide (0<=n)&&decide (n<=39)
def kU (n:Int):Bool:=decide (0<=n)&&decide (n<=40)
theorem ZrJ (n:Int):aD prog 150 [.i n] (.bool (wD n)):=by
 refine cS L150 ?_;simp[L150];refine gG (k:=0) rfl rfl (GG n 0 39) rfl ?_;simp[wD]
theorem ZrG (n:Int):aD prog 108 [.i n] (.bool (kU n)):=by
 refine cS L108 ?_;simp[L108];refine gG (k:=0) rfl rfl (GG n 0 40) rfl ?_;simp[kU]
def Rg.u0 (r:Rg):Bool:=wD r.lo&&wD r.hi&&decide (r.lo<=r.hi)
theorem ZtA (r:Rg):aD prog 106 [r.pv] (.bool r.u0):=by
 refine cS L106 ?_;simp[L106,Rg.pv];refine gG (k:=0) rfl rfl (ZrJ r.lo) rfl ?_;cases h1:wD r.lo
 .simp[Rg.u0,h1]
 .simp;refine gG (k:=0) rfl rfl (ZrJ r.hi) rfl ?_;cases h2:wD r.hi
  .simp[Rg.u0,h1,h2]
  .simp[Rg.u0,h1,h2]
theorem Zrh (l:List PV)(g:FuncId)(fs cs:List PV)(q:PV->Bool)(hq:∀x∈l,aD prog g (fs++[x]++cs) (.bool (q x)))(hl:l.length<=1000000)(hc:∀x∈l,∃ys,x=.aE false 2 ys):
  aD prog 152 [.aE false 1 l,.fn g fs cs] (.bool (l.any q)):=
 wS 192 (SU (row:=false) hq hl (fun x hx=>by obtain⟨ys,rfl⟩:=hc x hx;exact⟨rfl,by simp⟩))
theorem ZoZ (x:PV)(g:FuncId)(fs cs:List PV)(b:Bool)(hx:∃ys,x=.aE false 2 ys)(hq:aD prog g (fs++[x]++cs) (.bool b)):
  aD prog 153 [x,.ref [.fn g fs cs]] (.bool (!b)):=by
 obtain⟨ys,rfl⟩:=hx;refine cS L153 ?_;simp[L153];refine gG (k:=0) rfl rfl hq rfl ?_;simp
theorem Zly (l:List PV)(g:FuncId)(fs cs:List PV)(q:PV->Bool)(hq:∀x∈l,aD prog g (fs++[x]++cs) (.bool (q x)))(hl:l.length<=1000000)(hc:∀x∈l,∃ys,x=.aE false 2 ys):
  aD prog 109 [.aE false 1 l,.fn g fs cs] (.bool (l.all q)):=
 O4 152 153 (Zrh l 153 [] [.ref [.fn g fs cs]] (fun x=>!q x) (fun x hx=>ZoZ x g fs cs (q x) (hc x hx) (hq x hx)) hl hc)
theorem ZoW (l:List PV)(g:FuncId)(fs cs:List PV)(q:PV->Bool)(hq:∀x∈l,aD prog g (fs++[x]++cs) (.bool (q x)))(hl:l.length<=1000000)(hc:∀x∈l,∃a b,x=.agg [.i a,.i b]):
  aD prog 148 [.aE false 2 l,.fn g fs cs] (.bool (l.any q)):=
 wS 191 (SU (row:=true) hq hl (fun x hx=>by obtain⟨a,b,rfl⟩:=hc x hx;exact⟨_,rfl,rfl⟩))
theorem Zrl (x:PV)(g:FuncId)(fs cs:List PV)(b:Bool)(hx:∃a b,x=.agg [.i a,.i b])(hq:aD prog g (fs++[x]++cs) (.bool b)):
  aD prog 149 [x,.ref [.fn g fs cs]] (.bool (!b)):=by
 obtain⟨a,b,rfl⟩:=hx;refine cS L149 ?_;simp[L149];refine gG (k:=0) rfl rfl hq rfl ?_;simp
theorem Zue (l:List PV)(g:FuncId)(fs cs:List PV)(q:PV->Bool)(hq:∀x∈l,aD prog g (fs++[x]++cs) (.bool (q x)))(hl:l.length<=1000000)(hc:∀x∈l,∃a b,x=.agg [.i a,.i b]):
  aD prog 105 [.aE false 2 l,.fn g fs cs] (.bool (l.all q)):=
 O4 148 149 (ZoW l 149 [] [.ref [.fn g fs cs]] (fun x=>!q x) (fun x hx=>Zrl x g fs cs (q x) (hc x hx) (hq x hx)) hl hc)
theorem Zt9 (l:List PV)(g:FuncId)(fs cs:List PV)(q:PV->Bool)(hq:∀x∈l,aD prog g (fs++[x]++cs) (.bool (q x)))(hl:l.length<=1000000)(hc:∀x∈l,∃a b ys,x=.agg [.i a,.i b,.aE false 1 ys]):
  aD prog 154 [.aE false 3 l,.fn g fs cs] (.bool (l.any q)):=
 wS 193 (SU (row:=true) hq hl (fun x hx=>by obtain⟨a,b,ys,rfl⟩:=hc x hx;exact⟨_,rfl,rfl⟩))
theorem Zrk (x:PV)(g:FuncId)(fs cs:List PV)(b:Bool)(hx:∃a b ys,x=.agg [.i a,.i b,.aE false 1 ys])(hq:aD prog g (fs++[x]++cs) (.bool b)):
  aD prog 155 [x,.ref [.fn g fs cs]] (.bool (!b)):=by
 obtain⟨a,b,ys,rfl⟩:=hx;refine cS L155 ?_;simp[L155];refine gG (k:=0) rfl rfl hq rfl ?_;simp
theorem Zud (l:List PV)(g:FuncId)(fs cs:List PV)(q:PV->Bool)(hq:∀x∈l,aD prog g (fs++[x]++cs) (.bool (q x)))(hl:l.length<=1000000)(hc:∀x∈l,∃a b ys,x=.agg [.i a,.i b,.aE false 1 ys]):
  aD prog 110 [.aE false 3 l,.fn g fs cs] (.bool (l.all q)):=
 O4 154 155 (Zt9 l 155 [] [.ref [.fn g fs cs]] (fun x=>!q x) (fun x hx=>Zrk x g fs cs (q x) (hc x hx) (hq x hx)) hl hc)
theorem Dn (ys:List PV):aD prog 103 [.aE false 2 ys] (.bool (decide ((ys.length:Int)<=6))):=by
 refine cS L103 ?_;simp[-decide_eq_true_eq,L103]
def Fa:PV->Bool
 |.agg [.int _ a,.int _ b]=>Rg.u0 ⟨a,b⟩
 |_=>true
theorem Zsj (l:List Rg)(hl:l.length<=1000000):aD prog 104 [iF l] (.bool (l.all Rg.u0)):=by
 have h:=Zue (l.map Rg.pv) 106 [] [] Fa (fun x hx=>by
  obtain⟨r,_,rfl⟩:=iL.1 hx;exact ZtA r) (by simpa using hl) (fun x hx=>by
  obtain⟨r,_,rfl⟩:=iL.1 hx;exact⟨_,_,rfl⟩)
 have e:(l.map Rg.pv).all Fa=l.all Rg.u0:=by rw[List.all_map];rfl
 rw[e]at h;refine cS L104 ?_;simp[L104,iF];refine gG (k:=0) rfl rfl h rfl ?_;simp
def Rq.okB (n:Nat)(r:Rq):Bool:=kU r.hours&&kU r.ready&&decide ((r.on.length:Int)=n)
theorem YL (q:Qu)(r:Rq):aD prog 107 [r.pv,.ref [.aE false 1 (q.ms.map iF),.aE false 3 (q.rs.map Rq.pv)]] (.bool (r.okB q.ms.length)):=by
 refine cS L107 ?_;simp[L107,Rq.pv];refine gG (k:=0) (fs:=[]) (cs:=[]) rfl rfl (ZrG r.hours) rfl ?_;cases h1:kU r.hours
 .simp[Rq.okB,h1]
 .simp;refine gG (k:=0) (fs:=[]) (cs:=[]) rfl rfl (ZrG r.ready) rfl ?_;cases h2:kU r.ready
  .simp[Rq.okB,h1,h2]
  .simp[X3,Rq.okB,h1,h2]
def Qu.xK (q:Qu):Bool:=decide (4<q.ms.length)||decide (6<q.rs.length)||!(q.ms.all fun l=>decide ((l.length:Int)<=6))
def Qu.bad (q:Qu):Bool:=!(q.ms.all fun l=>l.all Rg.u0)||!(q.rs.all fun r=>r.okB q.ms.length)
def Qu.check (q:Qu):Int:=if q.xK=true then 3 else if q.bad=true then 1 else 0
def RS:PV->Bool
 |.aE _ _ ys=>decide ((ys.length:Int)<=6)
 |_=>true
def Yj:PV->Bool
 |.aE _ _ ys=>ys.all Fa
 |_=>true
def ZD (n:Nat):PV->Bool
 |.agg [.int _ a,.int _ b,.aE _ _ ys]=>kU a&&kU b&&decide ((ys.length:Int)=n)
 |_=>true
theorem WR (q:Qu)(h1:q.ms.length<=1000000)(h2:q.rs.length<=1000000)(h3:∀l∈q.ms,l.length<=1000000):aD prog 67 [q.pv] (.i q.check):=by
 have e1:(q.ms.map iF).all RS=q.ms.all fun l=>decide ((l.length:Int)<=6):=by
  rw[List.all_map];congr 1;funext l;simp[RS,iF]
 have e2:(q.ms.map iF).all Yj=q.ms.all fun l=>l.all Rg.u0:=by
  rw[List.all_map];congr 1;funext l;show((l.map Rg.pv).all Fa)=_;rw[List.all_map];rfl
 have e3:(q.rs.map Rq.pv).all (ZD q.ms.length)=q.rs.all fun r=>r.okB q.ms.length:=by
  rw[List.all_map];congr 1;funext r;simp[ZD,Rq.pv,X3,Rq.okB]
 have a1:=Zly (q.ms.map iF) 103 [] [] RS (fun x hx=>by
  obtain⟨l,_,rfl⟩:=iL.1 hx;exact Dn _) (by simpa using h1) (fun x hx=>by
  obtain⟨l,_,rfl⟩:=iL.1 hx;exact⟨_,rfl⟩)
 have a2:=Zly (q.ms.map iF) 104 [] [] Yj (fun x hx=>by
  obtain⟨l,hl,rfl⟩:=iL.1 hx
  have:=Zsj l (h3 l hl)
  have e:Yj (iF l)=l.all Rg.u0:=by show((l.map Rg.pv).all Fa)=_;rw[List.all_map];rfl
  rw[e];exact this) (by simpa using h1) (fun x hx=>by
  obtain⟨l,_,rfl⟩:=iL.1 hx;exact⟨_,rfl⟩)
 have a3:=Zud (q.rs.map Rq.pv) 107 [] [.ref [.aE false 1 (q.ms.map iF),.aE false 3 (q.rs.map Rq.pv)]] (ZD q.ms.length) (fun x hx=>by
  obtain⟨r,_,rfl⟩:=iL.1 hx;have e:ZD q.ms.length r.pv=r.okB q.ms.length:=by simp[ZD,Rq.pv,X3,Rq.okB]
  rw[e];exact YL q r) (by simpa using h2) (fun x hx=>by
  obtain⟨r,_,rfl⟩:=iL.1 hx;exact⟨_,_,_,rfl⟩)
 rw[e1]at a1;rw[e2]at a2;rw[e3]at a3;have hb:q.xK=(decide (4<q.ms.length)||decide (6<q.rs.length)||!(q.ms.all fun l=>decide ((l.length:Int)<=6))):=rfl;have hd:q.bad=(!(q.ms.all fun l=>l.all Rg.u0)||!(q.rs.all fun r=>r.okB q.ms.length)):=rfl;unfold Qu.check;generalize(q.ms.all fun l=>decide ((l.length:Int)<=6))=b1 at *;generalize(q.ms.all fun l=>l.all Rg.u0)=b2 at *;generalize(q.rs.all fun r=>r.okB q.ms.length)=b3 at *;refine cS L67 ?_;by_cases c1:4<q.ms.length
 .have k1:(4:Int)<(q.ms.length:Int):=by omega
  have C0:¬((q.ms.length:Int)<=4):=by omega
  simp[L67,Qu.pv,k1,hb,c1]
 .have d1:decide ((4:Int)<(q.ms.length:Int))=false:=by simp;omega
  by_cases c2:6<q.rs.length
  .have d2:decide ((6:Int)<(q.rs.length:Int))=true:=by simp;omega
   simp[-decide_eq_true_eq,-decide_eq_false_iff_not,L67,Qu.pv,d1,d2];simp[hb,c1,c2]
  .have d2:decide ((6:Int)<(q.rs.length:Int))=false:=by simp;omega
   simp[-decide_eq_true_eq,-decide_eq_false_iff_not,L67,Qu.pv,d1,d2];refine gG (k:=4) rfl rfl a1 rfl ?_;cases b1
   .simp[hb,c1,c2]
   .simp;refine gG (k:=4) rfl rfl a2 rfl ?_;cases b2
    .simp[hb,hd,c1,c2]
    .simp;refine gG (k:=4) rfl rfl a3 rfl ?_;cases b3<;>simp[hb,hd,c1,c2]
def Qu.cells (q:Qu):List AV:=[.pv (.aE false 1 (q.ms.map iF)),.pv (.aE false 3 (q.rs.map Rq.pv))]


def aN (n:Int):PV:=.i n
def bT (l:List Int):PV:=.aE false 1 (l.map aN)
def eG (p:List (List Int)):PV:=.aE false 1 (p.map bT)
theorem jH {k:Nat}(h:k<=1000000):IntKind.i64.wrap ((k:Int)+1)=((k+1:Nat):Int):=by rw[wrap64 (by omega)];omega
def Qu.tT (q:Qu)(i:Int):Int:=((q.rs[i.toNat]?).map Rq.hours).getD 0
def Qu.sF (q:Qu)(l:List Int):Int:=(l.map q.tT).sum
theorem Qu.ZxP {q:Qu}(hh:∀r∈q.rs,0<=r.hours/\r.hours<=40)(i:Int):0<=q.tT i/\q.tT i<=40:=by
 unfold Qu.tT;cases h:q.rs[i.toNat]? with
 |none=>simp
 |some r=>exact hh r (dL h)
theorem Qu.Zw3 {q:Qu}(hh:∀r∈q.rs,0<=r.hours/\r.hours<=40):∀l:List Int,0<=q.sF l/\q.sF l<=40*l.length
 |[]=>by simp[Qu.sF]
 |a::l=>by
  have h1:=Qu.Zw3 hh l;have h2:=q.ZxP hh a;have e:q.sF (a::l)=q.tT a+q.sF l:=by simp[Qu.sF]
  rw[e,pA];omega
theorem Qu.Zxb (q:Qu)(a b:List Int):q.sF (a++b)=q.sF a+q.sF b:=by simp[Qu.sF]
theorem HF (q:Qu)(l:List Int)(hl:l.length<=1000)(hr:q.rs.length<=1000)(hh:∀r∈q.rs,0<=r.hours/\r.hours<=40)(gA:∀x∈l,0<=x/\x<q.rs.length):aD prog 129 [q.pv,bT l] (.i (q.sF l)):=by
 refine cS L129 ?_;simp[L129,Qu.pv,bT];refine dY (fun n τ=>∃k:Nat,k<=l.length/\n=l.length-k/\τ=⟨[(1,.pv (bT l)),(2,.ptr (.loc 2 0) 0),(5,.pv (.i (q.sF (l.take k)))),(6,.pv (.i k))],[(.loc 2 0,.cells q.cells)]⟩)
  ⟨l.length,⟨[(1,.pv (bT l)),(2,.ptr (.loc 2 0) 0),(5,.pv (.i 0)),(6,.pv (.i 0))],[(.loc 2 0,.cells q.cells)]⟩,Sub.mk (by simp[bT]) (by simp[Qu.cells]),0,fT _,rfl,by simp[Qu.sF]⟩ ?_
 rintro J hJ n τ ⟨k,hk,rfl,rfl⟩;by_cases aI:k<l.length
 .obtain⟨x,hx⟩:∃x,l[k]?=some x:=⟨l[k],aX aI⟩;obtain⟨BV,Z1⟩:=gA x (dL hx);obtain⟨i,rfl⟩:∃i:Nat,x=i:=⟨x.toNat,by omega⟩;obtain⟨r,wC⟩:∃r,q.rs[i]?=some r:=⟨q.rs[i]'(by omega),aX _⟩;have QQ:(l.map aN)[k]?=some (.i i):=by rw[bR,hx];rfl
  have G9:(q.rs.map Rq.pv)[i]?=some (.agg [.i r.hours,.i r.ready,X3 r.on]):=by rw[bR,wC];rfl
  have hw:=jH (k:=k) (by omega);have iH:q.sF (l.take (k+1))=q.sF (l.take k)+r.hours:=by
   rw[lX,hx,Qu.Zxb];simp[Qu.sF,Qu.tT,wC]
  have hb:=Qu.Zw3 hh (l.take k);have pN:(l.take k).length<=1000:=by rw[gI];omega
  have QX:=hh r (dL wC);have sL:IntKind.i64.wrap (q.sF (l.take k)+r.hours)=q.sF (l.take k)+r.hours:=wrap64 (by omega);have aB:=hJ _ _ ⟨k+1,aI,rfl,rfl⟩;clear hJ;simp[bT,Qu.cells,aI,↓QQ,↓G9,hw,sL];refine⟨_,_,(by omega:l.length-(k+1)<l.length-k),Sub.mk ?_ ?_,aB⟩
  .simp[bT,iH]
  .simp[Qu.cells]
 .have he:k=l.length:=by omega
  subst he;simp[bT,Qu.cells]
def Rg.has (s:Rg)(h:Int):Bool:=decide (s.lo<=h)&&decide (h<=s.hi)
theorem Zsk (s:Rg)(h:Int):aD prog 294 [s.pv,.ref [.i h]] (.bool (s.has h)):=by
 refine cS L294 ?_;simp[L294,Rg.pv];refine gG (k:=0) rfl rfl (GG h s.lo s.hi) rfl ?_;simp[Rg.has]
def Cp (h:Int):PV->Bool
 |.agg [.int _ a,.int _ b]=>Rg.has ⟨a,b⟩ h
 |_=>false
def Qu.run (q:Qu)(i:Nat):Rq:=(q.rs[i]?).getD ⟨0,0,[]⟩
def Qu.stops (q:Qu)(m:Nat):List Rg:=(q.ms[m]?).getD []
def Qu.may (q:Qu)(i m:Nat)(h:Int):Bool:=((q.run i).on[m]?).getD false&&decide ((q.run i).ready<=h)&&!(q.stops m).any (Rg.has · h)
structure Qu.ok (q:Qu):Prop where
 m:q.ms.length<=4
 r:q.rs.length<=6
 s:∀l∈q.ms,l.length<=6
 x:∀l∈q.ms,∀y∈l,0<=y.lo/\y.lo<=y.hi/\y.hi<=39
 h:∀r∈q.rs,0<=r.hours/\r.hours<=40
 d:∀r∈q.rs,0<=r.ready/\r.ready<=40
 f:∀r∈q.rs,r.on.length=q.ms.length
theorem Qu.Ks {q:Qu}(h:q.check=0):q.ok:=by
 unfold Qu.check at h;split at h
 .cases h
 .rename_i h1;split at h
  .cases h
  .rename_i h2;simp only[Qu.xK,Bool.not_eq_true,Bool.or_eq_false_iff,decide_eq_false_iff_not,Bool.not_eq_false',qZ,decide_eq_true_eq]at h1;simp only[Qu.bad,Bool.not_eq_true,Bool.or_eq_false_iff,Bool.not_eq_false',qZ]at h2;obtain⟨⟨a1,a2⟩,a3⟩:=h1;obtain⟨b1,b2⟩:=h2;refine⟨by omega,by omega,fun l hl=>by have:=a3 l hl;omega,fun l hl y hy=>?_,fun r hr=>?_,fun r hr=>?_,fun r hr=>?_⟩
   .have:=b1 l hl y hy
    simp only[Rg.u0,wD,dK,decide_eq_true_eq]at this;omega
   all_goals
    have:=b2 r hr
    simp only[Rq.okB,kU,dK,decide_eq_true_eq]at this;omega
theorem ZI (q:Qu)(hq:q.ok)(i m:Nat)(h:Int)(hi:i<q.rs.length)(hm:m<q.ms.length):aD prog 280 [q.pv,.i i,.i m,.i h] (.bool (q.may i m h)):=by
 obtain⟨r,hr⟩:∃r,q.rs[i]?=some r:=⟨q.rs[i],aX hi⟩;obtain⟨l,hl⟩:∃l,q.ms[m]?=some l:=⟨q.ms[m],aX hm⟩;obtain⟨b,hb⟩:∃b,r.on[m]?=some b:=⟨r.on[m]'(by rw[hq.f r (dL hr)];exact hm),aX _⟩;have zL:=hq.s l (dL hl);have e:q.may i m h=(b&&decide (r.ready<=h)&&!l.any (Rg.has · h)):=by simp[Qu.may,Qu.run,Qu.stops,hr,hl,hb]
 have g1:(q.rs.map Rq.pv)[i]?=some (.agg [.i r.hours,.i r.ready,.aE false 1 (r.on.map PV.bool)]):=by rw[bR,hr];rfl
 have g2:(q.ms.map iF)[m]?=some (.aE false 2 (l.map Rg.pv)):=by rw[bR,hl];rfl
 have g3:(r.on.map PV.bool)[m]?=some (.bool b):=by rw[bR,hb];rfl
 have a1:=ZoW (l.map Rg.pv) 294 [] [.ref [.i h]] (Cp h) (fun x hx=>by
  obtain⟨s,_,rfl⟩:=iL.1 hx;exact Zsk s h) (by simp;omega) (fun x hx=>by
  obtain⟨s,_,rfl⟩:=iL.1 hx;exact⟨_,_,rfl⟩)
 have e2:(l.map Rg.pv).any (Cp h)=l.any (Rg.has · h):=by rw[List.any_map];rfl
 rw[e2]at a1;rw[e];generalize l.any (Rg.has · h)=c at *;clear e zL e2;refine cS L280 ?_;cases b
 .simp[L280,Qu.pv,↓g1,↓g3]
 .by_cases hd:r.ready<=h
  .simp[L280,Qu.pv,↓g1,↓g2,↓g3,hd];refine gG (k:=4) (fs:=[]) (xs:=[.aE false 2 (l.map Rg.pv),.fn 294 [] [.ref [.i h]]]) (cs:=[]) rfl rfl a1 rfl ?_;simp
  .simp[L280,Qu.pv,↓g1,↓g3,hd]
def kM (p:List (List Int))(i:Nat):Nat:=(p.map (List.count (i:Int))).sum
theorem Ma (a b:List (List Int))(i:Nat):kM (a++b) i=kM a i+kM b i:=by simp[kM]
theorem ZtU (l:List Int)(i:Nat):kM [l] i=l.count (i:Int):=by simp[kM]
theorem OA {α:Type}{l:List α}{k:Nat}{x:α}(h:l[k]?=some x):l.take (k+1)=l.take k++[x]:=by rw[lX,h];rfl

theorem Zuu (q:Qu)(hq:q.ok)(i m:Nat)(h:Int)(hi:i<q.rs.length)(hm:m<q.ms.length):aD prog 217 [q.pv,.i i,.i m,.i h] (.bool (q.may i m h)):=by
 obtain⟨r,hr⟩:∃r,q.rs[i]?=some r:=⟨q.rs[i],aX hi⟩;obtain⟨l,hl⟩:∃l,q.ms[m]?=some l:=⟨q.ms[m],aX hm⟩;obtain⟨b,hb⟩:∃b,r.on[m]?=some b:=⟨r.on[m]'(by rw[hq.f r (dL hr)];exact hm),aX _⟩;have zL:=hq.s l (dL hl);have e:q.may i m h=(b&&decide (r.ready<=h)&&!(l.take l.length).any (Rg.has · h)):=by simp[Qu.may,Qu.run,Qu.stops,hr,hl,hb]
 have g1:(q.rs.map Rq.pv)[i]?=some (.agg [.i r.hours,.i r.ready,.aE false 1 (r.on.map PV.bool)]):=by rw[bR,hr];rfl
 have g2:(q.ms.map iF)[m]?=some (.aE false 2 (l.map Rg.pv)):=by rw[bR,hl];rfl
 have g3:(r.on.map PV.bool)[m]?=some (.bool b):=by rw[bR,hb];rfl
 obtain⟨C,hC⟩:∃C,C=(b&&decide (r.ready<=h)):=⟨_,rfl⟩;rw[e,<-hC];clear e;refine cS L217 ?_;cases b<;>by_cases hd:r.ready<=h
 all_goals
  simp[L217,Qu.pv,↓g1,↓g3,hd];refine dY (fun n τ=>∃k:Nat,k<=l.length/\n=l.length-k/\τ=⟨[(2,.pv (.i m)),(3,.pv (.i h)),(4,.ptr (.loc 4 0) 0),(10,.pv (.bool (C&&!(l.take k).any (Rg.has · h)))),(11,.pv (.i k))],[(.loc 4 0,.cells q.cells)]⟩)
   ⟨l.length,⟨[(2,.pv (.i m)),(3,.pv (.i h)),(4,.ptr (.loc 4 0) 0),(10,.pv (.bool C)),(11,.pv (.i 0))],[(.loc 4 0,.cells q.cells)]⟩,Sub.mk (by simp[hC,hd]) (by simp[Qu.cells]),0,fT _,rfl,by simp⟩ ?_
  clear hC hd;rintro J hJ n τ ⟨k,hk,rfl,rfl⟩;by_cases aI:k<l.length
  .obtain⟨x,hx⟩:∃x,l[k]?=some x:=⟨l[k],aX aI⟩;have g4:(l.map Rg.pv)[k]?=some (.agg [.i x.lo,.i x.hi]):=by rw[bR,hx];rfl
   have hw:=jH (k:=k) (by omega);have aB:=hJ _ _ ⟨k+1,aI,rfl,rfl⟩;have kC:(C&&!(l.take (k+1)).any (Rg.has · h))=((C&&!(l.take k).any (Rg.has · h))&&!x.has h):=by
    rw[OA hx,List.any_append,List.any_cons,List.any_nil,Bool.or_false,Bool.not_or,Bool.and_assoc]
   have aH:l.length-(k+1)<l.length-k:=by omega
   clear hJ;generalize(C&&!(l.take (k+1)).any (Rg.has · h))=C2 at *;generalize(C&&!(l.take k).any (Rg.has · h))=C1 at *;subst kC;cases C1
   .simp[Qu.cells,↓g2,↓g4,aI,hw];exact⟨_,_,aH,Sub.mk (by simp) (by simp[Qu.cells]),aB⟩
   .simp[Qu.cells,↓g2,↓g4,aI];refine gG (k:=0) (fs:=[]) (cs:=[]) rfl rfl (yD h x.lo x.hi) rfl ?_;simp[hw,-Bool.not_and];exact⟨_,_,aH,Sub.mk (by simp[Rg.has]) (by simp[Qu.cells]),aB⟩
  .have he:k=l.length:=by omega
   subst he;simp[Qu.cells,↓g2]

def Qu.SJ (q:Qu)(l:List Int)(i:Nat):Bool:=decide (0<=(l[i]?).getD (-1))&&decide ((l[i]?).getD (-1)<=(q.rs.length:Int)-1)&&(decide (i=0)||decide ((l[i-1]?).getD (-1)<(l[i]?).getD (-1)))
def Qu.rising (q:Qu)(l:List Int):Bool:=(List.range l.length).all (q.SJ l)
theorem ZqI (l:List Int)(hl:l.length<=1000000):aD prog 40 [bT l] (bT l):=by
 refine cN.j4 ?_;refine cF [.loc 7 0] L40 ?_;cases l with
 |nil=>
  simp[L40,bT,dH,x3,aP,bY,B4];exact fun m v h=>AM h
 |cons a l=>
  have h1:l.length+1<=1000000:=by simpa using hl
  have hm:(l.map aN).take l.length=l.map aN:=fH (by simp);simp[L40,bT,dH,aP,h1,hm]


section
theorem Zdy {P:Program}{C:Cons P}{c:C.S}{k:Nat}:((laid 0 (C.X c)).filter fun p=>!p.1.fP k).map (fun p=>(p.1,p.2.bI k))=laid 0 (C.X c):=ZeA (C.cl c)
theorem ZuV:aD prog 112 [] (.agg [.i (-1),.i (-1),.i (-1),.i (-1)]):=by
 refine cS L112 ?_;simp[L112];refine dY (fun n τ=>(n=4/\τ=⟨[(0,.ptr (.loc 0 0) 0),(2,.pv (.i 0))],[(.loc 0 0,.cells [.pv (.i 0),.pv (.i 0),.pv (.i 0),.pv (.i 0)])]⟩)\/
  (n=3/\τ=⟨[(0,.ptr (.loc 0 0) 0),(2,.pv (.i 1))],[(.loc 0 0,.cells [.pv (.i (-1)),.pv (.i 0),.pv (.i 0),.pv (.i 0)])]⟩)\/
  (n=2/\τ=⟨[(0,.ptr (.loc 0 0) 0),(2,.pv (.i 2))],[(.loc 0 0,.cells [.pv (.i (-1)),.pv (.i (-1)),.pv (.i 0),.pv (.i 0)])]⟩)\/
  (n=1/\τ=⟨[(0,.ptr (.loc 0 0) 0),(2,.pv (.i 3))],[(.loc 0 0,.cells [.pv (.i (-1)),.pv (.i (-1)),.pv (.i (-1)),.pv (.i 0)])]⟩)\/
  (n=0/\τ=⟨[(0,.ptr (.loc 0 0) 0),(2,.pv (.i 4))],[(.loc 0 0,.cells [.pv (.i (-1)),.pv (.i (-1)),.pv (.i (-1)),.pv (.i (-1))])]⟩)) ⟨4,_,Sub.mk (by simp) (by simp),.inl ⟨rfl,rfl⟩⟩ ?_
 have w1:IntKind.i64.wrap 1=1:=rfl;have w2:IntKind.i64.wrap 2=2:=rfl;have w3:IntKind.i64.wrap 3=3:=rfl;have w4:IntKind.i64.wrap 4=4:=rfl;have n3:jT 3=some 3:=rfl;rintro J hJ n τ (⟨rfl,rfl⟩|⟨rfl,rfl⟩|⟨rfl,rfl⟩|⟨rfl,rfl⟩|⟨rfl,rfl⟩)
 .have aB:=hJ _ _ (.inr (.inl ⟨rfl,rfl⟩));clear hJ;simp[w1,cO,aP];exact⟨_,_,(by omega:3<4),Sub.mk (by simp) (by simp),aB⟩
 .have aB:=hJ _ _ (.inr (.inr (.inl ⟨rfl,rfl⟩)));clear hJ;simp[w2,cO,aP];exact⟨_,_,(by omega:2<3),Sub.mk (by simp) (by simp),aB⟩
 .have aB:=hJ _ _ (.inr (.inr (.inr (.inl ⟨rfl,rfl⟩))));clear hJ;simp[w3,cO,aP];exact⟨_,_,(by omega:1<2),Sub.mk (by simp) (by simp),aB⟩
 .have aB:=hJ _ _ (.inr (.inr (.inr (.inr ⟨rfl,rfl⟩))));clear hJ;simp[w4,n3,cO,aP];exact⟨_,_,(by omega:0<1),Sub.mk (by simp) (by simp),aB⟩
 .simp
def ZJ (q:Qu)(i:Nat)(h:Int):PV:=.fn 279 [] [.ref [.aE false 1 (q.ms.map iF),.aE false 3 (q.rs.map Rq.pv)],.ref [.i i],.ref [.i h]]
theorem Zev (q:Qu)(i:Nat)(h:Int):aD prog 245 [q.pv,.i i,.i h] (ZJ q i h):=by
 refine cF [.loc 3 0,.loc 4 0,.loc 5 0] L245 ?_;simp[L245,Qu.pv,eB,FD];rfl
attribute [local simp] ZfQ ZfP ZfO Zdt Zfl Zfm Zeo Zdy
attribute [local simp] AV.map AV.iR dO Site.uI aL.dC AV.dC AV.hZ AS.lY
def Qu.F3 (q:Qu)(i:Nat)(h:Int)(k:Nat):List Nat:=((List.range q.ms.length).take k).filter (fun m=>q.may i m h)
theorem Qu.Zxd (q:Qu){i:Nat}{h:Int}{k:Nat}(hk:k<q.ms.length):q.F3 i h (k+1)=q.F3 i h k++(if q.may i k h=true then[k]else[]):=by
 have:(List.range q.ms.length)[k]?=some k:=by rw[List.getElem?_range hk]
 unfold Qu.F3;rw[OA this,H9,xL,List.filter_nil]
end
section
abbrev GR:=List Bool×List Int×Bool
def nN (rec:Nat->List Bool->List Int->GR)(run:Nat):List Nat->List Bool->List Int->GR
 |[],t,w=>(t,w,false)
 |m::r,t,w=>if(t[m]?).getD true=true then nN rec run r t w else
  if(w[m]?).getD (-1) = -1 then(t.set m true,w.set m run,true)else
  if(rec ((w[m]?).getD (-1)).toNat (t.set m true) w).2.2=true then((rec ((w[m]?).getD (-1)).toNat (t.set m true) w).1,(rec ((w[m]?).getD (-1)).toNat (t.set m true) w).2.1.set m run,true)
  else nN rec run r (rec ((w[m]?).getD (-1)).toNat (t.set m true) w).1 (rec ((w[m]?).getD (-1)).toNat (t.set m true) w).2.1
def Qu.AG (q:Qu)(h:Int):Nat->Nat->List Bool->List Int->GR
 |0,_,t,w=>(t,w,false)
 |n+1,run,t,w=>nN (q.AG h n) run (q.F3 run h q.ms.length) t w
def A2 (t:List Bool):Nat:=t.count false
structure GW (q:Qu)(t:List Bool)(w:List Int):Prop where
 t4:t.length=4
 w4:w.length=4
 ok:∀x∈w,x = -1\/(0<=x/\x<q.rs.length)
theorem Zmn {t:List Bool}{m:Nat}(h:t[m]?=some false):A2 (t.set m true)+1=A2 t:=by
 induction t generalizing m with
 |nil=>simp at h
 |cons a r ih=>
  cases m with
  |zero=>simp at h;subst h;simp[A2]
  |succ m=>
   have h':r[m]?=some false:=by simpa using h
   have:=ih h'
   cases a<;>simp[A2]at this ⊢<;>omega
theorem GW.set {q:Qu}{t:List Bool}{w:List Int}(h:GW q t w)(m:Nat):GW q (t.set m true) w:=⟨by simpa using h.t4,h.w4,h.ok⟩
theorem GW.put {q:Qu}{t:List Bool}{w:List Int}(h:GW q t w)(m:Nat){run:Nat}(hr:run<q.rs.length):GW q t (w.set m run):=
 ⟨h.t4,by simpa using h.w4,fun x hx=>by
  rcases List.mem_or_eq_of_mem_set hx with hx|hx
  .exact h.ok x hx
  .subst hx;right;omega⟩
theorem GW.at {q:Qu}{t:List Bool}{w:List Int}(h:GW q t w){m:Nat}(hm:m<4):∃b x,t[m]?=some b/\w[m]?=some x/\(x = -1\/(0<=x/\x<q.rs.length)):=by
 have h1:m<t.length:=by rw[h.t4];exact hm
 have h2:m<w.length:=by rw[h.w4];exact hm
 exact⟨t[m],w[m],aX h1,aX h2,h.ok _ (zX h2)⟩
theorem Zhw {q:Qu}{rec:Nat->List Bool->List Int->GR}{n:Nat}(nG:∀run t w,run<q.rs.length->GW q t w->GW q (rec run t w).1 (rec run t w).2.1/\A2 (rec run t w).1<=A2 t){run:Nat}(hr:run<q.rs.length):
  ∀(l:List Nat),(∀m∈l,m<4)->∀(t:List Bool) (w:List Int),GW q t w->GW q (nN rec run l t w).1 (nN rec run l t w).2.1/\A2 (nN rec run l t w).1<=A2 t
 |[],_,t,w,h=>⟨h,fE _⟩
 |m::r,hl,t,w,h=>by
  obtain⟨b,x,h1,h2,h3⟩:=h.at (hl m (by simp));have lH:∀m∈r,m<4:=fun m hm=>hl m (by simp[hm])
  unfold nN;rw[h1,h2];simp only[rS];cases b with
  |true=>rw[if_pos rfl];exact Zhw (n:=n) nG hr r lH t w h
  |false=>
   rw[if_neg (by simp)];have hu:=Zmn h1;split
   .exact⟨(h.set m).put m hr,by show A2 (t.set m true)<=_;omega⟩
   .rename_i hx;have Ru:x.toNat<q.rs.length:=by rcases h3 with h3|h3;exact absurd h3 hx;omega
    obtain⟨k1,k2⟩:=nG x.toNat (t.set m true) w Ru (h.set m);split
    .exact⟨k1.put m hr,by show A2 (rec x.toNat (t.set m true) w).1<=_;omega⟩
    .obtain⟨k3,k4⟩:=Zhw (n:=n) nG hr r lH _ _ k1;exact⟨k3,by omega⟩
theorem Ls {q:Qu}(hq:q.ok){i:Nat}{h:Int}{k:Nat}:∀m∈q.F3 i h k,m<q.ms.length:=fun m hm=>by
 unfold Qu.F3 at hm
 have:=List.mem_of_mem_take (iY.1 hm).1
 simpa using this
theorem Mu {q:Qu}(hq:q.ok)(h:Int):∀(n run:Nat) (t:List Bool) (w:List Int),run<q.rs.length->GW q t w->GW q (q.AG h n run t w).1 (q.AG h n run t w).2.1/\A2 (q.AG h n run t w).1<=A2 t
 |0,run,t,w,_,hw=>⟨hw,fE _⟩
 |n+1,run,t,w,hr,hw=>Zhw (n:=n) (fun run t w hr hw=>Mu hq h n run t w hr hw) hr _ (fun m hm=>by have:=Ls hq m hm;have:=hq.m;omega) t w hw
def bl (t:List Bool):List AV:=t.map fun b=>.pv (.bool b)
def il (w:List Int):List AV:=w.map fun n=>.pv (.i n)
theorem Zhc {q:Site->Bool}:∀(l:List PV),AV.hZ q (l.map .pv)=true
 |[]=>rfl
 |a::r=>by simp[AV.hZ,AV.dC,Zhc r]
theorem Zhb {g:Site->Site}:∀(l:List PV),AV.iR g (l.map .pv)=l.map .pv
 |[]=>rfl
 |a::r=>by simp[AV.iR,AV.map,Zhb r]
theorem Zif {d:Nat}(l:List PV):(l.map AV.pv).map (AV.bI d)=l.map .pv:=by rw[List.map_map];rfl
theorem DM (t:List Bool):bl t=(t.map PV.bool).map .pv:=by rw[List.map_map];rfl
theorem BR (t:List Int):il t=(t.map (PV.int .i64)).map .pv:=by rw[List.map_map];rfl
theorem Xq {q:Site->Bool}{t:List Bool}:AV.hZ q (bl t)=true:=by rw[DM];exact Zhc _
theorem Xo {q:Site->Bool}{t:List Int}:AV.hZ q (il t)=true:=by rw[BR];exact Zhc _
theorem Xr {g:Site->Site}{t:List Bool}:AV.iR g (bl t)=bl t:=by rw[DM];exact Zhb _
theorem Xp {g:Site->Site}{t:List Int}:AV.iR g (il t)=il t:=by rw[BR];exact Zhb _
theorem Xt {d:Nat}{t:List Bool}:(bl t).map (AV.bI d)=bl t:=by rw[DM];exact Zif _
theorem Xs {d:Nat}{t:List Int}:(il t).map (AV.bI d)=il t:=by rw[BR];exact Zif _
attribute [local simp] Xq Xo Xr Xp Xt Xs
end
section
attribute [local simp] Xq Xo Xr Xp Xt Xs

end
section
attribute [local simp] AS.exp jV aL.iW AV.map AV.iR rB dO Site.uI aL.dC AV.dC AV.hZ cK AS.lY eY gH bX oV kB mT gK s6
attribute [local simp] Xq Xo Xr Xp Xt Xs
def fA:List Int:=[-1,-1,-1,-1]
def o7:List Bool:=[false,false,false,false]
def Qu.yN (q:Qu)(h:Int)(runs:List Int):Nat->Nat×List Int
 |0=>(0,fA)
 |k+1=>((q.yN h runs k).1+(if(q.AG h 5 ((runs[k]?).getD 0).toNat o7 (q.yN h runs k).2).2.2=true then 1 else 0),(q.AG h 5 ((runs[k]?).getD 0).toNat o7 (q.yN h runs k).2).2.1)
def Qu.DQ (q:Qu)(h:Int)(runs:List Int):Nat:=(q.yN h runs runs.length).1
theorem GW.idle {q:Qu}:GW q o7 fA:=⟨rfl,rfl,fun x hx=>by simp[fA]at hx;exact .inl hx⟩
theorem GW.fresh {q:Qu}{t:List Bool}{w:List Int}(h:GW q t w):GW q o7 w:=⟨rfl,h.w4,h.ok⟩
theorem Qu.Zxu {q:Qu}(hq:q.ok){h:Int}{runs:List Int}(gA:∀x∈runs,0<=x/\x<q.rs.length):∀k,k<=runs.length->GW q o7 (q.yN h runs k).2/\(q.yN h runs k).1<=k
 |0,_=>⟨GW.idle,fE _⟩
 |k+1,hk=>by
  obtain⟨h1,h2⟩:=Qu.Zxu hq (h:=h) gA k (by omega);have hx:runs[k]?=some runs[k]:=aX (by omega);have hr:=gA _ (dL hx)
  have:=Mu hq h 5 ((runs[k]?).getD 0).toNat o7 (q.yN h runs k).2 (by rw[hx];simp only[rS];omega) h1
  refine⟨this.1.fresh,?_⟩;show(q.yN h runs k).1+_<=k+1
  split<;>omega
def Qu.AH (q:Qu)(runs:List Int):Nat->Nat
 |0=>0
 |h+1=>q.AH runs h+q.DQ h runs
theorem Qu.Zw9 {q:Qu}{l:List Int}(h:q.rising l=true):∀x∈l,0<=x/\x<q.rs.length:=fun x hx=>by
 obtain⟨i,hi⟩:=iM.1 hx;have hl:=(bZ.1 hi).1;simp only[Qu.rising,qZ,List.mem_range]at h
 have:=h i hl
 simp only[Qu.SJ,hi,rS,dK,decide_eq_true_eq]at this;omega
end
inductive Nd where
 |ru (r:Nat)
 |rh (r h:Nat)
 |mh (m h:Nat)
 deriving DecidableEq
def Nd.pv:Nd->PV
 |.ru r=>.agg [.i r,.i (-1),.i (-1)]
 |.rh r h=>.agg [.i r,.i (-1),.i h]
 |.mh m h=>.agg [.i (-1),.i m,.i h]
def Nd.kind:Nd->Nat
 |.ru _=>0
 |.rh _ _=>1
 |.mh _ _=>2
def rowP (r:List Int):PV:=.agg (r.map (PV.int .i64))
def jS (p:List (List Int)):List PV:=p.map rowP
def HD (l:List Int)(run:Int):Int:=match l.findIdx? (fun x=>decide (run=x))with
 |some i=>i
 |none=>-1
def xE (p:List (List Int))(run:Int)(h:Nat):Int:=HD ((p[h]?).getD []) run
def gJ (p:List (List Int))(h m:Nat):Int:=(((p[h]?).getD [])[m]?).getD (-1)
def bK (q:Qu)(p:List (List Int))(b:Nat):List aL:=[.cells [.pv (.aE false 1 (q.ms.map iF)),.pv (.aE false 3 (q.rs.map Rq.pv)),.vec (.par b) 4 0 p.length],.arr 151 4 (jS p)]
def four (p:List (List Int)):Prop:=∀l∈p,l.length=4
theorem Ztq (l:List Int)(hl:l.length<=1000)(v:Int):aD prog 100 [.aE false 1 (l.map (PV.int .i64)),.i v] (.i (HD l v)):=by
 refine cS L100 ?_;simp[L100];refine dY (fun n τ=>∃k:Nat,k<=l.length/\n=l.length-k/\(∀(j:Nat) (x:Int),j<k->l[j]?=some x->decide (v=x)=false)/\τ=⟨[(0,.pv (.aE false 1 (l.map (PV.int .i64)))),(1,.pv (.i v)),(7,.pv (.i l.length)),(8,.pv (.i k))],[]⟩)
  ⟨l.length,⟨[(0,.pv (.aE false 1 (l.map (PV.int .i64)))),(1,.pv (.i v)),(7,.pv (.i l.length)),(8,.pv (.i 0))],[]⟩,Sub.mk (by simp) (by simp),0,fT _,rfl,(fun j x hj=>by omega),rfl⟩ ?_
 rintro J hJ n τ ⟨k,hk,rfl,hinv,rfl⟩;by_cases aI:k<l.length
 .obtain⟨x,hx⟩:∃x,l[k]?=some x:=⟨l[k],aX aI⟩;have hg:(l.map (PV.int .i64))[k]?=some (.i x):=by rw[bR,hx];rfl
  have hw:=jH (k:=k) (by omega);have aH:l.length-(k+1)<l.length-k:=by omega
  by_cases h1:v=x
  .have hf:l.findIdx? (fun x=>decide (v=x))=some k:=by
    rw[JL];refine⟨aI,by rw[(bZ.1 hx).2];simpa using h1,fun j hj=>?_⟩
    have:=hinv j l[j] hj (aX (by omega))
    simpa using this
   unfold HD;rw[hf];simp[aI,↓hg,h1]
  .have aB:=hJ _ _ ⟨k+1,aI,rfl,(fun j y hj hy=>by
    rcases Nat.lt_succ_iff_lt_or_eq.1 hj with h|h
    .exact hinv j y h hy
    .subst h;rw[hx]at hy;cases hy;simpa using h1),rfl⟩
   clear hJ;simp[aI,↓hg,h1,hw];exact⟨_,_,aH,Sub.mk (by simp) (by simp),aB⟩
 .have hf:l.findIdx? (fun x=>decide (v=x))=none:=by
   rw[List.findIdx?_eq_none_iff];intro x hx;obtain⟨j,hj⟩:=iM.1 hx;exact hinv j x (by have:=(bZ.1 hj).1;omega) hj
  have he:k=l.length:=by omega
  subst he;unfold HD;rw[hf];simp
theorem ZC (x y:PV)(p:List (List Int))(hp:four p)(run:Int)(h:Nat)(hh:h<p.length):aD prog 244 [.ref [x,y,.aE false 4 (jS p)],.i run,.i h] (.i (xE p run h)):=by
 obtain⟨l,hl⟩:∃l,p[h]?=some l:=⟨p[h],aX hh⟩;have h4:=hp l (dL hl);have hg:(jS p)[h]?=some (.agg (l.map (PV.int .i64))):=by rw[jS,bR,hl];rfl
 have ht:(l.map (PV.int .i64)).take 4=l.map (PV.int .i64):=fH (by simp[h4]);have e:xE p run h=HD l run:=by simp[xE,hl]
 rw[e];refine cS L244 ?_;have n4:jT 4=some 4:=rfl;simp[L244,↓hg,n4,h4,ht,aP];refine gG (k:=0) (fs:=[]) (cs:=[]) rfl rfl (Ztq l (by omega) run) rfl ?_;simp
theorem Ya (n:Nd):aD prog 157 [n.pv] (.i n.kind):=by
 refine cS L157 ?_;cases n with
 |ru r=>simp[L157,Nd.pv,Nd.kind]
 |rh r h=>
  have:¬((h:Int) = -1):=by omega
  simp[L157,Nd.pv,Nd.kind,this]
 |mh m h=>
  have h1:¬((h:Int) = -1):=by omega
  have h2:¬((m:Int) = -1):=by omega
  simp[L157,Nd.pv,Nd.kind,h1,h2]
def Yi:List PV:=[.agg [.fn 196 [] []],.agg [.fn 197 [] []],.agg [.fn 198 [] []]]
theorem Zsl:aD prog 159 [] (.aE false 1 Yi):=by
 refine cF [.loc 4 0] L159 ?_;simp[L159];rfl
def W0 (p:List (List Int))(r:Nat)(k:Nat):List Nd:=(((List.range p.length).take k).filter fun h=>decide (xE p r h = -1)).map (Nd.rh r)
def WQ (p:List (List Int))(r:Nat):List Nd:=W0 p r p.length
theorem Zjg {p:List (List Int)}{r k:Nat}(hk:k<p.length):W0 p r (k+1)=W0 p r k++(if xE p r k = -1 then[.rh r k]else[]):=by
 have:(List.range p.length)[k]?=some k:=by rw[List.getElem?_range hk]
 unfold W0;rw[OA this,H9,lI,xL,List.filter_nil];by_cases h:xE p r k = -1<;>simp[h]
theorem Zgy {p:List (List Int)}{r k:Nat}:(W0 p r k).length<=k:=by
 unfold W0;rw[fQ];refine lJ (R3 _ _) ?_;rw[gI];omega
def vN (l:List Nd):List (Site×aL):=[(.ret 0,.arr 262 3 (l.map Nd.pv))]
theorem Zp9 (q:Qu)(p:List (List Int))(hp:four p)(hl:p.length<=1000)(r:Nat):
  cN prog 196 [.ptr (.par 0) 0,.pv (Nd.ru r).pv] (laid 0 (bK q p 1)) (fun x B=>x=.vec (.ret 0) 3 0 (WQ p r).length/\B=vN (WQ p r)++laid 0 (bK q p 1)):=by
 refine O2 [.loc 26 0,.par 0,.par 1] L196 ?_;intro R hR;simp[L196,bK,laid,Nd.pv];refine dY (fun n τ=>∃k:Nat,k<=p.length/\n=p.length-k/\τ=⟨[(0,.ptr (.par 0) 0),(3,.ptr (.loc 3 0) 0),(4,.vec (.loc 26 0) 3 0 (W0 p r k).length),(10,.pv (.i p.length)),(11,.pv (.i k))],[(.loc 26 0,.arr 262 3 ((W0 p r k).map Nd.pv)),(.loc 3 0,.cells [.pv (.i r),.pv (.i (-1)),.pv (.i (-1))])]++laid 0 (bK q p 1)⟩)
  ⟨p.length,⟨[(0,.ptr (.par 0) 0),(3,.ptr (.loc 3 0) 0),(4,.vec (.loc 26 0) 3 0 0),(10,.pv (.i p.length)),(11,.pv (.i 0))],[(.loc 26 0,.arr 262 3 []),(.loc 3 0,.cells [.pv (.i r),.pv (.i (-1)),.pv (.i (-1))])]++laid 0 (bK q p 1)⟩,Sub.trans' (Sub.mk (by simp[AS.cT]) (by simp[AS.cT,bK,laid])) (cT 26 262 3 4 rfl (by decide)),0,fT _,rfl,by simp[W0]⟩ ?_
 rintro J hJ n τ ⟨k,hk,rfl,rfl⟩;by_cases aI:k<p.length
 .have hw:=jH (k:=k) (by omega);have aH:p.length-(k+1)<p.length-k:=by omega
  have aB:=hJ _ _ ⟨k+1,aI,rfl,rfl⟩;have iI:=Zjg (r:=r) aI;have HV:=Zgy (p:=p) (r:=r) (k:=k);have Q2:=ZC (.aE false 1 (q.ms.map iF)) (.aE false 3 (q.rs.map Rq.pv)) p hp r k aI;have sQ:(W0 p r k).length+1<=1000000:=by omega
  have ME:(jS p).take p.length=jS p:=fH (by simp[jS]);have mJ:(jS p).length=p.length:=by simp[jS]
  clear hJ;generalize W0 p r (k+1)=N2 at *;generalize W0 p r k=N1 at *;simp[bK,laid,aI];refine gG (k:=3) (fs:=[]) (xs:=[.ref [.aE false 1 (q.ms.map iF),.aE false 3 (q.rs.map Rq.pv),.aE false 4 (jS p)],.i r,.i k]) (cs:=[]) rfl ?_ Q2 rfl ?_
  .simp[jI,AV.snap,AV.FL,mJ,ME]
  by_cases ho:xE p r k = -1
  .rw[if_pos ho]at iI;subst iI;simp[ho,aP,sQ,hw];refine⟨_,_,aH,Sub.mk ?_ ?_,aB⟩
   .simp
   .simp[bK,laid,Nd.pv]
  .rw[if_neg ho,wW]at iI;subst iI;simp[ho,hw];refine⟨_,_,aH,Sub.mk ?_ ?_,aB⟩
   .simp
   .simp[bK,laid]
 .have he:k=p.length:=by omega
  subst he;simp[bK,laid];rw[<-hR];exact⟨rfl,by simp[vN,bK,laid,WQ]⟩
theorem Lo {p:List (List Int)}{h m:Nat}{l:List Int}{x:Int}(h1:p[h]?=some l)(h2:l[m]?=some x):gJ p h m=x:=by simp[gJ,h1,h2]
theorem Zp4 (q:Qu)(p:List (List Int))(hp:four p)(m h:Nat)(hm:m<4)(hh:h<p.length)(r:Nat)(hr:gJ p h m=r):
  cN prog 198 [.ptr (.par 0) 0,.pv (Nd.mh m h).pv] (laid 0 (bK q p 1)) (fun x B=>x=.vec (.ret 0) 3 0 1/\B=vN [.rh r h]++laid 0 (bK q p 1)):=by
 obtain⟨l,hl⟩:∃l,p[h]?=some l:=⟨p[h],aX hh⟩;have h4:=hp l (dL hl);obtain⟨x,hx⟩:∃x,l[m]?=some x:=⟨l[m]'(by omega),aX _⟩;rw[Lo hl hx]at hr;subst hr;have hg:(jS p)[h]?=some (.agg (l.map (PV.int .i64))):=by rw[jS,bR,hl];rfl
 have G9:(l.map (PV.int .i64))[m]?=some (.i r):=by rw[bR,hx];rfl
 refine cB [.loc 19 0,.par 0,.par 1] L198 ?_;simp[-getElem?_pos,-List.getElem?_map,L198,bK,laid,Nd.pv,cO,hh,hm,hg,G9,vN]
theorem RV:yZ prog (pE P4) L197.code:=Fw L197_ok L197_tab
noncomputable def vC:aL:=.loop (fX prog 197 0) [15] 50 [(2,.ptr (.par 3) 0),(3,.ptr (.par 4) 0),(4,.ptr (.par 5) 0)] none
def vD (q:Qu)(p:List (List Int))(r h:Nat)(e:Site)(s:List Nd):List (Site×aL):=
 [(.par 1,.cells [.pv (.aE false 1 (q.ms.map iF)),.pv (.aE false 3 (q.rs.map Rq.pv)),.vec (.par 2) 4 0 p.length]),(.par 2,.arr 151 4 (jS p)),(.par 3,.cells [.ptr (.par 1) 0]),(.par 4,.cells [.pv (.i r),.pv (.i (-1)),.pv (.i h)]),(.par 5,.cells [.vec e 3 0 s.length])]
noncomputable def zC (q:Qu)(p:List (List Int))(r h:Nat)(e:Site)(s:List Nd):List (Site×aL):=(.par 0,vC)::vD q p r h e s++[(e,.arr 262 3 (s.map Nd.pv))]
noncomputable def YH (q:Qu)(p:List (List Int))(r h:Nat)(s:List Nd):List (Site×aL):=(.par 0,vC)::(.ret 0,.arr 262 3 (s.map Nd.pv))::vD q p r h (.ret 0) s
theorem ZmQ (q:Qu)(p:List (List Int))(hp:four p)(r h:Nat)(hh:h<p.length)(s:List Nd)(hs:s.length<=1000)(m:Nat)(hm:m<4):
  FU prog 0 [.pv (.i m)] (zC q p r h (.par 6) s) (fun x B=>x=.pv (.bool true)/\B=if gJ p h m=r then zC q p r h (.par 6) s else YH q p r h (s++[.mh m h])):=by
 obtain⟨l,hl⟩:∃l,p[h]?=some l:=⟨p[h],aX hh⟩;have h4:=hp l (dL hl);obtain⟨x,hx⟩:∃x,l[m]?=some x:=⟨l[m]'(by omega),aX _⟩;have Ry:=Lo hl hx;have hg:(jS p)[h]?=some (.agg (l.map (PV.int .i64))):=by rw[jS,bR,hl];rfl
 have G9:(l.map (PV.int .i64))[m]?=some (.i x):=by rw[bR,hx];rfl
 have PQ:s.length+1<=1000000:=by omega
 have oO:yZ prog (pE P4) (.vF 50 (.t 14) (fX prog 197 0) Y197_0a Y197_0b [15]):=RV.2.1.2;refine XS mixed oO.1 oO.2.1 rfl rfl (by simp) rfl ?_;rw[Ry];generalize hR:(fun(z:AV) (B:List (Site×aL))=>z=.pv (.bool true)/\B=if x=(r:Int)then zC q p r h (.par 6) s else YH q p r h (s++[.mh m h]))=R;by_cases tC:x=(r:Int)
 .subst tC;simp[-getElem?_pos,-List.getElem?_map,Y197_0a,Y197_0b,zC,vC,vD,qH,cO,hh,hm,hg,G9];refine⟨[],[.par 1,.par 2,.par 3,.par 4,.par 5,.par 6],rfl,rfl,?_,?_⟩
  .simp[bB]
  .rw[<-hR];simp[zC,vC,vD,bB]
 .simp[-getElem?_pos,-List.getElem?_map,Y197_0a,Y197_0b,zC,vC,vD,qH,cO,aP,hh,hm,hg,G9,tC,PQ];refine⟨[],[.loc 35 0,.par 1,.par 2,.par 3,.par 4,.par 5],rfl,rfl,?_,?_⟩
  .simp[bB]
  .rw[<-hR];simp[YH,vC,vD,bB,tC,Nd.pv]
def jJ (q:Qu)(p:List (List Int))(r h k:Nat):List Nd:=((q.F3 r h k).filter fun m=>!decide (gJ p h m=r)).map (Nd.mh · h)
theorem ZlH (q:Qu){p:List (List Int)}{r h k:Nat}(hk:k<q.ms.length):jJ q p r h (k+1)=jJ q p r h k++(if q.may r k h=true/\¬gJ p h k=r then[.mh k h]else[]):=by
 unfold jJ;rw[q.Zxd hk,H9,lI];cases hm:q.may r k h<;>by_cases hw:gJ p h k=r<;>simp[hw]
theorem Zfg {q:Qu}{p:List (List Int)}{r h k:Nat}:(jJ q p r h k).length<=k:=by
 unfold jJ Qu.F3;rw[fQ];refine lJ (R3 _ _) (lJ (R3 _ _) ?_);rw[gI];omega
noncomputable def Ir (q:Qu)(p:List (List Int))(r h:Nat)(s:List Nd):List (Site×aL):=(.ret 0,.arr 262 3 (s.map Nd.pv))::(.par 0,vC)::vD q p r h (.ret 0) s
def LD (q:Qu)(r h k:Nat):List (Nat×AV):=[(0,.nM (.par 0)),(2,.pv (.ref [.i r])),(3,.pv (.ref [.i h])),(5,.pv (.fn 280 [q.pv] [])),(11,.pv (.i q.ms.length)),(12,.pv (.i k))]
theorem Zsw (q:Qu)(hq:q.ok)(p:List (List Int))(hp:four p)(r h:Nat)(hr:r<q.rs.length)(hh:h<p.length):
  cN prog 279 [.nM (.par 0),.pv (.ref [.aE false 1 (q.ms.map iF),.aE false 3 (q.rs.map Rq.pv)]),.pv (.ref [.i r]),.pv (.ref [.i h])] (zC q p r h (.par 6) []) (fun x B=>x=.pv (.bM [])/\B=Ir q p r h (jJ q p r h q.ms.length)):=by
 have Am:=hq.m;refine O2 [.loc 23 0,.par 0,.par 1,.par 2,.par 3,.par 4,.par 5] L279 ?_;intro R hR;simp[L279];refine dY (fun n τ=>∃(k:Nat),k<=q.ms.length/\n=q.ms.length-k/\τ=⟨LD q r h k,zC q p r h (.loc 23 0) (jJ q p r h k)⟩)
  ⟨q.ms.length,⟨LD q r h 0,zC q p r h (.loc 23 0) []⟩,Sub.trans' (Sub.mk ?_ ?_) (Sub.iW 23 (.par 6) _),0,fT _,rfl,by simp[jJ,Qu.F3]⟩ ?_
 .simp[AS.iW,LD,zC,vD,vC,pG,Qu.pv]
 .simp[AS.iW,zC,vD,vC,pG]
 rintro J hJ n τ ⟨k,hk,rfl,rfl⟩;by_cases aI:k<q.ms.length
 .have hw:=jH (k:=k) (by omega);have aH:q.ms.length-(k+1)<q.ms.length-k:=by omega
  have p9:=ZI q hq r k h hr aI;have iI:=ZlH q (p:=p) (r:=r) (h:=h) aI;have jD:(k:Int)<(q.ms.length:Int):=by omega
  have aB:=hJ _ _ ⟨k+1,aI,rfl,rfl⟩;have Z4:=Zfg (q:=q) (p:=p) (r:=r) (h:=h) (k:=k);have hY:=ZmQ q p hp r h hh (jJ q p r h k) (by omega) k (by omega);clear hJ;generalize jJ q p r h (k+1)=S2 at *;generalize jJ q p r h k=S1 at *;simp[LD,jD];refine gG (k:=0) (fs:=[q.pv]) (xs:=[.i r,.i k,.i h]) (cs:=[]) rfl rfl p9 rfl ?_;cases hm:q.may r k h
  .rw[hm,if_neg (by simp),wW]at iI;subst iI;simp[hw];refine⟨_,_,aH,Sub.mk ?_ ?_,aB⟩
   .simp[LD]
   .simp[zC,vD,vC]
  .simp[zC,vD,vC];refine ZlC 1023 0 [.par 0,.par 1,.par 2,.par 3,.par 4,.par 5,.loc 23 0] (gF:=[.pv (.i k)]) rfl rfl rfl rfl ?_ rfl rfl hY ?_
   .simp[zC,vD,vC]
   rintro x B ⟨rfl,rfl⟩;by_cases ES:gJ p h k=r
   .rw[if_neg (by simp[ES]),wW]at iI;subst iI;rw[if_pos ES];refine⟨rfl,by simp[zC,vD,vC],?_⟩;simp[zC,vD,vC,hw];refine⟨_,_,aH,Sub.mk ?_ ?_,aB⟩
    .simp[LD]
    .simp[zC,vD,vC]
   .rw[if_pos ⟨hm,ES⟩]at iI;subst iI;rw[if_neg ES];refine⟨rfl,by simp[YH,vD,vC],?_⟩;simp[YH,vD,vC,hw];refine⟨_,_,aH,Sub.trans' (Sub.mk ?_ ?_) (Sub.iW 23 (.loc 1023 0) _),aB⟩
    .simp[AS.iW,pG,LD]
    .simp[AS.iW,pG,zC,vD,vC,Nd.pv]
 .have he:k=q.ms.length:=by omega
  subst he;simp[LD,zC,vD,vC];rw[<-hR];simp[Ir,vD,vC]
def JV (q:Qu)(p:List (List Int))(r h:Nat):List Nd:=jJ q p r h q.ms.length++(if xE p r h = -1 then[]else[.ru r])
theorem Zp6 (q:Qu)(hq:q.ok)(p:List (List Int))(hp:four p)(r h:Nat)(hr:r<q.rs.length)(hh:h<p.length):
  cN prog 197 [.ptr (.par 0) 0,.pv (Nd.rh r h).pv] (laid 0 (bK q p 1)) (fun x B=>x=.vec (.ret 0) 3 0 (JV q p r h).length/\B=vN (JV q p r h)++laid 0 (bK q p 1)):=by
 have Am:=hq.m;have hit:=Zsw q hq p hp r h hr hh;have Q2:=ZC (.aE false 1 (q.ms.map iF)) (.aE false 3 (q.rs.map Rq.pv)) p hp r h hh;have Z4:=Zfg (q:=q) (p:=p) (r:=r) (h:=h) (k:=q.ms.length);have ME:(jS p).take p.length=jS p:=fH (by simp[jS]);have mJ:(jS p).length=p.length:=by simp[jS]
 have hS:JV q p r h=jJ q p r h q.ms.length++(if xE p r h = -1 then[]else[.ru r]):=rfl;refine cE L197 ?_;generalize hR:(fun(x:AV) (B:List (Site×aL))=>x=.vec (.ret 0) 3 0 (JV q p r h).length/\B=vN (JV q p r h)++laid 0 (bK q p 1))=R;generalize JV q p r h=S at *;generalize jJ q p r h q.ms.length=S1 at *;have PQ:S1.length+1<=1000000:=by omega
 simp[L197,bK,laid,Nd.pv];refine .inl (cQ [] [q.pv,.i r,.i h] (Zev q r h) ?_);simp[aM,ZJ];refine ZsM (gL 60 262 3 (s:=.loc 4 0) (cs:=[.pv (.emp (some true))]) 0 rfl rfl (by decide)) ?_;refine WZ [.loc 50 0,.par 0,.par 1,.loc 2 0,.loc 3 0,.loc 4 0,.loc 60 0] [(2,.ptr (.loc 2 0) 0),(3,.ptr (.loc 3 0) 0),(4,.ptr (.loc 4 0) 0)] (gf:=279) (fs:=[]) (cs:=[.pv (.ref [.aE false 1 (q.ms.map iF),.aE false 3 (q.rs.map Rq.pv)]),.pv (.ref [.i r]),.pv (.ref [.i h])]) ?_ ?_ rfl rfl ?_ ?_ ?_ hit ?_
 .rfl
 .simp[AS.gL]
 .simp[AS.gL,zC,vD,vC]
 .rfl
 .rfl
 rintro x B ⟨rfl,rfl⟩;refine⟨rfl,by simp[Ir,vD,vC],?_⟩;refine⟨_,_,_,_,_,rfl,?_⟩;simp[AS.gL,Ir,vD,vC,kX];refine gG (k:=3) (fs:=[]) (xs:=[.ref [.aE false 1 (q.ms.map iF),.aE false 3 (q.rs.map Rq.pv),.aE false 4 (jS p)],.i r,.i h]) (cs:=[]) rfl ?_ Q2 rfl ?_
 .simp[jI,AV.snap,AV.FL,mJ,ME]
 by_cases ho:xE p r h = -1
 .rw[if_pos ho,wW]at hS;subst hS;simp[ho];refine⟨[.loc 51 0,.par 0,.par 1],?_⟩;simp;rw[<-hR];simp[vN,bK,laid]
 .rw[if_neg ho]at hS;subst hS;simp[ho,aP,PQ];refine⟨[.loc 48 0,.par 0,.par 1],?_⟩;simp;rw[<-hR];simp[vN,bK,laid,Nd.pv]
abbrev By:=List (Nd×Nd)
def par (bO:By)(n:Nd):Option Nd:=(bO.find? fun e=>decide (n=e.1)).map (·.2)
def AD (bO:By):List (PV×PV):=bO.map fun e=>(e.1.pv,e.2.pv)
def Nd.a:Nd->Int
 |.ru r=>r
 |.rh r _=>r
 |.mh _ _=>-1
def Nd.b:Nd->Int
 |.mh m _=>m
 |_=>-1
def Nd.c:Nd->Int
 |.ru _=>-1
 |.rh _ h=>h
 |.mh _ h=>h
theorem Nd.R5 (n:Nd):n.pv=.agg [.i n.a,.i n.b,.i n.c]:=by cases n<;>rfl
theorem Yd (a b:Nd):gV a.pv b.pv=decide (a=b):=by
 rw[qQ];cases a<;>cases b<;>simp[gV,Nd.pv,lR,wL,PV.cells]<;>omega
theorem ZhE (n:Nd):∀bO:By,eX n.pv (AD bO)=(par bO n).map Nd.pv
 |[]=>rfl
 |e::r=>by
  have ih:=ZhE n r;unfold AD at ih ⊢;rw[iQ,eX,Yd];unfold par at ih ⊢;rw[List.find?_cons];cases decide (n=e.1)with
  |true=>rfl
  |false=>exact ih
theorem Zno {n b:Nd}:∀{bO:By},par bO n=none->mN n.pv b.pv (AD bO)=AD (bO++[(n,b)])
 |[],_=>rfl
 |e::r,h=>by
  unfold par at h;rw[List.find?_cons]at h;unfold AD;rw[iQ,mN,Yd];cases hd:decide (n=e.1)with
  |true=>rw[hd]at h;simp at h
  |false=>
   rw[hd]at h
   have:=Zno (n:=n) (b:=b) (bO:=r) h
   unfold AD at this;simp[this]
theorem X7 (n:Nd):KT.ok ⟨true,[.int .i64,.int .i64,.int .i64]⟩ n.pv=true:=by cases n<;>rfl
theorem ZnY (bO:By):zZ ⟨true,[.int .i64,.int .i64,.int .i64]⟩ (AD bO)=true:=by
 unfold zZ AD;rw[List.all_map,qZ];exact fun e _=>X7 e.1
def fZ (p:List (List Int))(h m:Nat)(x:Int):List (List Int):=p.set h (((p[h]?).getD []).set m x)
def qO (n b:Nd)(p:List (List Int)):List (List Int):=match n,b with
 |.mh m h,b=>fZ p h m b.a
 |.rh _ h,.mh m _=>fZ p h m (-1)
 |_,_=>p
def wQ (bO:By):Nat->Nd->List (List Int)->List (List Int)
 |0,_,p=>p
 |f+1,n,p=>match par bO n with
  |none=>p
  |some b=>if n=b then p else wQ bO f b (qO n b p)
theorem OH {p:List (List Int)}{h m:Nat}{x:Int}:(fZ p h m x).length=p.length:=by simp[fZ]
theorem Zh6 {p:List (List Int)}(hp:four p){h m:Nat}{x:Int}(hh:h<p.length):four (fZ p h m x):=fun l hl=>by
 rcases List.mem_or_eq_of_mem_set hl with h1|h1
 .exact hp l h1
 .subst h1
  have:p[h]?=some p[h]:=aX hh
  rw[this];simp[hp _ (zX hh)]
theorem Zlh {n b:Nd}{p:List (List Int)}:(qO n b p).length=p.length:=by
 cases n<;>cases b<;>simp[qO,OH]
theorem ZlF {l:List PV}{m:Nat}{x:PV}(hm:m<l.length):aR l m [x]=l.set m x:=by
 have hs:m+[x].length<=l.length:=by simp;omega
 apply List.ext_getElem?;intro j;rw[A0 hs];by_cases e:j=m
 .subst e;rw[if_neg (by omega),if_pos (by simp),O6 hm];simp
 .rw[List.getElem?_set_ne (fun e'=>e e'.symm)];split
  .rfl
  .rw[if_neg (by simp;omega)]
theorem Znt {p:List (List Int)}{h m:Nat}{l:List Int}{x:Int}(hl:p[h]?=some l)(hm:m<l.length):(jS p).set h (.agg (aR (l.map (PV.int .i64)) m [.i x]))=jS (fZ p h m x):=by
 rw[ZlF (by simpa using hm),jS,jS,fZ,hl,List.map_set];simp only[rS,rowP];rw[List.map_set]
def Nd.ok (q:Qu)(p:List (List Int)):Nd->Prop
 |.ru r=>r<q.rs.length
 |.rh r h=>r<q.rs.length/\h<p.length
 |.mh m h=>m<q.ms.length/\h<p.length
structure KR (q:Qu)(p:List (List Int))(bO:By):Prop where
 nd:(bO.map (·.1)).Nodup
 ok:∀e∈bO,e.1.ok q p/\e.2.ok q p
 up:∀(i:Nat) (e:Nd×Nd),bO[i]?=some e->e.1=e.2\/∃(j:Nat) (e':Nd×Nd),j<i/\bO[j]?=some e'/\e'.1=e.2
theorem Lm {bO:By}(hn:(bO.map (·.1)).Nodup){i:Nat}{e:Nd×Nd}(h:bO[i]?=some e):par bO e.1=some e.2:=by
 induction bO generalizing i with
 |nil=>simp at h
 |cons a r ih=>
  rw[iQ,List.nodup_cons]at hn;unfold par;rw[List.find?_cons];cases i with
  |zero=>simp at h;subst h;simp
  |succ i=>
   have h':r[i]?=some e:=by simpa using h
   have cZ:¬e.1=a.1:=fun e'=>hn.1 (by rw[<-e'];exact iL.2 ⟨e,dL h',rfl⟩)
   rw[decide_eq_false cZ];exact ih hn.2 h'
theorem Nd.Lb {q:Qu}{p p':List (List Int)}(h:p'.length=p.length){n:Nd}(hn:n.ok q p):n.ok q p':=by
 cases n with
 |ru r=>exact hn
 |rh r k=>exact⟨hn.1,by rw[h];exact hn.2⟩
 |mh m k=>exact⟨hn.1,by rw[h];exact hn.2⟩
def mE (q:Qu)(p:List (List Int))(bO:By):List aL:=bK q p 1++[.map (AD bO)]
def wP (q:Qu)(p:List (List Int))(bO:By)(n:Nd):AS:=⟨[(0,.ptr (.par 0) 0),(2,.mp (.par 2)),(4,.ptr (.loc 4 0) 0)],(.loc 4 0,.cells [.pv (.i n.a),.pv (.i n.b),.pv (.i n.c)])::laid 0 (mE q p bO)⟩
theorem ZqM (q:Qu)(hq:q.ok)(bO:By)(p0:List (List Int))(hb:KR q p0 bO)(CH:four p0)(i0:Nat)(n0 b0:Nd)(G8:bO[i0]?=some (n0,b0)):
  cN prog 158 [.ptr (.par 0) 0,.pv n0.pv,.mp (.par 2)] (laid 0 (mE q p0 bO)) (fun x B=>x=.pv (.bM [])/\B=laid 0 (mE q (wQ bO bO.length n0 p0) bO)):=by
 have Am:=hq.m;refine O2 [.par 0,.par 1,.par 2] L158 ?_;intro R hR;obtain⟨xC,jE⟩:∃z,z=wQ bO bO.length n0 p0:=⟨_,rfl⟩
 rw[<-jE]at hR;rw[Nd.R5];simp[L158,mE,bK,laid];refine dY (fun k τ=>∃(p:List (List Int)) (n b:Nd) (f:Nat),bO[k]?=some (n,b)/\k<f/\wQ bO f n p=xC/\four p/\p.length=p0.length/\τ=wP q p bO n)
  ⟨i0,wP q p0 bO n0,Sub.mk (by simp) (by simp[mE,bK,laid]),p0,n0,b0,bO.length,G8,(bZ.1 G8).1,jE.symm,CH,rfl,rfl⟩ ?_
 clear jE;rintro J hJ k τ ⟨p,n,b,f,hk,hf,eO,hp,hlen,rfl⟩;have lP:=Lm hb.nd hk;have dX:=ZhE n bO
 rw[lP]at dX;simp only[uU]at dX;have hE:=Yd n b;have mC:=Ya n;have EX:=Ya b;have N3:=X7 n;have tU:=X7 b;have q8:=ZnY bO
 obtain⟨vL,Qg⟩:=hb.ok _ (dL hk);have vL:=Nd.Lb hlen vL;have Qg:=Nd.Lb hlen Qg;obtain⟨f',rfl⟩:∃f',f=f'+1:=⟨f-1,by omega⟩;have tW:wQ bO (f'+1) n p=if n=b then p else wQ bO f' b (qO n b p):=by rw[wQ,lP]
 rw[tW]at eO;by_cases QA:n=b
 .rw[if_pos QA]at eO;subst eO;clear hJ;rw[decide_eq_true QA]at hE;rw[Nd.R5,Nd.R5]at hE;rw[Nd.R5,Nd.R5]at dX;rw[Nd.R5]at N3 tU;simp[-gV,-KT.ok,wP,mE,bK,laid,hE,dX,N3,tU,q8];rw[<-hR];simp[mE,bK,laid]
 .rw[if_neg QA]at eO;rw[decide_eq_false QA]at hE;obtain⟨j,e',hj,CO,CN⟩:∃(j:Nat) (e':Nd×Nd),j<k/\bO[j]?=some e'/\e'.1=b:=by
   rcases hb.up k _ hk with h|h
   .exact absurd h QA
   .exact h
  have aB:=hJ j (wP q (qO n b p) bO b) ⟨qO n b p,b,e'.2,f',by rw[CO,<-CN],by omega,eO,(by
   cases n<;>cases b<;>first|exact hp|exact Zh6 hp vL.2),by rw[Zlh];exact hlen,rfl⟩
  clear hJ eO tW hb;cases n with
  |mh m h=>
   obtain⟨l,hl⟩:∃l,p[h]?=some l:=⟨p[h]'vL.2,aX _⟩;have h4:=hp l (dL hl);have EW:m<q.ms.length:=vL.1;have uR:m<4:=by omega
   have hh:h<p.length:=vL.2;have hg:(jS p)[h]?=some (.agg (l.map (PV.int .i64))):=by rw[jS,bR,hl];rfl
   have jN:=Znt (x:=b.a) hl (m:=m) (by omega);have mJ:(jS p).length=p.length:=by simp[jS]
   have G7:m+1<=4:=by omega
   rw[Nd.R5 b]at hE dX tU EX;simp only[Nd.pv,Nd.kind]at hE dX N3 mC;rw[show qO (.mh m h) b p=fZ p h m b.a from rfl]at aB;unfold wP at aB;generalize b.a=ba at *;generalize b.b=bb at *;generalize b.c=bc at *;simp[-gV,-KT.ok,wP,mE,bK,laid,Nd.a,Nd.b,Nd.c,hE,dX,N3,tU,q8];refine gG (k:=0) (fs:=[]) (cs:=[]) rfl rfl mC rfl ?_;simp[-gV,-KT.ok,-aR,cO,aP,hh,uR,G7,↓hg,h4,setAt,jN];refine⟨_,_,hj,Sub.mk ?_ ?_,aB⟩
   .simp
   .simp[mE,bK,laid,OH]
  |ru r=>
   rw[Nd.R5 b]at hE dX tU EX;simp only[Nd.pv,Nd.kind]at hE dX N3 mC;rw[show qO (.ru r) b p=p by cases b<;>rfl]at aB;unfold wP at aB;generalize b.a=ba at *;generalize b.b=bb at *;generalize b.c=bc at *;simp[-gV,-KT.ok,wP,mE,bK,laid,Nd.a,Nd.b,Nd.c,hE,dX,N3,tU,q8];refine gG (k:=0) (fs:=[]) (cs:=[]) rfl rfl mC rfl ?_;simp[-gV,-KT.ok];refine gG (k:=0) (fs:=[]) (cs:=[]) rfl rfl mC rfl ?_;simp[-gV,-KT.ok];refine⟨_,_,hj,Sub.mk ?_ ?_,aB⟩
   .simp
   .simp[mE,bK,laid]
  |rh r h=>
   cases b with
   |mh m h'=>
    obtain⟨l,hl⟩:∃l,p[h]?=some l:=⟨p[h]'vL.2,aX _⟩;have h4:=hp l (dL hl);have EW:m<q.ms.length:=Qg.1;have uR:m<4:=by omega
    have hh:h<p.length:=vL.2;have hg:(jS p)[h]?=some (.agg (l.map (PV.int .i64))):=by rw[jS,bR,hl];rfl
    have jN:=Znt (x:=-1) hl (m:=m) (by omega);have mJ:(jS p).length=p.length:=by simp[jS]
    have G7:m+1<=4:=by omega
    simp only[Nd.pv,Nd.kind]at hE dX N3 tU mC EX;simp[-gV,-KT.ok,wP,mE,bK,laid,Nd.a,Nd.b,Nd.c,hE,dX,N3,tU,q8];refine gG (k:=0) (fs:=[]) (cs:=[]) rfl rfl mC rfl ?_;simp[-gV,-KT.ok];refine gG (k:=0) (fs:=[]) (cs:=[]) rfl rfl mC rfl ?_;simp[-gV,-KT.ok];refine gG (k:=0) (fs:=[]) (cs:=[]) rfl rfl EX rfl ?_;simp[-gV,-KT.ok,-aR,cO,aP,hh,uR,G7,↓hg,h4,setAt,jN];refine⟨_,_,hj,Sub.mk ?_ ?_,aB⟩
    .simp
    .simp[mE,bK,laid,qO,OH,Nd.a,Nd.b,Nd.c]
   |ru r'=>
    simp only[Nd.pv,Nd.kind]at hE dX N3 tU mC EX;simp[-gV,-KT.ok,wP,mE,bK,laid,Nd.a,Nd.b,Nd.c,hE,dX,N3,tU,q8];refine gG (k:=0) (fs:=[]) (cs:=[]) rfl rfl mC rfl ?_;simp[-gV,-KT.ok];refine gG (k:=0) (fs:=[]) (cs:=[]) rfl rfl mC rfl ?_;simp[-gV,-KT.ok];refine gG (k:=0) (fs:=[]) (cs:=[]) rfl rfl EX rfl ?_;simp[-gV,-KT.ok];refine⟨_,_,hj,Sub.mk ?_ ?_,aB⟩
    .simp
    .simp[mE,bK,laid,qO,Nd.a,Nd.b,Nd.c]
   |rh r' h'=>
    simp only[Nd.pv,Nd.kind]at hE dX N3 tU mC EX;simp[-gV,-KT.ok,wP,mE,bK,laid,Nd.a,Nd.b,Nd.c,hE,dX,N3,tU,q8];refine gG (k:=0) (fs:=[]) (cs:=[]) rfl rfl mC rfl ?_;simp[-gV,-KT.ok];refine gG (k:=0) (fs:=[]) (cs:=[]) rfl rfl mC rfl ?_;simp[-gV,-KT.ok];refine gG (k:=0) (fs:=[]) (cs:=[]) rfl rfl EX rfl ?_;simp[-gV,-KT.ok];refine⟨_,_,hj,Sub.mk ?_ ?_,aB⟩
    .simp
    .simp[mE,bK,laid,qO,Nd.a,Nd.b,Nd.c]
def tK (p:List (List Int)):Nd->Bool
 |.mh m h=>decide (gJ p h m = -1)
 |_=>false
def nx (q:Qu)(p:List (List Int)):Nd->List Nd
 |.ru r=>WQ p r
 |.rh r h=>JV q p r h
 |.mh m h=>[.rh (gJ p h m).toNat h]
def cJ (n:Nd)(s:By×List Nd)(x:Nd):By×List Nd:=if(par s.1 x).isSome=true then s else(s.1++[(x,n)],s.2++[x])
def JD (q:Qu)(p:List (List Int)):Nat->By->List Nd->Option (List (List Int))
 |0,_,_=>none
 |_+1,_,[]=>none
 |f+1,bO,n::rest=>if tK p n=true then some (wQ bO bO.length n p)else JD q p f ((nx q p n).foldl (cJ n) (bO,rest)).1 ((nx q p n).foldl (cJ n) (bO,rest)).2
def fS (F:Nat)(q:Qu)(p:List (List Int))(run:Nat):Option (List (List Int)):=JD q p F [(.ru run,.ru run)] [.ru run]
structure PW (q:Qu)(p:List (List Int)):Prop where
 f:four p
 ok:∀l∈p,∀x∈l,x = -1\/(0<=x/\x<q.rs.length)
 l:p.length<=40
theorem PW.gJ {q:Qu}{p:List (List Int)}(hp:PW q p)(h m:Nat):gJ p h m = -1\/(0<=Go.Proofs.YthmbecacehfgfaaGreatDoor.Qn.gJ p h m/\Go.Proofs.YthmbecacehfgfaaGreatDoor.Qn.gJ p h m<q.rs.length):=by
 unfold Go.Proofs.YthmbecacehfgfaaGreatDoor.Qn.gJ;cases h1:p[h]? with
 |none=>left;simp
 |some l=>
  simp only[rS];cases h2:l[m]? with
  |none=>left;rfl
  |some x=>exact hp.ok l (dL h1) x (dL h2)
theorem ZuF {l:List Int}{v:Int}:HD l v = -1\/∃i:Nat,HD l v=i/\i<l.length/\l[i]?=some v:=by
 unfold HD;cases h:l.findIdx? (fun x=>decide (v=x))with
 |none=>exact .inl rfl
 |some i=>
  obtain⟨hi,h1,_⟩:=JL.1 h;refine .inr ⟨i,rfl,hi,?_⟩;rw[aX hi];simp only[decide_eq_true_eq]at h1;rw[h1]
theorem BJ {q:Qu}(hq:q.ok){p:List (List Int)}(hp:PW q p){n:Nd}(hn:n.ok q p)(hf:tK p n=false):∀x∈nx q p n,x.ok q p:=by
 intro x hx;cases n with
 |ru r=>
  simp only[nx,WQ,W0,iL,iY]at hx;obtain⟨h,⟨h1,_⟩,rfl⟩:=hx
  have:=List.mem_of_mem_take h1
  exact⟨hn,by simpa using this⟩
 |rh r h=>
  simp only[nx,JV,sE]at hx;rcases hx with hx|hx
  .simp only[jJ,iL,iY]at hx;obtain⟨m,⟨h1,_⟩,rfl⟩:=hx;exact⟨Ls hq m h1,hn.2⟩
  .split at hx
   .cases hx
   .simp at hx;subst hx;exact hn.1
 |mh m h=>
  simp only[nx,rU]at hx;subst hx;have h1:¬gJ p h m = -1:=by simpa[tK]using hf
  have:=hp.gJ h m
  exact⟨by omega,hn.2⟩
def Nd.code:Nd->Nat
 |.ru r=>r
 |.rh r h=>6+6*h+r
 |.mh m h=>246+4*h+m
theorem Nd.ZxH {q:Qu}(hq:q.ok){p:List (List Int)}(hp:PW q p){n:Nd}(hn:n.ok q p):n.code<406:=by
 have h1:=hq.r;have h2:=hq.m;have h3:=hp.l;cases n with
 |ru r=>have:r<q.rs.length:=hn;show r<406;omega
 |rh r h=>obtain⟨a,b⟩:=hn;show 6+6*h+r<406;omega
 |mh m h=>obtain⟨a,b⟩:=hn;show 246+4*h+m<406;omega
theorem Nd.Zxq {q:Qu}(hq:q.ok){p:List (List Int)}(hp:PW q p){n n':Nd}(hn:n.ok q p)(yG:n'.ok q p)(h:n.code=n'.code):n=n':=by
 have h1:=hq.r;have h2:=hq.m;have h3:=hp.l;cases n with
 |ru r=>
  have a:r<q.rs.length:=hn;cases n' with
  |ru r'=>have:r=r':=h;subst this;rfl
  |rh r' h'=>have e:r=6+6*h'+r':=h;omega
  |mh m' h'=>have e:r=246+4*h'+m':=h;omega
 |rh r k=>
  obtain⟨a,b⟩:=hn;cases n' with
  |ru r'=>have e:6+6*k+r=r':=h;have a':r'<q.rs.length:=yG;omega
  |rh r' k'=>
   obtain⟨a',b'⟩:=yG;have e:6+6*k+r=6+6*k'+r':=h;have e1:k=k':=by omega
   have e2:r=r':=by omega
   rw[e1,e2]
  |mh m' k'=>obtain⟨a',b'⟩:=yG;have e:6+6*k+r=246+4*k'+m':=h;omega
 |mh m k=>
  obtain⟨a,b⟩:=hn;cases n' with
  |ru r'=>have e:246+4*k+m=r':=h;have a':r'<q.rs.length:=yG;omega
  |rh r' k'=>obtain⟨a',b'⟩:=yG;have e:246+4*k+m=6+6*k'+r':=h;omega
  |mh m' k'=>
   obtain⟨a',b'⟩:=yG;have e:246+4*k+m=246+4*k'+m':=h;have e1:k=k':=by omega
   have e2:m=m':=by omega
   rw[e1,e2]
theorem oK:∀(N:Nat) (l:List Nat),l.Nodup->(∀x∈l,x<N)->l.length<=N
 |0,[],_,_=>fE _
 |0,x::r,_,h=>absurd (h x (by simp)) (by omega)
 |N+1,l,hn,h=>by
  by_cases hm:N∈l
  .have h1:=oK N (l.erase N) (hn.erase N) (fun x hx=>by
    have h2:=(hn.mem_erase_iff).1 hx
    have:=h x h2.2
    have:=h2.1
    omega)
   rw[List.length_erase_of_mem hm]at h1;omega
  .have:=oK N l hn (fun x hx=>by
    have:=h x hx
    have:x≠N:=fun e=>hm (e▸hx)
    omega)
   omega
structure BW (q:Qu)(p:List (List Int))(s:By×List Nd):Prop where
 b:KR q p s.1
 t:∀n∈s.2,∃(i:Nat) (b:Nd),s.1[i]?=some (n,b)
theorem BW.len {q:Qu}(hq:q.ok){p:List (List Int)}(hp:PW q p){s:By×List Nd}(h:BW q p s):s.1.length<=406:=by
 have h1:((s.1.map (·.1)).map Nd.code).Nodup:=by
  rw[DS,List.pairwise_map];refine List.Pairwise.imp_of_mem ?_ (DS.1 h.b.nd);intro a b ha hb cZ e;obtain⟨x,hx,rfl⟩:=iL.1 ha;obtain⟨y,hy,rfl⟩:=iL.1 hb;exact cZ (Nd.Zxq hq hp (h.b.ok x hx).1 (h.b.ok y hy).1 e)
 have:=oK 406 _ h1 (fun x hx=>by
  obtain⟨n,hn,rfl⟩:=iL.1 hx;obtain⟨e,he,rfl⟩:=iL.1 hn;exact Nd.ZxH hq hp (h.b.ok e he).1)
 simpa using this
theorem ZpM {bO:By}{n:Nd}(h:par bO n=none):n∉bO.map (·.1):=fun hm=>by
 obtain⟨e,he,rfl⟩:=iL.1 hm;unfold par at h;rw[Option.map_eq_none_iff,List.find?_eq_none]at h;exact h e he (by simp)
theorem BW.push {q:Qu}{p:List (List Int)}{s:By×List Nd}(h:BW q p s){n x:Nd}(hn:∃(i:Nat) (b:Nd),s.1[i]?=some (n,b))(hx:x.ok q p):BW q p (cJ n s x)/\(∃(i:Nat) (b:Nd),(cJ n s x).1[i]?=some (n,b))/\
  (cJ n s x).2.length+s.1.length=s.2.length+(cJ n s x).1.length/\s.1.length<=(cJ n s x).1.length:=by
 unfold cJ;split
 .exact⟨h,hn,by omega,fE _⟩
 .rename_i hp;have Q0:par s.1 x=none:=by cases hh:par s.1 x with
   |none=>rfl
   |some b=>rw[hh]at hp;exact absurd rfl hp
  have PY:=ZpM Q0;obtain⟨i,b,hi⟩:=hn;have yI:=(bZ.1 hi).1;have old:∀(j:Nat) (e:Nd×Nd),s.1[j]?=some e->(s.1++[(x,n)])[j]?=some e:=fun j e hj=>by
   rw[List.getElem?_append_left (bZ.1 hj).1];exact hj
  refine⟨⟨⟨?_,fun e he=>?_,fun j e hj=>?_⟩,fun y hy=>?_⟩,⟨i,b,old i _ hi⟩,by simp;omega,by simp⟩
  .rw[lI,List.nodup_append];refine⟨h.b.nd,by simp,fun a ha c hc e=>?_⟩;simp at hc;subst hc e;exact PY ha
  .rcases sE.1 he with he|he
   .exact h.b.ok e he
   .simp at he;subst he;exact⟨hx,(h.b.ok _ (dL hi)).1⟩
  .rw[yS]at hj;split at hj
   .rcases h.b.up j e hj with h1|⟨k,e',h1,h2,h3⟩
    .exact .inl h1
    .exact .inr ⟨k,e',h1,old k e' h2,h3⟩
   .rename_i xH
    have:j-s.1.length=0:=by
     have:=(bZ.1 hj).1
     simp at this;omega
    rw[this]at hj;simp at hj;subst hj;exact .inr ⟨i,(n,b),by omega,old i _ hi,rfl⟩
  .rcases sE.1 hy with hy|hy
   .obtain⟨k,c,hk⟩:=h.t y hy;exact⟨k,c,old k _ hk⟩
   .simp at hy;subst hy;exact⟨s.1.length,n,by simp⟩
theorem BW.Kw {q:Qu}{p:List (List Int)}{n:Nd}:∀(l:List Nd) {s:By×List Nd},BW q p s->(∃(i:Nat) (b:Nd),s.1[i]?=some (n,b))->(∀x∈l,x.ok q p)->BW q p (l.foldl (cJ n) s)/\(∃(i:Nat) (b:Nd),(l.foldl (cJ n) s).1[i]?=some (n,b))/\
  (l.foldl (cJ n) s).2.length+s.1.length=s.2.length+(l.foldl (cJ n) s).1.length/\s.1.length<=(l.foldl (cJ n) s).1.length
 |[],s,h,hn,_=>⟨h,hn,by simp,fE _⟩
 |x::l,s,h,hn,hl=>by
  obtain⟨h1,h2,h3,h4⟩:=h.push hn (hl x (by simp));obtain⟨k1,k2,k3,k4⟩:=BW.Kw l h1 h2 (fun y hy=>hl y (by simp[hy]));rw[List.foldl_cons];exact⟨k1,k2,by omega,by omega⟩
theorem BW.tail {q:Qu}{p:List (List Int)}{bO:By}{n:Nd}{rest:List Nd}(h:BW q p (bO,n::rest)):BW q p (bO,rest):=⟨h.b,fun x hx=>h.t x (by simp[hx])⟩
theorem BW.start {q:Qu}{p:List (List Int)}{run:Nat}(hr:run<q.rs.length):BW q p ([(.ru run,.ru run)],[.ru run]):=
 ⟨⟨by simp,fun e he=>by simp at he;subst he;exact⟨hr,hr⟩,fun i e hi=>by
  cases i with
  |zero=>simp at hi;subst hi;exact .inl rfl
  |succ i=>simp at hi⟩,fun n hn=>by simp at hn;subst hn;exact⟨0,_,rfl⟩⟩
def ND:Nd->FuncId
 |.ru _=>196
 |.rh _ _=>197
 |.mh _ _=>198
theorem Zs9 (q:Qu)(hq:q.ok)(p:List (List Int))(hp:PW q p)(n:Nd)(hn:n.ok q p)(hf:tK p n=false):
  cN prog (ND n) [.ptr (.par 0) 0,.pv n.pv] (laid 0 (bK q p 1)) (fun x B=>x=.vec (.ret 0) 3 0 (nx q p n).length/\B=vN (nx q p n)++laid 0 (bK q p 1)):=by
 have hl:=hp.l;cases n with
 |ru r=>exact Zp9 q p hp.f (by omega) r
 |rh r h=>exact Zp6 q hq p hp.f r h hn.1 hn.2
 |mh m h=>
  have h1:¬gJ p h m = -1:=by simpa[tK]using hf
  have h2:=hp.gJ h m
  have:=hq.m
  have hm:m<q.ms.length:=hn.1;exact Zp4 q p hp.f m h (by omega) hn.2 (gJ p h m).toNat (by omega)
theorem Zmv (n:Nd):Yi[n.kind]?=some (.agg [.fn (ND n) [] []]):=by cases n<;>rfl
structure Lock (A:Prop):Prop where
 out:A
def RQ (q:Qu)(p:List (List Int))(bO:By)(todo:List Nd):AS:=⟨[(0,.ptr (.par 0) 0),(6,.mp (.loc 15 0)),(7,.vec (.loc 78 0) 3 0 todo.length)],(.loc 78 0,.arr 262 3 (todo.map Nd.pv))::(.loc 15 0,.map (AD bO))::laid 0 (bK q p 1)⟩
def Dh (q:Qu)(p:List (List Int))(n:Nd)(L:List Nd)(s:By×List Nd)(i:Nat):AS:=⟨[(0,.ptr (.par 0) 0),(6,.mp (.loc 15 0)),(7,.vec (.loc 78 0) 3 0 s.2.length),(8,.ptr (.loc 8 0) 0),(58,.vec (.loc 58 0) 3 0 L.length),(59,.pv (.i L.length)),(60,.pv (.i i))],
 (.loc 78 0,.arr 262 3 (s.2.map Nd.pv))::(.loc 15 0,.map (AD s.1))::(.loc 8 0,.cells [.pv (.i n.a),.pv (.i n.b),.pv (.i n.c)])::(.loc 58 0,.arr 262 3 (L.map Nd.pv))::laid 0 (bK q p 1)⟩
theorem ZnW {F:Nat}(hF:407<F)(q:Qu)(hq:q.ok)(p:List (List Int))(hp:PW q p)(run:Nat)(dF:run<q.rs.length):
  cN prog 113 [.ptr (.par 0) 0,.pv (.i run)] (laid 0 (bK q p 1)) (fun x B=>x=.pv (.bool (fS F q p run).isSome)/\B=laid 0 (bK q ((fS F q p run).getD p) 1)):=by
 have Am:=hq.m;have mJ:=hp.l;obtain⟨xC,jE⟩:∃z,z=fS F q p run:=⟨_,rfl⟩;rw[<-jE];generalize hR:(fun(x:AV) (B:List (Site×aL))=>x=.pv (.bool xC.isSome)/\B=laid 0 (bK q (xC.getD p) 1))=R;refine cB [.par 0,.par 1] L113 ?_;simp[L113,bK,laid];refine dY (fun k τ=>∃(bO:By) (todo:List Nd) (f:Nat),BW q p (bO,todo)/\todo.length<=bO.length/\k=406-bO.length+todo.length/\k<f/\JD q p f bO todo=xC/\τ=RQ q p bO todo)
  ⟨406-1+1,RQ q p [(.ru run,.ru run)] [.ru run],Sub.trans' (Sub.mk ?_ ?_) (o8 78 7 [(Nd.ru run).pv] (s:=.loc 20 0) (e:=262) rfl rfl rfl rfl),[(.ru run,.ru run)],[.ru run],F,BW.start dF,fE _,rfl,by omega,jE.symm,rfl⟩ ?_
 .simp[AS.o8]
 .simp[AS.o8,bK,laid,AD,Nd.pv,mN]
 clear jE;intro J hJ k τ bQ;refine Lock.out ?_;obtain⟨bO,todo,f,hB,D9,hk,hf,eO,rfl⟩:=bQ;obtain⟨f',rfl⟩:∃f',f=f'+1:=⟨f-1,by omega⟩;cases todo with
 |nil=>
  have mP:xC=none:=by rw[<-eO];rfl
  subst mP;refine⟨?_⟩;simp[RQ,bK,laid];rw[<-hR];simp[bK,laid]
 |cons n rest=>
  obtain⟨i0,b0,G8⟩:=hB.t n (by simp);have vL:=(hB.b.ok _ (dL G8)).1;simp only at vL;have mC:=Ya n;have bQ:=Zmv n;have Z4:n.kind<3:=by cases n<;>simp[Nd.kind]
  rw[JD]at eO;have hlen:=hB.len hq hp;by_cases iX:tK p n=true
  .rw[if_pos iX]at eO;subst eO;clear hJ;cases n with
   |ru r=>simp[tK]at iX
   |rh r h=>simp[tK]at iX
   |mh m h=>
    have Bq:gJ p h m = -1:=by simpa[tK]using iX
    obtain⟨l,hl⟩:∃l,p[h]?=some l:=⟨p[h]'vL.2,aX _⟩;have h4:=hp.f l (dL hl);have EW:m<q.ms.length:=vL.1;have hh:h<p.length:=vL.2;have uR:m<4:=by omega
    obtain⟨x,hx⟩:∃x,l[m]?=some x:=⟨l[m]'(by omega),aX _⟩;rw[Lo hl hx]at Bq;subst Bq;have hg:(jS p)[h]?=some (.agg (l.map (PV.int .i64))):=by rw[jS,bR,hl];rfl
    have G9:(l.map (PV.int .i64))[m]?=some (.i (-1)):=by rw[bR,hx];rfl
    have tW:=ZqM q hq bO p hB.b hp.f i0 (.mh m h) b0 G8
    simp only[Nd.pv,Nd.kind]at mC tW;refine⟨?_⟩;simp[RQ,bK,laid,Nd.pv,cO,aP];refine AP (k:=0) (fs:=[]) (cs:=[]) rfl rfl mC rfl ?_;simp[-getElem?_pos,-List.getElem?_map,cO,aP,hh,uR,hg,G9];refine cM [.ptr (.par 0) 0,.pv (.agg [.i (-1),.i m,.i h]),.mp (.par 2)] (laid 0 (mE q p bO)) 49 [.par 0,.par 1,.loc 15 0] (by simp[mE,bK,laid]) tW (by simp[mE,bK,laid]) ?_;simp[mE,bK,laid];rw[<-hR];simp[bK,laid]
  .have CT:tK p n=false:=by simpa using iX
   rw[if_neg iX]at eO;have iI:=Zs9 q hq p hp n vL CT;have PX:=BJ hq hp vL CT;obtain⟨L,hL⟩:∃L,L=nx q p n:=⟨_,rfl⟩;rw[<-hL]at eO iI PX;have RD:L.length<=1000:=by
    rw[hL];cases n with
    |ru r=>have:=Zgy (p:=p) (r:=r) (k:=p.length);show(W0 p r p.length).length<=1000;omega
    |rh r h=>
     have:=Zfg (q:=q) (p:=p) (r:=r) (h:=h) (k:=q.ms.length)
     show(jJ q p r h q.ms.length++_).length<=1000;rw[gE]
     split<;>simp<;>omega
    |mh m h=>simp[nx]
   have CG:∀i,BW q p ((L.take i).foldl (cJ n) (bO,rest))/\((L.take i).foldl (cJ n) (bO,rest)).2.length+bO.length=rest.length+((L.take i).foldl (cJ n) (bO,rest)).1.length/\bO.length<=((L.take i).foldl (cJ n) (bO,rest)).1.length:=fun i=>by
    obtain⟨h1,_,h3,h4⟩:=BW.Kw (L.take i) hB.tail ⟨i0,b0,G8⟩ (fun x hx=>PX x (List.mem_of_mem_take hx));exact⟨h1,h3,h4⟩
   have oN:BW q p (L.foldl (cJ n) (bO,rest))/\(L.foldl (cJ n) (bO,rest)).2.length+bO.length=rest.length+(L.foldl (cJ n) (bO,rest)).1.length:=by
    have:=CG L.length
    rw[nC]at this;exact⟨this.1,this.2.1⟩
   have QS:=oN.1.len hq hp;have aB:=hJ (406-(L.foldl (cJ n) (bO,rest)).1.length+(L.foldl (cJ n) (bO,rest)).2.length) _ ⟨_,_,f',oN.1,by have h1:=oN.2;rw[pA]at D9;show(L.foldl (cJ n) (bO,rest)).2.length<=(L.foldl (cJ n) (bO,rest)).1.length;omega,rfl,by
    have h1:=oN.2;rw[pA]at hk
    omega,eO,rfl⟩
   have aH:406-(L.foldl (cJ n) (bO,rest)).1.length+(L.foldl (cJ n) (bO,rest)).2.length<k:=by
    have h1:=oN.2;rw[pA]at hk;omega
   have jO:∀i,((L.take i).foldl (cJ n) (bO,rest)).2.length<=406:=fun i=>by
    obtain⟨h1,h2,h3⟩:=CG i
    have:=h1.len hq hp
    rw[pA]at D9;omega
   rw[Nd.R5]at mC iI;obtain⟨N,hN⟩:∃N,N=n:=⟨_,rfl⟩;rw[<-hN]at aB aH jO;clear oN CG QS;have hmf:∀m h,n=.mh m h->∃(l:List Int) (x:Int),jT n.c=some h/\jT n.b=some m/\h<p.length/\m<4/\(jS p)[h]?=some (.agg (l.map (PV.int .i64)))/\(l.map (PV.int .i64))[m]?=some (.i x)/\x≠-1:=fun m h e=>by
    subst e;obtain⟨l,hl⟩:∃l,p[h]?=some l:=⟨p[h]'vL.2,aX _⟩;have h4:=hp.f l (dL hl);have EW:m<q.ms.length:=vL.1;obtain⟨x,hx⟩:∃x,l[m]?=some x:=⟨l[m]'(by omega),aX _⟩;have Bq:¬gJ p h m = -1:=by simpa[tK]using CT
    rw[Lo hl hx]at Bq;exact⟨l,x,Zhl,Zhl,vL.2,by omega,by rw[jS,bR,hl];rfl,by rw[bR,hx];rfl,Bq⟩
   clear hJ eO PX hB vL CT iX hL G8;cases n
   case' mh m h=>
    obtain⟨l,x,e1,e2,e3,e4,e5,e6,e7⟩:=hmf m h rfl;simp only[Nd.a,Nd.b,Nd.c,Nd.kind]at e1 e2 mC iI bQ aB;refine⟨?_⟩;simp[RQ,bK,laid,Nd.pv,cO,aP];refine AP (k:=0) (fs:=[]) (cs:=[]) rfl rfl mC rfl ?_;simp[cO,aP,e1,e2,e3,e4,e5,e6,e7]
   case' ru r=>
    simp only[Nd.a,Nd.b,Nd.c,Nd.kind]at mC iI bQ aB;refine⟨?_⟩;simp[RQ,bK,laid,Nd.pv,cO,aP];refine AP (k:=0) (fs:=[]) (cs:=[]) rfl rfl mC rfl ?_;simp[aP]
   case' rh r h=>
    simp only[Nd.a,Nd.b,Nd.c,Nd.kind]at mC iI bQ aB;refine⟨?_⟩;simp[RQ,bK,laid,Nd.pv,cO,aP];refine AP (k:=0) (fs:=[]) (cs:=[]) rfl rfl mC rfl ?_;simp[cO,aP]
   all_goals
    clear hmf;refine cQ [] [] Zsl ?_;simp[aM];refine AP (k:=0) (fs:=[]) (cs:=[]) rfl rfl mC rfl ?_;simp[Yi];refine xM (B:=laid 0 (bK q p 1)) (fs:=[]) (cs:=[]) 58 [.par 0,.par 1] ?_ rfl rfl ?_ ?_ ?_ iI ?_
    .rfl
    .simp[bK,laid]
    .rfl
    .simp
    rintro r0 B0 ⟨rfl,rfl⟩;refine⟨rfl,by simp[vN,bK,laid],?_⟩;simp[vN,bK,laid];refine dY (fun k τ=>∃i:Nat,i<=L.length/\k=L.length-i/\τ=Dh q p N L ((L.take i).foldl (cJ N) (bO,rest)) i)
     ⟨L.length,Dh q p N L (bO,rest) 0,Sub.trans' (Sub.mk ?_ ?_) (o8 78 7 (rest.map Nd.pv) (s:=.loc 78 0) (e:=262) rfl rfl ?_ rfl),0,fT _,rfl,rfl⟩ ?_
    .simp[AS.o8]
    .simp[AS.o8,bK,laid,hN,Nd.a,Nd.b,Nd.c]
    .simp;omega
    clear hN mC iI bQ;rintro J2 uS k2 τ ⟨i,hi,rfl,rfl⟩;by_cases aI:i<L.length
    .obtain⟨x,hx⟩:∃x,L[i]?=some x:=⟨L[i],aX aI⟩;have nX:(L.map Nd.pv)[i]?=some (.agg [.i x.a,.i x.b,.i x.c]):=by rw[bR,hx];simp[Nd.R5]
     have hw:=jH (k:=i) (by omega);have rN:(L.take (i+1)).foldl (cJ N) (bO,rest)=cJ N ((L.take i).foldl (cJ N) (bO,rest)) x:=by rw[OA hx,List.foldl_append];rfl
     have cA:=uS _ _ ⟨i+1,aI,rfl,rfl⟩;rw[rN]at cA;have Ck:=jO i;have gM:L.length-(i+1)<L.length-i:=by omega
     clear uS rN aB aH jO;generalize(L.take i).foldl (cJ N) (bO,rest)=S1 at *;obtain⟨b1,t1⟩:=S1;simp only at Ck;have dX:=ZhE x b1;have N3:=X7 x;have q8:=ZnY b1;have Ac:t1.length+1<=1000000:=by omega
     cases An:par b1 x with
     |none=>
      have nH:=Zno (b:=N) An;have Ss:cJ N (b1,t1) x=(b1++[(x,N)],t1++[x]):=by unfold cJ;rw[An];rfl
      rw[Ss]at cA;rw[An]at dX;rw[Nd.R5 x,Nd.R5 N]at nH;rw[Nd.R5 x]at dX N3;simp only[Option.map_none]at dX;simp[-gV,-KT.ok,Dh,bK,laid,cO,aP,aI,↓nX,dX,N3,q8,nH,Ac,hw];refine⟨_,_,gM,Sub.mk ?_ ?_,cA⟩
      .simp
      .simp[bK,laid,Nd.R5]
     |some b=>
      have Ss:cJ N (b1,t1) x=(b1,t1):=by unfold cJ;rw[An];rfl
      rw[Ss]at cA;rw[An]at dX;rw[Nd.R5 x]at dX N3;simp only[uU,Nd.R5 b]at dX;simp[-gV,-KT.ok,Dh,bK,laid,cO,aP,aI,↓nX,dX,N3,q8,hw];refine⟨_,_,gM,Sub.mk ?_ ?_,cA⟩
      .simp
      .simp[bK,laid]
    .have he:i=L.length:=by omega
     subst he;rw[nC];clear uS jO;generalize L.foldl (cJ N) (bO,rest)=S1 at *;obtain⟨b1,t1⟩:=S1;simp[Dh,bK,laid];refine⟨_,_,aH,Sub.mk ?_ ?_,aB⟩
     .simp
     .simp[bK,laid]
end Go.Proofs.YthmbecacehfgfaaGreatDoor.Qn
namespace Go.Proofs.YthmbecacehfgfaaGreatDoor
open Go.RowKit
theorem Sub.cut {σ:AS}{s:Site}{e n:Nat}{xs:List PV}(k:Nat)(hb:σ.b s=some (.arr e n xs)):Sub (σ.set s (.arr e n (xs.take k))) σ:=fun _ _ _ _ ρ m act w hS=>by
 refine⟨ρ,m,hS.ZxL hb ?_ (fun j hj=>?_)⟩
 .obtain⟨hn,h|⟨hr,cs,g1,g2,g3,g4,g5⟩⟩:=hS.bx s _ hb
  .exact⟨hn,.inl ⟨h.1,by rw[h.2.1];simp,h.2.2⟩⟩
  .refine⟨hn,.inr ⟨hr,cs,g1,g2,by rw[gI];omega,g4,fun i x hi=>?_⟩⟩;rw[mG]at hi;split at hi
   .exact g5 i x hi
   .cases hi
 .obtain⟨r1,r2⟩:=EE rfl hj;exact .inl ⟨r1,r2⟩
theorem Wj {σ:AS}(s:Site){e n:Nat}{xs:List PV}(k:Nat)(ys:List PV)(hb:σ.b s=some (.arr e n xs))(hy:xs.take k=ys):Sub (σ.set s (.arr e n ys)) σ:=by
 subst hy;exact Sub.cut k hb
end Go.Proofs.YthmbecacehfgfaaGreatDoor
namespace Go.Proofs.YthmbecacehfgfaaGreatDoor.Qn
open Go.RowKit
theorem PW.set {q:Qu}{p:List (List Int)}(hp:PW q p){h m:Nat}{x:Int}(hh:h<p.length)(hx:x = -1\/(0<=x/\x<q.rs.length)):PW q (fZ p h m x):=by
 refine⟨Zh6 hp.f hh,fun l hl y hy=>?_,by rw[OH];exact hp.l⟩;rcases List.mem_or_eq_of_mem_set hl with h1|h1
 .exact hp.ok l h1 y hy
 .subst h1;have e:p[h]?=some p[h]:=aX hh;rw[e]at hy;simp only[rS]at hy;rcases List.mem_or_eq_of_mem_set hy with h2|h2
  .exact hp.ok _ (zX hh) y h2
  .subst h2;exact hx
theorem PW.qO {q:Qu}{p:List (List Int)}(hp:PW q p){n b:Nd}(hn:n.ok q p)(hb:b.ok q p):PW q (qO n b p):=by
 cases n with
 |ru r=>cases b<;>exact hp
 |rh r h=>
  cases b with
  |mh m h'=>exact hp.set hn.2 (.inl rfl)
  |ru r'=>exact hp
  |rh r' h'=>exact hp
 |mh m h=>
  refine hp.set hn.2 ?_;cases b with
  |ru r=>right;have:r<q.rs.length:=hb;show 0<=(r:Int)/\(r:Int)<_;omega
  |rh r h'=>right;have:r<q.rs.length:=hb.1;show 0<=(r:Int)/\(r:Int)<_;omega
  |mh m' h'=>exact .inl rfl
theorem PW.wQ {q:Qu}{p0:List (List Int)}{bO:By}(hb:KR q p0 bO):∀(f:Nat) (n:Nd) (p:List (List Int)),PW q p->p.length=p0.length->PW q (wQ bO f n p)/\(Go.Proofs.YthmbecacehfgfaaGreatDoor.Qn.wQ bO f n p).length=p0.length
 |0,n,p,hp,hl=>⟨hp,hl⟩
 |f+1,n,p,hp,hl=>by
  unfold Go.Proofs.YthmbecacehfgfaaGreatDoor.Qn.wQ;cases Q0:par bO n with
  |none=>exact⟨hp,hl⟩
  |some b=>
   simp only;split
   .exact⟨hp,hl⟩
   .have gU:(n,b)∈bO:=by
     unfold par at Q0;obtain⟨e,he,rfl⟩:=eA.1 Q0;have h1:=List.find?_some he;simp only[decide_eq_true_eq]at h1;subst h1;exact List.mem_of_find?_eq_some he
    obtain⟨h1,h2⟩:=hb.ok _ gU;exact PW.wQ hb f b _ (hp.qO (Nd.Lb hl h1) (Nd.Lb hl h2)) (by rw[Zlh];exact hl)
theorem ZrS {q:Qu}(hq:q.ok){p:List (List Int)}(hp:PW q p):∀(f:Nat) (bO:By) (todo:List Nd),BW q p (bO,todo)->∀p',JD q p f bO todo=some p'->PW q p'/\p'.length=p.length
 |0,bO,todo,_,p',h=>by cases h
 |f+1,bO,[],_,p',h=>by cases h
 |f+1,bO,n::rest,hB,p',h=>by
  obtain⟨i0,b0,G8⟩:=hB.t n (by simp);have vL:=(hB.b.ok _ (dL G8)).1;rw[JD]at h;by_cases hf:tK p n=true
  .rw[if_pos hf]at h;cases h;exact PW.wQ hB.b _ _ _ hp rfl
  .rw[if_neg hf]at h;have CT:tK p n=false:=by simpa using hf
   exact ZrS hq hp f _ _ (BW.Kw _ hB.tail ⟨i0,b0,G8⟩ (BJ hq hp vL CT)).1 p' h
theorem ZhC {F:Nat}{q:Qu}(hq:q.ok){p:List (List Int)}(hp:PW q p){run:Nat}(hr:run<q.rs.length){p':List (List Int)}(h:fS F q p run=some p'):PW q p'/\p'.length=p.length:=
 ZrS hq hp F _ _ (BW.start hr) p' h
def fD (F:Nat)(q:Qu):List (List Int)->List Nat->List (List Int)×List Nat
 |p,[]=>(p,[])
 |p,r::l=>match fS F q p r with
  |some p'=>fD F q p' l
  |none=>((fD F q p l).1,r::(fD F q p l).2)
def P7 (F:Nat)(q:Qu)(p:List (List Int)):List Nat->Option (Nat×List (List Int))
 |[]=>none
 |r::l=>match fS F q p r with
  |some p'=>some (0,p')
  |none=>(P7 F q p l).map fun s=>(s.1+1,s.2)
theorem Zos {F:Nat}{q:Qu}{p:List (List Int)}:∀l:List Nat,fD F q p l=match P7 F q p l with
  |none=>(p,l)
  |some (i,p')=>((fD F q p' (l.drop (i+1))).1,l.take i++(fD F q p' (l.drop (i+1))).2)
 |[]=>rfl
 |r::l=>by
  have ih:=Zos (F:=F) (q:=q) (p:=p) l;have e1:fD F q p (r::l)=match fS F q p r with
   |some p'=>fD F q p' l
   |none=>((fD F q p l).1,r::(fD F q p l).2):=rfl
  have e2:P7 F q p (r::l)=match fS F q p r with
   |some p'=>some (0,p')
   |none=>(P7 F q p l).map fun s=>(s.1+1,s.2):=rfl
  rw[e1,e2];cases hg:fS F q p r with
  |some p'=>simp
  |none=>
   simp only;rw[ih];cases hx:P7 F q p l with
   |none=>rfl
   |some s=>obtain⟨i,p'⟩:=s;simp
theorem Mb {F:Nat}{q:Qu}(hq:q.ok):∀(l:List Nat) (p:List (List Int)),PW q p->(∀r∈l,r<q.rs.length)->PW q (fD F q p l).1/\(fD F q p l).1.length=p.length/\(∀r∈(fD F q p l).2,r∈l)/\(fD F q p l).2.length<=l.length
 |[],p,hp,_=>⟨hp,rfl,fun r h=>h,fE _⟩
 |r::l,p,hp,hl=>by
  unfold fD;cases hg:fS F q p r with
  |some p'=>
   obtain⟨h1,h2⟩:=ZhC hq hp (hl r (by simp)) hg;obtain⟨k1,k2,k3,k4⟩:=Mb hq l p' h1 (fun r h=>hl r (by simp[h]));exact⟨k1,k2.trans h2,fun r h=>by simp[k3 r h],by rw[pA];exact Nat.le_succ_of_le k4⟩
  |none=>
   obtain⟨k1,k2,k3,k4⟩:=Mb hq l p hp (fun r h=>hl r (by simp[h]));refine⟨k1,k2,fun r' h=>?_,by simpa using k4⟩;rcases jQ.1 h with h|h
   .simp[h]
   .simp[k3 r' h]
def tR (F:Nat)(q:Qu):Nat->List (List Int)->List Nat->Option (List (List Int))
 |_,p,[]=>some p
 |0,_,_::_=>none
 |n+1,p,r::l=>if p.length=40 then none else tR F q n (fD F q (p++[fA]) (r::l)).1 (fD F q (p++[fA]) (r::l)).2
def Qu.JQ (q:Qu):List Nat:=(List.range q.rs.length).flatMap fun i=>List.replicate (q.run i).hours.toNat i
def Qu.DW (F:Nat)(q:Qu):Option (List (List Int)):=tR F q 41 [] q.JQ
theorem PW.more {q:Qu}{p:List (List Int)}(hp:PW q p)(hl:p.length<40):PW q (p++[fA]):=
 ⟨fun l h=>by
  rcases sE.1 h with h|h
  .exact hp.f l h
  .simp at h;subst h;rfl,fun l h x hx=>by
  rcases sE.1 h with h|h
  .exact hp.ok l h x hx
  .simp at h;subst h;simp[fA]at hx;exact .inl hx,by simp;omega⟩
theorem PW.nil {q:Qu}:PW q []:=⟨fun l h=>(by simp at h),fun l h=>(by simp at h),by simp⟩
theorem B9 {F:Nat}{q:Qu}(hq:q.ok):∀(n:Nat) (p:List (List Int)) (l:List Nat),PW q p->(∀r∈l,r<q.rs.length)->∀p',tR F q n p l=some p'->PW q p'
 |n,p,[],hp,_,p',h=>by cases n<;>(simp only[tR]at h;cases h;exact hp)
 |0,p,r::l,_,_,p',h=>by cases h
 |n+1,p,r::l,hp,hl,p',h=>by
  unfold tR at h;split at h
  .cases h
  .rename_i RN;have h1:=hp.l;obtain⟨k1,k2,k3,k4⟩:=Mb (F:=F) hq (r::l) _ (hp.more (by omega)) hl;exact B9 hq n _ _ k1 (fun x hx=>hl x (k3 x hx)) p' h
theorem oF {q:Qu}:∀r∈q.JQ,r<q.rs.length:=fun r hr=>by
 unfold Qu.JQ at hr;obtain⟨i,hi,h⟩:=List.mem_flatMap.1 hr;rw[List.mem_replicate]at h;rw[h.2];simpa using hi
end Go.Proofs.YthmbecacehfgfaaGreatDoor.Qn
namespace Go.Proofs.YthmbecacehfgfaaGreatDoor
open Go.RowKit
noncomputable section
def L156:aZ :=⟨30,S [O 4 (.dV (.c (.int .u64 (0)))),O 5 (.dV (.c (.int .u64 (0))))] (.seq (.cond Bf (aC [Om 11 0,O 12 (.conv .u32 (.t 11)),Om 13 1,O 14 (.conv .u32 (.t 13)),Ok 15 194 [.t 12,.t 14],mV 10 15 16 0 17 1,bL 6 16 17] (aC [Om 18 6,O 19 (.conv .u64 (.t 18)),Om 20 7,O 21 (.conv .u64 (.t 20)),bL 4 19 21] .ret)) .skip) (aC [bL 23 0 1,Ok 25 195 [.t 23,.t 24],mV 22 25 26 0 27 1,bL 8 26 27] (aC [bL 28 8 9,bL 4 28 29] .ret))),[.tm 4,.tm 5]⟩
def L195:aZ :=⟨51,S [O 4 (.dV (.c (.int .u64 (0)))),O 5 (.dV (.c (.int .u64 (0))))] (aC [ZAe 14 0 4294967295 6] (aC [En 16 0 32,Om 7 17] (aC [ZAe 18 1 4294967295 8] (aC [En 20 1 32,Om 9 21] (aC [bL 22 6 8,Ob 24 .mul 22 23,Om 10 24] (aC [bL 25 7 8,Ob 27 .mul 25 26,En 28 10 32,EH 30 27 29 11] (aC [ZAe 31 11 4294967295 12] (aC [En 33 11 32,Om 13 34] (aC [bL 35 12 6,Om 37 9,Ob 38 .mul 36 37,EH 39 35 38 12] (aC [bL 40 7 9,Ob 42 .mul 40 41,Om 43 13,Ob 44 .add 42 43,En 45 12 32,EH 47 44 46 4] (aC [bL 48 0 1,Ob 50 .mul 48 49,Om 5 50] .ret))))))))))),[.tm 4,.tm 5]⟩
end
end Go.Proofs.YthmbecacehfgfaaGreatDoor
namespace Go.Proofs.YthmbecacehfgfaaGreatDoor.Qn
open Go.RowKit
open Tryz
theorem Ej (c:Fin 41):(BitVec.ofNat 64 c.1&&& 4294967295#64).toNat=c.1:=by revert c;decide
theorem Ztc (c:Nat)(hc:c<=40):aD prog 195 [.int .u64 1,.int .u64 c] (.bM [.int .u64 0,.int .u64 c]):=by
 have h1:=Ej ⟨c,by omega⟩;simp only at h1;have w0:IntKind.u64.wrap 0=0:=rfl;have w1:IntKind.u64.wrap 1=1:=rfl;have hw:∀n:Nat,n<=40->IntKind.u64.wrap (n:Int)=n:=fun n hn=>by rw[show IntKind.u64.wrap (n:Int)=(n:Int)%18446744073709551616 from rfl];omega
 have hd:∀n:Nat,n<=40->(n:Int).fdiv 4294967296=0:=fun n hn=>by rw[Int.fdiv_eq_ediv_of_nonneg _ (by omega)];omega
 refine cS L195 ?_;simp[L195,IntKind.bits,w0,w1,hw c hc,hd c hc];exact(by decide +kernel:∀c:Fin 41,IntKind.u64.wrap
   (IntKind.u64.wrap
     ((IntKind.u64.wrap
        ((IntKind.u64.wrap (IntKind.u64.wrap ((BitVec.ofNat 64 c.1&&& 4294967295#64).toNat:Int))).fdiv
         4294967296)).fdiv
      4294967296) +
    (IntKind.u64.wrap
       (IntKind.u64.wrap
        ((BitVec.ofInt 64
            (IntKind.u64.wrap
             ((IntKind.u64.wrap (IntKind.u64.wrap ((BitVec.ofNat 64 c.1&&& 4294967295#64).toNat:Int))).fdiv
              4294967296))&&&
           4294967295#64).toNat:Int))).fdiv
     4294967296) =
  0) ⟨c,by omega⟩
theorem ZH (c:Nat)(hc:c<=40):aD prog 156 [.int .u64 1,.int .u64 c] (.bM [.int .u64 0,.int .u64 c]):=by
 refine cS L156 ?_;simp[L156];refine gG (k:=0) (fs:=[]) (cs:=[]) rfl rfl (Ztc c hc) rfl ?_;simp
def vI (v:Int)(c n:Nat):List PV:=List.replicate n (.i v)++List.replicate (c-n) (.i 0)
theorem ZpA {v:Int}{c n:Nat}(h:n<=c):(vI v c n).length=c:=by simp[vI];omega
theorem Zib {v:Int}{c n:Nat}:(vI v c n).take n=List.replicate n (.i v):=by simp[vI]
theorem Zm8 {v:Int}{c n:Nat}(h:n<=c):aR (vI v c n) n ((List.replicate n (PV.i v)).take (c-n))=vI v c (n+min n (c-n)):=by
 unfold aR vI;rw[List.take_replicate,List.length_replicate,List.take_append_of_le_length (by simp),fH (by simp),List.drop_append,List.length_replicate,List.drop_replicate,List.drop_replicate,<-I0];rw[show n-(n+min (c-n) n)=0 by omega,List.replicate_zero,wW,List.replicate_append_replicate];congr 2<;>omega
theorem Zpy (v:Int)(c:Nat)(hc:c<=40):aD prog 111 [.aE false 1 [.i v],.i c] (.aE false 1 (List.replicate c (.i v))):=by
 have hw:∀n:Nat,n<=40->IntKind.u64.wrap (n:Int)=n:=fun n hn=>by rw[show IntKind.u64.wrap (n:Int)=(n:Int)%18446744073709551616 from rfl];omega
 have hi:∀n:Nat,n<=1000->IntKind.i64.wrap (n:Int)=n:=fun n hn=>wrap64 (by omega)
 have w1:IntKind.u64.wrap 1=1:=rfl;have MR:¬((c:Int)<0):=by omega
 have II:¬((9223372036854775807:Int)<(c:Int)):=by omega
 have hc6:c<=1000000:=by omega
 refine cF [.loc 30 0] L111 ?_;simp[L111,hw c hc,w1,MR];refine gG (k:=0) (fs:=[]) (cs:=[]) rfl rfl (ZH c hc) rfl ?_;simp[-aR,II,hi c (by omega),aP,hc6];refine dY (fun k τ=>∃n:Nat,n<=c/\(0<n\/c=0)/\k=c-n/\τ=⟨[(7,.vec (.loc 30 0) 1 0 c),(8,.pv (.i n))],[(.loc 30 0,.arr 3 1 (vI v c n))]⟩)
  ⟨c-min c 1,⟨[(7,.vec (.loc 30 0) 1 0 c),(8,.pv (.i (min c 1:Nat)))],[(.loc 30 0,.arr 3 1 (vI v c (min c 1)))]⟩,Sub.mk ?_ ?_,min c 1,by omega,by omega,rfl,rfl⟩ ?_
 .simp
 .cases c with
  |zero=>simp[-aR,vI,aR]
  |succ c=>simp[-aR,vI,aR]
 rintro J hJ k τ ⟨n,hn,xF,rfl,rfl⟩;have HV:=ZpA (v:=v) hn;by_cases aI:n<c
 .have aB:=hJ _ _ ⟨n+min n (c-n),by omega,by omega,rfl,rfl⟩;have iH:=Zib (v:=v) (c:=c) (n:=n);have iI:=Zm8 (v:=v) hn;have jD:(n:Int)<(c:Int):=by omega
  have aH:c-(n+min n (c-n))<c-n:=by omega
  have Jj:IntKind.i64.wrap ((n:Int)+(min (c-n) n:Nat))=((n+min n (c-n):Nat):Int):=by rw[wrap64 (by omega)];omega
  have G6:n+(c-n)=c:=by omega
  clear hJ;simp[-aR,-List.take_replicate,jD,aP,hn,HV,iH,iI,G6,Jj];refine⟨_,_,aH,Sub.mk ?_ ?_,aB⟩
  .simp
  .simp
 .have he:n=c:=by omega
  subst he;have iH:=Zib (v:=v) (c:=n) (n:=n);simp[-aR,iH,HV]
def jA (l:List Nat):List PV:=l.map fun r:Nat=>.i r
theorem Zhk {l:List Nat}{i r:Nat}(h:l[i]?=some r):(jA l)[i]?=some (.i r):=by rw[jA,bR,h];rfl
theorem Zhj {l:List Nat}:(jA l).length=l.length:=by simp[jA]
def gP (q:Qu)(p:List (List Int))(l:List Nat):List aL:=.arr 3 1 (jA l)::bK q p 2
def G3:Option (Nat×List (List Int))->Int
 |some s=>s.1
 |none=>-1
def UJ (p:List (List Int)):Option (Nat×List (List Int))->List (List Int)
 |some s=>s.2
 |none=>p
def lT:AV:=.fn 113 [.ptr (.par 1) 0] []
theorem Rk {F:Nat}(hF:407<F)(q:Qu)(hq:q.ok)(p:List (List Int))(hp:PW q p)(l:List Nat)(hl:l.length<=1000)(gA:∀r∈l,r<q.rs.length):
  cN prog 99 [.vec (.par 0) 1 0 l.length,lT] (laid 0 (gP q p l)) (fun x B=>x=.pv (.i (G3 (P7 F q p l)))/\B=laid 0 (gP q (UJ p (P7 F q p l)) l)):=by
 refine cB [.par 0,.par 1,.par 2] L99 ?_;obtain⟨xC,jE⟩:∃z,z=P7 F q p l:=⟨_,rfl⟩;rw[<-jE];generalize hR:(fun(x:AV) (B:List (Site×aL))=>x=.pv (.i (G3 xC))/\B=laid 0 (gP q (UJ p xC) l))=R;simp[L99,gP,lT,bK,laid];refine dY (fun n τ=>∃k:Nat,k<=l.length/\n=l.length-k/\(P7 F q p (l.drop k)).map (fun s=>(s.1+k,s.2))=xC/\τ=⟨[(0,.vec (.par 0) 1 0 l.length),(1,lT),(7,.pv (.i l.length)),(8,.pv (.i k))],laid 0 (gP q p l)⟩)
  ⟨l.length,⟨[(0,.vec (.par 0) 1 0 l.length),(1,lT),(7,.pv (.i l.length)),(8,.pv (.i 0))],laid 0 (gP q p l)⟩,Sub.mk (by simp[lT]) (by simp[gP,bK,laid]),0,fT _,rfl,by rw[jE];simp,rfl⟩ ?_
 clear jE;rintro J hJ n τ ⟨k,hk,rfl,eO,rfl⟩;by_cases aI:k<l.length
 .obtain⟨r,hx⟩:∃x,l[k]?=some x:=⟨l[k],aX aI⟩;have hg:=Zhk hx;have HV:=Zhj (l:=l);have hw:=jH (k:=k) (by omega);have aH:l.length-(k+1)<l.length-k:=by omega
  have z6:l.drop k=r::l.drop (k+1):=by
   rw[AF aI]
   have:l[k]=r:=by rw[aX aI]at hx;exact Option.some.inj hx
   rw[this]
  have hC:=ZnW hF q hq p hp r (gA r (dL hx));rw[z6]at eO;have e2:P7 F q p (r::l.drop (k+1))=match fS F q p r with
   |some p'=>some (0,p')
   |none=>(P7 F q p (l.drop (k+1))).map fun s=>(s.1+1,s.2):=rfl
  rw[e2]at eO;clear e2 z6;have eK:fS F q p r=none->J (l.length-(k+1)) _:=fun hn=>hJ _ _ ⟨k+1,aI,rfl,by
   rw[hn]at eO;rw[<-eO];cases P7 F q p (l.drop (k+1))with
   |none=>rfl
   |some s=>simp;omega,rfl⟩
  clear hJ;simp[gP,lT,bK,laid,aI,hg,cO];refine xM (gF:=[.ptr (.par 0) 0,.pv (.i r)]) (B:=laid 0 (bK q p 1)) (fs:=[.ptr (.par 1) 0]) (cs:=[]) 16 [.par 1,.par 2] ?_ rfl rfl ?_ ?_ ?_ hC ?_
  .rfl
  .simp[bK,laid]
  .rfl
  .rfl
  rintro r0 B0 ⟨rfl,rfl⟩;refine⟨rfl,by simp[bK,laid],?_⟩;cases yJ:fS F q p r with
  |none=>
   have aB:=eK yJ;simp[bK,laid,hw];refine⟨_,_,aH,Sub.mk ?_ ?_,aB⟩
   .simp[lT]
   .simp[gP,bK,laid]
  |some p'=>
   rw[yJ]at eO;simp only[uU,rT]at eO;subst eO;simp[bK,laid];rw[<-hR];simp[gP,bK,laid,G3,UJ]
 .have he:k=l.length:=by omega
  subst he;rw[List.drop_length]at eO;have mP:xC=none:=by rw[<-eO];rfl
  subst mP;simp[gP,lT,bK,laid];rw[<-hR];simp[gP,bK,laid,G3,UJ]
theorem ZrI {F:Nat}{q:Qu}(hq:q.ok){p:List (List Int)}(hp:PW q p):∀(l:List Nat),(∀r∈l,r<q.rs.length)->∀i p',P7 F q p l=some (i,p')->i<l.length/\PW q p'/\p'.length=p.length
 |[],_,i,p',h=>by cases h
 |r::l,hl,i,p',h=>by
  have e2:P7 F q p (r::l)=match fS F q p r with
   |some p'=>some (0,p')
   |none=>(P7 F q p l).map fun s=>(s.1+1,s.2):=rfl
  rw[e2]at h;cases hg:fS F q p r with
  |some p2=>
   rw[hg]at h;simp only[Option.some.injEq,Prod.mk.injEq]at h;obtain⟨rfl,rfl⟩:=h;obtain⟨h1,h2⟩:=ZhC hq hp (hl r (by simp)) hg;exact⟨by simp,h1,h2⟩
  |none=>
   rw[hg]at h;obtain⟨s,hs,he⟩:=eA.1 h;obtain⟨k,p3⟩:=s;simp only[Prod.mk.injEq]at he;obtain⟨rfl,rfl⟩:=he;obtain⟨h1,h2⟩:=ZrI hq hp l (fun x hx=>hl x (by simp[hx])) k p3 hs;exact⟨by simp;omega,h2⟩
def VM (q:Qu)(p:List (List Int))(X:List Nat)(w j n:Nat):AS:=⟨[(0,.vec (.par 0) 1 0 n),(1,lT),(5,.pv (.i w)),(6,.pv (.i j))],laid 0 (gP q p X)⟩
theorem ZpY {X:List Nat}{w r:Nat}:(jA X).set w (.i r)=jA (X.set w r):=by rw[jA,jA,List.map_set]
theorem Zqx {F:Nat}(hF:407<F)(q:Qu)(hq:q.ok)(p:List (List Int))(hp:PW q p)(l:List Nat)(hl:l.length<=1000)(gA:∀r∈l,r<q.rs.length):
  cN prog 59 [.vec (.par 0) 1 0 l.length,lT] (laid 0 (gP q p l)) (fun x B=>x=.vec (.par 0) 1 0 (fD F q p l).2.length/\∃X:List Nat,X.take (fD F q p l).2.length=(fD F q p l).2/\B=laid 0 (gP q (fD F q p l).1 X)):=by
 obtain⟨xC,jE⟩:∃z,z=fD F q p l:=⟨_,rfl⟩;rw[<-jE];have hC:=Rk hF q hq p hp l hl gA;rw[Zos]at jE;refine O2 [.par 0,.par 1,.par 2] L59 ?_;intro R hR;have Bd:=ZrI (F:=F) hq hp l gA;simp[L59,gP,bK,laid];refine xM (gF:=[.vec (.par 0) 1 0 l.length,lT]) (B:=laid 0 (gP q p l)) (fs:=[]) (cs:=[]) 10 [.par 0,.par 1,.par 2] ?_ rfl rfl ?_ ?_ ?_ hC ?_
 .rfl
 .simp[gP,bK,laid]
 .simp[lT]
 .simp[lT]
 rintro r0 B0 ⟨rfl,rfl⟩;refine⟨rfl,by simp[gP,bK,laid],?_⟩;cases hx:P7 F q p l with
 |none=>
  rw[hx]at jE;simp only at jE;subst jE;simp[gP,bK,laid,G3,UJ,lT];rw[<-hR];exact⟨rfl,l,by simp,by simp[gP,bK,laid]⟩
 |some s=>
  obtain⟨i,p1⟩:=s;obtain⟨hi,Ap,_⟩:=Bd i p1 hx;rw[hx]at jE;simp only at jE;have pV:=jH (k:=i) (by omega);have M7:¬((i:Int) = -1):=by omega
  clear Bd hC;simp[gP,bK,laid,G3,UJ,lT,pV,M7];refine dY (fun n τ=>∃(j:Nat) (X K:List Nat) (p2:List (List Int)),j<=l.length/\n=l.length-j/\X.length=l.length/\X.take K.length=K/\X.drop j=l.drop j/\K.length<j/\PW q p2/\(fD F q p2 (l.drop j)).1=xC.1/\K++(fD F q p2 (l.drop j)).2=xC.2/\τ=VM q p2 X K.length j l.length)
   ⟨l.length-(i+1),VM q p1 l i (i+1) l.length,Sub.mk (by simp[lT]) (by simp[gP,bK,laid]),i+1,l,l.take i,p1,by omega,rfl,rfl,by simp,rfl,by rw[gI];omega,Ap,by rw[jE],by rw[jE],by rw[gI,Nat.min_eq_left (by omega)]⟩ ?_
  clear jE Ap hx pV M7;rintro J hJ n τ ⟨j,X,K,p2,hj,rfl,H2,z7,MX,hKj,Sw,C9,C8,rfl⟩;have HV:=Zhj (l:=X);by_cases aI:j<l.length
  .obtain⟨r,tC⟩:∃x,l[j]?=some x:=⟨l[j],aX aI⟩;have Cv:X[j]?=some r:=by
    have h1:(X.drop j)[0]?=(l.drop j)[0]?:=by rw[MX]
    rw[mW,mW,Nat.add_zero]at h1;rw[h1];exact tC
   have hg:=Zhk Cv;have hw:=jH (k:=j) (by omega);have sL:=jH (k:=K.length) (by omega);have aH:l.length-(j+1)<l.length-j:=by omega
   have z6:l.drop j=r::l.drop (j+1):=by
    rw[AF aI]
    have:l[j]=r:=by rw[aX aI]at tC;exact Option.some.inj tC
    rw[this]
   have hC:=ZnW hF q hq p2 Sw r (gA r (dL tC));have r5:X.drop (j+1)=l.drop (j+1):=by
    have:=congrArg List.tail MX
    simpa[List.tail_drop]using this
   rw[z6]at C9 C8;have e2:fD F q p2 (r::l.drop (j+1))=match fS F q p2 r with
    |some p'=>fD F q p' (l.drop (j+1))
    |none=>((fD F q p2 (l.drop (j+1))).1,r::(fD F q p2 (l.drop (j+1))).2):=rfl
   rw[e2]at C9 C8;clear e2 z6;have MZ:K.length<X.length:=by omega
   have jN:∀Y,Y=X.set K.length r->fS F q p2 r=none->J (l.length-(j+1)) (VM q p2 Y (K.length+1) (j+1) l.length):=fun Y hY hn=>hJ _ _ ⟨j+1,Y,K++[r],p2,aI,rfl,by rw[hY,List.length_set];exact H2,by
    rw[hY,gE];show List.take (K.length+1) _=_;rw[lX,O6 MZ,List.take_set_of_le (fE _),z7];rfl,by rw[hY,List.drop_set_of_lt (by omega)];exact r5,by simp;omega,Sw,by rw[hn]at C9;exact C9,by rw[hn]at C8;rw[I0];exact C8,by simp⟩
   have CQ:∀p3,fS F q p2 r=some p3->J (l.length-(j+1)) (VM q p3 X K.length (j+1) l.length):=fun p3 hn=>hJ _ _ ⟨j+1,X,K,p3,aI,rfl,H2,z7,r5,by omega,(ZhC hq Sw (gA r (dL tC)) hn).1,by rw[hn]at C9;exact C9,by rw[hn]at C8;exact C8,rfl⟩
   clear hJ;have iO:j<X.length:=by omega
   have Da:K.length<l.length:=by omega
   have Cz:(jA X)[K.length]?=some (.i (X[K.length]:Nat)):=Zhk (aX MZ);have bQ:=ZpY (X:=X) (w:=K.length) (r:=r);simp[VM,gP,lT,bK,laid,aI,hg,cO];refine xM (gF:=[.ptr (.par 0) 0,.pv (.i r)]) (B:=laid 0 (bK q p2 1)) (fs:=[.ptr (.par 1) 0]) (cs:=[]) 28 [.par 1,.par 2] ?_ rfl rfl ?_ ?_ ?_ hC ?_
   .rfl
   .simp[bK,laid]
   .rfl
   .rfl
   rintro r0 B0 ⟨rfl,rfl⟩;refine⟨rfl,by simp[bK,laid],?_⟩;cases yJ:fS F q p2 r with
   |none=>
    have aB:=jN _ rfl yJ;simp[bK,laid,hw,sL,Da,↓Cz,bQ,cO,aP,setAt];refine⟨_,_,aH,Sub.mk ?_ ?_,aB⟩
    .simp[lT]
    .simp[gP,bK,laid]
   |some p3=>
    have aB:=CQ p3 yJ;simp[bK,laid,hw];refine⟨_,_,aH,Sub.mk ?_ ?_,aB⟩
    .simp[lT]
    .simp[gP,bK,laid]
  .have he:j=l.length:=by omega
   subst he;rw[List.drop_length]at C9 C8;have Sq:p2=xC.1:=C9;have Sp:K=xC.2:=by rw[<-C8];simp[fD]
   clear hJ C9 C8;have RF:K.length<=l.length:=by omega
   have IU:K.length+(l.length-K.length)=l.length:=by omega
   have jM:aR (jA X) K.length (List.replicate (l.length-K.length) (PV.i 0))=jA (K++List.replicate (l.length-K.length) 0):=by
    unfold aR jA;rw[List.length_replicate,IU,List.drop_eq_nil_of_le (by simp;omega),wW,<-List.map_take,z7,lI,List.map_replicate];rfl
   simp[-aR,VM,gP,lT,bK,laid,aP,RF,IU,HV,H2,jM];rw[<-hR,<-Sq,<-Sp];exact⟨rfl,K++List.replicate (l.length-K.length) 0,by simp,by simp[gP,bK,laid]⟩
section
attribute [local simp] bB AS.cH AV.cH AV.bB aL.cH AS.tidy AS.i7
def Qu.O8 (q:Qu)(k:Nat):List Nat:=((List.range q.rs.length).take k).flatMap fun i=>List.replicate (q.run i).hours.toNat i
theorem Qu.Zwz {q:Qu}{k:Nat}(hk:k<q.rs.length):q.O8 (k+1)=q.O8 k++List.replicate (q.run k).hours.toNat k:=by
 have:(List.range q.rs.length)[k]?=some k:=by rw[List.getElem?_range hk]
 unfold Qu.O8;rw[OA this,List.flatMap_append];simp
theorem Qu.ZwK {q:Qu}(hq:q.ok):∀k,k<=q.rs.length->(q.O8 k).length<=40*k
 |0,_=>by simp[Qu.O8]
 |k+1,hk=>by
  have h1:=Qu.ZwK hq k (by omega);obtain⟨r,hr⟩:∃r,q.rs[k]?=some r:=⟨q.rs[k],aX (by omega)⟩;have h2:=hq.h r (dL hr);have h3:q.run k=r:=by simp[Qu.run,hr]
  rw[Qu.Zwz (by omega),gE,List.length_replicate,h3];omega
theorem Qu.Zw8 {q:Qu}:q.O8 q.rs.length=q.JQ:=by
 unfold Qu.O8 Qu.JQ;rw[fH (by simp)]
def Yx (q:Qu):Option (List (List Int))->AV->List (Site×aL)->Prop
 |none,x,B=>x=.pv (.bM [.eU,.bool false])/\B=[]
 |some p,x,B=>x=.bM [.ptr (.ret 0) 0,.pv (.bool true)]/\B=[(.ret 0,.cells [.pv (.aE false 1 (q.ms.map iF)),.pv (.aE false 3 (q.rs.map Rq.pv)),.vec (.ret 1) 4 0 p.length]),(.ret 1,.arr 151 4 (jS p))]
def BQ (q:Qu)(p:List (List Int))(left:List Nat):AS:=⟨[(4,.ptr (.loc 10 0) 0),(5,.vec (.loc 25 0) 1 0 left.length)],[(.loc 25 0,.arr 3 1 (jA left)),(.loc 10 0,.cells [.pv (.aE false 1 (q.ms.map iF)),.pv (.aE false 3 (q.rs.map Rq.pv)),.vec (.loc 43 0) 4 0 p.length]),(.loc 43 0,.arr 151 4 (jS p))]⟩
theorem ZN {F:Nat}(hF:407<F)(q:Qu)(hq:q.ok):cN prog 68 [.pv q.pv] [] (Yx q (q.DW F)):=by
 have hqr:=hq.r;refine cE L68 ?_;obtain⟨xC,jE⟩:∃z,z=q.DW F:=⟨_,rfl⟩;rw[<-jE];generalize hR:Yx q xC=R;simp[L68,Qu.pv];refine dY (fun n τ=>∃k:Nat,k<=q.rs.length/\n=q.rs.length-k/\τ=⟨[(4,.ptr (.loc 10 0) 0),(5,.vec (.loc 25 0) 1 0 (q.O8 k).length),(12,.pv (.aE false 3 (q.rs.map Rq.pv))),(13,.pv (.i q.rs.length)),(14,.pv (.i k))],[(.loc 25 0,.arr 3 1 (jA (q.O8 k))),(.loc 10 0,.cells [.pv (.aE false 1 (q.ms.map iF)),.pv (.aE false 3 (q.rs.map Rq.pv)),.pv (.emp (some true))])]⟩)
  ⟨q.rs.length,⟨[(4,.ptr (.loc 10 0) 0),(5,.vec (.loc 25 0) 1 0 0),(12,.pv (.aE false 3 (q.rs.map Rq.pv))),(13,.pv (.i q.rs.length)),(14,.pv (.i 0))],[(.loc 25 0,.arr 3 1 []),(.loc 10 0,.cells [.pv (.aE false 1 (q.ms.map iF)),.pv (.aE false 3 (q.rs.map Rq.pv)),.pv (.emp (some true))])]⟩,Sub.trans' (Sub.mk (by simp[AS.cT]) (by simp[AS.cT])) (cT 25 3 1 5 rfl (by decide)),0,fT _,rfl,by simp[Qu.O8,jA]⟩ ?_
 rintro J hJ n τ ⟨k,hk,rfl,rfl⟩;have T5:=Qu.ZwK hq k hk;by_cases aI:k<q.rs.length
 .obtain⟨r,hr⟩:∃r,q.rs[k]?=some r:=⟨q.rs[k],aX aI⟩;have dF:q.run k=r:=by simp[Qu.run,hr]
  have hh:=hq.h r (dL hr);have hg:(q.rs.map Rq.pv)[k]?=some (.agg [.i r.hours,.i r.ready,.aE false 1 (r.on.map PV.bool)]):=by rw[bR,hr];rfl
  have hw:=jH (k:=k) (by omega);have aH:q.rs.length-(k+1)<q.rs.length-k:=by omega
  have aB:=hJ _ _ ⟨k+1,aI,rfl,rfl⟩;have iI:=Qu.Zwz aI;rw[dF]at iI;obtain⟨c,hc⟩:∃c:Nat,r.hours=c:=⟨r.hours.toNat,by omega⟩;rw[hc]at iI hg;rw[H7]at iI;have Sm:=Zpy k c (by omega);have HV:(jA (q.O8 k)).length=(q.O8 k).length:=Zhj;have PQ:(q.O8 k).length+c<=1000000:=by omega
  have hnv:jA (q.O8 k++List.replicate c k)=jA (q.O8 k)++List.replicate c (.i k):=by simp[jA]
  clear hJ jE;generalize q.O8 (k+1)=U2 at *;subst iI;generalize q.O8 k=U1 at *;generalize hTV:jA U1=TV at *;simp[aI,↓hg];refine .inl (cP [.loc 21 0] [.aE false 1 [.i k],.i c] rfl ?_ Sm ?_)
  .simp[aM]
  simp[aM,aP,PQ,HV,hw];refine⟨_,_,aH,Sub.mk ?_ ?_,aB⟩
  .simp
  .simp[hnv]
 .have he:k=q.rs.length:=by omega
  subst he;rw[Qu.Zw8]at T5 ⊢;clear hJ;have hu:=oF (q:=q);have MY:tR F q 41 [] q.JQ=xC:=jE.symm;clear jE;generalize q.JQ=U at *;simp;refine dY (fun n τ=>∃(p:List (List Int)) (left:List Nat),PW q p/\left.length<=1000/\(∀r∈left,r<q.rs.length)/\n+p.length=41/\tR F q n p left=xC/\τ=BQ q p left)
   ⟨41,BQ q [] U,Sub.trans' (Sub.mk (by simp[AS.gL]) (by simp[AS.gL,jS])) (gL 43 151 4 (s:=.loc 10 0) (cs:=[.pv (.aE false 1 (q.ms.map iF)),.pv (.aE false 3 (q.rs.map Rq.pv)),.pv (.emp (some true))]) 2 rfl rfl (by decide)),[],U,PW.nil,by omega,hu,rfl,MY,rfl⟩ ?_
  clear MY hu T5;rintro J hJ n τ ⟨p,left,hp,zL,gA,hn,eO,rfl⟩;have mJ:=hp.l;cases left with
  |nil=>
   have Al:xC=some p:=by rw[<-eO];cases n<;>rfl
   subst Al;simp[BQ];refine⟨[.loc 10 0,.loc 43 0],?_⟩;simp;rw[<-hR];simp[Yx]
  |cons r0 rest=>
   obtain⟨n',rfl⟩:∃n',n=n'+1:=⟨n-1,by omega⟩;have hL:tR F q (n'+1) p (r0::rest)=if p.length=40 then none else tR F q n' (fD F q (p++[fA]) (r0::rest)).1 (fD F q (p++[fA]) (r0::rest)).2:=rfl;rw[hL]at eO;clear hL;by_cases RN:p.length=40
   .rw[if_pos RN]at eO;subst eO;simp[BQ,RN];refine⟨[],?_⟩;simp;rw[<-hR];exact⟨rfl,rfl⟩
   .rw[if_neg RN]at eO;have Vz:¬((p.length:Int)=40):=by omega
    have Ap:=hp.more (q:=q) (by omega);have IE:=Zqx hF q hq (p++[fA]) Ap (r0::rest) zL gA;obtain⟨k1,k2,k3,k4⟩:=Mb (F:=F) hq (r0::rest) (p++[fA]) Ap gA;have hp6:p.length+1<=1000000:=by omega
    have hpv:jS (p++[fA])=jS p++[.agg [.i (-1),.i (-1),.i (-1),.i (-1)]]:=by simp[jS,rowP,fA]
    have Su:(jS p).length=p.length:=by simp[jS]
    have aB:=hJ n' _ ⟨(fD F q (p++[fA]) (r0::rest)).1,(fD F q (p++[fA]) (r0::rest)).2,k1,by omega,fun r h=>gA r (k3 r h),by rw[k2];simp;omega,eO,rfl⟩;clear hJ eO k1 k2 k3 k4;generalize fD F q (p++[fA]) (r0::rest)=D at *;obtain⟨p2,K⟩:=D;simp only at aB IE;simp[BQ,Vz];refine cQ [] [] ZuV ?_;simp[aM,aP,hp6,Su];refine xM (gF:=[.vec (.par 0) 1 0 (r0::rest).length,lT]) (B:=laid 0 (gP q (p++[fA]) (r0::rest))) (fs:=[]) (cs:=[]) 49 [.loc 25 0,.loc 10 0,.loc 43 0] ?_ rfl rfl ?_ ?_ ?_ IE ?_
    .rfl
    .simp[gP,bK,laid,hpv]
    .rfl
    .simp[lT]
    rintro x B0 ⟨rfl,X,hX,rfl⟩;refine⟨rfl,by simp[gP,bK,laid],?_⟩;have hXK:(jA X).take K.length=jA K:=by rw[jA,jA,<-List.map_take,hX]
    simp[gP,bK,laid];refine⟨_,_,Nat.lt_succ_self n',Sub.trans' (Sub.mk ?_ ?_) (Wj (.loc 25 0) (e:=3) (n:=1) (xs:=jA X) K.length (jA K) rfl hXK),aB⟩
    .simp
    .simp
end
end Go.Proofs.YthmbecacehfgfaaGreatDoor.Qn
