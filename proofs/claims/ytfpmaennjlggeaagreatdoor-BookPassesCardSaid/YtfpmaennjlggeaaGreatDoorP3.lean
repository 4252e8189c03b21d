/- The registrar's book: what the statement needs, joined and shortened by program. -/
import Derived.Test.YtfpmaennjlggeaaGreatDoorP0
import Derived.Test.YtfpmaennjlggeaaGreatDoorP2
import Derived.Test.YtfpmaennjlggeaaGreatDoorP1
import Derived.Test.YtfpmaennjlggeaaGreatDoorProg
set_option linter.unusedSimpArgs false
set_option linter.unusedVariables false
set_option maxHeartbeats 32000000
set_option maxRecDepth 10000
namespace Go.Proofs.YtfpmaennjlggeaaGreatDoor
open Go.RowKit
section
theorem cok51:COk Tryz.prog (tyOf tys) L85.code:=ZfE L85_ok L85_tab
structure HMap (H:Int→Bool)(hs:List (PV×PV)):Prop where
 k:Zbi kI hs=true
 f:∀n:Int,(findV (.int .i64 n) hs).getD (.bool false)=.bool (H n)
def numOf:PV→Int
 |.agg (.int _ n::_)=>n
 |_=>0
def capB (s:Site):Box:=.cells [.ptr s 0]
noncomputable def hldX (b:Bk)(bad:List Int)(es hs:List (PV×PV))(is:Bool):List Box:=[.loop (rcode Tryz.prog 85 0) [42] 64 [(3,.ptr (.par 2) 0),(7,.ptr (.par 1) 0)] none,
 .cells [.pv (.bool is)],.cells [.mp (.par 3)],.map hs,capB (.par 5),.cells (wkC b (.par 6) (badZ bad)),.map es]
attribute [local simp] AS.exp expG Box.ren AV.map AV.Zu9 Zau noRet Site.Zu6 Box.Zu3 AV.Zu3 AV.Zu4 retB dropL AS.Zvd renL outG outOk Zas inG fnOf lookA Zyc
section
attribute [local simp] Box.Zu0 Site.Zu1
noncomputable def hldC (b:Bk)(bad:List Int)(es hs:List (PV×PV))(H:Int→Bool)(hH:HMap H hs):Cons Tryz.prog where
 m:=7
 S:=Bool
 X:=hldX b bad es hs
 step is x:=(is||H (numOf x),true)
 good x:=∃c:Ct,x=c.pv
 live _:=True
 m0:=by omega
 len _:=rfl
 cl c:=by
  intro bx hb;simp only[hldX,Zx2,List.not_mem_nil,or_false]at hb;rcases hb with rfl|rfl|rfl|rfl|rfl|rfl|rfl
  ·rfl
  ·rfl
  ·rfl
  ·rfl
  ·rfl
  ·simp[wkC,Site.lt,Zav]
  ·rfl
 goes _ _ _ _ _:=trivial
 yields c x hc hx:=by
  obtain⟨y,rfl⟩:=hx;have hcok:COk Tryz.prog (tyOf tys) (.rng 64 (.t 41) (rcode Tryz.prog 85 0) Y85_0a Y85_0b [42]):=cok51.2.2.1.2.2.2.1.2.2.2.1.2;have hf:=hH.f y.num;have hk:=hH.k;refine ZaX mixed hcok.1 hcok.2.1 rfl rfl (by simp) rfl ?_;cases c
  all_goals
   simp[-getElem?_pos,Y85_0a,Y85_0b,hldX,laid,putL,Ct.pv,hk,hf,numOf,capB,wkC,Zal,Zax];exact⟨[],[.par 1,.par 2,.par 3,.par 4,.par 5,.par 6],rfl,rfl,by simp[frzL,Zav],rfl,by simp[frzL,Zaw]⟩
end
theorem Zk9 {b:Bk}{bad:List Int}{es hs:List (PV×PV)}{H:Int→Bool}{hH:HMap H hs}:∀(l:List Ct) (c:Bool),(hldC b bad es hs H hH).run c (ctsV l)=(c||l.any (fun o=>H o.num),true)
 |[],c=>by
  show(c,true)=_;simp
 |x::l,c=>by
  show(hldC b bad es hs H hH).run (c||H x.num) (ctsV l)=_;rw[Zk9 l,List.any_cons,Bool.or_assoc]
theorem ZiG {b:Bk}(hb:b.ok){bad:List Int}{n:Int}(h:n∈b.held bad):n∈b.nums:=by
 obtain⟨c,hc,e,_⟩:=(Zcc hb).1 h;exact(Zbc hb).2 ⟨c,hc,e⟩
def hEnt (b:Bk)(bad:List Int)(k:Nat):List (PV×PV):=mapI id (fun n=>.bool ((b.held bad).contains n)) (b.nums.take k)
theorem ZfX {l:List Int}{n:Int}:(l.find? fun c=>decide (id c=n))=if n∈l then some n else none:=by
 induction l with
 |nil=>rfl
 |cons x l ih=>
  rw[List.find?_cons];by_cases h:x=n
  ·subst h;rw[show decide (id x=x)=true from by simp,if_pos (by simp)]
  ·rw[show decide (id x=n)=false from by simpa using h,ih];by_cases hm:n∈l
   ·rw[if_pos hm,if_pos (by simp[hm])]
   ·rw[if_neg hm,if_neg (by simp[hm];omega)]
theorem ZdW (b:Bk)(bad:List Int)(k:Nat):HMap (fun n=>(b.nums.take k).contains n&&(b.held bad).contains n) (hEnt b bad k):=by
 refine⟨ZbD,fun n=>?_⟩;unfold hEnt;rw[Zbk,ZfX];by_cases h:n∈b.nums.take k
 ·rw[if_pos h,Zx4.2 h,Bool.true_and];rfl
 ·rw[if_neg h];cases hc:(b.nums.take k).contains n
  ·rfl
  ·exact absurd (Zx4.1 hc) h
theorem Zb5 {b:Bk}(hb:b.ok)(bad:List Int):HMap (fun n=>(b.held bad).contains n) (hEnt b bad b.nums.length):=by
 have h:=ZdW b bad b.nums.length;refine⟨h.k,fun n=>?_⟩;rw[h.f n,Zye];cases hc:(b.held bad).contains n
 ·simp
 ·rw[Zx4.2 (ZiG hb (Zx4.1 hc))];rfl
theorem Zqm {b:Bk}{bad:List Int}{k:Nat}{n:Int}(h:b.nums[k]?=some n):putK (.int .i64 n) (.bool ((b.held bad).contains n)) (hEnt b bad k)=hEnt b bad (k+1):=by
 unfold hEnt;rw[ZdL (fun x hx=>?_),Zx6,h]
 ·unfold mapI;rw[Zyb];rfl
 ·obtain⟨i,hi⟩:=ZxV.1 hx;rw[Zx1]at hi;split at hi
  ·rename_i hik;obtain⟨h1,e1⟩:=ZxN.1 hi;obtain⟨h2,e2⟩:=ZxN.1 h
   have:=ZyE.1 (Zbd (b:=b)) i k h1 h2 hik
   rw[e1,e2]at this;show x≠n;omega
  ·cases hi
theorem Zlx {b:Bk}(hb:b.ok){k:Nat}{n:Int}(h:b.nums[k]?=some n)(H:Int→Bool):((b.ofL (b.get n).src (b.get n).day n).any fun o=>(b.nums.take k).contains o.num&&H o.num)=(b.ofL (b.get n).src (b.get n).day n).any fun o=>H o.num:=by
 rw[Zyr,Zya,Zya];constructor
 ·rintro⟨o,ho,h1⟩;rw[ZxO]at h1;exact⟨o,ho,h1.2⟩
 ·rintro⟨o,ho,h1⟩;refine⟨o,ho,?_⟩;rw[h1,Bool.and_true,Zx4];obtain⟨h2,h3⟩:=(ZbG hb).1 ho;unfold Bk.ofB at h3;simp only[ZxO,decide_eq_true_eq]at h3;obtain⟨i,hi⟩:=ZxV.1 ((Zbc hb).2 ⟨o,h2,rfl⟩);rw[ZxV];refine⟨i,?_⟩;obtain⟨q1,e1⟩:=ZxN.1 hi;obtain⟨q2,e2⟩:=ZxN.1 h;rw[Zx1,if_pos,hi];rcases Nat.lt_trichotomy i k with hik|hik|hik
  ·exact hik
  ·subst hik;rw[e1]at e2;omega
  ·have:=ZyE.1 (Zbd (b:=b)) k i q2 q1 hik
   rw[e1,e2]at this;omega
theorem ZiD {b:Bk}(hb:b.ok){bad:List Int}{k:Nat}{n:Int}(h:b.nums[k]?=some n):(((b.item (b.get n).src).std||(b.ofL (b.get n).src (b.get n).day n).any fun o=>(b.nums.take k).contains o.num&&(b.held bad).contains o.num)&&!bad.contains n)=(b.held bad).contains n:=by
 rw[Zk8 hb (ZxQ h),Zlx hb h]
theorem get4 {a b c d:AV}{Z:List AV}{n:Nat}:(a::b::c::d::Z)[4+n]?=Z[n]?:=by rw[Nat.add_comm];rfl
def hdK (b:Bk)(bad:List Int)(es:List (PV×PV))(k:Nat):AS:=⟨[(0,.ptr (.par 0) 0),(3,.ptr (.loc 3 0) 0),(13,.pv (.lst false 1 (b.nums.map intP))),(14,.pv (.int .i64 b.nums.length)),(15,.pv (.int .i64 k))],
 [(.loc 9 0,.map (hEnt b bad k)),(.loc 3 0,.cells [.mp (.loc 9 0)]),(.par 0,.cells (wkC b (.par 1) (badZ bad))),(.par 1,.map es)]⟩
section
attribute [local simp] Box.Zu0 Site.Zu1
theorem Zn9 (b:Bk)(hb:b.ok)(bad:List Int)(es:List (PV×PV))(hes:CMap b es):Zai Tryz.prog 85 [.ptr (.par 0) 0] (laid 0 (wkB b bad es)) (fun r B=>r=.mp (.ret 0)∧B=(.ret 0,.map (hEnt b bad b.nums.length))::laid 0 (wkB b bad es)):=by
 have hlen:=Zdd (b:=b);refine cBR [.loc 9 0,.par 0,.par 1] L85 ?_;intro R hR;simp[-getElem?_pos,L85,laid,wkB,wkC,Zal,Zax];refine Zaf (fun n τ=>∃k:Nat,k≤b.nums.length∧n=b.nums.length-k∧τ=hdK b bad es k) ⟨b.nums.length,hdK b bad es 0,Sub.mk (by simp[hdK]) (by simp[hdK,wkC,hEnt,mapI,Zal]),0,Zx0 _,rfl,rfl⟩ ?_;rintro J hJ n τ ⟨k,hk,rfl,rfl⟩;by_cases hlt:k<b.nums.length
 ·obtain⟨x,hx⟩:∃x,b.nums[k]?=some x:=⟨b.nums[k],ZxL hlt⟩;have hxm:=ZxQ hx;have hgx:(b.nums.map intP)[k]?=some (.int .i64 x):=by rw[ZxM,hx];rfl
  have hw:=wrapK (k:=k) (by omega);have hmeas:b.nums.length-(k+1)<b.nums.length-k:=by omega
  obtain⟨hcm,hcn⟩:=Zbf hb hxm;have hfx:=hes.f x;rw[if_pos hxm]at hfx;have hko:=hes.k;have hbd:=Za1 hb hcm;have hround:=hJ _ _ ⟨k+1,hlt,rfl,rfl⟩;have hput:=Zqm (bad:=bad) hx;have hst:=ZiD hb (bad:=bad) hx;have hkk:=(ZdW b bad k).k;have hany:=Zlx hb hx (fun n=>(b.held bad).contains n);have hrun:=fun is:Bool=>Zk9 (b:=b) (bad:=bad) (es:=es) (hH:=ZdW b bad k) (b.ofL (b.get x).src (b.get x).day x) is
  have hit:=fun is:Bool=>Ziv (hldC b bad es (hEnt b bad k) _ (ZdW b bad k)) b hb bad es hes 4 5 6 (fun c _=>⟨rfl,rfl⟩) (fun c _=>rfl) (b.get x).src (b.get x).day x is trivial (fun z hz=>⟨z,rfl⟩)
  simp only[hrun,hany]at hit;rw[ZiD hb hx]at hst;have hst2:=Zk8 hb (bad:=bad) hxm;generalize hAN:((b.ofL (b.get x).src (b.get x).day x).any fun n=>(b.held bad).contains n.num)=an at *;generalize b.get x=y at *;obtain⟨yn,yi,ys,yd,yv,⟨yl,yh⟩⟩:=y;simp only at hcn hbd hit hst2;subst hcn;unfold Ct.pv at hfx;obtain⟨si,rfl⟩:∃si:Nat,ys=si:=⟨ys.toNat,by omega⟩;obtain⟨nn,rfl⟩:∃nn:Nat,yn=nn:=⟨yn.toNat,by omega⟩;have hsi:si<b.items.length:=by omega
  have hnn:nn<1000:=by omega
  obtain⟨z,hz⟩:∃z,b.items[si]?=some z:=⟨b.items[si],ZxL hsi⟩;have hgz:(b.items.map It.pv)[si]?=some (.agg [.int .i64 z.drift,.bool z.std,.int .i64 z.val.lo,.int .i64 z.val.hi]):=by rw[ZxM,hz];rfl
  have hzi:b.item (si:Int)=z:=by unfold Bk.item;rw[Int.toNat_natCast,hz];rfl
  rw[hzi]at hst2;have hit':=hit z.std;clear hit;simp[-getElem?_pos,-List.getElem?_map,hdK,wkC,hlt,hgx,hko,hfx,itsP,hgz,hsi,Zal,Zax,-retB];refine cM [.ptr (.par 0) 0,.pv (.int .i64 si),.pv (.int .i64 yd),.pv (.int .i64 nn)] (laid 0 (wkB b bad es)) 41 [.par 0,.par 1] (by simp[laid,wkB,wkC,itsP,Zaw,Zav]) (of_c b bad es si yd nn) (by simp[laid,wkB,wkC,Zav]) ?_;simp[-getElem?_pos,-List.getElem?_map,laid,wkB,wkC,Zal,Zax,Zaw,ofF,-retB];refine Zc9 [.loc 64 0,.loc 7 0,.loc 3 0,.loc 9 0,.loc 41 0,.par 0,.par 1] [(3,.ptr (.loc 3 0) 0),(7,.ptr (.loc 7 0) 0)] (gf:=124) (fs:=[]) (cs:=[.ptr (.loc 41 0) 0,.pv (.ref [.int .i64 nn]),.pv (.ref [.int .i64 si]),.pv (.ref [.int .i64 yd])]) ?_ ?_ rfl rfl ?_ ?_ ?_ hit' ?_
  ·rfl
  ·simp
  ·simp[hldC,hldX,laid,wkC,Zaw,Zav,Zal,Zax,capB]
  ·rfl
  ·rfl
  rintro r B' ⟨rfl,rfl⟩;refine⟨rfl,?_,?_⟩
  ·exact fun p hp=>Zew (n:=7) (L:=hldX b bad es (hEnt b bad k) (z.std||an)) (by simp[hldX]) ((hldC b bad es (hEnt b bad k) _ (ZdW b bad k)).cl (z.std||an)) p hp
  refine⟨_,_,_,_,_,rfl,?_⟩;have hfold:(z.std||an)=true→(b.held bad).contains (nn:Int)=!bad.contains (nn:Int):=fun h=>by rw[hst2,h,Bool.true_and]
  have hfold2:(z.std||an)=false→(b.held bad).contains (nn:Int)=false:=fun h=>by rw[hst2,h,Bool.false_and]
  generalize hIS:(z.std||an)=is at *;have hbz:=ZhP (l:=bad) hnn;cases is
  ·rw[hfold2 rfl]at hput;simp[-getElem?_pos,-List.getElem?_map,hldC,hldX,laid,jumpQ,wkC,Zal,Zax,Zaw,capB,-retB,hIS,hkk,hput,hw];exact⟨_,_,hmeas,Sub.mk (by simp[hdK]) (by simp[hdK,wkC,Zal]),hround⟩
  ·have hv:=hfold rfl;cases hbc:bad.contains (nn:Int)
   ·rw[hbc]at hv hbz;simp only[Bool.not_false,Bool.not_true]at hv;rw[hv]at hput;simp[-getElem?_pos,-List.getElem?_map,hldC,hldX,laid,jumpQ,wkC,Zal,Zax,Zaw,capB,-retB,hIS,nblt,nble,hnn,get4,hbz,hkk,hput,hw];exact⟨_,_,hmeas,Sub.mk (by simp[hdK]) (by simp[hdK,wkC,Zal]),hround⟩
   ·rw[hbc]at hv hbz;simp only[Bool.not_false,Bool.not_true]at hv;rw[hv]at hput;simp[-getElem?_pos,-List.getElem?_map,hldC,hldX,laid,jumpQ,wkC,Zal,Zax,Zaw,capB,-retB,hIS,nblt,nble,hnn,get4,hbz,hkk,hput,hw];exact⟨_,_,hmeas,Sub.mk (by simp[hdK]) (by simp[hdK,wkC,Zal]),hround⟩
 ·have he:k=b.nums.length:=by omega
  subst he;clear hJ;simp[-getElem?_pos,-List.getElem?_map,hdK,wkC,Zav,Zaw,Zau];rw[←hR];exact⟨rfl,by simp[laid,wkB,wkC]⟩
end
end
section
def okAt (l:List Int)(k:Nat):Bool:=match l[k]? with
 |some n=>inB n 1 999&&(decide (k=0)||decide ((l[k-1]?).getD 0<n))
 |none=>true
def areB (l:List Int):Bool:=(List.range l.length).all (okAt l)
theorem Zj7 {l:List Int}{k:Nat}(hk:k<l.length)(h:okAt l k=false):areB l=false:=by
 unfold areB;rw[List.all_eq_false];exact⟨k,List.mem_range.2 hk,by simp[h]⟩
theorem Zri {l:List Int}(h:∀k,k<l.length→okAt l k=true):areB l=true:=by
 unfold areB;rw[Zx7];exact fun k hk=>h k (List.mem_range.1 hk)
def woR (b:Bk)(bad:List Int)(r:AV)(B:List (Site×Box)):Prop:=
 (b.fault≠0∧r=.pv (.tup [.nilp,.int .i64 b.fault])∧B=[])∨
 (b.fault=0∧areB bad=false∧r=.pv (.tup [.nilp,.int .i64 2])∧B=[])∨
 (b.fault=0∧areB bad=true∧∃es,CMap b es∧r=.tup [.ptr (.ret 0) 0,.pv (.int .i64 0)]∧B=[(.ret 0,.cells (wkC b (.ret 1) (badZ bad))),(.ret 1,.map es)])
def woK (b:Bk)(bad:List Int)(es:List (PV×PV))(k:Nat):AS:=⟨[(1,.pv (.lst false 1 (bad.map intP))),(6,.ptr (.loc 12 0) 0),(18,.pv (.lst false 1 (bad.map intP))),(19,.pv (.int .i64 bad.length)),(20,.pv (.int .i64 k))],
 [(.loc 12 0,.cells (wkC b (.loc 12 1) (badZ (bad.take k)))),(.loc 12 1,.map es)]⟩
theorem take4 {a b c d:AV}{Z:List AV}{n:Nat}:(a::b::c::d::Z).take (4+n)=a::b::c::d::Z.take n:=by rw[Nat.add_comm];rfl
theorem drop3 {b c d:AV}{Z:List AV}{n:Nat}:(b::c::d::Z).drop (4+n)=Z.drop (n+1):=by rw[Nat.add_comm];rfl
theorem ZmV {Z:List AV}{n:Nat}{v:AV}(h:n<Z.length):Z.take n++v::Z.drop (n+1)=Z.set n v:=by rw[List.set_eq_take_append_cons_drop,if_pos h]
attribute [local simp] AS.exp expG Box.ren AV.map AV.Zu9 noRet Site.Zu6 Box.Zu3 AV.Zu3 AV.Zu4 dropL AS.Zvd renL outG outOk Zas inG fnOf lookA Zyc
attribute [local simp] Box.Zu0 Site.Zu1
theorem Zmr (b:Bk)(hi:b.items.length≤1000)(hc:b.certs.length≤1000)(bad:List Int)(hbl:bad.length≤1000):Zai Tryz.prog 96 [.pv b.pv,.pv (.lst false 1 (bad.map intP))] [] (woR b bad):=by
 have hr:=Zib b hi hc;refine cE L96 ?_;generalize hR:woR b bad=R;simp[-getElem?_pos,L96,Bk.pv];refine cL [.pv b.pv] [] 12 [] rfl hr ?_
 rintro r0 B0 (⟨h0,rfl,rfl⟩|⟨h0,es,hes,rfl,rfl⟩)
 ·refine⟨rfl,by simp,?_⟩;have hd:decide (b.fault=0)=false:=by simpa using h0
  simp[-getElem?_pos,-decide_eq_true_eq,-decide_eq_false_iff_not,hd];refine⟨[],?_⟩;simp[retB,Zau];rw[←hR];exact .inl ⟨h0,rfl,rfl⟩
 refine⟨rfl,by simp[wkC,Zbz,Zav],?_⟩;simp[-getElem?_pos,-List.getElem?_map,wkC,Zbz,Zaw,Zal];refine Zaf (fun n τ=>∃k:Nat,k≤bad.length∧n=bad.length-k∧(∀j,j<k→okAt bad j=true)∧τ=woK b bad es k) ⟨bad.length,woK b bad es 0,Sub.mk (by simp[woK]) (by simp[woK,wkC,Zal]),0,Zx0 _,rfl,(fun j hj=>by omega),rfl⟩ ?_;rintro J hJ n τ ⟨k,hk,rfl,hinv,rfl⟩;by_cases hlt:k<bad.length
 ·obtain⟨x,hx⟩:∃x,bad[k]?=some x:=⟨bad[k],ZxL hlt⟩;have hgx:(bad.map intP)[k]?=some (.int .i64 x):=by rw[ZxM,hx];rfl
  have hw:=wrapK (k:=k) (by omega);have hmeas:bad.length-(k+1)<bad.length-k:=by omega
  have hok:okAt bad k=(inB x 1 999&&(decide (k=0)||decide ((bad[k-1]?).getD 0<x))):=by unfold okAt;rw[hx]
  have herr:okAt bad k=false→∃outs,retB outs [.tm 4,.tm 5] R ⟨[(5,.pv (.int .i64 2)),(4,.pv .nilp)],[]⟩:=fun h=>⟨[],by
   simp[retB,Zau];rw[←hR];exact .inr (.inl ⟨h0,Zj7 hlt h,rfl,rfl⟩)⟩
  have hnum:=ZkN x;have hlt':decide ((k:Int)<(bad.length:Int))=true:=by simp;omega
  simp[-getElem?_pos,-List.getElem?_map,-decide_eq_true_eq,-decide_eq_false_iff_not,woK,wkC,hlt,hlt',hgx];refine cG [.int .i64 x] hnum ?_;cases e1:inB x 1 999
  ·rw[e1,Bool.false_and]at hok;simp[-getElem?_pos,-List.getElem?_map,-decide_eq_true_eq,-decide_eq_false_iff_not];refine⟨[],?_⟩;simp[retB,Zau];rw[←hR];exact .inr (.inl ⟨h0,Zj7 hlt hok,rfl,rfl⟩)
  rw[e1,Bool.true_and]at hok;have hx1:1≤x∧x≤999:=by unfold inB at e1;simp only[ZxO,decide_eq_true_eq]at e1;exact e1
  obtain⟨nn,rfl⟩:∃nn:Nat,x=nn:=⟨x.toNat,by omega⟩;have hnn:nn<1000:=by omega
  have hset:=Zq4 (l:=bad.take k) hnn;have htk:bad.take (k+1)=bad.take k++[(nn:Int)]:=by rw[Zx6,hx];rfl
  rw[←htk,←ZmV (by rw[ZhO];exact hnn)]at hset;have hle:4+nn≤1003:=by omega
  have hround:=fun h:okAt bad k=true=>hJ _ _ ⟨k+1,hlt,rfl,(fun j hj=>by
   rcases ZyD.1 hj with h'|h'
   ·exact hinv j h'
   ·subst h';exact h),rfl⟩
  by_cases hz:k=0
  ·have hround:=hround (by rw[hok,hz];rfl);subst hz;have hw0:IntKind.i64.wrap 1=1:=rfl;simp only[List.take_zero,Zyj]at hset;simp[hw0,-getElem?_pos,-List.getElem?_map,-decide_eq_true_eq,-decide_eq_false_iff_not,wkC,Zal,hw,nblt,nble,hnn,take4,drop3,hle,hset,ZhO];exact⟨_,_,hmeas,Sub.mk (by simp[woK]) (by simp[woK,wkC,Zal]),hround⟩
  ·obtain⟨j,hj1⟩:∃j,j+1=k:=⟨k-1,by omega⟩;obtain⟨y,hy⟩:∃y,bad[j]?=some y:=⟨bad[j]'(by omega),ZxL _⟩;have hgy:(bad.map intP)[j]?=some (.int .i64 y):=by rw[ZxM,hy];rfl
   have hw1:IntKind.i64.wrap ((k:Int)-1)=(j:Int):=by rw[wrap64 (by omega)];omega
   have hpos:decide ((0:Int)<(k:Int))=true:=by simp;omega
   have hpos2:0<k:=by omega
   have hjl:j<bad.length:=by omega
   have hok':okAt bad k=decide (y<(nn:Int)):=by
    rw[hok,show k-1=j by omega,hy,decide_eq_false hz,Bool.false_or];rfl
   cases e2:decide (y<(nn:Int))
   ·have e3:decide ((nn:Int)≤y)=true:=by simp at e2 ⊢;omega
    simp[-getElem?_pos,-List.getElem?_map,-decide_eq_true_eq,-decide_eq_false_iff_not,hpos,hpos2,hw1,hjl,hgy,e3];refine⟨[],?_⟩;simp[retB,Zau];rw[←hR];exact .inr (.inl ⟨h0,Zj7 hlt (by rw[hok',e2]),rfl,rfl⟩)
   ·have e3:decide ((nn:Int)≤y)=false:=by simp at e2 ⊢;omega
    have hround:=hround (by rw[hok',e2]);simp[-getElem?_pos,-List.getElem?_map,-decide_eq_true_eq,-decide_eq_false_iff_not,hpos,hpos2,hw1,hjl,hgy,e3,wkC,Zal,hw,nblt,nble,hnn,take4,drop3,hle,hset,ZhO];exact⟨_,_,hmeas,Sub.mk (by simp[woK]) (by simp[woK,wkC,Zal]),hround⟩
 ·have he:k=bad.length:=by omega
  subst he;clear hJ;simp[-getElem?_pos,-List.getElem?_map,woK,wkC];refine⟨[.loc 12 0,.loc 12 1],?_⟩;simp[retB,Zau,Zav,Zaw];rw[←hR];refine .inr (.inr ⟨h0,Zri hinv,es,hes,rfl,?_⟩);simp[wkC]
end
section
section
attribute [local simp] Box.Zu0 Site.Zu1
theorem ZjU (l:List Int)(h0:l≠[])(hl:l.length≤1000000):Zai Tryz.prog 29 [.pv (.lst false 1 (l.map intP))] [] (fun r B=>r=.vec (.ret 0) 1 0 l.length∧B=[(.ret 0,.arr 3 1 (l.map intP))]):=by
 refine cB [.loc 7 0] L29 ?_;cases l with
 |nil=>exact absurd rfl h0
 |cons a l=>
  have h1:l.length+1≤1000000:=by simpa using hl
  have hm:(l.map intP).take l.length=l.map intP:=ZxW (by simp);simp[-getElem?_pos,L29,nilOf,nble,h1,hm,retB,Zau,AS.exp,expG,Box.ren,AV.map,AV.Zu9,noRet,Site.Zu6,Box.Zu3,AV.Zu3,AV.Zu4,Zyc]
attribute [local simp] retFz frzL AS.frz AV.frz AV.frzL Box.frz AS.tidy AS.ZvF
theorem ZqM:Gives Tryz.prog 29 [.lst false 1 []] (.lst false 1 []):=by
 refine Zai.ZvA ?_;refine cF [.loc 7 0] L29 ?_;simp[-getElem?_pos,L29,nilOf,ZaB,nble,opWp,osel];exact fun m v h=>Zbm h
end
attribute [local simp] AS.exp expG Box.ren AV.map AV.Zu9 Zau noRet Site.Zu6 Box.Zu3 AV.Zu3 AV.Zu4 retB dropL AS.Zvd renL outG outOk Zas inG fnOf lookA Zyc
attribute [local simp] Box.Zu0 Site.Zu1
theorem Zqe {X:List Int}{w:Nat}{r:Int}:(X.map intP).set w (.int .i64 r)=(X.set w r).map intP:=by rw[List.map_set];rfl
theorem ZiJ {l:List Int}{k:Nat}{x:Int}{p:Int→Bool}(h:l[k]?=some x)(hp:p x=true)(hinv:∀(j:Nat) (y:Int),j<k→l[j]?=some y→p y=false):l.findIdx? p=some k:=by
 obtain⟨hlt,e⟩:=ZxN.1 h;rw[Zyy];refine⟨hlt,by rw[e];exact hp,fun j hj=>?_⟩
 have:=hinv j l[j] hj (ZxL (by omega))
 simp[this]
theorem Zoh {l:List Int}{p:Int→Bool}(hinv:∀(j:Nat) (y:Int),j<l.length→l[j]?=some y→p y=false):l.findIdx? p=none:=by
 rw[Zyz];intro x hx;obtain⟨j,hj⟩:=ZxV.1 hx;exact hinv j x (ZxN.1 hj).1 hj
def ixI:Option Nat→Int
 |some i=>i
 |none=>-1
theorem Zog {l:List Int}{p:Int→Bool}{i:Nat}(h:l.findIdx? p=some i):i<l.length∧l.take i=(l.take (i+1)).filter (fun n=>!p n):=by
 obtain⟨h1,h2,h3⟩:=Zyy.1 h;refine⟨h1,?_⟩;rw[Zx6,ZxL h1,Zyw];have e:(Option.some l[i]).toList.filter (fun n=>!p n)=[]:=by simp[h2]
 rw[e,Zx9,List.filter_eq_self.2];intro x hx;obtain⟨j,hj⟩:=ZxV.1 hx;rw[Zx1]at hj;split at hj
 ·rename_i hji;obtain⟨q1,q2⟩:=ZxN.1 hj
  have:=h3 j hji
  rw[q2]at this;simpa using this
 ·cases hj
theorem ZjM {l:List Int}{p:Int→Bool}(h:l.findIdx? p=none):l.filter (fun n=>!p n)=l:=by
 rw[List.filter_eq_self];intro x hx
 have:=Zyz.1 h x hx
 simp[this]
def hdB (hs:List (PV×PV))(m:Nat):List Box:=[.cells [.mp (.par (m+1))],.map hs]
theorem predH (H:Int→Bool)(hs:List (PV×PV))(hH:HMap H hs)(n:Int)(_:True):Zai Tryz.prog 97 [.pv (.int .i64 n),.ptr (.par 0) 0] (laid 0 (hdB hs 0)) (fun r B=>r=.pv (.bool (!H n))∧B=laid 0 (hdB hs 0)):=by
 have hf:=hH.f n;have hk:=hH.k;refine cB [.par 0,.par 1] L97 ?_;simp[-getElem?_pos,L97,hdB,laid,hf,hk]
section
theorem ixH (H:Int→Bool)(hs:List (PV×PV))(hH:HMap H hs)(l:List Int)(hl:l.length≤1000)(hin:∀n∈l,True):
  Zai Tryz.prog 114 [.vec (.par 0) 1 0 l.length,(.fn 97 [] [.ptr (.par 1) 0])] (laid 0 (.arr 3 1 (l.map intP)::hdB hs 1)) (fun x B=>x=.pv (.int .i64 (ixI (l.findIdx? (fun n=>!H n))))∧B=laid 0 (.arr 3 1 (l.map intP)::hdB hs 1)):=by
 refine cBR [.par 0,.par 1,.par 2] L114 ?_;intro R hR;simp[-getElem?_pos,L114,hdB,laid];refine Zaf (fun n τ=>∃k:Nat,k≤l.length∧n=l.length-k∧(∀(j:Nat) (y:Int),j<k→l[j]?=some y→(fun n=>!H n) y=false)∧τ=⟨[(0,.vec (.par 0) 1 0 l.length),(1,(.fn 97 [] [.ptr (.par 1) 0])),(7,.pv (.int .i64 l.length)),(8,.pv (.int .i64 k))],laid 0 (.arr 3 1 (l.map intP)::hdB hs 1)⟩)
  ⟨l.length,⟨[(0,.vec (.par 0) 1 0 l.length),(1,(.fn 97 [] [.ptr (.par 1) 0])),(7,.pv (.int .i64 l.length)),(8,.pv (.int .i64 0))],laid 0 (.arr 3 1 (l.map intP)::hdB hs 1)⟩,Sub.mk (by simp) (by simp[hdB,laid]),0,Zx0 _,rfl,(fun j y hj=>by omega),rfl⟩ ?_
 rintro J hJ n τ ⟨k,hk,rfl,hinv,rfl⟩;by_cases hlt:k<l.length
 ·obtain⟨r,hx⟩:∃x,l[k]?=some x:=⟨l[k],ZxL hlt⟩;have hg:(l.map intP)[k]?=some (.int .i64 r):=by rw[ZxM,hx];rfl
  have hw:=wrapK (k:=k) (by omega);have hmeas:l.length-(k+1)<l.length-k:=by omega
  have hC:=predH H hs hH r (hin r (ZxQ hx));have hnext:(fun n=>!H n) r=false→J (l.length-(k+1)) _:=fun hn=>hJ _ _ ⟨k+1,hlt,rfl,(fun j y hj hy=>by
   rcases ZyD.1 hj with h|h
   ·exact hinv j y h hy
   ·subst h;rw[hx]at hy;cases hy;exact hn),rfl⟩
  clear hJ;simp[-getElem?_pos,-List.getElem?_map,hdB,laid,hlt,hg,nblt,nble];refine cM [.pv (.int .i64 r),.ptr (.par 0) 0] (laid 0 (hdB hs 0)) 16 [.par 1,.par 2] (by simp[hdB,laid]) hC (by simp[hdB,laid]) ?_;cases hgv:(fun n=>!H n) r with
  |false=>
   have hround:=hnext hgv;have hgv':(!H r)=false:=hgv;simp[-getElem?_pos,-List.getElem?_map,hdB,laid,hw,hgv'];refine⟨_,_,hmeas,Sub.mk ?_ ?_,hround⟩
   ·simp
   ·simp[hdB,laid]
  |true=>
   have hf:=ZiJ hx hgv hinv;have hgv':(!H r)=true:=hgv;simp[-getElem?_pos,-List.getElem?_map,hdB,laid,hgv'];rw[←hR,hf];simp[hdB,laid,ixI]
 ·have he:k=l.length:=by omega
  subst he;have hf:=Zoh hinv;clear hJ;simp[-getElem?_pos,-List.getElem?_map,hdB,laid];rw[←hR,hf];simp[hdB,laid,ixI]
theorem delH (H:Int→Bool)(hs:List (PV×PV))(hH:HMap H hs)(l:List Int)(hl:l.length≤1000)(hin:∀n∈l,True):
  Zai Tryz.prog 66 [.vec (.par 0) 1 0 l.length,(.fn 97 [] [.ptr (.par 1) 0])] (laid 0 (.arr 3 1 (l.map intP)::hdB hs 1)) (fun x B=>x=.vec (.par 0) 1 0 (l.filter (fun n=>!(fun n=>!H n) n)).length∧∃X:List Int,X.take (l.filter (fun n=>!(fun n=>!H n) n)).length=l.filter (fun n=>!(fun n=>!H n) n)∧B=laid 0 (.arr 3 1 (X.map intP)::hdB hs 1)):=by
 have hC:=ixH H hs hH l hl hin;refine cBR [.par 0,.par 1,.par 2] L66 ?_;intro R hR;simp[-getElem?_pos,L66,hdB,laid];refine cM [.vec (.par 0) 1 0 l.length,(.fn 97 [] [.ptr (.par 1) 0])] (laid 0 (.arr 3 1 (l.map intP)::hdB hs 1)) 10 [.par 0,.par 1,.par 2] (by simp[hdB,laid]) hC (by simp[hdB,laid]) ?_;cases hx:l.findIdx? (fun n=>!H n)with
 |none=>
  have hfl:=ZjM hx;simp[-getElem?_pos,hdB,laid,ixI];rw[←hR,hfl];exact⟨rfl,l,by simp,by simp[hdB,laid]⟩
 |some i=>
  obtain⟨hi,hti⟩:=Zog hx;have hw1:=wrapK (k:=i) (by omega);have hni:¬((i:Int) = -1):=by omega
  clear hC;simp[-getElem?_pos,hdB,laid,ixI,hw1,hni];refine Zaf (fun n τ=>∃(j:Nat) (X K:List Int),j≤l.length∧n=l.length-j∧X.length=l.length∧K=(l.take j).filter (fun n=>!(fun n=>!H n) n)∧X.take K.length=K∧X.drop j=l.drop j∧K.length<j∧τ=⟨[(0,.vec (.par 0) 1 0 l.length),(1,(.fn 97 [] [.ptr (.par 1) 0])),(5,.pv (.int .i64 K.length)),(6,.pv (.int .i64 j))],laid 0 (.arr 3 1 (X.map intP)::hdB hs 1)⟩)
   ⟨l.length-(i+1),⟨[(0,.vec (.par 0) 1 0 l.length),(1,(.fn 97 [] [.ptr (.par 1) 0])),(5,.pv (.int .i64 i)),(6,.pv (.int .i64 (i+1:Nat)))],laid 0 (.arr 3 1 (l.map intP)::hdB hs 1)⟩,Sub.mk (by simp) (by simp[hdB,laid]),i+1,l,l.take i,by omega,rfl,rfl,hti,by simp,rfl,by rw[ZxT];omega,by rw[ZxT,Nat.min_eq_left (by omega)]⟩ ?_
  clear hx hw1 hni hti;rintro J hJ n τ ⟨j,X,K,hj,rfl,hXl,hKe,hXt,hXd,hKj,rfl⟩;by_cases hlt:j<l.length
  ·obtain⟨r,hxr⟩:∃x,l[j]?=some x:=⟨l[j],ZxL hlt⟩;have hXr:X[j]?=some r:=by
    have h1:(X.drop j)[0]?=(l.drop j)[0]?:=by rw[hXd]
    rw[Zx3,Zx3,Nat.add_zero]at h1;rw[h1];exact hxr
   have hg:(X.map intP)[j]?=some (.int .i64 r):=by rw[ZxM,hXr];rfl
   have hw:=wrapK (k:=j) (by omega);have hw2:=wrapK (k:=K.length) (by omega);have hmeas:l.length-(j+1)<l.length-j:=by omega
   have hC:=predH H hs hH r (hin r (ZxQ hxr));have hdn:X.drop (j+1)=l.drop (j+1):=by
    have:=congrArg List.tail hXd
    simpa[List.tail_drop]using this
   have hKl:K.length<X.length:=by omega
   have htn:(l.take (j+1)).filter (fun n=>!(fun n=>!H n) n)=K++(if(!(fun n=>!H n) r)=true then[r]else[]):=by
    rw[Zx6,hxr,Zyw,←hKe];congr 1;simp only[Option.toList,Zyt,List.filter_nil]
   have hset:∀Y,Y=X.set K.length r→(fun n=>!H n) r=false→J (l.length-(j+1)) ⟨[(0,.vec (.par 0) 1 0 l.length),(1,(.fn 97 [] [.ptr (.par 1) 0])),(5,.pv (.int .i64 (K.length+1:Nat))),(6,.pv (.int .i64 (j+1:Nat)))],laid 0 (.arr 3 1 (Y.map intP)::hdB hs 1)⟩:=fun Y hY hn=>hJ _ _ ⟨j+1,Y,K++[r],hlt,rfl,by rw[hY,List.length_set];exact hXl,by rw[htn,if_pos (by simp[hn])],by
    rw[hY,ZxU];show List.take (K.length+1) _=_;rw[Zx6,ZyA hKl,List.take_set_of_le (ZxR _),hXt];rfl,by rw[hY,List.drop_set_of_lt (by omega)];exact hdn,by simp;omega,by simp⟩
   have hgot:(fun n=>!H n) r=true→J (l.length-(j+1)) ⟨[(0,.vec (.par 0) 1 0 l.length),(1,(.fn 97 [] [.ptr (.par 1) 0])),(5,.pv (.int .i64 K.length)),(6,.pv (.int .i64 (j+1:Nat)))],laid 0 (.arr 3 1 (X.map intP)::hdB hs 1)⟩:=fun hn=>hJ _ _ ⟨j+1,X,K,hlt,rfl,hXl,by rw[htn,if_neg (by simp[hn]),Zx9],hXt,hdn,by omega,rfl⟩
   clear hJ;have hKn:K.length<l.length:=by omega
   have hlt2:j<X.length:=by omega
   have hKx:(X.map intP)[K.length]?=some (.int .i64 X[K.length]):=by rw[ZxM,ZxL hKl];rfl
   have hst:=Zqe (X:=X) (w:=K.length) (r:=r);simp[-getElem?_pos,-List.getElem?_map,hdB,laid,hlt,hg,hXl,nblt,nble];refine cM [.pv (.int .i64 r),.ptr (.par 0) 0] (laid 0 (hdB hs 0)) 28 [.par 1,.par 2] (by simp[hdB,laid]) hC (by simp[hdB,laid]) ?_;cases hgv:(fun n=>!H n) r with
   |false=>
    have hround:=hset _ rfl hgv;have hgv':(!H r)=false:=hgv;simp[-getElem?_pos,-List.getElem?_map,hdB,laid,hgv',hw,hw2,hKn,hKx,hst,nblt,nble,setAt];refine⟨_,_,hmeas,Sub.mk ?_ ?_,hround⟩
    ·simp
    ·simp[hdB,laid]
   |true=>
    have hround:=hgot hgv;have hgv':(!H r)=true:=hgv;simp[-getElem?_pos,-List.getElem?_map,hdB,laid,hgv',hw];refine⟨_,_,hmeas,Sub.mk ?_ ?_,hround⟩
    ·simp
    ·simp[hdB,laid]
  ·have he:j=l.length:=by omega
   subst he;rw[Zye]at hKe;clear hJ;have hK2:K.length≤l.length:=by omega
   have hKs:K.length+(l.length-K.length)=l.length:=by omega
   have hsp:splice (X.map intP) K.length (List.replicate (l.length-K.length) (PV.int .i64 0))=(K++List.replicate (l.length-K.length) 0).map intP:=by
    unfold splice;rw[List.length_replicate,hKs,List.drop_eq_nil_of_le (by simp;omega),Zx9,←List.map_take,hXt,Zyb,List.map_replicate];rfl
   simp[-getElem?_pos,-List.getElem?_map,-splice,hdB,laid,nblt,nble,hK2,hKs,hXl,hsp];rw[←hR,←hKe];exact⟨rfl,K++List.replicate (l.length-K.length) 0,by simp,by simp[hdB,laid]⟩
theorem del0H (hs:List (PV×PV)):Zai Tryz.prog 66 [.pv (.lst false 1 []),(.fn 97 [] [.ptr (.par 0) 0])] (laid 0 (hdB hs 0)) (fun x B=>x=.pv (.lst false 1 [])∧B=laid 0 (hdB hs 0)):=by
 have hC:Zai Tryz.prog 114 [.pv (.lst false 1 []),(.fn 97 [] [.ptr (.par 0) 0])] (laid 0 (hdB hs 0)) (fun x B=>x=.pv (.int .i64 (-1))∧B=laid 0 (hdB hs 0)):=by
  refine cB [.par 0,.par 1] L114 ?_;simp[-getElem?_pos,L114,hdB,laid];refine Zaf (fun n τ=>n=0∧τ=⟨[(0,.pv (.lst false 1 [])),(1,(.fn 97 [] [.ptr (.par 0) 0])),(7,.pv (.int .i64 0)),(8,.pv (.int .i64 0))],laid 0 (hdB hs 0)⟩) ⟨0,⟨[(0,.pv (.lst false 1 [])),(1,(.fn 97 [] [.ptr (.par 0) 0])),(7,.pv (.int .i64 0)),(8,.pv (.int .i64 0))],laid 0 (hdB hs 0)⟩,Sub.mk (by simp) (by simp[hdB,laid]),rfl,rfl⟩ ?_;rintro J hJ n τ ⟨rfl,rfl⟩;simp[-getElem?_pos,hdB,laid]
 refine cB [.par 0,.par 1] L66 ?_;simp[-getElem?_pos,L66,hdB,laid];refine cM [.pv (.lst false 1 []),(.fn 97 [] [.ptr (.par 0) 0])] (laid 0 (hdB hs 0)) 10 [.par 0,.par 1] (by simp[hdB,laid]) hC (by simp[hdB,laid]) ?_;simp[-getElem?_pos,hdB,laid]
end
end
section
section
attribute [local simp] Box.Zu0 Site.Zu1
theorem Zqh (l:List Int)(n:Int)(hl:l.length≤1000000):Gives Tryz.prog 147 [.lst false 1 (l.map iP),.int .i64 n] (.int .i64 (match l.findIdx? (fun y=>decide (n=y))with|some i=>i|none=>-1)):=by
 refine cS L147 ?_;simp[L147];refine Zaf (fun m τ=>∃k:Nat,k≤l.length∧m=l.length-k∧(∀(j:Nat) (x:Int),j<k→l[j]?=some x→(fun y=>decide (n=y)) x=false)∧τ=⟨[(0,.pv (.lst false 1 (l.map iP))),(1,.pv (.int .i64 n)),(7,.pv (.int .i64 l.length)),(8,.pv (.int .i64 k))],[]⟩)
  ⟨l.length,_,Sub.mk (by simp) (by simp),0,by omega,rfl,(fun j x hj=>by omega),rfl⟩ ?_
 rintro J hJ m τ ⟨k,hk,rfl,hinv,rfl⟩;by_cases hlt:k<l.length
 ·obtain⟨z,hz⟩:∃x,l[k]?=some x:=⟨l[k],ZxL hlt⟩;have hg:(l.map iP)[k]?=some (.int .i64 z):=by rw[ZxM,hz];rfl
  have hw:IntKind.i64.wrap ((k:Int)+1)=((k+1:Nat):Int):=by rw[wrap64 (by omega)];omega
  by_cases hb:n=z
  ·have hf:l.findIdx? (fun y=>decide (n=y))=some k:=ZiJ hz (by simpa using hb) hinv;simp[-getElem?_pos,-List.getElem?_map,hlt,hg,nblt,hb];rw[hb]at hf;rw[hf]
  ·simp[-getElem?_pos,-List.getElem?_map,hlt,hg,nblt,hb,hw];exact⟨_,_,(by omega:l.length-(k+1)<l.length-k),Sub.mk (by simp) (by simp),hJ _ _ ⟨k+1,by omega,rfl,fun j x hj hjx=>by
    rcases ZyD.1 hj with h|h
    ·exact hinv j x h hjx
    ·subst h;rw[hz]at hjx;cases hjx;simpa using hb,rfl⟩⟩
 ·have he:k=l.length:=by omega
  subst he;have hf:l.findIdx? (fun y=>decide (n=y))=none:=Zoh hinv;simp[-getElem?_pos,hf]
theorem Zty (l:List Int)(n:Int)(hl:l.length≤1000000):Gives Tryz.prog 99 [.lst false 1 (l.map iP),.int .i64 n] (.bool (l.contains n)):=by
 refine cS L99 ?_;simp[-getElem?_pos,L99];refine cG [.lst false 1 (l.map iP),.int .i64 n] (Zqh l n hl) ?_;cases h:l.findIdx? (fun y=>decide (n=y))with
 |none=>
  rw[Zyz]at h;have hn:n∉l:=fun hm=>by have:=h n hm;simp at this
  simp[-getElem?_pos,hn]
 |some i=>
  obtain⟨h1,h2,_⟩:=Zyy.1 h;have hm:n∈l:=by
   have:n=l[i]:=by simpa using h2
   rw[this];exact Zyh h1
  have h0:(0:Int)≤(i:Int):=by omega
  simp[-getElem?_pos,hm,h0]
end
attribute [local simp] AS.exp expG Box.ren AV.map AV.Zu9 Zau noRet Site.Zu6 Box.Zu3 AV.Zu3 AV.Zu4 retB dropL AS.Zvd renL outG outOk Zas inG fnOf lookA Zyc
attribute [local simp] Box.Zu0 Site.Zu1
theorem Ztx {X:List Ct}{w:Nat}{r:Ct}:(X.map Ct.pv).set w r.pv=(X.set w r).map Ct.pv:=by rw[List.map_set]
theorem Zl6 {α:Type}{l:List α}{k:Nat}{x:α}{p:α→Bool}(h:l[k]?=some x)(hp:p x=true)(hinv:∀(j:Nat) (y:α),j<k→l[j]?=some y→p y=false):l.findIdx? p=some k:=by
 obtain⟨hlt,e⟩:=ZxN.1 h;rw[Zyy];refine⟨hlt,by rw[e];exact hp,fun j hj=>?_⟩
 have:=hinv j l[j] hj (ZxL (by omega))
 simp[this]
theorem Zqq {α:Type}{l:List α}{p:α→Bool}(hinv:∀(j:Nat) (y:α),j<l.length→l[j]?=some y→p y=false):l.findIdx? p=none:=by
 rw[Zyz];intro x hx;obtain⟨j,hj⟩:=ZxV.1 hx;exact hinv j x (ZxN.1 hj).1 hj
theorem Zl5 {α:Type}{l:List α}{p:α→Bool}{i:Nat}(h:l.findIdx? p=some i):i<l.length∧l.take i=(l.take (i+1)).filter (fun n=>!p n):=by
 obtain⟨h1,h2,h3⟩:=Zyy.1 h;refine⟨h1,?_⟩;rw[Zx6,ZxL h1,Zyw];have e:(Option.some l[i]).toList.filter (fun n=>!p n)=[]:=by simp[h2]
 rw[e,Zx9,List.filter_eq_self.2];intro x hx;obtain⟨j,hj⟩:=ZxV.1 hx;rw[Zx1]at hj;split at hj
 ·rename_i hji;obtain⟨q1,q2⟩:=ZxN.1 hj
  have:=h3 j hji
  rw[q2]at this;simpa using this
 ·cases hj
theorem ZiL {α:Type}{l:List α}{p:α→Bool}(h:l.findIdx? p=none):l.filter (fun n=>!p n)=l:=by
 rw[List.filter_eq_self];intro x hx
 have:=Zyz.1 h x hx
 simp[this]
def rgB (W:Box)(m:Nat):List Box:=[.cells [.ptr (.par (m+1)) 0],W]
def zCt:Ct:=⟨0,0,0,0,0,⟨0,0⟩⟩
def badP (bad:List Int)(x:Ct):Bool:=bad.contains x.num
theorem predR (a c d e:PV)(bad:List Int)(hb:bad.length≤1000)(x:Ct):Zai Tryz.prog 98 [.pv x.pv,.ptr (.par 0) 0] (laid 0 (rgB (wkX a (.lst false 1 (bad.map iP)) c d e) 0)) (fun r B=>r=.pv (.bool (badP bad x))∧B=laid 0 (rgB (wkX a (.lst false 1 (bad.map iP)) c d e) 0)):=by
 have hc:=Zty bad x.num (by omega);refine cB [.par 0,.par 1] L98 ?_;simp[-getElem?_pos,L98,rgB,laid,wkX,Ct.pv];refine cG [.lst false 1 (bad.map iP),.int .i64 x.num] hc ?_;simp[-getElem?_pos,badP]
section
theorem ixC (a c d e:PV)(bad:List Int)(hb:bad.length≤1000)(l:List Ct)(hl:l.length≤1000):
  Zai Tryz.prog 90 [.vec (.par 0) 7 0 l.length,(.fn 98 [] [.ptr (.par 1) 0])] (laid 0 (.arr 47 7 (l.map Ct.pv)::rgB (wkX a (.lst false 1 (bad.map iP)) c d e) 1)) (fun x B=>x=.pv (.int .i64 (ixI (l.findIdx? (badP bad))))∧B=laid 0 (.arr 47 7 (l.map Ct.pv)::rgB (wkX a (.lst false 1 (bad.map iP)) c d e) 1)):=by
 refine cBR [.par 0,.par 1,.par 2] L90 ?_;intro R hR;simp[-getElem?_pos,L90,rgB,laid,wkX];refine Zaf (fun n τ=>∃k:Nat,k≤l.length∧n=l.length-k∧(∀(j:Nat) (y:Ct),j<k→l[j]?=some y→(badP bad) y=false)∧τ=⟨[(0,.vec (.par 0) 7 0 l.length),(1,(.fn 98 [] [.ptr (.par 1) 0])),(7,.pv (.int .i64 l.length)),(8,.pv (.int .i64 k))],laid 0 (.arr 47 7 (l.map Ct.pv)::rgB (wkX a (.lst false 1 (bad.map iP)) c d e) 1)⟩)
  ⟨l.length,⟨[(0,.vec (.par 0) 7 0 l.length),(1,(.fn 98 [] [.ptr (.par 1) 0])),(7,.pv (.int .i64 l.length)),(8,.pv (.int .i64 0))],laid 0 (.arr 47 7 (l.map Ct.pv)::rgB (wkX a (.lst false 1 (bad.map iP)) c d e) 1)⟩,Sub.mk (by simp) (by simp[rgB,laid,wkX]),0,Zx0 _,rfl,(fun j y hj=>by omega),rfl⟩ ?_
 rintro J hJ n τ ⟨k,hk,rfl,hinv,rfl⟩;by_cases hlt:k<l.length
 ·obtain⟨r,hx⟩:∃x,l[k]?=some x:=⟨l[k],ZxL hlt⟩;have hg:(l.map Ct.pv)[k]?=some r.pv:=by rw[ZxM,hx];rfl
  simp only[Ct.pv]at hg;have hw:=wrapK (k:=k) (by omega);have hmeas:l.length-(k+1)<l.length-k:=by omega
  have hC:=predR a c d e bad hb r;have hnext:(badP bad) r=false→J (l.length-(k+1)) _:=fun hn=>hJ _ _ ⟨k+1,hlt,rfl,(fun j y hj hy=>by
   rcases ZyD.1 hj with h|h
   ·exact hinv j y h hy
   ·subst h;rw[hx]at hy;cases hy;exact hn),rfl⟩
  clear hJ;simp[-getElem?_pos,-List.getElem?_map,rgB,laid,wkX,hlt,hg,nblt,nble];refine cM [.pv r.pv,.ptr (.par 0) 0] (laid 0 (rgB (wkX a (.lst false 1 (bad.map iP)) c d e) 0)) 16 [.par 1,.par 2] (by simp[rgB,laid,wkX]) hC (by simp[rgB,laid,wkX]) ?_;cases hgv:(badP bad) r with
  |false=>
   have hround:=hnext hgv;have hgv':(badP bad r)=false:=hgv;simp[-getElem?_pos,-List.getElem?_map,rgB,laid,wkX,hw,hgv'];refine⟨_,_,hmeas,Sub.mk ?_ ?_,hround⟩
   ·simp
   ·simp[rgB,laid,wkX]
  |true=>
   have hf:=Zl6 hx hgv hinv;have hgv':(badP bad r)=true:=hgv;simp[-getElem?_pos,-List.getElem?_map,rgB,laid,wkX,hgv'];rw[←hR,hf];simp[rgB,laid,wkX,ixI]
 ·have he:k=l.length:=by omega
  subst he;have hf:=Zqq hinv;clear hJ;simp[-getElem?_pos,-List.getElem?_map,rgB,laid,wkX];rw[←hR,hf];simp[rgB,laid,wkX,ixI]
theorem delC (a c d e:PV)(bad:List Int)(hb:bad.length≤1000)(l:List Ct)(hl:l.length≤1000):
  Zai Tryz.prog 41 [.vec (.par 0) 7 0 l.length,(.fn 98 [] [.ptr (.par 1) 0])] (laid 0 (.arr 47 7 (l.map Ct.pv)::rgB (wkX a (.lst false 1 (bad.map iP)) c d e) 1)) (fun x B=>x=.vec (.par 0) 7 0 (l.filter (fun n=>!badP bad n)).length∧∃X:List Ct,X.take (l.filter (fun n=>!badP bad n)).length=l.filter (fun n=>!badP bad n)∧B=laid 0 (.arr 47 7 (X.map Ct.pv)::rgB (wkX a (.lst false 1 (bad.map iP)) c d e) 1)):=by
 have hC:=ixC a c d e bad hb l hl;refine cBR [.par 0,.par 1,.par 2] L41 ?_;intro R hR;simp[-getElem?_pos,L41,rgB,laid,wkX];refine cM [.vec (.par 0) 7 0 l.length,(.fn 98 [] [.ptr (.par 1) 0])] (laid 0 (.arr 47 7 (l.map Ct.pv)::rgB (wkX a (.lst false 1 (bad.map iP)) c d e) 1)) 10 [.par 0,.par 1,.par 2] (by simp[rgB,laid,wkX]) hC (by simp[rgB,laid,wkX]) ?_;cases hx:l.findIdx? (badP bad)with
 |none=>
  have hfl:=ZiL hx;simp[-getElem?_pos,rgB,laid,wkX,ixI];rw[←hR,hfl];exact⟨rfl,l,by simp,by simp[rgB,laid,wkX]⟩
 |some i=>
  obtain⟨hi,hti⟩:=Zl5 hx;have hw1:=wrapK (k:=i) (by omega);have hni:¬((i:Int) = -1):=by omega
  clear hC;simp[-getElem?_pos,rgB,laid,wkX,ixI,hw1,hni];refine Zaf (fun n τ=>∃(j:Nat) (X K:List Ct),j≤l.length∧n=l.length-j∧X.length=l.length∧K=(l.take j).filter (fun n=>!badP bad n)∧X.take K.length=K∧X.drop j=l.drop j∧K.length<j∧τ=⟨[(0,.vec (.par 0) 7 0 l.length),(1,(.fn 98 [] [.ptr (.par 1) 0])),(5,.pv (.int .i64 K.length)),(6,.pv (.int .i64 j))],laid 0 (.arr 47 7 (X.map Ct.pv)::rgB (wkX a (.lst false 1 (bad.map iP)) c d e) 1)⟩)
   ⟨l.length-(i+1),⟨[(0,.vec (.par 0) 7 0 l.length),(1,(.fn 98 [] [.ptr (.par 1) 0])),(5,.pv (.int .i64 i)),(6,.pv (.int .i64 (i+1:Nat)))],laid 0 (.arr 47 7 (l.map Ct.pv)::rgB (wkX a (.lst false 1 (bad.map iP)) c d e) 1)⟩,Sub.mk (by simp) (by simp[rgB,laid,wkX]),i+1,l,l.take i,by omega,rfl,rfl,hti,by simp,rfl,by rw[ZxT];omega,by rw[ZxT,Nat.min_eq_left (by omega)]⟩ ?_
  clear hx hw1 hni hti;rintro J hJ n τ ⟨j,X,K,hj,rfl,hXl,hKe,hXt,hXd,hKj,rfl⟩;by_cases hlt:j<l.length
  ·obtain⟨r,hxr⟩:∃x,l[j]?=some x:=⟨l[j],ZxL hlt⟩;have hXr:X[j]?=some r:=by
    have h1:(X.drop j)[0]?=(l.drop j)[0]?:=by rw[hXd]
    rw[Zx3,Zx3,Nat.add_zero]at h1;rw[h1];exact hxr
   have hg:(X.map Ct.pv)[j]?=some r.pv:=by rw[ZxM,hXr];rfl
   simp only[Ct.pv]at hg;have hw:=wrapK (k:=j) (by omega);have hw2:=wrapK (k:=K.length) (by omega);have hmeas:l.length-(j+1)<l.length-j:=by omega
   have hC:=predR a c d e bad hb r;have hdn:X.drop (j+1)=l.drop (j+1):=by
    have:=congrArg List.tail hXd
    simpa[List.tail_drop]using this
   have hKl:K.length<X.length:=by omega
   have htn:(l.take (j+1)).filter (fun n=>!badP bad n)=K++(if(!(badP bad) r)=true then[r]else[]):=by
    rw[Zx6,hxr,Zyw,←hKe];congr 1;simp only[Option.toList,Zyt,List.filter_nil]
   have hset:∀Y,Y=X.set K.length r→(badP bad) r=false→J (l.length-(j+1)) ⟨[(0,.vec (.par 0) 7 0 l.length),(1,(.fn 98 [] [.ptr (.par 1) 0])),(5,.pv (.int .i64 (K.length+1:Nat))),(6,.pv (.int .i64 (j+1:Nat)))],laid 0 (.arr 47 7 (Y.map Ct.pv)::rgB (wkX a (.lst false 1 (bad.map iP)) c d e) 1)⟩:=fun Y hY hn=>hJ _ _ ⟨j+1,Y,K++[r],hlt,rfl,by rw[hY,List.length_set];exact hXl,by rw[htn,if_pos (by simp[hn])],by
    rw[hY,ZxU];show List.take (K.length+1) _=_;rw[Zx6,ZyA hKl,List.take_set_of_le (ZxR _),hXt];rfl,by rw[hY,List.drop_set_of_lt (by omega)];exact hdn,by simp;omega,by simp⟩
   have hgot:(badP bad) r=true→J (l.length-(j+1)) ⟨[(0,.vec (.par 0) 7 0 l.length),(1,(.fn 98 [] [.ptr (.par 1) 0])),(5,.pv (.int .i64 K.length)),(6,.pv (.int .i64 (j+1:Nat)))],laid 0 (.arr 47 7 (X.map Ct.pv)::rgB (wkX a (.lst false 1 (bad.map iP)) c d e) 1)⟩:=fun hn=>hJ _ _ ⟨j+1,X,K,hlt,rfl,hXl,by rw[htn,if_neg (by simp[hn]),Zx9],hXt,hdn,by omega,rfl⟩
   clear hJ;have hKn:K.length<l.length:=by omega
   have hlt2:j<X.length:=by omega
   have hKx:(X.map Ct.pv)[K.length]?=some X[K.length].pv:=by rw[ZxM,ZxL hKl];rfl
   have hst:=Ztx (X:=X) (w:=K.length) (r:=r);simp[-getElem?_pos,-List.getElem?_map,rgB,laid,wkX,hlt,hg,hXl,nblt,nble];refine cM [.pv r.pv,.ptr (.par 0) 0] (laid 0 (rgB (wkX a (.lst false 1 (bad.map iP)) c d e) 0)) 28 [.par 1,.par 2] (by simp[rgB,laid,wkX]) hC (by simp[rgB,laid,wkX]) ?_;cases hgv:(badP bad) r with
   |false=>
    have hround:=hset _ rfl hgv;have hgv':(badP bad r)=false:=hgv;simp[-getElem?_pos,-List.getElem?_map,rgB,laid,wkX,hgv',hw,hw2,hKn,hKx,hst,nblt,nble,setAt];refine⟨_,_,hmeas,Sub.mk ?_ ?_,hround⟩
    ·simp[hw,hw2]
    ·simp[rgB,laid,wkX,Ct.pv]
   |true=>
    have hround:=hgot hgv;have hgv':(badP bad r)=true:=hgv;simp[-getElem?_pos,-List.getElem?_map,rgB,laid,wkX,hgv',hw];refine⟨_,_,hmeas,Sub.mk ?_ ?_,hround⟩
    ·simp
    ·simp[rgB,laid,wkX]
  ·have he:j=l.length:=by omega
   subst he;rw[Zye]at hKe;clear hJ;have hK2:K.length≤l.length:=by omega
   have hKs:K.length+(l.length-K.length)=l.length:=by omega
   have hsp:splice (X.map Ct.pv) K.length (List.replicate (l.length-K.length) zCt.pv)=(K++List.replicate (l.length-K.length) zCt).map Ct.pv:=by
    unfold splice;rw[List.length_replicate,hKs,List.drop_eq_nil_of_le (by simp;omega),Zx9,←List.map_take,hXt,Zyb,List.map_replicate]
   simp[-getElem?_pos,-List.getElem?_map,-splice,rgB,laid,wkX,nblt,nble,hK2,hKs,hXl,hsp];rw[←hR,←hKe];exact⟨rfl,K++List.replicate (l.length-K.length) zCt,by simp,by
    simp[rgB,laid,wkX];rw[←List.map_take,hXt,hKs,List.drop_eq_nil_of_le (by simp;omega)];simp[zCt,Ct.pv]⟩
theorem del0C (a b c d e:PV):Zai Tryz.prog 41 [.pv (.lst false 7 []),(.fn 98 [] [.ptr (.par 0) 0])] (laid 0 (rgB (wkX a b c d e) 0)) (fun x B=>x=.pv (.lst false 7 [])∧B=laid 0 (rgB (wkX a b c d e) 0)):=by
 have hC:Zai Tryz.prog 90 [.pv (.lst false 7 []),(.fn 98 [] [.ptr (.par 0) 0])] (laid 0 (rgB (wkX a b c d e) 0)) (fun x B=>x=.pv (.int .i64 (-1))∧B=laid 0 (rgB (wkX a b c d e) 0)):=by
  refine cB [.par 0,.par 1] L90 ?_;simp[-getElem?_pos,L90,rgB,laid,wkX];refine Zaf (fun n τ=>n=0∧τ=⟨[(0,.pv (.lst false 7 [])),(1,(.fn 98 [] [.ptr (.par 0) 0])),(7,.pv (.int .i64 0)),(8,.pv (.int .i64 0))],laid 0 (rgB (wkX a b c d e) 0)⟩) ⟨0,⟨[(0,.pv (.lst false 7 [])),(1,(.fn 98 [] [.ptr (.par 0) 0])),(7,.pv (.int .i64 0)),(8,.pv (.int .i64 0))],laid 0 (rgB (wkX a b c d e) 0)⟩,Sub.mk (by simp) (by simp[rgB,laid,wkX]),rfl,rfl⟩ ?_;rintro J hJ n τ ⟨rfl,rfl⟩;simp[-getElem?_pos,rgB,laid,wkX]
 refine cB [.par 0,.par 1] L41 ?_;simp[-getElem?_pos,L41,rgB,laid,wkX];refine cM [.pv (.lst false 7 []),(.fn 98 [] [.ptr (.par 0) 0])] (laid 0 (rgB (wkX a b c d e) 0)) 10 [.par 0,.par 1] (by simp[rgB,laid,wkX]) hC (by simp[rgB,laid,wkX]) ?_;simp[-getElem?_pos,rgB,laid,wkX]
end
end
section
def wkF:Nat→PV→PV→Bool
 |0,_,_=>false
 |n+1,x,y=>match x,y with
  |.emp _,.lst nn _ l=>!nn&&l.isEmpty
  |.agg a,.agg b=>decide (a.length=b.length)&&(a.zip b).all fun p=>wkF n p.1 p.2
  |.tup a,.tup b=>decide (a.length=b.length)&&(a.zip b).all fun p=>wkF n p.1 p.2
  |.lst nn k a,.lst nn' k' b=>decide (nn=nn')&&decide (k=k')&&decide (a.length=b.length)&&(b.all fun c=>decide (c.cells.length=k))&&(a.zip b).all fun p=>(p.1.cells.zip p.2.cells).all fun p=>wkF n p.1 p.2
  |x,y=>PV.beq x y
theorem ZgY {α:Type}{a b:List α}{j:Nat}{x y:α}(h1:a[j]?=some x)(h2:b[j]?=some y):(x,y)∈a.zip b:=by
 refine ZxV.2 ⟨j,?_⟩;rw[List.getElem?_zip_eq_some];exact⟨h1,h2⟩
theorem Zbw:∀(n:Nat) (x y:PV),wkF n x y=true→∀(m:Mem) (v:Value),RdP m v x→RdP m v y
 |0,_,_,h=>by cases h
 |n+1,x,y,h=>by
  intro m v hr;unfold wkF at h;split at h
  ·rename_i nl nn k l;simp only[ZxO,Bool.not_eq_true']at h;obtain⟨h1,h2⟩:=h;cases l with
   |nil=>subst h1;exact Zbm hr
   |cons a l=>cases h2
  ·rename_i a b;simp only[ZxO,decide_eq_true_eq,Zx7]at h;exact ZrV h.1 (fun j c c' d h1 h2 hd=>Zbw n c c' (h.2 _ (ZgY h1 h2)) m d hd) hr
  ·rename_i a b;simp only[ZxO,decide_eq_true_eq,Zx7]at h;exact Zmz h.1 (fun j c c' d h1 h2 hd=>Zbw n c c' (h.2 _ (ZgY h1 h2)) m d hd) hr
  ·rename_i nn k a nn' k' b;simp only[ZxO,decide_eq_true_eq,Zx7]at h;obtain⟨⟨⟨⟨rfl,rfl⟩,h1⟩,h2⟩,h3⟩:=h;exact Zuo h1 (fun j c hc=>h2 c (ZxQ hc)) (fun j c c' i d x x' k1 k2 k3 k4 hd=>Zbw n x x' (h3 _ (ZgY k1 k2) _ (ZgY k3 k4)) m d hd) hr
  ·rename_i x y _ _ _ _;rw[←PV.beq_eq _ _ h];exact hr
end
section
attribute [local simp] AS.exp expG Box.ren AV.map AV.Zu9 Zau noRet Site.Zu6 Box.Zu3 AV.Zu3 AV.Zu4 retB dropL AS.Zvd renL outG outOk Zas inG fnOf lookA Zyc
attribute [local simp] Box.Zu0 Site.Zu1
section
attribute [local simp] retFz frzL AS.frz AV.frz AV.frzL Box.frz AS.tidy AS.ZvF frzsL retOk renB toLoc
def Za0:List It:=[⟨0,true,⟨0,0⟩⟩,⟨0,true,⟨-2,2⟩⟩,⟨1,false,⟨0,0⟩⟩,⟨1,false,⟨0,0⟩⟩,⟨0,false,⟨0,0⟩⟩,⟨0,false,⟨0,0⟩⟩]
def ZgC:PV:=.lst false 1 [.lst false 2 [.agg [.int .i64 10,.int .i64 13]],.lst false 2 []]
theorem ZjD:Gives Tryz.prog 100 [] (itsP Za0):=by
 refine cF [.loc 8 0] L100 ?_;simp[-getElem?_pos,L100,itsP,Za0,It.pv,nble,setAt]
theorem Zer:Gives Tryz.prog 103 [] ZgC:=by
 refine Zai.ZvA ?_;refine cF [.loc 3 0] L103 ?_;simp[-getElem?_pos,L103,nble];exact Zbw 5 _ _ rfl
theorem Zr5 (l:List Ct)(b c d e:PV):Zai Tryz.prog 216 [.ptr (.par 0) 0] [(.par 0,wkX (ctsP l) b c d e)] (fun r B=>r=.pv (Bk.pv ⟨Za0,l⟩)∧B=[(.par 0,wkX (ctsP l) b c d e)]):=by
 refine cB [.par 0] L216 ?_;simp[-getElem?_pos,L216,wkX,ctsP];refine cQ [] [] ZjD ?_;simp[-getElem?_pos,Bk.pv,ctsP,itsP]
theorem Zng (l:List PV)(a b c d:PV):Zai Tryz.prog 53 [.ptr (.par 0) 0] [(.par 0,wkX a b c d (.lst false 3 l))] (fun r B=>r=.pv (.agg [ZgC,.lst false 3 l])∧B=[(.par 0,wkX a b c d (.lst false 3 l))]):=by
 refine cB [.par 0] L53 ?_;simp[-getElem?_pos,L53,wkX];refine cQ [] [] Zer ?_;simp[-getElem?_pos,ZgC]
end
section
attribute [local simp] Zax Zav Zal Zaw
section
end
end
end
section
theorem ZjG {b:Bk}(hb:b.ok){bad:List Int}:b.nums.filter (fun n=>(b.held bad).contains n)=b.held bad:=by
 refine ZjE (Zbd.filter _) (ZeL 1000).1 (fun x=>?_);rw[ZxX,Zx4];exact⟨fun h=>h.2,fun h=>⟨ZiG hb h,h⟩⟩
attribute [local irreducible] Bk.held Bk.nums
def Bk.Zwl (b:Bk)(bad:List Int):List Int×Int:=if b.fault=0 then(if areB bad=true then(b.held bad,0)else([],2))else([],b.fault)
def lstE (x:List Int×Int):PV:=.tup [.lst false 1 (x.1.map intP),.int .i64 x.2]
theorem Zes {e:Int}{l:List Int×Int}(h:l=([],e)):∀m v,RdP m v (.tup [.emp (some true),.int .i64 e])→RdP m v (lstE l):=by
 subst h;intro m v hv;refine Zmz (cs:=[.emp (some true),.int .i64 e]) (cs':=[.lst false 1 [],.int .i64 e]) rfl ?_ hv;intro j c c' d h1 h2 hr
 match j with
 |0=>simp at h1 h2;subst h1 h2;exact Zbm hr
 |1=>simp at h1 h2;subst h1 h2;exact hr
 |j+2=>simp at h1
attribute [local simp] AS.exp expG Box.ren AV.map AV.Zu9 Zau noRet Site.Zu6 Box.Zu3 AV.Zu3 AV.Zu4 retB dropL AS.Zvd renL outG outOk Zas inG fnOf lookA Zyc
attribute [local simp] Box.Zu0 Site.Zu1
attribute [local simp] Zax Zav Zal Zaw ZaQ
attribute [local simp] retFz frzL AS.frz AV.frz AV.frzL Box.frz AS.tidy AS.ZvF
theorem ZuY (b:Bk)(hi:b.items.length≤1000)(hc:b.certs.length≤1000)(bad:List Int)(hbl:bad.length≤1000):Zai Tryz.prog 50 [.pv b.pv,.pv (.lst false 1 (bad.map intP))] [] (fun r B=>r=.pv (lstE (b.Zwl bad))∧B=[]):=by
 have hr:=Zmr b hi hc bad hbl;refine Zai.ZvA ?_;refine cFR [.loc 24 0] L50 ?_;intro R hR;simp[-getElem?_pos,L50,Bk.pv];refine cL [.pv b.pv,.pv (.lst false 1 (bad.map intP))] [] 12 [] rfl hr ?_
 rintro r0 B0 (⟨h0,rfl,rfl⟩|⟨h0,h1,rfl,rfl⟩|⟨h0,h1,es,hes,rfl,rfl⟩)
 ·refine⟨rfl,by simp,?_⟩;have hd:decide (b.fault=0)=false:=by simpa using h0
  simp[-getElem?_pos,-decide_eq_true_eq,-decide_eq_false_iff_not,hd];rw[←hR];exact⟨_,rfl,rfl,Zes (by unfold Bk.Zwl;rw[if_neg h0])⟩
 ·refine⟨rfl,by simp,?_⟩;simp[-getElem?_pos];rw[←hR];exact⟨_,rfl,rfl,Zes (by unfold Bk.Zwl;rw[if_pos h0,if_neg (by simp[h1])])⟩
 have hb:b.ok:=Bk.Zvx.1 h0;have hM:b.Zwl bad=(b.held bad,0):=by unfold Bk.Zwl;rw[if_pos h0,if_pos h1]
 refine⟨rfl,by simp[wkC],?_⟩;simp[-getElem?_pos,-List.getElem?_map,wkC];refine cM [.ptr (.par 0) 0] (laid 0 (wkB b bad es)) 19 [.loc 12 0,.loc 12 1] (by simp[laid,wkB,wkC]) (Zn9 b hb bad es hes) (by simp[laid,wkB,wkC]) ?_;have hH:=Zb5 hb bad;have hf:=ZjG hb (bad:=bad);generalize hEnt b bad b.nums.length=hs at *;simp[-getElem?_pos,-List.getElem?_map,laid,wkB,wkC];by_cases hn:b.nums=[]
 ·have hhe:b.held bad=[]:=by rw[←hf,hn];rfl
  rw[hn];simp only[List.map_nil];refine .inl (cQ [] [.lst false 1 []] ZqM ?_);simp[-getElem?_pos,-List.getElem?_map,frzsL];refine cM [.pv (.lst false 1 []),.fn 97 [] [.ptr (.par 0) 0]] (laid 0 (hdB hs 0)) 26 [.loc 8 0,.loc 19 0] (by simp[laid,hdB]) (del0H hs) (by simp[laid,hdB]) ?_;simp[-getElem?_pos,-List.getElem?_map,laid,hdB];rw[←hR,hM,hhe];exact⟨_,rfl,rfl,fun m v h=>h⟩
 ·have hl:=Zdd (b:=b);refine cM [.pv (.lst false 1 (b.nums.map intP))] [] 24 [] rfl (ZjU b.nums hn (by omega)) (by simp) ?_;simp[-getElem?_pos,-List.getElem?_map];refine cL [.vec (.par 0) 1 0 b.nums.length,.fn 97 [] [.ptr (.par 1) 0]] (laid 0 (.arr 3 1 (b.nums.map intP)::hdB hs 1)) 26 [.loc 24 0,.loc 8 0,.loc 19 0] (by simp[laid,hdB]) (delH _ hs hH b.nums hl (fun _ _=>trivial)) ?_
  rintro r0 B0 ⟨rfl,X,hX,rfl⟩;have hff:(b.nums.filter fun n=>!(fun n=>!(b.held bad).contains n) n)=b.held bad:=by
   refine Eq.trans (List.filter_congr fun n _=>?_) hf;exact Bool.not_not _
  rw[hff]at hX;simp only[hff];refine⟨rfl,by simp[laid,hdB],?_⟩;have hXm:(X.map intP).take (b.held bad).length=(b.held bad).map intP:=by rw[←List.map_take,hX]
  have hXl:(b.held bad).length≤X.length:=by
   have:=congrArg List.length hX
   rw[ZxT]at this;omega
  simp[-getElem?_pos,-List.getElem?_map,laid,hdB,hXm,hXl];rw[←hR,hM];exact⟨_,rfl,rfl,fun m v h=>h⟩
end
section
attribute [local irreducible] Bk.held Bk.nums
theorem Zfp {b:Bk}(hb:b.ok):∀n∈b.nums,1≤n∧n≤999:=fun n hn=>by
 obtain⟨c,hc,rfl⟩:=(Zbc hb).1 hn
 have:=Za1 hb hc
 omega
attribute [local simp] AS.exp expG Box.ren AV.map AV.Zu9 Zau noRet Site.Zu6 Box.Zu3 AV.Zu3 AV.Zu4 retB dropL AS.Zvd renL outG outOk Zas inG fnOf lookA Zyc
attribute [local simp] Box.Zu0 Site.Zu1
attribute [local simp] Zax Zav Zal Zaw ZaQ
attribute [local simp] retFz frzL AS.frz AV.frz AV.frzL Box.frz AS.tidy AS.ZvF
end
section
attribute [local irreducible] Bk.held Bk.nums
theorem cok58:COk Tryz.prog (tyOf tys) L76.code:=ZfE L76_ok L76_tab
noncomputable def askX (b:Bk)(bad:List Int)(es hs:List (PV×PV))(is:Bool):List Box:=[.loop (rcode Tryz.prog 76 0) [49] 61 [(11,.ptr (.par 2) 0),(12,.ptr (.par 1) 0)] none,
 .cells [.pv (.bool is)],.cells [.mp (.par 3)],.map hs,capB (.par 5),.cells (wkC b (.par 6) (badZ bad)),.map es]
attribute [local simp] AS.exp expG Box.ren AV.map AV.Zu9 Zau noRet Site.Zu6 Box.Zu3 AV.Zu3 AV.Zu4 retB dropL AS.Zvd renL outG outOk Zas inG fnOf lookA Zyc
section
attribute [local simp] Box.Zu0 Site.Zu1
noncomputable def askC (b:Bk)(bad:List Int)(es hs:List (PV×PV))(H:Int→Bool)(hH:HMap H hs):Cons Tryz.prog where
 m:=7
 S:=Bool
 X:=askX b bad es hs
 step is x:=(is||H (numOf x),true)
 good x:=∃c:Ct,x=c.pv
 live _:=True
 m0:=by omega
 len _:=rfl
 cl c:=by
  intro bx hb;simp only[askX,Zx2,List.not_mem_nil,or_false]at hb;rcases hb with rfl|rfl|rfl|rfl|rfl|rfl|rfl
  ·rfl
  ·rfl
  ·rfl
  ·rfl
  ·rfl
  ·simp[wkC,Site.lt,Zav]
  ·rfl
 goes _ _ _ _ _:=trivial
 yields c x hc hx:=by
  obtain⟨y,rfl⟩:=hx;have hcok:COk Tryz.prog (tyOf tys) (.rng 61 (.t 48) (rcode Tryz.prog 76 0) Y76_0a Y76_0b [49]):=cok58.2.2.2.2.2.2.1.2;have hf:=hH.f y.num;have hk:=hH.k;refine ZaX mixed hcok.1 hcok.2.1 rfl rfl (by simp) rfl ?_;cases c
  all_goals
   simp[-getElem?_pos,Y76_0a,Y76_0b,askX,laid,putL,Ct.pv,hk,hf,numOf,capB,wkC,Zal,Zax];exact⟨[],[.par 1,.par 2,.par 3,.par 4,.par 5,.par 6],rfl,rfl,by simp[frzL,Zav],rfl,by simp[frzL,Zaw]⟩
end
theorem Zlw {b:Bk}{bad:List Int}{es hs:List (PV×PV)}{H:Int→Bool}{hH:HMap H hs}:∀(l:List Ct) (c:Bool),(askC b bad es hs H hH).run c (ctsV l)=(c||l.any (fun o=>H o.num),true)
 |[],c=>by
  show(c,true)=_;simp
 |x::l,c=>by
  show(askC b bad es hs H hH).run (c||H x.num) (ctsV l)=_;rw[Zlw l,List.any_cons,Bool.or_assoc]
def Bk.Zva (b:Bk)(item day:Int):Bool:=(b.item item).std||(b.ofL item day 1000).any fun o=>(b.held []).contains o.num
def Bk.Zv1 (b:Bk)(item day:Int):Int:=if b.fault=0 then(if(b.Zvb item&&inB day 0 1000)=true then(if b.Zva item day=true then 0 else 10)else 2)else b.fault
def askR (b:Bk)(item day:Int)(r:AV)(B:List (Site×Box)):Prop:=
 (b.Zv1 item day≠0∧r=.pv (.tup [.nilp,.nilmap,.int .i64 (b.Zv1 item day)])∧B=[])∨
 (b.Zv1 item day=0∧b.fault=0∧b.Zvb item=true∧inB day 0 1000=true∧b.Zva item day=true∧∃es,CMap b es∧r=.tup [.ptr (.ret 0) 0,.mp (.ret 2),.pv (.int .i64 0)]∧B=[(.ret 0,.cells (wkC b (.ret 1) (badZ []))),(.ret 1,.map es),(.ret 2,.map (hEnt b [] b.nums.length))])
attribute [local simp] Box.Zu0 Site.Zu1
attribute [local simp] Zax Zav Zal Zaw ZaQ
theorem Zo4 (b:Bk)(hi:b.items.length≤1000)(hc:b.certs.length≤1000)(item day:Int):Zai Tryz.prog 76 [.pv b.pv,.pv (.int .i64 item),.pv (.int .i64 day)] [] (askR b item day):=by
 have hr:=Zib b hi hc;refine cE L76 ?_;generalize hR:askR b item day=R;have rerr:∀e,b.Zv1 item day=e→e≠0→R (.pv (.tup [.nilp,.nilmap,.int .i64 e])) []:=fun e h h0=>by
  rw[←hR];exact .inl ⟨by rw[h];exact h0,by rw[h],rfl⟩
 simp[-getElem?_pos,L76,Bk.pv];refine cL [.pv b.pv] [] 16 [] rfl hr ?_
 rintro r0 B0 (⟨h0,rfl,rfl⟩|⟨h0,es,hes,rfl,rfl⟩)
 ·refine⟨rfl,by simp,?_⟩;have hd:decide (b.fault=0)=false:=by simpa using h0
  have h2:=rerr _ (by unfold Bk.Zv1;rw[if_neg h0]) h0;simp[-getElem?_pos,-decide_eq_true_eq,-decide_eq_false_iff_not,hd,-retB];exact⟨[],by simpa using h2⟩
 have hb:b.ok:=Bk.Zvx.1 h0;refine⟨rfl,by simp[wkC,Zbz],?_⟩;simp[-getElem?_pos,-List.getElem?_map,wkC,Zbz,-retB];refine cG [b.pv,.int .i64 item] (ZnX b item hi) ?_;cases e1:b.Zvb item
 ·have h2:=rerr 2 (by unfold Bk.Zv1;rw[if_pos h0,e1];rfl) (by omega);simp[-getElem?_pos,-List.getElem?_map,-retB];exact⟨[],by simpa using h2⟩
 simp[-getElem?_pos,-List.getElem?_map,-retB];refine cG [.int .i64 day] (day_c day) ?_;cases e2:inB day 0 1000
 ·have h2:=rerr 2 (by unfold Bk.Zv1;rw[if_pos h0,e1,e2];rfl) (by omega);simp[-getElem?_pos,-List.getElem?_map,-retB];exact⟨[],by simpa using h2⟩
 simp[-getElem?_pos,-List.getElem?_map,-retB];refine cM [.ptr (.par 0) 0] (laid 0 (wkB b [] es)) 35 [.loc 16 0,.loc 16 1] (by simp[laid,wkB,wkC]) (Zn9 b hb [] es hes) (by simp[laid,wkB,wkC]) ?_;have hH:=Zb5 hb [];have hrok:b.Zva item day=true→R (.tup [.ptr (.ret 0) 0,.mp (.ret 2),.pv (.int .i64 0)]) [(.ret 0,.cells (wkC b (.ret 1) (badZ []))),(.ret 1,.map es),(.ret 2,.map (hEnt b [] b.nums.length))]:=fun h=>by
  rw[←hR];refine .inr ⟨?_,h0,e1,e2,h,es,hes,rfl,rfl⟩;unfold Bk.Zv1;rw[if_pos h0,e1,e2,if_pos (show(true&&true)=true from rfl),if_pos h]
 have hrno:b.Zva item day=false→R (.pv (.tup [.nilp,.nilmap,.int .i64 10])) []:=fun h=>by
  refine rerr 10 ?_ (by omega);unfold Bk.Zv1;rw[if_pos h0,e1,e2,if_pos (show(true&&true)=true from rfl),if_neg (by simp[h])]
 generalize hEnt b [] b.nums.length=hs at *;have hii:0≤item∧item<b.items.length:=by
  unfold Bk.Zvb inB at e1;simp only[ZxO,decide_eq_true_eq]at e1;omega
 obtain⟨si,rfl⟩:∃si:Nat,item=si:=⟨item.toNat,by omega⟩;have hsi:si<b.items.length:=by omega
 obtain⟨z,hz⟩:∃z,b.items[si]?=some z:=⟨b.items[si],ZxL hsi⟩;have hgz:(b.items.map It.pv)[si]?=some (.agg [.int .i64 z.drift,.bool z.std,.int .i64 z.val.lo,.int .i64 z.val.hi]):=by rw[ZxM,hz];rfl
 have hzi:b.item (si:Int)=z:=by unfold Bk.item;rw[Int.toNat_natCast,hz];rfl
 have hIH:b.Zva si day=(z.std||(b.ofL si day 1000).any fun o=>(b.held []).contains o.num):=by unfold Bk.Zva;rw[hzi]
 have hrun:=fun is:Bool=>Zlw (b:=b) (bad:=[]) (es:=es) (hH:=hH) (b.ofL si day 1000) is
 have hit:=fun is:Bool=>Ziv (askC b [] es hs _ hH) b hb [] es hes 4 5 6 (fun c _=>⟨rfl,rfl⟩) (fun c _=>rfl) si day 1000 is trivial (fun z hz=>⟨z,rfl⟩)
 simp only[hrun]at hit;generalize hAN:((b.ofL si day 1000).any fun n=>(b.held []).contains n.num)=an at *;have hit':=hit z.std;clear hit;simp[-getElem?_pos,-List.getElem?_map,laid,wkB,wkC,itsP,hgz,hsi,-retB];refine cM [.ptr (.par 0) 0,.pv (.int .i64 si),.pv (.int .i64 day),.pv (.int .i64 1000)] (laid 0 (wkB b [] es)) 48 [.loc 16 0,.loc 16 1] (by simp[laid,wkB,wkC,itsP]) (of_c b [] es si day 1000) (by simp[laid,wkB,wkC]) ?_;simp[-getElem?_pos,-List.getElem?_map,laid,wkB,wkC,ofF,-retB];refine Zc9 [.loc 61 0,.loc 12 0,.loc 11 0,.loc 35 0,.loc 48 0,.loc 16 0,.loc 16 1] [(11,.ptr (.loc 11 0) 0),(12,.ptr (.loc 12 0) 0)] (gf:=124) (fs:=[]) (cs:=[.ptr (.loc 48 0) 0,.pv (.ref [.int .i64 1000]),.pv (.ref [.int .i64 si]),.pv (.ref [.int .i64 day])]) ?_ ?_ rfl rfl ?_ ?_ ?_ hit' ?_
 ·rfl
 ·simp
 ·simp[askC,askX,laid,wkC,capB]
 ·rfl
 ·rfl
 rintro r B' ⟨rfl,rfl⟩;refine⟨rfl,?_,?_⟩
 ·exact fun p hp=>Zew (n:=7) (L:=askX b [] es hs (z.std||an)) (by simp[askX]) ((askC b [] es hs _ hH).cl (z.std||an)) p hp
 refine⟨_,_,_,_,_,rfl,?_⟩;cases hIS:(z.std||an)
 ·rw[hIS]at hIH;have h2:=hrno hIH;simp[-getElem?_pos,-List.getElem?_map,askC,askX,laid,jumpQ,wkC,capB,-retB,hIS];exact⟨[],by simpa using h2⟩
 ·rw[hIS]at hIH;have h2:=hrok hIH;simp[-getElem?_pos,-List.getElem?_map,askC,askX,laid,jumpQ,wkC,capB,-retB,hIS];refine⟨[.loc 16 0,.loc 16 1,.loc 35 0],?_⟩;simpa[wkC]using h2
end
section
attribute [local irreducible] Bk.held Bk.nums
def spB (b:Bk)(es hs ss:List (PV×PV)):List Box:=[.cells [.ptr (.par 3) 0,.mp (.par 1),.mp (.par 2)],.map hs,.map ss,.cells (wkC b (.par 4) (badZ [])),.map es]
attribute [local simp] AS.exp expG Box.ren AV.map AV.Zu9 Zau noRet Site.Zu6 Box.Zu3 AV.Zu3 AV.Zu4 retB dropL AS.Zvd renL outG outOk Zas inG fnOf lookA Zyc
attribute [local simp] Box.Zu0 Site.Zu1
attribute [local simp] Zax Zav Zal Zaw ZaQ
theorem ZfR (b:Bk)(es hs ss:List (PV×PV))(H:Int→Bool)(hH:HMap H hs)(c:Ct):Zai Tryz.prog 87 [.ptr (.par 0) 0,.pv c.pv] (laid 0 (spB b es hs ss)) (fun r B=>r=.pv (.bool (H c.num))∧B=laid 0 (spB b es hs ss)):=by
 have hf:=hH.f c.num;have hk:=hH.k;refine cB [.par 0,.par 1,.par 2,.par 3,.par 4] L87 ?_;simp[-getElem?_pos,L87,spB,laid,wkC,Ct.pv,hf,hk]
theorem cok61:COk Tryz.prog (tyOf tys) L88.code:=ZfE L88_ok L88_tab
noncomputable def spnX (b:Bk)(es hs ss:List (PV×PV))(item day:Int)(r:Cr):List Box:=[.loop (rcode Tryz.prog 88 0) [47] 79 [(4,.ptr (.par 2) 0),(5,.ptr (.par 3) 0),(6,.ptr (.par 4) 0),(9,.ptr (.par 5) 0),(10,.ptr (.par 1) 0)] none,
 .cells [.pv (.int .i64 r.lo),.pv (.int .i64 r.hi)],.cells [.ptr (.par 6) 0],.cells [.pv (.int .i64 item)],.cells [.pv (.int .i64 day)],.cells [.fn 87 [.ptr (.par 6) 0] []],
 .cells [.ptr (.par 9) 0,.mp (.par 7),.mp (.par 8)],.map hs,.map ss,.cells (wkC b (.par 10) (badZ [])),.map es,capB (.par 9)]
def ctOf:PV→Ct
 |.agg [.int _ n,.int _ i,.int _ s,.int _ d,.int _ v,.int _ lo,.int _ hi]=>⟨n,i,s,d,v,⟨lo,hi⟩⟩
 |_=>ct0
theorem Zf1 (c:Ct):ctOf c.pv=c:=rfl
def zR:PV:=.agg [.int .i64 0,.int .i64 0]
structure SMap (b:Bk)(S:Int→Cr)(below:Int)(ss:List (PV×PV)):Prop where
 k:Zbi kI ss=true
 f:∀c∈b.certs,c.num<below→c.num∈b.held []→(findV (.int .i64 c.num) ss).getD zR=(S c.num).pv∧(S c.num).bdd 1000000000
def ZeE (b:Bk)(S:Int→Cr)(item day:Int)(r:Cr)(c:Ct):Cr:=match(b.held []).contains c.num with
 |true=>r.cut ((S c.num).wider ((b.item item).drift*(day-c.day)))
 |false=>r
section
noncomputable def spnC (b:Bk)(hb:b.ok)(es hs ss:List (PV×PV))(hH:HMap (fun n=>(b.held []).contains n) hs)(S:Int→Cr)(si:Nat)(hsi:si<b.items.length)(day below:Int)(hd:0≤day∧day≤1000)(hS:SMap b S below ss):Cons Tryz.prog where
 m:=12
 S:=Cr
 X:=spnX b es hs ss si day
 step r x:=(ZeE b S si day r (ctOf x),true)
 good x:=∃c∈b.ofL si day below,x=c.pv
 live _:=True
 m0:=by omega
 len _:=rfl
 cl c:=by
  intro bx hb;simp only[spnX,Zx2,List.not_mem_nil,or_false]at hb;rcases hb with rfl|rfl|rfl|rfl|rfl|rfl|rfl|rfl|rfl|rfl|rfl|rfl
  all_goals first|rfl|simp[wkC,Site.lt,Zav]
 goes _ _ _ _ _:=trivial
 yields r x hc hx:=by
  obtain⟨y,hy,rfl⟩:=hx;rw[Zf1];have hcok:COk Tryz.prog (tyOf tys) (.rng 79 (.t 46) (rcode Tryz.prog 88 0) Y88_0a Y88_0b [47]):=cok61.2.2.2.2.1.2;have hcall:=ZfR b es hs ss _ hH y;obtain⟨hyc,hyo⟩:=(ZbG hb).1 hy;unfold Bk.ofB at hyo;simp only[ZxO,decide_eq_true_eq]at hyo;have hfar:=ZrN hb hyc hyo.2.2;have hbd:=Za1 hb hyc;obtain⟨z,hz⟩:∃z,b.items[si]?=some z:=⟨b.items[si],ZxL hsi⟩;have hgz:(b.items.map It.pv)[si]?=some (.agg [.int .i64 z.drift,.bool z.std,.int .i64 z.val.lo,.int .i64 z.val.hi]):=by rw[ZxM,hz];rfl
  have hzi:b.item (si:Int)=z:=by unfold Bk.item;rw[Int.toNat_natCast,hz];rfl
  rw[hyo.2.1,hzi]at hfar;have w1:IntKind.i64.wrap (day-y.day)=day-y.day:=wrap64 (by omega);have w2:IntKind.i64.wrap (z.drift*(day-y.day))=z.drift*(day-y.day):=wrap64 (by omega);have hk:=hS.k;have hstep:ZeE b S si day r y=match(b.held []).contains y.num with
   |true=>r.cut ((S y.num).wider (z.drift*(day-y.day)))
   |false=>r:=by unfold ZeE;rw[hzi]
  have hsf:=fun h:(b.held []).contains y.num=true=>hS.f y hyc hyo.1 (Zx4.1 h)
  rw[hstep];obtain⟨far,hfe⟩:∃far,z.drift*(day-y.day)=far:=⟨_,rfl⟩;rw[hfe]at hfar hstep;have w2':IntKind.i64.wrap (z.drift*(day-y.day))=far:=w2.trans hfe;rw[hfe];clear hstep w2 hfe;generalize hcv:(b.held []).contains y.num=v at *;refine ZaX mixed hcok.1 hcok.2.1 rfl rfl (by simp) rfl ?_;simp[-getElem?_pos,-List.getElem?_map,Y88_0a,Y88_0b,spnX,laid,putL,Ct.pv,capB,wkC];refine Zac (as':=[.ptr (.par 0) 0,.pv y.pv]) (B:=laid 0 (spB b es hs ss)) (fs:=[.ptr (.par 6) 0]) (cs:=[]) 50 [.par 6,.par 7,.par 8,.par 9,.par 10] ?_ rfl rfl ?_ ?_ ?_ hcall ?_
  ·rfl
  ·simp[laid,spB,wkC]
  ·rfl
  ·rfl
  rintro r0 B0 ⟨rfl,rfl⟩;refine⟨rfl,by simp[laid,spB,wkC],?_⟩;cases v
  ·simp[-getElem?_pos,-List.getElem?_map,laid,spB,wkC,-retB];exact⟨[],[.par 1,.par 2,.par 3,.par 4,.par 5,.par 6,.par 7,.par 8,.par 9,.par 10,.par 11],rfl,rfl,by simp[frzL],rfl,by simp[frzL,wkC]⟩
  ·obtain⟨hs1,hs2⟩:=hsf rfl;unfold Cr.bdd at hs2;have hwd:=Zr4 (S y.num) far (wrap64 (by omega)) (wrap64 (by omega)) (wrap64 (by omega));have hct:=cut_c r ((S y.num).wider far);generalize S y.num=sy at *;unfold zR at hs1;unfold Cr.pv at hs1;simp[-getElem?_pos,-List.getElem?_map,laid,spB,wkC,-retB,hk,hs1,itsP,hgz,hsi,w1,w2'];refine cQ [] [sy.pv,.int .i64 far] hwd ?_;simp[-getElem?_pos,-List.getElem?_map,frzsL];refine .inl (cQ [] [r.pv,(sy.wider far).pv] hct ?_);simp[-getElem?_pos,-List.getElem?_map,frzsL,Cr.pv];exact⟨[],[.par 1,.par 2,.par 3,.par 4,.par 5,.par 6,.par 7,.par 8,.par 9,.par 10,.par 11],rfl,rfl,by simp[frzL],rfl,by simp[frzL,wkC,itsP]⟩
end
end
section
attribute [local irreducible] Bk.held Bk.nums
theorem Zkn {b:Bk}{hb:b.ok}{es hs ss:List (PV×PV)}{hH:HMap (fun n=>(b.held []).contains n) hs}{S:Int→Cr}{si:Nat}{hsi:si<b.items.length}{day below:Int}{hd:0≤day∧day≤1000}{hS:SMap b S below ss}:∀(l:List Ct) (r:Cr),(spnC b hb es hs ss hH S si hsi day below hd hS).run r (ctsV l)=(l.foldl (ZeE b S si day) r,true)
 |[],r=>rfl
 |x::l,r=>by
  show(spnC b hb es hs ss hH S si hsi day below hd hS).run (ZeE b S si day r x) (ctsV l)=_;rw[Zkn l];rfl
theorem Zh0 {b:Bk}{S:Int→Cr}{item day:Int}:∀(l:List Ct) (r:Cr),l.foldl (ZeE b S item day) r=(l.filter fun c=>(b.held []).contains c.num).foldl (fun r c=>r.cut ((S c.num).wider ((b.item item).drift*(day-c.day)))) r
 |[],r=>rfl
 |c::l,r=>by
  rw[List.foldl_cons,Zh0 l,Zyt];unfold ZeE;cases h:(b.held []).contains c.num
  ·rfl
  ·rfl
theorem Zof {b:Bk}(hb:b.ok){S:Int→Cr}{item day below:Int}(h:(b.item item).std=false):(b.ofL item day below).foldl (ZeE b S item day) ZcE=b.Zu2 (b.held []) S item day below:=by
 rw[Zh0,ZbQ h];refine ZqC (fun c=>?_);rw[ZxX,ZxX,ZbG hb,ZxO];exact⟨fun⟨⟨h1,h2⟩,h3⟩=>⟨h1,h2,h3⟩,fun⟨h1,h2,h3⟩=>⟨⟨h1,h2⟩,h3⟩⟩
attribute [local simp] AS.exp expG Box.ren AV.map AV.Zu9 Zau noRet Site.Zu6 Box.Zu3 AV.Zu3 AV.Zu4 retB dropL AS.Zvd renL outG outOk Zas inG fnOf lookA Zyc
attribute [local simp] Box.Zu0 Site.Zu1
attribute [local simp] Zax Zav Zal Zaw ZaQ
theorem ZmH (b:Bk)(hb:b.ok)(es hs ss:List (PV×PV))(hes:CMap b es)(hH:HMap (fun n=>(b.held []).contains n) hs)(S:Int→Cr)(si:Nat)(hsi:si<b.items.length)(day below:Int)(hd:0≤day∧day≤1000)(hS:SMap b S below ss):
  Zai Tryz.prog 88 [.ptr (.par 0) 0,.pv (.int .i64 si),.pv (.int .i64 day),.pv (.int .i64 below)] (laid 0 (spB b es hs ss)) (fun r B=>r=.pv (b.Zu2 (b.held []) S si day below).pv∧B=laid 0 (spB b es hs ss)):=by
 refine cBR [.par 0,.par 1,.par 2,.par 3,.par 4] L88 ?_;intro R hR;obtain⟨z,hz⟩:∃z,b.items[si]?=some z:=⟨b.items[si],ZxL hsi⟩;have hgz:(b.items.map It.pv)[si]?=some (.agg [.int .i64 z.drift,.bool z.std,.int .i64 z.val.lo,.int .i64 z.val.hi]):=by rw[ZxM,hz];rfl
 have hzi:b.item (si:Int)=z:=by unfold Bk.item;rw[Int.toNat_natCast,hz];rfl
 rcases Bool.eq_false_or_eq_true z.std with hzs|hzs
 ·have hv:b.Zu2 (b.held []) S si day below=z.val:=by unfold Bk.Zu2;rw[hzi,if_pos hzs]
  simp[-getElem?_pos,-List.getElem?_map,L88,laid,spB,wkC,itsP,hgz,hsi,hzs,-retB];rw[←hR,hv];simp[laid,spB,wkC,itsP,Cr.pv]
 have hv:=Zof hb (S:=S) (item:=(si:Int)) (day:=day) (below:=below) (by rw[hzi];exact hzs);have hit:=Ziv (spnC b hb es hs ss hH S si hsi day below hd hS) b hb [] es hes 11 9 10 (fun c _=>⟨rfl,rfl⟩) (fun c _=>rfl) si day below ZcE trivial (fun z hz=>⟨z,hz,rfl⟩);rw[Zkn,hv]at hit;have hcl:=(spnC b hb es hs ss hH S si hsi day below hd hS).cl (b.Zu2 (b.held []) S si day below);generalize b.Zu2 (b.held []) S si day below=RES at *;simp[-getElem?_pos,-List.getElem?_map,L88,laid,spB,wkC,itsP,hgz,hsi,hzs,-retB];refine .inl (cQ [] [] ZiQ ?_);simp[-getElem?_pos,-List.getElem?_map,frzsL,ZcE,Cr.pv];refine cM [.ptr (.par 0) 0,.pv (.int .i64 si),.pv (.int .i64 day),.pv (.int .i64 below)] (laid 0 (wkB b [] es)) 46 [.par 3,.par 4] (by simp[laid,wkB,wkC,itsP]) (of_c b [] es si day below) (by simp[laid,wkB,wkC]) ?_;simp[-getElem?_pos,-List.getElem?_map,laid,wkB,wkC,ofF,-retB];refine Zc9 [.loc 79 0,.loc 10 0,.loc 4 0,.loc 5 0,.loc 6 0,.loc 9 0,.par 0,.par 1,.par 2,.par 3,.par 4,.loc 46 0] [(4,.ptr (.loc 4 0) 0),(5,.ptr (.loc 5 0) 0),(6,.ptr (.loc 6 0) 0),(9,.ptr (.loc 9 0) 0),(10,.ptr (.loc 10 0) 0)] (gf:=124) (fs:=[]) (cs:=[.ptr (.loc 46 0) 0,.pv (.ref [.int .i64 below]),.pv (.ref [.int .i64 si]),.pv (.ref [.int .i64 day])]) ?_ ?_ rfl rfl ?_ ?_ ?_ hit ?_
 ·rfl
 ·simp
 ·simp[spnC,spnX,laid,wkC,capB,ZcE]
 ·rfl
 ·rfl
 rintro r B' ⟨rfl,rfl⟩;refine⟨rfl,?_,?_⟩
 ·exact fun p hp=>Zew (n:=12) (L:=spnX b es hs ss si day RES) (by simp[spnX]) hcl p hp
 refine⟨_,_,_,_,_,rfl,?_⟩;simp[-getElem?_pos,-List.getElem?_map,spnC,spnX,laid,jumpQ,wkC,capB,-retB];trace_state;simp[wkC];rw[←hR];simp[laid,spB,wkC,Cr.pv]
end
section
attribute [local irreducible] Bk.held Bk.nums Bk.span
def sEnt (b:Bk)(k:Nat):List (PV×PV):=mapI id (fun n=>(b.span (b.held []) n).pv) ((b.nums.take k).filter fun n=>(b.held []).contains n)
theorem ZeP {b:Bk}{k:Nat}{n x:Int}(h:b.nums[k]?=some n):x∈b.nums.take k↔x∈b.nums∧x<n:=by
 obtain⟨h2,e2⟩:=ZxN.1 h;have hs:=ZyE.1 (Zbd (b:=b));constructor
 ·intro hx;obtain⟨i,hi⟩:=ZxV.1 hx;rw[Zx1]at hi;split at hi
  ·rename_i hik;obtain⟨h1,e1⟩:=ZxN.1 hi
   have:=hs i k h1 h2 hik
   rw[e1,e2]at this;exact⟨ZxQ hi,this⟩
  ·cases hi
 ·rintro⟨hx,hlt⟩;obtain⟨i,hi⟩:=ZxV.1 hx;obtain⟨h1,e1⟩:=ZxN.1 hi;rw[ZxV];refine⟨i,?_⟩;rw[Zx1,if_pos,hi];rcases Nat.lt_trichotomy i k with hik|hik|hik
  ·exact hik
  ·subst hik;rw[e1]at e2;omega
  ·have:=hs k i h2 h1 hik
   rw[e1,e2]at this;omega
theorem Zpq {b:Bk}(hb:b.ok){k:Nat}{n:Int}(h:b.nums[k]?=some n):SMap b (b.span (b.held [])) n (sEnt b k):=by
 refine⟨ZbD,fun c hc hlt hx=>?_⟩;unfold sEnt;rw[Zbk,ZfX,if_pos]
 ·refine⟨rfl,?_⟩
  have:=ZeQ hb c hc hx
  have hbd:=Za1 hb hc;unfold Cr.bdd at this ⊢;omega
 ·rw[ZxX,ZeP h];exact⟨⟨(Zbc hb).2 ⟨c,hc,rfl⟩,hlt⟩,Zx4.2 hx⟩
theorem Zfj {b:Bk}(hb:b.ok)(below:Int):SMap b (b.span (b.held [])) below (sEnt b b.nums.length):=by
 refine⟨ZbD,fun c hc hlt hx=>?_⟩;unfold sEnt;rw[Zbk,ZfX,if_pos]
 ·refine⟨rfl,?_⟩
  have:=ZeQ hb c hc hx
  have hbd:=Za1 hb hc;unfold Cr.bdd at this ⊢;omega
 ·rw[ZxX,Zye];exact⟨(Zbc hb).2 ⟨c,hc,rfl⟩,Zx4.2 hx⟩
theorem ZmY {b:Bk}{k:Nat}{n:Int}(h:b.nums[k]?=some n)(hx:(b.held []).contains n=false):sEnt b (k+1)=sEnt b k:=by
 unfold sEnt;rw[Zx6,h,Zyw]
 have:(Option.some n).toList.filter (fun n=>(b.held []).contains n)=[]:=by
  simp only[Option.toList,Zyt,hx,List.filter_nil];rfl
 rw[this,Zx9]
theorem Zpp {b:Bk}{k:Nat}{n:Int}(h:b.nums[k]?=some n)(hx:(b.held []).contains n=true):putK (.int .i64 n) (b.span (b.held []) n).pv (sEnt b k)=sEnt b (k+1):=by
 unfold sEnt;rw[ZdL (fun x hm=>?_),Zx6,h,Zyw]
 ·have:(Option.some n).toList.filter (fun n=>(b.held []).contains n)=[n]:=by
   simp only[Option.toList,Zyt,hx,List.filter_nil];rfl
  rw[this];unfold mapI;rw[Zyb];rfl
 ·have:=(ZeP h).1 (ZxX.1 hm).1
  show x≠n;omega
theorem Zph {b:Bk}(hb:b.ok){n:Int}(hn:n∈b.nums)(hx:(b.held []).contains n=true):b.span (b.held []) n=(b.Zu2 (b.held []) (b.span (b.held [])) (b.get n).src (b.get n).day n).plus (b.get n).diff∧(b.Zu2 (b.held []) (b.span (b.held [])) (b.get n).src (b.get n).day n).bdd 2000000000:=by
 have h1:=Zfp hb n hn;obtain⟨nn,rfl⟩:∃nn:Nat,n=nn:=⟨n.toNat,by omega⟩;obtain⟨hcm,hcn⟩:=Zbf hb hn;have hbd:=Za1 hb hcm;refine⟨?_,?_⟩
 ·rw[Zg5 (by omega),if_pos hx]
 ·have hsr:=Zla hb hcm (bad:=[]) (by rw[hcn];exact Zx4.1 hx);rw[hcn]at hsr
  have:=Zhy hb (held:=b.held []) (S:=b.span (b.held [])) (day:=(b.get (nn:Int)).day) (below:=(nn:Int)) (A:=1000000000) hbd.2.2.2.2.2.1 hbd.2.2.2.2.2.2.1 (by omega) (by omega) hsr fun o ho hlt hox=>by
   have k1:=ZeQ hb o ho hox;have k2:=Za1 hb ho;unfold Cr.bdd at k1 ⊢;omega
  unfold Cr.bdd at this ⊢;omega
def rcB (b:Bk)(es hs ss:List (PV×PV)):List Box:=[.cells [.ptr (.par 6) 0],.cells [.ptr (.par 3) 0],.cells [.fn 86 [] [.ptr (.par 0) 0,.ptr (.par 1) 0,.ptr (.par 2) 0]],
 .cells [.ptr (.par 6) 0,.mp (.par 4),.mp (.par 5)],.map hs,.map ss,.cells (wkC b (.par 7) (badZ [])),.map es]
end
section
attribute [local irreducible] Bk.held Bk.nums Bk.span
attribute [local simp] AS.exp expG Box.ren AV.map AV.Zu9 Zau noRet Site.Zu6 Box.Zu3 AV.Zu3 AV.Zu4 retB dropL AS.Zvd renL outG outOk Zas inG fnOf lookA Zyc
attribute [local simp] Box.Zu0 Site.Zu1
attribute [local simp] Zax Zav Zal Zaw ZaQ
def rcJ (b:Bk)(es hs ss:List (PV×PV))(L:List PV)(n:Int)(R:Cr):AS:=⟨[(0,.pv (.lst false 1 L)),(1,.ptr (.par 0) 0),(2,.ptr (.par 1) 0),(3,.ptr (.par 2) 0),(23,.mp (.par 5)),(25,.pv (.int .i64 n)),(36,.pv (.agg [.int .i64 R.lo,.int .i64 R.hi]))],laid 0 (rcB b es hs ss)⟩
theorem rc_c (b:Bk)(hb:b.ok)(es hs:List (PV×PV))(hes:CMap b es)(hH:HMap (fun n=>(b.held []).contains n) hs):∀m k,m+k=b.nums.length→
  Zai Tryz.prog 86 [.pv (.lst false 1 ((b.nums.drop k).map intP)),.ptr (.par 0) 0,.ptr (.par 1) 0,.ptr (.par 2) 0] (laid 0 (rcB b es hs (sEnt b k))) (fun r B=>r=.pv (.tup [])∧B=laid 0 (rcB b es hs (sEnt b b.nums.length)))
 |0,k,hk=>by
  have hk':k=b.nums.length:=by omega
  subst hk';rw[List.drop_length];refine cB [.par 0,.par 1,.par 2,.par 3,.par 4,.par 5,.par 6,.par 7] L86 ?_;simp[-getElem?_pos,L86,rcB,laid,wkC]
 |m+1,k,hk=>by
  have ih:=rc_c b hb es hs hes hH m (k+1) (by omega);have hlt:k<b.nums.length:=by omega
  obtain⟨n,hn⟩:∃n,b.nums[k]?=some n:=⟨b.nums[k],ZxL hlt⟩;have hdr:b.nums.drop k=n::b.nums.drop (k+1):=by
   rw[ZyF hlt]
   have:b.nums[k]=n:=by rw[ZxL hlt]at hn;exact Option.some.inj hn
   rw[this]
  have hnm:=ZxQ hn;obtain⟨hcm,hcn⟩:=Zbf hb hnm;have hbd:=Za1 hb hcm;have hfx:=hes.f n;rw[if_pos hnm]at hfx;have hko:=hes.k;have hsk:=ZmY hn;have hsp:=Zpp hn;have hsg:=Zph hb hnm;have hSM:=Zpq hb hn;have hkk:=hSM.k;have hhold:=ZfR b es hs (sEnt b k) _ hH (b.get n);rw[hdr];generalize b.nums.drop (k+1)=rest at *;generalize sEnt b b.nums.length=SF at *;generalize sEnt b (k+1)=S2 at *;generalize hS1:sEnt b k=S1 at *;generalize b.get n=y at *;obtain⟨yn,yi,ys,yd,yv,⟨yl,yh⟩⟩:=y;simp only at hcn hbd hsg hhold;subst hcn;unfold Ct.pv at hfx;obtain⟨si,rfl⟩:∃si:Nat,ys=si:=⟨ys.toNat,by omega⟩;have hsi:si<b.items.length:=by omega
  have hspan:=ZmH b hb es hs S1 hes hH (b.span (b.held [])) si hsi yd yn (by omega) hSM;generalize b.Zu2 (b.held []) (b.span (b.held [])) si yd yn=R1 at *;generalize b.span (b.held []) yn=R2 at *;generalize hcv:(b.held []).contains yn=v at *;refine cBR [.par 0,.par 1,.par 2,.par 3,.par 4,.par 5,.par 6,.par 7] L86 ?_;intro R hR;have hl0:(0:Int)<(rest.length:Int)+1:=by omega
  have hlz:¬((rest.length:Int)+1=0):=by omega
  simp[-getElem?_pos,-List.getElem?_map,L86,rcB,laid,wkC,hl0,hlz,hko,hfx,-retB,intP];refine cM [.ptr (.par 0) 0,.pv (Ct.pv ⟨yn,yi,si,yd,yv,⟨yl,yh⟩⟩)] (laid 0 (spB b es hs S1)) 19 [.par 3,.par 4,.par 5,.par 6,.par 7] (by simp[laid,spB,wkC]) hhold (by simp[laid,spB,wkC]) ?_;have hl1:1≤rest.length+1:=by omega
  have htk:(rest.map intP).take rest.length=rest.map intP:=ZxW (by rw[ZxS];exact ZxR _);cases v
  ·rw[hsk rfl]at ih;simp[-getElem?_pos,-List.getElem?_map,laid,spB,wkC,-retB,nble,hl1,htk];refine cM [.pv (.lst false 1 (rest.map intP)),.ptr (.par 0) 0,.ptr (.par 1) 0,.ptr (.par 2) 0] (laid 0 (rcB b es hs S1)) 40 [.par 0,.par 1,.par 2,.par 3,.par 4,.par 5,.par 6,.par 7] (by simp[laid,rcB,wkC]) ih (by simp[laid,rcB,wkC]) ?_;simp[-getElem?_pos,laid,rcB,wkC];rw[←hR];simp[laid,rcB,wkC]
  ·obtain⟨hq1,hq2⟩:=hsg rfl;have hput:=hsp rfl;unfold Cr.pv at hput;unfold Cr.bdd at hq2;have hdf:=hbd.2.2.2.2.2.2.2.2.2.2.2.2.1;unfold Cr.bdd at hdf;simp only at hdf;have hplus:=ZrA R1 ⟨yl,yh⟩ (wrap64 (by simp only;omega)) (wrap64 (by simp only;omega));rw[←hq1]at hplus;simp[-getElem?_pos,-List.getElem?_map,laid,spB,wkC,-retB,nble,hl1,htk];refine Zdt (rcJ b es hs S1 (intP yn::rest.map intP) yn R2) ?_ ?_
   ·simp[-getElem?_pos,-List.getElem?_map,Zak,Zaq,-retB]
    repeat' (with_reducible refine And.intro ?_ ?_)
    all_goals
     refine cM [.ptr (.par 0) 0,.pv (.int .i64 si),.pv (.int .i64 yd),.pv (.int .i64 yn)] (laid 0 (spB b es hs S1)) 33 [.par 3,.par 4,.par 5,.par 6,.par 7] (by simp[laid,spB,wkC]) hspan (by simp[laid,spB,wkC]) ?_;simp[-getElem?_pos,-List.getElem?_map,laid,spB,wkC,-retB,Zak,Zaq,Cr.pv]
    all_goals
     refine cQ [] [R1.pv,Cr.pv ⟨yl,yh⟩] hplus ?_;simp[-getElem?_pos,-List.getElem?_map,frzsL,Zak,Zaq,Cr.pv,-retB]
    all_goals
     refine Sub.mk ?_ ?_
     ·simp[rcJ,intP]
     ·simp[rcJ,laid,rcB,wkC]
   ·simp[-getElem?_pos,-List.getElem?_map,Zak,Zaq,rcJ,laid,rcB,wkC,-retB,hkk,nble,hl1,htk,hput];refine cM [.pv (.lst false 1 (rest.map intP)),.ptr (.par 0) 0,.ptr (.par 1) 0,.ptr (.par 2) 0] (laid 0 (rcB b es hs S2)) 40 [.par 0,.par 1,.par 2,.par 3,.par 4,.par 5,.par 6,.par 7] (by simp[laid,rcB,wkC]) ih (by simp[laid,rcB,wkC]) ?_;simp[-getElem?_pos,laid,rcB,wkC];rw[←hR];simp[laid,rcB,wkC]
end
section
attribute [local irreducible] Bk.held Bk.nums Bk.span
attribute [local simp] AS.exp expG Box.ren AV.map AV.Zu9 Zau noRet Site.Zu6 Box.Zu3 AV.Zu3 AV.Zu4 retB dropL AS.Zvd renL outG outOk Zas inG fnOf lookA Zyc
attribute [local simp] Box.Zu0 Site.Zu1
attribute [local simp] Zax Zav Zal Zaw ZaQ
def spsJ (b:Bk)(es hs:List (PV×PV)):AS:=⟨[(1,.ptr (.loc 1 0) 0),(3,.ptr (.loc 3 0) 0),(10,.ptr (.loc 10 0) 0)],
 [(.loc 10 0,.cells [.ptr (.par 0) 0,.mp (.loc 7 0),.mp (.loc 8 0)]),(.loc 7 0,.map hs),(.loc 8 0,.map []),(.loc 3 0,.cells [.pv .nilp]),(.loc 1 0,.cells [.ptr (.par 0) 0]),(.par 0,.cells (wkC b (.par 1) (badZ []))),(.par 1,.map es)]⟩
def spsR (b:Bk)(es:List (PV×PV))(r:AV)(B:List (Site×Box)):Prop:=r=.ptr (.ret 0) 0∧B=[(.ret 0,.cells [.ptr (.par 0) 0,.mp (.ret 1),.mp (.ret 2)]),(.ret 1,.map (hEnt b [] b.nums.length)),(.ret 2,.map (sEnt b b.nums.length)),(.par 0,.cells (wkC b (.par 1) (badZ []))),(.par 1,.map es)]
theorem Zji (b:Bk)(hb:b.ok)(es:List (PV×PV))(hes:CMap b es):Zai Tryz.prog 39 [.ptr (.par 0) 0] (laid 0 (wkB b [] es)) (spsR b es):=by
 have hheld:=Zn9 b hb [] es hes;have hrc:=rc_c b hb es _ hes (Zb5 hb []) b.nums.length 0 (by omega);have hs0:sEnt b 0=[]:=by unfold sEnt;rw[List.take_zero];rfl
 rw[hs0,List.drop_zero]at hrc;refine cB [.loc 10 0,.loc 7 0,.loc 8 0,.par 0,.par 1] L39 ?_;generalize hR:spsR b es=R;have hRd:∀r B,R r B↔spsR b es r B:=fun r B=>by rw[hR]
 unfold spsR at hRd;generalize hEnt b [] b.nums.length=hs at *;generalize sEnt b b.nums.length=SF at *;clear hR;simp[-getElem?_pos,-List.getElem?_map,L39,laid,wkB,wkC,-retB];refine Zdt (spsJ b es hs) ?_ ?_
 ·simp[-getElem?_pos,-List.getElem?_map,Zak,Zaq,-retB]
  repeat' (with_reducible refine And.intro ?_ ?_)
  all_goals
   refine cM [.ptr (.par 0) 0] (laid 0 (wkB b [] es)) 7 [.par 0,.par 1] (by simp[laid,wkB,wkC]) hheld (by simp[laid,wkB,wkC]) ?_;simp[-getElem?_pos,-List.getElem?_map,laid,wkB,wkC,-retB,Zak,Zaq]
  repeat' (with_reducible refine And.intro ?_ ?_)
  all_goals
   refine Sub.mk ?_ ?_
   ·simp[spsJ]
   ·simp[spsJ,wkC]
 ·simp[-getElem?_pos,-List.getElem?_map,Zak,Zaq,spsJ,wkC,-retB];refine cM [.pv (.lst false 1 (b.nums.map intP)),.ptr (.par 0) 0,.ptr (.par 1) 0,.ptr (.par 2) 0] (laid 0 (rcB b es hs [])) 17 [.loc 1 0,.loc 3 0,.loc 4 0,.loc 10 0,.loc 7 0,.loc 8 0,.par 0,.par 1] (by simp[laid,rcB,wkC]) hrc (by simp[laid,rcB,wkC]) ?_;simp[-getElem?_pos,-List.getElem?_map,laid,rcB,wkC];rw[hRd];simp[wkC]
end
section
attribute [local irreducible] Bk.held Bk.nums Bk.span
def Bk.Zvg (b:Bk)(n:Int):Bool:=(b.held []).contains n&&decide ((b.Zu2 (b.held []) (b.span (b.held [])) (b.get n).it (b.get n).day 1000).hi<(b.Zu2 (b.held []) (b.span (b.held [])) (b.get n).it (b.get n).day 1000).lo)
theorem ZjR {b:Bk}(hb:b.ok):b.contra=b.nums.any b.Zvg:=by
 rw[Zyr];unfold Bk.contra;rw[Zya,Zya];constructor
 ·rintro⟨c,hc,h⟩;refine⟨c.num,(Zbc hb).2 ⟨c,hc,rfl⟩,?_⟩;unfold Bk.Zvg;rw[ZcK hb hc];exact h
 ·rintro⟨n,hn,h⟩;obtain⟨h1,h2⟩:=Zbf hb hn;refine⟨b.get n,h1,?_⟩;unfold Bk.Zvg at h;rw[h2];exact h
attribute [local simp] AS.exp expG Box.ren AV.map AV.Zu9 Zau noRet Site.Zu6 Box.Zu3 AV.Zu3 AV.Zu4 retB dropL AS.Zvd renL outG outOk Zas inG fnOf lookA Zyc
attribute [local simp] Box.Zu0 Site.Zu1
attribute [local simp] Zax Zav Zal Zaw ZaQ
def ctrK (b:Bk)(es hs ss:List (PV×PV))(k:Nat):AS:=⟨[(0,.ptr (.par 0) 0),(13,.pv (.lst false 1 (b.nums.map intP))),(14,.pv (.int .i64 b.nums.length)),(15,.pv (.int .i64 k))],laid 0 (spB b es hs ss)⟩
theorem ZhK (b:Bk)(hb:b.ok)(es hs ss:List (PV×PV))(hes:CMap b es)(hH:HMap (fun n=>(b.held []).contains n) hs)(hS:SMap b (b.span (b.held [])) 1000 ss):
  Zai Tryz.prog 40 [.ptr (.par 0) 0] (laid 0 (spB b es hs ss)) (fun r B=>r=.pv (.bool b.contra)∧B=laid 0 (spB b es hs ss)):=by
 have hlen:=Zdd (b:=b);rw[ZjR hb];refine cBR [.par 0,.par 1,.par 2,.par 3,.par 4] L40 ?_;intro R hR;simp[-getElem?_pos,-List.getElem?_map,L40,laid,spB,wkC,-retB];refine Zaf (fun n τ=>∃k:Nat,k≤b.nums.length∧n=b.nums.length-k∧(∀(j:Nat) (x:Int),j<k→b.nums[j]?=some x→b.Zvg x=false)∧τ=ctrK b es hs ss k) ⟨b.nums.length,ctrK b es hs ss 0,Sub.mk (by simp[ctrK]) (by simp[ctrK,laid,spB,wkC]),0,Zx0 _,rfl,(fun j x hj=>by omega),rfl⟩ ?_;rintro J hJ n τ ⟨k,hk,rfl,hinv,rfl⟩;by_cases hlt:k<b.nums.length
 ·obtain⟨x,hx⟩:∃x,b.nums[k]?=some x:=⟨b.nums[k],ZxL hlt⟩;have hxm:=ZxQ hx;have hgx:(b.nums.map intP)[k]?=some (.int .i64 x):=by rw[ZxM,hx];rfl
  have hw:=wrapK (k:=k) (by omega);have hmeas:b.nums.length-(k+1)<b.nums.length-k:=by omega
  obtain⟨hcm,hcn⟩:=Zbf hb hxm;have hbd:=Za1 hb hcm;have hfx:=hes.f x;rw[if_pos hxm]at hfx;have hko:=hes.k;have hhold:=ZfR b es hs ss _ hH (b.get x);have hround:b.Zvg x=false→J (b.nums.length-(k+1)) (ctrK b es hs ss (k+1)):=fun h=>hJ _ _ ⟨k+1,hlt,rfl,(fun j y hj hy=>by
   rcases ZyD.1 hj with h'|h'
   ·exact hinv j y h' hy
   ·subst h';rw[hx]at hy;cases hy;exact h),rfl⟩
  have hend:b.Zvg x=true→b.nums.any b.Zvg=true:=fun h=>Zya.2 ⟨x,hxm,h⟩
  have hca:b.Zvg x=((b.held []).contains x&&decide ((b.Zu2 (b.held []) (b.span (b.held [])) (b.get x).it (b.get x).day 1000).hi<(b.Zu2 (b.held []) (b.span (b.held [])) (b.get x).it (b.get x).day 1000).lo)):=rfl;generalize b.get x=y at *;obtain⟨yn,yi,ys,yd,yv,⟨yl,yh⟩⟩:=y;simp only at hcn hbd hhold hca;subst hcn;unfold Ct.pv at hfx;obtain⟨si,rfl⟩:∃si:Nat,yi=si:=⟨yi.toNat,by omega⟩;have hspan:=ZmH b hb es hs ss hes hH (b.span (b.held [])) si (by omega) yd 1000 (by omega) hS;generalize b.Zu2 (b.held []) (b.span (b.held [])) si yd 1000=R1 at *;have hlt':decide ((k:Int)<(b.nums.length:Int))=true:=by simp;omega
  simp[-getElem?_pos,-List.getElem?_map,-decide_eq_true_eq,-decide_eq_false_iff_not,ctrK,laid,spB,wkC,hlt,hlt',hgx,hko,hfx,-retB];refine cM [.ptr (.par 0) 0,.pv (.int .i64 si),.pv (.int .i64 yd),.pv (.int .i64 1000)] (laid 0 (spB b es hs ss)) 33 [.par 0,.par 1,.par 2,.par 3,.par 4] (by simp[laid,spB,wkC]) hspan (by simp[laid,spB,wkC]) ?_;simp[-getElem?_pos,-List.getElem?_map,-decide_eq_true_eq,-decide_eq_false_iff_not,laid,spB,wkC,-retB,Cr.pv];refine cM [.ptr (.par 0) 0,.pv (Ct.pv ⟨yn,si,ys,yd,yv,⟨yl,yh⟩⟩)] (laid 0 (spB b es hs ss)) 36 [.par 0,.par 1,.par 2,.par 3,.par 4] (by simp[laid,spB,wkC]) hhold (by simp[laid,spB,wkC]) ?_;generalize(b.held []).contains yn=v at *;cases v
  ·have hround:=hround hca;simp[-getElem?_pos,-List.getElem?_map,-decide_eq_true_eq,-decide_eq_false_iff_not,laid,spB,wkC,-retB,hw];exact⟨_,_,hmeas,Sub.mk (by simp[ctrK]) (by simp[ctrK,laid,spB,wkC]),hround⟩
  ·rw[Bool.true_and]at hca;cases hd:decide (R1.hi<R1.lo)
   ·have hround:=hround (by rw[hca,hd]);simp[-getElem?_pos,-List.getElem?_map,-decide_eq_true_eq,-decide_eq_false_iff_not,laid,spB,wkC,-retB,hw,hd];exact⟨_,_,hmeas,Sub.mk (by simp[ctrK]) (by simp[ctrK,laid,spB,wkC]),hround⟩
   ·have he:=hend (by rw[hca,hd]);simp[-getElem?_pos,-List.getElem?_map,-decide_eq_true_eq,-decide_eq_false_iff_not,laid,spB,wkC,hw,hd];rw[←hR,he];simp[laid,spB,wkC]
 ·have he:k=b.nums.length:=by omega
  subst he;clear hJ;have hno:b.nums.any b.Zvg=false:=by
   rw[List.any_eq_false];intro x hx;obtain⟨j,hj⟩:=ZxV.1 hx;simp[hinv j x (ZxN.1 hj).1 hj]
  simp[-getElem?_pos,-List.getElem?_map,ctrK,laid,spB,wkC];rw[←hR,hno];simp[laid,spB,wkC]
end
section
attribute [local irreducible] Bk.held Bk.nums Bk.span
def Bk.Zvf (b:Bk)(item day:Int):Cr×Int:=if b.Zv1 item day=0 then(if b.contra=true then(⟨0,0⟩,9)else(b.Zu2 (b.held []) (b.span (b.held [])) item day 1000,0))else(⟨0,0⟩,b.Zv1 item day)
def spanE (x:Cr×Int):PV:=.tup [x.1.pv,.int .i64 x.2]
attribute [local simp] AS.exp expG Box.ren AV.map AV.Zu9 Zau noRet Site.Zu6 Box.Zu3 AV.Zu3 AV.Zu4 retB dropL AS.Zvd renL outG outOk Zas inG fnOf lookA Zyc
attribute [local simp] Box.Zu0 Site.Zu1
attribute [local simp] Zax Zav Zal Zaw ZaQ
theorem ZrX (b:Bk)(hi:b.items.length≤1000)(hc:b.certs.length≤1000)(item day:Int):Gives Tryz.prog 44 [b.pv,.int .i64 item,.int .i64 day] (spanE (b.Zvf item day)):=by
 have hask:=Zo4 b hi hc item day;refine cSR L44 ?_;intro R hR;simp[-getElem?_pos,L44,Bk.pv];refine cL [.pv b.pv,.pv (.int .i64 item),.pv (.int .i64 day)] [] 16 [] rfl hask ?_
 rintro r0 B0 (⟨h0,rfl,rfl⟩|⟨h0,hf0,hit,hdy,hih,es,hes,rfl,rfl⟩)
 ·refine⟨rfl,by simp,?_⟩;have hd:decide (b.Zv1 item day=0)=false:=by simpa using h0
  have hM:b.Zvf item day=(⟨0,0⟩,b.Zv1 item day):=by unfold Bk.Zvf;rw[if_neg h0]
  simp[-getElem?_pos,-decide_eq_true_eq,-decide_eq_false_iff_not,hd];rw[←hR,hM];exact⟨rfl,rfl⟩
 have hb:b.ok:=Bk.Zvx.1 hf0;refine⟨rfl,by simp[wkC],?_⟩;have hsp:=Zji b hb es hes;have hH:=Zb5 hb [];have hS:=Zfj hb 1000;simp[-getElem?_pos,-List.getElem?_map,wkC];refine cM [.ptr (.par 0) 0] (laid 0 (wkB b [] es)) 25 [.loc 16 0,.loc 16 1] (by simp[laid,wkB,wkC]) hsp (by simp[wkC]) ?_;generalize hEnt b [] b.nums.length=hs at *;generalize sEnt b b.nums.length=ss at *;have hct:=ZhK b hb es hs ss hes hH hS;have hii:0≤item∧item<b.items.length:=by
  unfold Bk.Zvb inB at hit;simp only[ZxO,decide_eq_true_eq]at hit;omega
 have hdd:0≤day∧day≤1000:=by
  unfold inB at hdy;simp only[ZxO,decide_eq_true_eq]at hdy;omega
 obtain⟨si,rfl⟩:∃si:Nat,item=si:=⟨item.toNat,by omega⟩;have hspan:=ZmH b hb es hs ss hes hH (b.span (b.held [])) si (by omega) day 1000 hdd hS;have hM:b.Zvf si day=if b.contra=true then(⟨0,0⟩,9)else(b.Zu2 (b.held []) (b.span (b.held [])) si day 1000,0):=by unfold Bk.Zvf;rw[if_pos h0]
 rw[hM]at hR;generalize b.Zu2 (b.held []) (b.span (b.held [])) si day 1000=R1 at *;simp[-getElem?_pos,-List.getElem?_map,wkC];refine cM [.ptr (.par 0) 0] (laid 0 (spB b es hs ss)) 27 [.loc 25 0,.loc 25 1,.loc 25 2,.loc 16 0,.loc 16 1] (by simp[laid,spB,wkC]) hct (by simp[laid,spB,wkC]) ?_;cases hcn:b.contra
 ·rw[hcn,if_neg (by simp)]at hR;simp[-getElem?_pos,-List.getElem?_map,laid,spB,wkC];refine cM [.ptr (.par 0) 0,.pv (.int .i64 si),.pv (.int .i64 day),.pv (.int .i64 1000)] (laid 0 (spB b es hs ss)) 32 [.loc 25 0,.loc 25 1,.loc 25 2,.loc 16 0,.loc 16 1] (by simp[laid,spB,wkC]) hspan (by simp[laid,spB,wkC]) ?_;simp[-getElem?_pos,-List.getElem?_map,laid,spB,wkC,Cr.pv];rw[←hR];exact⟨rfl,rfl⟩
 ·rw[hcn,if_pos rfl]at hR;simp[-getElem?_pos,-List.getElem?_map,laid,spB,wkC];rw[←hR];exact⟨rfl,rfl⟩
end
section
def lexB:List Int→List Int→Bool
 |a::azz,b::bs=>decide (a<b)||(decide (a=b)&&lexB azz bs)
 |[],_::_=>true
 |_,[]=>false
def ltC (a b:List Int):Bool:=decide (a.length<b.length)||(decide (a.length=b.length)&&lexB a b)
theorem Zk1:∀a:List Int,lexB a a=false
 |[]=>rfl
 |a::azz=>by unfold lexB;rw[Zk1 azz];simp
theorem Zk0:∀a b:List Int,a.length=b.length→lexB a b=false→lexB b a=false→a=b
 |[],[],_,_,_=>rfl
 |[],_::_,h,_,_=>by cases h
 |_::_,[],h,_,_=>by cases h
 |a::azz,b::bs,h,h1,h2=>by
  unfold lexB at h1 h2;simp only[Bool.or_eq_false_iff,Bool.and_eq_false_iff,decide_eq_false_iff_not]at h1 h2;have e:a=b:=by omega
  subst e;rw[Zk0 azz bs (by simpa using h) (by simpa using h1.2) (by simpa using h2.2)]
theorem Zgz:∀a b c:List Int,lexB a b=true→lexB b c=true→lexB a c=true
 |[],[],_,h,_=>by cases h
 |[],b::bs,c,_,h=>by
  cases c with
  |nil=>cases h
  |cons c cs=>rfl
 |a::azz,[],_,h,_=>by cases h
 |a::azz,b::bs,[],_,h=>by cases h
 |a::azz,b::bs,c::cs,h1,h2=>by
  unfold lexB at h1 h2 ⊢;simp only[Zyk,ZxO,decide_eq_true_eq]at h1 h2 ⊢;rcases h1 with h1|⟨h1,h1'⟩<;>rcases h2 with h2|⟨h2,h2'⟩
  ·left;omega
  ·left;omega
  ·left;omega
  ·right;exact⟨by omega,Zgz azz bs cs h1' h2'⟩
theorem Zfz (a:List Int):ltC a a=false:=by unfold ltC;rw[Zk1];simp
theorem ZnL {a b:List Int}(h1:ltC a b=false)(h2:ltC b a=false):a=b:=by
 unfold ltC at h1 h2;simp only[Bool.or_eq_false_iff,Bool.and_eq_false_iff,decide_eq_false_iff_not]at h1 h2;have e:a.length=b.length:=by omega
 exact Zk0 a b e (by rcases h1.2 with h|h;exact absurd e h;exact h) (by rcases h2.2 with h|h;exact absurd e.symm h;exact h)
theorem Zip {a b c:List Int}(h1:ltC a b=true)(h2:ltC b c=true):ltC a c=true:=by
 unfold ltC at h1 h2 ⊢;simp only[Zyk,ZxO,decide_eq_true_eq]at h1 h2 ⊢;rcases h1 with h1|⟨h1,h1'⟩<;>rcases h2 with h2|⟨h2,h2'⟩
 ·left;omega
 ·left;omega
 ·left;omega
 ·right;exact⟨by omega,Zgz a b c h1' h2'⟩
theorem Zk2:∀(a b:List Int) (n:Int),a.length=b.length→lexB (a++[n]) (b++[n])=lexB a b
 |[],[],n,_=>by simp[lexB]
 |[],_::_,_,h=>by cases h
 |_::_,[],_,h=>by cases h
 |a::azz,b::bs,n,h=>by
  show(decide (a<b)||(decide (a=b)&&lexB (azz++[n]) (bs++[n])))=(decide (a<b)||(decide (a=b)&&lexB azz bs));rw[Zk2 azz bs n (by simpa using h)]
theorem Zs8 (a b:List Int)(n:Int):ltC (a++[n]) (b++[n])=ltC a b:=by
 unfold ltC;rw[ZxU,ZxU];by_cases h:a.length=b.length
 ·rw[Zk2 a b n h,Zyr];simp
 ·rw[Zyr];simp[h]
def stepC (o:Option (List Int))(x:List Int):Option (List Int):=match o with
 |none=>some x
 |some m=>if ltC x m=true then some x else some m
def minC (l:List (List Int)):Option (List Int):=l.foldl stepC none
theorem Zfr:∀(l:List (List Int)) (o:Option (List Int)),(o=none∧l=[]∧l.foldl stepC o=none)∨∃m,l.foldl stepC o=some m∧(o=some m∨m∈l)∧(∀x∈l,ltC x m=false)∧∀x,o=some x→ltC x m=false
 |[],none=>.inl ⟨rfl,rfl,rfl⟩
 |[],some x=>.inr ⟨x,rfl,.inl rfl,fun y hy=>(by cases hy),fun y hy=>by cases hy;exact Zfz x⟩
 |y::l,o=>by
  rw[List.foldl_cons];have key:∃z,stepC o y=some z∧(o=some z∨z=y)∧ltC y z=false∧∀x,o=some x→ltC x z=false:=by
   cases o with
   |none=>exact⟨y,rfl,.inr rfl,Zfz y,fun x hx=>by cases hx⟩
   |some m=>
    unfold stepC;simp only;split
    ·rename_i h;refine⟨y,rfl,.inr rfl,Zfz y,fun x hx=>?_⟩;cases hx;rw[Bool.eq_false_iff];intro h'
     have:=Zip h h'
     rw[Zfz]at this;cases this
    ·rename_i h;exact⟨m,rfl,.inl rfl,by simpa using h,fun x hx=>by cases hx;exact Zfz m⟩
  obtain⟨z,h1,h2,h3,h4⟩:=key;rw[h1];rcases Zfr l (some z)with⟨h,_⟩|⟨m,k1,k2,k3,k4⟩
  ·cases h
  ·have kz:=k4 z rfl;have lift:∀x,ltC x z=false→ltC x m=false:=fun x hx=>by
    rw[Bool.eq_false_iff];intro h';by_cases e:ltC z x=true
    ·have:=Zip e h'
     rw[kz]at this;cases this
    ·have:x=z:=ZnL hx (by simpa using e)
     subst this;rw[kz]at h';cases h'
   refine .inr ⟨m,k1,?_,fun x hx=>?_,fun x hx=>lift x (h4 x hx)⟩
   ·rcases k2 with k2|k2
    ·cases k2;rcases h2 with h2|h2
     ·exact .inl h2
     ·right;rw[h2];simp
    ·right;simp[k2]
   ·rcases Zx2.1 hx with e|e
    ·subst e;exact lift _ h3
    ·exact k3 x e
theorem ZbM {l:List (List Int)}:minC l=none↔l=[]:=by
 rcases Zfr l none with⟨_,h1,h2⟩|⟨m,h1,h2,_⟩
 ·exact⟨fun _=>h1,fun _=>h2⟩
 ·constructor
  ·intro h;rw[minC,h1]at h;cases h
  ·intro h;subst h;rcases h2 with h2|h2
   ·cases h2
   ·cases h2
theorem ZbB {l:List (List Int)}{m:List Int}(h:minC l=some m):m∈l∧∀x∈l,ltC x m=false:=by
 rcases Zfr l none with⟨_,_,h2⟩|⟨m',h1,h2,h3,_⟩
 ·rw[minC,h2]at h;cases h
 ·rw[minC,h1]at h;cases h;rcases h2 with h2|h2
  ·cases h2
  ·exact⟨h2,h3⟩
theorem Zhq {l:List (List Int)}{m:List Int}(h1:m∈l)(h2:∀x∈l,ltC x m=false):minC l=some m:=by
 cases h:minC l with
 |none=>rw[ZbM]at h;subst h;cases h1
 |some m'=>
  obtain⟨k1,k2⟩:=ZbB h;rw[ZnL (k2 m h1) (h2 m' k1)]
theorem Zio {l l':List (List Int)}(h:∀x,x∈l↔x∈l'):minC l=minC l':=by
 cases hm:minC l with
 |none=>
  rw[ZbM]at hm;subst hm;symm;rw[ZbM];cases l' with
  |nil=>rfl
  |cons x l'=>exact absurd ((h x).2 (by simp)) (by simp)
 |some m=>
  obtain⟨h1,h2⟩:=ZbB hm;exact(Zhq ((h m).1 h1) fun x hx=>h2 x ((h x).2 hx)).symm
theorem Zgv {α:Type}{L:List α}{f:α→List (List Int)}:minC (L.flatMap f)=minC (L.filterMap fun x=>minC (f x)):=by
 cases hm:minC (L.flatMap f)with
 |none=>
  rw[ZbM,List.flatMap_eq_nil_iff]at hm;symm;rw[ZbM,List.filterMap_eq_nil_iff];exact fun x hx=>ZbM.2 (hm x hx)
 |some m=>
  obtain⟨h1,h2⟩:=ZbB hm;obtain⟨x,hx,hxm⟩:=List.mem_flatMap.1 h1;have e:minC (f x)=some m:=Zhq hxm fun y hy=>h2 y (List.mem_flatMap.2 ⟨x,hx,hy⟩)
  refine(Zhq (List.mem_filterMap.2 ⟨x,hx,e⟩) fun y hy=>?_).symm;obtain⟨z,hz,hzy⟩:=List.mem_filterMap.1 hy;exact h2 y (List.mem_flatMap.2 ⟨z,hz,(ZbB hzy).1⟩)
theorem ZpY {l:List (List Int)}{n:Int}:minC (l.map (·++[n]))=(minC l).map (·++[n]):=by
 cases hm:minC l with
 |none=>rw[ZbM]at hm;subst hm;rfl
 |some m=>
  obtain⟨h1,h2⟩:=ZbB hm;refine Zhq (ZxY.2 ⟨m,h1,rfl⟩) fun x hx=>?_
  obtain⟨y,hy,rfl⟩:=ZxY.1 hx;rw[Zs8];exact h2 y hy
end
section
attribute [local simp] Box.Zu0 Site.Zu1
theorem nan_c (x:Int):Gives Tryz.prog 195 [.int .i64 x] (.bool false):=by
 refine cS L195 ?_;simp[-getElem?_pos,L195]
def cmpI (x y:Int):Int:=if x<y then -1 else if y<x then 1 else 0
theorem cmp_c (x y:Int):Gives Tryz.prog 164 [.int .i64 x,.int .i64 y] (.int .i64 (cmpI x y)):=by
 refine cS L164 ?_;simp[-getElem?_pos,L164];refine cG [.int .i64 x] (nan_c x) ?_;simp[-getElem?_pos];refine cG [.int .i64 y] (nan_c y) ?_;simp[-getElem?_pos];unfold cmpI;by_cases h1:x<y
 ·simp[-getElem?_pos,h1]
 ·by_cases h2:y<x
  ·simp[-getElem?_pos,h1,h2]
  ·simp[-getElem?_pos,h1,h2]
def cmpL:List Int→List Int→Int
 |[],[]=>0
 |[],_::_=>-1
 |_::_,[]=>1
 |a::r,b::t=>if cmpI a b=0 then cmpL r t else cmpI a b
theorem ZoF {a b:List Int}{k:Nat}{x y:Int}(h1:a[k]?=some x)(h2:b[k]?=some y):cmpL (a.drop k) (b.drop k)=if cmpI x y=0 then cmpL (a.drop (k+1)) (b.drop (k+1))else cmpI x y:=by
 obtain⟨q1,e1⟩:=ZxN.1 h1;obtain⟨q2,e2⟩:=ZxN.1 h2;rw[ZyF q1,ZyF q2,e1,e2];rfl
theorem ZoA (a b:List Int)(ha:a.length≤2000)(hb:b.length≤2000):Gives Tryz.prog 127 [.lst false 1 (a.map intP),.lst false 1 (b.map intP)] (.int .i64 (cmpL a b)):=by
 refine cS L127 ?_;simp[-getElem?_pos,L127];refine Zaf (fun n τ=>∃k:Nat,k≤a.length∧k≤b.length∧n=a.length-k∧cmpL a b=cmpL (a.drop k) (b.drop k)∧τ=⟨[(0,.pv (.lst false 1 (a.map intP))),(1,.pv (.lst false 1 (b.map intP))),(9,.pv (.lst false 1 (a.map intP))),(10,.pv (.int .i64 a.length)),(11,.pv (.int .i64 k))],[]⟩)
  ⟨a.length,⟨[(0,.pv (.lst false 1 (a.map intP))),(1,.pv (.lst false 1 (b.map intP))),(9,.pv (.lst false 1 (a.map intP))),(10,.pv (.int .i64 a.length)),(11,.pv (.int .i64 0))],[]⟩,Sub.mk (by simp) (by simp),0,Zx0 _,Zx0 _,rfl,rfl,rfl⟩ ?_
 rintro J hJ n τ ⟨k,hk,hk2,rfl,hinv,rfl⟩;rw[hinv];by_cases hlt:k<a.length
 ·obtain⟨x,hx⟩:∃x,a[k]?=some x:=⟨a[k],ZxL hlt⟩;have hgx:(a.map intP)[k]?=some (.int .i64 x):=by rw[ZxM,hx];rfl
  have hw:=wrapK (k:=k) (by omega);have hmeas:a.length-(k+1)<a.length-k:=by omega
  have hlt':decide ((k:Int)<(a.length:Int))=true:=by simp;omega
  by_cases hlt2:k<b.length
  ·obtain⟨y,hy⟩:∃y,b[k]?=some y:=⟨b[k],ZxL hlt2⟩;have hgy:(b.map intP)[k]?=some (.int .i64 y):=by rw[ZxM,hy];rfl
   have hge:¬b.length≤k:=by omega
   have hdr:=ZoF hx hy;have hcc:=cmp_c x y;have hround:=fun h:cmpI x y=0=>hJ _ _ ⟨k+1,hlt,hlt2,rfl,by rw[hinv,hdr,if_pos h],rfl⟩
   rw[hdr];generalize cmpI x y=c at *;simp[-getElem?_pos,-List.getElem?_map,-decide_eq_true_eq,-decide_eq_false_iff_not,hlt,hlt',hgx,hge,hlt2,hgy];refine cG [.int .i64 x,.int .i64 y] hcc ?_;cases hc:decide (c=0)
   ·have hc':¬c=0:=by simpa using hc
    simp[-getElem?_pos,-List.getElem?_map,hc']
   ·have hc':c=0:=by simpa using hc
    have hround:=hround hc';simp[-getElem?_pos,-List.getElem?_map,hc',hw];exact⟨_,_,hmeas,Sub.mk (by simp) (by simp),hround⟩
  ·have hkb:k=b.length:=by omega
   have hge:b.length≤k:=by omega
   have hv:cmpL (a.drop k) (b.drop k)=1:=by
    rw[hkb,List.drop_length,ZyF (by omega)];rfl
   rw[hv];simp[-getElem?_pos,-List.getElem?_map,-decide_eq_true_eq,-decide_eq_false_iff_not,hlt,hlt',hgx,hge]
 ·have he:k=a.length:=by omega
  subst he;clear hJ;rw[List.drop_length];by_cases hl:a.length<b.length
  ·have hd:decide ((a.length:Int)<(b.length:Int))=true:=by simp;omega
   have hv:cmpL [] (b.drop a.length) = -1:=by rw[ZyF hl];rfl
   rw[hv];simp[-getElem?_pos,-List.getElem?_map,-decide_eq_true_eq,-decide_eq_false_iff_not,hd,hl]
  ·have hd:decide ((a.length:Int)<(b.length:Int))=false:=by simp;omega
   have hv:cmpL [] (b.drop a.length)=0:=by rw[List.drop_eq_nil_of_le (by omega)];rfl
   rw[hv];simp[-getElem?_pos,-List.getElem?_map,-decide_eq_true_eq,-decide_eq_false_iff_not,hd,hl]
def befV (a b:List Int):Int:=if(a.length:Int)-b.length=0 then cmpL a b else(a.length:Int)-b.length
theorem ZoE:∀a b:List Int,a.length=b.length→decide (cmpL a b<0)=lexB a b
 |[],[],_=>rfl
 |[],_::_,h=>by cases h
 |_::_,[],h=>by cases h
 |a::r,b::t,h=>by
  have ih:=ZoE r t (by simpa using h);show decide ((if cmpI a b=0 then cmpL r t else cmpI a b)<0)=(decide (a<b)||(decide (a=b)&&lexB r t));unfold cmpI;by_cases h1:a<b
  ·rw[if_pos h1];simp[h1]
  ·rw[if_neg h1];by_cases h2:b<a
   ·rw[if_pos h2]
    have:¬a=b:=by omega
    simp[h1,this]
   ·have e:a=b:=by omega
    rw[if_neg h2,if_pos rfl,ih];simp[e]
theorem ZoT (a b:List Int):decide (befV a b<0)=ltC a b:=by
 unfold befV ltC;by_cases h:a.length=b.length
 ·rw[if_pos (by omega),ZoE a b h];simp[h]
 ·rw[if_neg (by omega),Zyr];simp[h];omega
theorem or_c (x y:Int):Gives Tryz.prog 126 [.lst false 1 [.int .i64 x,.int .i64 y]] (.int .i64 (if x=0 then y else x)):=by
 refine cS L126 ?_;simp[-getElem?_pos,L126];have S:Nat→AS:=fun k=>⟨[(3,.pv (.int .i64 0)),(6,.pv (.lst false 1 [.int .i64 x,.int .i64 y])),(7,.pv (.int .i64 2)),(8,.pv (.int .i64 k))],[]⟩
 refine Zaf (fun n τ=>(n=2∧τ=⟨[(3,.pv (.int .i64 0)),(6,.pv (.lst false 1 [.int .i64 x,.int .i64 y])),(7,.pv (.int .i64 2)),(8,.pv (.int .i64 0))],[]⟩)∨(n=1∧x=0∧τ=⟨[(3,.pv (.int .i64 0)),(6,.pv (.lst false 1 [.int .i64 x,.int .i64 y])),(7,.pv (.int .i64 2)),(8,.pv (.int .i64 1))],[]⟩)∨(n=0∧x=0∧y=0∧τ=⟨[(3,.pv (.int .i64 0)),(6,.pv (.lst false 1 [.int .i64 x,.int .i64 y])),(7,.pv (.int .i64 2)),(8,.pv (.int .i64 2))],[]⟩)) ⟨2,_,Sub.mk (by simp) (by simp),.inl ⟨rfl,rfl⟩⟩ ?_;have w1:IntKind.i64.wrap 1=1:=rfl;have w2:IntKind.i64.wrap 2=2:=rfl;rintro J hJ n τ (⟨rfl,rfl⟩|⟨rfl,hx,rfl⟩|⟨rfl,hx,hy,rfl⟩)
 ·by_cases h:x=0
  ·have hround:=hJ _ _ (.inr (.inl ⟨rfl,h,rfl⟩));clear hJ;subst h;simp[-getElem?_pos,w1];exact⟨_,_,(by omega:1<2),Sub.mk (by simp) (by simp),hround⟩
  ·simp[-getElem?_pos,h]
 ·subst hx;by_cases h:y=0
  ·have hround:=hJ _ _ (.inr (.inr ⟨rfl,rfl,h,rfl⟩));clear hJ;subst h;simp[-getElem?_pos,w2];exact⟨_,_,(by omega:0<1),Sub.mk (by simp) (by simp),hround⟩
  ·simp[-getElem?_pos,h]
 ·subst hx hy;simp[-getElem?_pos]
theorem Zls (a b:List Int)(ha:a.length≤2000)(hb:b.length≤2000):Gives Tryz.prog 79 [.lst false 1 (a.map intP),.lst false 1 (b.map intP)] (.int .i64 (befV a b)):=by
 have hc:=ZoA a b ha hb;have hw:IntKind.i64.wrap ((a.length:Int)-(b.length:Int))=(a.length:Int)-b.length:=wrap64 (by omega);have ho:=or_c ((a.length:Int)-b.length) (cmpL a b);refine cS L79 ?_;simp[-getElem?_pos,L79,hw];refine cG [.lst false 1 (a.map intP),.lst false 1 (b.map intP)] hc ?_;simp[-getElem?_pos];refine Zaa (k:=1) (fs:=[]) (xs:=[.lst false 1 [.int .i64 ((a.length:Int)-b.length),.int .i64 (cmpL a b)]]) (cs:=[]) rfl rfl ho rfl ?_;simp[-getElem?_pos,befV]
end
section
def Bk.chU (b:Bk)(held:List Int):Nat→Int→List (List Int)
 |0,_=>[]
 |k+1,n=>if n=(k:Int)then(if(b.item (b.get n).src).std=true then[[n]]else(held.filter fun m=>Zca (b.get n) (b.get m)).flatMap fun m=>(b.chU held k m).map (·++[n]))else b.chU held k n
theorem Ze4 {b:Bk}{held:List Int}{k:Nat}{n:Int}:b.chU held (k+1) n=if n=(k:Int)then(if(b.item (b.get n).src).std=true then[[n]]else(held.filter fun m=>Zca (b.get n) (b.get m)).flatMap fun m=>(b.chU held k m).map (·++[n]))else b.chU held k n:=rfl
theorem Zf2 {b:Bk}{held:List Int}{n:Int}:∀{k:Nat},n<(k:Int)→∀j,b.chU held (k+j) n=b.chU held k n
 |k,h,0=>rfl
 |k,h,j+1=>by
  rw[←Nat.add_assoc,Ze4,if_neg (by omega)];exact Zf2 h j
def Bk.Zvy (b:Bk)(held:List Int)(n:Int):List (List Int):=b.chU held 1000 n
theorem ZiY {b:Bk}(hb:b.ok){held:List Int}(hh:∀m∈held,m∈b.nums){n:Nat}(hn:n<1000)(hn2:(n:Int)∈b.nums):b.Zvy held n=if(b.item (b.get n).src).std=true then[[(n:Int)]]else(held.filter fun m=>Zca (b.get n) (b.get m)).flatMap fun m=>(b.Zvy held m).map (·++[(n:Int)]):=by
 have e:b.Zvy held n=b.chU held (n+1) n:=by
  unfold Bk.Zvy;rw[show 1000=n+1+(1000-(n+1)) by omega];exact Zf2 (by omega) _
 rw[e,Ze4,if_pos rfl];split
 ·rfl
 ·have key:∀L:List Int,(∀m∈L,m<(n:Int))→(L.flatMap fun m=>(b.chU held n m).map (·++[(n:Int)]))=L.flatMap fun m=>(b.Zvy held m).map (·++[(n:Int)]):=by
   intro L;induction L with
   |nil=>exact fun _=>rfl
   |cons m L ih=>
    intro h;rw[List.flatMap_cons,List.flatMap_cons,ih fun x hx=>h x (by simp[hx])];congr 2;unfold Bk.Zvy;rw[show 1000=n+(1000-n) by omega];exact(Zf2 (h m (by simp)) _).symm
  refine key _ fun m hm=>?_
  rw[ZxX]at hm;have h1:=hm.2;unfold Zca at h1;simp only[ZxO,decide_eq_true_eq]at h1;have h2:=(Zbf hb (hh m hm.1)).2;have h3:=(Zbf hb hn2).2;omega
def Bk.ZwU (b:Bk)(held:List Int)(n:Int):Option (List Int):=minC (b.Zvy held n)
theorem Zoo {b:Bk}(hb:b.ok){held:List Int}(hh:∀m∈held,m∈b.nums){n:Nat}(hn:n<1000)(hn2:(n:Int)∈b.nums):b.ZwU held n=if(b.item (b.get n).src).std=true then some [(n:Int)]else minC ((held.filter fun m=>Zca (b.get n) (b.get m)).filterMap fun m=>(b.ZwU held m).map (·++[(n:Int)])):=by
 unfold Bk.ZwU;rw[ZiY hb hh hn hn2];split
 ·rfl
 ·rw[Zgv];congr 2;funext m;exact ZpY
theorem ZcB {b:Bk}(hb:b.ok){bad:List Int}:∀m∈b.held bad,m∈b.nums:=fun m hm=>by
 obtain⟨c,hc,e,_⟩:=(Zcc hb).1 hm;exact(Zbc hb).2 ⟨c,hc,e⟩
def Bk.ZwV (b:Bk)(held:List Int)(item day:Int):Option (List Int):=minC ((held.filter fun m=>decide ((b.get m).it=item)&&(b.get m).on day).flatMap (b.Zvy held))
theorem Zq3 {b:Bk}{held:List Int}{item day:Int}:b.ZwV held item day=minC ((held.filter fun m=>decide ((b.get m).it=item)&&(b.get m).on day).filterMap (b.ZwU held)):=by
 unfold Bk.ZwV;rw[Zgv];rfl
theorem Zlo {b:Bk}{held:List Int}:∀(k:Nat) (n:Int),∀l∈b.chU held k n,∃l',l=l'++[n]
 |0,n,l,h=>by cases h
 |k+1,n,l,h=>by
  rw[Ze4]at h;split at h
  ·split at h
   ·simp at h;exact⟨[],by simpa using h⟩
   ·obtain⟨m,_,hm⟩:=List.mem_flatMap.1 h;obtain⟨l',_,rfl⟩:=ZxY.1 hm;exact⟨l',rfl⟩
  ·exact Zlo k n l h
theorem ZjZ {b:Bk}(hb:b.ok):∀n:Nat,(n:Int)∈b.held []→b.Zvy (b.held []) n≠[]:=by
 intro n;induction n using Nat.strongRecOn with
 |_ n ih=>
 intro hx;have hn2:=ZcB hb _ hx;obtain⟨h1,h2⟩:=Zbf hb hn2;obtain⟨n',hn',h3,h4⟩:=Zdn hb h1
 have:n'=n:=by omega
 subst this;rw[ZiY hb (ZcB hb) h4 hn2];split
 ·simp
 ·rename_i hs;intro e;rw[List.flatMap_eq_nil_iff]at e;obtain⟨c,hc,e1,e2⟩:=(Zcc hb).1 hx;have hcg:b.get (n':Int)=c:=by rw[←e1];exact ZcK hb hc
  unfold Bk.ZvY at e2;rw[ZxO,Zyk]at e2;rcases e2.1 with h|h
  ·rw[←hcg]at h;exact hs h
  ·rw[Zya]at h;obtain⟨o,ho,h5⟩:=h;rw[ZxO,Zx4]at h5;obtain⟨m,hm,_,_⟩:=Zdn hb ho;have hlt:o.num<c.num:=by have:=h5.1;unfold Zca at this;simp only[ZxO,decide_eq_true_eq]at this;exact this.1.2
   have hmem:o.num∈(b.held []).filter fun m=>Zca (b.get n') (b.get m):=by
    rw[ZxX,hcg,ZcK hb ho];exact⟨h5.2,h5.1⟩
   have:=e o.num hmem
   rw[List.map_eq_nil_iff,hm]at this;rw[hm]at h5;exact ih m (by omega) h5.2 this
attribute [local irreducible] Bk.held Bk.nums Bk.span Bk.Zvy
theorem Zj0 {b:Bk}{held:List Int}:∀(k:Nat) (n:Int),∀l∈b.chU held k n,l.length≤k
 |0,n,l,h=>by cases h
 |k+1,n,l,h=>by
  rw[Ze4]at h;split at h
  ·split at h
   ·simp at h;subst h;simp
   ·obtain⟨m,_,hm⟩:=List.mem_flatMap.1 h;obtain⟨l',hl',rfl⟩:=ZxY.1 hm
    have:=Zj0 k m l' hl'
    rw[ZxU];simp;exact this
  ·have:=Zj0 k n l h;omega
def Bk.Zv0 (b:Bk)(n:Int):List Int:=(b.ZwU (b.held []) n).getD []
theorem Zd5 {b:Bk}{n:Int}:(b.Zv0 n).length≤1000:=by
 unfold Bk.Zv0;cases h:b.ZwU (b.held []) n with
 |none=>simp
 |some l=>
  unfold Bk.ZwU at h
  have:=(ZbB h).1
  unfold Bk.Zvy at this;exact Zj0 1000 n l this
theorem Zbl {b:Bk}(hb:b.ok){n:Int}(h:(b.held []).contains n=true):b.ZwU (b.held []) n=some (b.Zv0 n)∧b.Zv0 n≠[]:=by
 have hx:=Zx4.1 h;have hn:=Zfp hb n (ZiG hb hx);obtain⟨nn,rfl⟩:∃nn:Nat,n=nn:=⟨n.toNat,by omega⟩;unfold Bk.Zv0;cases he:b.ZwU (b.held []) (nn:Int)with
 |none=>
  unfold Bk.ZwU at he;rw[ZbM]at he;exact absurd he (ZjZ hb nn hx)
 |some l=>
  refine⟨rfl,fun e=>?_⟩;unfold Bk.ZwU at he
  have:=(ZbB he).1
  unfold Bk.Zvy at this;obtain⟨l',hl'⟩:=Zlo 1000 _ l this;have e':l=[]:=e;rw[e']at hl';simp at hl'
structure EMap (b:Bk)(below:Int)(em:List (PV×PV)):Prop where
 k:Zbi kI em=true
 f:∀m:Int,m<below→(findV (.int .i64 m) em).getD (.emp (some true))=if(b.held []).contains m=true then .lst false 1 ((b.Zv0 m).map intP)else .emp (some true)
attribute [local simp] AS.exp expG Box.ren AV.map AV.Zu9 Zau noRet Site.Zu6 Box.Zu3 AV.Zu3 AV.Zu4 retB dropL AS.Zvd renL outG outOk Zas inG fnOf lookA Zyc
attribute [local simp] Box.Zu0 Site.Zu1
attribute [local simp] Zax Zav Zal Zaw ZaQ
theorem Zj5 (H:Int→Bool)(hs:List (PV×PV))(hH:HMap H hs)(c:Ct):Zai Tryz.prog 77 [.pv c.pv,.ptr (.par 0) 0] (laid 0 (hdB hs 0)) (fun r B=>r=.pv (.bool (H c.num))∧B=laid 0 (hdB hs 0)):=by
 have hf:=hH.f c.num;have hk:=hH.k;refine cB [.par 0,.par 1] L77 ?_;simp[-getElem?_pos,L77,hdB,laid,Ct.pv,hf,hk]
theorem ZqK:Gives Tryz.prog 29 [.emp (some true)] (.emp (some true)):=by
 refine cS L29 ?_;simp[-getElem?_pos,L29,nilOf]
end
section
attribute [local irreducible] Bk.held Bk.nums Bk.span Bk.Zv0
theorem cok38:COk Tryz.prog (tyOf tys) L36.code:=ZfE L36_ok L36_tab
def bestP:Option (List Int)→PV
 |none=>.emp (some true)
 |some l=>.lst false 1 (l.map intP)
noncomputable def beX (b:Bk)(es hs em:List (PV×PV))(n:Int)(s:Option (List Int)):List Box:=[.loop (rcode Tryz.prog 36 0) [72] 136 [(11,.ptr (.par 2) 0),(12,.ptr (.par 5) 0),(14,.ptr (.par 7) 0),(16,.ptr (.par 1) 0)] none,
 .cells [.pv (bestP s)],.cells [.fn 77 [] [.ptr (.par 3) 0]],.cells [.mp (.par 4)],.map hs,.cells [.mp (.par 6)],.map em,.cells [.pv (.int .i64 n)],capB (.par 9),.cells (wkC b (.par 10) (badZ [])),.map es]
def Zi6 (b:Bk)(n:Int)(s:Option (List Int))(c:Ct):Option (List Int):=match(b.held []).contains c.num with
 |true=>stepC s (b.Zv0 c.num++[n])
 |false=>s
def ZrT (s:Option (List Int)):Prop:=∀l,s=some l→l≠[]∧l.length≤1001
attribute [local simp] AS.exp expG Box.ren AV.map AV.Zu9 Zau noRet Site.Zu6 Box.Zu3 AV.Zu3 AV.Zu4 retB dropL AS.Zvd renL outG outOk Zas inG fnOf lookA Zyc
attribute [local simp] Box.Zu0 Site.Zu1
attribute [local simp] Zax Zav Zal Zaw ZaQ
noncomputable def beY (b:Bk)(es hs em:List (PV×PV))(n:Int)(s:Option (List Int))(y:Ct)(a:AV)(B:List (Site×Box)):AS:=⟨[(11,.ptr (.par 2) 0),(12,.ptr (.par 5) 0),(14,.ptr (.par 7) 0),(16,.ptr (.par 1) 0),(17,.ptr (.loc 17 0) 0),(77,a),(79,.vec (.loc 79 0) 1 0 1)],
 (laid 0 (beX b es hs em n s)).drop 1++((.loc 17 0,.cells [.pv (.int .i64 y.num),.pv (.int .i64 y.it),.pv (.int .i64 y.src),.pv (.int .i64 y.day),.pv (.int .i64 y.valid),.pv (.int .i64 y.diff.lo),.pv (.int .i64 y.diff.hi)])::(.loc 79 0,.arr 3 1 [.int .i64 n])::B)⟩
section
noncomputable def beC (b:Bk)(hb:b.ok)(es hs em:List (PV×PV))(hH:HMap (fun n=>(b.held []).contains n) hs)(n:Int)(hE:EMap b n em):Cons Tryz.prog where
 m:=11
 S:=Option (List Int)
 X:=beX b es hs em n
 step s x:=(Zi6 b n s (ctOf x),true)
 good x:=∃c:Ct,c.num<n∧x=c.pv
 live:=ZrT
 m0:=by omega
 len _:=rfl
 cl c:=by
  intro bx hb;simp only[beX,Zx2,List.not_mem_nil,or_false]at hb;rcases hb with rfl|rfl|rfl|rfl|rfl|rfl|rfl|rfl|rfl|rfl|rfl
  all_goals first|rfl|simp[wkC,Site.lt,Zav]
 goes s x hs hx _:=by
  obtain⟨y,hy,rfl⟩:=hx;rw[Zf1];have hl:=Zd5 (b:=b) (n:=y.num);intro l hl';unfold Zi6 at hl';split at hl'
  ·unfold stepC at hl';split at hl'
   ·cases hl';exact⟨by simp,by rw[ZxU];simp;omega⟩
   ·split at hl'
    ·cases hl';exact⟨by simp,by rw[ZxU];simp;omega⟩
    ·exact hs l hl'
  ·exact hs l hl'
 yields s x hc hx:=by
  obtain⟨y,hy,rfl⟩:=hx;rw[Zf1];have hcok:COk Tryz.prog (tyOf tys) (.rng 136 (.t 71) (rcode Tryz.prog 36 0) Y36_0a Y36_0b [72]):=cok38.2.2.2.2.2.1.2.2.2.1.2.2.2.2.1.2;have hf:=hE.f y.num hy;have hk:=hE.k;have hcall:=Zj5 _ hs hH y;have hlen:=Zd5 (b:=b) (n:=y.num);have hnn:=fun h:(b.held []).contains y.num=true=>(Zbl hb h).2
  have hstep:Zi6 b n s y=match(b.held []).contains y.num with
   |true=>stepC s (b.Zv0 y.num++[n])
   |false=>s:=rfl
  rw[hstep];clear hstep;generalize b.Zv0 y.num=E at *;generalize hcv:(b.held []).contains y.num=v at *;refine ZaX mixed hcok.1 hcok.2.1 rfl rfl (by simp) rfl ?_;cases v
  ·rw[if_neg (by simp)]at hf;simp[-getElem?_pos,-List.getElem?_map,Y36_0a,Y36_0b,beX,laid,putL,Ct.pv,capB,wkC,hk,hf];refine Zdt (beY b es hs em n s y (.pv (.emp (some true))) []) ?_ ?_
   ·simp[-getElem?_pos,-List.getElem?_map,Zak,Zaq];refine⟨?_,?_⟩
    all_goals
     refine cQ [] [.emp (some true)] ZqK ?_;simp[-getElem?_pos,-List.getElem?_map,frzsL,Zak,Zaq];refine Sub.mk ?_ ?_
     ·simp[beY]
     ·simp[beY,beX,laid,capB,wkC]
   ·simp[-getElem?_pos,-List.getElem?_map,Zak,Zaq,beY,beX,laid,capB,wkC,nble,nblt];refine cM [.pv y.pv,.ptr (.par 0) 0] (laid 0 (hdB hs 0)) 83 [.par 3,.par 4] (by simp[laid,hdB]) hcall (by simp[laid,hdB]) ?_;simp[-getElem?_pos,-List.getElem?_map,laid,hdB,-retB];exact⟨[],[.par 1,.par 2,.par 3,.par 4,.par 5,.par 6,.par 7,.par 8,.par 9,.par 10],rfl,rfl,by simp[frzL],rfl,by simp[frzL,wkC]⟩
  ·rw[if_pos rfl]at hf;simp[-getElem?_pos,-List.getElem?_map,Y36_0a,Y36_0b,beX,laid,putL,Ct.pv,capB,wkC,hk,hf];refine Zdt (beY b es hs em n s y (.vec (.loc 77 0) 1 0 E.length) [(.loc 77 0,.arr 3 1 (E.map intP))]) ?_ ?_
   ·simp[-getElem?_pos,-List.getElem?_map,Zak,Zaq];refine⟨?_,?_⟩
    all_goals
     refine ZqR [] (fs:=[]) (xs:=[.lst false 1 (E.map intP)]) (cs:=[]) rfl rfl (ZjU E (hnn rfl) (by omega)) ?_;simp[-getElem?_pos,-List.getElem?_map,frzsL,Zak,Zaq];refine Sub.mk ?_ ?_
     ·simp[beY]
     ·simp[beY,beX,laid,capB,wkC]
   ·have hE6:E.length≤999999:=by omega
    have hE7:(E.map intP).take E.length=E.map intP:=ZxW (by simp);have hE8:(E.map intP++[PV.int .i64 n]).take (E.length+1)=E.map intP++[PV.int .i64 n]:=ZxW (by simp);simp[-getElem?_pos,-List.getElem?_map,Zak,Zaq,beY,beX,laid,capB,wkC,nble,nblt,hE6,hE7];refine cM [.pv y.pv,.ptr (.par 0) 0] (laid 0 (hdB hs 0)) 83 [.par 3,.par 4] (by simp[laid,hdB]) hcall (by simp[laid,hdB]) ?_;cases s with
    |none=>
     simp[-getElem?_pos,-List.getElem?_map,laid,hdB,bestP,nilOf,-retB];exact⟨[.loc 80 0],[.par 1,.par 2,.par 3,.par 4,.par 5,.par 6,.par 7,.par 8,.par 9,.par 10],rfl,rfl,by simp[frzL,AS.frz,AV.frz,AV.frzL,Box.frz,AS.tidy,AS.ZvF,fnA,unpvs,hE8],rfl,by simp[frzL,AS.frz,AV.frz,AV.frzL,Box.frz,AS.tidy,AS.ZvF,fnA,unpvs,hE8,wkC,stepC,intP]⟩
    |some l=>
     obtain⟨hl0,hl1⟩:=hc l rfl;have hnil:nilOf .sl (.pv (.lst false 1 (l.map intP)))=some false:=by
      cases l with
      |nil=>exact absurd rfl hl0
      |cons a r=>rfl
     have hbf:=Zls (E++[n]) l (by rw[ZxU];simp;omega) (by omega);have hlt:=ZoT (E++[n]) l;have hst:stepC (some l) (E++[n])=if ltC (E++[n]) l=true then some (E++[n])else some l:=rfl;rw[hst];simp[-getElem?_pos,-List.getElem?_map,laid,hdB,bestP,hnil,-retB];refine Zaa (k:=0) (fs:=[]) (xs:=[.lst false 1 ((E++[n]).map intP),.lst false 1 (l.map intP)]) (cs:=[]) rfl (by simp[snapW,AV.snap,AV.Zwg,intP,hE7];try exact hE8) hbf rfl ?_;cases hd:ltC (E++[n]) l
     ·rw[hd]at hlt;simp[-getElem?_pos,-List.getElem?_map,-decide_eq_true_eq,-decide_eq_false_iff_not,hlt,-retB];exact⟨[],[.par 1,.par 2,.par 3,.par 4,.par 5,.par 6,.par 7,.par 8,.par 9,.par 10],rfl,rfl,by simp[frzL],rfl,by simp[frzL,wkC,intP]⟩
     ·rw[hd]at hlt;simp[-getElem?_pos,-List.getElem?_map,-decide_eq_true_eq,-decide_eq_false_iff_not,hlt,-retB];exact⟨[.loc 80 0],[.par 1,.par 2,.par 3,.par 4,.par 5,.par 6,.par 7,.par 8,.par 9,.par 10],rfl,rfl,by simp[frzL,AS.frz,AV.frz,AV.frzL,Box.frz,AS.tidy,AS.ZvF,fnA,unpvs,hE8],rfl,by simp[frzL,AS.frz,AV.frz,AV.frzL,Box.frz,AS.tidy,AS.ZvF,fnA,unpvs,hE8,wkC,intP]⟩
end
end
section
attribute [local irreducible] Bk.held Bk.nums Bk.span Bk.Zv0
noncomputable def bfX (b:Bk)(es hs em:List (PV×PV))(s:Option (List Int)):List Box:=[.loop (rcode Tryz.prog 36 1) [115] 136 [(11,.ptr (.par 2) 0),(12,.ptr (.par 5) 0),(19,.ptr (.par 1) 0)] none,
 .cells [.pv (bestP s)],.cells [.fn 77 [] [.ptr (.par 3) 0]],.cells [.mp (.par 4)],.map hs,.cells [.mp (.par 6)],.map em,capB (.par 8),.cells (wkC b (.par 9) (badZ [])),.map es]
def Zi5 (b:Bk)(s:Option (List Int))(c:Ct):Option (List Int):=match(b.held []).contains c.num with
 |true=>stepC s (b.Zv0 c.num)
 |false=>s
attribute [local simp] AS.exp expG Box.ren AV.map AV.Zu9 Zau noRet Site.Zu6 Box.Zu3 AV.Zu3 AV.Zu4 retB dropL AS.Zvd renL outG outOk Zas inG fnOf lookA Zyc
attribute [local simp] Box.Zu0 Site.Zu1
attribute [local simp] Zax Zav Zal Zaw ZaQ
section
noncomputable def bfC (b:Bk)(hb:b.ok)(es hs em:List (PV×PV))(hH:HMap (fun n=>(b.held []).contains n) hs)(hE:EMap b 1000 em):Cons Tryz.prog where
 m:=10
 S:=Option (List Int)
 X:=bfX b es hs em
 step s x:=(Zi5 b s (ctOf x),true)
 good x:=∃c:Ct,c.num<1000∧x=c.pv
 live:=ZrT
 m0:=by omega
 len _:=rfl
 cl c:=by
  intro bx hb;simp only[bfX,Zx2,List.not_mem_nil,or_false]at hb;rcases hb with rfl|rfl|rfl|rfl|rfl|rfl|rfl|rfl|rfl|rfl
  all_goals first|rfl|simp[wkC,Site.lt,Zav]
 goes s x hs hx _:=by
  obtain⟨y,hy,rfl⟩:=hx;rw[Zf1];have hl:=Zd5 (b:=b) (n:=y.num);intro l hl';unfold Zi5 at hl';split at hl'
  ·rename_i hh;have hne:=(Zbl hb hh).2;unfold stepC at hl';split at hl'
   ·cases hl';exact⟨hne,by omega⟩
   ·split at hl'
    ·cases hl';exact⟨hne,by omega⟩
    ·exact hs l hl'
  ·exact hs l hl'
 yields s x hc hx:=by
  obtain⟨y,hy,rfl⟩:=hx;rw[Zf1];have hcok:COk Tryz.prog (tyOf tys) (.rng 136 (.t 114) (rcode Tryz.prog 36 1) Y36_1a Y36_1b [115]):=cok38.2.2.2.2.2.2.2.1.2;have hf:=hE.f y.num hy;have hk:=hE.k;have hcall:=Zj5 _ hs hH y;have hlen:=Zd5 (b:=b) (n:=y.num);have hnn:=fun h:(b.held []).contains y.num=true=>(Zbl hb h).2
  have hstep:Zi5 b s y=match(b.held []).contains y.num with
   |true=>stepC s (b.Zv0 y.num)
   |false=>s:=rfl
  rw[hstep];clear hstep;generalize b.Zv0 y.num=E at *;generalize hcv:(b.held []).contains y.num=v at *;refine ZaX mixed hcok.1 hcok.2.1 rfl rfl (by simp) rfl ?_;cases v
  ·rw[if_neg (by simp)]at hf;simp[-getElem?_pos,-List.getElem?_map,Y36_1a,Y36_1b,bfX,laid,putL,Ct.pv,capB,wkC,hk,hf];refine cM [.pv y.pv,.ptr (.par 0) 0] (laid 0 (hdB hs 0)) 122 [.par 3,.par 4] (by simp[laid,hdB]) hcall (by simp[laid,hdB]) ?_;simp[-getElem?_pos,-List.getElem?_map,laid,hdB,-retB];exact⟨[],[.par 1,.par 2,.par 3,.par 4,.par 5,.par 6,.par 7,.par 8,.par 9],rfl,rfl,by simp[frzL],rfl,by simp[frzL,wkC]⟩
  ·rw[if_pos rfl]at hf;simp[-getElem?_pos,-List.getElem?_map,Y36_1a,Y36_1b,bfX,laid,putL,Ct.pv,capB,wkC,hk,hf];refine cM [.pv y.pv,.ptr (.par 0) 0] (laid 0 (hdB hs 0)) 122 [.par 3,.par 4] (by simp[laid,hdB]) hcall (by simp[laid,hdB]) ?_;cases s with
   |none=>
    simp[-getElem?_pos,-List.getElem?_map,laid,hdB,bestP,nilOf,-retB];exact⟨[],[.par 1,.par 2,.par 3,.par 4,.par 5,.par 6,.par 7,.par 8,.par 9],rfl,rfl,by simp[frzL],rfl,by simp[frzL,wkC,stepC,intP]⟩
   |some l=>
    obtain⟨hl0,hl1⟩:=hc l rfl;have hnil:nilOf .sl (.pv (.lst false 1 (l.map intP)))=some false:=by
     cases l with
     |nil=>exact absurd rfl hl0
     |cons a r=>rfl
    have hbf:=Zls E l (by omega) (by omega);have hlt:=ZoT E l;have hst:stepC (some l) E=if ltC E l=true then some E else some l:=rfl;rw[hst];simp[-getElem?_pos,-List.getElem?_map,laid,hdB,bestP,hnil,-retB];refine cG [.lst false 1 (E.map intP),.lst false 1 (l.map intP)] hbf ?_;cases hd:ltC E l
    ·rw[hd]at hlt;simp[-getElem?_pos,-List.getElem?_map,-decide_eq_true_eq,-decide_eq_false_iff_not,hlt,-retB];exact⟨[],[.par 1,.par 2,.par 3,.par 4,.par 5,.par 6,.par 7,.par 8,.par 9],rfl,rfl,by simp[frzL],rfl,by simp[frzL,wkC,intP]⟩
    ·rw[hd]at hlt;simp[-getElem?_pos,-List.getElem?_map,-decide_eq_true_eq,-decide_eq_false_iff_not,hlt,-retB];exact⟨[],[.par 1,.par 2,.par 3,.par 4,.par 5,.par 6,.par 7,.par 8,.par 9],rfl,rfl,by simp[frzL],rfl,by simp[frzL,wkC,intP]⟩
end
theorem ZoU {b:Bk}{hb:b.ok}{es hs em:List (PV×PV)}{hH:HMap (fun n=>(b.held []).contains n) hs}{n:Int}{hE:EMap b n em}:∀(l:List Ct) (s:Option (List Int)),(beC b hb es hs em hH n hE).run s (ctsV l)=((((l.filter fun c=>(b.held []).contains c.num).map fun c=>b.Zv0 c.num++[n])).foldl stepC s,true)
 |[],s=>rfl
 |x::l,s=>by
  show(beC b hb es hs em hH n hE).run (Zi6 b n s x) (ctsV l)=_;rw[ZoU l];unfold Zi6;cases h:(b.held []).contains x.num
  ·simp only[Zyt,h,Bool.false_eq_true,if_false];rfl
  ·simp only[Zyt,h,if_true,ZxZ,List.foldl_cons];rfl
theorem ZoS {b:Bk}{hb:b.ok}{es hs em:List (PV×PV)}{hH:HMap (fun n=>(b.held []).contains n) hs}{hE:EMap b 1000 em}:∀(l:List Ct) (s:Option (List Int)),(bfC b hb es hs em hH hE).run s (ctsV l)=((((l.filter fun c=>(b.held []).contains c.num).map fun c=>b.Zv0 c.num)).foldl stepC s,true)
 |[],s=>rfl
 |x::l,s=>by
  show(bfC b hb es hs em hH hE).run (Zi5 b s x) (ctsV l)=_;rw[ZoS l];unfold Zi5;cases h:(b.held []).contains x.num
  ·simp only[Zyt,h,Bool.false_eq_true,if_false];rfl
  ·simp only[Zyt,h,if_true,ZxZ,List.foldl_cons];rfl
end
section
attribute [local irreducible] Bk.held Bk.nums Bk.span Bk.Zv0
def endP (b:Bk)(n:Int):PV:=.lst false 1 ((b.Zv0 n).map intP)
def eEnt (b:Bk)(k:Nat):List (PV×PV):=mapI id (endP b) ((b.nums.take k).filter fun n=>(b.held []).contains n)
theorem Zqz {b:Bk}(hb:b.ok){k:Nat}{n:Int}(h:b.nums[k]?=some n):EMap b n (eEnt b k):=by
 refine⟨ZbD,fun m hm=>?_⟩;unfold eEnt;rw[Zbk,ZfX];cases hc:(b.held []).contains m
 ·rw[if_neg (by rw[ZxX,hc];simp),if_neg (by simp)];rfl
 ·rw[if_pos (by
   rw[ZxX,ZeP h];exact⟨⟨ZiG hb (Zx4.1 hc),hm⟩,hc⟩),if_pos rfl];rfl
theorem Zos {b:Bk}(hb:b.ok):EMap b 1000 (eEnt b b.nums.length):=by
 refine⟨ZbD,fun m hm=>?_⟩;unfold eEnt;rw[Zbk,ZfX,Zye];cases hc:(b.held []).contains m
 ·rw[if_neg (by rw[ZxX,hc];simp),if_neg (by simp)];rfl
 ·rw[if_pos (by
   rw[ZxX];exact⟨ZiG hb (Zx4.1 hc),hc⟩),if_pos rfl];rfl
theorem Zor {b:Bk}{k:Nat}{n:Int}(h:b.nums[k]?=some n)(hx:(b.held []).contains n=false):eEnt b (k+1)=eEnt b k:=by
 unfold eEnt;rw[Zx6,h,Zyw]
 have:(Option.some n).toList.filter (fun n=>(b.held []).contains n)=[]:=by
  simp only[Option.toList,Zyt,hx,List.filter_nil];rfl
 rw[this,Zx9]
theorem Zqy {b:Bk}{k:Nat}{n:Int}(h:b.nums[k]?=some n)(hx:(b.held []).contains n=true):putK (.int .i64 n) (endP b n) (eEnt b k)=eEnt b (k+1):=by
 unfold eEnt;rw[ZdL (fun x hm=>?_),Zx6,h,Zyw]
 ·have:(Option.some n).toList.filter (fun n=>(b.held []).contains n)=[n]:=by
   simp only[Option.toList,Zyt,hx,List.filter_nil];rfl
  rw[this];unfold mapI;rw[Zyb];rfl
 ·have:=(ZeP h).1 (ZxX.1 hm).1
  show x≠n;omega
def endM (b:Bk)(n:Int):Option (List Int):=(((b.ofL (b.get n).src (b.get n).day n).filter fun c=>(b.held []).contains c.num).map fun c=>b.Zv0 c.num++[n]).foldl stepC none
theorem Ztq {b:Bk}(hb:b.ok){n:Int}(hn:n∈b.nums)(hx:(b.held []).contains n=true)(hs:(b.item (b.get n).src).std=false):endM b n=some (b.Zv0 n):=by
 rw[←(Zbl hb hx).1];have hbn:=Zfp hb n hn;obtain⟨nn,rfl⟩:∃nn:Nat,n=nn:=⟨n.toNat,by omega⟩;rw[Zoo hb (ZcB hb) (by omega) hn,if_neg (by simp[hs])];obtain⟨hcm,hcn⟩:=Zbf hb hn;refine Zio fun x=>?_
 rw[ZxY,List.mem_filterMap];constructor
 ·rintro⟨c,hc,rfl⟩;rw[ZxX]at hc;obtain⟨h1,h2⟩:=(ZbG hb).1 hc.1;refine⟨c.num,?_,?_⟩
  ·rw[ZxX];refine⟨Zx4.1 hc.2,?_⟩;rw[ZcK hb h1,ZeS,hcn];exact h2
  ·rw[(Zbl hb hc.2).1];rfl
 ·rintro⟨m,hm,hx'⟩;rw[ZxX]at hm;obtain⟨hm1,hm2⟩:=hm;have hmn:=ZcB hb m hm1;obtain⟨g1,g2⟩:=Zbf hb hmn;have hmc:(b.held []).contains m=true:=Zx4.2 hm1;rw[(Zbl hb hmc).1]at hx';refine⟨b.get m,?_,?_⟩
  ·rw[ZxX,ZbG hb,g2];refine⟨⟨g1,?_⟩,hmc⟩;rw[ZeS,hcn]at hm2;exact hm2
  ·rw[g2];simpa using hx'
theorem Zqv {b:Bk}(hb:b.ok){n:Int}(hn:n∈b.nums)(hs:(b.item (b.get n).src).std=true):b.Zv0 n=[n]:=by
 have hbn:=Zfp hb n hn;obtain⟨nn,rfl⟩:∃nn:Nat,n=nn:=⟨n.toNat,by omega⟩;unfold Bk.Zv0;rw[Zoo hb (ZcB hb) (by omega) hn,if_pos hs];rfl
def Bk.Zv8 (b:Bk)(item day:Int):List Int:=(b.ZwV (b.held []) item day).getD []
def Bk.Zvq (b:Bk)(item day:Int):List Int×Int:=if b.Zv1 item day=0 then(if(b.item item).std=true then([],0)else(b.Zv8 item day,0))else([],b.Zv1 item day)
def bestF (b:Bk)(item day:Int):Option (List Int):=(((b.ofL item day 1000).filter fun c=>(b.held []).contains c.num).map fun c=>b.Zv0 c.num).foldl stepC none
theorem Zq2 {b:Bk}(hb:b.ok){item day:Int}:bestF b item day=b.ZwV (b.held []) item day:=by
 rw[Zq3];refine Zio fun x=>?_
 rw[ZxY,List.mem_filterMap];constructor
 ·rintro⟨c,hc,rfl⟩;rw[ZxX]at hc;obtain⟨h1,h2⟩:=(ZbG hb).1 hc.1;refine⟨c.num,?_,(Zbl hb hc.2).1⟩;rw[ZxX];refine⟨Zx4.1 hc.2,?_⟩;rw[ZcK hb h1];unfold Bk.ofB at h2;rw[ZxO]at h2;exact h2.2
 ·rintro⟨m,hm,hx'⟩;rw[ZxX]at hm;obtain⟨hm1,hm2⟩:=hm;have hmn:=ZcB hb m hm1;have hbn:=Zfp hb m hmn;obtain⟨g1,g2⟩:=Zbf hb hmn;have hmc:(b.held []).contains m=true:=Zx4.2 hm1;rw[(Zbl hb hmc).1]at hx';refine⟨b.get m,?_,?_⟩
  ·rw[ZxX,ZbG hb,g2];refine⟨⟨g1,?_⟩,hmc⟩;unfold Bk.ofB;rw[ZxO];exact⟨by rw[g2];simp;omega,hm2⟩
  ·rw[g2];simpa using hx'
theorem Zmh {b:Bk}(hb:b.ok){item day:Int}(hs:(b.item item).std=false)(hh:b.Zva item day=true):bestF b item day=some (b.Zv8 item day)∧b.Zv8 item day≠[]∧(b.Zv8 item day).length≤1000:=by
 have he:bestF b item day=b.ZwV (b.held []) item day:=Zq2 hb;unfold Bk.Zva at hh;rw[hs,Bool.false_or,Zya]at hh;obtain⟨c,hc1,hc2⟩:=hh;have hne:(((b.ofL item day 1000).filter fun c=>(b.held []).contains c.num).map fun c=>b.Zv0 c.num)≠[]:=by
  intro e
  have:c∈(b.ofL item day 1000).filter fun c=>(b.held []).contains c.num:=ZxX.2 ⟨hc1,hc2⟩
  rw[List.map_eq_nil_iff]at e;rw[e]at this;cases this
 unfold Bk.Zv8;rw[←he];cases hb2:bestF b item day with
 |none=>
  exact absurd (ZbM.1 hb2) hne
 |some l=>
  refine⟨rfl,?_⟩;have hm:=(ZbB hb2).1;rw[ZxY]at hm;obtain⟨o,ho,rfl⟩:=hm;exact⟨(Zbl hb (ZxX.1 ho).2).2,Zd5⟩
end
section
attribute [local simp] Box.Zu0 Site.Zu1
theorem Ztd {b:Bk}{i:Int}(h0:0≤i)(h1:i<b.items.length):∃j:Nat,i=j∧j<b.items.length∧∃z,b.items[j]?=some z∧b.item i=z∧(b.items.map It.pv)[j]?=some (.agg [.int .i64 z.drift,.bool z.std,.int .i64 z.val.lo,.int .i64 z.val.hi]):=by
 have hz:b.items[i.toNat]?=some (b.items[i.toNat]'(by omega)):=ZxL _;refine⟨i.toNat,by omega,by omega,_,hz,?_,?_⟩
 ·unfold Bk.item;rw[hz];rfl
 ·rw[ZxM,hz];rfl
section
attribute [local simp] retFz frzL AS.frz AV.frz AV.frzL Box.frz AS.tidy AS.ZvF
end
end
section
attribute [local irreducible] Bk.held Bk.nums Bk.span Bk.Zv0 Bk.Zv8 endM bestF
attribute [local simp] AS.exp expG Box.ren AV.map AV.Zu9 Zau noRet Site.Zu6 Box.Zu3 AV.Zu3 AV.Zu4 retB dropL AS.Zvd renL outG outOk Zas inG fnOf lookA Zyc
attribute [local simp] Box.Zu0 Site.Zu1
attribute [local simp] Zax Zav Zal Zaw ZaQ
attribute [local simp] retFz frzL AS.frz AV.frz AV.frzL Box.frz AS.tidy AS.ZvF
def beK (b:Bk)(item day:Int)(es hs:List (PV×PV))(k:Nat):AS:=⟨[(1,.pv (.int .i64 item)),(2,.pv (.int .i64 day)),(8,.ptr (.loc 26 0) 0),(11,.ptr (.loc 11 0) 0),(12,.ptr (.loc 12 0) 0),(49,.pv (.lst false 1 (b.nums.map intP))),(50,.pv (.int .i64 b.nums.length)),(51,.pv (.int .i64 k))],
 [(.loc 45 0,.map (eEnt b k)),(.loc 12 0,.cells [.mp (.loc 45 0)]),(.loc 11 0,.cells [.fn 77 [] [.ptr (.loc 9 0) 0]]),(.loc 9 0,.cells [.mp (.loc 26 2)]),(.loc 26 0,.cells (wkC b (.loc 26 1) (badZ []))),(.loc 26 1,.map es),(.loc 26 2,.map hs)]⟩
theorem ZrY (b:Bk)(hi:b.items.length≤1000)(hc:b.certs.length≤1000)(item day:Int):Zai Tryz.prog 36 ([b.pv,.int .i64 item,.int .i64 day].map .pv) [] (fun r B=>r=.pv (lstE (b.Zvq item day))∧B=[]):=by
 have hask:=Zo4 b hi hc item day;refine Zai.ZvA ?_;refine cFR [.loc 135 0] L36 ?_;intro R hR;simp[-getElem?_pos,L36,Bk.pv,-retB];refine cL [.pv b.pv,.pv (.int .i64 item),.pv (.int .i64 day)] [] 26 [] rfl hask ?_
 rintro r0 B0 (⟨h0,rfl,rfl⟩|⟨h0,hf0,hit,hdy,hih,es,hes,rfl,rfl⟩)
 ·refine⟨rfl,by simp,?_⟩;have hd:decide (b.Zv1 item day=0)=false:=by simpa using h0
  simp[-getElem?_pos,-decide_eq_true_eq,-decide_eq_false_iff_not,hd];rw[←hR];exact⟨_,rfl,rfl,Zes (by unfold Bk.Zvq;rw[if_neg h0])⟩
 have hb:b.ok:=Bk.Zvx.1 hf0;have hH:=Zb5 hb [];have hlen:=Zdd (b:=b);obtain⟨si,rfl,hsi,z,hz,hbz,hgz⟩:=Ztd (b:=b) (i:=item) (by unfold Bk.Zvb inB at hit;simp only[ZxO,decide_eq_true_eq]at hit;omega) (by unfold Bk.Zvb inB at hit;simp only[ZxO,decide_eq_true_eq]at hit;omega);refine⟨rfl,by simp[wkC],?_⟩;generalize hEnt b [] b.nums.length=hs at *;cases hstd:z.std
 case true=>
  rw[hstd]at hgz;simp[-getElem?_pos,-List.getElem?_map,wkC,itsP,hgz,hsi];rw[←hR];exact⟨_,rfl,rfl,Zes (by unfold Bk.Zvq;rw[if_pos h0,if_pos (by rw[hbz];exact hstd)])⟩
 case false=>
 rw[hstd]at hgz;simp[-getElem?_pos,-List.getElem?_map,wkC,itsP,hgz,hsi,-retB];refine Zaf (fun n τ=>∃k:Nat,k≤b.nums.length∧n=b.nums.length-k∧τ=beK b si day es hs k) ⟨b.nums.length,beK b si day es hs 0,Sub.mk (by simp[beK]) (by simp[beK,wkC,itsP,eEnt,mapI]),0,Zx0 _,rfl,rfl⟩ ?_;rintro J hJ n τ ⟨k,hk,rfl,rfl⟩;by_cases hlt:k<b.nums.length
 ·obtain⟨x,hx⟩:∃x,b.nums[k]?=some x:=⟨b.nums[k],ZxL hlt⟩;have hxm:=ZxQ hx;have hgx:(b.nums.map intP)[k]?=some (.int .i64 x):=by rw[ZxM,hx];rfl
  have hw:=wrapK (k:=k) (by omega);have hmeas:b.nums.length-(k+1)<b.nums.length-k:=by omega
  obtain⟨hcm,hcn⟩:=Zbf hb hxm;have hfx:=hes.f x;rw[if_pos hxm]at hfx;have hko:=hes.k;have hbd:=Za1 hb hcm;have hround:=hJ _ _ ⟨k+1,hlt,rfl,rfl⟩;have hput:=Zqy hx;have hskip:=Zor hx;have hEM:=Zqz hb hx;have hek:=hEM.k;have hst0:=Zqv hb hxm;have hst1:=Ztq hb hxm;have hbest:=Zj5 _ hs hH (b.get x);have hit:=Ziv (beC b hb es hs (eEnt b k) hH x hEM) b hb [] es hes 8 9 10 (fun c _=>⟨rfl,rfl⟩) (fun c _=>rfl) (b.get x).src (b.get x).day x none (fun l h=>by cases h) (fun c hc=>⟨c,by
   have:=((ZbG hb).1 hc).2
   unfold Bk.ofB at this;simp only[ZxO,decide_eq_true_eq]at this;exact this.1,rfl⟩)
  have hrun:(beC b hb es hs (eEnt b k) hH x hEM).run none (ctsV (b.ofL (b.get x).src (b.get x).day x))=(endM b x,true):=by rw[ZoU];unfold endM;rfl
  rw[hrun]at hit;clear hJ hrun;unfold beK at hround ⊢;have hcl:=fun s=>(beC b hb es hs (eEnt b k) hH x hEM).cl s
  generalize eEnt b k=em at *;generalize b.get x=y at *;obtain⟨yn,yi,ys,yd,yv,⟨yl,yh⟩⟩:=y;simp only at hcn hbd hit hst0 hst1 hbest;subst hcn;unfold Ct.pv at hfx;obtain⟨sj,rfl⟩:∃sj:Nat,ys=sj:=⟨ys.toNat,by omega⟩;obtain⟨nn,rfl⟩:∃nn:Nat,yn=nn:=⟨yn.toNat,by omega⟩;have hsj:sj<b.items.length:=by omega
  obtain⟨u,hu⟩:∃u,b.items[sj]?=some u:=⟨b.items[sj],ZxL hsj⟩;have hgu:(b.items.map It.pv)[sj]?=some (.agg [.int .i64 u.drift,.bool u.std,.int .i64 u.val.lo,.int .i64 u.val.hi]):=by rw[ZxM,hu];rfl
  have hui:b.item (sj:Int)=u:=by unfold Bk.item;rw[Int.toNat_natCast,hu];rfl
  rw[hui]at hst0 hst1;simp[-getElem?_pos,-List.getElem?_map,beK,wkC,hlt,hgx,hko,hfx,-retB];refine cM [.pv (Ct.pv ⟨nn,yi,sj,yd,yv,⟨yl,yh⟩⟩),.ptr (.par 0) 0] (laid 0 (hdB hs 0)) 63 [.loc 9 0,.loc 26 2] (by simp[laid,hdB]) hbest (by simp[laid,hdB]) ?_;generalize hcv:(b.held []).contains (nn:Int)=v at *;cases v
  ·rw[hskip rfl]at hround;simp[-getElem?_pos,-List.getElem?_map,laid,hdB,hw,-retB];exact⟨_,_,hmeas,Sub.mk (by simp[beK]) (by simp[beK,wkC]),hround⟩
  have hst1:=hst1 rfl;rw[←hput rfl]at hround;simp[-getElem?_pos,-List.getElem?_map,laid,hdB,-retB];refine cM [.ptr (.par 0) 0,.pv (.int .i64 sj),.pv (.int .i64 yd),.pv (.int .i64 nn)] (laid 0 (wkB b [] es)) 71 [.loc 26 0,.loc 26 1] (by simp[laid,wkB,wkC]) (of_c b [] es sj yd nn) (by simp[laid,wkB,wkC]) ?_;simp[-getElem?_pos,-List.getElem?_map,laid,wkB,wkC,ofF,-retB];refine Zc9 [.loc 136 0,.loc 16 0,.loc 11 0,.loc 9 0,.loc 26 2,.loc 12 0,.loc 45 0,.loc 14 0,.loc 71 0,.loc 26 0,.loc 26 1] [(11,.ptr (.loc 11 0) 0),(12,.ptr (.loc 12 0) 0),(14,.ptr (.loc 14 0) 0),(16,.ptr (.loc 16 0) 0)] (gf:=124) (fs:=[]) (cs:=[.ptr (.loc 71 0) 0,.pv (.ref [.int .i64 nn]),.pv (.ref [.int .i64 sj]),.pv (.ref [.int .i64 yd])]) ?_ ?_ rfl rfl ?_ ?_ ?_ hit ?_
  ·rfl
  ·simp
  ·simp[beC,beX,bestP,laid,wkC,capB]
  ·rfl
  ·rfl
  rintro r B' ⟨rfl,rfl⟩;refine⟨rfl,?_,?_⟩
  ·exact fun p hp=>Zew (n:=11) (L:=beX b es hs em nn (endM b nn)) (by simp[beX]) (hcl (endM b nn)) p hp
  refine⟨_,_,_,_,_,rfl,?_⟩;clear hcl;generalize endM b nn=M at *;have hgu':=hgu;cases hs2:u.std
  ·rw[hs2]at hgu;have hM:=hst1 hs2;subst hM;simp[-getElem?_pos,-List.getElem?_map,beC,beX,laid,jumpQ,wkC,capB,bestP,itsP,hgu,hsj,hek,hw,fnA,unpvs,-retB];exact⟨_,_,hmeas,Sub.mk (by simp) (by simp[wkC,endP,itsP]),hround⟩
  ·rw[hs2]at hgu;have hE:=hst0 hs2;simp[-getElem?_pos,-List.getElem?_map,beC,beX,laid,jumpQ,wkC,capB,bestP,itsP,hgu,hsj,hek,hw,fnA,unpvs,-retB];exact⟨_,_,hmeas,Sub.mk (by simp) (by simp[wkC,endP,hE,itsP,intP]),hround⟩
 have he:k=b.nums.length:=by omega
 subst he;clear hJ;have hEM:=Zos hb;have hzs:(b.item (si:Int)).std=false:=by rw[hbz];exact hstd
 obtain⟨hF,hL0,hL1⟩:=Zmh hb hzs hih;have hM:b.Zvq si day=(b.Zv8 si day,0):=by unfold Bk.Zvq;rw[if_pos h0,if_neg (by rw[hzs];simp)]
 have hit:=Ziv (bfC b hb es hs (eEnt b b.nums.length) hH hEM) b hb [] es hes 7 8 9 (fun c _=>⟨rfl,rfl⟩) (fun c _=>rfl) si day 1000 none (fun l h=>by cases h) (fun c hc=>⟨c,by
  have:=((ZbG hb).1 hc).2
  unfold Bk.ofB at this;simp only[ZxO,decide_eq_true_eq]at this;exact this.1,rfl⟩)
 have hrun:(bfC b hb es hs (eEnt b b.nums.length) hH hEM).run none (ctsV (b.ofL si day 1000))=(some (b.Zv8 si day),true):=by rw[←hF,ZoS];unfold bestF;rfl
 rw[hrun]at hit;have hcl:=fun s=>(bfC b hb es hs (eEnt b b.nums.length) hH hEM).cl s
 have hclone:=ZjU (b.Zv8 si day) hL0 (by omega);rw[hM]at hR;clear hrun hF hM;unfold beK;generalize eEnt b b.nums.length=em at *;generalize b.Zv8 si day=L at *;simp[-getElem?_pos,-List.getElem?_map,wkC,-retB];refine cM [.ptr (.par 0) 0,.pv (.int .i64 si),.pv (.int .i64 day),.pv (.int .i64 1000)] (laid 0 (wkB b [] es)) 114 [.loc 26 0,.loc 26 1] (by simp[laid,wkB,wkC]) (of_c b [] es si day 1000) (by simp[laid,wkB,wkC]) ?_;simp[-getElem?_pos,-List.getElem?_map,laid,wkB,wkC,ofF,-retB];refine Zc9 [.loc 136 0,.loc 19 0,.loc 11 0,.loc 9 0,.loc 26 2,.loc 12 0,.loc 45 0,.loc 114 0,.loc 26 0,.loc 26 1] [(11,.ptr (.loc 11 0) 0),(12,.ptr (.loc 12 0) 0),(19,.ptr (.loc 19 0) 0)] (gf:=124) (fs:=[]) (cs:=[.ptr (.loc 114 0) 0,.pv (.ref [.int .i64 1000]),.pv (.ref [.int .i64 si]),.pv (.ref [.int .i64 day])]) ?_ ?_ rfl rfl ?_ ?_ ?_ hit ?_
 ·rfl
 ·simp
 ·simp[bfC,bfX,bestP,laid,wkC,capB]
 ·rfl
 ·rfl
 rintro r B' ⟨rfl,rfl⟩;refine⟨rfl,?_,?_⟩
 ·exact fun p hp=>Zew (n:=10) (L:=bfX b es hs em (some L)) (by simp[bfX]) (hcl (some L)) p hp
 refine⟨_,_,_,_,_,rfl,?_⟩;clear hcl;simp[-getElem?_pos,-List.getElem?_map,bfC,bfX,laid,jumpQ,wkC,capB,bestP,-retB];refine cM [.pv (.lst false 1 (L.map intP))] [] 135 [] rfl hclone (by simp) ?_;have hLm:(L.map intP).take L.length=L.map intP:=ZxW (by simp);simp[-getElem?_pos,-List.getElem?_map,hLm,-retB];rw[←hR];exact⟨_,rfl,rfl,fun m v h=>h⟩
end
section
attribute [local simp] AS.exp expG Box.ren AV.map AV.Zu9 Zau noRet Site.Zu6 Box.Zu3 AV.Zu3 AV.Zu4 retB dropL AS.Zvd renL outG outOk Zas inG fnOf lookA Zyc
attribute [local simp] Box.Zu0 Site.Zu1
section
attribute [local simp] retFz frzL AS.frz AV.frz AV.frzL Box.frz AS.tidy AS.ZvF frzsL retOk renB toLoc
theorem ZoV:Gives Tryz.prog 42 [.lst false 7 []] (.lst false 7 []):=by
 refine Zai.ZvA ?_;refine cF [.loc 7 0] L42 ?_;simp[-getElem?_pos,L42,nilOf,ZaB,nble,opWp,osel];exact fun m v h=>Zbm h
def goodC (l:List Ct)(bad:List Int):List Ct:=l.filter (fun x=>!badP bad x)
def Zam (l:List Ct)(bad:List Int):Bk:=⟨Za0,goodC l bad⟩
theorem Zha (l:List Ct)(bad:List Int)(c d e:PV)(hl:l.length≤1000)(hb:bad.length≤1000):Zai Tryz.prog 51 [.ptr (.par 0) 0] [(.par 0,wkX (ctsP l) (.lst false 1 (bad.map iP)) c d e)] (fun r B=>r=.pv (Zam l bad).pv∧B=[(.par 0,wkX (ctsP l) (.lst false 1 (bad.map iP)) c d e)]):=by
 refine cBR [.par 0] L51 ?_;intro R hR;simp[-getElem?_pos,L51,wkX,ctsP];by_cases hn:l=[]
 ·subst hn;simp only[List.map_nil];refine .inl (cQ [] [.lst false 7 []] ZoV ?_);simp[-getElem?_pos];refine cM [.pv (.lst false 7 []),.fn 98 [] [.ptr (.par 0) 0]] (laid 0 (rgB (wkX (.lst false 7 []) (.lst false 1 (bad.map iP)) c d e) 0)) 11 [.loc 1 0,.par 0] (by simp[laid,rgB,wkX]) (del0C _ _ c d e) (by simp[laid,rgB,wkX]) ?_;simp[-getElem?_pos,laid,rgB,wkX];refine .inl (cQ [] [] ZjD ?_);simp[-getElem?_pos,←hR,Zam,goodC,Bk.pv,ctsP,itsP,wkX]
 ·refine .inl (Za9 [] (fs:=[]) (xs:=[.lst false 7 (l.map Ct.pv)]) (cs:=[]) (d:=9) rfl rfl (ZeB (l.map Ct.pv) (by rw[ZxS];omega)) ?_);rintro r B (⟨h,rfl,rfl⟩|⟨rfl,rfl⟩)
  ·exact absurd (List.map_eq_nil_iff.1 h) hn
  refine⟨by simp,?_⟩;simp[-getElem?_pos];refine cL [.vec (.par 0) 7 0 l.length,.fn 98 [] [.ptr (.par 1) 0]] (laid 0 (.arr 47 7 (l.map Ct.pv)::rgB (wkX (ctsP l) (.lst false 1 (bad.map iP)) c d e) 1)) 11 [.loc 9 0,.loc 1 0,.par 0] (by simp[laid,rgB,wkX,ctsP]) (delC _ c d e bad hb l hl) ?_
  rintro r0 B0 ⟨rfl,X,hX,rfl⟩;refine⟨rfl,by simp[laid,rgB,wkX,ctsP],?_⟩;have hXm:(X.map Ct.pv).take (goodC l bad).length=(goodC l bad).map Ct.pv:=by rw[←List.map_take];exact congrArg _ hX
  have hXl:(goodC l bad).length≤X.length:=by
   have:=congrArg List.length hX
   rw[ZxT]at this;unfold goodC;omega
  have hgf:(l.filter fun x=>!badP bad x)=goodC l bad:=rfl;simp only[hgf];simp[-getElem?_pos,laid,rgB,wkX,ctsP];refine .inl (cQ [.loc 9 0] [] ZjD ?_);simp[-getElem?_pos,←hR,Zam,Bk.pv,ctsP,itsP,wkX,hXm,hXl]
theorem ZdG (l:List Ct)(bad:List Int)(c d e:PV)(hl:l.length≤1000)(hb:bad.length≤1000)(lot item day rd:Int):Zai Tryz.prog 34 [.ptr (.par 0) 0,.pv (.agg [.int .i64 lot,.int .i64 item,.int .i64 day,.int .i64 rd])] [(.par 0,wkX (ctsP l) (.lst false 1 (bad.map iP)) c d e)] (fun r B=>r=.pv (.bool (decide (((Zam l bad).Zvq item day).2=0)))∧B=[(.par 0,wkX (ctsP l) (.lst false 1 (bad.map iP)) c d e)]):=by
 have hrc:=Zha l bad c d e hl hb;have hbc:=ZrY (Zam l bad) (show Za0.length≤1000 by decide) (by unfold Zam goodC;exact Zx5 (ZyB _ _) hl) item day;refine cBR [.par 0] L34 ?_;intro R hR;simp[-getElem?_pos,L34,wkX];refine ZbP (fun τ=>τ=⟨[(9,.pv (Zam l bad).pv),(11,.pv (.int .i64 item)),(13,.pv (.int .i64 day))],[(.par 0,wkX (ctsP l) (.lst false 1 (bad.map iP)) c d e)]⟩) ?_ ?_
 ·simp[-getElem?_pos,Zak,Zaq]
  repeat' apply And.intro
  all_goals
   refine cM [.ptr (.par 0) 0] [(.par 0,wkX (ctsP l) (.lst false 1 (bad.map iP)) c d e)] 9 [.par 0] (by simp[wkX]) hrc (by simp[wkX]) ?_;simp[-getElem?_pos,wkX,Zak,Zaq];exact Sub.mk (by simp) (by simp[wkX])
 ·rintro τ rfl;simp[-getElem?_pos,Zak,Zaq,wkX];refine .inl (cQ [] [(Zam l bad).pv,.int .i64 item,.int .i64 day] hbc ?_);simp[-getElem?_pos,lstE];rw[←hR];exact⟨rfl,by simp[wkX]⟩
theorem ZrM (l:List Ct)(bad:List Int)(c d e:PV)(hl:l.length≤1000)(hb:bad.length≤1000)(lot item day rd limit:Int)(hfit:IntKind.i64.wrap (rd+((Zam l bad).Zvf item day).1.lo)=rd+((Zam l bad).Zvf item day).1.lo):Zai Tryz.prog 144 [.ptr (.par 0) 0,.pv (.agg [.int .i64 lot,.int .i64 item,.int .i64 day,.int .i64 rd]),.pv (.int .i64 limit)] [(.par 0,wkX (ctsP l) (.lst false 1 (bad.map iP)) c d e)] (fun r B=>r=.pv (.bool (decide (limit≤rd+((Zam l bad).Zvf item day).1.lo)))∧B=[(.par 0,wkX (ctsP l) (.lst false 1 (bad.map iP)) c d e)]):=by
 have hrc:=Zha l bad c d e hl hb;have hbc:=ZrX (Zam l bad) (show Za0.length≤1000 by decide) (by unfold Zam goodC;exact Zx5 (ZyB _ _) hl) item day;refine cBR [.par 0] L144 ?_;intro R hR;simp[-getElem?_pos,L144,wkX];refine ZbP (fun τ=>τ=⟨[(18,.pv (.int .i64 ((Zam l bad).Zvf item day).2)),(7,.ptr (.loc 7 0) 0),(4,.ptr (.loc 4 0) 0),(2,.pv (.int .i64 limit))],[(.loc 7 0,.cells [.pv (.int .i64 ((Zam l bad).Zvf item day).1.lo),.pv (.int .i64 ((Zam l bad).Zvf item day).1.hi)]),(.loc 4 0,.cells [.pv (.int .i64 lot),.pv (.int .i64 item),.pv (.int .i64 day),.pv (.int .i64 rd)]),(.par 0,wkX (ctsP l) (.lst false 1 (bad.map iP)) c d e)]⟩) ?_ ?_
 ·simp[-getElem?_pos,Zak,Zaq]
  repeat' apply And.intro
  all_goals
   refine cM [.ptr (.par 0) 0] [(.par 0,wkX (ctsP l) (.lst false 1 (bad.map iP)) c d e)] 11 [.par 0] (by simp[wkX]) hrc (by simp[wkX]) ?_;simp[-getElem?_pos,wkX,Zak,Zaq]
   repeat' apply And.intro
   all_goals
    refine .inl (cQ [] [(Zam l bad).pv,.int .i64 item,.int .i64 day] hbc ?_);simp[-getElem?_pos,spanE,Cr.pv,Zak,Zaq]
    repeat' apply And.intro
    all_goals exact Sub.mk (by simp) (by simp[wkX])
 ·rintro τ rfl;simp[-getElem?_pos,Zak,Zaq,wkX,hfit];rw[←hR];exact⟨rfl,by simp[wkX]⟩
end
end
section
section
attribute [local simp] Box.Zu0 Site.Zu1
theorem Zn1 (l:List PV)(g:FuncId)(fs cs:List PV)(q:PV→Bool)(hq:∀x∈l,Gives Tryz.prog g (fs++[x]++cs) (.bool (q x)))(hl:l.length≤1000000)(hc:∀x∈l,∃a b c,x=.agg [.int .i64 a,.int .i64 b,.int .i64 c]):
  Gives Tryz.prog 203 [.lst false 3 l,.fn g fs cs] (.int .i64 (match l.findIdx? q with|some i=>i|none=>-1)):=by
 refine cS L203 ?_;simp[L203];refine Zaf (fun n τ=>∃k:Nat,k≤l.length∧n=l.length-k∧(∀j x,j<k→l[j]?=some x→q x=false)∧τ=⟨[(0,.pv (.lst false 3 l)),(1,.pv (.fn g fs cs)),(7,.pv (.int .i64 l.length)),(8,.pv (.int .i64 k))],[]⟩)
  ⟨l.length,_,Sub.mk (by simp) (by simp),0,by omega,rfl,(fun j x hj=>by omega),rfl⟩ ?_
 rintro J hJ n τ ⟨k,hk,rfl,hinv,rfl⟩;by_cases hlt:k<l.length
 ·have hx:l[k]?=some l[k]:=ZxL hlt;have hm:=Zyh hlt;generalize l[k]=x at hx hm;obtain⟨a,b,c,rfl⟩:=hc x hm;have hg:=hq _ hm;have hw:IntKind.i64.wrap ((k:Int)+1)=((k+1:Nat):Int):=by rw[wrap64 (by omega)];omega
  simp[-getElem?_pos,hlt,hx,nblt];refine Zaa (k:=0) rfl rfl hg rfl ?_;cases hb:q _
  ·simp[hw];exact⟨_,_,(by omega:l.length-(k+1)<l.length-k),Sub.mk (by simp) (by simp),hJ _ _ ⟨k+1,by omega,rfl,fun j x hj hjx=>by
    rcases ZyD.1 hj with h|h
    ·exact hinv j x h hjx
    ·subst h;rw[hx]at hjx;cases hjx;exact hb,rfl⟩⟩
  ·simp[ZcU hx hb hinv]
 ·have he:k=l.length:=by omega
  subst he;simp[ZbE hinv]
theorem ZtO (l:List PV)(g:FuncId)(fs cs:List PV)(q:PV→Bool)(hq:∀x∈l,Gives Tryz.prog g (fs++[x]++cs) (.bool (q x)))(hl:l.length≤1000000)(hc:∀x∈l,∃a b c,x=.agg [.int .i64 a,.int .i64 b,.int .i64 c]):
  Gives Tryz.prog 180 [.lst false 3 l,.fn g fs cs] (.bool (l.any q)):=by
 refine cS L180 ?_;simp[L180];refine Zaa (k:=0) rfl rfl (Zn1 l g fs cs q hq hl hc) rfl ?_;cases hf:l.findIdx? q with
 |none=>
  have:l.any q=false:=by rw[List.any_eq_false];intro x hx;simpa using Zyz.1 hf x hx
  simp[this]
 |some i=>
  have:l.any q=true:=by
   obtain⟨hi,h1,_⟩:=Zyy.1 hf;exact Zya.2 ⟨_,Zyh hi,h1⟩
  simp[this]
theorem Zrl (x:PV)(g:FuncId)(fs cs:List PV)(b:Bool)(hx:∃a b c,x=.agg [.int .i64 a,.int .i64 b,.int .i64 c])(hq:Gives Tryz.prog g (fs++[x]++cs) (.bool b)):
  Gives Tryz.prog 181 [x,.ref [.fn g fs cs]] (.bool (!b)):=by
 obtain⟨a,b,c,rfl⟩:=hx;refine cS L181 ?_;simp[L181];refine Zaa (k:=0) rfl rfl hq rfl ?_;simp
theorem ZtS (l:List PV)(g:FuncId)(fs cs:List PV)(q:PV→Bool)(hq:∀x∈l,Gives Tryz.prog g (fs++[x]++cs) (.bool (q x)))(hl:l.length≤1000000)(hc:∀x∈l,∃a b c,x=.agg [.int .i64 a,.int .i64 b,.int .i64 c]):
  Gives Tryz.prog 142 [.lst false 3 l,.fn g fs cs] (.bool (l.all q)):=by
 refine cS L142 ?_;simp[L142];refine Zaa (k:=4) rfl rfl (ZtO l 181 [] [.ref [.fn g fs cs]] (fun x=>!q x) (fun x hx=>Zrl x g fs cs (q x) (hc x hx) (hq x hx)) hl hc) rfl ?_;simp[List.not_any_eq_all_not]
end
attribute [local simp] AS.exp expG Box.ren AV.map AV.Zu9 Zau noRet Site.Zu6 Box.Zu3 AV.Zu3 AV.Zu4 retB dropL AS.Zvd renL outG outOk Zas inG fnOf lookA Zyc
attribute [local simp] Box.Zu0 Site.Zu1
attribute [local simp] retFz frzL AS.frz AV.frz AV.frzL Box.frz AS.tidy AS.ZvF frzsL retOk renB toLoc
theorem wr0:IntKind.i64.wrap 0=0:=by decide
theorem wr1:IntKind.i64.wrap 1=1:=by decide
theorem wr2:IntKind.i64.wrap 2=2:=by decide
theorem wr3:IntKind.i64.wrap 3=3:=by decide
theorem wr4:IntKind.i64.wrap 4=4:=by decide
theorem wr5:IntKind.i64.wrap 5=5:=by decide
theorem wr6:IntKind.i64.wrap 6=6:=by decide
attribute [local simp] wr0 wr1 wr2 wr3 wr4 wr5 wr6
theorem Zfl (n low high:Int):Gives Tryz.prog 141 [.int .i64 n,.int .i64 low,.int .i64 high] (.bool (decide (low≤n)&&decide (n≤high))):=by
 refine cS L141 ?_;by_cases h1:low≤n<;>by_cases h2:n≤high<;>simp[L141,h1,h2]
theorem Zsd (a b c:Int):Gives Tryz.prog 143 [.agg [.int .i64 a,.int .i64 b,.int .i64 c]] (.bool (decide (1≤a))):=by
 refine cS L143 ?_;simp[-getElem?_pos,L143]
def stgP (k:Int):PV:=.agg [.int .i64 2,.int .i64 k,.int .i64 2]
def planP (n:Int):PV:=.agg [.int .i64 n,.lst false 3 [stgP 0,stgP 1]]
theorem Zih (num n limit:Int)(ps:Bool):Gives Tryz.prog 145 [.agg [.int .i64 num,.int .i64 n,.int .i64 limit,.bool ps]] (planP n):=by
 refine cF [.loc 7 0] L145 ?_;simp[-getElem?_pos,L145,planP,stgP,nble,setAt]
def saysM (bad a r:Int):Int:=if bad≤a then 1 else if r≤bad then 2 else 3
theorem Zt6 (t a r bad:Int):Gives Tryz.prog 92 [.agg [.int .i64 t,.int .i64 a,.int .i64 r],.int .i64 bad] (.int .u8 (saysM bad a r)):=by
 refine cS L92 ?_;unfold saysM;by_cases h1:bad≤a<;>by_cases h2:r≤bad<;>simp[-getElem?_pos,L92,h1,h2]
theorem Zmm:Gives Tryz.prog 142 [.lst false 3 [stgP 0,stgP 1],.fn 143 [] []] (.bool true):=
 ZtS [stgP 0,stgP 1] 143 [] [] (fun _=>true) (fun x hx=>by
  have h:∃k,x=stgP k:=by
   simp at hx;rcases hx with rfl|rfl<;>exact⟨_,rfl⟩
  obtain⟨k,rfl⟩:=h;exact Zsd 2 k 2) (by decide) (fun x hx=>by
   simp at hx;rcases hx with rfl|rfl<;>exact⟨_,_,_,rfl⟩)
def ckS (n t a b c k:Int):AS:=⟨[(1,.ptr (.loc 1 0) 0),(3,.pv (.int .i64 t)),(4,.ptr (.loc 4 0) 0),(31,.pv (.lst false 3 [stgP 0,stgP 1])),(32,.pv (.int .i64 2)),(33,.pv (.int .i64 k))],[(.loc 1 0,.cells [.pv (.int .i64 n),.pv (.lst false 3 [stgP 0,stgP 1])]),(.loc 4 0,.cells [.pv (.int .i64 a),.pv (.int .i64 b),.pv (.int .i64 c)])]⟩
theorem ZjY (n:Int)(h4:4≤n)(h30:n≤30):Gives Tryz.prog 91 [planP n] (.int .i64 0):=by
 have hw:=Zfl n 1 30;have hd:(decide (1≤n)&&decide (n≤30))=true:=by simp;omega
 rw[hd]at hw;have hw0:=Zfl 2 1 3;have hw1:=Zfl 2 2 5;refine cS L91 ?_;simp[-getElem?_pos,L91,planP];refine cG [.int .i64 n,.int .i64 1,.int .i64 30] hw ?_;simp[-getElem?_pos];refine cG [.lst false 3 [stgP 0,stgP 1],.fn 143 [] []] Zmm ?_;simp[-getElem?_pos,setAt];have hwn:∀t:Int,0≤t→t≤4→IntKind.i64.wrap (n-t)=n-t:=fun t h1 h2=>wrap64 (by omega)
 refine Zaf (fun m τ=>(m=2∧τ=ckS n 0 0 (-1) 0 0)∨(m=1∧τ=ckS n 2 2 0 2 1)∨(m=0∧τ=ckS n 4 2 1 2 2)) ⟨2,ckS n 0 0 (-1) 0 0,Sub.mk (by simp[ckS]) (by simp[ckS]),.inl ⟨rfl,rfl⟩⟩ ?_;rintro J hJ m τ (⟨rfl,rfl⟩|⟨rfl,rfl⟩|⟨rfl,rfl⟩)
 ·have hj:=hJ 1 _ (.inr (.inl ⟨rfl,rfl⟩));have h1:¬(n<2):=by omega
  have h0:IntKind.i64.wrap n=n:=wrap64 (by omega);simp[-getElem?_pos,ckS,stgP,setAt,h0,h1];refine cG [.int .i64 2,.int .i64 1,.int .i64 3] hw0 ?_;simp[-getElem?_pos,setAt];exact⟨_,_,by decide,Sub.mk (by simp[ckS,stgP]) (by simp[ckS,stgP]),hj⟩
 ·have hj:=hJ 0 _ (.inr (.inr ⟨rfl,rfl⟩));have h1:¬(n-2<2):=by omega
  have h0:IntKind.i64.wrap (n-2)=n-2:=wrap64 (by omega);simp[-getElem?_pos,ckS,stgP,setAt,h0,h1];refine cG [.int .i64 2,.int .i64 2,.int .i64 5] hw1 ?_;simp[-getElem?_pos,setAt];exact⟨_,_,by decide,Sub.mk (by simp[ckS,stgP]) (by simp[ckS,stgP]),hj⟩
 ·simp[-getElem?_pos,ckS,stgP,setAt]
def cntB:List Bool→Int
 |[]=>0
 |x::l=>(if x=true then 1 else 0)+cntB l
theorem ZoC {l:List Bool}{k:Nat}{x:Bool}(h:l[k]?=some x):cntB (l.take (k+1))=cntB (l.take k)+(if x=true then 1 else 0):=by
 induction l generalizing k with
 |nil=>cases h
 |cons y l ih=>
  cases k with
  |zero=>
   simp at h;subst h;simp[cntB]
  |succ k=>
   have:=ih (k:=k) (by simpa using h)
   simp only[List.take_succ_cons,cntB,this];omega
theorem ZoD {l:List Bool}:0≤cntB l∧cntB l≤l.length:=by
 induction l with
 |nil=>exact⟨Int.le_refl _,Int.le_refl _⟩
 |cons x l ih=>
  simp only[cntB,Zyg]
  split<;>omega
def planM (rs:List Bool):Int×Int×Int:=
 if rs.length<2 then(3,2-(rs.length:Int),0)
 else if saysM (cntB (rs.take 2)) 0 2=3 then
  (if rs.length<4 then(3,4-(rs.length:Int),0)
  else if 4<rs.length then(0,0,2)else(saysM (1+cntB ((rs.drop 2).take 2)) 1 2,0,0))
 else if 2<rs.length then(0,0,2)else(saysM (cntB (rs.take 2)) 0 2,0,0)
def planE (x:Int×Int×Int):PV:=.tup [.int .u8 x.1,.int .i64 x.2.1,.int .i64 x.2.2]
def plS (n:Int)(rs:List Bool)(k:Nat):AS:=⟨[(1,.vec (.par 0) 1 0 rs.length),(8,.pv (.int .i64 ((2*k:Nat):Int))),(9,.pv (.int .i64 (k:Int))),(20,.pv (.lst false 3 [stgP 0,stgP 1])),(21,.pv (.int .i64 2)),(22,.pv (.int .i64 (k:Int)))],[(.par 0,.arr 4 1 (rs.map .bool))]⟩
def inS (rs sub:List Bool)(k j:Nat):AS:=⟨[(1,.vec (.par 0) 1 0 rs.length),(8,.pv (.int .i64 ((2*k:Nat):Int))),(9,.pv (.int .i64 ((k:Int)+cntB (sub.take j)))),(11,.ptr (.loc 11 0) 0),(20,.pv (.lst false 3 [stgP 0,stgP 1])),(21,.pv (.int .i64 2)),(22,.pv (.int .i64 (k:Int))),(46,.vec (.par 0) 1 (2*k) 2),(47,.pv (.int .i64 2)),(48,.pv (.int .i64 (j:Int)))],[(.loc 11 0,.cells [.pv (.int .i64 2),.pv (.int .i64 (k:Int)),.pv (.int .i64 2)]),(.par 0,.arr 4 1 (rs.map .bool))]⟩
theorem Zjo (n:Int)(h4:4≤n)(h30:n≤30)(rs:List Bool)(hl:rs.length≤1000):Zai Tryz.prog 45 [.pv (planP n),.vec (.par 0) 1 0 rs.length] [(.par 0,.arr 4 1 (rs.map .bool))] (fun r B=>r=.pv (planE (planM rs))∧B=[(.par 0,.arr 4 1 (rs.map .bool))]):=by
 refine cBR [.par 0] L45 ?_;intro R hR;simp[-getElem?_pos,L45,planP];refine cG [planP n] (ZjY n h4 h30) ?_;simp[-getElem?_pos];refine Zaf (fun m τ=>∃k:Nat,(k=0∨(k=1∧2≤rs.length∧cntB (rs.take 2)=1))∧m=2-k∧τ=plS n rs k) ⟨2,plS n rs 0,Sub.mk (by simp[plS]) (by simp[plS]),0,.inl rfl,rfl,rfl⟩ ?_;rintro J hJ m τ ⟨k,hk,rfl,rfl⟩;have hk2:k<2:=by omega
 have hst:([stgP 0,stgP 1]:List PV)[k]?=some (.agg [.int .i64 2,.int .i64 (k:Int),.int .i64 2]):=by
  rcases hk with rfl|⟨rfl,_⟩<;>rfl
 have hw2:IntKind.i64.wrap ((2*k:Nat)+2:Int)=((2*k+2:Nat):Int):=by rw[wrap64 (by omega)];omega
 have hki:((k:Int)<2):=by omega
 by_cases hlen:rs.length<2*k+2
 ·have hli:(rs.length:Int)<((2*k+2:Nat):Int):=by omega
  simp[-getElem?_pos,-Int.natCast_add,-Int.natCast_mul,plS,hki,hst,setAt,hw2,hli];rw[←hR];refine⟨?_,by simp⟩;rw[wrap64 (by omega)];rcases hk with rfl|⟨rfl,h2,hc⟩
  ·simp[planE,planM,hlen,show rs.length<2 by omega]
  ·have e:saysM (cntB (rs.take 2)) 0 2=3:=by rw[hc];rfl
   simp[planE,planM,e,show ¬rs.length<2 by omega,show rs.length<4 by omega]
 ·have hli:¬((rs.length:Int)<((2*k+2:Nat):Int)):=by omega
  have hb1:(2*k).ble (2*k+2)=true:=Nat.ble_eq_true_of_le (by omega);have hb2:(2*k+2).ble rs.length=true:=Nat.ble_eq_true_of_le (by omega);obtain⟨sub,hsub⟩:∃sub,sub=(rs.drop (2*k)).take 2:=⟨_,rfl⟩;have hsl:sub.length=2:=by rw[hsub,ZxT,Zyn];omega
  have hse:List.drop (2*k) (List.take (2*k+2) (List.map PV.bool rs))=sub.map .bool:=by
   rw[hsub,List.drop_take,Nat.add_sub_cancel_left,List.map_take,List.map_drop]
  have hsc:=ZoD (l:=sub);simp[-getElem?_pos,-Int.natCast_add,-Int.natCast_mul,plS,hki,hst,setAt,hw2,hli,hb1,hb2,hse,hsl];refine Zaf (fun m τ=>∃j:Nat,j≤2∧m=2-j∧τ=inS rs sub k j) ⟨2,inS rs sub k 0,Sub.mk (by simp[inS,cntB]) (by simp[inS]),0,Zx0 _,rfl,rfl⟩ ?_;rintro J2 hJ2 m τ ⟨j,hj,rfl,rfl⟩;by_cases hj2:j<2
  ·obtain⟨x,hx⟩:∃x,sub[j]?=some x:=⟨sub[j],ZxL (by omega)⟩;have hg:(rs.map PV.bool)[2*k+j]?=some (.bool x):=by
    rw[hsub,Zx1,if_pos hj2,Zx3]at hx;rw[ZxM,hx];rfl
   have hJn:=hJ2 (2-(j+1)) _ ⟨j+1,hj2,rfl,rfl⟩;unfold inS at hJn;rw[ZoC hx]at hJn;have hct:=ZoD (l:=sub.take j);have hcl:((sub.take j).length:Int)≤2:=by rw[ZxT];omega
   have hji:(j:Int)<2:=by omega
   have hwj:=wrapK (k:=j) (by omega);cases x with
   |false=>
    simp[-getElem?_pos,-List.getElem?_map,-Int.natCast_mul,inS,hji,hg,hwj,nblt,hj2];exact⟨_,_,(by omega:2-(j+1)<2-j),Sub.mk (by simp) (by simp),hJn⟩
   |true=>
    have hwb:IntKind.i64.wrap ((k:Int)+cntB (sub.take j)+1)=(k:Int)+(cntB (sub.take j)+1):=by rw[wrap64 (by omega)];omega
    simp[-getElem?_pos,-List.getElem?_map,-Int.natCast_mul,inS,hji,hg,hwj,hwb,nblt,hj2];exact⟨_,_,(by omega:2-(j+1)<2-j),Sub.mk (by simp) (by simp),hJn⟩
  ·have hje:j=2:=by omega
   subst hje;unfold inS;rw[ZxW (by omega)];have hwk:=wrapK (k:=k) (by omega);simp[-getElem?_pos,-Int.natCast_add,-Int.natCast_mul,hw2];refine cG [.agg [.int .i64 2,.int .i64 (k:Int),.int .i64 2],.int .i64 ((k:Int)+cntB sub)] (Zt6 _ _ _ _) ?_;have hs2:(2:Int)*(k:Int)+2=((2*k+2:Nat):Int):=by omega
   by_cases hv:saysM ((k:Int)+cntB sub) (k:Int) 2=3
   ·have hk0:k=0∧cntB sub=1:=by
     unfold saysM at hv;split at hv
     ·omega
     ·split at hv<;>omega
    obtain⟨rfl,hc1⟩:=hk0;rw[hv];simp[-getElem?_pos,hc1];refine⟨_,_,by decide,Sub.mk ?_ ?_,hJ 1 _ ⟨1,.inr ⟨rfl,by omega,by rw[←hc1,hsub];rfl⟩,rfl,rfl⟩⟩
    ·simp[plS]
    ·simp[plS]
   ·have hrs:¬rs.length<2:=by omega
    have hP:planM rs=(if 2*k+2<rs.length then(0,0,2)else(saysM ((k:Int)+cntB sub) (k:Int) 2,0,0)):=by
     rcases hk with rfl|⟨rfl,h2,hc⟩
     ·have e1:((0:Nat):Int)+cntB sub=cntB (rs.take 2):=by rw[hsub];simp
      rw[e1]at hv ⊢;unfold planM;have hv':¬saysM (cntB (rs.take 2)) 0 2=3:=hv;rw[if_neg hrs,if_neg hv'];rfl
     ·have e1:((1:Nat):Int)+cntB sub=1+cntB ((rs.drop 2).take 2):=by rw[hsub];rfl
      have e:saysM (cntB (rs.take 2)) 0 2=3:=by rw[hc];rfl
      rw[e1];unfold planM;rw[if_neg hrs,if_pos e,if_neg (by omega)];rfl
    by_cases hm:2*k+2<rs.length
    ·have hmi:(2:Int)*(k:Int)+2<(rs.length:Int):=by omega
     rw[if_pos hm]at hP;simp[-getElem?_pos,hv,hmi];rw[←hR,hP];exact⟨rfl,by simp⟩
    ·have hmi:¬(2:Int)*(k:Int)+2<(rs.length:Int):=by omega
     rw[if_neg hm]at hP;simp[-getElem?_pos,hv,hmi];rw[←hR,hP];exact⟨rfl,by simp⟩
end
section
attribute [local simp] AS.exp expG Box.ren AV.map AV.Zu9 Zau noRet Site.Zu6 Box.Zu3 AV.Zu3 AV.Zu4 retB dropL AS.Zvd renL outG outOk Zas inG fnOf lookA Zyc
attribute [local simp] Box.Zu0 Site.Zu1
section
attribute [local simp] retFz frzL AS.frz AV.frz AV.frzL Box.frz AS.tidy AS.ZvF frzsL retOk renB toLoc
structure Tt where
 lot:Int
 item:Int
 day:Int
 rd:Int
deriving DecidableEq
def Tt.pv (t:Tt):PV:=.agg [.int .i64 t.lot,.int .i64 t.item,.int .i64 t.day,.int .i64 t.rd]
def spP (S:Int→Int→Bool)(sp:List (Int×Int)):List (PV×PV):=sp.map fun p=>(.agg [.int .i64 p.1,.int .i64 p.2],.bool (S p.1 p.2))
theorem ZrP (a b c d:Int):eqK (.agg [.int .i64 a,.int .i64 b]) (.agg [.int .i64 c,.int .i64 d])=decide ((a,b)=(c,d)):=by
 rw[Zyr];simp[eqK,eqL,eqC,PV.cells]
theorem Zlg {S:Int→Int→Bool}{i d:Int}:∀{sp:List (Int×Int)},findV (.agg [.int .i64 i,.int .i64 d]) (spP S sp)=if(i,d)∈sp then some (.bool (S i d))else none
 |[]=>rfl
 |p::r=>by
  have ih:=Zlg (S:=S) (i:=i) (d:=d) (sp:=r);unfold spP at ih ⊢;rw[ZxZ,findV,ZrP];by_cases h:(i,d)=p
  ·subst h;simp
  ·have:decide ((i,d)=(p.1,p.2))=false:=decide_eq_false h
   rw[this];simp only[ih,Zx2,h,false_or]
theorem Znl {S:Int→Int→Bool}{i d:Int}:∀{sp:List (Int×Int)},(i,d)∉sp→putK (.agg [.int .i64 i,.int .i64 d]) (.bool (S i d)) (spP S sp)=spP S (sp++[(i,d)])
 |[],_=>rfl
 |p::r,h=>by
  have h1:(i,d)≠p:=fun e=>h (by simp[e])
  have ih:=Znl (S:=S) (i:=i) (d:=d) (sp:=r) (fun e=>h (by simp[e]));have h2:decide ((i,d)=(p.1,p.2))=false:=decide_eq_false h1;unfold spP at ih ⊢;rw[ZxZ,putK,ZrP,h2];simp only[ih];rfl
theorem Ztb {S:Int→Int→Bool}{sp:List (Int×Int)}:Zbi ⟨true,[.int .i64,.int .i64]⟩ (spP S sp)=true:=by
 unfold Zbi spP;rw[Zx7];intro x hx;obtain⟨p,_,rfl⟩:=ZxY.1 hx;rfl
def verdM (S:Int→Int→Bool)(G:Tt→Bool)(num:Int):List Tt→List Bool→Int
 |[],_=>3
 |t::l,rs=>if t.lot=num∧S t.item t.day=true then(if(planM (rs++[!G t])).1=3 then verdM S G num l (rs++[!G t])else(planM (rs++[!G t])).1)else verdM S G num l rs
theorem ZhV {S:Int→Int→Bool}{G:Tt→Bool}{num:Int}{rs:List Bool}:verdM S G num [] rs=3:=rfl
theorem Zco {S:Int→Int→Bool}{G:Tt→Bool}{num:Int}{t:Tt}{l:List Tt}{rs:List Bool}:verdM S G num (t::l) rs=if t.lot=num∧S t.item t.day=true then(if(planM (rs++[!G t])).1=3 then verdM S G num l (rs++[!G t])else(planM (rs++[!G t])).1)else verdM S G num l rs:=rfl
def stM (l:List Ct)(bad:List Int)(i d:Int):Bool:=decide (((Zam l bad).Zvq i d).2=0)
def gdM (l:List Ct)(bad:List Int)(limit:Int)(t:Tt):Bool:=decide (limit≤t.rd+((Zam l bad).Zvf t.item t.day).1.lo)
def ttsP (l:List Tt):PV:=.lst false 4 (l.map Tt.pv)
def vdS (W:Box)(x:Lt)(S:Int→Int→Bool)(ts:List Tt)(rs:List Bool)(sp:List (Int×Int))(k:Nat):AS:=
 ⟨[(0,.ptr (.par 0) 0),(3,.ptr (.loc 3 0) 0),(5,.vec (.loc 61 0) 1 0 rs.length),(6,.fn 34 [.ptr (.par 0) 0] []),(7,.pv (.int .u8 3)),(8,.mp (.loc 16 0)),(21,.pv (.lst false 4 (ts.map Tt.pv))),(22,.pv (.int .i64 ts.length)),(23,.pv (.int .i64 (k:Int)))],
  [(.loc 3 0,.cells [.pv (.int .i64 x.num),.pv (.int .i64 x.pieces),.pv (.int .i64 x.limit),.pv (.bool x.passed)]),(.loc 16 0,.map (spP S sp)),(.loc 61 0,.arr 4 1 (rs.map .bool)),(.par 0,W)]⟩
theorem ZdE (l:List Ct)(bad:List Int)(ls:PV)(ts:List Tt)(rn:PV)(x:Lt)(hl:l.length≤1000)(hb:bad.length≤1000)(ht:ts.length≤900)(h4:4≤x.pieces)(h30:x.pieces≤30)
  (hfit:∀t∈ts,IntKind.i64.wrap (t.rd+((Zam l bad).Zvf t.item t.day).1.lo)=t.rd+((Zam l bad).Zvf t.item t.day).1.lo):
  Zai Tryz.prog 93 [.ptr (.par 0) 0,.pv x.pv] [(.par 0,wkX (ctsP l) (.lst false 1 (bad.map iP)) ls (ttsP ts) rn)] (fun r B=>r=.pv (.int .u8 (verdM (stM l bad) (gdM l bad x.limit) x.num ts []))∧B=[(.par 0,wkX (ctsP l) (.lst false 1 (bad.map iP)) ls (ttsP ts) rn)]):=by
 refine cBR [.par 0] L93 ?_;intro R hR;obtain⟨V,hV⟩:∃V,V=verdM (stM l bad) (gdM l bad x.limit) x.num ts []:=⟨_,rfl⟩;rw[←hV]at hR;simp[-getElem?_pos,L93,wkX,Lt.pv,ttsP];refine Zaf (fun m τ=>∃(k:Nat) (rs:List Bool) (sp:List (Int×Int)),k≤ts.length∧m=ts.length-k∧rs.length≤k∧τ=vdS (wkX (ctsP l) (.lst false 1 (bad.map iP)) ls (ttsP ts) rn) x (stM l bad) ts rs sp k∧verdM (stM l bad) (gdM l bad x.limit) x.num (ts.drop k) rs=V)
  ⟨ts.length,vdS (wkX (ctsP l) (.lst false 1 (bad.map iP)) ls (ttsP ts) rn) x (stM l bad) ts [] [] 0,Sub.trans' (Sub.mk (by simp[vdS,AS.vecT]) (by simp[vdS,AS.vecT,wkX,ttsP,spP])) (vecT 61 4 1 5 rfl (by decide)),0,[],[],Zx0 _,rfl,ZxR _,rfl,hV.symm⟩ ?_
 rintro J hJ m τ ⟨k,rs,sp,hk,rfl,hrl,rfl,hv⟩;by_cases hlt:k<ts.length
 ·obtain⟨t,hx⟩:∃t,ts[k]?=some t:=⟨ts[k],ZxL hlt⟩;have hmem:t∈ts:=ZxQ hx;have hg:(ts.map Tt.pv)[k]?=some t.pv:=by rw[ZxM,hx];rfl
  simp only[Tt.pv]at hg;have hd:ts.drop k=t::ts.drop (k+1):=by
   rw[ZyF hlt];congr 1;rw[ZxL hlt]at hx;exact Option.some.inj hx
  rw[hd]at hv;rw[Zco]at hv;have hw:=wrapK (k:=k) (by omega);have hmeas:ts.length-(k+1)<ts.length-k:=by omega
  have hnext:∀rs' sp',rs'.length≤k+1→verdM (stM l bad) (gdM l bad x.limit) x.num (ts.drop (k+1)) rs'=V→J (ts.length-(k+1)) (vdS (wkX (ctsP l) (.lst false 1 (bad.map iP)) ls (ttsP ts) rn) x (stM l bad) ts rs' sp' (k+1)):=fun rs' sp' h1 h2=>hJ _ _ ⟨k+1,rs',sp',hlt,rfl,h1,rfl,h2⟩
  clear hJ;by_cases hlo:t.lot=x.num
  ·have hf:=Zlg (S:=stM l bad) (i:=t.item) (d:=t.day) (sp:=sp);have hkey:=Ztb (S:=stM l bad) (sp:=sp);have hp:=fun h=>Znl (S:=stM l bad) (i:=t.item) (d:=t.day) (sp:=sp) h
   by_cases hin:(t.item,t.day)∈sp
   ·rw[if_pos hin]at hf;cases hs:stM l bad t.item t.day with
    |false=>
     rw[if_neg (by simp[hs])]at hv;rw[hs]at hf;have hn:=hnext rs sp (by omega) hv;simp[-getElem?_pos,-List.getElem?_map,vdS,wkX,hlt,hg,nblt,nble,setAt,hlo,hw,hf,hkey];exact⟨_,_,hmeas,Sub.mk (by simp[vdS]) (by simp[vdS,wkX]),hn⟩
    |true=>
     rw[hs]at hf;simp[-getElem?_pos,-List.getElem?_map,vdS,wkX,hlt,hg,nblt,nble,setAt,hlo,hw,hf,hkey];have hgc:=ZrM l bad ls (ttsP ts) rn hl hb x.num t.item t.day t.rd x.limit (hfit t hmem);refine cM [.ptr (.par 0) 0,.pv (.agg [.int .i64 x.num,.int .i64 t.item,.int .i64 t.day,.int .i64 t.rd]),.pv (.int .i64 x.limit)] [(.par 0,(wkX (ctsP l) (.lst false 1 (bad.map iP)) ls (ttsP ts) rn))] 58 [.par 0] (by simp[wkX]) hgc (by simp[wkX]) ?_;rw[if_pos ⟨hlo,hs⟩]at hv;have hgd:decide (x.limit≤t.rd+((Zam l bad).Zvf t.item t.day).1.lo)=gdM l bad x.limit t:=rfl;rw[hgd];clear hgd hgc;have h1:rs.length+1≤1000000:=by omega
     generalize gdM l bad x.limit t=gv at hv ⊢;simp[-getElem?_pos,wkX,h1,nble];refine .inl (cQ [] [x.pv] (Zih x.num x.pieces x.limit x.passed) ?_);simp[-getElem?_pos];refine Zac (as':=[.pv (planP x.pieces),.vec (.par 0) 1 0 (rs++[!gv]).length]) (B:=[(.par 0,.arr 4 1 ((rs++[!gv]).map .bool))]) (fs:=[]) (cs:=[]) 66 [.loc 61 0] ?_ rfl rfl ?_ ?_ ?_ (Zjo x.pieces h4 h30 (rs++[!gv]) (by simp;omega)) ?_
     ·first|rfl|simp
     ·first|rfl|simp
     ·first|rfl|simp
     ·first|rfl|simp
     rintro r0 B0 ⟨rfl,rfl⟩;refine⟨rfl,by simp,?_⟩;have hn:=hnext (rs++[!gv]) sp (by simp;omega);generalize planM (rs++[!gv])=pm at hv ⊢;obtain⟨v,mo,er⟩:=pm;by_cases h3:v=3
     ·subst h3;have hn:=hn hv;simp[-getElem?_pos,planE,hw];exact⟨_,_,hmeas,Sub.mk (by simp[vdS]) (by simp[vdS,wkX]),hn⟩
     ·rw[if_neg h3]at hv;simp[-getElem?_pos,planE,h3];rw[←hR,←hv];exact⟨rfl,by simp[wkX]⟩
   ·rw[if_neg hin]at hf;have hpn:=hp hin;have hsc:=ZdG l bad ls (ttsP ts) rn hl hb x.num t.item t.day t.rd;simp[-getElem?_pos,-List.getElem?_map,vdS,wkX,hlt,hg,nblt,nble,setAt,hlo,hw,hf,hkey];refine Zac (as':=[.ptr (.par 0) 0,.pv (.agg [.int .i64 x.num,.int .i64 t.item,.int .i64 t.day,.int .i64 t.rd])]) (B:=[(.par 0,(wkX (ctsP l) (.lst false 1 (bad.map iP)) ls (ttsP ts) rn))]) (fs:=[.ptr (.par 0) 0]) (cs:=[]) 47 [.par 0] ?_ rfl rfl ?_ ?_ ?_ hsc ?_
    ·rfl
    ·simp[wkX]
    ·rfl
    ·rfl
    rintro r0 B0 ⟨rfl,rfl⟩;refine⟨rfl,by simp[wkX],?_⟩;have hst:decide (((Zam l bad).Zvq t.item t.day).2=0)=stM l bad t.item t.day:=rfl;rw[hst];cases hs:stM l bad t.item t.day with
    |false=>
     rw[if_neg (by simp[hs])]at hv;rw[hs]at hpn;have hn:=hnext rs (sp++[(t.item,t.day)]) (by omega) hv;simp[-getElem?_pos,wkX,hkey,hpn,hw];exact⟨_,_,hmeas,Sub.mk (by simp[vdS]) (by simp[vdS,wkX]),hn⟩
    |true=>
     rw[hs]at hpn;simp[-getElem?_pos,wkX,hkey,hpn,hw];have hgc:=ZrM l bad ls (ttsP ts) rn hl hb x.num t.item t.day t.rd x.limit (hfit t hmem);refine cM [.ptr (.par 0) 0,.pv (.agg [.int .i64 x.num,.int .i64 t.item,.int .i64 t.day,.int .i64 t.rd]),.pv (.int .i64 x.limit)] [(.par 0,(wkX (ctsP l) (.lst false 1 (bad.map iP)) ls (ttsP ts) rn))] 58 [.par 0] (by simp[wkX]) hgc (by simp[wkX]) ?_;rw[if_pos ⟨hlo,hs⟩]at hv;have hgd:decide (x.limit≤t.rd+((Zam l bad).Zvf t.item t.day).1.lo)=gdM l bad x.limit t:=rfl;rw[hgd];clear hgd hgc;have h1:rs.length+1≤1000000:=by omega
     generalize gdM l bad x.limit t=gv at hv ⊢;simp[-getElem?_pos,wkX,h1,nble];refine .inl (cQ [] [x.pv] (Zih x.num x.pieces x.limit x.passed) ?_);simp[-getElem?_pos];refine Zac (as':=[.pv (planP x.pieces),.vec (.par 0) 1 0 (rs++[!gv]).length]) (B:=[(.par 0,.arr 4 1 ((rs++[!gv]).map .bool))]) (fs:=[]) (cs:=[]) 66 [.loc 61 0] ?_ rfl rfl ?_ ?_ ?_ (Zjo x.pieces h4 h30 (rs++[!gv]) (by simp;omega)) ?_
     ·first|rfl|simp
     ·first|rfl|simp
     ·first|rfl|simp
     ·first|rfl|simp
     rintro r0 B0 ⟨rfl,rfl⟩;refine⟨rfl,by simp,?_⟩;have hn:=hnext (rs++[!gv]) (sp++[(t.item,t.day)]) (by simp;omega);generalize planM (rs++[!gv])=pm at hv ⊢;obtain⟨v,mo,er⟩:=pm;by_cases h3:v=3
     ·subst h3;have hn:=hn hv;simp[-getElem?_pos,planE,hw];exact⟨_,_,hmeas,Sub.mk (by simp[vdS]) (by simp[vdS,wkX]),hn⟩
     ·rw[if_neg h3]at hv;simp[-getElem?_pos,planE,h3];rw[←hR,←hv];exact⟨rfl,by simp[wkX]⟩
  ·rw[if_neg (fun h=>hlo h.1)]at hv;have hn:=hnext rs sp (by omega) hv;simp[-getElem?_pos,-List.getElem?_map,vdS,wkX,hlt,hg,nblt,nble,setAt,hlo,hw];exact⟨_,_,hmeas,Sub.mk (by simp[vdS]) (by simp[vdS,wkX]),hn⟩
 ·have he:k=ts.length:=by omega
  subst he;rw[List.drop_eq_nil_of_le (ZxR _)]at hv;rw[ZhV]at hv;simp[-getElem?_pos,vdS,wkX];rw[←hR,hv];exact⟨rfl,by simp[wkX]⟩
end
section
attribute [local simp] frzsL retOk renB toLoc
theorem Zjw {x:Int}:∀{l:List Int},l.Pairwise (·<·)→x∈l→l[lowB l x]?=some x
 |y::r,hs,h=>by
  obtain⟨h1,h2⟩:=List.pairwise_cons.1 hs;unfold lowB;rw[Zyt];by_cases hy:y<x
  ·rw[if_pos (by simpa using hy)];have hm:x∈r:=by
    rcases Zx2.1 h with rfl|h
    ·omega
    ·exact h
   exact Zjw h2 hm
  ·rw[if_neg (by simpa using hy)];have hx:x=y:=by
    rcases Zx2.1 h with rfl|h
    ·rfl
    ·have:=h1 x h;omega
   subst hx;have hf:r.filter (fun y=>decide (y<x))=[]:=by
    rw[List.filter_eq_nil_iff];intro z hz
    have:=h1 z hz
    simp;omega
   rw[hf];rfl
theorem panW {E:Int→Prop}{n:Int}{τ:AS}{a b c d e:PV}(h1:E n)(h2:τ.b (.par 0)=some (wkX a b c d e)):panF (noR E) (errP n) τ:=by
 refine⟨[.par 0],rfl,fun s hs b hb=>?_,n,rfl,h1,a,b,c,d,e,?_⟩
 ·cases Zyi.1 hs;rw[h2]at hb;cases hb;rfl
 ·unfold AS.exp;rw[h2];rfl
theorem pF (n:Int){E:Int→Prop}{σ:AS}{f:Opd}{args:List Opd}{op:LOp}{lt:Bool}{dst:Option Nat}{a b c d e:PV}(hE:E n)(hop:op=.call f args:=by rfl)(h1:(frzsL [] σ).o f=.pv (.fn 162 [] []):=by rfl)(h2:(frzsL [] σ).pvs args=some [.bool false,.int .i64 n]:=by rfl)(h3:((frzsL [] σ).Zu0 99).b (.par 0)=some (wkX a b c d e):=by rfl):loPan Tryz.prog ⟨dst,none,op,lt⟩ (panF (noR E)) σ:=Zar (d:=99) [] (xs:=[.bool false,.int .i64 n]) (cs:=[]) h1 h2 (ask_f n) hop (fun x hx=>by rw[hx.1];exact panW hE h3) (fun x B hx=>hx.2)
theorem retW (fz:List Site){Q:PV→PV→PV→PV→PV→Prop}{τ:AS}{a b c d e:PV}(h2:(frzL fz τ).b (.par 0)=some (wkX a b c d e))(hq:Q a b c d e):retWp [] (okR Q) τ:=by
 refine⟨fz,[.par 0],[],rfl,rfl,rfl,fun s hs b hb=>?_,rfl,a,b,c,d,e,?_,hq⟩
 ·cases Zyi.1 hs;rw[h2]at hb;cases hb;rfl
 ·unfold AS.exp;rw[h2];rfl
def lotsP (l:List Lt):PV:=.lst false 4 (l.map Lt.pv)
def bdsP (l:List Int):PV:=.lst false 1 (l.map iP)
def passM (v:Lt→Int)(ls:List Lt)(n:Int):Except Int (List Lt):=
 match ls[lowB (ls.map Lt.num) n]? with
 |some x=>if x.num=n then(if x.passed=true then .error 6 else if v x=3 then .error 8 else if v x=1 then .ok (ls.set (lowB (ls.map Lt.num) n) { x with passed:=true })else .error 11)else .error 7
 |none=>.error 7
def wkQ (r:Except Int (List Lt))(l:List Ct)(bad:List Int)(ts:List Tt)(rn:PV)(a b c d e:PV):Prop:=∃ls',r=.ok ls'∧a=ctsP l∧b=bdsP bad∧c=lotsP ls'∧d=ttsP ts∧e=rn
def spFit (l:List Ct)(bad:List Int)(ts:List Tt):Prop:=∀t∈ts,IntKind.i64.wrap (t.rd+((Zam l bad).Zvf t.item t.day).1.lo)=t.rd+((Zam l bad).Zvf t.item t.day).1.lo
def ltOk (x:Lt):Prop:=1≤x.num∧x.num≤99∧4≤x.pieces∧x.pieces≤30
def verdL (l:List Ct)(bad:List Int)(ts:List Tt)(x:Lt):Int:=verdM (stM l bad) (gdM l bad x.limit) x.num ts []
theorem Zub (l:List Ct)(bad:List Int)(ls:List Lt)(ts:List Tt)(rn:PV)(n:Int)(hn:-1000000000<n∧n<1000000000)(hl:l.length≤1000)(hb:bad.length≤1000)(hll:ls.length≤900)(ht:ts.length≤900)(hs:(ls.map Lt.num).Pairwise (·<·))(hok:∀x∈ls,ltOk x)(hfit:spFit l bad ts):
  ZaT Tryz.prog 191 [.ptr (.par 0) 0,.pv (.lst false 1 [iP n])] [(.par 0,wkX (ctsP l) (bdsP bad) (lotsP ls) (ttsP ts) rn)] (okR (wkQ (passM (verdL l bad ts) ls n) l bad ts rn)) (noR (fun e=>passM (verdL l bad ts) ls n=.error e)):=by
 have hfc:=Zoi ls n (ctsP l) (bdsP bad) (ttsP ts) rn hs (by omega) (fun y hy=>by obtain⟨h1,h2,_⟩:=hok y hy;exact wrap64 (by omega));refine cX L191 ?_;generalize hE:(fun e=>passM (verdL l bad ts) ls n=.error e)=E;generalize hQ:wkQ (passM (verdL l bad ts) ls n) l bad ts rn=Q;show awpX _ (.seq _ (.seq _ (.seq _ (.seq _ (.seq _ (.seq _ (.seq _ _))))))) _ _ _;refine Zan ?_;simp[-getElem?_pos,hold,wkX,lotsP];refine cM [.ptr (.par 0) 0,.pv (.int .i64 n)] [(.par 0,wkX (ctsP l) (bdsP bad) (lotsP ls) (ttsP ts) rn)] 12 [.par 0] (by simp[wkX,lotsP]) hfc (by simp[wkX]) ?_;simp[-getElem?_pos,-List.mem_map,hold,wkX];by_cases hm:n∈ls.map Lt.num
 ·have hlo:=Zjw hs hm;rw[ZxM]at hlo;obtain⟨x,hx,hxn⟩:=ZxP.1 hlo;unfold passM at hE hQ;rw[hx]at hE hQ;dsimp only at hE hQ;rw[if_pos hxn]at hE hQ;generalize hi:lowB (ls.map Lt.num) n=i at hx hQ ⊢;refine Zan ?_;simp[-getElem?_pos,-List.mem_map,hold,hm];refine cG [.bool true,.int .i64 7] (ask_t 7) ?_;simp[-getElem?_pos,hold];have hil:i<ls.length:=(ZxN.1 hx).1;have hgx:(ls.map Lt.pv)[i]?=some x.pv:=by rw[ZxM,hx];rfl
  simp only[Lt.pv]at hgx;have hvc:=ZdE l bad (lotsP ls) ts rn x hl hb ht (hok x (ZxQ hx)).2.2.1 (hok x (ZxQ hx)).2.2.2 hfit;cases hps:x.passed with
  |true=>
   rw[hps]at hE hgx;have hE6:E 6:=by rw[←hE];rfl
   refine Zap [_,_,_,_,_,_,_,_,_,_] ?_;simp[-getElem?_pos,-List.getElem?_map,hold,hil,hgx,nblt,nble];exact pF 6 hE6
  |false=>
  rw[hps]at hE hQ hgx;rw[if_neg (by simp)]at hE hQ;refine Zan ?_;simp[-getElem?_pos,-List.getElem?_map,hold,hil,hgx,nblt,nble];refine cG [.bool true,.int .i64 6] (ask_t 6) ?_;simp[-getElem?_pos,hold];refine Zan ?_;simp[-getElem?_pos,-List.getElem?_map,hold,hil,hgx,nblt,nble];refine cM [.ptr (.par 0) 0,.pv (.agg [.int .i64 x.num,.int .i64 x.pieces,.int .i64 x.limit,.bool false])] [(.par 0,(wkX (ctsP l) (bdsP bad) (lotsP ls) (ttsP ts) rn))] 37 [.par 0] (by simp[wkX,lotsP]) (by rw[Lt.pv,hps]at hvc;exact hvc) (by simp[wkX]) ?_;have hvd:verdM (stM l bad) (gdM l bad x.limit) x.num ts []=verdL l bad ts x:=rfl;rw[hvd];clear hvd hvc hfc;generalize verdL l bad ts x=v at hE hQ ⊢;simp[-getElem?_pos,hold,wkX];by_cases h3:v=3
  ·rw[if_pos h3]at hE;have hE8:E 8:=by rw[←hE]
   refine Zap [_,_] ?_;simp[-getElem?_pos,hold,h3];exact pF 8 hE8
  rw[if_neg h3]at hE hQ;refine Zan ?_;simp[-getElem?_pos,hold,h3];refine cG [.bool true,.int .i64 8] (ask_t 8) ?_;simp[-getElem?_pos,hold];by_cases h1:¬v=1
  ·rw[if_neg h1]at hE;have hE11:E 11:=by rw[←hE]
   refine Zap [_,_] ?_;simp[-getElem?_pos,hold,h1];exact pF 11 hE11
  have h1:v=1:=Decidable.not_not.1 h1;rw[if_pos h1]at hQ;refine Zan ?_;simp[-getElem?_pos,hold,h1];refine cG [.bool true,.int .i64 11] (ask_t 11) ?_;simp[-getElem?_pos,hold];refine Zan ?_;simp[-getElem?_pos,hold,lotsP];refine .inl (Za9 [] (fs:=[]) (xs:=[.lst false 4 (ls.map Lt.pv)]) (cs:=[]) (d:=50) rfl rfl (ZgU (ls.map Lt.pv) (by rw[ZxS];omega)) ?_);rintro r B (⟨h,rfl,rfl⟩|⟨rfl,rfl⟩)
  ·rw[List.map_eq_nil_iff.1 h]at hil;exact absurd hil (Nat.not_lt_zero _)
  refine⟨by simp,?_⟩;simp[-getElem?_pos,hold];refine ZbA ?_;simp[-getElem?_pos,-List.getElem?_map,hold,hil,hgx,nblt,nble,setAt];have hset:(ls.map Lt.pv).set i (.agg [.int .i64 x.num,.int .i64 x.pieces,.int .i64 x.limit,.bool true])=(ls.set i { x with passed:=true }).map Lt.pv:=by rw[List.map_set];rfl
  rw[hset];have htk:List.take ls.length ((ls.set i { x with passed:=true }).map Lt.pv)=(ls.set i { x with passed:=true }).map Lt.pv:=ZxW (by simp);refine retW (a:=ctsP l) (b:=bdsP bad) (c:=lotsP (ls.set i { x with passed:=true })) (d:=ttsP ts) (e:=rn) [.loc 50 0] ?_ ?_
  ·simp[-List.map_set,frzL,AS.frz,AV.frz,AV.frzL,Box.frz,AS.tidy,AS.ZvF,wkX,lotsP,bdsP,htk]
  ·rw[←hQ];exact⟨_,rfl,rfl,rfl,rfl,rfl,rfl⟩
 ·have hE7:E 7:=by
   rw[←hE];unfold passM;split
   ·rename_i x hx;have hne:¬x.num=n:=fun h=>hm (by rw[←h];exact List.mem_map_of_mem (ZxQ hx))
    rw[if_neg hne]
   ·rfl
  refine Zap [_] ?_;simp[-getElem?_pos,-List.mem_map,hold,hm];exact pF 7 hE7
def manyT (ts:List Tt)(n:Int):Nat:=(ts.filter fun t=>decide (t.lot=n)).length
theorem ZlR {ts:List Tt}{n:Int}{k:Nat}{t:Tt}(h:ts[k]?=some t):manyT (ts.take (k+1)) n=manyT (ts.take k) n+(if t.lot=n then 1 else 0):=by
 unfold manyT;rw[Zx6,h,Zyw,ZxU];congr 1;simp only[Option.toList,Zyt,List.filter_nil];by_cases ht:t.lot=n<;>simp[ht]
theorem Zp1 {ts:List Tt}{n:Int}:manyT ts n≤ts.length:=ZyB _ _
def testM (S:Int→Int→Bool)(v:Lt→Int)(ls:List Lt)(ts:List Tt)(q:Tt):Except Int (List Tt):=
 if(decide (2≤q.item)&&decide (q.item≤5))=true∧(decide (0≤q.day)&&decide (q.day≤1000))=true∧(decide (0≤q.rd)&&decide (q.rd≤2000))=true then
  (match ls[lowB (ls.map Lt.num) q.lot]? with
  |some x=>if x.num=q.lot then(if x.passed=true then .error 8 else if v x=3 then(if(manyT ts q.lot:Int)<x.pieces then(if S q.item q.day=true then .ok (ts++[q])else .error 10)else .error 3)else .error 8)else .error 7
  |none=>.error 7)
 else .error 2
def tsQ (r:Except Int (List Tt))(l:List Ct)(bad:List Int)(ls:List Lt)(rn:PV)(a b c d e:PV):Prop:=∃ts',r=.ok ts'∧a=ctsP l∧b=bdsP bad∧c=lotsP ls∧d=ttsP ts'∧e=rn
def tsS (W:Box)(x:Lt)(q:Tt)(ts:List Tt)(k:Nat):AS:=
 ⟨[(0,.ptr (.par 0) 0),(1,.pv (.lst false 1 [.int .i64 q.lot,.int .i64 q.item,.int .i64 q.day,.int .i64 q.rd])),(6,.ptr (.loc 6 0) 0),(7,.pv (.int .i64 ((manyT (ts.take k) q.lot:Nat):Int))),(60,.pv (.lst false 4 (ts.map Tt.pv))),(61,.pv (.int .i64 ts.length)),(62,.pv (.int .i64 (k:Int)))],
  [(.loc 6 0,.cells [.pv (.int .i64 x.num),.pv (.int .i64 x.pieces),.pv (.int .i64 x.limit),.pv (.bool false)]),(.par 0,W)]⟩
theorem Zt1 (l:List Ct)(bad:List Int)(ls:List Lt)(ts:List Tt)(rn:PV)(q:Tt)(hn:-1000000000<q.lot∧q.lot<1000000000)(hl:l.length≤1000)(hb:bad.length≤1000)(hll:ls.length≤900)(ht:ts.length≤900)(hs:(ls.map Lt.num).Pairwise (·<·))(hok:∀x∈ls,ltOk x)(hfit:spFit l bad ts):
  ZaT Tryz.prog 190 [.ptr (.par 0) 0,.pv (.lst false 1 [iP q.lot,iP q.item,iP q.day,iP q.rd])] [(.par 0,wkX (ctsP l) (bdsP bad) (lotsP ls) (ttsP ts) rn)] (okR (tsQ (testM (stM l bad) (verdL l bad ts) ls ts q) l bad ls rn)) (noR (fun e=>testM (stM l bad) (verdL l bad ts) ls ts q=.error e)):=by
 have hfc:=Zoi ls q.lot (ctsP l) (bdsP bad) (ttsP ts) rn hs (by omega) (fun y hy=>by obtain⟨h1,h2,_⟩:=hok y hy;exact wrap64 (by omega));have w1:=Zbo q.item 2 5;have w2:=Zbo q.day 0 1000;have w3:=Zbo q.rd 0 2000;refine cX L190 ?_;generalize hE:(fun e=>testM (stM l bad) (verdL l bad ts) ls ts q=.error e)=E;generalize hQ:tsQ (testM (stM l bad) (verdL l bad ts) ls ts q) l bad ls rn=Q;unfold testM at hE hQ;generalize(decide (2≤q.item)&&decide (q.item≤5))=c1 at w1 hE hQ;generalize(decide (0≤q.day)&&decide (q.day≤1000))=c2 at w2 hE hQ;generalize(decide (0≤q.rd)&&decide (q.rd≤2000))=c3 at w3 hE hQ;show awpX _ (.seq _ (.seq _ (.seq _ _))) _ _ _;by_cases hc:¬(c1=true∧c2=true∧c3=true)
 ·have hE2:E 2:=by rw[←hE,if_neg hc]
  refine Zap [_,_,_,_,_,_,_,_,_,_,_,_,_,_,_,_] ?_;simp[-getElem?_pos,hold,iP];refine cG [.int .i64 q.item,.int .i64 2,.int .i64 5] w1 ?_;cases c1 with
  |false=>
   simp[-getElem?_pos,hold];exact pF 2 hE2
  |true=>
  simp[-getElem?_pos,hold];refine cG [.int .i64 q.day,.int .i64 0,.int .i64 1000] w2 ?_;cases c2 with
  |false=>
   simp[-getElem?_pos,hold];exact pF 2 hE2
  |true=>
  simp[-getElem?_pos,hold];refine cG [.int .i64 q.rd,.int .i64 0,.int .i64 2000] w3 ?_;cases c3 with
  |false=>
   simp[-getElem?_pos,hold];exact pF 2 hE2
  |true=>exact absurd ⟨rfl,rfl,rfl⟩ hc
 have hc:=Decidable.not_not.1 hc;rw[if_pos hc]at hE hQ;obtain⟨rfl,rfl,rfl⟩:=hc;refine Zan ?_;simp[-getElem?_pos,hold,iP];refine cG [.int .i64 q.item,.int .i64 2,.int .i64 5] w1 ?_;simp[-getElem?_pos,hold];refine cG [.int .i64 q.day,.int .i64 0,.int .i64 1000] w2 ?_;simp[-getElem?_pos,hold];refine cG [.int .i64 q.rd,.int .i64 0,.int .i64 2000] w3 ?_;simp[-getElem?_pos,hold];refine cG [.bool true,.int .i64 2] (ask_t 2) ?_;simp[-getElem?_pos,hold];refine Zan ?_;simp[-getElem?_pos,hold,wkX,lotsP];refine cM [.ptr (.par 0) 0,.pv (.int .i64 q.lot)] [(.par 0,wkX (ctsP l) (bdsP bad) (lotsP ls) (ttsP ts) rn)] 33 [.par 0] (by simp[wkX,lotsP]) hfc (by simp[wkX]) ?_;simp[-getElem?_pos,-List.mem_map,hold,wkX];by_cases hm:¬q.lot∈ls.map Lt.num
 ·have hE7:E 7:=by
   rw[←hE];split
   ·rename_i x hx;have hne:¬x.num=q.lot:=fun h=>hm (by rw[←h];exact List.mem_map_of_mem (ZxQ hx))
    rw[if_neg hne]
   ·rfl
  refine Zap [_] ?_;simp[-getElem?_pos,-List.mem_map,hold,hm];exact pF 7 hE7
 have hm:=Decidable.not_not.1 hm;have hlo:=Zjw hs hm;rw[ZxM]at hlo;obtain⟨x,hx,hxn⟩:=ZxP.1 hlo;rw[hx]at hE hQ;dsimp only at hE hQ;rw[if_pos hxn]at hE hQ;generalize hi:lowB (ls.map Lt.num) q.lot=i at hx hQ ⊢;have hil:i<ls.length:=(ZxN.1 hx).1;have hgx:(ls.map Lt.pv)[i]?=some x.pv:=by rw[ZxM,hx];rfl
 simp only[Lt.pv]at hgx;have hvc:=ZdE l bad (lotsP ls) ts rn x hl hb ht (hok x (ZxQ hx)).2.2.1 (hok x (ZxQ hx)).2.2.2 hfit;refine Zan ?_;simp[-getElem?_pos,-List.mem_map,hold,hm];refine cG [.bool true,.int .i64 7] (ask_t 7) ?_;simp[-getElem?_pos,hold];refine Zan ?_;simp[-getElem?_pos,-List.getElem?_map,hold,hil,hgx,nblt,nble,setAt];have pan8:∀τ:AS,E 8→τ.b (.par 0)=some (wkX (ctsP l) (bdsP bad) (lotsP ls) (ttsP ts) rn)→panF (noR E) (errP 8) τ:=fun τ h1 h2=>panW h1 h2
 cases hps:x.passed with
 |true=>
  rw[hps]at hE;have hE8:E 8:=by rw[←hE];rfl
  refine Zap [_,_,_,_,_,_,_,_,_] ?_;simp[-getElem?_pos,hold];exact pF 8 hE8
 |false=>
 rw[hps]at hE hQ;rw[if_neg (by simp)]at hE hQ;have hvd:verdM (stM l bad) (gdM l bad x.limit) x.num ts []=verdL l bad ts x:=rfl;rw[hvd]at hvc;clear hvd hfc;generalize verdL l bad ts x=v at hE hQ hvc;rw[Lt.pv,hps]at hvc;by_cases h3:¬v=3
 ·rw[if_neg h3]at hE;have hE8:E 8:=by rw[←hE]
  refine Zap [_,_,_,_,_,_,_,_,_] ?_;simp[-getElem?_pos,hold];refine cM [.ptr (.par 0) 0,.pv (.agg [.int .i64 x.num,.int .i64 x.pieces,.int .i64 x.limit,.bool false])] [(.par 0,(wkX (ctsP l) (bdsP bad) (lotsP ls) (ttsP ts) rn))] 52 [.par 0] (by simp[wkX,lotsP]) hvc (by simp[wkX]) ?_;simp[-getElem?_pos,hold,wkX,h3];exact pF 8 hE8
 have h3:=Decidable.not_not.1 h3;rw[if_pos h3]at hE hQ;refine Zan ?_;simp[-getElem?_pos,hold];refine cM [.ptr (.par 0) 0,.pv (.agg [.int .i64 x.num,.int .i64 x.pieces,.int .i64 x.limit,.bool false])] [(.par 0,(wkX (ctsP l) (bdsP bad) (lotsP ls) (ttsP ts) rn))] 52 [.par 0] (by simp[wkX,lotsP]) hvc (by simp[wkX]) ?_;simp[-getElem?_pos,hold,wkX,h3];refine cG [.bool true,.int .i64 8] (ask_t 8) ?_;simp[-getElem?_pos,hold];refine Zan ?_;simp[-getElem?_pos,hold];refine Zan ?_;simp[-getElem?_pos,hold,ttsP];refine Zaf (fun m τ=>∃k:Nat,k≤ts.length∧m=ts.length-k∧τ=tsS (wkX (ctsP l) (bdsP bad) (lotsP ls) (ttsP ts) rn) x q ts k) ⟨ts.length,tsS (wkX (ctsP l) (bdsP bad) (lotsP ls) (ttsP ts) rn) x q ts 0,Sub.mk (by simp[tsS,manyT]) (by simp[tsS,wkX,bdsP,lotsP,ttsP]),0,Zx0 _,rfl,rfl⟩ ?_;rintro J hJ m τ ⟨k,hk,rfl,rfl⟩;by_cases hlt:k<ts.length
 ·obtain⟨t,hxt⟩:∃t,ts[k]?=some t:=⟨ts[k],ZxL hlt⟩;have hg:(ts.map Tt.pv)[k]?=some t.pv:=by rw[ZxM,hxt];rfl
  simp only[Tt.pv]at hg;have hw:=wrapK (k:=k) (by omega);have hm1:=Zp1 (ts:=ts.take k) (n:=q.lot);rw[ZxT]at hm1;have hw2:=wrapK (k:=manyT (ts.take k) q.lot) (by omega);have hmeas:ts.length-(k+1)<ts.length-k:=by omega
  have hn:=hJ (ts.length-(k+1)) _ ⟨k+1,hlt,rfl,rfl⟩;unfold tsS at hn;rw[ZlR hxt]at hn;by_cases htl:t.lot=q.lot
  ·rw[if_pos htl]at hn;simp[-getElem?_pos,-List.getElem?_map,tsS,wkX,hlt,hg,nblt,nble,setAt,hw,hw2,htl,hxn];exact⟨_,_,hmeas,Sub.mk (by simp[hxn]) (by simp[wkX,hxn]),hn⟩
  ·rw[if_neg htl]at hn;simp[-getElem?_pos,-List.getElem?_map,tsS,wkX,hlt,hg,nblt,nble,setAt,hw,htl,hxn];exact⟨_,_,hmeas,Sub.mk (by simp[hxn]) (by simp[wkX,hxn]),hn⟩
 have he:k=ts.length:=by omega
 subst he;simp[-getElem?_pos,tsS,hold,wkX];by_cases hmp:¬(manyT ts q.lot:Int)<x.pieces
 ·rw[if_neg hmp]at hE;have hE3:E 3:=by rw[←hE]
  refine Zap [_,_,_,_] ?_;simp[-getElem?_pos,hold,hmp];exact pF 3 hE3
 have hmp:=Decidable.not_not.1 hmp;rw[if_pos hmp]at hE hQ;refine Zan ?_;simp[-getElem?_pos,hold,hmp];refine cG [.bool true,.int .i64 3] (ask_t 3) ?_;simp[-getElem?_pos,hold];refine Zan ?_;simp[-getElem?_pos,hold,setAt];have hsc:=ZdG l bad (lotsP ls) (ttsP ts) rn hl hb q.lot q.item q.day q.rd;have hst:decide (((Zam l bad).Zvq q.item q.day).2=0)=stM l bad q.item q.day:=rfl;rw[hst]at hsc;clear hst;cases hsv:stM l bad q.item q.day with
 |false=>
  rw[hsv]at hE hsc;have hE10:E 10:=by rw[←hE];rfl
  refine Zap [_,_,_] ?_;simp[-getElem?_pos,hold];refine cM [.ptr (.par 0) 0,.pv (.agg [.int .i64 q.lot,.int .i64 q.item,.int .i64 q.day,.int .i64 q.rd])] [(.par 0,(wkX (ctsP l) (bdsP bad) (lotsP ls) (ttsP ts) rn))] 94 [.par 0] (by simp[wkX,bdsP,lotsP,ttsP]) hsc (by simp[wkX]) ?_;simp[-getElem?_pos,hold,wkX];exact pF 10 hE10
 |true=>
 rw[hsv]at hQ hsc;rw[if_pos rfl]at hQ;refine Zan ?_;simp[-getElem?_pos,hold];refine cM [.ptr (.par 0) 0,.pv (.agg [.int .i64 q.lot,.int .i64 q.item,.int .i64 q.day,.int .i64 q.rd])] [(.par 0,(wkX (ctsP l) (bdsP bad) (lotsP ls) (ttsP ts) rn))] 94 [.par 0] (by simp[wkX,bdsP,lotsP,ttsP]) hsc (by simp[wkX]) ?_;simp[-getElem?_pos,hold,wkX];refine cG [.bool true,.int .i64 10] (ask_t 10) ?_;simp[-getElem?_pos,hold];refine ZbA ?_;simp[-getElem?_pos,hold,ttsP];refine .inl (cQ [] [.lst false 4 (ts.map Tt.pv),.agg [.int .i64 q.lot,.int .i64 q.item,.int .i64 q.day,.int .i64 q.rd]] (ZoL (ts.map Tt.pv) q.lot q.item q.day q.rd (by rw[ZxS];omega)) ?_);simp[-getElem?_pos,hold];have hap:ts.map Tt.pv++[.agg [.int .i64 q.lot,.int .i64 q.item,.int .i64 q.day,.int .i64 q.rd]]=(ts++[q]).map Tt.pv:=by rw[Zyb];rfl
 rw[hap];refine retW (a:=ctsP l) (b:=bdsP bad) (c:=lotsP ls) (d:=ttsP (ts++[q])) (e:=rn) [] ?_ ?_
 ·simp[-List.map_append,frzL,wkX,ttsP,bdsP]
 ·rw[←hQ];exact⟨_,rfl,rfl,rfl,rfl,rfl,rfl⟩
end
end
section
section
attribute [local simp] Box.Zu0 Site.Zu1
theorem ZqJ (l:List Ct)(h0:l≠[])(hl:l.length≤1000000):Zai Tryz.prog 42 [.pv (ctsP l)] [] (fun r B=>r=.vec (.ret 0) 7 0 l.length∧B=[(.ret 0,.arr 47 7 (l.map Ct.pv))]):=by
 refine cB [.loc 7 0] L42 ?_;cases l with
 |nil=>exact absurd rfl h0
 |cons a l=>
  have h1:l.length+1≤1000000:=by simpa using hl
  have hm:(l.map Ct.pv).take l.length=l.map Ct.pv:=ZxW (by simp);simp[-getElem?_pos,L42,ctsP,nilOf,nble,h1,hm,retB,Zau,AS.exp,expG,Box.ren,AV.map,AV.Zu9,noRet,Site.Zu6,Box.Zu3,AV.Zu3,AV.Zu4,Zyc]
end
attribute [local simp] AS.exp expG Box.ren AV.map AV.Zu9 Zau noRet Site.Zu6 Box.Zu3 AV.Zu3 AV.Zu4 retB dropL AS.Zvd renL outG outOk Zas inG fnOf lookA Zyc
attribute [local simp] Box.Zu0 Site.Zu1
theorem Ztw {X:List Ct}{w:Nat}{r:Ct}:(X.map Ct.pv).set w (.agg [.int .i64 r.num,.int .i64 r.it,.int .i64 r.src,.int .i64 r.day,.int .i64 r.valid,.int .i64 r.diff.lo,.int .i64 r.diff.hi])=(X.set w r).map Ct.pv:=by rw[List.map_set];rfl
theorem Zl8 {α:Type}{l:List α}{k:Nat}{x:α}{p:α→Bool}(h:l[k]?=some x)(hp:p x=true)(hinv:∀(j:Nat) (y:α),j<k→l[j]?=some y→p y=false):l.findIdx? p=some k:=by
 obtain⟨hlt,e⟩:=ZxN.1 h;rw[Zyy];refine⟨hlt,by rw[e];exact hp,fun j hj=>?_⟩
 have:=hinv j l[j] hj (ZxL (by omega))
 simp[this]
theorem Zqr {α:Type}{l:List α}{p:α→Bool}(hinv:∀(j:Nat) (y:α),j<l.length→l[j]?=some y→p y=false):l.findIdx? p=none:=by
 rw[Zyz];intro x hx;obtain⟨j,hj⟩:=ZxV.1 hx;exact hinv j x (ZxN.1 hj).1 hj
theorem Zl7 {α:Type}{l:List α}{p:α→Bool}{i:Nat}(h:l.findIdx? p=some i):i<l.length∧l.take i=(l.take (i+1)).filter (fun n=>!p n):=by
 obtain⟨h1,h2,h3⟩:=Zyy.1 h;refine⟨h1,?_⟩;rw[Zx6,ZxL h1,Zyw];have e:(Option.some l[i]).toList.filter (fun n=>!p n)=[]:=by simp[h2]
 rw[e,Zx9,List.filter_eq_self.2];intro x hx;obtain⟨j,hj⟩:=ZxV.1 hx;rw[Zx1]at hj;split at hj
 ·rename_i hji;obtain⟨q1,q2⟩:=ZxN.1 hj
  have:=h3 j hji
  rw[q2]at this;simpa using this
 ·cases hj
theorem ZiM {α:Type}{l:List α}{p:α→Bool}(h:l.findIdx? p=none):l.filter (fun n=>!p n)=l:=by
 rw[List.filter_eq_self];intro x hx
 have:=Zyz.1 h x hx
 simp[this]
def deB (d:Int)(m:Nat):List Box:=[.cells [.pv (.int .i64 d)]]
theorem predT (d:Int)(c:Ct)(_:True):Zai Tryz.prog 43 [.pv c.pv,.ptr (.par 0) 0] (laid 0 (deB d 0)) (fun r B=>r=.pv (.bool (decide (c.num=d)))∧B=laid 0 (deB d 0)):=by
 refine cB [.par 0] L43 ?_;simp[-getElem?_pos,L43,deB,laid,Ct.pv]
section
variable (d:Int)
theorem ixT (l:List Ct)(hl:l.length≤1000)(hin:∀c∈l,True):
  Zai Tryz.prog 90 [.vec (.par 0) 7 0 l.length,(.fn 43 [] [.ptr (.par 1) 0])] (laid 0 (.arr 47 7 (l.map Ct.pv)::deB d 1)) (fun x B=>x=.pv (.int .i64 (ixI (l.findIdx? (fun c:Ct=>decide (c.num=d)))))∧B=laid 0 (.arr 47 7 (l.map Ct.pv)::deB d 1)):=by
 refine cBR [.par 0,.par 1] L90 ?_;intro R hR;simp[-getElem?_pos,L90,deB,laid];refine Zaf (fun n τ=>∃k:Nat,k≤l.length∧n=l.length-k∧(∀(j:Nat) (y:Ct),j<k→l[j]?=some y→(fun c:Ct=>decide (c.num=d)) y=false)∧τ=⟨[(0,.vec (.par 0) 7 0 l.length),(1,(.fn 43 [] [.ptr (.par 1) 0])),(7,.pv (.int .i64 l.length)),(8,.pv (.int .i64 k))],laid 0 (.arr 47 7 (l.map Ct.pv)::deB d 1)⟩)
  ⟨l.length,⟨[(0,.vec (.par 0) 7 0 l.length),(1,(.fn 43 [] [.ptr (.par 1) 0])),(7,.pv (.int .i64 l.length)),(8,.pv (.int .i64 0))],laid 0 (.arr 47 7 (l.map Ct.pv)::deB d 1)⟩,Sub.mk (by simp) (by simp[deB,laid]),0,Zx0 _,rfl,(fun j y hj=>by omega),rfl⟩ ?_
 rintro J hJ n τ ⟨k,hk,rfl,hinv,rfl⟩;by_cases hlt:k<l.length
 ·obtain⟨r,hx⟩:∃x,l[k]?=some x:=⟨l[k],ZxL hlt⟩;have hg:(l.map Ct.pv)[k]?=some (.agg [.int .i64 r.num,.int .i64 r.it,.int .i64 r.src,.int .i64 r.day,.int .i64 r.valid,.int .i64 r.diff.lo,.int .i64 r.diff.hi]):=by rw[ZxM,hx];rfl
  have hw:=wrapK (k:=k) (by omega);have hmeas:l.length-(k+1)<l.length-k:=by omega
  have hC:=predT d r (hin r (ZxQ hx));have hnext:(fun c:Ct=>decide (c.num=d)) r=false→J (l.length-(k+1)) _:=fun hn=>hJ _ _ ⟨k+1,hlt,rfl,(fun j y hj hy=>by
   rcases ZyD.1 hj with h|h
   ·exact hinv j y h hy
   ·subst h;rw[hx]at hy;cases hy;exact hn),rfl⟩
  clear hJ;simp[-getElem?_pos,-List.getElem?_map,deB,laid,hlt,hg,nblt,nble];refine cM [.pv r.pv,.ptr (.par 0) 0] (laid 0 (deB d 0)) 16 [.par 1] (by simp[deB,laid]) hC (by simp[deB,laid]) ?_;cases hgv:(fun c:Ct=>decide (c.num=d)) r with
  |false=>
   have hround:=hnext hgv;have hgv':(decide (r.num=d))=false:=hgv;simp[-getElem?_pos,-List.getElem?_map,deB,laid,hw,hgv'];refine⟨_,_,hmeas,Sub.mk ?_ ?_,hround⟩
   ·simp
   ·simp[deB,laid]
  |true=>
   have hf:=Zl8 hx hgv hinv;have hgv':(decide (r.num=d))=true:=hgv;simp[-getElem?_pos,-List.getElem?_map,deB,laid,hgv'];rw[←hR,hf];simp[deB,laid,ixI]
 ·have he:k=l.length:=by omega
  subst he;have hf:=Zqr hinv;clear hJ;simp[-getElem?_pos,-List.getElem?_map,deB,laid];rw[←hR,hf];simp[deB,laid,ixI]
theorem delT (l:List Ct)(hl:l.length≤1000)(hin:∀c∈l,True):
  Zai Tryz.prog 41 [.vec (.par 0) 7 0 l.length,(.fn 43 [] [.ptr (.par 1) 0])] (laid 0 (.arr 47 7 (l.map Ct.pv)::deB d 1)) (fun x B=>x=.vec (.par 0) 7 0 (l.filter (fun n=>!(fun c:Ct=>decide (c.num=d)) n)).length∧∃X:List Ct,X.take (l.filter (fun n=>!(fun c:Ct=>decide (c.num=d)) n)).length=l.filter (fun n=>!(fun c:Ct=>decide (c.num=d)) n)∧B=laid 0 (.arr 47 7 (X.map Ct.pv)::deB d 1)):=by
 have hC:=ixT d l hl hin;refine cBR [.par 0,.par 1] L41 ?_;intro R hR;simp[-getElem?_pos,L41,deB,laid];refine cM [.vec (.par 0) 7 0 l.length,(.fn 43 [] [.ptr (.par 1) 0])] (laid 0 (.arr 47 7 (l.map Ct.pv)::deB d 1)) 10 [.par 0,.par 1] (by simp[deB,laid]) hC (by simp[deB,laid]) ?_;cases hx:l.findIdx? (fun c:Ct=>decide (c.num=d))with
 |none=>
  have hfl:=ZiM hx;simp[-getElem?_pos,deB,laid,ixI];rw[←hR,hfl];exact⟨rfl,l,by simp,by simp[deB,laid]⟩
 |some i=>
  obtain⟨hi,hti⟩:=Zl7 hx;have hw1:=wrapK (k:=i) (by omega);have hni:¬((i:Int) = -1):=by omega
  clear hC;simp[-getElem?_pos,deB,laid,ixI,hw1,hni];refine Zaf (fun n τ=>∃(j:Nat) (X K:List Ct),j≤l.length∧n=l.length-j∧X.length=l.length∧K=(l.take j).filter (fun n=>!(fun c:Ct=>decide (c.num=d)) n)∧X.take K.length=K∧X.drop j=l.drop j∧K.length<j∧τ=⟨[(0,.vec (.par 0) 7 0 l.length),(1,(.fn 43 [] [.ptr (.par 1) 0])),(5,.pv (.int .i64 K.length)),(6,.pv (.int .i64 j))],laid 0 (.arr 47 7 (X.map Ct.pv)::deB d 1)⟩)
   ⟨l.length-(i+1),⟨[(0,.vec (.par 0) 7 0 l.length),(1,(.fn 43 [] [.ptr (.par 1) 0])),(5,.pv (.int .i64 i)),(6,.pv (.int .i64 (i+1:Nat)))],laid 0 (.arr 47 7 (l.map Ct.pv)::deB d 1)⟩,Sub.mk (by simp) (by simp[deB,laid]),i+1,l,l.take i,by omega,rfl,rfl,hti,by simp,rfl,by rw[ZxT];omega,by rw[ZxT,Nat.min_eq_left (by omega)]⟩ ?_
  clear hx hw1 hni hti;rintro J hJ n τ ⟨j,X,K,hj,rfl,hXl,hKe,hXt,hXd,hKj,rfl⟩;by_cases hlt:j<l.length
  ·obtain⟨r,hxr⟩:∃x,l[j]?=some x:=⟨l[j],ZxL hlt⟩;have hXr:X[j]?=some r:=by
    have h1:(X.drop j)[0]?=(l.drop j)[0]?:=by rw[hXd]
    rw[Zx3,Zx3,Nat.add_zero]at h1;rw[h1];exact hxr
   have hg:(X.map Ct.pv)[j]?=some (.agg [.int .i64 r.num,.int .i64 r.it,.int .i64 r.src,.int .i64 r.day,.int .i64 r.valid,.int .i64 r.diff.lo,.int .i64 r.diff.hi]):=by rw[ZxM,hXr];rfl
   have hw:=wrapK (k:=j) (by omega);have hw2:=wrapK (k:=K.length) (by omega);have hmeas:l.length-(j+1)<l.length-j:=by omega
   have hC:=predT d r (hin r (ZxQ hxr));have hdn:X.drop (j+1)=l.drop (j+1):=by
    have:=congrArg List.tail hXd
    simpa[List.tail_drop]using this
   have hKl:K.length<X.length:=by omega
   have htn:(l.take (j+1)).filter (fun n=>!(fun c:Ct=>decide (c.num=d)) n)=K++(if(!(fun c:Ct=>decide (c.num=d)) r)=true then[r]else[]):=by
    rw[Zx6,hxr,Zyw,←hKe];congr 1;simp only[Option.toList,Zyt,List.filter_nil]
   have hset:∀Y,Y=X.set K.length r→(fun c:Ct=>decide (c.num=d)) r=false→J (l.length-(j+1)) ⟨[(0,.vec (.par 0) 7 0 l.length),(1,(.fn 43 [] [.ptr (.par 1) 0])),(5,.pv (.int .i64 (K.length+1:Nat))),(6,.pv (.int .i64 (j+1:Nat)))],laid 0 (.arr 47 7 (Y.map Ct.pv)::deB d 1)⟩:=fun Y hY hn=>hJ _ _ ⟨j+1,Y,K++[r],hlt,rfl,by rw[hY,List.length_set];exact hXl,by rw[htn,if_pos (by simp[hn])],by
    rw[hY,ZxU];show List.take (K.length+1) _=_;rw[Zx6,ZyA hKl,List.take_set_of_le (ZxR _),hXt];rfl,by rw[hY,List.drop_set_of_lt (by omega)];exact hdn,by simp;omega,by simp⟩
   have hgot:(fun c:Ct=>decide (c.num=d)) r=true→J (l.length-(j+1)) ⟨[(0,.vec (.par 0) 7 0 l.length),(1,(.fn 43 [] [.ptr (.par 1) 0])),(5,.pv (.int .i64 K.length)),(6,.pv (.int .i64 (j+1:Nat)))],laid 0 (.arr 47 7 (X.map Ct.pv)::deB d 1)⟩:=fun hn=>hJ _ _ ⟨j+1,X,K,hlt,rfl,hXl,by rw[htn,if_neg (by simp[hn]),Zx9],hXt,hdn,by omega,rfl⟩
   clear hJ;have hKn:K.length<l.length:=by omega
   have hlt2:j<X.length:=by omega
   obtain⟨u,hu⟩:∃u,X[K.length]?=some u:=⟨_,ZxL hKl⟩;have hKx:(X.map Ct.pv)[K.length]?=some (.agg [.int .i64 u.num,.int .i64 u.it,.int .i64 u.src,.int .i64 u.day,.int .i64 u.valid,.int .i64 u.diff.lo,.int .i64 u.diff.hi]):=by rw[ZxM,hu];rfl
   have hst:=Ztw (X:=X) (w:=K.length) (r:=r);simp[-getElem?_pos,-List.getElem?_map,deB,laid,hlt,hg,hXl,nblt,nble];refine cM [.pv r.pv,.ptr (.par 0) 0] (laid 0 (deB d 0)) 28 [.par 1] (by simp[deB,laid]) hC (by simp[deB,laid]) ?_;cases hgv:(fun c:Ct=>decide (c.num=d)) r with
   |false=>
    have hround:=hset _ rfl hgv;have hgv':(decide (r.num=d))=false:=hgv;simp[-getElem?_pos,-List.getElem?_map,deB,laid,hgv',hw,hw2,hKn,hKx,hst,nblt,nble,setAt];refine⟨_,_,hmeas,Sub.mk ?_ ?_,hround⟩
    all_goals simp[deB,laid,hw,hw2]
   |true=>
    have hround:=hgot hgv;have hgv':(decide (r.num=d))=true:=hgv;simp[-getElem?_pos,-List.getElem?_map,deB,laid,hgv',hw];refine⟨_,_,hmeas,Sub.mk ?_ ?_,hround⟩
    all_goals simp[deB,laid,hw,hw2]
  ·have he:j=l.length:=by omega
   subst he;rw[Zye]at hKe;clear hJ;have hK2:K.length≤l.length:=by omega
   have hKs:K.length+(l.length-K.length)=l.length:=by omega
   have hsp:splice (X.map Ct.pv) K.length (List.replicate (l.length-K.length) (PV.agg [.int .i64 0,.int .i64 0,.int .i64 0,.int .i64 0,.int .i64 0,.int .i64 0,.int .i64 0]))=(K++List.replicate (l.length-K.length) ct0).map Ct.pv:=by
    unfold splice;rw[List.length_replicate,hKs,List.drop_eq_nil_of_le (by simp;omega),Zx9,←List.map_take,hXt,Zyb,List.map_replicate];rfl
   simp[-getElem?_pos,-List.getElem?_map,-splice,deB,laid,nblt,nble,hK2,hKs,hXl,hsp];rw[←hR,←hKe];exact⟨rfl,K++List.replicate (l.length-K.length) ct0,by simp,by simp[deB,laid]⟩
end
end
section
section
variable {P:Program}{K:AV→AS→Prop}{σ:AS}
theorem ZtD (fz:List Site){f:Opd}{args:List Opd}{d:Nat}{g:FuncId}{fs xs cs:List PV}{R:AV→List (Site×Box)→Prop}{X:Prop}(h1:(frzsL fz σ).o f=.pv (.fn g fs cs))(h2:(frzsL fz σ).pvs args=some xs)
  (hc:Zai P g ((fs++xs++cs).map .pv) [] R) (hK:∀r B,R r B→retOk r B∧K (r.map (toLoc d)) (((frzsL fz σ).Zu0 d).Zvd (renB d B))):Zb8 P f args d K σ∨X:=
 .inl (.inr ⟨fz,g,fs,xs,cs,h1,h2,hc.mono fun r B h=>hK r B h⟩)
end
def Bk.wo (b:Bk)(n:Int):Bk:=⟨b.items,b.certs.filter fun c=>!decide (c.num=n)⟩
theorem ZhT {b:Bk}{n:Int}{c:Ct}(h:c∈(b.wo n).certs):c∈b.certs:=(ZxX.1 h).1
theorem wo_ok {b:Bk}(hb:b.ok)(n:Int):(b.wo n).ok:=
 ⟨hb.i,Zx5 (ZyB _ _) hb.c,hb.it,fun x hx=>hb.ct x (ZhT hx),fun x hx y hy e=>hb.one x (ZhT hx) y (ZhT hy) e,fun x hx y hy e=>hb.day x (ZhT hx) y (ZhT hy) e⟩
def Bk.ZvT (b:Bk)(n:Int):Bool:=!(b.wo n).contra
def Bk.Zvh (b:Bk):List Int×Int:=if b.fault=0 then(if b.contra=true then(b.nums.filter b.ZvT,0)else([],7))else([],b.fault)
attribute [local irreducible] Bk.held Bk.nums Bk.span Bk.contra Bk.ZvT
attribute [local simp] AS.exp expG Box.ren AV.map AV.Zu9 Zau noRet Site.Zu6 Box.Zu3 AV.Zu3 AV.Zu4 retB dropL AS.Zvd renL outG outOk Zas inG fnOf lookA Zyc
attribute [local simp] Box.Zu0 Site.Zu1
attribute [local simp] Zax Zav Zal Zaw ZaQ
attribute [local simp] retFz frzL AS.frz AV.frz AV.frzL Box.frz AS.tidy AS.ZvF
def suK (b:Bk)(k:Nat):AS:=⟨[(1,.ptr (.loc 1 0) 0),(6,.vec (.loc 54 0) 1 0 ((b.nums.take k).filter b.ZvT).length),(29,.pv (.lst false 1 (b.nums.map intP))),(30,.pv (.int .i64 b.nums.length)),(31,.pv (.int .i64 k))],
 [(.loc 54 0,.arr 3 1 (((b.nums.take k).filter b.ZvT).map intP)),(.loc 1 0,.cells b.cells)]⟩
theorem Zmn (b:Bk)(hi:b.items.length≤1000)(hc:b.certs.length≤1000):Zai Tryz.prog 19 ([b.pv].map .pv) [] (fun r B=>r=.pv (lstE b.Zvh)∧B=[]):=by
 have hr:=Zib b hi hc;refine Zai.ZvA ?_;refine cFR [.loc 54 0] L19 ?_;intro R hR;simp[-getElem?_pos,L19,Bk.pv,-retB];refine cL [.pv b.pv] [] 14 [] rfl hr ?_
 rintro r0 B0 (⟨h0,rfl,rfl⟩|⟨h0,es,hes,rfl,rfl⟩)
 ·refine⟨rfl,by simp,?_⟩;have hd:decide (b.fault=0)=false:=by simpa using h0
  simp[-getElem?_pos,-decide_eq_true_eq,-decide_eq_false_iff_not,hd];rw[←hR];exact⟨_,rfl,rfl,Zes (by unfold Bk.Zvh;rw[if_neg h0])⟩
 have hb:b.ok:=Bk.Zvx.1 h0;have hlen:=Zdd (b:=b);have hsp:=Zji b hb es hes;have hH:=Zb5 hb [];have hS:=Zfj hb 1000;have hct:=ZhK b hb es (hEnt b [] b.nums.length) (sEnt b b.nums.length) hes hH hS;refine⟨rfl,by simp[wkC,Zbz],?_⟩;simp[-getElem?_pos,-List.getElem?_map,wkC,Zbz,-retB];refine cM [.ptr (.par 0) 0] (laid 0 (wkB b [] es)) 23 [.loc 14 0,.loc 14 1] (by simp[laid,wkB,wkC]) hsp (by simp[wkC]) ?_;generalize hEnt b [] b.nums.length=hs at *;generalize sEnt b b.nums.length=ss at *;simp[-getElem?_pos,-List.getElem?_map,wkC,-retB];refine cM [.ptr (.par 0) 0] (laid 0 (spB b es hs ss)) 24 [.loc 23 0,.loc 23 1,.loc 23 2,.loc 14 0,.loc 14 1] (by simp[laid,spB,wkC]) hct (by simp[laid,spB,wkC]) ?_;clear hsp hct hr;cases hcn:b.contra
 ·simp[-getElem?_pos,-List.getElem?_map,laid,spB,wkC];rw[←hR];exact⟨_,rfl,rfl,Zes (by unfold Bk.Zvh;rw[if_pos h0,if_neg (by simp[hcn])])⟩
 have hM:b.Zvh=(b.nums.filter b.ZvT,0):=by unfold Bk.Zvh;rw[if_pos h0,if_pos hcn]
 rw[hM]at hR;simp[-getElem?_pos,-List.getElem?_map,laid,spB,wkC,-retB];refine Zaf (fun m τ=>∃k:Nat,k≤b.nums.length∧m=b.nums.length-k∧τ=suK b k) ⟨b.nums.length,suK b 0,Sub.trans' (Sub.mk (by simp[suK,AS.vecT]) (by simp[suK,AS.vecT,Bk.cells])) (vecT 54 3 1 6 rfl (by decide)),0,by omega,rfl,rfl⟩ ?_;rintro J hJ m τ ⟨k,hk,rfl,rfl⟩;have hpl:((b.nums.take k).filter b.ZvT).length≤1000:=Zx5 (ZyB _ _) (by rw[ZxT];omega);by_cases hlt:k<b.nums.length
 ·obtain⟨n,hn⟩:∃n,b.nums[k]?=some n:=⟨_,ZxL hlt⟩;have hgn:(b.nums.map intP)[k]?=some (.int .i64 n):=by rw[ZxM,hn];rfl
  have hwk:=wrapK (k:=k) (by omega);have hround:=hJ _ _ ⟨k+1,hlt,rfl,rfl⟩;have hmeas:b.nums.length-(k+1)<b.nums.length-k:=by omega
  have hnext:(b.nums.take (k+1)).filter b.ZvT=(b.nums.take k).filter b.ZvT++(if b.ZvT n=true then[n]else[]):=by
   rw[Zx6,hn,Zyw];congr 1;simp only[Option.toList,Zyt,List.filter_nil]
  have hne:b.certs≠[]:=fun e=>by
   obtain⟨c,hc,_⟩:=(Zbc hb).1 (ZxQ hn);rw[e]at hc;cases hc
  have hok:=wo_ok hb n;have hf0:(b.wo n).fault=0:=Bk.Zvx.2 hok;have hcl:=hb.c;have hr2:=Zib (b.wo n) (by have:=hok.i;omega) (by have:=hok.c;omega);have hclone:=ZqJ b.certs hne (by omega);have hdel:=delT n b.certs (by omega) (fun _ _=>trivial);have hsu:b.ZvT n=!(b.wo n).contra:=by unfold Bk.ZvT;rfl
  have hwp:(b.wo n).pv=.agg [itsP b.items,.lst false 7 ((b.certs.filter fun c=>!decide (c.num=n)).map Ct.pv)]:=rfl;unfold suK at hround ⊢;rw[hnext,hsu]at hround;clear hJ hnext hsu hR;generalize(b.nums.take k).filter b.ZvT=Y at *;have hY:(Y.map intP).take Y.length=Y.map intP:=ZxW (by simp);have hY6:Y.length≤999999:=by omega
  have hfl:(b.certs.filter fun c=>!decide (c.num=n)).length≤1000:=Zx5 (ZyB _ _) hc;simp[-getElem?_pos,-List.getElem?_map,hlt,hgn,Bk.cells,-retB];refine cM [.pv (ctsP b.certs)] [] 38 [] rfl hclone (by simp) ?_;simp[-getElem?_pos,-List.getElem?_map,-retB];refine cL [.vec (.par 0) 7 0 b.certs.length,.fn 43 [] [.ptr (.par 1) 0]] (laid 0 (.arr 47 7 (b.certs.map Ct.pv)::deB n 1)) 40 [.loc 38 0,.loc 8 0] (by simp[laid,deB]) hdel ?_
  rintro r0 B0 ⟨rfl,X,hX,rfl⟩;simp only at hX;refine⟨rfl,by simp[laid,deB],?_⟩;have hXm:(X.map Ct.pv).take (b.certs.filter fun c=>!decide (c.num=n)).length=(b.certs.filter fun c=>!decide (c.num=n)).map Ct.pv:=by rw[←List.map_take,hX]
  have hXl:(b.certs.filter fun c=>!decide (c.num=n)).length≤X.length:=by
   have:=congrArg List.length hX
   rw[ZxT]at this;omega
  generalize(b.certs.filter fun c=>!decide (c.num=n))=Z at *;simp[-getElem?_pos,-List.getElem?_map,laid,deB,-retB];refine ZtD [.loc 38 0] (fs:=[]) (xs:=[(b.wo n).pv]) (cs:=[]) rfl ?_ hr2 ?_
  ·simp[frzsL,hXm,hXl,hwp]
  rintro r0 B0 (⟨q0,rfl,rfl⟩|⟨q0,es2,hes2,rfl,rfl⟩)
  ·exact absurd hf0 q0
  have hsp2:=Zji (b.wo n) hok es2 hes2;have hH2:=Zb5 hok [];have hS2:=Zfj hok 1000;have hct2:=ZhK (b.wo n) hok es2 (hEnt (b.wo n) [] (b.wo n).nums.length) (sEnt (b.wo n) (b.wo n).nums.length) hes2 hH2 hS2;generalize b.wo n=b2 at *;refine⟨by simp[retOk,wkC,Zbz,Zav],?_⟩;simp[-getElem?_pos,-List.getElem?_map,frzsL,wkC,Zbz,renB,toLoc,hXm,hXl,-retB];refine cM [.ptr (.par 0) 0] (laid 0 (wkB b2 [] es2)) 48 [.loc 44 0,.loc 44 1] (by simp[laid,wkB,wkC]) hsp2 (by simp[wkC]) ?_;generalize hEnt b2 [] b2.nums.length=hs2 at *;generalize sEnt b2 b2.nums.length=ss2 at *;simp[-getElem?_pos,-List.getElem?_map,wkC,-retB];refine cM [.ptr (.par 0) 0] (laid 0 (spB b2 es2 hs2 ss2)) 49 [.loc 48 0,.loc 48 1,.loc 48 2,.loc 44 0,.loc 44 1] (by simp[laid,spB,wkC]) hct2 (by simp[laid,spB,wkC]) ?_;cases hc2:b2.contra
  case true=>
   rw[hc2,if_neg (by simp),Zx9]at hround;simp[-getElem?_pos,-List.getElem?_map,laid,spB,wkC,hwk,-retB];exact⟨_,_,hmeas,Sub.mk (by simp) (by simp[Bk.cells]),hround⟩
  case false=>
  rw[hc2,if_pos (by rfl)]at hround;simp[-getElem?_pos,-List.getElem?_map,laid,spB,wkC,hwk,nble,nblt,hY,hY6,-retB];exact⟨_,_,hmeas,Sub.mk (by simp) (by simp[Bk.cells,intP]),hround⟩
 have he:k=b.nums.length:=by omega
 subst he;clear hJ;unfold suK;rw[Zye]at hpl ⊢;generalize b.nums.filter b.ZvT=Y at *;have hY:(Y.map intP).take Y.length=Y.map intP:=ZxW (by simp);simp[-getElem?_pos,-List.getElem?_map,hY,-retB];rw[←hR];exact⟨_,rfl,rfl,fun m v h=>h⟩
end
section
attribute [local simp] AS.exp expG Box.ren AV.map AV.Zu9 Zau noRet Site.Zu6 Box.Zu3 AV.Zu3 AV.Zu4 retB dropL AS.Zvd renL outG outOk Zas inG fnOf lookA Zyc
attribute [local simp] Box.Zu0 Site.Zu1
section
attribute [local simp] frzsL retOk renB toLoc
attribute [local irreducible] Bk.fault Bk.Zvh
theorem nI3:natI 3=some 3:=rfl
theorem nI4:natI 4=some 4:=rfl
theorem nI5:natI 5=some 5:=rfl
theorem nI6:natI 6=some 6:=rfl
theorem gl4 {α:Type}{a b c d e:α}{l:List α}:(a::b::c::d::e::l)[4]?=some e:=rfl
theorem gl5 {α:Type}{a b c d e f:α}{l:List α}:(a::b::c::d::e::f::l)[5]?=some f:=rfl
theorem gl6 {α:Type}{a b c d e f g:α}{l:List α}:(a::b::c::d::e::f::g::l)[6]?=some g:=rfl
def certM (l:List Ct)(bad:List Int)(x:Ct):Except Int (List Ct):=
 if(l.any fun y=>decide (y.num=x.num))=true then .error 6
 else if Bk.fault ⟨Za0,l++[x]⟩=0 then(if(Zam (l++[x]) bad).Zvh.2=7 then .ok (l++[x])else .error 9)
 else .error (Bk.fault ⟨Za0,l++[x]⟩)
def crQ (r:Except Int (List Ct))(bad:List Int)(ls:PV)(ts:PV)(rn:PV)(a b c d e:PV):Prop:=∃l',r=.ok l'∧a=ctsP l'∧b=bdsP bad∧c=ls∧d=ts∧e=rn
theorem ZuI (l:List Ct)(bad:List Int)(ls ts rn:PV)(x:Ct)(hl:l.length≤900)(hb:bad.length≤1000):
  ZaT Tryz.prog 187 [.ptr (.par 0) 0,.pv (.lst false 1 [iP x.num,iP x.it,iP x.src,iP x.day,iP x.valid,iP x.diff.lo,iP x.diff.hi])] [(.par 0,wkX (ctsP l) (bdsP bad) ls ts rn)] (okR (crQ (certM l bad x) bad ls ts rn)) (noR (fun e=>certM l bad x=.error e)):=by
 have hkc:=ZjC l x.num (bdsP bad) ls ts rn (by omega);refine cX L187 ?_;generalize hE:(fun e=>certM l bad x=.error e)=E;generalize hQ:crQ (certM l bad x) bad ls ts rn=Q;unfold certM at hE hQ;generalize(l.any fun y=>decide (y.num=x.num))=kn at hE hQ hkc;show awpX _ (.seq _ (.seq _ (.seq _ _))) _ _ _;cases kn with
 |true=>
  have hE6:E 6:=by rw[←hE];rfl
  refine Zap [_,_,_,_,_,_] ?_;simp[-getElem?_pos,hold,wkX,iP,ctsP];refine cM [.ptr (.par 0) 0,.pv (.int .i64 x.num)] [(.par 0,wkX (ctsP l) (bdsP bad) ls ts rn)] 9 [.par 0] (by simp[wkX,ctsP]) hkc (by simp[wkX]) ?_;simp[-getElem?_pos,hold,wkX];exact pF 6 hE6
 |false=>
 rw[if_neg (by simp)]at hE hQ;refine Zan ?_;simp[-getElem?_pos,hold,wkX,iP,ctsP];refine cM [.ptr (.par 0) 0,.pv (.int .i64 x.num)] [(.par 0,wkX (ctsP l) (bdsP bad) ls ts rn)] 9 [.par 0] (by simp[wkX,ctsP]) hkc (by simp[wkX]) ?_;simp[-getElem?_pos,hold,wkX];refine cG [.bool true,.int .i64 6] (ask_t 6) ?_;simp[-getElem?_pos,hold];refine Zan ?_;simp[-getElem?_pos,hold,setAt,nI3,nI4,nI5,nI6,gl4,gl5,gl6];refine .inl (cQ [] [.lst false 7 (l.map Ct.pv),x.pv] (ZoN (l.map Ct.pv) x.num x.it x.src x.day x.valid x.diff.lo x.diff.hi (by rw[ZxS];omega)) ?_);have hap:l.map Ct.pv++[.agg [.int .i64 x.num,.int .i64 x.it,.int .i64 x.src,.int .i64 x.day,.int .i64 x.valid,.int .i64 x.diff.lo,.int .i64 x.diff.hi]]=(l++[x]).map Ct.pv:=by rw[Zyb];rfl
 rw[hap];have hLl:(l++[x]).length≤1000:=by rw[ZxU];simp;omega
 generalize l++[x]=L at hE hQ hLl ⊢;clear hap hkc;simp[-getElem?_pos,hold];have hwc:=Zr5 L (bdsP bad) ls ts rn;have hcb:=ZjX ⟨Za0,L⟩ (show Za0.length≤1000 by decide) hLl;generalize hF:Bk.fault ⟨Za0,L⟩=F at hE hQ hcb;refine Zan ?_;simp[-getElem?_pos,hold];refine cM [.ptr (.par 0) 0] [(.par 0,wkX (ctsP L) (bdsP bad) ls ts rn)] 46 [.par 0] (by simp[wkX,ctsP]) hwc (by simp[wkX]) ?_;simp[-getElem?_pos,hold,wkX];refine cG [Bk.pv ⟨Za0,L⟩] hcb ?_;simp[-getElem?_pos,hold];by_cases h0:¬F=0
 ·rw[if_neg h0]at hE;have hEF:E F:=by rw[←hE]
  refine Zap [_,_,_] ?_;simp[-getElem?_pos,hold,h0];exact pF F hEF
 have h0:=Decidable.not_not.1 h0;rw[if_pos h0]at hE hQ;refine Zan ?_;simp[-getElem?_pos,hold,h0];refine cG [.bool true,.int .i64 0] (ask_t 0) ?_;simp[-getElem?_pos,hold];have hrc:=Zha L bad ls ts rn hLl hb;have hsc:=Zmn (Zam L bad) (show Za0.length≤1000 by decide) (by unfold Zam goodC;exact Zx5 (ZyB _ _) hLl);generalize hS:(Zam L bad).Zvh=sp at hE hQ hsc;obtain⟨s1,s2⟩:=sp;refine Zan ?_;simp[-getElem?_pos,hold];refine cM [.ptr (.par 0) 0] [(.par 0,wkX (ctsP L) (bdsP bad) ls ts rn)] 54 [.par 0] (by simp[wkX,ctsP]) hrc (by simp[wkX]) ?_;simp[-getElem?_pos,hold,wkX];refine .inl (cQ [] [(Zam L bad).pv] hsc ?_);simp[-getElem?_pos,hold,lstE];by_cases h7:¬s2=7
 ·rw[if_neg h7]at hE;have hE9:E 9:=by rw[←hE]
  refine Zeb [_,_] ?_;simp[-getElem?_pos,hold,h7];exact pF 9 hE9
 have h7:=Decidable.not_not.1 h7;rw[if_pos h7]at hQ;refine ZbA ?_;simp[-getElem?_pos,hold,h7];refine cG [.bool true,.int .i64 9] (ask_t 9) ?_;simp[-getElem?_pos,hold];refine retW (a:=ctsP L) (b:=bdsP bad) (c:=ls) (d:=ts) (e:=rn) [] ?_ ?_
 ·simp[frzL,wkX,ctsP,bdsP]
 ·rw[←hQ];exact⟨_,rfl,rfl,rfl,rfl,rfl,rfl⟩
end
end
end Go.Proofs.YtfpmaennjlggeaaGreatDoor
namespace Go.Proofs.YtfpmaennjlggeaaGreatDoor.Qn
open Go.RowKit
section
open Go.RowKit Go.ChangeShapes Go.WideShapes Go.Deep
set_option maxRecDepth 100000
structure Rg where
 lo:Int
 hi:Int
structure Rq where
 hours:Int
 ready:Int
 on:List Bool
structure Qu where
 ms:List (List Rg)
 rs:List Rq
def Rg.pv (r:Rg):PV:=.agg [.int .i64 r.lo,.int .i64 r.hi]
def rgsP (l:List Rg):PV:=.lst false 2 (l.map Rg.pv)
def onP (l:List Bool):PV:=.lst false 1 (l.map PV.bool)
def Rq.pv (r:Rq):PV:=.agg [.int .i64 r.hours,.int .i64 r.ready,onP r.on]
def Qu.pv (q:Qu):PV:=.agg [.lst false 1 (q.ms.map rgsP),.lst false 3 (q.rs.map Rq.pv)]
section
variable {H:Type}{enc:TypeId×Value→H}{W:World}{sp:Nat→Bool}{held:Bool}{r:Reach}{base:Nat}
end
end
section
attribute [local simp] Box.Zu0 Site.Zu1
theorem Zbx (n lo hi:Int):Gives Tryz.prog 108 [.int .i64 n,.int .i64 lo,.int .i64 hi] (.bool (decide (lo≤n)&&decide (n≤hi))):=by
 refine cS L108 ?_;by_cases h:lo≤n
 all_goals simp[h,L108]
def hourB (n:Int):Bool:=decide (0≤n)&&decide (n≤39)
def manyB (n:Int):Bool:=decide (0≤n)&&decide (n≤40)
theorem ZrJ (n:Int):Gives Tryz.prog 107 [.int .i64 n] (.bool (hourB n)):=by
 refine cS L107 ?_;simp[L107];refine Zaa (k:=0) rfl rfl (Zbx n 0 39) rfl ?_;simp[hourB]
theorem ZrG (n:Int):Gives Tryz.prog 61 [.int .i64 n] (.bool (manyB n)):=by
 refine cS L61 ?_;simp[L61];refine Zaa (k:=0) rfl rfl (Zbx n 0 40) rfl ?_;simp[manyB]
def Rg.Zvs (r:Rg):Bool:=hourB r.lo&&hourB r.hi&&decide (r.lo≤r.hi)
theorem Zth (r:Rg):Gives Tryz.prog 59 [r.pv] (.bool r.Zvs):=by
 refine cS L59 ?_;simp[-getElem?_pos,L59,Rg.pv];refine Zaa (k:=0) rfl rfl (ZrJ r.lo) rfl ?_;cases h1:hourB r.lo
 ·simp[Rg.Zvs,h1]
 ·simp[h1];refine Zaa (k:=0) rfl rfl (ZrJ r.hi) rfl ?_;cases h2:hourB r.hi
  ·simp[Rg.Zvs,h1,h2]
  ·simp[Rg.Zvs,h1,h2]
theorem ZcU {l:List PV}{q:PV→Bool}{k:Nat}{x:PV}(hx:l[k]?=some x)(hb:q x=true)(hinv:∀(j:Nat) (y:PV),j<k→l[j]?=some y→q y=false):l.findIdx? q=some k:=by
 obtain⟨hlt,e⟩:=ZxN.1 hx;rw[Zyy];refine⟨hlt,by rw[e];exact hb,fun j hj=>?_⟩
 have:=hinv j l[j] hj (ZxL (by omega))
 simp[this]
theorem ZbE {l:List PV}{q:PV→Bool}(hinv:∀(j:Nat) (y:PV),j<l.length→l[j]?=some y→q y=false):l.findIdx? q=none:=by
 rw[Zyz];intro x hx;obtain⟨j,hj⟩:=ZxV.1 hx;exact hinv j x (ZxN.1 hj).1 hj
theorem Zl1 (l:List PV)(g:FuncId)(fs cs:List PV)(q:PV→Bool)(hq:∀x∈l,Gives Tryz.prog g (fs++[x]++cs) (.bool (q x)))(hl:l.length≤1000000)(hc:∀x∈l,∃ys,x=.lst false 2 ys):
  Gives Tryz.prog 152 [.lst false 1 l,.fn g fs cs] (.int .i64 (match l.findIdx? q with|some i=>i|none=>-1)):=by
 refine cS L152 ?_;simp[L152];refine Zaf (fun n τ=>∃k:Nat,k≤l.length∧n=l.length-k∧(∀j x,j<k→l[j]?=some x→q x=false)∧τ=⟨[(0,.pv (.lst false 1 l)),(1,.pv (.fn g fs cs)),(7,.pv (.int .i64 l.length)),(8,.pv (.int .i64 k))],[]⟩)
  ⟨l.length,_,Sub.mk (by simp) (by simp),0,by omega,rfl,(fun j x hj=>by omega),rfl⟩ ?_
 rintro J hJ n τ ⟨k,hk,rfl,hinv,rfl⟩;by_cases hlt:k<l.length
 ·have hx:l[k]?=some l[k]:=ZxL hlt;have hm:=Zyh hlt;generalize l[k]=x at hx hm;obtain⟨ys,rfl⟩:=hc x hm;have hg:=hq _ hm;have hw:IntKind.i64.wrap ((k:Int)+1)=((k+1:Nat):Int):=by rw[wrap64 (by omega)];omega
  simp[-getElem?_pos,hlt,hx,nblt];refine Zaa (k:=0) rfl rfl hg rfl ?_;cases hb:q _
  ·simp[hw];exact⟨_,_,(by omega:l.length-(k+1)<l.length-k),Sub.mk (by simp) (by simp),hJ _ _ ⟨k+1,by omega,rfl,fun j x hj hjx=>by
    rcases ZyD.1 hj with h|h
    ·exact hinv j x h hjx
    ·subst h;rw[hx]at hjx;cases hjx;exact hb,rfl⟩⟩
  ·simp[ZcU hx hb hinv]
 ·have he:k=l.length:=by omega
  subst he;simp[ZbE hinv]
theorem Zrk (l:List PV)(g:FuncId)(fs cs:List PV)(q:PV→Bool)(hq:∀x∈l,Gives Tryz.prog g (fs++[x]++cs) (.bool (q x)))(hl:l.length≤1000000)(hc:∀x∈l,∃ys,x=.lst false 2 ys):
  Gives Tryz.prog 109 [.lst false 1 l,.fn g fs cs] (.bool (l.any q)):=by
 refine cS L109 ?_;simp[L109];refine Zaa (k:=0) rfl rfl (Zl1 l g fs cs q hq hl hc) rfl ?_;cases hf:l.findIdx? q with
 |none=>
  have:l.any q=false:=by rw[List.any_eq_false];intro x hx;simpa using Zyz.1 hf x hx
  simp[this]
 |some i=>
  have:l.any q=true:=by
   obtain⟨hi,h1,_⟩:=Zyy.1 hf;exact Zya.2 ⟨_,Zyh hi,h1⟩
  simp[this]
theorem Zpb (x:PV)(g:FuncId)(fs cs:List PV)(b:Bool)(hx:∃ys,x=.lst false 2 ys)(hq:Gives Tryz.prog g (fs++[x]++cs) (.bool b)):
  Gives Tryz.prog 110 [x,.ref [.fn g fs cs]] (.bool (!b)):=by
 obtain⟨ys,rfl⟩:=hx;refine cS L110 ?_;simp[L110];refine Zaa (k:=0) rfl rfl hq rfl ?_;simp
theorem Zly (l:List PV)(g:FuncId)(fs cs:List PV)(q:PV→Bool)(hq:∀x∈l,Gives Tryz.prog g (fs++[x]++cs) (.bool (q x)))(hl:l.length≤1000000)(hc:∀x∈l,∃ys,x=.lst false 2 ys):
  Gives Tryz.prog 62 [.lst false 1 l,.fn g fs cs] (.bool (l.all q)):=by
 refine cS L62 ?_;simp[L62];refine Zaa (k:=4) rfl rfl (Zrk l 110 [] [.ref [.fn g fs cs]] (fun x=>!q x) (fun x hx=>Zpb x g fs cs (q x) (hc x hx) (hq x hx)) hl hc) rfl ?_;simp[List.not_any_eq_all_not]
theorem Zn4 (l:List PV)(g:FuncId)(fs cs:List PV)(q:PV→Bool)(hq:∀x∈l,Gives Tryz.prog g (fs++[x]++cs) (.bool (q x)))(hl:l.length≤1000000)(hc:∀x∈l,∃a b,x=.agg [.int .i64 a,.int .i64 b]):
  Gives Tryz.prog 151 [.lst false 2 l,.fn g fs cs] (.int .i64 (match l.findIdx? q with|some i=>i|none=>-1)):=by
 refine cS L151 ?_;simp[L151];refine Zaf (fun n τ=>∃k:Nat,k≤l.length∧n=l.length-k∧(∀j x,j<k→l[j]?=some x→q x=false)∧τ=⟨[(0,.pv (.lst false 2 l)),(1,.pv (.fn g fs cs)),(7,.pv (.int .i64 l.length)),(8,.pv (.int .i64 k))],[]⟩)
  ⟨l.length,_,Sub.mk (by simp) (by simp),0,by omega,rfl,(fun j x hj=>by omega),rfl⟩ ?_
 rintro J hJ n τ ⟨k,hk,rfl,hinv,rfl⟩;by_cases hlt:k<l.length
 ·have hx:l[k]?=some l[k]:=ZxL hlt;have hm:=Zyh hlt;generalize l[k]=x at hx hm;obtain⟨a,b,rfl⟩:=hc x hm;have hg:=hq _ hm;have hw:IntKind.i64.wrap ((k:Int)+1)=((k+1:Nat):Int):=by rw[wrap64 (by omega)];omega
  simp[-getElem?_pos,hlt,hx,nblt];refine Zaa (k:=0) rfl rfl hg rfl ?_;cases hb:q _
  ·simp[hw];exact⟨_,_,(by omega:l.length-(k+1)<l.length-k),Sub.mk (by simp) (by simp),hJ _ _ ⟨k+1,by omega,rfl,fun j x hj hjx=>by
    rcases ZyD.1 hj with h|h
    ·exact hinv j x h hjx
    ·subst h;rw[hx]at hjx;cases hjx;exact hb,rfl⟩⟩
  ·simp[ZcU hx hb hinv]
 ·have he:k=l.length:=by omega
  subst he;simp[ZbE hinv]
theorem Zo8 (l:List PV)(g:FuncId)(fs cs:List PV)(q:PV→Bool)(hq:∀x∈l,Gives Tryz.prog g (fs++[x]++cs) (.bool (q x)))(hl:l.length≤1000000)(hc:∀x∈l,∃a b,x=.agg [.int .i64 a,.int .i64 b]):
  Gives Tryz.prog 105 [.lst false 2 l,.fn g fs cs] (.bool (l.any q)):=by
 refine cS L105 ?_;simp[L105];refine Zaa (k:=0) rfl rfl (Zn4 l g fs cs q hq hl hc) rfl ?_;cases hf:l.findIdx? q with
 |none=>
  have:l.any q=false:=by rw[List.any_eq_false];intro x hx;simpa using Zyz.1 hf x hx
  simp[this]
 |some i=>
  have:l.any q=true:=by
   obtain⟨hi,h1,_⟩:=Zyy.1 hf;exact Zya.2 ⟨_,Zyh hi,h1⟩
  simp[this]
theorem Zro (x:PV)(g:FuncId)(fs cs:List PV)(b:Bool)(hx:∃a b,x=.agg [.int .i64 a,.int .i64 b])(hq:Gives Tryz.prog g (fs++[x]++cs) (.bool b)):
  Gives Tryz.prog 106 [x,.ref [.fn g fs cs]] (.bool (!b)):=by
 obtain⟨a,b,rfl⟩:=hx;refine cS L106 ?_;simp[L106];refine Zaa (k:=0) rfl rfl hq rfl ?_;simp
theorem ZtV (l:List PV)(g:FuncId)(fs cs:List PV)(q:PV→Bool)(hq:∀x∈l,Gives Tryz.prog g (fs++[x]++cs) (.bool (q x)))(hl:l.length≤1000000)(hc:∀x∈l,∃a b,x=.agg [.int .i64 a,.int .i64 b]):
  Gives Tryz.prog 58 [.lst false 2 l,.fn g fs cs] (.bool (l.all q)):=by
 refine cS L58 ?_;simp[L58];refine Zaa (k:=4) rfl rfl (Zo8 l 106 [] [.ref [.fn g fs cs]] (fun x=>!q x) (fun x hx=>Zro x g fs cs (q x) (hc x hx) (hq x hx)) hl hc) rfl ?_;simp[List.not_any_eq_all_not]
theorem Zn3 (l:List PV)(g:FuncId)(fs cs:List PV)(q:PV→Bool)(hq:∀x∈l,Gives Tryz.prog g (fs++[x]++cs) (.bool (q x)))(hl:l.length≤1000000)(hc:∀x∈l,∃a b ys,x=.agg [.int .i64 a,.int .i64 b,.lst false 1 ys]):
  Gives Tryz.prog 153 [.lst false 3 l,.fn g fs cs] (.int .i64 (match l.findIdx? q with|some i=>i|none=>-1)):=by
 refine cS L153 ?_;simp[L153];refine Zaf (fun n τ=>∃k:Nat,k≤l.length∧n=l.length-k∧(∀j x,j<k→l[j]?=some x→q x=false)∧τ=⟨[(0,.pv (.lst false 3 l)),(1,.pv (.fn g fs cs)),(7,.pv (.int .i64 l.length)),(8,.pv (.int .i64 k))],[]⟩)
  ⟨l.length,_,Sub.mk (by simp) (by simp),0,by omega,rfl,(fun j x hj=>by omega),rfl⟩ ?_
 rintro J hJ n τ ⟨k,hk,rfl,hinv,rfl⟩;by_cases hlt:k<l.length
 ·have hx:l[k]?=some l[k]:=ZxL hlt;have hm:=Zyh hlt;generalize l[k]=x at hx hm;obtain⟨a,b,ys,rfl⟩:=hc x hm;have hg:=hq _ hm;have hw:IntKind.i64.wrap ((k:Int)+1)=((k+1:Nat):Int):=by rw[wrap64 (by omega)];omega
  simp[-getElem?_pos,hlt,hx,nblt];refine Zaa (k:=0) rfl rfl hg rfl ?_;cases hb:q _
  ·simp[hw];exact⟨_,_,(by omega:l.length-(k+1)<l.length-k),Sub.mk (by simp) (by simp),hJ _ _ ⟨k+1,by omega,rfl,fun j x hj hjx=>by
    rcases ZyD.1 hj with h|h
    ·exact hinv j x h hjx
    ·subst h;rw[hx]at hjx;cases hjx;exact hb,rfl⟩⟩
  ·simp[ZcU hx hb hinv]
 ·have he:k=l.length:=by omega
  subst he;simp[ZbE hinv]
theorem ZtQ (l:List PV)(g:FuncId)(fs cs:List PV)(q:PV→Bool)(hq:∀x∈l,Gives Tryz.prog g (fs++[x]++cs) (.bool (q x)))(hl:l.length≤1000000)(hc:∀x∈l,∃a b ys,x=.agg [.int .i64 a,.int .i64 b,.lst false 1 ys]):
  Gives Tryz.prog 111 [.lst false 3 l,.fn g fs cs] (.bool (l.any q)):=by
 refine cS L111 ?_;simp[L111];refine Zaa (k:=0) rfl rfl (Zn3 l g fs cs q hq hl hc) rfl ?_;cases hf:l.findIdx? q with
 |none=>
  have:l.any q=false:=by rw[List.any_eq_false];intro x hx;simpa using Zyz.1 hf x hx
  simp[this]
 |some i=>
  have:l.any q=true:=by
   obtain⟨hi,h1,_⟩:=Zyy.1 hf;exact Zya.2 ⟨_,Zyh hi,h1⟩
  simp[this]
theorem Zrn (x:PV)(g:FuncId)(fs cs:List PV)(b:Bool)(hx:∃a b ys,x=.agg [.int .i64 a,.int .i64 b,.lst false 1 ys])(hq:Gives Tryz.prog g (fs++[x]++cs) (.bool b)):
  Gives Tryz.prog 112 [x,.ref [.fn g fs cs]] (.bool (!b)):=by
 obtain⟨a,b,ys,rfl⟩:=hx;refine cS L112 ?_;simp[L112];refine Zaa (k:=0) rfl rfl hq rfl ?_;simp
theorem ZtU (l:List PV)(g:FuncId)(fs cs:List PV)(q:PV→Bool)(hq:∀x∈l,Gives Tryz.prog g (fs++[x]++cs) (.bool (q x)))(hl:l.length≤1000000)(hc:∀x∈l,∃a b ys,x=.agg [.int .i64 a,.int .i64 b,.lst false 1 ys]):
  Gives Tryz.prog 63 [.lst false 3 l,.fn g fs cs] (.bool (l.all q)):=by
 refine cS L63 ?_;simp[L63];refine Zaa (k:=4) rfl rfl (ZtQ l 112 [] [.ref [.fn g fs cs]] (fun x=>!q x) (fun x hx=>Zrn x g fs cs (q x) (hc x hx) (hq x hx)) hl hc) rfl ?_;simp[List.not_any_eq_all_not]
theorem few_c (ys:List PV):Gives Tryz.prog 56 [.lst false 2 ys] (.bool (decide ((ys.length:Int)≤6))):=by
 refine cS L56 ?_;simp[-decide_eq_true_eq,L56]
def ZiC:PV→Bool
 |.agg [.int _ a,.int _ b]=>Rg.Zvs ⟨a,b⟩
 |_=>true
theorem Zsg (l:List Rg)(hl:l.length≤1000000):Gives Tryz.prog 57 [rgsP l] (.bool (l.all Rg.Zvs)):=by
 have h:=ZtV (l.map Rg.pv) 59 [] [] ZiC (fun x hx=>by
  obtain⟨r,_,rfl⟩:=ZxY.1 hx;exact Zth r) (by simpa using hl) (fun x hx=>by
  obtain⟨r,_,rfl⟩:=ZxY.1 hx;exact⟨_,_,rfl⟩)
 have e:(l.map Rg.pv).all ZiC=l.all Rg.Zvs:=by rw[List.all_map];rfl
 rw[e]at h;refine cS L57 ?_;simp[L57,rgsP];refine Zaa (k:=0) rfl rfl h rfl ?_;simp
def Rq.okB (n:Nat)(r:Rq):Bool:=manyB r.hours&&manyB r.ready&&decide ((r.on.length:Int)=n)
theorem run_c (q:Qu)(r:Rq):Gives Tryz.prog 60 [r.pv,.ref [.lst false 1 (q.ms.map rgsP),.lst false 3 (q.rs.map Rq.pv)]] (.bool (r.okB q.ms.length)):=by
 refine cS L60 ?_;simp[-getElem?_pos,L60,Rq.pv];refine Zaa (k:=0) (fs:=[]) (cs:=[]) rfl rfl (ZrG r.hours) rfl ?_;cases h1:manyB r.hours
 ·simp[Rq.okB,h1]
 ·simp[-getElem?_pos];refine Zaa (k:=0) (fs:=[]) (cs:=[]) rfl rfl (ZrG r.ready) rfl ?_;cases h2:manyB r.ready
  ·simp[Rq.okB,h1,h2]
  ·simp[-getElem?_pos,onP,Rq.okB,h1,h2]
def Qu.big (q:Qu):Bool:=decide (4<q.ms.length)||decide (6<q.rs.length)||!(q.ms.all fun l=>decide ((l.length:Int)≤6))
def Qu.bad (q:Qu):Bool:=!(q.ms.all fun l=>l.all Rg.Zvs)||!(q.rs.all fun r=>r.okB q.ms.length)
def Qu.check (q:Qu):Int:=if q.big=true then 3 else if q.bad=true then 1 else 0
def fewQ:PV→Bool
 |.lst _ _ ys=>decide ((ys.length:Int)≤6)
 |_=>true
def ZmC:PV→Bool
 |.lst _ _ ys=>ys.all ZiC
 |_=>true
def okQ (n:Nat):PV→Bool
 |.agg [.int _ a,.int _ b,.lst _ _ ys]=>manyB a&&manyB b&&decide ((ys.length:Int)=n)
 |_=>true
theorem ZdB (q:Qu)(h1:q.ms.length≤1000000)(h2:q.rs.length≤1000000)(h3:∀l∈q.ms,l.length≤1000000):Gives Tryz.prog 27 [q.pv] (.int .i64 q.check):=by
 have e1:(q.ms.map rgsP).all fewQ=q.ms.all fun l=>decide ((l.length:Int)≤6):=by
  rw[List.all_map];congr 1;funext l;simp[fewQ,rgsP]
 have e2:(q.ms.map rgsP).all ZmC=q.ms.all fun l=>l.all Rg.Zvs:=by
  rw[List.all_map];congr 1;funext l;show((l.map Rg.pv).all ZiC)=_;rw[List.all_map];rfl
 have e3:(q.rs.map Rq.pv).all (okQ q.ms.length)=q.rs.all fun r=>r.okB q.ms.length:=by
  rw[List.all_map];congr 1;funext r;simp[okQ,Rq.pv,onP,Rq.okB]
 have a1:=Zly (q.ms.map rgsP) 56 [] [] fewQ (fun x hx=>by
  obtain⟨l,_,rfl⟩:=ZxY.1 hx;exact few_c _) (by simpa using h1) (fun x hx=>by
  obtain⟨l,_,rfl⟩:=ZxY.1 hx;exact⟨_,rfl⟩)
 have a2:=Zly (q.ms.map rgsP) 57 [] [] ZmC (fun x hx=>by
  obtain⟨l,hl,rfl⟩:=ZxY.1 hx
  have:=Zsg l (h3 l hl)
  have e:ZmC (rgsP l)=l.all Rg.Zvs:=by show((l.map Rg.pv).all ZiC)=_;rw[List.all_map];rfl
  rw[e];exact this) (by simpa using h1) (fun x hx=>by
  obtain⟨l,_,rfl⟩:=ZxY.1 hx;exact⟨_,rfl⟩)
 have a3:=ZtU (q.rs.map Rq.pv) 60 [] [.ref [.lst false 1 (q.ms.map rgsP),.lst false 3 (q.rs.map Rq.pv)]] (okQ q.ms.length) (fun x hx=>by
  obtain⟨r,_,rfl⟩:=ZxY.1 hx;have e:okQ q.ms.length r.pv=r.okB q.ms.length:=by simp[okQ,Rq.pv,onP,Rq.okB]
  rw[e];exact run_c q r) (by simpa using h2) (fun x hx=>by
  obtain⟨r,_,rfl⟩:=ZxY.1 hx;exact⟨_,_,_,rfl⟩)
 rw[e1]at a1;rw[e2]at a2;rw[e3]at a3;have hb:q.big=(decide (4<q.ms.length)||decide (6<q.rs.length)||!(q.ms.all fun l=>decide ((l.length:Int)≤6))):=rfl;have hd:q.bad=(!(q.ms.all fun l=>l.all Rg.Zvs)||!(q.rs.all fun r=>r.okB q.ms.length)):=rfl;unfold Qu.check;generalize(q.ms.all fun l=>decide ((l.length:Int)≤6))=b1 at *;generalize(q.ms.all fun l=>l.all Rg.Zvs)=b2 at *;generalize(q.rs.all fun r=>r.okB q.ms.length)=b3 at *;refine cS L27 ?_;by_cases c1:4<q.ms.length
 ·have k1:(4:Int)<(q.ms.length:Int):=by omega
  have k1':¬((q.ms.length:Int)≤4):=by omega
  simp[-getElem?_pos,L27,Qu.pv,k1,k1',hb,c1]
 ·have d1:decide ((4:Int)<(q.ms.length:Int))=false:=by simp;omega
  by_cases c2:6<q.rs.length
  ·have d2:decide ((6:Int)<(q.rs.length:Int))=true:=by simp;omega
   simp[-getElem?_pos,-decide_eq_true_eq,-decide_eq_false_iff_not,L27,Qu.pv,d1,d2];simp[hb,c1,c2]
  ·have d2:decide ((6:Int)<(q.rs.length:Int))=false:=by simp;omega
   simp[-getElem?_pos,-decide_eq_true_eq,-decide_eq_false_iff_not,L27,Qu.pv,d1,d2];refine Zaa (k:=4) rfl rfl a1 rfl ?_;cases b1
   ·simp[-getElem?_pos,hb,c1,c2]
   ·simp[-getElem?_pos];refine Zaa (k:=4) rfl rfl a2 rfl ?_;cases b2
    ·simp[-getElem?_pos,hb,hd,c1,c2]
    ·simp[-getElem?_pos];refine Zaa (k:=4) rfl rfl a3 rfl ?_;cases b3<;>simp[-getElem?_pos,hb,hd,c1,c2]
def Qu.cells (q:Qu):List AV:=[.pv (.lst false 1 (q.ms.map rgsP)),.pv (.lst false 3 (q.rs.map Rq.pv))]

end
section
attribute [local simp] Box.Zu0 Site.Zu1
attribute [local simp] retFz frzL AS.frz AV.frz AV.frzL Box.frz AS.tidy AS.ZvF

def intP (n:Int):PV:=.int .i64 n
def intsP (l:List Int):PV:=.lst false 1 (l.map intP)
def planP (p:List (List Int)):PV:=.lst false 1 (p.map intsP)
theorem wrapS {k:Nat}(h:k≤1000000):IntKind.i64.wrap ((k:Int)+1)=((k+1:Nat):Int):=by rw[wrap64 (by omega)];omega

def Rg.has (s:Rg)(h:Int):Bool:=decide (s.lo≤h)&&decide (h≤s.hi)
theorem Zsh (s:Rg)(h:Int):Gives Tryz.prog 232 [s.pv,.ref [.int .i64 h]] (.bool (s.has h)):=by
 refine cS L232 ?_;simp[-getElem?_pos,L232,Rg.pv];refine Zaa (k:=0) rfl rfl (Zbx h s.lo s.hi) rfl ?_;simp[-getElem?_pos,Rg.has]
def hasQ (h:Int):PV→Bool
 |.agg [.int _ a,.int _ b]=>Rg.has ⟨a,b⟩ h
 |_=>false
def Qu.run (q:Qu)(i:Nat):Rq:=(q.rs[i]?).getD ⟨0,0,[]⟩
def Qu.stops (q:Qu)(m:Nat):List Rg:=(q.ms[m]?).getD []
def Qu.may (q:Qu)(i m:Nat)(h:Int):Bool:=((q.run i).on[m]?).getD false&&decide ((q.run i).ready≤h)&&!(q.stops m).any (Rg.has · h)
structure Qu.ok (q:Qu):Prop where
 m:q.ms.length≤4
 r:q.rs.length≤6
 s:∀l∈q.ms,l.length≤6
 x:∀l∈q.ms,∀y∈l,0≤y.lo∧y.lo≤y.hi∧y.hi≤39
 h:∀r∈q.rs,0≤r.hours∧r.hours≤40
 d:∀r∈q.rs,0≤r.ready∧r.ready≤40
 f:∀r∈q.rs,r.on.length=q.ms.length
theorem Qu.Zxa {q:Qu}(h:q.check=0):q.ok:=by
 unfold Qu.check at h;split at h
 ·cases h
 ·rename_i h1;split at h
  ·cases h
  ·rename_i h2;simp only[Qu.big,Bool.not_eq_true,Bool.or_eq_false_iff,decide_eq_false_iff_not,Bool.not_eq_false',Zx7,decide_eq_true_eq]at h1;simp only[Qu.bad,Bool.not_eq_true,Bool.or_eq_false_iff,Bool.not_eq_false',Zx7]at h2;obtain⟨⟨a1,a2⟩,a3⟩:=h1;obtain⟨b1,b2⟩:=h2;refine⟨by omega,by omega,fun l hl=>by have:=a3 l hl;omega,fun l hl y hy=>?_,fun r hr=>?_,fun r hr=>?_,fun r hr=>?_⟩
   ·have:=b1 l hl y hy
    simp only[Rg.Zvs,hourB,ZxO,decide_eq_true_eq]at this;omega
   all_goals
    have:=b2 r hr
    simp only[Rq.okB,manyB,ZxO,decide_eq_true_eq]at this;omega
theorem may_c (q:Qu)(hq:q.ok)(i m:Nat)(h:Int)(hi:i<q.rs.length)(hm:m<q.ms.length):Gives Tryz.prog 210 [q.pv,.int .i64 i,.int .i64 m,.int .i64 h] (.bool (q.may i m h)):=by
 obtain⟨r,hr⟩:∃r,q.rs[i]?=some r:=⟨q.rs[i],ZxL hi⟩;obtain⟨l,hl⟩:∃l,q.ms[m]?=some l:=⟨q.ms[m],ZxL hm⟩;obtain⟨b,hb⟩:∃b,r.on[m]?=some b:=⟨r.on[m]'(by rw[hq.f r (ZxQ hr)];exact hm),ZxL _⟩;have hll:=hq.s l (ZxQ hl);have e:q.may i m h=(b&&decide (r.ready≤h)&&!l.any (Rg.has · h)):=by simp[Qu.may,Qu.run,Qu.stops,hr,hl,hb]
 have g1:(q.rs.map Rq.pv)[i]?=some (.agg [.int .i64 r.hours,.int .i64 r.ready,.lst false 1 (r.on.map PV.bool)]):=by rw[ZxM,hr];rfl
 have g2:(q.ms.map rgsP)[m]?=some (.lst false 2 (l.map Rg.pv)):=by rw[ZxM,hl];rfl
 have g3:(r.on.map PV.bool)[m]?=some (.bool b):=by rw[ZxM,hb];rfl
 have a1:=Zo8 (l.map Rg.pv) 232 [] [.ref [.int .i64 h]] (hasQ h) (fun x hx=>by
  obtain⟨s,_,rfl⟩:=ZxY.1 hx;exact Zsh s h) (by simp;omega) (fun x hx=>by
  obtain⟨s,_,rfl⟩:=ZxY.1 hx;exact⟨_,_,rfl⟩)
 have e2:(l.map Rg.pv).any (hasQ h)=l.any (Rg.has · h):=by rw[List.any_map];rfl
 rw[e2]at a1;rw[e];generalize l.any (Rg.has · h)=c at *;clear e hll e2;refine cS L210 ?_;cases b
 ·simp[-getElem?_pos,-List.getElem?_map,L210,Qu.pv,g1,g3]
 ·by_cases hd:r.ready≤h
  ·simp[-getElem?_pos,-List.getElem?_map,L210,Qu.pv,g1,g2,g3,hd];refine Zaa (k:=4) (fs:=[]) (xs:=[.lst false 2 (l.map Rg.pv),.fn 232 [] [.ref [.int .i64 h]]]) (cs:=[]) rfl rfl a1 rfl ?_;simp[-getElem?_pos]
  ·simp[-getElem?_pos,-List.getElem?_map,L210,Qu.pv,g1,g2,g3,hd]
theorem ZbX {α:Type}{l:List α}{k:Nat}{x:α}(h:l[k]?=some x):l.take (k+1)=l.take k++[x]:=by rw[Zx6,h];rfl




theorem ZqL (l:List Int)(hl:l.length≤1000000):Gives Tryz.prog 29 [intsP l] (intsP l):=by
 refine Zai.ZvA ?_;refine cF [.loc 7 0] L29 ?_;cases l with
 |nil=>
  simp[-getElem?_pos,L29,intsP,nilOf,ZaB,nble,opWp,osel];exact fun m v h=>Zbm h
 |cons a l=>
  have h1:l.length+1≤1000000:=by simpa using hl
  have hm:(l.map intP).take l.length=l.map intP:=ZxW (by simp);simp[-getElem?_pos,L29,intsP,nilOf,nble,h1,hm]


end
section
theorem Zdx {P:Program}{C:Cons P}{c:C.S}{k:Nat}:((laid 0 (C.X c)).filter fun p=>!p.1.Zu1 k).map (fun p=>(p.1,p.2.Zu0 k))=laid 0 (C.X c):=Zev (C.cl c)
theorem ZfI {P:Program}{C:Cons P}{c:C.S}:(laid 0 (C.X c)).filter (fun p=>!p.1.lt C.m)=[]:=Zhw (by rw[C.len];omega)
section
attribute [local simp] Box.Zu0 Site.Zu1
attribute [local simp] retFz frzL AS.frz AV.frz AV.frzL Box.frz AS.tidy AS.ZvF
theorem Zuw:Gives Tryz.prog 65 [] (.agg [.int .i64 (-1),.int .i64 (-1),.int .i64 (-1),.int .i64 (-1)]):=by
 refine cS L65 ?_;simp[-getElem?_pos,L65];refine Zaf (fun n τ=>(n=4∧τ=⟨[(0,.ptr (.loc 0 0) 0),(2,.pv (.int .i64 0))],[(.loc 0 0,.cells [.pv (.int .i64 0),.pv (.int .i64 0),.pv (.int .i64 0),.pv (.int .i64 0)])]⟩)∨
  (n=3∧τ=⟨[(0,.ptr (.loc 0 0) 0),(2,.pv (.int .i64 1))],[(.loc 0 0,.cells [.pv (.int .i64 (-1)),.pv (.int .i64 0),.pv (.int .i64 0),.pv (.int .i64 0)])]⟩)∨
  (n=2∧τ=⟨[(0,.ptr (.loc 0 0) 0),(2,.pv (.int .i64 2))],[(.loc 0 0,.cells [.pv (.int .i64 (-1)),.pv (.int .i64 (-1)),.pv (.int .i64 0),.pv (.int .i64 0)])]⟩)∨
  (n=1∧τ=⟨[(0,.ptr (.loc 0 0) 0),(2,.pv (.int .i64 3))],[(.loc 0 0,.cells [.pv (.int .i64 (-1)),.pv (.int .i64 (-1)),.pv (.int .i64 (-1)),.pv (.int .i64 0)])]⟩)∨
  (n=0∧τ=⟨[(0,.ptr (.loc 0 0) 0),(2,.pv (.int .i64 4))],[(.loc 0 0,.cells [.pv (.int .i64 (-1)),.pv (.int .i64 (-1)),.pv (.int .i64 (-1)),.pv (.int .i64 (-1))])]⟩)) ⟨4,_,Sub.mk (by simp) (by simp),.inl ⟨rfl,rfl⟩⟩ ?_
 have w1:IntKind.i64.wrap 1=1:=rfl;have w2:IntKind.i64.wrap 2=2:=rfl;have w3:IntKind.i64.wrap 3=3:=rfl;have w4:IntKind.i64.wrap 4=4:=rfl;have n3:natI 3=some 3:=rfl;rintro J hJ n τ (⟨rfl,rfl⟩|⟨rfl,rfl⟩|⟨rfl,rfl⟩|⟨rfl,rfl⟩|⟨rfl,rfl⟩)
 ·have hround:=hJ _ _ (.inr (.inl ⟨rfl,rfl⟩));clear hJ;simp[-getElem?_pos,w1,nblt,nble];exact⟨_,_,(by omega:3<4),Sub.mk (by simp) (by simp),hround⟩
 ·have hround:=hJ _ _ (.inr (.inr (.inl ⟨rfl,rfl⟩)));clear hJ;simp[-getElem?_pos,w2,nblt,nble];exact⟨_,_,(by omega:2<3),Sub.mk (by simp) (by simp),hround⟩
 ·have hround:=hJ _ _ (.inr (.inr (.inr (.inl ⟨rfl,rfl⟩))));clear hJ;simp[-getElem?_pos,w3,nblt,nble];exact⟨_,_,(by omega:1<2),Sub.mk (by simp) (by simp),hround⟩
 ·have hround:=hJ _ _ (.inr (.inr (.inr (.inr ⟨rfl,rfl⟩))));clear hJ;simp[-getElem?_pos,w4,n3,nblt,nble];exact⟨_,_,(by omega:0<1),Sub.mk (by simp) (by simp),hround⟩
 ·simp[-getElem?_pos]
def macF (q:Qu)(i:Nat)(h:Int):PV:=.fn 209 [] [.ref [.lst false 1 (q.ms.map rgsP),.lst false 3 (q.rs.map Rq.pv)],.ref [.int .i64 i],.ref [.int .i64 h]]
theorem Zer (q:Qu)(i:Nat)(h:Int):Gives Tryz.prog 185 [q.pv,.int .i64 i,.int .i64 h] (macF q i h):=by
 refine cF [.loc 3 0,.loc 4 0,.loc 5 0] L185 ?_;simp[-getElem?_pos,L185,Qu.pv,unpvs,fnA];rfl
end
attribute [local simp] Ziz Ziy Zix Zfm Zie Zif Zgl Zdx
attribute [local simp] AV.map AV.Zu9 noRet Site.Zu6 Box.Zu3 AV.Zu3 AV.Zu4 AS.Zvd
def Qu.Zwi (q:Qu)(i:Nat)(h:Int)(k:Nat):List Nat:=((List.range q.ms.length).take k).filter (fun m=>q.may i m h)
theorem Qu.ZwP (q:Qu){i:Nat}{h:Int}{k:Nat}(hk:k<q.ms.length):q.Zwi i h (k+1)=q.Zwi i h k++(if q.may i k h=true then[k]else[]):=by
 have:(List.range q.ms.length)[k]?=some k:=by rw[List.getElem?_range hk]
 unfold Qu.Zwi;rw[ZbX this,Zyw,Zyt,List.filter_nil]
end
section
theorem Zhs {q:Qu}(hq:q.ok){i:Nat}{h:Int}{k:Nat}:∀m∈q.Zwi i h k,m<q.ms.length:=fun m hm=>by
 unfold Qu.Zwi at hm
 have:=List.mem_of_mem_take (ZxX.1 hm).1
 simpa using this
def bl (t:List Bool):List AV:=t.map fun b=>.pv (.bool b)
def il (w:List Int):List AV:=w.map fun n=>.pv (.int .i64 n)
theorem Zhd {q:Site→Bool}:∀(l:List PV),AV.Zu4 q (l.map .pv)=true
 |[]=>rfl
 |a::r=>by simp[AV.Zu4,AV.Zu3,Zhd r]
theorem Zhc {g:Site→Site}:∀(l:List PV),AV.Zu9 g (l.map .pv)=l.map .pv
 |[]=>rfl
 |a::r=>by simp[AV.Zu9,AV.map,Zhc r]
theorem Zic {d:Nat}(l:List PV):(l.map AV.pv).map (AV.Zu0 d)=l.map .pv:=by rw[List.map_map];rfl
theorem bl_pv (t:List Bool):bl t=(t.map PV.bool).map .pv:=by rw[List.map_map];rfl
theorem il_pv (t:List Int):il t=(t.map (PV.int .i64)).map .pv:=by rw[List.map_map];rfl
theorem ZoR {q:Site→Bool}{t:List Bool}:AV.Zu4 q (bl t)=true:=by rw[bl_pv];exact Zhd _
theorem Zn8 {q:Site→Bool}{t:List Int}:AV.Zu4 q (il t)=true:=by rw[il_pv];exact Zhd _
theorem ZoQ {g:Site→Site}{t:List Bool}:AV.Zu9 g (bl t)=bl t:=by rw[bl_pv];exact Zhc _
theorem Zn7 {g:Site→Site}{t:List Int}:AV.Zu9 g (il t)=il t:=by rw[il_pv];exact Zhc _
theorem Zlr {d:Nat}{t:List Bool}:(bl t).map (AV.Zu0 d)=bl t:=by rw[bl_pv];exact Zic _
theorem Zk7 {d:Nat}{t:List Int}:(il t).map (AV.Zu0 d)=il t:=by rw[il_pv];exact Zic _
attribute [local simp] AS.exp expG Box.ren AV.map AV.Zu9 Zau noRet Site.Zu6 Box.Zu3 AV.Zu3 AV.Zu4 retB dropL AS.Zvd renL outG outOk Zas inG fnOf lookA Zyc
attribute [local simp] ZoR Zn8 ZoQ Zn7 Zlr Zk7
attribute [local simp] Box.Zu0 Site.Zu1
end
section
attribute [local simp] AS.exp expG Box.ren AV.map AV.Zu9 Zau noRet Site.Zu6 Box.Zu3 AV.Zu3 AV.Zu4 retB dropL AS.Zvd renL outG outOk Zas inG fnOf lookA Zyc
attribute [local simp] Box.Zu0 Site.Zu1
section
attribute [local simp] ZoR Zn8 ZoQ Zn7 Zlr Zk7

end
end
section
attribute [local simp] AS.exp expG Box.ren AV.map AV.Zu9 Zau noRet Site.Zu6 Box.Zu3 AV.Zu3 AV.Zu4 dropL AS.Zvd renL outG outOk Zas inG fnOf lookA Zyc
attribute [local simp] ZoR Zn8 ZoQ Zn7 Zlr Zk7
attribute [local simp] Box.Zu0 Site.Zu1
def idle4:List Int:=[-1,-1,-1,-1]
end
section
inductive Nd where
 |ru (r:Nat)
 |rh (r h:Nat)
 |mh (m h:Nat)
 deriving DecidableEq
def Nd.pv:Nd→PV
 |.ru r=>.agg [.int .i64 r,.int .i64 (-1),.int .i64 (-1)]
 |.rh r h=>.agg [.int .i64 r,.int .i64 (-1),.int .i64 h]
 |.mh m h=>.agg [.int .i64 (-1),.int .i64 m,.int .i64 h]
def Nd.kind:Nd→Nat
 |.ru _=>0
 |.rh _ _=>1
 |.mh _ _=>2
def rowP (r:List Int):PV:=.agg (r.map (PV.int .i64))
def plP (p:List (List Int)):List PV:=p.map rowP
def onR (l:List Int)(run:Int):Int:=match l.findIdx? (fun x=>decide (run=x))with
 |some i=>i
 |none=>-1
def onI (p:List (List Int))(run:Int)(h:Nat):Int:=onR ((p[h]?).getD []) run
def who (p:List (List Int))(h m:Nat):Int:=(((p[h]?).getD [])[m]?).getD (-1)
def layB (q:Qu)(p:List (List Int))(b:Nat):List Box:=[.cells [.pv (.lst false 1 (q.ms.map rgsP)),.pv (.lst false 3 (q.rs.map Rq.pv)),.vec (.par b) 4 0 p.length],.arr 88 4 (plP p)]
def four (p:List (List Int)):Prop:=∀l∈p,l.length=4
section
attribute [local simp] Box.Zu0 Site.Zu1
attribute [local simp] retFz frzL AS.frz AV.frz AV.frzL Box.frz AS.tidy AS.ZvF
theorem Ztc (l:List Int)(hl:l.length≤1000)(v:Int):Gives Tryz.prog 147 [.lst false 1 (l.map (PV.int .i64)),.int .i64 v] (.int .i64 (onR l v)):=by
 refine cS L147 ?_;simp[-getElem?_pos,L147];refine Zaf (fun n τ=>∃k:Nat,k≤l.length∧n=l.length-k∧(∀(j:Nat) (x:Int),j<k→l[j]?=some x→decide (v=x)=false)∧τ=⟨[(0,.pv (.lst false 1 (l.map (PV.int .i64)))),(1,.pv (.int .i64 v)),(7,.pv (.int .i64 l.length)),(8,.pv (.int .i64 k))],[]⟩)
  ⟨l.length,⟨[(0,.pv (.lst false 1 (l.map (PV.int .i64)))),(1,.pv (.int .i64 v)),(7,.pv (.int .i64 l.length)),(8,.pv (.int .i64 0))],[]⟩,Sub.mk (by simp) (by simp),0,Zx0 _,rfl,(fun j x hj=>by omega),rfl⟩ ?_
 rintro J hJ n τ ⟨k,hk,rfl,hinv,rfl⟩;by_cases hlt:k<l.length
 ·obtain⟨x,hx⟩:∃x,l[k]?=some x:=⟨l[k],ZxL hlt⟩;have hg:(l.map (PV.int .i64))[k]?=some (.int .i64 x):=by rw[ZxM,hx];rfl
  have hw:=wrapS (k:=k) (by omega);have hmeas:l.length-(k+1)<l.length-k:=by omega
  by_cases h1:v=x
  ·have hf:l.findIdx? (fun x=>decide (v=x))=some k:=by
    rw[Zyy];refine⟨hlt,by rw[(ZxN.1 hx).2];simpa using h1,fun j hj=>?_⟩
    have:=hinv j l[j] hj (ZxL (by omega))
    simpa using this
   unfold onR;rw[hf];simp[-getElem?_pos,-List.getElem?_map,hlt,hg,h1]
  ·have hround:=hJ _ _ ⟨k+1,hlt,rfl,(fun j y hj hy=>by
    rcases ZyD.1 hj with h|h
    ·exact hinv j y h hy
    ·subst h;rw[hx]at hy;cases hy;simpa using h1),rfl⟩
   clear hJ;simp[-getElem?_pos,-List.getElem?_map,hlt,hg,h1,hw];exact⟨_,_,hmeas,Sub.mk (by simp) (by simp),hround⟩
 ·have hf:l.findIdx? (fun x=>decide (v=x))=none:=by
   rw[Zyz];intro x hx;obtain⟨j,hj⟩:=ZxV.1 hx;exact hinv j x (by have:=(ZxN.1 hj).1;omega) hj
  have he:k=l.length:=by omega
  subst he;unfold onR;rw[hf];simp[-getElem?_pos,-List.getElem?_map]
theorem on_c (x y:PV)(p:List (List Int))(hp:four p)(run:Int)(h:Nat)(hh:h<p.length):Gives Tryz.prog 184 [.ref [x,y,.lst false 4 (plP p)],.int .i64 run,.int .i64 h] (.int .i64 (onI p run h)):=by
 obtain⟨l,hl⟩:∃l,p[h]?=some l:=⟨p[h],ZxL hh⟩;have h4:=hp l (ZxQ hl);have hg:(plP p)[h]?=some (.agg (l.map (PV.int .i64))):=by rw[plP,ZxM,hl];rfl
 have ht:(l.map (PV.int .i64)).take 4=l.map (PV.int .i64):=ZxW (by simp[h4]);have e:onI p run h=onR l run:=by simp[onI,hl]
 rw[e];refine cS L184 ?_;have n4:natI 4=some 4:=rfl;simp[-getElem?_pos,-List.getElem?_map,L184,hg,n4,h4,ht,nble];refine Zaa (k:=0) (fs:=[]) (cs:=[]) rfl rfl (Ztc l (by omega) run) rfl ?_;simp[-getElem?_pos]
theorem ZnR (n:Nd):Gives Tryz.prog 115 [n.pv] (.int .i64 n.kind):=by
 refine cS L115 ?_;cases n with
 |ru r=>simp[-getElem?_pos,L115,Nd.pv,Nd.kind]
 |rh r h=>
  have:¬((h:Int) = -1):=by omega
  simp[-getElem?_pos,L115,Nd.pv,Nd.kind,this]
 |mh m h=>
  have h1:¬((h:Int) = -1):=by omega
  have h2:¬((m:Int) = -1):=by omega
  simp[-getElem?_pos,L115,Nd.pv,Nd.kind,h1,h2]
def ZmE:List PV:=[.agg [.fn 156 [] []],.agg [.fn 157 [] []],.agg [.fn 158 [] []]]
theorem Zsi:Gives Tryz.prog 117 [] (.lst false 1 ZmE):=by
 refine cF [.loc 4 0] L117 ?_;simp[-getElem?_pos,L117];rfl
end
def Zb4 (p:List (List Int))(r:Nat)(k:Nat):List Nd:=(((List.range p.length).take k).filter fun h=>decide (onI p r h = -1)).map (Nd.rh r)
def ZeI (p:List (List Int))(r:Nat):List Nd:=Zb4 p r p.length
theorem Zjs {p:List (List Int)}{r k:Nat}(hk:k<p.length):Zb4 p r (k+1)=Zb4 p r k++(if onI p r k = -1 then[.rh r k]else[]):=by
 have:(List.range p.length)[k]?=some k:=by rw[List.getElem?_range hk]
 unfold Zb4;rw[ZbX this,Zyw,Zyb,Zyt,List.filter_nil];by_cases h:onI p r k = -1<;>simp[h]
theorem Zgu {p:List (List Int)}{r k:Nat}:(Zb4 p r k).length≤k:=by
 unfold Zb4;rw[ZxS];refine Zx5 (ZyB _ _) ?_;rw[ZxT];omega
attribute [local simp] AS.exp expG Box.ren AV.map AV.Zu9 Zau noRet Site.Zu6 Box.Zu3 AV.Zu3 AV.Zu4 retB dropL AS.Zvd renL outG outOk Zas inG fnOf lookA Zyc
attribute [local simp] Box.Zu0 Site.Zu1
def nodB (l:List Nd):List (Site×Box):=[(.ret 0,.arr 197 3 (l.map Nd.pv))]
theorem Zp8 (q:Qu)(p:List (List Int))(hp:four p)(hl:p.length≤1000)(r:Nat):
  Zai Tryz.prog 156 [.ptr (.par 0) 0,.pv (Nd.ru r).pv] (laid 0 (layB q p 1)) (fun x B=>x=.vec (.ret 0) 3 0 (ZeI p r).length∧B=nodB (ZeI p r)++laid 0 (layB q p 1)):=by
 refine cBR [.loc 26 0,.par 0,.par 1] L156 ?_;intro R hR;simp[-getElem?_pos,L156,layB,laid,Nd.pv];refine Zaf (fun n τ=>∃k:Nat,k≤p.length∧n=p.length-k∧τ=⟨[(0,.ptr (.par 0) 0),(3,.ptr (.loc 3 0) 0),(4,.vec (.loc 26 0) 3 0 (Zb4 p r k).length),(10,.pv (.int .i64 p.length)),(11,.pv (.int .i64 k))],[(.loc 26 0,.arr 197 3 ((Zb4 p r k).map Nd.pv)),(.loc 3 0,.cells [.pv (.int .i64 r),.pv (.int .i64 (-1)),.pv (.int .i64 (-1))])]++laid 0 (layB q p 1)⟩)
  ⟨p.length,⟨[(0,.ptr (.par 0) 0),(3,.ptr (.loc 3 0) 0),(4,.vec (.loc 26 0) 3 0 0),(10,.pv (.int .i64 p.length)),(11,.pv (.int .i64 0))],[(.loc 26 0,.arr 197 3 []),(.loc 3 0,.cells [.pv (.int .i64 r),.pv (.int .i64 (-1)),.pv (.int .i64 (-1))])]++laid 0 (layB q p 1)⟩,Sub.trans' (Sub.mk (by simp[AS.vecT]) (by simp[AS.vecT,layB,laid])) (vecT 26 197 3 4 rfl (by decide)),0,Zx0 _,rfl,by simp[Zb4]⟩ ?_
 rintro J hJ n τ ⟨k,hk,rfl,rfl⟩;by_cases hlt:k<p.length
 ·have hw:=wrapS (k:=k) (by omega);have hmeas:p.length-(k+1)<p.length-k:=by omega
  have hround:=hJ _ _ ⟨k+1,hlt,rfl,rfl⟩;have hnx:=Zjs (r:=r) hlt;have hln:=Zgu (p:=p) (r:=r) (k:=k);have hon:=on_c (.lst false 1 (q.ms.map rgsP)) (.lst false 3 (q.rs.map Rq.pv)) p hp r k hlt;have hk6:(Zb4 p r k).length+1≤1000000:=by omega
  have hpt:(plP p).take p.length=plP p:=ZxW (by simp[plP]);have hpl:(plP p).length=p.length:=by simp[plP]
  clear hJ;generalize Zb4 p r (k+1)=N2 at *;generalize Zb4 p r k=N1 at *;simp[-getElem?_pos,-List.getElem?_map,layB,laid,hlt];refine Zaa (k:=3) (fs:=[]) (xs:=[.ref [.lst false 1 (q.ms.map rgsP),.lst false 3 (q.rs.map Rq.pv),.lst false 4 (plP p)],.int .i64 r,.int .i64 k]) (cs:=[]) rfl ?_ hon rfl ?_
  ·simp[snapW,AV.snap,AV.Zwg,hpl,hpt]
  by_cases ho:onI p r k = -1
  ·rw[if_pos ho]at hnx;subst hnx;simp[-getElem?_pos,-List.getElem?_map,ho,nble,hk6,hw];refine⟨_,_,hmeas,Sub.mk ?_ ?_,hround⟩
   ·simp
   ·simp[layB,laid,Nd.pv]
  ·rw[if_neg ho,Zx9]at hnx;subst hnx;simp[-getElem?_pos,-List.getElem?_map,ho,hw];refine⟨_,_,hmeas,Sub.mk ?_ ?_,hround⟩
   ·simp
   ·simp[layB,laid]
 ·have he:k=p.length:=by omega
  subst he;simp[-getElem?_pos,-List.getElem?_map,layB,laid];rw[←hR];exact⟨rfl,by simp[nodB,layB,laid,ZeI]⟩
theorem Zkg {p:List (List Int)}{h m:Nat}{l:List Int}{x:Int}(h1:p[h]?=some l)(h2:l[m]?=some x):who p h m=x:=by simp[who,h1,h2]
theorem Zp3 (q:Qu)(p:List (List Int))(hp:four p)(m h:Nat)(hm:m<4)(hh:h<p.length)(r:Nat)(hr:who p h m=r):
  Zai Tryz.prog 158 [.ptr (.par 0) 0,.pv (Nd.mh m h).pv] (laid 0 (layB q p 1)) (fun x B=>x=.vec (.ret 0) 3 0 1∧B=nodB [.rh r h]++laid 0 (layB q p 1)):=by
 obtain⟨l,hl⟩:∃l,p[h]?=some l:=⟨p[h],ZxL hh⟩;have h4:=hp l (ZxQ hl);obtain⟨x,hx⟩:∃x,l[m]?=some x:=⟨l[m]'(by omega),ZxL _⟩;rw[Zkg hl hx]at hr;subst hr;have hg:(plP p)[h]?=some (.agg (l.map (PV.int .i64))):=by rw[plP,ZxM,hl];rfl
 have hg2:(l.map (PV.int .i64))[m]?=some (.int .i64 r):=by rw[ZxM,hx];rfl
 refine cB [.loc 19 0,.par 0,.par 1] L158 ?_;simp[-getElem?_pos,-List.getElem?_map,L158,layB,laid,Nd.pv,nblt,nble,hh,hm,hg,hg2,nodB]
end
section
attribute [local simp] AS.exp expG Box.ren AV.map AV.Zu9 Zau noRet Site.Zu6 Box.Zu3 AV.Zu3 AV.Zu4 retB dropL AS.Zvd renL outG outOk Zas inG fnOf lookA Zyc
attribute [local simp] Box.Zu0 Site.Zu1
section
theorem cok111:COk Tryz.prog (tyOf tys) L157.code:=ZfE L157_ok L157_tab
noncomputable def skR:Box:=.loop (rcode Tryz.prog 157 0) [15] 50 [(2,.ptr (.par 3) 0),(3,.ptr (.par 4) 0),(4,.ptr (.par 5) 0)] none
def skL (q:Qu)(p:List (List Int))(r h:Nat)(e:Site)(s:List Nd):List (Site×Box):=
 [(.par 1,.cells [.pv (.lst false 1 (q.ms.map rgsP)),.pv (.lst false 3 (q.rs.map Rq.pv)),.vec (.par 2) 4 0 p.length]),(.par 2,.arr 88 4 (plP p)),(.par 3,.cells [.ptr (.par 1) 0]),(.par 4,.cells [.pv (.int .i64 r),.pv (.int .i64 (-1)),.pv (.int .i64 h)]),(.par 5,.cells [.vec e 3 0 s.length])]
noncomputable def skB (q:Qu)(p:List (List Int))(r h:Nat)(e:Site)(s:List Nd):List (Site×Box):=(.par 0,skR)::skL q p r h e s++[(e,.arr 197 3 (s.map Nd.pv))]
noncomputable def skA (q:Qu)(p:List (List Int))(r h:Nat)(s:List Nd):List (Site×Box):=(.par 0,skR)::(.ret 0,.arr 197 3 (s.map Nd.pv))::skL q p r h (.ret 0) s
theorem ZmU (q:Qu)(p:List (List Int))(hp:four p)(r h:Nat)(hh:h<p.length)(s:List Nd)(hs:s.length≤1000)(m:Nat)(hm:m<4):
  Zck Tryz.prog 0 [.pv (.int .i64 m)] (skB q p r h (.par 6) s) (fun x B=>x=.pv (.bool true)∧B=if who p h m=r then skB q p r h (.par 6) s else skA q p r h (s++[.mh m h])):=by
 obtain⟨l,hl⟩:∃l,p[h]?=some l:=⟨p[h],ZxL hh⟩;have h4:=hp l (ZxQ hl);obtain⟨x,hx⟩:∃x,l[m]?=some x:=⟨l[m]'(by omega),ZxL _⟩;have hwho:=Zkg hl hx;have hg:(plP p)[h]?=some (.agg (l.map (PV.int .i64))):=by rw[plP,ZxM,hl];rfl
 have hg2:(l.map (PV.int .i64))[m]?=some (.int .i64 x):=by rw[ZxM,hx];rfl
 have hs6:s.length+1≤1000000:=by omega
 have hcok:COk Tryz.prog (tyOf tys) (.rng 50 (.t 14) (rcode Tryz.prog 157 0) Y157_0a Y157_0b [15]):=cok111.2.1.2;refine ZaX mixed hcok.1 hcok.2.1 rfl rfl (by simp) rfl ?_;rw[hwho];generalize hR:(fun(z:AV) (B:List (Site×Box))=>z=.pv (.bool true)∧B=if x=(r:Int)then skB q p r h (.par 6) s else skA q p r h (s++[.mh m h]))=R;by_cases hxr:x=(r:Int)
 ·subst hxr;simp[-getElem?_pos,-List.getElem?_map,Y157_0a,Y157_0b,skB,skR,skL,putL,nblt,nble,hh,hm,hg,hg2];refine⟨[],[.par 1,.par 2,.par 3,.par 4,.par 5,.par 6],rfl,rfl,?_,?_⟩
  ·simp[frzL]
  ·rw[←hR];simp[skB,skR,skL,frzL]
 ·simp[-getElem?_pos,-List.getElem?_map,Y157_0a,Y157_0b,skB,skR,skL,putL,nblt,nble,hh,hm,hg,hg2,hxr,hs6];refine⟨[],[.loc 35 0,.par 1,.par 2,.par 3,.par 4,.par 5],rfl,rfl,?_,?_⟩
  ·simp[frzL]
  ·rw[←hR];simp[skA,skR,skL,frzL,hxr,Nd.pv]
def seekK (q:Qu)(p:List (List Int))(r h k:Nat):List Nd:=((q.Zwi r h k).filter fun m=>!decide (who p h m=r)).map (Nd.mh · h)
theorem ZlI (q:Qu){p:List (List Int)}{r h k:Nat}(hk:k<q.ms.length):seekK q p r h (k+1)=seekK q p r h k++(if q.may r k h=true∧¬who p h k=r then[.mh k h]else[]):=by
 unfold seekK;rw[q.ZwP hk,Zyw,Zyb];cases hm:q.may r k h<;>by_cases hw:who p h k=r<;>simp[hw]
theorem Zfi {q:Qu}{p:List (List Int)}{r h k:Nat}:(seekK q p r h k).length≤k:=by
 unfold seekK Qu.Zwi;rw[ZxS];refine Zx5 (ZyB _ _) (Zx5 (ZyB _ _) ?_);rw[ZxT];omega
noncomputable def skF (q:Qu)(p:List (List Int))(r h:Nat)(s:List Nd):List (Site×Box):=(.ret 0,.arr 197 3 (s.map Nd.pv))::(.par 0,skR)::skL q p r h (.ret 0) s
def skV (q:Qu)(r h k:Nat):List (Nat×AV):=[(0,.yld (.par 0)),(2,.pv (.ref [.int .i64 r])),(3,.pv (.ref [.int .i64 h])),(5,.pv (.fn 210 [q.pv] [])),(11,.pv (.int .i64 q.ms.length)),(12,.pv (.int .i64 k))]
theorem Zss (q:Qu)(hq:q.ok)(p:List (List Int))(hp:four p)(r h:Nat)(hr:r<q.rs.length)(hh:h<p.length):
  Zai Tryz.prog 209 [.yld (.par 0),.pv (.ref [.lst false 1 (q.ms.map rgsP),.lst false 3 (q.rs.map Rq.pv)]),.pv (.ref [.int .i64 r]),.pv (.ref [.int .i64 h])] (skB q p r h (.par 6) []) (fun x B=>x=.pv (.tup [])∧B=skF q p r h (seekK q p r h q.ms.length)):=by
 have hqm:=hq.m;refine cBR [.loc 23 0,.par 0,.par 1,.par 2,.par 3,.par 4,.par 5] L209 ?_;intro R hR;simp[-getElem?_pos,L209];refine Zaf (fun n τ=>∃(k:Nat),k≤q.ms.length∧n=q.ms.length-k∧τ=⟨skV q r h k,skB q p r h (.loc 23 0) (seekK q p r h k)⟩)
  ⟨q.ms.length,⟨skV q r h 0,skB q p r h (.loc 23 0) []⟩,Sub.trans' (Sub.mk ?_ ?_) (Sub.ren 23 (.par 6) _),0,Zx0 _,rfl,by simp[seekK,Qu.Zwi]⟩ ?_
 ·simp[AS.ren,skV,skB,skL,skR,renS,Qu.pv]
 ·simp[AS.ren,skV,skB,skL,skR,renS]
 rintro J hJ n τ ⟨k,hk,rfl,rfl⟩;by_cases hlt:k<q.ms.length
 ·have hw:=wrapS (k:=k) (by omega);have hmeas:q.ms.length-(k+1)<q.ms.length-k:=by omega
  have hmay:=may_c q hq r k h hr hlt;have hnx:=ZlI q (p:=p) (r:=r) (h:=h) hlt;have hlt':(k:Int)<(q.ms.length:Int):=by omega
  have hround:=hJ _ _ ⟨k+1,hlt,rfl,rfl⟩;have hsl:=Zfi (q:=q) (p:=p) (r:=r) (h:=h) (k:=k);have hY:=ZmU q p hp r h hh (seekK q p r h k) (by omega) k (by omega);clear hJ;generalize seekK q p r h (k+1)=S2 at *;generalize seekK q p r h k=S1 at *;simp[-getElem?_pos,-List.getElem?_map,skV,hlt,hlt'];refine Zaa (k:=0) (fs:=[q.pv]) (xs:=[.int .i64 r,.int .i64 k,.int .i64 h]) (cs:=[]) rfl rfl hmay rfl ?_;cases hm:q.may r k h
  ·rw[hm,if_neg (by simp),Zx9]at hnx;subst hnx;simp[-getElem?_pos,-List.getElem?_map,hw];refine⟨_,_,hmeas,Sub.mk ?_ ?_,hround⟩
   ·simp[skV]
   ·simp[skB,skL,skR]
  ·simp[-getElem?_pos,-List.getElem?_map,skB,skL,skR];refine ZlC 1023 0 [.par 0,.par 1,.par 2,.par 3,.par 4,.par 5,.loc 23 0] (as':=[.pv (.int .i64 k)]) rfl rfl rfl rfl ?_ rfl rfl hY ?_
   ·simp[skB,skL,skR]
   rintro x B ⟨rfl,rfl⟩;by_cases hwr:who p h k=r
   ·rw[if_neg (by simp[hwr]),Zx9]at hnx;subst hnx;rw[if_pos hwr];refine⟨rfl,by simp[skB,skL,skR],?_⟩;simp[-getElem?_pos,-List.getElem?_map,skB,skL,skR,hw];refine⟨_,_,hmeas,Sub.mk ?_ ?_,hround⟩
    ·simp[skV]
    ·simp[skB,skL,skR]
   ·rw[if_pos ⟨hm,hwr⟩]at hnx;subst hnx;rw[if_neg hwr];refine⟨rfl,by simp[skA,skL,skR],?_⟩;simp[-getElem?_pos,-List.getElem?_map,skA,skL,skR,hw];refine⟨_,_,hmeas,Sub.trans' (Sub.mk ?_ ?_) (Sub.ren 23 (.loc 1023 0) _),hround⟩
    ·simp[AS.ren,renS,skV]
    ·simp[AS.ren,renS,skB,skL,skR,Nd.pv]
 ·have he:k=q.ms.length:=by omega
  subst he;simp[-getElem?_pos,-List.getElem?_map,skV,skB,skL,skR];rw[←hR];simp[skF,skL,skR]
def ZdJ (q:Qu)(p:List (List Int))(r h:Nat):List Nd:=seekK q p r h q.ms.length++(if onI p r h = -1 then[]else[.ru r])
theorem Zp5 (q:Qu)(hq:q.ok)(p:List (List Int))(hp:four p)(r h:Nat)(hr:r<q.rs.length)(hh:h<p.length):
  Zai Tryz.prog 157 [.ptr (.par 0) 0,.pv (Nd.rh r h).pv] (laid 0 (layB q p 1)) (fun x B=>x=.vec (.ret 0) 3 0 (ZdJ q p r h).length∧B=nodB (ZdJ q p r h)++laid 0 (layB q p 1)):=by
 have hqm:=hq.m;have hit:=Zss q hq p hp r h hr hh;have hon:=on_c (.lst false 1 (q.ms.map rgsP)) (.lst false 3 (q.rs.map Rq.pv)) p hp r h hh;have hsl:=Zfi (q:=q) (p:=p) (r:=r) (h:=h) (k:=q.ms.length);have hpt:(plP p).take p.length=plP p:=ZxW (by simp[plP]);have hpl:(plP p).length=p.length:=by simp[plP]
 have hS:ZdJ q p r h=seekK q p r h q.ms.length++(if onI p r h = -1 then[]else[.ru r]):=rfl;refine cE L157 ?_;generalize hR:(fun(x:AV) (B:List (Site×Box))=>x=.vec (.ret 0) 3 0 (ZdJ q p r h).length∧B=nodB (ZdJ q p r h)++laid 0 (layB q p 1))=R;generalize ZdJ q p r h=S at *;generalize seekK q p r h q.ms.length=S1 at *;have hs6:S1.length+1≤1000000:=by omega
 simp[-getElem?_pos,-List.getElem?_map,L157,layB,laid,Nd.pv];refine .inl (cQ [] [q.pv,.int .i64 r,.int .i64 h] (Zer q r h) ?_);simp[-getElem?_pos,-List.getElem?_map,frzsL,macF];refine ZsF (vecC 60 197 3 (s:=.loc 4 0) (cs:=[.pv (.emp (some true))]) 0 rfl rfl (by decide)) ?_;refine Zc9 [.loc 50 0,.par 0,.par 1,.loc 2 0,.loc 3 0,.loc 4 0,.loc 60 0] [(2,.ptr (.loc 2 0) 0),(3,.ptr (.loc 3 0) 0),(4,.ptr (.loc 4 0) 0)] (gf:=209) (fs:=[]) (cs:=[.pv (.ref [.lst false 1 (q.ms.map rgsP),.lst false 3 (q.rs.map Rq.pv)]),.pv (.ref [.int .i64 r]),.pv (.ref [.int .i64 h])]) ?_ ?_ rfl rfl ?_ ?_ ?_ hit ?_
 ·rfl
 ·simp[AS.vecC]
 ·simp[AS.vecC,skB,skL,skR]
 ·rfl
 ·rfl
 rintro x B ⟨rfl,rfl⟩;refine⟨rfl,by simp[skF,skL,skR],?_⟩;refine⟨_,_,_,_,_,rfl,?_⟩;simp[-getElem?_pos,-List.getElem?_map,AS.vecC,skF,skL,skR,jumpQ];refine Zaa (k:=3) (fs:=[]) (xs:=[.ref [.lst false 1 (q.ms.map rgsP),.lst false 3 (q.rs.map Rq.pv),.lst false 4 (plP p)],.int .i64 r,.int .i64 h]) (cs:=[]) rfl ?_ hon rfl ?_
 ·simp[snapW,AV.snap,AV.Zwg,hpl,hpt]
 by_cases ho:onI p r h = -1
 ·rw[if_pos ho,Zx9]at hS;subst hS;simp[-getElem?_pos,-List.getElem?_map,ho];refine⟨[.loc 51 0,.par 0,.par 1],?_⟩;simp;rw[←hR];simp[nodB,layB,laid]
 ·rw[if_neg ho]at hS;subst hS;simp[-getElem?_pos,-List.getElem?_map,ho,nble,hs6];refine⟨[.loc 48 0,.par 0,.par 1],?_⟩;simp;rw[←hR];simp[nodB,layB,laid,Nd.pv]
end
end
section
abbrev By:=List (Nd×Nd)
def par (by':By)(n:Nd):Option Nd:=(by'.find? fun e=>decide (n=e.1)).map (·.2)
def byP (by':By):List (PV×PV):=by'.map fun e=>(e.1.pv,e.2.pv)
def Nd.a:Nd→Int
 |.ru r=>r
 |.rh r _=>r
 |.mh _ _=>-1
def Nd.b:Nd→Int
 |.mh m _=>m
 |_=>-1
def Nd.c:Nd→Int
 |.ru _=>-1
 |.rh _ h=>h
 |.mh _ h=>h
theorem Nd.ZvC (n:Nd):n.pv=.agg [.int .i64 n.a,.int .i64 n.b,.int .i64 n.c]:=by cases n<;>rfl
theorem ZnH (a b:Nd):eqK a.pv b.pv=decide (a=b):=by
 rw[Zyr];cases a<;>cases b<;>simp[eqK,Nd.pv,eqL,eqC,PV.cells]<;>omega
theorem ZhF (n:Nd):∀by':By,findV n.pv (byP by')=(par by' n).map Nd.pv
 |[]=>rfl
 |e::r=>by
  have ih:=ZhF n r;unfold byP at ih ⊢;rw[ZxZ,findV,ZnH];unfold par at ih ⊢;rw[List.find?_cons];cases decide (n=e.1)with
  |true=>rfl
  |false=>exact ih
theorem Znm {n b:Nd}:∀{by':By},par by' n=none→putK n.pv b.pv (byP by')=byP (by'++[(n,b)])
 |[],_=>rfl
 |e::r,h=>by
  unfold par at h;rw[List.find?_cons]at h;unfold byP;rw[ZxZ,putK,ZnH];cases hd:decide (n=e.1)with
  |true=>rw[hd]at h;simp at h
  |false=>
   rw[hd]at h
   have:=Znm (n:=n) (b:=b) (by':=r) h
   unfold byP at this;simp[this]
theorem kt_nd (n:Nd):KT.ok ⟨true,[.int .i64,.int .i64,.int .i64]⟩ n.pv=true:=by cases n<;>rfl
theorem ZnS (by':By):Zbi ⟨true,[.int .i64,.int .i64,.int .i64]⟩ (byP by')=true:=by
 unfold Zbi byP;rw[List.all_map,Zx7];exact fun e _=>kt_nd e.1
def setP (p:List (List Int))(h m:Nat)(x:Int):List (List Int):=p.set h (((p[h]?).getD []).set m x)
def chg1 (n b:Nd)(p:List (List Int)):List (List Int):=match n,b with
 |.mh m h,b=>setP p h m b.a
 |.rh _ h,.mh m _=>setP p h m (-1)
 |_,_=>p
def chg (by':By):Nat→Nd→List (List Int)→List (List Int)
 |0,_,p=>p
 |f+1,n,p=>match par by' n with
  |none=>p
  |some b=>if n=b then p else chg by' f b (chg1 n b p)
theorem Zb9 {p:List (List Int)}{h m:Nat}{x:Int}:(setP p h m x).length=p.length:=by simp[setP]
theorem Zh3 {p:List (List Int)}(hp:four p){h m:Nat}{x:Int}(hh:h<p.length):four (setP p h m x):=fun l hl=>by
 rcases List.mem_or_eq_of_mem_set hl with h1|h1
 ·exact hp l h1
 ·subst h1
  have:p[h]?=some p[h]:=ZxL hh
  rw[this];simp[hp _ (Zyh hh)]
theorem Zln {n b:Nd}{p:List (List Int)}:(chg1 n b p).length=p.length:=by
 cases n<;>cases b<;>simp[chg1,Zb9]
theorem ZlG {l:List PV}{m:Nat}{x:PV}(hm:m<l.length):splice l m [x]=l.set m x:=by
 have hs:m+[x].length≤l.length:=by simp;omega
 apply List.ext_getElem?;intro j;rw[Zao hs];by_cases e:j=m
 ·subst e;rw[if_neg (by omega),if_pos (by simp),ZyA hm];simp
 ·rw[ZyC (fun e'=>e e'.symm)];split
  ·rfl
  ·rw[if_neg (by simp;omega)]
theorem Zno {p:List (List Int)}{h m:Nat}{l:List Int}{x:Int}(hl:p[h]?=some l)(hm:m<l.length):(plP p).set h (.agg (splice (l.map (PV.int .i64)) m [.int .i64 x]))=plP (setP p h m x):=by
 rw[ZlG (by simpa using hm),plP,plP,setP,hl,List.map_set];simp only[Zym,rowP];rw[List.map_set]
def Nd.ok (q:Qu)(p:List (List Int)):Nd→Prop
 |.ru r=>r<q.rs.length
 |.rh r h=>r<q.rs.length∧h<p.length
 |.mh m h=>m<q.ms.length∧h<p.length
structure ByOk (q:Qu)(p:List (List Int))(by':By):Prop where
 nd:(by'.map (·.1)).Nodup
 ok:∀e∈by',e.1.ok q p∧e.2.ok q p
 up:∀(i:Nat) (e:Nd×Nd),by'[i]?=some e→e.1=e.2∨∃(j:Nat) (e':Nd×Nd),j<i∧by'[j]?=some e'∧e'.1=e.2
theorem ZkJ {by':By}(hn:(by'.map (·.1)).Nodup){i:Nat}{e:Nd×Nd}(h:by'[i]?=some e):par by' e.1=some e.2:=by
 induction by' generalizing i with
 |nil=>simp at h
 |cons a r ih=>
  rw[ZxZ,List.nodup_cons]at hn;unfold par;rw[List.find?_cons];cases i with
  |zero=>simp at h;subst h;simp
  |succ i=>
   have h':r[i]?=some e:=by simpa using h
   have hne:¬e.1=a.1:=fun e'=>hn.1 (by rw[←e'];exact ZxY.2 ⟨e,ZxQ h',rfl⟩)
   rw[decide_eq_false hne];exact ih hn.2 h'
theorem Nd.ZwC {q:Qu}{p p':List (List Int)}(h:p'.length=p.length){n:Nd}(hn:n.ok q p):n.ok q p':=by
 cases n with
 |ru r=>exact hn
 |rh r k=>exact⟨hn.1,by rw[h];exact hn.2⟩
 |mh m k=>exact⟨hn.1,by rw[h];exact hn.2⟩
attribute [local simp] AS.exp expG Box.ren AV.map AV.Zu9 Zau noRet Site.Zu6 Box.Zu3 AV.Zu3 AV.Zu4 retB dropL AS.Zvd renL outG outOk Zas inG fnOf lookA Zyc
attribute [local simp] Box.Zu0 Site.Zu1
def chgB (q:Qu)(p:List (List Int))(by':By):List Box:=layB q p 1++[.map (byP by')]
def chgS (q:Qu)(p:List (List Int))(by':By)(n:Nd):AS:=⟨[(0,.ptr (.par 0) 0),(2,.mp (.par 2)),(4,.ptr (.loc 4 0) 0)],(.loc 4 0,.cells [.pv (.int .i64 n.a),.pv (.int .i64 n.b),.pv (.int .i64 n.c)])::laid 0 (chgB q p by')⟩
theorem ZqP (q:Qu)(hq:q.ok)(by':By)(p0:List (List Int))(hb:ByOk q p0 by')(hp0:four p0)(i0:Nat)(n0 b0:Nd)(hi0:by'[i0]?=some (n0,b0)):
  Zai Tryz.prog 116 [.ptr (.par 0) 0,.pv n0.pv,.mp (.par 2)] (laid 0 (chgB q p0 by')) (fun x B=>x=.pv (.tup [])∧B=laid 0 (chgB q (chg by' by'.length n0 p0) by')):=by
 have hqm:=hq.m;refine cBR [.par 0,.par 1,.par 2] L116 ?_;intro R hR;obtain⟨RES,hRES⟩:∃z,z=chg by' by'.length n0 p0:=⟨_,rfl⟩
 rw[←hRES]at hR;rw[Nd.ZvC];simp[-getElem?_pos,L116,chgB,layB,laid];refine Zaf (fun k τ=>∃(p:List (List Int)) (n b:Nd) (f:Nat),by'[k]?=some (n,b)∧k<f∧chg by' f n p=RES∧four p∧p.length=p0.length∧τ=chgS q p by' n)
  ⟨i0,chgS q p0 by' n0,Sub.mk (by simp) (by simp[chgB,layB,laid]),p0,n0,b0,by'.length,hi0,(ZxN.1 hi0).1,hRES.symm,hp0,rfl,rfl⟩ ?_
 clear hRES;rintro J hJ k τ ⟨p,n,b,f,hk,hf,hres,hp,hlen,rfl⟩;have hpar:=ZkJ hb.nd hk;have hfind:=ZhF n by'
 rw[hpar]at hfind;simp only[Zyq]at hfind;have hE:=ZnH n b;have hkn:=ZnR n;have hkb:=ZnR b;have hkt:=kt_nd n;have hktb:=kt_nd b;have hks:=ZnS by'
 obtain⟨okn,okb⟩:=hb.ok _ (ZxQ hk);have okn:=Nd.ZwC hlen okn;have okb:=Nd.ZwC hlen okb;obtain⟨f',rfl⟩:∃f',f=f'+1:=⟨f-1,by omega⟩;have hch:chg by' (f'+1) n p=if n=b then p else chg by' f' b (chg1 n b p):=by rw[chg,hpar]
 rw[hch]at hres;by_cases hnb:n=b
 ·rw[if_pos hnb]at hres;subst hres;clear hJ;rw[decide_eq_true hnb]at hE;rw[Nd.ZvC,Nd.ZvC]at hE;rw[Nd.ZvC,Nd.ZvC]at hfind;rw[Nd.ZvC]at hkt hktb;simp[-getElem?_pos,-eqK,-KT.ok,chgS,chgB,layB,laid,hE,hfind,hkt,hktb,hks];rw[←hR];simp[chgB,layB,laid]
 ·rw[if_neg hnb]at hres;rw[decide_eq_false hnb]at hE;obtain⟨j,e',hj,hj1,hj2⟩:∃(j:Nat) (e':Nd×Nd),j<k∧by'[j]?=some e'∧e'.1=b:=by
   rcases hb.up k _ hk with h|h
   ·exact absurd h hnb
   ·exact h
  have hround:=hJ j (chgS q (chg1 n b p) by' b) ⟨chg1 n b p,b,e'.2,f',by rw[hj1,←hj2],by omega,hres,(by
   cases n<;>cases b<;>first|exact hp|exact Zh3 hp okn.2),by rw[Zln];exact hlen,rfl⟩
  clear hJ hres hch hb;cases n with
  |mh m h=>
   obtain⟨l,hl⟩:∃l,p[h]?=some l:=⟨p[h]'okn.2,ZxL _⟩;have h4:=hp l (ZxQ hl);have hmm:m<q.ms.length:=okn.1;have hm4:m<4:=by omega
   have hh:h<p.length:=okn.2;have hg:(plP p)[h]?=some (.agg (l.map (PV.int .i64))):=by rw[plP,ZxM,hl];rfl
   have hset:=Zno (x:=b.a) hl (m:=m) (by omega);have hpl:(plP p).length=p.length:=by simp[plP]
   have hm1:m+1≤4:=by omega
   rw[Nd.ZvC b]at hE hfind hktb hkb;simp only[Nd.pv,Nd.kind]at hE hfind hkt hkn;rw[show chg1 (.mh m h) b p=setP p h m b.a from rfl]at hround;unfold chgS at hround;generalize b.a=ba at *;generalize b.b=bb at *;generalize b.c=bc at *;simp[-getElem?_pos,-List.getElem?_map,-eqK,-KT.ok,chgS,chgB,layB,laid,Nd.a,Nd.b,Nd.c,hE,hfind,hkt,hktb,hks];refine Zaa (k:=0) (fs:=[]) (cs:=[]) rfl rfl hkn rfl ?_;simp[-getElem?_pos,-List.getElem?_map,-eqK,-KT.ok,-splice,nblt,nble,hh,hm4,hm1,hg,h4,setAt,hset,hpl];refine⟨_,_,hj,Sub.mk ?_ ?_,hround⟩
   ·simp
   ·simp[chgB,layB,laid,chg1,Zb9]
  |ru r=>
   rw[Nd.ZvC b]at hE hfind hktb hkb;simp only[Nd.pv,Nd.kind]at hE hfind hkt hkn;rw[show chg1 (.ru r) b p=p by cases b<;>rfl]at hround;unfold chgS at hround;generalize b.a=ba at *;generalize b.b=bb at *;generalize b.c=bc at *;simp[-getElem?_pos,-List.getElem?_map,-eqK,-KT.ok,chgS,chgB,layB,laid,Nd.a,Nd.b,Nd.c,hE,hfind,hkt,hktb,hks];refine Zaa (k:=0) (fs:=[]) (cs:=[]) rfl rfl hkn rfl ?_;simp[-getElem?_pos,-List.getElem?_map,-eqK,-KT.ok];refine Zaa (k:=0) (fs:=[]) (cs:=[]) rfl rfl hkn rfl ?_;simp[-getElem?_pos,-List.getElem?_map,-eqK,-KT.ok];refine⟨_,_,hj,Sub.mk ?_ ?_,hround⟩
   ·simp
   ·simp[chgB,layB,laid]
  |rh r h=>
   cases b with
   |mh m h'=>
    obtain⟨l,hl⟩:∃l,p[h]?=some l:=⟨p[h]'okn.2,ZxL _⟩;have h4:=hp l (ZxQ hl);have hmm:m<q.ms.length:=okb.1;have hm4:m<4:=by omega
    have hh:h<p.length:=okn.2;have hg:(plP p)[h]?=some (.agg (l.map (PV.int .i64))):=by rw[plP,ZxM,hl];rfl
    have hset:=Zno (x:=-1) hl (m:=m) (by omega);have hpl:(plP p).length=p.length:=by simp[plP]
    have hm1:m+1≤4:=by omega
    simp only[Nd.pv,Nd.kind]at hE hfind hkt hktb hkn hkb;simp[-getElem?_pos,-List.getElem?_map,-eqK,-KT.ok,chgS,chgB,layB,laid,Nd.a,Nd.b,Nd.c,hE,hfind,hkt,hktb,hks];refine Zaa (k:=0) (fs:=[]) (cs:=[]) rfl rfl hkn rfl ?_;simp[-getElem?_pos,-List.getElem?_map,-eqK,-KT.ok];refine Zaa (k:=0) (fs:=[]) (cs:=[]) rfl rfl hkn rfl ?_;simp[-getElem?_pos,-List.getElem?_map,-eqK,-KT.ok];refine Zaa (k:=0) (fs:=[]) (cs:=[]) rfl rfl hkb rfl ?_;simp[-getElem?_pos,-List.getElem?_map,-eqK,-KT.ok,-splice,nblt,nble,hh,hm4,hm1,hg,h4,setAt,hset,hpl];refine⟨_,_,hj,Sub.mk ?_ ?_,hround⟩
    ·simp
    ·simp[chgB,layB,laid,chg1,Zb9,Nd.a,Nd.b,Nd.c]
   |ru r'=>
    simp only[Nd.pv,Nd.kind]at hE hfind hkt hktb hkn hkb;simp[-getElem?_pos,-List.getElem?_map,-eqK,-KT.ok,chgS,chgB,layB,laid,Nd.a,Nd.b,Nd.c,hE,hfind,hkt,hktb,hks];refine Zaa (k:=0) (fs:=[]) (cs:=[]) rfl rfl hkn rfl ?_;simp[-getElem?_pos,-List.getElem?_map,-eqK,-KT.ok];refine Zaa (k:=0) (fs:=[]) (cs:=[]) rfl rfl hkn rfl ?_;simp[-getElem?_pos,-List.getElem?_map,-eqK,-KT.ok];refine Zaa (k:=0) (fs:=[]) (cs:=[]) rfl rfl hkb rfl ?_;simp[-getElem?_pos,-List.getElem?_map,-eqK,-KT.ok];refine⟨_,_,hj,Sub.mk ?_ ?_,hround⟩
    ·simp
    ·simp[chgB,layB,laid,chg1,Nd.a,Nd.b,Nd.c]
   |rh r' h'=>
    simp only[Nd.pv,Nd.kind]at hE hfind hkt hktb hkn hkb;simp[-getElem?_pos,-List.getElem?_map,-eqK,-KT.ok,chgS,chgB,layB,laid,Nd.a,Nd.b,Nd.c,hE,hfind,hkt,hktb,hks];refine Zaa (k:=0) (fs:=[]) (cs:=[]) rfl rfl hkn rfl ?_;simp[-getElem?_pos,-List.getElem?_map,-eqK,-KT.ok];refine Zaa (k:=0) (fs:=[]) (cs:=[]) rfl rfl hkn rfl ?_;simp[-getElem?_pos,-List.getElem?_map,-eqK,-KT.ok];refine Zaa (k:=0) (fs:=[]) (cs:=[]) rfl rfl hkb rfl ?_;simp[-getElem?_pos,-List.getElem?_map,-eqK,-KT.ok];refine⟨_,_,hj,Sub.mk ?_ ?_,hround⟩
    ·simp
    ·simp[chgB,layB,laid,chg1,Nd.a,Nd.b,Nd.c]
end
section
def ZaS (p:List (List Int)):Nd→Bool
 |.mh m h=>decide (who p h m = -1)
 |_=>false
def nx (q:Qu)(p:List (List Int)):Nd→List Nd
 |.ru r=>ZeI p r
 |.rh r h=>ZdJ q p r h
 |.mh m h=>[.rh (who p h m).toNat h]
def push1 (n:Nd)(s:By×List Nd)(x:Nd):By×List Nd:=if(par s.1 x).isSome=true then s else(s.1++[(x,n)],s.2++[x])
def bfs (q:Qu)(p:List (List Int)):Nat→By→List Nd→Option (List (List Int))
 |0,_,_=>none
 |_+1,_,[]=>none
 |f+1,by',n::rest=>if ZaS p n=true then some (chg by' by'.length n p)else bfs q p f ((nx q p n).foldl (push1 n) (by',rest)).1 ((nx q p n).foldl (push1 n) (by',rest)).2
def giveP (F:Nat)(q:Qu)(p:List (List Int))(run:Nat):Option (List (List Int)):=bfs q p F [(.ru run,.ru run)] [.ru run]
structure PW (q:Qu)(p:List (List Int)):Prop where
 f:four p
 ok:∀l∈p,∀x∈l,x = -1∨(0≤x∧x<q.rs.length)
 l:p.length≤40
theorem PW.who {q:Qu}{p:List (List Int)}(hp:PW q p)(h m:Nat):who p h m = -1∨(0≤Go.Proofs.YtfpmaennjlggeaaGreatDoor.Qn.who p h m∧Go.Proofs.YtfpmaennjlggeaaGreatDoor.Qn.who p h m<q.rs.length):=by
 unfold Go.Proofs.YtfpmaennjlggeaaGreatDoor.Qn.who;cases h1:p[h]? with
 |none=>left;simp
 |some l=>
  simp only[Zym];cases h2:l[m]? with
  |none=>left;rfl
  |some x=>exact hp.ok l (ZxQ h1) x (ZxQ h2)
theorem nx_ok {q:Qu}(hq:q.ok){p:List (List Int)}(hp:PW q p){n:Nd}(hn:n.ok q p)(hf:ZaS p n=false):∀x∈nx q p n,x.ok q p:=by
 intro x hx;cases n with
 |ru r=>
  simp only[nx,ZeI,Zb4,ZxY,ZxX]at hx;obtain⟨h,⟨h1,_⟩,rfl⟩:=hx
  have:=List.mem_of_mem_take h1
  exact⟨hn,by simpa using this⟩
 |rh r h=>
  simp only[nx,ZdJ,Zyp]at hx;rcases hx with hx|hx
  ·simp only[seekK,ZxY,ZxX]at hx;obtain⟨m,⟨h1,_⟩,rfl⟩:=hx;exact⟨Zhs hq m h1,hn.2⟩
  ·split at hx
   ·cases hx
   ·simp at hx;subst hx;exact hn.1
 |mh m h=>
  simp only[nx,Zyi]at hx;subst hx;have h1:¬who p h m = -1:=by simpa[ZaS]using hf
  have:=hp.who h m
  exact⟨by omega,hn.2⟩
def Nd.code:Nd→Nat
 |.ru r=>r
 |.rh r h=>6+6*h+r
 |.mh m h=>246+4*h+m
theorem Nd.Zxi {q:Qu}(hq:q.ok){p:List (List Int)}(hp:PW q p){n:Nd}(hn:n.ok q p):n.code<406:=by
 have h1:=hq.r;have h2:=hq.m;have h3:=hp.l;cases n with
 |ru r=>have:r<q.rs.length:=hn;show r<406;omega
 |rh r h=>obtain⟨a,b⟩:=hn;show 6+6*h+r<406;omega
 |mh m h=>obtain⟨a,b⟩:=hn;show 246+4*h+m<406;omega
theorem Nd.Zw0 {q:Qu}(hq:q.ok){p:List (List Int)}(hp:PW q p){n n':Nd}(hn:n.ok q p)(hn':n'.ok q p)(h:n.code=n'.code):n=n':=by
 have h1:=hq.r;have h2:=hq.m;have h3:=hp.l;cases n with
 |ru r=>
  have a:r<q.rs.length:=hn;cases n' with
  |ru r'=>have:r=r':=h;subst this;rfl
  |rh r' h'=>have e:r=6+6*h'+r':=h;omega
  |mh m' h'=>have e:r=246+4*h'+m':=h;omega
 |rh r k=>
  obtain⟨a,b⟩:=hn;cases n' with
  |ru r'=>have e:6+6*k+r=r':=h;have a':r'<q.rs.length:=hn';omega
  |rh r' k'=>
   obtain⟨a',b'⟩:=hn';have e:6+6*k+r=6+6*k'+r':=h;have e1:k=k':=by omega
   have e2:r=r':=by omega
   rw[e1,e2]
  |mh m' k'=>obtain⟨a',b'⟩:=hn';have e:6+6*k+r=246+4*k'+m':=h;omega
 |mh m k=>
  obtain⟨a,b⟩:=hn;cases n' with
  |ru r'=>have e:246+4*k+m=r':=h;have a':r'<q.rs.length:=hn';omega
  |rh r' k'=>obtain⟨a',b'⟩:=hn';have e:246+4*k+m=6+6*k'+r':=h;omega
  |mh m' k'=>
   obtain⟨a',b'⟩:=hn';have e:246+4*k+m=246+4*k'+m':=h;have e1:k=k':=by omega
   have e2:m=m':=by omega
   rw[e1,e2]
theorem Zhm:∀(N:Nat) (l:List Nat),l.Nodup→(∀x∈l,x<N)→l.length≤N
 |0,[],_,_=>ZxR _
 |0,x::r,_,h=>absurd (h x (by simp)) (by omega)
 |N+1,l,hn,h=>by
  by_cases hm:N∈l
  ·have h1:=Zhm N (l.erase N) (hn.erase N) (fun x hx=>by
    have h2:=(hn.mem_erase_iff).1 hx
    have:=h x h2.2
    have:=h2.1
    omega)
   rw[List.length_erase_of_mem hm]at h1;omega
  ·have:=Zhm N l hn (fun x hx=>by
    have:=h x hx
    have:x≠N:=fun e=>hm (e▸hx)
    omega)
   omega
structure BW (q:Qu)(p:List (List Int))(s:By×List Nd):Prop where
 b:ByOk q p s.1
 t:∀n∈s.2,∃(i:Nat) (b:Nd),s.1[i]?=some (n,b)
theorem BW.len {q:Qu}(hq:q.ok){p:List (List Int)}(hp:PW q p){s:By×List Nd}(h:BW q p s):s.1.length≤406:=by
 have h1:((s.1.map (·.1)).map Nd.code).Nodup:=by
  rw[List.nodup_iff_pairwise_ne,List.pairwise_map];refine List.Pairwise.imp_of_mem ?_ (List.nodup_iff_pairwise_ne.1 h.b.nd);intro a b ha hb hne e;obtain⟨x,hx,rfl⟩:=ZxY.1 ha;obtain⟨y,hy,rfl⟩:=ZxY.1 hb;exact hne (Nd.Zw0 hq hp (h.b.ok x hx).1 (h.b.ok y hy).1 e)
 have:=Zhm 406 _ h1 (fun x hx=>by
  obtain⟨n,hn,rfl⟩:=ZxY.1 hx;obtain⟨e,he,rfl⟩:=ZxY.1 hn;exact Nd.Zxi hq hp (h.b.ok e he).1)
 simpa using this
theorem ZpI {by':By}{n:Nd}(h:par by' n=none):n∉by'.map (·.1):=fun hm=>by
 obtain⟨e,he,rfl⟩:=ZxY.1 hm;unfold par at h;rw[Option.map_eq_none_iff,List.find?_eq_none]at h;exact h e he (by simp)
theorem BW.push {q:Qu}{p:List (List Int)}{s:By×List Nd}(h:BW q p s){n x:Nd}(hn:∃(i:Nat) (b:Nd),s.1[i]?=some (n,b))(hx:x.ok q p):BW q p (push1 n s x)∧(∃(i:Nat) (b:Nd),(push1 n s x).1[i]?=some (n,b))∧
  (push1 n s x).2.length+s.1.length=s.2.length+(push1 n s x).1.length∧s.1.length≤(push1 n s x).1.length:=by
 unfold push1;split
 ·exact⟨h,hn,by omega,ZxR _⟩
 ·rename_i hp;have hpn:par s.1 x=none:=by cases hh:par s.1 x with
   |none=>rfl
   |some b=>rw[hh]at hp;exact absurd rfl hp
  have hnot:=ZpI hpn;obtain⟨i,b,hi⟩:=hn;have hil:=(ZxN.1 hi).1;have old:∀(j:Nat) (e:Nd×Nd),s.1[j]?=some e→(s.1++[(x,n)])[j]?=some e:=fun j e hj=>by
   rw[List.getElem?_append_left (ZxN.1 hj).1];exact hj
  refine⟨⟨⟨?_,fun e he=>?_,fun j e hj=>?_⟩,fun y hy=>?_⟩,⟨i,b,old i _ hi⟩,by simp;omega,by simp⟩
  ·rw[Zyb,List.nodup_append];refine⟨h.b.nd,by simp,fun a ha c hc e=>?_⟩;simp at hc;subst hc e;exact hnot ha
  ·rcases Zyp.1 he with he|he
   ·exact h.b.ok e he
   ·simp at he;subst he;exact⟨hx,(h.b.ok _ (ZxQ hi)).1⟩
  ·rw[Zyl]at hj;split at hj
   ·rcases h.b.up j e hj with h1|⟨k,e',h1,h2,h3⟩
    ·exact .inl h1
    ·exact .inr ⟨k,e',h1,old k e' h2,h3⟩
   ·rename_i hjl
    have:j-s.1.length=0:=by
     have:=(ZxN.1 hj).1
     simp at this;omega
    rw[this]at hj;simp at hj;subst hj;exact .inr ⟨i,(n,b),by omega,old i _ hi,rfl⟩
  ·rcases Zyp.1 hy with hy|hy
   ·obtain⟨k,c,hk⟩:=h.t y hy;exact⟨k,c,old k _ hk⟩
   ·simp at hy;subst hy;exact⟨s.1.length,n,by simp⟩
theorem BW.ZwA {q:Qu}{p:List (List Int)}{n:Nd}:∀(l:List Nd) {s:By×List Nd},BW q p s→(∃(i:Nat) (b:Nd),s.1[i]?=some (n,b))→(∀x∈l,x.ok q p)→BW q p (l.foldl (push1 n) s)∧(∃(i:Nat) (b:Nd),(l.foldl (push1 n) s).1[i]?=some (n,b))∧
  (l.foldl (push1 n) s).2.length+s.1.length=s.2.length+(l.foldl (push1 n) s).1.length∧s.1.length≤(l.foldl (push1 n) s).1.length
 |[],s,h,hn,_=>⟨h,hn,by simp,ZxR _⟩
 |x::l,s,h,hn,hl=>by
  obtain⟨h1,h2,h3,h4⟩:=h.push hn (hl x (by simp));obtain⟨k1,k2,k3,k4⟩:=BW.ZwA l h1 h2 (fun y hy=>hl y (by simp[hy]));rw[List.foldl_cons];exact⟨k1,k2,by omega,by omega⟩
theorem BW.tail {q:Qu}{p:List (List Int)}{by':By}{n:Nd}{rest:List Nd}(h:BW q p (by',n::rest)):BW q p (by',rest):=⟨h.b,fun x hx=>h.t x (by simp[hx])⟩
theorem BW.start {q:Qu}{p:List (List Int)}{run:Nat}(hr:run<q.rs.length):BW q p ([(.ru run,.ru run)],[.ru run]):=
 ⟨⟨by simp,fun e he=>by simp at he;subst he;exact⟨hr,hr⟩,fun i e hi=>by
  cases i with
  |zero=>simp at hi;subst hi;exact .inl rfl
  |succ i=>simp at hi⟩,fun n hn=>by simp at hn;subst hn;exact⟨0,_,rfl⟩⟩
end
section
attribute [local simp] AS.exp expG Box.ren AV.map AV.Zu9 Zau noRet Site.Zu6 Box.Zu3 AV.Zu3 AV.Zu4 retB dropL AS.Zvd renL outG outOk Zas inG fnOf lookA Zyc
attribute [local simp] Box.Zu0 Site.Zu1
section
def fidOf:Nd→FuncId
 |.ru _=>156
 |.rh _ _=>157
 |.mh _ _=>158
theorem ZsY (q:Qu)(hq:q.ok)(p:List (List Int))(hp:PW q p)(n:Nd)(hn:n.ok q p)(hf:ZaS p n=false):
  Zai Tryz.prog (fidOf n) [.ptr (.par 0) 0,.pv n.pv] (laid 0 (layB q p 1)) (fun x B=>x=.vec (.ret 0) 3 0 (nx q p n).length∧B=nodB (nx q p n)++laid 0 (layB q p 1)):=by
 have hl:=hp.l;cases n with
 |ru r=>exact Zp8 q p hp.f (by omega) r
 |rh r h=>exact Zp5 q hq p hp.f r h hn.1 hn.2
 |mh m h=>
  have h1:¬who p h m = -1:=by simpa[ZaS]using hf
  have h2:=hp.who h m
  have:=hq.m
  have hm:m<q.ms.length:=hn.1;exact Zp3 q p hp.f m h (by omega) hn.2 (who p h m).toNat (by omega)
theorem ZmD (n:Nd):ZmE[n.kind]?=some (.agg [.fn (fidOf n) [] []]):=by cases n<;>rfl
structure Lock (A:Prop):Prop where
 out:A
def gvS (q:Qu)(p:List (List Int))(by':By)(todo:List Nd):AS:=⟨[(0,.ptr (.par 0) 0),(6,.mp (.loc 15 0)),(7,.vec (.loc 78 0) 3 0 todo.length)],(.loc 78 0,.arr 197 3 (todo.map Nd.pv))::(.loc 15 0,.map (byP by'))::laid 0 (layB q p 1)⟩
def gvI (q:Qu)(p:List (List Int))(n:Nd)(L:List Nd)(s:By×List Nd)(i:Nat):AS:=⟨[(0,.ptr (.par 0) 0),(6,.mp (.loc 15 0)),(7,.vec (.loc 78 0) 3 0 s.2.length),(8,.ptr (.loc 8 0) 0),(58,.vec (.loc 58 0) 3 0 L.length),(59,.pv (.int .i64 L.length)),(60,.pv (.int .i64 i))],
 (.loc 78 0,.arr 197 3 (s.2.map Nd.pv))::(.loc 15 0,.map (byP s.1))::(.loc 8 0,.cells [.pv (.int .i64 n.a),.pv (.int .i64 n.b),.pv (.int .i64 n.c)])::(.loc 58 0,.arr 197 3 (L.map Nd.pv))::laid 0 (layB q p 1)⟩
theorem ZnQ {F:Nat}(hF:407<F)(q:Qu)(hq:q.ok)(p:List (List Int))(hp:PW q p)(run:Nat)(hrun:run<q.rs.length):
  Zai Tryz.prog 67 [.ptr (.par 0) 0,.pv (.int .i64 run)] (laid 0 (layB q p 1)) (fun x B=>x=.pv (.bool (giveP F q p run).isSome)∧B=laid 0 (layB q ((giveP F q p run).getD p) 1)):=by
 have hqm:=hq.m;have hpl:=hp.l;obtain⟨RES,hRES⟩:∃z,z=giveP F q p run:=⟨_,rfl⟩;rw[←hRES];generalize hR:(fun(x:AV) (B:List (Site×Box))=>x=.pv (.bool RES.isSome)∧B=laid 0 (layB q (RES.getD p) 1))=R;refine cB [.par 0,.par 1] L67 ?_;simp[-getElem?_pos,L67,layB,laid];refine Zaf (fun k τ=>∃(by':By) (todo:List Nd) (f:Nat),BW q p (by',todo)∧todo.length≤by'.length∧k=406-by'.length+todo.length∧k<f∧bfs q p f by' todo=RES∧τ=gvS q p by' todo)
  ⟨406-1+1,gvS q p [(.ru run,.ru run)] [.ru run],Sub.trans' (Sub.mk ?_ ?_) (mvV 78 7 [(Nd.ru run).pv] (s:=.loc 20 0) (e:=197) rfl rfl rfl rfl),[(.ru run,.ru run)],[.ru run],F,BW.start hrun,ZxR _,rfl,by omega,hRES.symm,rfl⟩ ?_
 ·simp[AS.mvV]
 ·simp[AS.mvV,layB,laid,byP,Nd.pv,putK]
 clear hRES;intro J hJ k τ hst;refine Lock.out ?_;obtain⟨by',todo,f,hB,hTL,hk,hf,hres,rfl⟩:=hst;obtain⟨f',rfl⟩:∃f',f=f'+1:=⟨f-1,by omega⟩;cases todo with
 |nil=>
  have hno:RES=none:=by rw[←hres];rfl
  subst hno;refine⟨?_⟩;simp[-getElem?_pos,gvS,layB,laid];rw[←hR];simp[layB,laid]
 |cons n rest=>
  obtain⟨i0,b0,hi0⟩:=hB.t n (by simp);have okn:=(hB.b.ok _ (ZxQ hi0)).1;simp only at okn;have hkn:=ZnR n;have hst:=ZmD n;have hsl:n.kind<3:=by cases n<;>simp[Nd.kind]
  rw[bfs]at hres;have hlen:=hB.len hq hp;by_cases hfree:ZaS p n=true
  ·rw[if_pos hfree]at hres;subst hres;clear hJ;cases n with
   |ru r=>simp[ZaS]at hfree
   |rh r h=>simp[ZaS]at hfree
   |mh m h=>
    have hfw:who p h m = -1:=by simpa[ZaS]using hfree
    obtain⟨l,hl⟩:∃l,p[h]?=some l:=⟨p[h]'okn.2,ZxL _⟩;have h4:=hp.f l (ZxQ hl);have hmm:m<q.ms.length:=okn.1;have hh:h<p.length:=okn.2;have hm4:m<4:=by omega
    obtain⟨x,hx⟩:∃x,l[m]?=some x:=⟨l[m]'(by omega),ZxL _⟩;rw[Zkg hl hx]at hfw;subst hfw;have hg:(plP p)[h]?=some (.agg (l.map (PV.int .i64))):=by rw[plP,ZxM,hl];rfl
    have hg2:(l.map (PV.int .i64))[m]?=some (.int .i64 (-1)):=by rw[ZxM,hx];rfl
    have hch:=ZqP q hq by' p hB.b hp.f i0 (.mh m h) b0 hi0
    simp only[Nd.pv,Nd.kind]at hkn hch;refine⟨?_⟩;simp[-getElem?_pos,-List.getElem?_map,gvS,layB,laid,Nd.pv,nblt,nble];refine Zbn (k:=0) (fs:=[]) (cs:=[]) rfl rfl hkn rfl ?_;simp[-getElem?_pos,-List.getElem?_map,nblt,nble,hh,hm4,hg,hg2];refine cM [.ptr (.par 0) 0,.pv (.agg [.int .i64 (-1),.int .i64 m,.int .i64 h]),.mp (.par 2)] (laid 0 (chgB q p by')) 49 [.par 0,.par 1,.loc 15 0] (by simp[chgB,layB,laid]) hch (by simp[chgB,layB,laid]) ?_;simp[-getElem?_pos,chgB,layB,laid];rw[←hR];simp[layB,laid]
  ·have hff:ZaS p n=false:=by simpa using hfree
   rw[if_neg hfree]at hres;have hnx:=ZsY q hq p hp n okn hff;have hoks:=nx_ok hq hp okn hff;obtain⟨L,hL⟩:∃L,L=nx q p n:=⟨_,rfl⟩;rw[←hL]at hres hnx hoks;have hLl:L.length≤1000:=by
    rw[hL];cases n with
    |ru r=>have:=Zgu (p:=p) (r:=r) (k:=p.length);show(Zb4 p r p.length).length≤1000;omega
    |rh r h=>
     have:=Zfi (q:=q) (p:=p) (r:=r) (h:=h) (k:=q.ms.length)
     show(seekK q p r h q.ms.length++_).length≤1000;rw[ZxU]
     split<;>simp<;>omega
    |mh m h=>simp[nx]
   have hpush:∀i,BW q p ((L.take i).foldl (push1 n) (by',rest))∧((L.take i).foldl (push1 n) (by',rest)).2.length+by'.length=rest.length+((L.take i).foldl (push1 n) (by',rest)).1.length∧by'.length≤((L.take i).foldl (push1 n) (by',rest)).1.length:=fun i=>by
    obtain⟨h1,_,h3,h4⟩:=BW.ZwA (L.take i) hB.tail ⟨i0,b0,hi0⟩ (fun x hx=>hoks x (List.mem_of_mem_take hx));exact⟨h1,h3,h4⟩
   have hend:BW q p (L.foldl (push1 n) (by',rest))∧(L.foldl (push1 n) (by',rest)).2.length+by'.length=rest.length+(L.foldl (push1 n) (by',rest)).1.length:=by
    have:=hpush L.length
    rw[Zye]at this;exact⟨this.1,this.2.1⟩
   have hel:=hend.1.len hq hp;have hround:=hJ (406-(L.foldl (push1 n) (by',rest)).1.length+(L.foldl (push1 n) (by',rest)).2.length) _ ⟨_,_,f',hend.1,by have h1:=hend.2;rw[Zyg]at hTL;show(L.foldl (push1 n) (by',rest)).2.length≤(L.foldl (push1 n) (by',rest)).1.length;omega,rfl,by
    have h1:=hend.2;rw[Zyg]at hk
    omega,hres,rfl⟩
   have hmeas:406-(L.foldl (push1 n) (by',rest)).1.length+(L.foldl (push1 n) (by',rest)).2.length<k:=by
    have h1:=hend.2;rw[Zyg]at hk;omega
   have hbd:∀i,((L.take i).foldl (push1 n) (by',rest)).2.length≤406:=fun i=>by
    obtain⟨h1,h2,h3⟩:=hpush i
    have:=h1.len hq hp
    rw[Zyg]at hTL;omega
   rw[Nd.ZvC]at hkn hnx;obtain⟨N,hN⟩:∃N,N=n:=⟨_,rfl⟩;rw[←hN]at hround hmeas hbd;clear hend hpush hel;have hmf:∀m h,n=.mh m h→∃(l:List Int) (x:Int),natI n.c=some h∧natI n.b=some m∧h<p.length∧m<4∧(plP p)[h]?=some (.agg (l.map (PV.int .i64)))∧(l.map (PV.int .i64))[m]?=some (.int .i64 x)∧x≠-1:=fun m h e=>by
    subst e;obtain⟨l,hl⟩:∃l,p[h]?=some l:=⟨p[h]'okn.2,ZxL _⟩;have h4:=hp.f l (ZxQ hl);have hmm:m<q.ms.length:=okn.1;obtain⟨x,hx⟩:∃x,l[m]?=some x:=⟨l[m]'(by omega),ZxL _⟩;have hfw:¬who p h m = -1:=by simpa[ZaS]using hff
    rw[Zkg hl hx]at hfw;exact⟨l,x,Zhp,Zhp,okn.2,by omega,by rw[plP,ZxM,hl];rfl,by rw[ZxM,hx];rfl,hfw⟩
   clear hJ hres hoks hB okn hff hfree hL hi0;cases n
   case' mh m h=>
    obtain⟨l,x,e1,e2,e3,e4,e5,e6,e7⟩:=hmf m h rfl;simp only[Nd.a,Nd.b,Nd.c,Nd.kind]at e1 e2 hkn hnx hst hround;refine⟨?_⟩;simp[-getElem?_pos,-List.getElem?_map,gvS,layB,laid,Nd.pv,nblt,nble];refine Zbn (k:=0) (fs:=[]) (cs:=[]) rfl rfl hkn rfl ?_;simp[-getElem?_pos,-List.getElem?_map,nblt,nble,e1,e2,e3,e4,e5,e6,e7]
   case' ru r=>
    simp only[Nd.a,Nd.b,Nd.c,Nd.kind]at hkn hnx hst hround;refine⟨?_⟩;simp[-getElem?_pos,-List.getElem?_map,gvS,layB,laid,Nd.pv,nblt,nble];refine Zbn (k:=0) (fs:=[]) (cs:=[]) rfl rfl hkn rfl ?_;simp[-getElem?_pos,-List.getElem?_map,nblt,nble]
   case' rh r h=>
    simp only[Nd.a,Nd.b,Nd.c,Nd.kind]at hkn hnx hst hround;refine⟨?_⟩;simp[-getElem?_pos,-List.getElem?_map,gvS,layB,laid,Nd.pv,nblt,nble];refine Zbn (k:=0) (fs:=[]) (cs:=[]) rfl rfl hkn rfl ?_;simp[-getElem?_pos,-List.getElem?_map,nblt,nble]
   all_goals
    clear hmf;refine cQ [] [] Zsi ?_;simp[-getElem?_pos,-List.getElem?_map,frzsL];refine Zbn (k:=0) (fs:=[]) (cs:=[]) rfl rfl hkn rfl ?_;simp[-getElem?_pos,-List.getElem?_map,hst,ZmE];refine Zac (B:=laid 0 (layB q p 1)) (fs:=[]) (cs:=[]) 58 [.par 0,.par 1] ?_ rfl rfl ?_ ?_ ?_ hnx ?_
    ·rfl
    ·simp[layB,laid]
    ·rfl
    ·simp[Nd.ZvC,Nd.a,Nd.b,Nd.c]
    rintro r0 B0 ⟨rfl,rfl⟩;refine⟨rfl,by simp[nodB,layB,laid],?_⟩;simp[-getElem?_pos,-List.getElem?_map,nodB,layB,laid];refine Zaf (fun k τ=>∃i:Nat,i≤L.length∧k=L.length-i∧τ=gvI q p N L ((L.take i).foldl (push1 N) (by',rest)) i)
     ⟨L.length,gvI q p N L (by',rest) 0,Sub.trans' (Sub.mk ?_ ?_) (mvV 78 7 (rest.map Nd.pv) (s:=.loc 78 0) (e:=197) rfl rfl ?_ rfl),0,Zx0 _,rfl,rfl⟩ ?_
    ·simp[AS.mvV]
    ·simp[AS.mvV,layB,laid,hN,Nd.a,Nd.b,Nd.c]
    ·simp;omega
    clear hN hkn hnx hst;rintro J2 hJ2 k2 τ ⟨i,hi,rfl,rfl⟩;by_cases hlt:i<L.length
    ·obtain⟨x,hx⟩:∃x,L[i]?=some x:=⟨L[i],ZxL hlt⟩;have hgx:(L.map Nd.pv)[i]?=some (.agg [.int .i64 x.a,.int .i64 x.b,.int .i64 x.c]):=by rw[ZxM,hx];simp[Nd.ZvC]
     have hw:=wrapS (k:=i) (by omega);have hnx2:(L.take (i+1)).foldl (push1 N) (by',rest)=push1 N ((L.take i).foldl (push1 N) (by',rest)) x:=by rw[ZbX hx,List.foldl_append];rfl
     have hround2:=hJ2 _ _ ⟨i+1,hlt,rfl,rfl⟩;rw[hnx2]at hround2;have hbi:=hbd i;have hmeas2:L.length-(i+1)<L.length-i:=by omega
     clear hJ2 hnx2 hround hmeas hbd;generalize(L.take i).foldl (push1 N) (by',rest)=S1 at *;obtain⟨b1,t1⟩:=S1;simp only at hbi;have hfind:=ZhF x b1;have hkt:=kt_nd x;have hks:=ZnS b1;have ht6:t1.length+1≤1000000:=by omega
     cases hpx:par b1 x with
     |none=>
      have hput:=Znm (b:=N) hpx;have hpu:push1 N (b1,t1) x=(b1++[(x,N)],t1++[x]):=by unfold push1;rw[hpx];rfl
      rw[hpu]at hround2;rw[hpx]at hfind;rw[Nd.ZvC x,Nd.ZvC N]at hput;rw[Nd.ZvC x]at hfind hkt;simp only[Option.map_none]at hfind;simp[-getElem?_pos,-List.getElem?_map,-eqK,-KT.ok,gvI,layB,laid,nblt,nble,hlt,hgx,hfind,hkt,hks,hput,ht6,hw];refine⟨_,_,hmeas2,Sub.mk ?_ ?_,hround2⟩
      ·simp
      ·simp[layB,laid,Nd.ZvC]
     |some b=>
      have hpu:push1 N (b1,t1) x=(b1,t1):=by unfold push1;rw[hpx];rfl
      rw[hpu]at hround2;rw[hpx]at hfind;rw[Nd.ZvC x]at hfind hkt;simp only[Zyq,Nd.ZvC b]at hfind;simp[-getElem?_pos,-List.getElem?_map,-eqK,-KT.ok,gvI,layB,laid,nblt,nble,hlt,hgx,hfind,hkt,hks,hw];refine⟨_,_,hmeas2,Sub.mk ?_ ?_,hround2⟩
      ·simp
      ·simp[layB,laid]
    ·have he:i=L.length:=by omega
     subst he;rw[Zye];clear hJ2 hbd;generalize L.foldl (push1 N) (by',rest)=S1 at *;obtain⟨b1,t1⟩:=S1;simp[-getElem?_pos,-List.getElem?_map,gvI,layB,laid];refine⟨_,_,hmeas,Sub.mk ?_ ?_,hround⟩
     ·simp
     ·simp[layB,laid]
end
end
end Go.Proofs.YtfpmaennjlggeaaGreatDoor.Qn
namespace Go.Proofs.YtfpmaennjlggeaaGreatDoor
open Go.RowKit
section
theorem Sub.cut {σ:AS}{s:Site}{e n:Nat}{xs:List PV}(k:Nat)(hb:σ.b s=some (.arr e n xs)):Sub (σ.set s (.arr e n (xs.take k))) σ:=fun _ _ _ _ ρ m act w hS=>by
 refine⟨ρ,m,hS.Zw9 hb ?_ (fun j hj=>?_)⟩
 ·obtain⟨hn,h|⟨hr,cs,g1,g2,g3,g4,g5⟩⟩:=hS.bx s _ hb
  ·exact⟨hn,.inl ⟨h.1,by rw[h.2.1];simp,h.2.2⟩⟩
  ·refine⟨hn,.inr ⟨hr,cs,g1,g2,by rw[ZxT];omega,g4,fun i x hi=>?_⟩⟩;rw[Zx1]at hi;split at hi
   ·exact g5 i x hi
   ·cases hi
 ·obtain⟨r1,r2⟩:=Za5 rfl hj;exact .inl ⟨r1,r2⟩
theorem cutW {σ:AS}(s:Site){e n:Nat}{xs:List PV}(k:Nat)(ys:List PV)(hb:σ.b s=some (.arr e n xs))(hy:xs.take k=ys):Sub (σ.set s (.arr e n ys)) σ:=by
 subst hy;exact Sub.cut k hb
end
end Go.Proofs.YtfpmaennjlggeaaGreatDoor
namespace Go.Proofs.YtfpmaennjlggeaaGreatDoor.Qn
open Go.RowKit
section
theorem PW.set {q:Qu}{p:List (List Int)}(hp:PW q p){h m:Nat}{x:Int}(hh:h<p.length)(hx:x = -1∨(0≤x∧x<q.rs.length)):PW q (setP p h m x):=by
 refine⟨Zh3 hp.f hh,fun l hl y hy=>?_,by rw[Zb9];exact hp.l⟩;rcases List.mem_or_eq_of_mem_set hl with h1|h1
 ·exact hp.ok l h1 y hy
 ·subst h1;have e:p[h]?=some p[h]:=ZxL hh;rw[e]at hy;simp only[Zym]at hy;rcases List.mem_or_eq_of_mem_set hy with h2|h2
  ·exact hp.ok _ (Zyh hh) y h2
  ·subst h2;exact hx
theorem PW.chg1 {q:Qu}{p:List (List Int)}(hp:PW q p){n b:Nd}(hn:n.ok q p)(hb:b.ok q p):PW q (chg1 n b p):=by
 cases n with
 |ru r=>cases b<;>exact hp
 |rh r h=>
  cases b with
  |mh m h'=>exact hp.set hn.2 (.inl rfl)
  |ru r'=>exact hp
  |rh r' h'=>exact hp
 |mh m h=>
  refine hp.set hn.2 ?_;cases b with
  |ru r=>right;have:r<q.rs.length:=hb;show 0≤(r:Int)∧(r:Int)<_;omega
  |rh r h'=>right;have:r<q.rs.length:=hb.1;show 0≤(r:Int)∧(r:Int)<_;omega
  |mh m' h'=>exact .inl rfl
theorem PW.chg {q:Qu}{p0:List (List Int)}{by':By}(hb:ByOk q p0 by'):∀(f:Nat) (n:Nd) (p:List (List Int)),PW q p→p.length=p0.length→PW q (chg by' f n p)∧(Go.Proofs.YtfpmaennjlggeaaGreatDoor.Qn.chg by' f n p).length=p0.length
 |0,n,p,hp,hl=>⟨hp,hl⟩
 |f+1,n,p,hp,hl=>by
  unfold Go.Proofs.YtfpmaennjlggeaaGreatDoor.Qn.chg;cases hpn:par by' n with
  |none=>exact⟨hp,hl⟩
  |some b=>
   simp only;split
   ·exact⟨hp,hl⟩
   ·have hmem:(n,b)∈by':=by
     unfold par at hpn;obtain⟨e,he,rfl⟩:=ZxP.1 hpn;have h1:=List.find?_some he;simp only[decide_eq_true_eq]at h1;subst h1;exact List.mem_of_find?_eq_some he
    obtain⟨h1,h2⟩:=hb.ok _ hmem;exact PW.chg hb f b _ (hp.chg1 (Nd.ZwC hl h1) (Nd.ZwC hl h2)) (by rw[Zln];exact hl)
theorem ZrS {q:Qu}(hq:q.ok){p:List (List Int)}(hp:PW q p):∀(f:Nat) (by':By) (todo:List Nd),BW q p (by',todo)→∀p',bfs q p f by' todo=some p'→PW q p'∧p'.length=p.length
 |0,by',todo,_,p',h=>by cases h
 |f+1,by',[],_,p',h=>by cases h
 |f+1,by',n::rest,hB,p',h=>by
  obtain⟨i0,b0,hi0⟩:=hB.t n (by simp);have okn:=(hB.b.ok _ (ZxQ hi0)).1;rw[bfs]at h;by_cases hf:ZaS p n=true
  ·rw[if_pos hf]at h;cases h;exact PW.chg hB.b _ _ _ hp rfl
  ·rw[if_neg hf]at h;have hff:ZaS p n=false:=by simpa using hf
   exact ZrS hq hp f _ _ (BW.ZwA _ hB.tail ⟨i0,b0,hi0⟩ (nx_ok hq hp okn hff)).1 p' h
theorem ZhD {F:Nat}{q:Qu}(hq:q.ok){p:List (List Int)}(hp:PW q p){run:Nat}(hr:run<q.rs.length){p':List (List Int)}(h:giveP F q p run=some p'):PW q p'∧p'.length=p.length:=
 ZrS hq hp F _ _ (BW.start hr) p' h
def delM (F:Nat)(q:Qu):List (List Int)→List Nat→List (List Int)×List Nat
 |p,[]=>(p,[])
 |p,r::l=>match giveP F q p r with
  |some p'=>delM F q p' l
  |none=>((delM F q p l).1,r::(delM F q p l).2)
def ixM (F:Nat)(q:Qu)(p:List (List Int)):List Nat→Option (Nat×List (List Int))
 |[]=>none
 |r::l=>match giveP F q p r with
  |some p'=>some (0,p')
  |none=>(ixM F q p l).map fun s=>(s.1+1,s.2)
theorem Zoy {F:Nat}{q:Qu}{p:List (List Int)}:∀l:List Nat,delM F q p l=match ixM F q p l with
  |none=>(p,l)
  |some (i,p')=>((delM F q p' (l.drop (i+1))).1,l.take i++(delM F q p' (l.drop (i+1))).2)
 |[]=>rfl
 |r::l=>by
  have ih:=Zoy (F:=F) (q:=q) (p:=p) l;have e1:delM F q p (r::l)=match giveP F q p r with
   |some p'=>delM F q p' l
   |none=>((delM F q p l).1,r::(delM F q p l).2):=rfl
  have e2:ixM F q p (r::l)=match giveP F q p r with
   |some p'=>some (0,p')
   |none=>(ixM F q p l).map fun s=>(s.1+1,s.2):=rfl
  rw[e1,e2];cases hg:giveP F q p r with
  |some p'=>simp
  |none=>
   simp only;rw[ih];cases hx:ixM F q p l with
   |none=>rfl
   |some s=>obtain⟨i,p'⟩:=s;simp
theorem ZhI {F:Nat}{q:Qu}(hq:q.ok):∀(l:List Nat) (p:List (List Int)),PW q p→(∀r∈l,r<q.rs.length)→PW q (delM F q p l).1∧(delM F q p l).1.length=p.length∧(∀r∈(delM F q p l).2,r∈l)∧(delM F q p l).2.length≤l.length
 |[],p,hp,_=>⟨hp,rfl,fun r h=>h,ZxR _⟩
 |r::l,p,hp,hl=>by
  unfold delM;cases hg:giveP F q p r with
  |some p'=>
   obtain⟨h1,h2⟩:=ZhD hq hp (hl r (by simp)) hg;obtain⟨k1,k2,k3,k4⟩:=ZhI hq l p' h1 (fun r h=>hl r (by simp[h]));exact⟨k1,k2.trans h2,fun r h=>by simp[k3 r h],by rw[Zyg];exact Nat.le_succ_of_le k4⟩
  |none=>
   obtain⟨k1,k2,k3,k4⟩:=ZhI hq l p hp (fun r h=>hl r (by simp[h]));refine⟨k1,k2,fun r' h=>?_,by simpa using k4⟩;rcases Zx2.1 h with h|h
   ·simp[h]
   ·simp[k3 r' h]
def layM (F:Nat)(q:Qu):Nat→List (List Int)→List Nat→Option (List (List Int))
 |_,p,[]=>some p
 |0,_,_::_=>none
 |n+1,p,r::l=>if p.length=40 then none else layM F q n (delM F q (p++[idle4]) (r::l)).1 (delM F q (p++[idle4]) (r::l)).2
def Qu.Zwd (q:Qu):List Nat:=(List.range q.rs.length).flatMap fun i=>List.replicate (q.run i).hours.toNat i
def Qu.ZwE (F:Nat)(q:Qu):Option (List (List Int)):=layM F q 41 [] q.Zwd
theorem PW.more {q:Qu}{p:List (List Int)}(hp:PW q p)(hl:p.length<40):PW q (p++[idle4]):=
 ⟨fun l h=>by
  rcases Zyp.1 h with h|h
  ·exact hp.f l h
  ·simp at h;subst h;rfl,fun l h x hx=>by
  rcases Zyp.1 h with h|h
  ·exact hp.ok l h x hx
  ·simp at h;subst h;simp[idle4]at hx;exact .inl hx,by simp;omega⟩
theorem PW.nil {q:Qu}:PW q []:=⟨fun l h=>(by simp at h),fun l h=>(by simp at h),by simp⟩
theorem layM_PW {F:Nat}{q:Qu}(hq:q.ok):∀(n:Nat) (p:List (List Int)) (l:List Nat),PW q p→(∀r∈l,r<q.rs.length)→∀p',layM F q n p l=some p'→PW q p'
 |n,p,[],hp,_,p',h=>by cases n<;>(simp only[layM]at h;cases h;exact hp)
 |0,p,r::l,_,_,p',h=>by cases h
 |n+1,p,r::l,hp,hl,p',h=>by
  unfold layM at h;split at h
  ·cases h
  ·rename_i h40;have h1:=hp.l;obtain⟨k1,k2,k3,k4⟩:=ZhI (F:=F) hq (r::l) _ (hp.more (by omega)) hl;exact layM_PW hq n _ _ k1 (fun x hx=>hl x (k3 x hx)) p' h
theorem units_lt {q:Qu}:∀r∈q.Zwd,r<q.rs.length:=fun r hr=>by
 unfold Qu.Zwd at hr;obtain⟨i,hi,h⟩:=List.mem_flatMap.1 hr;rw[List.mem_replicate]at h;rw[h.2];simpa using hi
end
end Go.Proofs.YtfpmaennjlggeaaGreatDoor.Qn
namespace Go.Proofs.YtfpmaennjlggeaaGreatDoor
open Go.RowKit
section
set_option maxRecDepth 100000
noncomputable section
def L155:LFn:=⟨51,(.seq (.region [⟨(some 4),none,(.mov (.c (.int .u64 (0)))),true⟩,⟨(some 5),none,(.mov (.c (.int .u64 (0)))),true⟩]) (.seq (.region [⟨(some 14),none,(.mov (.t 0)),true⟩,⟨(some 15),none,(.bin false .and (.t 14) (.c (.int .u64 (4294967295)))),true⟩,⟨(some 6),none,(.mov (.t 15)),true⟩]) (.seq (.region [⟨(some 16),none,(.mov (.t 0)),true⟩,⟨(some 17),none,(.bin false .shr (.t 16) (.c (.int .u64 (32)))),true⟩,⟨(some 7),none,(.mov (.t 17)),true⟩]) (.seq (.region [⟨(some 18),none,(.mov (.t 1)),true⟩,⟨(some 19),none,(.bin false .and (.t 18) (.c (.int .u64 (4294967295)))),true⟩,⟨(some 8),none,(.mov (.t 19)),true⟩]) (.seq (.region [⟨(some 20),none,(.mov (.t 1)),true⟩,⟨(some 21),none,(.bin false .shr (.t 20) (.c (.int .u64 (32)))),true⟩,⟨(some 9),none,(.mov (.t 21)),true⟩]) (.seq (.region [⟨(some 22),none,(.mov (.t 6)),true⟩,⟨(some 23),none,(.mov (.t 8)),true⟩,⟨(some 24),none,(.bin false .mul (.t 22) (.t 23)),true⟩,⟨(some 10),none,(.mov (.t 24)),true⟩]) (.seq (.region [⟨(some 25),none,(.mov (.t 7)),true⟩,⟨(some 26),none,(.mov (.t 8)),true⟩,⟨(some 27),none,(.bin false .mul (.t 25) (.t 26)),true⟩,⟨(some 28),none,(.mov (.t 10)),true⟩,⟨(some 29),none,(.bin false .shr (.t 28) (.c (.int .u64 (32)))),true⟩,⟨(some 30),none,(.bin false .add (.t 27) (.t 29)),true⟩,⟨(some 11),none,(.mov (.t 30)),true⟩]) (.seq (.region [⟨(some 31),none,(.mov (.t 11)),true⟩,⟨(some 32),none,(.bin false .and (.t 31) (.c (.int .u64 (4294967295)))),true⟩,⟨(some 12),none,(.mov (.t 32)),true⟩]) (.seq (.region [⟨(some 33),none,(.mov (.t 11)),true⟩,⟨(some 34),none,(.bin false .shr (.t 33) (.c (.int .u64 (32)))),true⟩,⟨(some 13),none,(.mov (.t 34)),true⟩]) (.seq (.region [⟨(some 35),none,(.mov (.t 12)),true⟩,⟨(some 36),none,(.mov (.t 6)),true⟩,⟨(some 37),none,(.mov (.t 9)),true⟩,⟨(some 38),none,(.bin false .mul (.t 36) (.t 37)),true⟩,⟨(some 39),none,(.bin false .add (.t 35) (.t 38)),true⟩,⟨(some 12),none,(.mov (.t 39)),true⟩]) (.seq (.region [⟨(some 40),none,(.mov (.t 7)),true⟩,⟨(some 41),none,(.mov (.t 9)),true⟩,⟨(some 42),none,(.bin false .mul (.t 40) (.t 41)),true⟩,⟨(some 43),none,(.mov (.t 13)),true⟩,⟨(some 44),none,(.bin false .add (.t 42) (.t 43)),true⟩,⟨(some 45),none,(.mov (.t 12)),true⟩,⟨(some 46),none,(.bin false .shr (.t 45) (.c (.int .u64 (32)))),true⟩,⟨(some 47),none,(.bin false .add (.t 44) (.t 46)),true⟩,⟨(some 4),none,(.mov (.t 47)),true⟩]) (.seq (.region [⟨(some 48),none,(.mov (.t 0)),true⟩,⟨(some 49),none,(.mov (.t 1)),true⟩,⟨(some 50),none,(.bin false .mul (.t 48) (.t 49)),true⟩,⟨(some 5),none,(.mov (.t 50)),true⟩]) .ret)))))))))))),[(.tm 4),(.tm 5)]⟩
theorem L155_ok:litF Tryz.prog 155=some L155:=by kernel_rfl
def L113:LFn:=⟨30,(.seq (.region [⟨(some 4),none,(.mov (.c (.int .u64 (0)))),true⟩,⟨(some 5),none,(.mov (.c (.int .u64 (0)))),true⟩]) (.seq (.cond (.c (.bool false)) (.seq (.region [⟨(some 11),none,(.mov (.t 0)),true⟩,⟨(some 12),none,(.conv .u32 (.t 11)),true⟩,⟨(some 13),none,(.mov (.t 1)),true⟩,⟨(some 14),none,(.conv .u32 (.t 13)),true⟩,⟨(some 15),none,(.call (.c (.fn 154 [] [])) [(.t 12),(.t 14)]),true⟩,⟨(some 10),none,(.mov (.t 15)),true⟩,⟨(some 16),none,(.ext (.t 10) 0),true⟩,⟨(some 17),none,(.ext (.t 10) 1),true⟩,⟨(some 6),none,(.mov (.t 16)),true⟩,⟨(some 7),none,(.mov (.t 17)),true⟩]) (.seq (.region [⟨(some 18),none,(.mov (.t 6)),true⟩,⟨(some 19),none,(.conv .u64 (.t 18)),true⟩,⟨(some 20),none,(.mov (.t 7)),true⟩,⟨(some 21),none,(.conv .u64 (.t 20)),true⟩,⟨(some 4),none,(.mov (.t 19)),true⟩,⟨(some 5),none,(.mov (.t 21)),true⟩]) .ret)) .skip) (.seq (.region [⟨(some 23),none,(.mov (.t 0)),true⟩,⟨(some 24),none,(.mov (.t 1)),true⟩,⟨(some 25),none,(.call (.c (.fn 155 [] [])) [(.t 23),(.t 24)]),true⟩,⟨(some 22),none,(.mov (.t 25)),true⟩,⟨(some 26),none,(.ext (.t 22) 0),true⟩,⟨(some 27),none,(.ext (.t 22) 1),true⟩,⟨(some 8),none,(.mov (.t 26)),true⟩,⟨(some 9),none,(.mov (.t 27)),true⟩]) (.seq (.region [⟨(some 28),none,(.mov (.t 8)),true⟩,⟨(some 29),none,(.mov (.t 9)),true⟩,⟨(some 4),none,(.mov (.t 28)),true⟩,⟨(some 5),none,(.mov (.t 29)),true⟩]) .ret)))),[(.tm 4),(.tm 5)]⟩
theorem L113_ok:litF Tryz.prog 113=some L113:=by kernel_rfl
end
end
end Go.Proofs.YtfpmaennjlggeaaGreatDoor
namespace Go.Proofs.YtfpmaennjlggeaaGreatDoor.Qn
open Go.RowKit
section
attribute [local simp] Box.Zu0 Site.Zu1
attribute [local simp] retFz frzL AS.frz AV.frz AV.frzL Box.frz AS.tidy AS.ZvF
theorem and32 (c:Fin 41):(BitVec.ofNat 64 c.1&&& 4294967295#64).toNat=c.1:=by revert c;decide
theorem Zs1 (c:Nat)(hc:c≤40):Gives Tryz.prog 155 [.int .u64 1,.int .u64 c] (.tup [.int .u64 0,.int .u64 c]):=by
 have h1:=and32 ⟨c,by omega⟩;simp only at h1;have w0:IntKind.u64.wrap 0=0:=rfl;have w1:IntKind.u64.wrap 1=1:=rfl;have hw:∀n:Nat,n≤40→IntKind.u64.wrap (n:Int)=n:=fun n hn=>by rw[show IntKind.u64.wrap (n:Int)=(n:Int)%18446744073709551616 from rfl];omega
 have hd:∀n:Nat,n≤40→(n:Int).fdiv 4294967296=0:=fun n hn=>by rw[Int.fdiv_eq_ediv_of_nonneg _ (by omega)];omega
 refine cS L155 ?_;simp[-getElem?_pos,L155,IntKind.bits,h1,w0,w1,hw c hc,hd c hc];exact(by decide +kernel:∀c:Fin 41,IntKind.u64.wrap
   (IntKind.u64.wrap
     ((IntKind.u64.wrap
        ((IntKind.u64.wrap (IntKind.u64.wrap ((BitVec.ofNat 64 c.1&&& 4294967295#64).toNat:Int))).fdiv
         4294967296)).fdiv
      4294967296) +
    (IntKind.u64.wrap
       (IntKind.u64.wrap
        ((BitVec.ofInt 64
            (IntKind.u64.wrap
             ((IntKind.u64.wrap (IntKind.u64.wrap ((BitVec.ofNat 64 c.1&&& 4294967295#64).toNat:Int))).fdiv
              4294967296))&&&
           4294967295#64).toNat:Int))).fdiv
     4294967296) =
  0) ⟨c,by omega⟩
theorem mul_c (c:Nat)(hc:c≤40):Gives Tryz.prog 113 [.int .u64 1,.int .u64 c] (.tup [.int .u64 0,.int .u64 c]):=by
 refine cS L113 ?_;simp[-getElem?_pos,L113];refine Zaa (k:=0) (fs:=[]) (cs:=[]) rfl rfl (Zs1 c hc) rfl ?_;simp[-getElem?_pos]
def repV (v:Int)(c n:Nat):List PV:=List.replicate n (.int .i64 v)++List.replicate (c-n) (.int .i64 0)
theorem Zpx {v:Int}{c n:Nat}(h:n≤c):(repV v c n).length=c:=by simp[repV];omega
theorem Zh8 {v:Int}{c n:Nat}:(repV v c n).take n=List.replicate n (.int .i64 v):=by simp[repV]
theorem Zm5 {v:Int}{c n:Nat}(h:n≤c):splice (repV v c n) n ((List.replicate n (PV.int .i64 v)).take (c-n))=repV v c (n+min n (c-n)):=by
 unfold splice repV;rw[List.take_replicate,List.length_replicate,List.take_append_of_le_length (by simp),ZxW (by simp),List.drop_append,List.length_replicate,List.drop_replicate,List.drop_replicate,←List.append_assoc];rw[show n-(n+min (c-n) n)=0 by omega,List.replicate_zero,Zx9,List.replicate_append_replicate];congr 2<;>omega
theorem Zpw (v:Int)(c:Nat)(hc:c≤40):Gives Tryz.prog 64 [.lst false 1 [.int .i64 v],.int .i64 c] (.lst false 1 (List.replicate c (.int .i64 v))):=by
 have hw:∀n:Nat,n≤40→IntKind.u64.wrap (n:Int)=n:=fun n hn=>by rw[show IntKind.u64.wrap (n:Int)=(n:Int)%18446744073709551616 from rfl];omega
 have hi:∀n:Nat,n≤1000→IntKind.i64.wrap (n:Int)=n:=fun n hn=>wrap64 (by omega)
 have w1:IntKind.u64.wrap 1=1:=rfl;have hc0:¬((c:Int)<0):=by omega
 have hcb:¬((9223372036854775807:Int)<(c:Int)):=by omega
 have hc6:c≤1000000:=by omega
 refine cF [.loc 30 0] L64 ?_;simp[-getElem?_pos,L64,hw c hc,w1,hc0];refine Zaa (k:=0) (fs:=[]) (cs:=[]) rfl rfl (mul_c c hc) rfl ?_;simp[-getElem?_pos,-splice,hcb,hi c (by omega),nble,hc6];refine Zaf (fun k τ=>∃n:Nat,n≤c∧(0<n∨c=0)∧k=c-n∧τ=⟨[(7,.vec (.loc 30 0) 1 0 c),(8,.pv (.int .i64 n))],[(.loc 30 0,.arr 3 1 (repV v c n))]⟩)
  ⟨c-min c 1,⟨[(7,.vec (.loc 30 0) 1 0 c),(8,.pv (.int .i64 (min c 1:Nat)))],[(.loc 30 0,.arr 3 1 (repV v c (min c 1)))]⟩,Sub.mk ?_ ?_,min c 1,by omega,by omega,rfl,rfl⟩ ?_
 ·simp
 ·cases c with
  |zero=>simp[-splice,repV,splice]
  |succ c=>simp[-splice,repV,splice]
 rintro J hJ k τ ⟨n,hn,hn0,rfl,rfl⟩;have hln:=Zpx (v:=v) hn;by_cases hlt:n<c
 ·have hround:=hJ _ _ ⟨n+min n (c-n),by omega,by omega,rfl,rfl⟩;have htk:=Zh8 (v:=v) (c:=c) (n:=n);have hnx:=Zm5 (v:=v) hn;have hlt':(n:Int)<(c:Int):=by omega
  have hmeas:c-(n+min n (c-n))<c-n:=by omega
  have hwn:IntKind.i64.wrap ((n:Int)+(min (c-n) n:Nat))=((n+min n (c-n):Nat):Int):=by rw[wrap64 (by omega)];omega
  have hnc:n+(c-n)=c:=by omega
  clear hJ;simp[-getElem?_pos,-splice,-List.take_replicate,hlt,hlt',nble,nblt,hn,hln,htk,hnx,hnc,hwn];refine⟨_,_,hmeas,Sub.mk ?_ ?_,hround⟩
  ·simp
  ·simp
 ·have he:n=c:=by omega
  subst he;have htk:=Zh8 (v:=v) (c:=n) (n:=n);simp[-getElem?_pos,-splice,htk,hln]
end
end Go.Proofs.YtfpmaennjlggeaaGreatDoor.Qn
