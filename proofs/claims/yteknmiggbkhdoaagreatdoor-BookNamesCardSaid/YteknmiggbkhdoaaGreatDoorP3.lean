/- The registrar's book: what the statement needs, joined and shortened by program. -/
import Derived.Test.YteknmiggbkhdoaaGreatDoorP0
import Derived.Test.YteknmiggbkhdoaaGreatDoorP2
import Derived.Test.YteknmiggbkhdoaaGreatDoorP1
import Derived.Test.YteknmiggbkhdoaaGreatDoorProg
set_option linter.unusedSimpArgs false
set_option linter.unusedVariables false
namespace Go.Proofs.YteknmiggbkhdoaaGreatDoor
section
open Go.RowKit
set_option maxRecDepth 10000
attribute [local simp] Box.purge Site.isLoc
attribute [local simp] AS.exp expG Box.ren AV.map AV.mapL noRet Site.isRet Box.allS AV.allS AV.allSL
def wkC (b:Bk)(m:Site)(Z:List AV):List AV:=.pv (itsP b.items)::.pv (ctsP b.certs)::.mp m::.pv (.lst false 1 (b.nums.map intP))::Z
def bad0:List AV:=List.replicate 1000 (.pv (.bool false))
def Bk.cells (b:Bk):List AV:=[.pv (itsP b.items),.pv (ctsP b.certs)]
def rdK (b:Bk)(k:Nat):AS:=⟨[(1,.ptr (.loc 1 0) 0),(4,.ptr (.loc 38 0) 0),(40,.pv (ctsP b.certs)),(41,.pv (.int .i64 b.certs.length)),(42,.pv (.int .i64 k))],
 [(.loc 79 0,.arr 3 1 ((b.fst k).map fun c=>intP c.num)),(.loc 38 0,.cells (.pv (itsP b.items)::.pv (ctsP b.certs)::.mp (.loc 36 0)::.vec (.loc 79 0) 1 0 (b.fst k).length::bad0)),(.loc 36 0,.map (entC (b.fst k))),(.loc 1 0,.cells b.cells)]⟩
def rdR (b:Bk)(r:AV)(B:List (Site×Box)):Prop:=
 (b.fault≠0∧r=.pv (.tup [.nilp,.int .i64 b.fault])∧B=[])∨
 (b.fault=0∧∃es,CMap b es∧r=.tup [.ptr (.ret 0) 0,.pv (.int .i64 0)]∧B=[(.ret 0,.cells (wkC b (.ret 1) bad0)),(.ret 1,.map es)])
theorem Zpg {d n:Nat}{x:AV}(h:x.has d=false):AV.hasL d (List.replicate n x)=false:=by
 induction n with
 |zero=>rfl
 |succ n ih=>rw[List.replicate_succ];simp only[AV.hasL,h,ih];rfl
theorem Zn7 {q:Site→Bool}{n:Nat}{x:AV}(h:x.allS q=true):AV.allSL q (List.replicate n x)=true:=by
 induction n with
 |zero=>rfl
 |succ n ih=>rw[List.replicate_succ];simp only[AV.allSL,h,ih];rfl
theorem Zk2:List.replicate 1000 (AV.pv (.bool false))=bad0:=rfl
theorem Zd2 (d:Nat):AV.hasL d bad0=false:=Zpg rfl
theorem Zk3 (q:Site→Bool):AV.allSL q bad0=true:=Zn7 rfl
theorem ZaR (d:Nat):bad0.map (AV.purge d)=bad0:=List.map_replicate
theorem Zp1:bad0.length=1000:=List.length_replicate
theorem ZoW {g:Site→Site}{n:Nat}{x:PV}:AV.mapL g (List.replicate n (.pv x))=List.replicate n (.pv x):=by
 induction n with
 |zero=>rfl
 |succ n ih=>rw[List.replicate_succ];simp only[AV.mapL,AV.map,ih]
theorem Zk1 (g:Site→Site):AV.mapL g bad0=bad0:=ZoW
theorem wrapK {k:Nat}(h:k≤1000000):IntKind.i64.wrap ((k:Int)+1)=((k+1:Nat):Int):=by rw[wrap64 (by omega)];omega
theorem ZjL {b:Bk}:∀k,(b.fst k).length≤k
 |0=>Zue _
 |k+1=>by
  have ih:=ZjL (b:=b) k;cases hc:b.certs[k]? with
  |none=>
   rw[List.getElem?_eq_none_iff]at hc;unfold Bk.fst at ih ⊢;rw[Zub (by omega)]at ih ⊢;omega
  |some c=>
   rw[ZeK hc];unfold addC;split
   ·omega
   ·rw[Zt9];simp;omega
theorem ZjK {b:Bk}(h1:∀x∈b.certs,∀y∈b.certs,x.num=y.num→x=y){c:Ct}(hc:c∈b.certs):b.get c.num=c:=by
 unfold Bk.get;cases hf:b.certs.find? (fun x=>decide (x.num=c.num))with
 |none=>
  rw[List.find?_eq_none]at hf
  have:=hf c hc
  simp at this
 |some x=>
  have k1:=List.mem_of_find?_eq_some hf;have k2:=List.find?_some hf;simp only[decide_eq_true_eq]at k2;exact h1 x k1 c hc k2
theorem Zga {b:Bk}(h1:∀c∈b.certs,1≤c.num∧c.num≤999){x:Int}:x∈b.nums↔∃c∈b.certs,c.num=x:=by
 unfold Bk.nums;simp only[Zug,Zum,List.mem_range,Zux,decide_eq_true_eq];constructor
 ·rintro⟨n,⟨_,c,hc,e⟩,rfl⟩;exact⟨c,hc,e⟩
 ·rintro⟨c,hc,rfl⟩;have hb:=h1 c hc;exact⟨c.num.toNat,⟨by omega,c,hc,by omega⟩,by show((c.num.toNat:Nat):Int)=c.num;omega⟩
theorem Zpo {b:Bk}(h1:∀c∈b.certs,1≤c.num∧c.num≤999)(h2:∀x∈b.certs,∀y∈b.certs,x.num=y.num→x=y)(hs:b.same b.certs.length){n:Int}(hn:n∈b.nums):findV (.int .i64 n) (entC (b.fst b.certs.length))=some (b.get n).pv∧(b.get n).num=n∧b.get n∈b.certs:=by
 obtain⟨c,hc,rfl⟩:=(Zga h1).1 hn;rw[ZjK h2 hc];refine⟨?_,rfl,hc⟩;have hsub:=Zfl (b:=b) b.certs.length;unfold Bk.same at hs;rw[Zus]at hs hsub;unfold entC;rw[ZbH];cases hf:(b.fst b.certs.length).find? (fun x=>decide (x.num=c.num))with
 |none=>
  rw[List.find?_eq_none]at hf
  have:=hf c (hs c hc)
  simp at this
 |some x=>
  have k1:=hsub x (List.mem_of_find?_eq_some hf);have k2:=List.find?_some hf;simp only[decide_eq_true_eq]at k2;rw[h2 x k1 c hc k2];rfl
def rdL (b:Bk)(es:List (PV×PV))(k:Nat):AS:=⟨[(1,.ptr (.loc 1 0) 0),(4,.ptr (.loc 38 0) 0),(91,.pv (.lst false 1 (b.nums.map intP))),(92,.pv (.int .i64 b.nums.length)),(93,.pv (.int .i64 k))],
 [(.loc 38 0,.cells (wkC b (.loc 36 0) bad0)),(.loc 36 0,.map es),(.loc 1 0,.cells b.cells)]⟩
theorem Zp2 {s:Site}{n:Nat}{xs:List PV}:AV.frzL s n xs bad0=bad0:=by
 have:∀k,AV.frzL s n xs (List.replicate k (.pv (.bool false)))=List.replicate k (.pv (.bool false)):=fun k=>by
  induction k with
  |zero=>rfl
  |succ k ih=>rw[List.replicate_succ];simp only[AV.frzL,AV.frz,ih]
 exact this 1000
theorem ZiX {b:Bk}(h:b.big=true):b.fault=3:=by unfold Bk.fault;rw[if_pos h]
theorem ZiY {b:Bk}(h0:b.big=false)(h:b.bad=true):b.fault=1:=by unfold Bk.fault;rw[if_neg (by simp[h0]),if_pos h]
theorem ZiW {b:Bk}(h0:b.big=false)(h1:b.bad=false)(h:b.twice=true):b.fault=6:=by unfold Bk.fault;rw[if_neg (by simp[h0]),if_neg (by simp[h1]),if_pos h]
theorem ZfO {b:Bk}(h0:b.big=false)(h1:b.bad=false)(h:b.twice=false):b.fault=0:=by unfold Bk.fault;rw[if_neg (by simp[h0]),if_neg (by simp[h1]),if_neg (by simp[h])]
def itQ:PV→Bool
 |.agg [.int _ d,.bool t,.int _ lo,.int _ hi]=>It.okB ⟨d,t,⟨lo,hi⟩⟩
 |_=>false
def ctQ (b:Bk):PV→Bool
 |.agg [.int _ n,.int _ i,.int _ s,.int _ d,.int _ v,.int _ lo,.int _ hi]=>b.certB ⟨n,i,s,d,v,⟨lo,hi⟩⟩
 |_=>false
theorem itsA (b:Bk)(hi:b.items.length≤1000):Gives Tryz.prog 150 [itsP b.items,.fn 151 [] []] (.bool (b.items.all It.okB)):=by
 have a1:=ZsV (b.items.map It.pv) 151 [] [] itQ (fun x hx=>by
  obtain⟨y,_,rfl⟩:=Zug.1 hx;exact Zo7 y) (by rw[Zuc];omega) (fun x hx=>by
  obtain⟨y,_,rfl⟩:=Zug.1 hx;exact⟨_,_,_,_,rfl⟩)
 rw[List.all_map]at a1;exact a1
theorem ctsA (b:Bk)(hi:b.items.length≤1000)(hc:b.certs.length≤1000):Gives Tryz.prog 152 [ctsP b.certs,.fn 153 [b.pv] []] (.bool (b.certs.all b.certB)):=by
 have a1:=ZsW (b.certs.map Ct.pv) 153 [b.pv] [] (ctQ b) (fun x hx=>by
  obtain⟨y,_,rfl⟩:=Zug.1 hx;exact ZtK b y hi) (by rw[Zuc];omega) (fun x hx=>by
  obtain⟨y,_,rfl⟩:=Zug.1 hx;exact⟨_,_,_,_,_,_,_,rfl⟩)
 rw[List.all_map]at a1;exact a1
set_option maxHeartbeats 16000000 in
theorem Zit (b:Bk)(hi:b.items.length≤1000)(hc:b.certs.length≤1000):Zak Tryz.prog 111 [.pv b.pv] [] (rdR b):=by
 have a1:=itsA b hi;have a2:=ctsA b hi hc;refine cE L111 ?_;generalize hR:rdR b=R;have rerr:∀e:Int,b.fault=e→e≠0→R (.pv (.tup [.nilp,.int .i64 e])) []:=fun e h h0=>by
  rw[←hR];exact .inl ⟨by rw[h];exact h0,by rw[h],rfl⟩
 by_cases c1:8<b.items.length
 ·have d1:decide ((8:Int)<(b.items.length:Int))=true:=by simp;omega
  have:=rerr 3 (ZiX (by simp[Bk.big,c1])) (by omega)
  simp[-getElem?_pos,-List.reduceReplicate,-decide_eq_true_eq,-decide_eq_false_iff_not,L111,Bk.pv,itsP,ctsP,d1];exact⟨[],by simpa[retB,Zau]using this⟩
 have d1:decide ((8:Int)<(b.items.length:Int))=false:=by simp;omega
 by_cases c2:24<b.certs.length
 ·have d2:decide ((24:Int)<(b.certs.length:Int))=true:=by simp;omega
  have:=rerr 3 (ZiX (by simp[Bk.big,c2])) (by omega)
  simp[-getElem?_pos,-List.reduceReplicate,-decide_eq_true_eq,-decide_eq_false_iff_not,L111,Bk.pv,itsP,ctsP,d1,d2];exact⟨[],by simpa[retB,Zau]using this⟩
 have d2:decide ((24:Int)<(b.certs.length:Int))=false:=by simp;omega
 have hbig:b.big=false:=by simp[Bk.big];omega
 simp[-getElem?_pos,-List.reduceReplicate,-decide_eq_true_eq,-decide_eq_false_iff_not,L111,Bk.pv,itsP,ctsP,d1,d2];refine Zaa (k:=4) (fs:=[]) (xs:=[itsP b.items,.fn 151 [] []]) (cs:=[]) rfl rfl a1 rfl ?_;cases e1:b.items.all It.okB
 ·have:=rerr 1 (ZiY hbig (by simp only[Bk.bad,e1];rfl)) (by omega)
  simp[-getElem?_pos,-List.reduceReplicate];exact⟨[],by simpa[retB,Zau]using this⟩
 simp[-getElem?_pos,-List.reduceReplicate];refine Zaa (k:=4) (fs:=[]) (xs:=[ctsP b.certs,.fn 153 [b.pv] []]) (cs:=[]) rfl rfl a2 rfl ?_;cases e2:b.certs.all b.certB
 ·have:=rerr 1 (ZiY hbig (by simp only[Bk.bad,e1,e2];rfl)) (by omega)
  simp[-getElem?_pos,-List.reduceReplicate];exact⟨[],by simpa[retB,Zau]using this⟩
 have hbad:b.bad=false:=by simp only[Bk.bad,e1,e2];rfl
 simp[-getElem?_pos,-List.reduceReplicate,Zk2,Zk2,Zd2,ZaR,Zp1];by_cases hne:b.certs=[]
 ·have hn0:b.nums=[]:=by unfold Bk.nums;rw[hne];simp
  have htw:b.twice=false:=by unfold Bk.twice;rw[hne];rfl
  have hs:b.same b.certs.length:=by intro c hc';rw[hne]at hc';simp at hc'
  have hcm:=ZnH (Bk.ok_iff.1 (ZfO hbig hbad htw)) hs;have hes:entC (b.fst b.certs.length)=[]:=by unfold Bk.fst;rw[hne];rfl
  rw[hes]at hcm;have hl0:b.certs.length=0:=by rw[hne];rfl
  have rok:R (.tup [.ptr (.ret 0) 0,.pv (.int .i64 0)]) [(.ret 0,.cells (wkC b (.ret 1) bad0)),(.ret 1,.map [])]:=by
   rw[←hR];exact .inr ⟨ZfO hbig hbad htw,_,hcm,rfl,rfl⟩
  refine Zae (fun n τ=>n=0∧τ=⟨[(1,.ptr (.loc 1 0) 0),(4,.ptr (.loc 38 0) 0),(41,.pv (.int .i64 0)),(42,.pv (.int .i64 0))],
   [(.loc 38 0,.cells (.pv (itsP b.items)::.pv (ctsP b.certs)::.mp (.loc 36 0)::.pv (.emp (some true))::bad0)),(.loc 36 0,.map []),(.loc 1 0,.cells b.cells)]⟩) ⟨0,_,Sub.mk (by simp[hl0]) (by simp[Bk.cells,itsP,ctsP,ZaR,Zd2]),rfl,rfl⟩ ?_
  rintro J hJ n τ ⟨rfl,rfl⟩;clear hJ;simp[-getElem?_pos];refine cG [.emp (some true)] Zrc ?_;simp[-getElem?_pos];refine Zae (fun n τ=>n=0∧τ=⟨[(1,.ptr (.loc 1 0) 0),(4,.ptr (.loc 38 0) 0),(92,.pv (.int .i64 0)),(93,.pv (.int .i64 0))],[(.loc 38 0,.cells (wkC b (.loc 36 0) bad0)),(.loc 36 0,.map []),(.loc 1 0,.cells b.cells)]⟩) ⟨0,_,Sub.trans' (Sub.mk (by simp) (by simp[wkC,ZaR,Bk.cells,hn0])) (Sub.wkC (s:=.loc 38 0) (i:=3) (azz:=.pv (itsP b.items)::.pv (ctsP b.certs)::.mp (.loc 36 0)::.pv (.emp (some true))::bad0) (a:=.pv (.emp (some true))) (.pv (.lst false 1 [])) (by simp[ZaR]) rfl (wk_pv fun m v h=>Zbz h)),rfl,rfl⟩ ?_;rintro J hJ n τ ⟨rfl,rfl⟩;simp[-getElem?_pos,wkC,hn0];refine⟨[.loc 38 0,.loc 36 0],?_⟩;simp[retB,Zau,Zk3,Zk1];unfold wkC at rok;rw[hn0]at rok;exact rok
 refine Zae (fun n τ=>∃k:Nat,k≤b.certs.length∧n=b.certs.length-k∧b.same k∧τ=rdK b k) ⟨b.certs.length,rdK b 0,Sub.trans' (Sub.mk (by simp[rdK,AS.vecC,ctsP]) (by simp[rdK,AS.vecC,Bk.cells,itsP,ctsP,Bk.fst,entC,mapI,ZaR,Zd2]))
  (vecC 79 3 1 (s:=.loc 38 0) (cs:=.pv (.lst false 4 (b.items.map It.pv))::.pv (.lst false 7 (b.certs.map Ct.pv))::.mp (.loc 36 0)::.pv (.emp (some true))::bad0) 3 (by simp[ZaR]) rfl (by decide)),0,Zud _,rfl,(fun c hc=>by cases hc),rfl⟩ ?_
 rintro J hJ n τ ⟨k,hk,rfl,hs,rfl⟩;by_cases hlt:k<b.certs.length
 ·obtain⟨c,hck⟩:∃c,b.certs[k]?=some c:=⟨b.certs[k],Zt3 hlt⟩;have hg:(b.certs.map Ct.pv)[k]?=some (.agg [.int .i64 c.num,.int .i64 c.it,.int .i64 c.src,.int .i64 c.day,.int .i64 c.valid,.int .i64 c.diff.lo,.int .i64 c.diff.hi]):=by rw[Zt4,hck];rfl
  have hw:=wrapK (k:=k) (by omega);have hfv:=ZbH (f:=Ct.num) (g:=Ct.pv) (n:=c.num) (l:=b.fst k);have hko:ZbC kI (entC (b.fst k))=true:=Zb5;have hfl:=ZjL (b:=b) k;have hmeas:b.certs.length-(k+1)<b.certs.length-k:=by omega
  have hfs:=ZeK hck;cases ho:(b.fst k).find? (fun o=>decide (o.num=c.num))with
  |some o=>
   rw[ho]at hfv;have hfv':findV (.int .i64 c.num) (entC (b.fst k))=some (.agg [.int .i64 o.num,.int .i64 o.it,.int .i64 o.src,.int .i64 o.day,.int .i64 o.valid,.int .i64 o.diff.lo,.int .i64 o.diff.hi]):=hfv;have heq:eqK (.agg [.int .i64 o.num,.int .i64 o.it,.int .i64 o.src,.int .i64 o.day,.int .i64 o.valid,.int .i64 o.diff.lo,.int .i64 o.diff.hi]) (.agg [.int .i64 c.num,.int .i64 c.it,.int .i64 c.src,.int .i64 c.day,.int .i64 c.valid,.int .i64 c.diff.lo,.int .i64 c.diff.hi])=decide (o=c):=ZtC;cases e:decide (o=c)
   ·rw[e]at heq;have h6:=rerr 6 (ZiW hbig hbad (ZlW (ZuQ (Zfl k o (List.mem_of_find?_eq_some ho))) (Zua hck) (by simpa using List.find?_some ho) (by simpa using e))) (by omega);simp[-getElem?_pos,-List.getElem?_map,rdK,ctsP,hlt,hg,hko,hfv',heq,-eqK,ZaR,Zd2,lookA];exact⟨[],by simpa[retB,Zau]using h6⟩
   ·rw[e]at heq;have hoc:o=c:=by simpa using e
    have hround:=hJ _ _ ⟨k+1,hlt,rfl,Zin hck hs (fun o' h'=>by rw[ho]at h';cases h';exact hoc),rfl⟩;unfold rdK at hround;rw[hfs]at hround;have hadd:addC (b.fst k) c=b.fst k:=by unfold addC;rw[ho]
    rw[hadd]at hround;simp[-getElem?_pos,-List.getElem?_map,rdK,ctsP,hlt,hg,hko,hfv',heq,-eqK,ZaR,Zd2,lookA,hw];exact⟨_,_,hmeas,Sub.mk (by simp[ctsP]) (by simp[ctsP,ZaR,Bk.cells]),hround⟩
  |none=>
   rw[ho]at hfv;have hfv':findV (.int .i64 c.num) (entC (b.fst k))=none:=hfv;have hround:=hJ _ _ ⟨k+1,hlt,rfl,Zin hck hs (fun o' h'=>by rw[ho]at h';cases h'),rfl⟩;have hadd:addC (b.fst k) c=b.fst k++[c]:=by unfold addC;rw[ho]
   have hput:putK (.int .i64 c.num) (.agg [.int .i64 c.num,.int .i64 c.it,.int .i64 c.src,.int .i64 c.day,.int .i64 c.valid,.int .i64 c.diff.lo,.int .i64 c.diff.hi]) (entC (b.fst k))=entC (b.fst k++[c]):=by
    unfold entC;rw[Zew (fun x hx=>by rw[List.find?_eq_none]at ho;simpa using ho x hx)];unfold mapI;rw[Zuw];rfl
   have hnl:(((b.fst k).map fun c=>intP c.num)).length≤1000:=by rw[Zuc];omega
   have hk6:(b.fst k).length+1≤1000000:=by omega
   unfold rdK at hround;rw[hfs,hadd]at hround;simp[-getElem?_pos,-List.getElem?_map,rdK,ctsP,hlt,hg,hko,hfv',hput,ZaR,Zd2,lookA,hw,nble,nblt,hk6];exact⟨_,_,hmeas,Sub.mk (by simp[ctsP]) (by simp[ctsP,ZaR,intP,Bk.cells]),hround⟩
 ·have he:k=b.certs.length:=by omega
  subst he;clear hJ;have hbn:∀c∈b.certs,1≤c.num∧c.num≤999:=fun c hc'=>by
   have:=Zuo.1 e2 c hc'
   unfold Bk.certB inB at this;simp only[Zt7,decide_eq_true_eq]at this;omega
  obtain⟨hnums,hone⟩:=Zml hbn hs;have hlenN:b.nums.length=(b.fst b.certs.length).length:=by rw[←hnums,Zds,Zuc]
  have hle:=ZjL (b:=b) b.certs.length;have hk0:ZbC kI (entC (b.fst b.certs.length))=true:=Zb5;have hget:=fun n=>Zpo hbn hone hs (n:=n)
  have hokc:b.twice=false→CMap b (entC (b.fst b.certs.length)):=fun h=>ZnH (Bk.ok_iff.1 (ZfO hbig hbad h)) hs
  have rok:b.twice=false→R (.tup [.ptr (.ret 0) 0,.pv (.int .i64 0)]) [(.ret 0,.cells (wkC b (.ret 1) bad0)),(.ret 1,.map (entC (b.fst b.certs.length)))]:=fun h=>by
   rw[←hR];exact .inr ⟨ZfO hbig hbad h,_,hokc h,rfl,rfl⟩
  have hne':(b.fst b.certs.length).map Ct.num≠[]:=by
   intro e;rw[List.map_eq_nil_iff]at e;unfold Bk.same at hs;rw[Zus,e]at hs;cases hcs:b.certs with
   |nil=>exact hne hcs
   |cons x r=>have:=hs x (by rw[hcs];simp);cases this
  have hsort:=Zs3 3 ((b.fst b.certs.length).map Ct.num) hne' (by rw[Zuc];omega);rw[hnums,Zuc,List.map_map,←hlenN]at hsort;have hlen1:b.nums.length≤1000:=by omega
  have hsame:((b.fst b.certs.length).map fun c=>intP c.num)=(b.fst b.certs.length).map (intP∘Ct.num):=rfl;generalize hES:entC (b.fst b.certs.length)=es at *;have hlenF:(b.fst b.certs.length).length=b.nums.length:=hlenN.symm;simp[-getElem?_pos,-List.getElem?_map,rdK,ctsP,hES,hsame,hlenF];refine cM [.vec (.par 0) 1 0 b.nums.length] [(.par 0,.arr 3 1 ((b.fst b.certs.length).map (intP∘Ct.num)))] 87 [.loc 79 0] rfl hsort (by simp[outOk]) ?_;simp[-getElem?_pos,-List.getElem?_map,dropL,AS.adds,renL,outG,ZaR,Bk.cells];have htk:(b.nums.map intP).take b.nums.length=b.nums.map intP:=Zub (by rw[Zuc];exact Zue _);refine Zae (fun n τ=>∃k:Nat,k≤b.nums.length∧n=b.nums.length-k∧(∀(i:Nat) (x y:Int),i+1<k→b.nums[i]?=some x→b.nums[i+1]?=some y→(b.get x).day≤(b.get y).day)∧τ=rdL b es k) ⟨b.nums.length,rdL b es 0,Sub.trans' (Sub.mk (by simp[rdL,frzsL,AS.frz,AV.frz,htk]) (by simp[rdL,frzsL,AS.frz,Box.frz,AV.frz,AV.frzL,Zp2,wkC,Bk.cells,ctsP,htk])) (Sub.frz [.loc 79 0]),0,Zud _,rfl,(fun i x y h=>by omega),rfl⟩ ?_;rintro J hJ n τ ⟨k,hk,rfl,hinv,rfl⟩;by_cases hlt:k<b.nums.length
  ·obtain⟨x,hx⟩:∃x,b.nums[k]?=some x:=⟨b.nums[k],Zt3 hlt⟩;have hgx:(b.nums.map intP)[k]?=some (.int .i64 x):=by rw[Zt4,hx];rfl
   have hw:=wrapK (k:=k) (by omega);have hmeas:b.nums.length-(k+1)<b.nums.length-k:=by omega
   obtain⟨hfx,hxn,hxc⟩:=hget x (Zua hx);by_cases hz:k=0
   ·subst hz;have hround:=hJ _ _ ⟨1,hlt,rfl,(fun i x y h=>by omega),rfl⟩;have hw0:IntKind.i64.wrap 1=1:=rfl;simp[-getElem?_pos,-List.getElem?_map,rdL,wkC,hlt,hgx,hw0];exact⟨_,_,hmeas,Sub.mk (by simp[rdL]) (by simp[rdL,wkC,ZaR,Bk.cells]),hround⟩
   ·obtain⟨j,hj1⟩:∃j,j+1=k:=⟨k-1,by omega⟩;have hj:j<b.nums.length:=by omega
    obtain⟨y,hy⟩:∃y,b.nums[j]?=some y:=⟨b.nums[j],Zt3 _⟩;have hgy:(b.nums.map intP)[j]?=some (.int .i64 y):=by rw[Zt4,hy];rfl
    obtain⟨hfy,hyn,hyc⟩:=hget y (Zua hy);have hw1:IntKind.i64.wrap ((k:Int)-1)=(j:Int):=by rw[wrap64 (by omega)];omega
    have hyx:y<x:=by
     have:=List.pairwise_iff_getElem.1 (Zbw (b:=b)) j k hj hlt (by omega)
     rw[Zt3 hj]at hy;rw[Zt3 hlt]at hx;cases hy;cases hx;exact this
    have hpos:decide ((0:Int)<(k:Int))=true:=by simp;omega
    have hpos2:0<k:=by omega
    have hlt':decide ((k:Int)<(b.nums.length:Int))=true:=by simp;omega
    unfold Ct.pv at hfx hfy;cases hd:decide ((b.get x).day<(b.get y).day)
    ·have hround:=hJ _ _ ⟨k+1,hlt,rfl,(fun i x' y' h e1 e2=>by
      rcases ZuW.1 h with h|h
      ·exact hinv i x' y' h e1 e2
      ·have:i=j:=by omega
       subst this;rw[hj1]at e2;rw[hy]at e1;rw[hx]at e2;cases e1;cases e2;simp at hd;omega),rfl⟩
     simp[-getElem?_pos,-List.getElem?_map,-decide_eq_true_eq,-decide_eq_false_iff_not,rdL,wkC,hlt,hlt',hj,hgx,hgy,hw1,hpos,hpos2,hk0,hfx,hfy,lookA,hd,hw];exact⟨_,_,hmeas,Sub.mk (by simp[rdL]) (by simp[rdL,wkC,ZaR,Bk.cells]),hround⟩
    ·have h6:=rerr 6 (ZiW hbig hbad (ZlX hxc hyc (by rw[hxn,hyn];exact hyx) (by simpa using hd))) (by omega);simp[-getElem?_pos,-List.getElem?_map,-decide_eq_true_eq,-decide_eq_false_iff_not,rdL,wkC,hlt,hlt',hj,hgx,hgy,hw1,hpos,hpos2,hk0,hfx,hfy,lookA,hd,hw];exact⟨[],by simpa[retB,Zau]using h6⟩
  ·have he:k=b.nums.length:=by omega
   subst he;clear hJ;have htw:b.twice=false:=ZrK hone (fun x hx y hy e=>by
    have:=Zsk (fun n=>(b.get n).day) Zbw (fun i x y e1 e2=>hinv i x y (Zt5.1 e2).1 e1 e2) x.num ((Zga hbn).2 ⟨x,hx,rfl⟩) y.num ((Zga hbn).2 ⟨y,hy,rfl⟩) e
    rw[ZjK hone hx,ZjK hone hy]at this;exact this)
   have:=rok htw
   simp[-getElem?_pos,-List.getElem?_map,rdL,wkC];refine⟨[.loc 38 0,.loc 36 0],?_⟩;simp[retB,Zau,Zk3,Zk1];exact this
end
section
open Go.RowKit
theorem ZiC {b:Bk}(hb:b.ok){c:Ct}(hc:c∈b.certs):∃n:Nat,c.num=n∧1≤n∧n<1000:=by
 have:=hb.ct c hc
 unfold Bk.certB inB at this;simp only[Zt7,decide_eq_true_eq]at this;exact⟨c.num.toNat,by omega,by omega,by omega⟩
theorem ZeG {b:Bk}{held:List Int}{S:Int→Cr}{item day below:Int}(h:(b.item item).std=false):b.itemSpan held S item day below=(b.certs.filter fun c=>Bk.ofB item day below c&&held.contains c.num).foldl (fun r c=>r.cut ((S c.num).wider ((b.item item).drift*(day-c.day)))) Zdg:=by
 unfold Bk.itemSpan;rw[if_neg (by rw[h];simp)]
def Cr.bdd (r:Cr)(B:Int):Prop:=-B≤r.lo∧r.lo≤B∧-B≤r.hi∧r.hi≤B
theorem Zpk {α:Type}{f:α→Cr}{l:List α}{B:Int}(hB:B<1099511627776)(hne:l≠[])(h:∀x∈l,(f x).bdd B):(l.foldl (fun r c=>r.cut (f c)) Zdg).bdd B:=by
 obtain⟨x0,hx0⟩:=List.exists_mem_of_ne_nil l hne;obtain⟨_,a2,a3⟩:=ZkU f l Zdg;obtain⟨_,c2,c3⟩:=ZkV f l Zdg;have h0:=h x0 hx0;have h1:=a2 x0 hx0;have h2:=c2 x0 hx0;have e1:Zdg.lo = -1099511627776:=rfl;have e2:Zdg.hi=1099511627776:=rfl;unfold Cr.bdd at h0 ⊢;refine⟨by omega,?_,?_,by omega⟩
 ·rcases a3 with a3|⟨y,hy,a3⟩
  ·omega
  ·have:=h y hy;unfold Cr.bdd at this;omega
 ·rcases c3 with c3|⟨y,hy,c3⟩
  ·omega
  ·have:=h y hy;unfold Cr.bdd at this;omega
theorem Zbi {b:Bk}(hb:b.ok){c:Ct}(hc:c∈b.certs):1≤c.num∧c.num≤999∧0≤c.it∧c.it<b.items.length∧(b.item c.it).std=false∧0≤c.src∧c.src<b.items.length∧c.src≠c.it∧0≤c.day∧c.day≤1000∧0≤c.valid∧c.valid≤1000∧c.diff.bdd 100000∧c.diff.lo≤c.diff.hi:=by
 have:=hb.ct c hc
 unfold Bk.certB inB Bk.hasItem inB Cr.okB valB inB at this;simp only[Zt7,decide_eq_true_eq,Bool.not_eq_true']at this;unfold Cr.bdd;obtain⟨⟨⟨⟨⟨⟨⟨a1,a2⟩,a3⟩,a4⟩,a5⟩,a6⟩,a7⟩,a8⟩:=this;refine⟨a1.1,a1.2,a2.1,by omega,a3,a4.1,by omega,a5,a6.1,a6.2,a7.1,a7.2,?_,a8.2⟩;omega
theorem ZkH {b:Bk}(hb:b.ok){i:Int}(h0:0≤i)(h1:i<b.items.length):0≤(b.item i).drift∧(b.item i).drift≤100∧(b.item i).val.bdd 100000∧(b.item i).val.lo≤(b.item i).val.hi:=by
 have hm:b.item i∈b.items:=by
  unfold Bk.item;rw[Zt3 (by omega)];exact ZuJ _
 have:=hb.it _ hm
 unfold It.okB inB Cr.okB valB inB at this;simp only[Zt7,decide_eq_true_eq]at this;unfold Cr.bdd;omega
theorem ZkL {b:Bk}(hb:b.ok){c:Ct}(hc:c∈b.certs){bad:List Int}(h:c.num∈b.held bad):(b.item c.src).std=true∨∃o∈b.certs,Bk.ofB c.src c.day c.num o=true∧o.num∈b.held bad:=by
 obtain⟨c',hc',e,h1⟩:=(ZeD hb).1 h
 have:c'=c:=hb.one c' hc' c hc e
 subst this;unfold Bk.holdB at h1;rw[Zt7,ZuK]at h1;rcases h1.1 with h2|h2
 ·exact .inl h2
 ·rw[Zux]at h2;obtain⟨o,ho,h3⟩:=h2;rw[Zt7,ZuC,ZfG]at h3;exact .inr ⟨o,ho,h3.1,h3.2⟩
theorem ZlQ {r:Cr}{A B d:Int}(h:r.bdd A)(h0:0≤d)(h1:A+d≤B):(r.wider d).bdd B:=by
 unfold Cr.bdd at h ⊢;unfold Cr.wider Cr.plus;simp only;omega
theorem ZqM {b:Bk}(hb:b.ok){o:Ct}(ho:o∈b.certs){day:Int}(hon:o.on day=true):0≤(b.item o.it).drift*(day-o.day)∧(b.item o.it).drift*(day-o.day)≤100000:=by
 have h1:=Zbi hb ho;have h2:=ZkH hb h1.2.2.1 h1.2.2.2.1;unfold Ct.on inB at hon;simp only[Zt7,decide_eq_true_eq]at hon;have h3:0≤day-o.day:=by omega
 have h4:day-o.day≤1000:=by omega
 exact⟨Int.mul_nonneg h2.1 h3,Int.le_trans (Int.mul_le_mul h2.2.1 h4 h3 (by omega)) (by omega)⟩
theorem ZhY {b:Bk}(hb:b.ok){held:List Int}{S:Int→Cr}{item day below:Int}{A:Int}(h0:0≤item)(h1:item<b.items.length)(hA:100000≤A)(hA2:A+100000<1099511627776)(hex:(b.item item).std=true∨∃o∈b.certs,Bk.ofB item day below o=true∧o.num∈held)(hS:∀c∈b.certs,c.num<below→c.num∈held→(S c.num).bdd A):(b.itemSpan held S item day below).bdd (A+100000):=by
 cases hs:(b.item item).std with
 |true=>
  unfold Bk.itemSpan;rw[if_pos hs]
  have:=(ZkH hb h0 h1).2.2.1
  unfold Cr.bdd at this ⊢;omega
 |false=>
  rw[ZeG hs];obtain⟨o,ho,h2,h3⟩:∃o∈b.certs,Bk.ofB item day below o=true∧o.num∈held:=by
   rcases hex with h|h
   ·rw[hs]at h;cases h
   ·exact h
  refine Zpk (by omega) (fun e=>?_) fun c hc=>?_
  ·have:o∈(b.certs.filter fun c=>Bk.ofB item day below c&&held.contains c.num):=by
    rw[Zum,Zt7,ZuC];exact⟨ho,h2,h3⟩
   rw[e]at this;cases this
  ·rw[Zum,Zt7,ZuC]at hc;obtain⟨k1,k2,k3⟩:=hc;unfold Bk.ofB at k2;simp only[Zt7,decide_eq_true_eq]at k2;have hf:=ZqM hb k1 k2.2.2;rw[k2.2.1]at hf;exact ZlQ (hS c k1 k2.1 k3) hf.1 (by omega)
theorem ZfE {b:Bk}(hb:b.ok):∀c∈b.certs,c.num∈b.held []→(b.span (b.held []) c.num).bdd (300000*(c.num+1)):=by
 have key:∀n:Nat,∀c∈b.certs,c.num=n→c.num∈b.held []→(b.span (b.held []) c.num).bdd (300000*(c.num+1)):=by
  intro n;induction n using Nat.strongRecOn with
  |_ n ih=>
  intro c hcc hn hx;obtain⟨n',hn',h1,h2⟩:=ZiC hb hcc
  have:n'=n:=by omega
  subst this;have g1:b.get (n':Int)=c:=by rw[←hn];exact Zd7 hb hcc
  have hcb:=Zbi hb hcc;have hsr:=ZkL hb hcc hx;rw[hn]at hx hsr ⊢;rw[Zl4 h2,if_pos (ZuC.2 hx),g1];have hi:=ZhY hb (S:=b.span (b.held [])) (day:=c.day) (below:=(n':Int)) (A:=300000*(n':Int)) hcb.2.2.2.2.2.1 hcb.2.2.2.2.2.2.1 (by omega) (by omega) hsr fun o ho hlt hox=>by
   obtain⟨m,hm,_,_⟩:=ZiC hb ho
   have:=ih m (by omega) o ho hm hox
   unfold Cr.bdd at this ⊢;omega
  have hd:=hcb.2.2.2.2.2.2.2.2.2.2.2.2.1;unfold Cr.bdd at hi hd ⊢;unfold Cr.plus;simp only;omega
 intro c hcc;obtain⟨n,hn,_,_⟩:=ZiC hb hcc;exact key n c hcc hn
end
section
open Go.RowKit
set_option maxRecDepth 10000
structure Cons (P:Program) where
 m:Nat
 S:Type
 X:S→List Box
 step:S→PV→S×Bool
 good:PV→Prop
 live:S→Prop
 m0:0<m
 len:∀s,(X s).length=m
 cl:∀s,ZcH m (X s)
 yields:∀s x,live s→good x→ZbM P 0 [.pv x] (laid 0 (X s)) (fun r B=>r=.pv (.bool (step s x).2)∧B=laid 0 (X (step s x).1))
 goes:∀s x,live s→good x→(step s x).2=true→live (step s x).1
def Cons.run {P:Program}(C:Cons P):C.S→List PV→C.S×Bool
 |s,[]=>(s,true)
 |s,x::r=>match(C.step s x).2 with
  |true=>C.run (C.step s x).1 r
  |false=>((C.step s x).1,false)
theorem Cons.run_app {P:Program}{C:Cons P}:∀(a b:List PV) (s:C.S),C.run s (a++b)=match(C.run s a).2 with
  |true=>C.run (C.run s a).1 b
  |false=>C.run s a
 |[],b,s=>rfl
 |x::a,b,s=>by
  rw[ZuR,Cons.run,Cons.run];split
  ·exact Cons.run_app a b _
  ·rfl
theorem Cons.run_one {P:Program}{C:Cons P}(s:C.S)(x:PV):C.run s [x]=C.step s x:=by
 rw[Cons.run];split
 ·rename_i h;rw[Cons.run];exact Prod.ext rfl h.symm
 ·rename_i h;exact Prod.ext rfl h.symm
theorem Zef {P:Program}{C:Cons P}{c:C.S}{k:Nat}:((laid 0 (C.X c)).filter fun p=>!p.1.isLoc k).map (fun p=>(p.1,p.2.purge k))=laid 0 (C.X c):=Zfh (C.cl c)
theorem Zgp {P:Program}{C:Cons P}{c:C.S}:(laid 0 (C.X c)).filter (fun p=>!p.1.lt C.m)=[]:=ZhW (by rw[C.len];omega)
theorem ZbA {tm:List (Nat×AV)}{X:List Box}:sees ⟨tm,laid 0 X⟩ X:=by
 have:=Zcu (tm:=tm) (X:=X) (r:=[])
 rwa [Zut]at this
def badZ (l:List Int):List AV:=(List.range 1000).map fun i:Nat=>.pv (.bool (l.contains (i:Int)))
theorem Zic {l:List Int}{n:Nat}(h:n<1000):(badZ l)[n]?=some (.pv (.bool (l.contains (n:Int)))):=by
 unfold badZ;rw[Zt4,List.getElem?_range h];rfl
theorem ZbY:bad0=badZ []:=by
 refine List.ext_getElem? (fun n=>?_);unfold bad0 badZ;rw[Zt4];by_cases h:n<1000
 ·rw[List.getElem?_range h,List.getElem?_replicate,if_pos h];rfl
 ·rw[List.getElem?_replicate,if_neg h,List.getElem?_eq_none (by rw[List.length_range];omega)];rfl
theorem Zp0 {l:List Int}{n:Nat}(h:n<1000):(badZ l).set n (.pv (.bool true))=badZ (l++[(n:Int)]):=by
 refine List.ext_getElem? (fun k=>?_);by_cases hk:k<1000
 ·rw[List.getElem?_set,Zic hk,Zic hk];by_cases e:n=k
  ·subst e;rw[if_pos rfl,if_pos (by unfold badZ;rw[Zuc,List.length_range];exact h)];simp
  ·rw[if_neg e];congr 3;rw[Zuz,ZuC,ZuC,ZuL];constructor
   ·exact .inl
   ·rintro(h|h)
    ·exact h
    ·simp at h;omega
 ·rw[List.getElem?_eq_none (by unfold badZ;simp;omega),List.getElem?_eq_none (by unfold badZ;simp;omega)]
theorem Zib {l:List Int}:(badZ l).length=1000:=by unfold badZ;simp
theorem Zge {α:Type}{f:α→PV}{d:Nat}:∀l:List α,AV.hasL d (l.map fun x=>.pv (f x))=false
 |[]=>rfl
 |x::l=>by rw[Zun];simp only[AV.hasL,AV.has,Zge l];rfl
theorem Zgf {α:Type}{f:α→PV}{q:Site→Bool}:∀l:List α,AV.allSL q (l.map fun x=>.pv (f x))=true
 |[]=>rfl
 |x::l=>by rw[Zun];simp only[AV.allSL,AV.allS,Zgf l];rfl
theorem Zgc {α:Type}{f:α→PV}{d:Nat}(l:List α):(l.map fun x=>AV.pv (f x)).map (AV.purge d)=l.map fun x=>.pv (f x):=by
 rw[List.map_map];rfl
theorem Zgd {α:Type}{f:α→PV}{g:Site→Site}:∀l:List α,AV.mapL g (l.map fun x=>.pv (f x))=l.map fun x=>.pv (f x)
 |[]=>rfl
 |x::l=>by rw[Zun];simp only[AV.mapL,AV.map,Zgd l]
theorem ZaD {l:List Int}(d:Nat):AV.hasL d (badZ l)=false:=Zge _
theorem Zay {l:List Int}(q:Site→Bool):AV.allSL q (badZ l)=true:=Zgf _
theorem Zam {l:List Int}(d:Nat):(badZ l).map (AV.purge d)=badZ l:=Zgc _
theorem ZaB {l:List Int}(g:Site→Site):AV.mapL g (badZ l)=badZ l:=Zgd _
theorem Zry {fz outs:List Site}{rs:List LRes}{R:AV→List (Site×Box)→Prop}{σ:AS}(h:retB outs rs R (frzL fz σ)):retWp rs R σ:=by
 obtain⟨l,h1,h2,h3,h4,h5⟩:=h;exact⟨fz,outs,l,h1,h2,h3,fun s hs b hb=>Ze7 h4 s hs b hb,h5⟩
theorem Zia {P:Program}(fz outs:List Site){f:FuncId}{F:LFn}{args:List AV}{B:List (Site×Box)}{R:AV→List (Site×Box)→Prop}(hm:P.follows .mixedOrders=true)(hf:litF P f=some F)(hn:args.length≤F.nt)
  (h:awpS P F.code (finQ (fun σ=>retB outs F.res R (frzL fz σ))) ⟨initT 0 args,B⟩):Zak P f args B R:=Zbd hm hf hn (fun _ h=>Zry h) (Zbh h)
section
attribute [local simp] Box.purge Site.isLoc
attribute [local simp] retFz frzL AS.frz AV.frz AV.frzL Box.frz AS.tidy AS.frzC
theorem ZjV (b:Bk)(hi:b.items.length≤1000)(hc:b.certs.length≤1000):Gives Tryz.prog 175 [b.pv] (.int .i64 b.fault):=by
 have hr:=Zit b hi hc;refine cS L175 ?_;simp[-getElem?_pos,L175,Bk.pv];refine cL [.pv b.pv] [] 7 [] rfl hr ?_
 rintro r0 B0 (⟨h0,rfl,rfl⟩|⟨h0,es,hes,rfl,rfl⟩)
 ·refine⟨rfl,by simp,?_⟩;simp[-getElem?_pos,AV.map,AV.mapL,outG,AS.adds,renL,dropL]
 ·refine⟨rfl,by simp[outOk,wkC,Box.allS,AV.allS,AV.allSL,ZbY,Zay],?_⟩;simp[-getElem?_pos,AV.map,AV.mapL,outG,AS.adds,renL,dropL,Box.ren,wkC,ZbY,ZaB,h0]
structure WAt (b:Bk)(bad:List Int)(es:List (PV×PV))(X:List Box)(jw jm:Nat):Prop where
 w:X[jw]?=some (.cells (wkC b (.par jm) (badZ bad)))
 m:X[jm]?=some (.map es)
def ofF (s:Site)(item day below:Int):AV:=.fn 143 [] [.ptr s 0,.pv (.ref [.int .i64 below]),.pv (.ref [.int .i64 item]),.pv (.ref [.int .i64 day])]
attribute [local simp] AS.exp expG Box.ren AV.map AV.mapL noRet Site.isRet Box.allS AV.allS AV.allSL
theorem Za4 {l:List Int}{s:Site}{n:Nat}{xs:List PV}:AV.frzL s n xs (badZ l)=badZ l:=by
 have:∀k:List Nat,AV.frzL s n xs (k.map fun i:Nat=>.pv (.bool (l.contains (i:Int))))=k.map fun i:Nat=>.pv (.bool (l.contains (i:Int))):=fun k=>by
  induction k with
  |nil=>rfl
  |cons x k ih=>rw[Zun];simp only[AV.frzL,AV.frz,ih]
 exact this _
def wkB (b:Bk)(bad:List Int)(es:List (PV×PV)):List Box:=[.cells (wkC b (.par 1) (badZ bad)),.map es]
theorem of_c (b:Bk)(bad:List Int)(es:List (PV×PV))(item day below:Int):Zak Tryz.prog 104 [.ptr (.par 0) 0,.pv (.int .i64 item),.pv (.int .i64 day),.pv (.int .i64 below)] (laid 0 (wkB b bad es)) (fun r B=>r=ofF (.ret 0) item day below∧B=(.ret 0,.cells [.ptr (.par 0) 0])::laid 0 (wkB b bad es)):=by
 refine Zia [.loc 5 0,.loc 6 0,.loc 7 0] [.loc 4 0,.par 0,.par 1] mixed L104_ok (Zt2 rfl) ?_;generalize hR:(fun(r:AV) (B:List (Site×Box))=>r=ofF (.ret 0) item day below∧B=(.ret 0,.cells [.ptr (.par 0) 0])::laid 0 (wkB b bad es))=R;simp[-getElem?_pos,L104,laid,wkB,wkC,unpvs,fnA,ZaD,Zam,Za4];simp[retB,Zau,ZaD,Zam,Za4,Zay,ZaB,Zuq];rw[←hR];refine⟨rfl,?_⟩;simp[laid,wkB,wkC]
end
attribute [local simp] ZcD ZcC ZcB Zbv Zcy Zcz ZbR Zef
attribute [local simp] AV.map AV.mapL noRet Site.isRet Box.allS AV.allS AV.allSL AS.adds
def ctsV (l:List Ct):List PV:=l.map Ct.pv
def Bk.ofK (b:Bk)(item day below:Int)(k:Nat):List Ct:=((b.nums.take k).map b.get).filter (Bk.ofB item day below)
theorem ZoO {b:Bk}{item day below:Int}{k:Nat}{n:Int}(h:b.nums[k]?=some n):b.ofK item day below (k+1)=b.ofK item day below k++(if Bk.ofB item day below (b.get n)=true then[b.get n]else[]):=by
 unfold Bk.ofK;rw[Zuf,h,Zuw,ZuV];congr 1;simp only[Option.toList,Zun,List.map_nil,ZuN,List.filter_nil]
theorem ZrL {b:Bk}{item day below:Int}(k:Nat):b.ofL item day below=b.ofK item day below k++((b.nums.drop k).map b.get).filter (Bk.ofB item day below):=by
 unfold Bk.ofK Bk.ofL;rw[←ZuV,←Zuw,ZuS]
theorem ZoP {b:Bk}{item day below:Int}:b.ofK item day below b.nums.length=b.ofL item day below:=by
 unfold Bk.ofK Bk.ofL;rw[Zus]
theorem ZdU {b:Bk}:b.nums.length≤1000:=by
 unfold Bk.nums;rw[Zuc];exact Zup (ZuX _ _) (by rw[List.length_range];exact Zue _)
theorem Zgq {X:List Box}{j:Nat}{b:Box}(h:X[j]?=some b):(laid 0 X).lookup (.par j)=some b:=by
 have:=ZhX X 0 j
 rw[Zuk]at this;rw[this,h]
set_option maxHeartbeats 8000000 in
theorem ZiK (C:Cons Tryz.prog)(b:Bk)(hb:b.ok)(bad:List Int)(es:List (PV×PV))(hes:CMap b es)(j0 jw jm:Nat)(hW:∀c,C.live c→WAt b bad es (C.X c) jw jm)(h0:∀c,C.live c→(C.X c)[j0]?=some (.cells [.ptr (.par jw) 0]))
  (item day below:Int) (c:C.S) (hc:C.live c) (hg:∀x∈b.ofL item day below,C.good x.pv):
  Zak Tryz.prog 143 [.yld (.par 0),.ptr (.par j0) 0,.pv (.ref [.int .i64 below]),.pv (.ref [.int .i64 item]),.pv (.ref [.int .i64 day])] (laid 0 (C.X c)) (fun r B=>r=.pv (.tup [])∧B=laid 0 (C.X (C.run c (ctsV (b.ofL item day below))).1)):=by
 have hlen:=ZdU (b:=b);refine Zag (parsN C.m) mixed L143_ok (Zt2 rfl) ?_;generalize hR:(fun(r:AV) (B:List (Site×Box))=>r=.pv (.tup [])∧B=laid 0 (C.X (C.run c (ctsV (b.ofL item day below))).1))=R;have k0:=Zgq (h0 c hc);have kw:=Zgq (hW c hc).w;simp[-getElem?_pos,L143,k0,kw,wkC];refine Zae (fun n τ=>∃(k:Nat) (c':C.S),k≤b.nums.length∧n=b.nums.length-k∧C.run c (ctsV (b.ofK item day below k))=(c',true)∧C.live c'∧τ=⟨[(0,.yld (.par 0)),(1,.ptr (.par j0) 0),(2,.pv (.ref [.int .i64 below])),(3,.pv (.ref [.int .i64 item])),(4,.pv (.ref [.int .i64 day])),(12,.pv (.lst false 1 (b.nums.map intP))),(13,.pv (.int .i64 b.nums.length)),(14,.pv (.int .i64 k))],laid 0 (C.X c')⟩)
  ⟨b.nums.length,⟨[(0,.yld (.par 0)),(1,.ptr (.par j0) 0),(2,.pv (.ref [.int .i64 below])),(3,.pv (.ref [.int .i64 item])),(4,.pv (.ref [.int .i64 day])),(12,.pv (.lst false 1 (b.nums.map intP))),(13,.pv (.int .i64 b.nums.length)),(14,.pv (.int .i64 0))],laid 0 (C.X c)⟩,Sub.mk (by simp) (Zdq ZbA),0,c,Zud _,rfl,by simp[Bk.ofK,ctsV,Cons.run],hc,rfl⟩ ?_
 rintro J hJ n τ ⟨k,c',hk,rfl,hrun,hlive,rfl⟩;have k0:=Zgq (h0 c' hlive);have kw:=Zgq (hW c' hlive).w;have km:=Zgq (hW c' hlive).m;unfold wkC at kw;by_cases hlt:k<b.nums.length
 ·obtain⟨x,hx⟩:∃x,b.nums[k]?=some x:=⟨b.nums[k],Zt3 hlt⟩;have hxm:=Zua hx;have hgx:(b.nums.map intP)[k]?=some (.int .i64 x):=by rw[Zt4,hx];rfl
  have hw:=wrapK (k:=k) (by omega);have hmeas:b.nums.length-(k+1)<b.nums.length-k:=by omega
  obtain⟨hcm,hcn⟩:=Zby hb hxm;have hfx:=hes.f x;rw[if_pos hxm]at hfx;have hko:=hes.k;have hnx:=ZoO (item:=item) (day:=day) (below:=below) hx;have hbd:=Zbi hb hcm;have hon:=con_c (b.get x) day (by rw[wrap64 (by omega)]);have hin:Bk.ofB item day below (b.get x)=true→b.get x∈b.ofL item day below:=fun h=>(Zcc hb).2 ⟨hcm,h⟩
  have hskip:Bk.ofB item day below (b.get x)=false→J (b.nums.length-(k+1)) ⟨[(0,.yld (.par 0)),(1,.ptr (.par j0) 0),(2,.pv (.ref [.int .i64 below])),(3,.pv (.ref [.int .i64 item])),(4,.pv (.ref [.int .i64 day])),(12,.pv (.lst false 1 (b.nums.map intP))),(13,.pv (.int .i64 b.nums.length)),(14,.pv (.int .i64 (k+1:Nat)))],laid 0 (C.X c')⟩:=fun h=>by
   rw[if_neg (by simp[h]),Zut]at hnx;exact hJ _ _ ⟨k+1,c',hlt,rfl,by rw[hnx];exact hrun,hlive,rfl⟩
  have hB:Bk.ofB item day below (b.get x)=(decide (x<below)&&(decide ((b.get x).it=item)&&(b.get x).on day)):=by unfold Bk.ofB;rw[hcn]
  generalize b.get x=y at *;obtain⟨yn,yi,ys,yd,yv,⟨yl,yh⟩⟩:=y;simp only at hcn;subst hcn;unfold Ct.pv at hfx hon;simp only at hB;cases e1:decide (yn<below)
  ·rw[e1,Bool.false_and]at hB;simp[-getElem?_pos,-List.getElem?_map,-decide_eq_true_eq,-decide_eq_false_iff_not,hlt,hgx,k0,kw,km,hko,hfx,lookA,e1,hw];exact⟨_,_,hmeas,Sub.mk (by simp) (Zdq (by repeat (first|exact ZbA|exact Zcu|refine Zc2 rfl ?_))),hskip hB⟩
  rw[e1,Bool.true_and]at hB;cases e2:decide (yi=item)
  ·rw[e2,Bool.false_and]at hB;simp[-getElem?_pos,-List.getElem?_map,-decide_eq_true_eq,-decide_eq_false_iff_not,hlt,hgx,k0,kw,km,hko,hfx,lookA,e1,e2,hw];exact⟨_,_,hmeas,Sub.mk (by simp) (Zdq (by repeat (first|exact ZbA|exact Zcu|refine Zc2 rfl ?_))),hskip hB⟩
  rw[e2,Bool.true_and]at hB;simp[-getElem?_pos,-List.getElem?_map,-decide_eq_true_eq,-decide_eq_false_iff_not,hlt,hgx,k0,kw,km,hko,hfx,lookA,e1,e2,hw];refine cG [.agg [.int .i64 yn,.int .i64 yi,.int .i64 ys,.int .i64 yd,.int .i64 yv,.int .i64 yl,.int .i64 yh],.int .i64 day] hon ?_;cases e3:Ct.on ⟨yn,yi,ys,yd,yv,⟨yl,yh⟩⟩ day
  ·rw[e3]at hB;simp[-getElem?_pos,-List.getElem?_map,-decide_eq_true_eq,-decide_eq_false_iff_not,hw];exact⟨_,_,hmeas,Sub.mk (by simp) (Zdq (by repeat (first|exact ZbA|exact Zcu|refine Zc2 rfl ?_))),hskip hB⟩
  rw[e3]at hB;have hgood:=hg _ (hin hB);rw[if_pos hB]at hnx;simp[-getElem?_pos,-List.getElem?_map,-decide_eq_true_eq,-decide_eq_false_iff_not];refine Zk9 41 C.m (C.X c') rfl C.m0 (C.len c') (by repeat (first|exact ZbA|exact Zcu|refine Zc2 rfl ?_)) (C.cl c') rfl (C.yields c' (Ct.pv ⟨yn,yi,ys,yd,yv,⟨yl,yh⟩⟩) hlive hgood) ?_;rintro r B ⟨rfl,rfl⟩;refine⟨C.X (C.step c' (Ct.pv ⟨yn,yi,ys,yd,yv,⟨yl,yh⟩⟩)).1,rfl,C.len _,C.cl _,rfl,?_⟩;have hstep:C.run c (ctsV (b.ofK item day below (k+1)))=C.step c' (Ct.pv ⟨yn,yi,ys,yd,yv,⟨yl,yh⟩⟩):=by
   rw[hnx,ctsV,Zuw,Cons.run_app];rw[show List.map Ct.pv (b.ofK item day below k)=ctsV (b.ofK item day below k) from rfl,hrun];exact Cons.run_one c' _
  cases hs:(C.step c' (Ct.pv ⟨yn,yi,ys,yd,yv,⟨yl,yh⟩⟩)).2
  ·simp[-getElem?_pos,-List.getElem?_map,Zgp];refine Zip (L:=C.X (C.step c' (Ct.pv ⟨yn,yi,ys,yd,yv,⟨yl,yh⟩⟩)).1) rfl rfl (C.len _) (by repeat (first|exact ZbA|exact Zcu|refine Zc2 rfl ?_)) (C.cl _) ?_;rw[←hR];refine⟨rfl,?_⟩;have hall:C.run c (ctsV (b.ofL item day below))=C.step c' (Ct.pv ⟨yn,yi,ys,yd,yv,⟨yl,yh⟩⟩):=by
    rw[ZrL (k+1),ctsV,Zuw,Cons.run_app];rw[show List.map Ct.pv (b.ofK item day below (k+1))=ctsV (b.ofK item day below (k+1)) from rfl,hstep,hs]
   rw[hall]
  ·have hround:=hJ _ _ ⟨k+1,(C.step c' (Ct.pv ⟨yn,yi,ys,yd,yv,⟨yl,yh⟩⟩)).1,hlt,rfl,by rw[hstep];exact Prod.ext rfl hs,C.goes _ _ hlive hgood hs,rfl⟩;simp[-getElem?_pos,-List.getElem?_map,Zgp,hw];exact⟨_,_,hmeas,Sub.mk (by simp) (Zdq (by repeat (first|exact ZbA|exact Zcu|refine Zc2 rfl ?_))),hround⟩
 ·have he:k=b.nums.length:=by omega
  subst he;simp[-getElem?_pos,-List.getElem?_map];refine Zip (L:=C.X c') rfl rfl (C.len _) ZbA (C.cl _) ?_;rw[←hR];exact⟨rfl,by rw[ZoP]at hrun;rw[hrun]⟩
end
section
open Go.RowKit
set_option maxRecDepth 10000
theorem cok51:COk Tryz.prog (tyOf tys) L79.code:=Zdl L79_ok L79_tab
structure HMap (H:Int→Bool)(hs:List (PV×PV)):Prop where
 k:ZbC kI hs=true
 f:∀n:Int,(findV (.int .i64 n) hs).getD (.bool false)=.bool (H n)
def numOf:PV→Int
 |.agg (.int _ n::_)=>n
 |_=>0
def capB (s:Site):Box:=.cells [.ptr s 0]
noncomputable def hldX (b:Bk)(bad:List Int)(es hs:List (PV×PV))(is:Bool):List Box:=[.loop (rcode Tryz.prog 79 0) [42] 64 [(3,.ptr (.par 2) 0),(7,.ptr (.par 1) 0)] none,
 .cells [.pv (.bool is)],.cells [.mp (.par 3)],.map hs,capB (.par 5),.cells (wkC b (.par 6) (badZ bad)),.map es]
attribute [local simp] AS.exp expG Box.ren AV.map AV.mapL Zau noRet Site.isRet Box.allS AV.allS AV.allSL retB dropL AS.adds renL outG outOk Zas inG fnOf lookA Zuq
section
attribute [local simp] Box.purge Site.isLoc
set_option maxHeartbeats 8000000 in
noncomputable def hldC (b:Bk)(bad:List Int)(es hs:List (PV×PV))(H:Int→Bool)(hH:HMap H hs):Cons Tryz.prog where
 m:=7
 S:=Bool
 X:=hldX b bad es hs
 step is x:=(is||H (numOf x),true)
 good x:=∃c:Ct,x=c.pv
 live _:=True
 m0:=by omega
 len _:=rfl
 cl c:=by
  intro bx hb;simp only[hldX,Zul,List.not_mem_nil,or_false]at hb;rcases hb with rfl|rfl|rfl|rfl|rfl|rfl|rfl
  ·rfl
  ·rfl
  ·rfl
  ·rfl
  ·rfl
  ·simp[wkC,Site.lt,Zay]
  ·rfl
 goes _ _ _ _ _:=trivial
 yields c x hc hx:=by
  obtain⟨y,rfl⟩:=hx;have hcok:COk Tryz.prog (tyOf tys) (.rng 64 (.t 41) (rcode Tryz.prog 79 0) Y79_0a Y79_0b [42]):=cok51.2.2.1.2.2.2.1.2.2.2.1.2;have hf:=hH.f y.num;have hk:=hH.k;refine ZaG mixed hcok.1 hcok.2.1 rfl rfl (by simp) rfl ?_;cases c
  all_goals
   simp[-getElem?_pos,Y79_0a,Y79_0b,hldX,laid,putL,Ct.pv,hk,hf,numOf,capB,wkC,Zam,ZaD];exact⟨[],[.par 1,.par 2,.par 3,.par 4,.par 5,.par 6],rfl,rfl,by simp[frzL,Zay],rfl,by simp[frzL,ZaB]⟩
end
theorem ZkK {b:Bk}{bad:List Int}{es hs:List (PV×PV)}{H:Int→Bool}{hH:HMap H hs}:∀(l:List Ct) (c:Bool),(hldC b bad es hs H hH).run c (ctsV l)=(c||l.any (fun o=>H o.num),true)
 |[],c=>by
  show(c,true)=_;simp
 |x::l,c=>by
  show(hldC b bad es hs H hH).run (c||H x.num) (ctsV l)=_;rw[ZkK l,List.any_cons,Bool.or_assoc]
theorem ZiQ {b:Bk}(hb:b.ok){bad:List Int}{n:Int}(h:n∈b.held bad):n∈b.nums:=by
 obtain⟨c,hc,e,_⟩:=(ZeD hb).1 h;exact(Zbu hb).2 ⟨c,hc,e⟩
def hEnt (b:Bk)(bad:List Int)(k:Nat):List (PV×PV):=mapI id (fun n=>.bool ((b.held bad).contains n)) (b.nums.take k)
theorem Zgz {l:List Int}{n:Int}:(l.find? fun c=>decide (id c=n))=if n∈l then some n else none:=by
 induction l with
 |nil=>rfl
 |cons x l ih=>
  rw[List.find?_cons];by_cases h:x=n
  ·subst h;rw[show decide (id x=x)=true from by simp,if_pos (by simp)]
  ·rw[show decide (id x=n)=false from by simpa using h,ih];by_cases hm:n∈l
   ·rw[if_pos hm,if_pos (by simp[hm])]
   ·rw[if_neg hm,if_neg (by simp[hm];omega)]
theorem ZeJ (b:Bk)(bad:List Int)(k:Nat):HMap (fun n=>(b.nums.take k).contains n&&(b.held bad).contains n) (hEnt b bad k):=by
 refine⟨Zb5,fun n=>?_⟩;unfold hEnt;rw[ZbH,Zgz];by_cases h:n∈b.nums.take k
 ·rw[if_pos h,ZuC.2 h,Bool.true_and];rfl
 ·rw[if_neg h];cases hc:(b.nums.take k).contains n
  ·rfl
  ·exact absurd (ZuC.1 hc) h
theorem ZcF {b:Bk}(hb:b.ok)(bad:List Int):HMap (fun n=>(b.held bad).contains n) (hEnt b bad b.nums.length):=by
 have h:=ZeJ b bad b.nums.length;refine⟨h.k,fun n=>?_⟩;rw[h.f n,Zus];cases hc:(b.held bad).contains n
 ·simp
 ·rw[ZuC.2 (ZiQ hb (ZuC.1 hc))];rfl
theorem Zph {b:Bk}{bad:List Int}{k:Nat}{n:Int}(h:b.nums[k]?=some n):putK (.int .i64 n) (.bool ((b.held bad).contains n)) (hEnt b bad k)=hEnt b bad (k+1):=by
 unfold hEnt;rw[Zew (fun x hx=>?_),Zuf,h]
 ·unfold mapI;rw[Zuw];rfl
 ·obtain⟨i,hi⟩:=Zui.1 hx;rw[Zuj]at hi;split at hi
  ·rename_i hik;obtain⟨h1,e1⟩:=Zt5.1 hi;obtain⟨h2,e2⟩:=Zt5.1 h
   have:=List.pairwise_iff_getElem.1 (Zbw (b:=b)) i k h1 h2 hik
   rw[e1,e2]at this;show x≠n;omega
  ·cases hi
theorem Zk5 {b:Bk}(hb:b.ok){k:Nat}{n:Int}(h:b.nums[k]?=some n)(H:Int→Bool):((b.ofL (b.get n).src (b.get n).day n).any fun o=>(b.nums.take k).contains o.num&&H o.num)=(b.ofL (b.get n).src (b.get n).day n).any fun o=>H o.num:=by
 rw[Zuz,Zux,Zux];constructor
 ·rintro⟨o,ho,h1⟩;rw[Zt7]at h1;exact⟨o,ho,h1.2⟩
 ·rintro⟨o,ho,h1⟩;refine⟨o,ho,?_⟩;rw[h1,Bool.and_true,ZuC];obtain⟨h2,h3⟩:=(Zcc hb).1 ho;unfold Bk.ofB at h3;simp only[Zt7,decide_eq_true_eq]at h3;obtain⟨i,hi⟩:=Zui.1 ((Zbu hb).2 ⟨o,h2,rfl⟩);rw[Zui];refine⟨i,?_⟩;obtain⟨q1,e1⟩:=Zt5.1 hi;obtain⟨q2,e2⟩:=Zt5.1 h;rw[Zuj,if_pos,hi];rcases Nat.lt_trichotomy i k with hik|hik|hik
  ·exact hik
  ·subst hik;rw[e1]at e2;omega
  ·have:=List.pairwise_iff_getElem.1 (Zbw (b:=b)) k i q2 q1 hik
   rw[e1,e2]at this;omega
theorem ZiO {b:Bk}(hb:b.ok){bad:List Int}{k:Nat}{n:Int}(h:b.nums[k]?=some n):(((b.item (b.get n).src).std||(b.ofL (b.get n).src (b.get n).day n).any fun o=>(b.nums.take k).contains o.num&&(b.held bad).contains o.num)&&!bad.contains n)=(b.held bad).contains n:=by
 rw[ZkJ hb (Zua h),Zk5 hb h]
theorem get4 {a b c d:AV}{Z:List AV}{n:Nat}:(a::b::c::d::Z)[4+n]?=Z[n]?:=by rw[Nat.add_comm];rfl
def hdK (b:Bk)(bad:List Int)(es:List (PV×PV))(k:Nat):AS:=⟨[(0,.ptr (.par 0) 0),(3,.ptr (.loc 3 0) 0),(13,.pv (.lst false 1 (b.nums.map intP))),(14,.pv (.int .i64 b.nums.length)),(15,.pv (.int .i64 k))],
 [(.loc 9 0,.map (hEnt b bad k)),(.loc 3 0,.cells [.mp (.loc 9 0)]),(.par 0,.cells (wkC b (.par 1) (badZ bad))),(.par 1,.map es)]⟩
section
attribute [local simp] Box.purge Site.isLoc
set_option maxHeartbeats 16000000 in
theorem Zni (b:Bk)(hb:b.ok)(bad:List Int)(es:List (PV×PV))(hes:CMap b es):Zak Tryz.prog 79 [.ptr (.par 0) 0] (laid 0 (wkB b bad es)) (fun r B=>r=.mp (.ret 0)∧B=(.ret 0,.map (hEnt b bad b.nums.length))::laid 0 (wkB b bad es)):=by
 have hlen:=ZdU (b:=b);refine cBR [.loc 9 0,.par 0,.par 1] L79 ?_;intro R hR;simp[-getElem?_pos,L79,laid,wkB,wkC,Zam,ZaD];refine Zae (fun n τ=>∃k:Nat,k≤b.nums.length∧n=b.nums.length-k∧τ=hdK b bad es k) ⟨b.nums.length,hdK b bad es 0,Sub.mk (by simp[hdK]) (by simp[hdK,wkC,hEnt,mapI,Zam]),0,Zud _,rfl,rfl⟩ ?_;rintro J hJ n τ ⟨k,hk,rfl,rfl⟩;by_cases hlt:k<b.nums.length
 ·obtain⟨x,hx⟩:∃x,b.nums[k]?=some x:=⟨b.nums[k],Zt3 hlt⟩;have hxm:=Zua hx;have hgx:(b.nums.map intP)[k]?=some (.int .i64 x):=by rw[Zt4,hx];rfl
  have hw:=wrapK (k:=k) (by omega);have hmeas:b.nums.length-(k+1)<b.nums.length-k:=by omega
  obtain⟨hcm,hcn⟩:=Zby hb hxm;have hfx:=hes.f x;rw[if_pos hxm]at hfx;have hko:=hes.k;have hbd:=Zbi hb hcm;have hround:=hJ _ _ ⟨k+1,hlt,rfl,rfl⟩;have hput:=Zph (bad:=bad) hx;have hst:=ZiO hb (bad:=bad) hx;have hkk:=(ZeJ b bad k).k;have hany:=Zk5 hb hx (fun n=>(b.held bad).contains n);have hrun:=fun is:Bool=>ZkK (b:=b) (bad:=bad) (es:=es) (hH:=ZeJ b bad k) (b.ofL (b.get x).src (b.get x).day x) is
  have hit:=fun is:Bool=>ZiK (hldC b bad es (hEnt b bad k) _ (ZeJ b bad k)) b hb bad es hes 4 5 6 (fun c _=>⟨rfl,rfl⟩) (fun c _=>rfl) (b.get x).src (b.get x).day x is trivial (fun z hz=>⟨z,rfl⟩)
  simp only[hrun,hany]at hit;rw[ZiO hb hx]at hst;have hst2:=ZkJ hb (bad:=bad) hxm;generalize hAN:((b.ofL (b.get x).src (b.get x).day x).any fun n=>(b.held bad).contains n.num)=an at *;generalize b.get x=y at *;obtain⟨yn,yi,ys,yd,yv,⟨yl,yh⟩⟩:=y;simp only at hcn hbd hit hst2;subst hcn;unfold Ct.pv at hfx;obtain⟨si,rfl⟩:∃si:Nat,ys=si:=⟨ys.toNat,by omega⟩;obtain⟨nn,rfl⟩:∃nn:Nat,yn=nn:=⟨yn.toNat,by omega⟩;have hsi:si<b.items.length:=by omega
  have hnn:nn<1000:=by omega
  obtain⟨z,hz⟩:∃z,b.items[si]?=some z:=⟨b.items[si],Zt3 hsi⟩;have hgz:(b.items.map It.pv)[si]?=some (.agg [.int .i64 z.drift,.bool z.std,.int .i64 z.val.lo,.int .i64 z.val.hi]):=by rw[Zt4,hz];rfl
  have hzi:b.item (si:Int)=z:=by unfold Bk.item;rw[Int.toNat_natCast,hz];rfl
  rw[hzi]at hst2;have hit':=hit z.std;clear hit;simp[-getElem?_pos,-List.getElem?_map,hdK,wkC,hlt,hgx,hko,hfx,itsP,hgz,hsi,Zam,ZaD,-retB];refine cM [.ptr (.par 0) 0,.pv (.int .i64 si),.pv (.int .i64 yd),.pv (.int .i64 nn)] (laid 0 (wkB b bad es)) 41 [.par 0,.par 1] (by simp[laid,wkB,wkC,itsP,ZaB,Zay]) (of_c b bad es si yd nn) (by simp[laid,wkB,wkC,Zay]) ?_;simp[-getElem?_pos,-List.getElem?_map,laid,wkB,wkC,Zam,ZaD,ZaB,ofF,-retB];refine ZbD [.loc 64 0,.loc 7 0,.loc 3 0,.loc 9 0,.loc 41 0,.par 0,.par 1] [(3,.ptr (.loc 3 0) 0),(7,.ptr (.loc 7 0) 0)] (gf:=143) (fs:=[]) (cs:=[.ptr (.loc 41 0) 0,.pv (.ref [.int .i64 nn]),.pv (.ref [.int .i64 si]),.pv (.ref [.int .i64 yd])]) ?_ ?_ rfl rfl ?_ ?_ ?_ hit' ?_
  ·rfl
  ·simp
  ·simp[hldC,hldX,laid,wkC,ZaB,Zay,Zam,ZaD,capB]
  ·rfl
  ·rfl
  rintro r B' ⟨rfl,rfl⟩;refine⟨rfl,?_,?_⟩
  ·exact fun p hp=>Zfi (n:=7) (L:=hldX b bad es (hEnt b bad k) (z.std||an)) (by simp[hldX]) ((hldC b bad es (hEnt b bad k) _ (ZeJ b bad k)).cl (z.std||an)) p hp
  refine⟨_,_,_,_,_,rfl,?_⟩;have hfold:(z.std||an)=true→(b.held bad).contains (nn:Int)=!bad.contains (nn:Int):=fun h=>by rw[hst2,h,Bool.true_and]
  have hfold2:(z.std||an)=false→(b.held bad).contains (nn:Int)=false:=fun h=>by rw[hst2,h,Bool.false_and]
  generalize hIS:(z.std||an)=is at *;have hbz:=Zic (l:=bad) hnn;cases is
  ·rw[hfold2 rfl]at hput;simp[-getElem?_pos,-List.getElem?_map,hldC,hldX,laid,jumpQ,wkC,Zam,ZaD,ZaB,capB,-retB,hIS,hkk,hput,hw];exact⟨_,_,hmeas,Sub.mk (by simp[hdK]) (by simp[hdK,wkC,Zam]),hround⟩
  ·have hv:=hfold rfl;cases hbc:bad.contains (nn:Int)
   ·rw[hbc]at hv hbz;simp only[Bool.not_false,Bool.not_true]at hv;rw[hv]at hput;simp[-getElem?_pos,-List.getElem?_map,hldC,hldX,laid,jumpQ,wkC,Zam,ZaD,ZaB,capB,-retB,hIS,nblt,nble,hnn,get4,hbz,hkk,hput,hw];exact⟨_,_,hmeas,Sub.mk (by simp[hdK]) (by simp[hdK,wkC,Zam]),hround⟩
   ·rw[hbc]at hv hbz;simp only[Bool.not_false,Bool.not_true]at hv;rw[hv]at hput;simp[-getElem?_pos,-List.getElem?_map,hldC,hldX,laid,jumpQ,wkC,Zam,ZaD,ZaB,capB,-retB,hIS,nblt,nble,hnn,get4,hbz,hkk,hput,hw];exact⟨_,_,hmeas,Sub.mk (by simp[hdK]) (by simp[hdK,wkC,Zam]),hround⟩
 ·have he:k=b.nums.length:=by omega
  subst he;clear hJ;simp[-getElem?_pos,-List.getElem?_map,hdK,wkC,Zay,ZaB,Zau];rw[←hR];exact⟨rfl,by simp[laid,wkB,wkC]⟩
end
end
section
open Go.RowKit
set_option maxRecDepth 10000
def okAt (l:List Int)(k:Nat):Bool:=match l[k]? with
 |some n=>inB n 1 999&&(decide (k=0)||decide ((l[k-1]?).getD 0<n))
 |none=>true
def areB (l:List Int):Bool:=(List.range l.length).all (okAt l)
theorem Zj5 {l:List Int}{k:Nat}(hk:k<l.length)(h:okAt l k=false):areB l=false:=by
 unfold areB;rw[List.all_eq_false];exact⟨k,List.mem_range.2 hk,by simp[h]⟩
theorem Zqi {l:List Int}(h:∀k,k<l.length→okAt l k=true):areB l=true:=by
 unfold areB;rw[Zuo];exact fun k hk=>h k (List.mem_range.1 hk)
def woR (b:Bk)(bad:List Int)(r:AV)(B:List (Site×Box)):Prop:=
 (b.fault≠0∧r=.pv (.tup [.nilp,.int .i64 b.fault])∧B=[])∨
 (b.fault=0∧areB bad=false∧r=.pv (.tup [.nilp,.int .i64 2])∧B=[])∨
 (b.fault=0∧areB bad=true∧∃es,CMap b es∧r=.tup [.ptr (.ret 0) 0,.pv (.int .i64 0)]∧B=[(.ret 0,.cells (wkC b (.ret 1) (badZ bad))),(.ret 1,.map es)])
def woK (b:Bk)(bad:List Int)(es:List (PV×PV))(k:Nat):AS:=⟨[(1,.pv (.lst false 1 (bad.map intP))),(6,.ptr (.loc 12 0) 0),(18,.pv (.lst false 1 (bad.map intP))),(19,.pv (.int .i64 bad.length)),(20,.pv (.int .i64 k))],
 [(.loc 12 0,.cells (wkC b (.loc 12 1) (badZ (bad.take k)))),(.loc 12 1,.map es)]⟩
theorem take4 {a b c d:AV}{Z:List AV}{n:Nat}:(a::b::c::d::Z).take (4+n)=a::b::c::d::Z.take n:=by rw[Nat.add_comm];rfl
theorem drop3 {b c d:AV}{Z:List AV}{n:Nat}:(b::c::d::Z).drop (4+n)=Z.drop (n+1):=by rw[Nat.add_comm];rfl
theorem Zmj {Z:List AV}{n:Nat}{v:AV}(h:n<Z.length):Z.take n++v::Z.drop (n+1)=Z.set n v:=by rw[List.set_eq_take_append_cons_drop,if_pos h]
attribute [local simp] AS.exp expG Box.ren AV.map AV.mapL noRet Site.isRet Box.allS AV.allS AV.allSL dropL AS.adds renL outG outOk Zas inG fnOf lookA Zuq
attribute [local simp] Box.purge Site.isLoc
set_option maxHeartbeats 16000000 in
theorem ZlP (b:Bk)(hi:b.items.length≤1000)(hc:b.certs.length≤1000)(bad:List Int)(hbl:bad.length≤1000):Zak Tryz.prog 78 [.pv b.pv,.pv (.lst false 1 (bad.map intP))] [] (woR b bad):=by
 have hr:=Zit b hi hc;refine cE L78 ?_;generalize hR:woR b bad=R;simp[-getElem?_pos,L78,Bk.pv];refine cL [.pv b.pv] [] 12 [] rfl hr ?_
 rintro r0 B0 (⟨h0,rfl,rfl⟩|⟨h0,es,hes,rfl,rfl⟩)
 ·refine⟨rfl,by simp,?_⟩;have hd:decide (b.fault=0)=false:=by simpa using h0
  simp[-getElem?_pos,-decide_eq_true_eq,-decide_eq_false_iff_not,hd];refine⟨[],?_⟩;simp[retB,Zau];rw[←hR];exact .inl ⟨h0,rfl,rfl⟩
 refine⟨rfl,by simp[wkC,ZbY,Zay],?_⟩;simp[-getElem?_pos,-List.getElem?_map,wkC,ZbY,ZaB,Zam];refine Zae (fun n τ=>∃k:Nat,k≤bad.length∧n=bad.length-k∧(∀j,j<k→okAt bad j=true)∧τ=woK b bad es k) ⟨bad.length,woK b bad es 0,Sub.mk (by simp[woK]) (by simp[woK,wkC,Zam]),0,Zud _,rfl,(fun j hj=>by omega),rfl⟩ ?_;rintro J hJ n τ ⟨k,hk,rfl,hinv,rfl⟩;by_cases hlt:k<bad.length
 ·obtain⟨x,hx⟩:∃x,bad[k]?=some x:=⟨bad[k],Zt3 hlt⟩;have hgx:(bad.map intP)[k]?=some (.int .i64 x):=by rw[Zt4,hx];rfl
  have hw:=wrapK (k:=k) (by omega);have hmeas:bad.length-(k+1)<bad.length-k:=by omega
  have hok:okAt bad k=(inB x 1 999&&(decide (k=0)||decide ((bad[k-1]?).getD 0<x))):=by unfold okAt;rw[hx]
  have herr:okAt bad k=false→∃outs,retB outs [.tm 4,.tm 5] R ⟨[(5,.pv (.int .i64 2)),(4,.pv .nilp)],[]⟩:=fun h=>⟨[],by
   simp[retB,Zau];rw[←hR];exact .inr (.inl ⟨h0,Zj5 hlt h,rfl,rfl⟩)⟩
  have hnum:=Zku x;have hlt':decide ((k:Int)<(bad.length:Int))=true:=by simp;omega
  simp[-getElem?_pos,-List.getElem?_map,-decide_eq_true_eq,-decide_eq_false_iff_not,woK,wkC,hlt,hlt',hgx];refine cG [.int .i64 x] hnum ?_;cases e1:inB x 1 999
  ·rw[e1,Bool.false_and]at hok;simp[-getElem?_pos,-List.getElem?_map,-decide_eq_true_eq,-decide_eq_false_iff_not];refine⟨[],?_⟩;simp[retB,Zau];rw[←hR];exact .inr (.inl ⟨h0,Zj5 hlt hok,rfl,rfl⟩)
  rw[e1,Bool.true_and]at hok;have hx1:1≤x∧x≤999:=by unfold inB at e1;simp only[Zt7,decide_eq_true_eq]at e1;exact e1
  obtain⟨nn,rfl⟩:∃nn:Nat,x=nn:=⟨x.toNat,by omega⟩;have hnn:nn<1000:=by omega
  have hset:=Zp0 (l:=bad.take k) hnn;have htk:bad.take (k+1)=bad.take k++[(nn:Int)]:=by rw[Zuf,hx];rfl
  rw[←htk,←Zmj (by rw[Zib];exact hnn)]at hset;have hle:4+nn≤1003:=by omega
  have hround:=fun h:okAt bad k=true=>hJ _ _ ⟨k+1,hlt,rfl,(fun j hj=>by
   rcases ZuW.1 hj with h'|h'
   ·exact hinv j h'
   ·subst h';exact h),rfl⟩
  by_cases hz:k=0
  ·have hround:=hround (by rw[hok,hz];rfl);subst hz;have hw0:IntKind.i64.wrap 1=1:=rfl;simp only[List.take_zero,Zuk]at hset;simp[hw0,-getElem?_pos,-List.getElem?_map,-decide_eq_true_eq,-decide_eq_false_iff_not,wkC,Zam,hw,nblt,nble,hnn,take4,drop3,hle,hset,Zib];exact⟨_,_,hmeas,Sub.mk (by simp[woK]) (by simp[woK,wkC,Zam]),hround⟩
  ·obtain⟨j,hj1⟩:∃j,j+1=k:=⟨k-1,by omega⟩;obtain⟨y,hy⟩:∃y,bad[j]?=some y:=⟨bad[j]'(by omega),Zt3 _⟩;have hgy:(bad.map intP)[j]?=some (.int .i64 y):=by rw[Zt4,hy];rfl
   have hw1:IntKind.i64.wrap ((k:Int)-1)=(j:Int):=by rw[wrap64 (by omega)];omega
   have hpos:decide ((0:Int)<(k:Int))=true:=by simp;omega
   have hpos2:0<k:=by omega
   have hjl:j<bad.length:=by omega
   have hok':okAt bad k=decide (y<(nn:Int)):=by
    rw[hok,show k-1=j by omega,hy,decide_eq_false hz,Bool.false_or];rfl
   cases e2:decide (y<(nn:Int))
   ·have e3:decide ((nn:Int)≤y)=true:=by simp at e2 ⊢;omega
    simp[-getElem?_pos,-List.getElem?_map,-decide_eq_true_eq,-decide_eq_false_iff_not,hpos,hpos2,hw1,hjl,hgy,e3];refine⟨[],?_⟩;simp[retB,Zau];rw[←hR];exact .inr (.inl ⟨h0,Zj5 hlt (by rw[hok',e2]),rfl,rfl⟩)
   ·have e3:decide ((nn:Int)≤y)=false:=by simp at e2 ⊢;omega
    have hround:=hround (by rw[hok',e2]);simp[-getElem?_pos,-List.getElem?_map,-decide_eq_true_eq,-decide_eq_false_iff_not,hpos,hpos2,hw1,hjl,hgy,e3,wkC,Zam,hw,nblt,nble,hnn,take4,drop3,hle,hset,Zib];exact⟨_,_,hmeas,Sub.mk (by simp[woK]) (by simp[woK,wkC,Zam]),hround⟩
 ·have he:k=bad.length:=by omega
  subst he;clear hJ;simp[-getElem?_pos,-List.getElem?_map,woK,wkC];refine⟨[.loc 12 0,.loc 12 1],?_⟩;simp[retB,Zau,Zay,ZaB];rw[←hR];refine .inr (.inr ⟨h0,Zqi hinv,es,hes,rfl,?_⟩);simp[wkC]
end
section
open Go.RowKit
set_option maxRecDepth 10000
section
attribute [local simp] Box.purge Site.isLoc
theorem ZjT (l:List Int)(h0:l≠[])(hl:l.length≤1000000):Zak Tryz.prog 65 [.pv (.lst false 1 (l.map intP))] [] (fun r B=>r=.vec (.ret 0) 1 0 l.length∧B=[(.ret 0,.arr 3 1 (l.map intP))]):=by
 refine cB [.loc 7 0] L65 ?_;cases l with
 |nil=>exact absurd rfl h0
 |cons a l=>
  have h1:l.length+1≤1000000:=by simpa using hl
  have hm:(l.map intP).take l.length=l.map intP:=Zub (by simp);simp[-getElem?_pos,L65,nilOf,nble,h1,hm,retB,Zau,AS.exp,expG,Box.ren,AV.map,AV.mapL,noRet,Site.isRet,Box.allS,AV.allS,AV.allSL,Zuq]
attribute [local simp] retFz frzL AS.frz AV.frz AV.frzL Box.frz AS.tidy AS.frzC
theorem ZpE:Gives Tryz.prog 65 [.lst false 1 []] (.lst false 1 []):=by
 refine Zak.weak2 ?_;refine cF [.loc 7 0] L65 ?_;simp[-getElem?_pos,L65,nilOf,ZaN,nble,opWp,osel];exact fun m v h=>Zbz h
end
attribute [local simp] AS.exp expG Box.ren AV.map AV.mapL Zau noRet Site.isRet Box.allS AV.allS AV.allSL retB dropL AS.adds renL outG outOk Zas inG fnOf lookA Zuq
attribute [local simp] Box.purge Site.isLoc
theorem Zo9 {X:List Int}{w:Nat}{r:Int}:(X.map intP).set w (.int .i64 r)=(X.set w r).map intP:=by rw[List.map_set];rfl
theorem ZiS {l:List Int}{k:Nat}{x:Int}{p:Int→Bool}(h:l[k]?=some x)(hp:p x=true)(hinv:∀(j:Nat) (y:Int),j<k→l[j]?=some y→p y=false):l.findIdx? p=some k:=by
 obtain⟨hlt,e⟩:=Zt5.1 h;rw[ZuT];refine⟨hlt,by rw[e];exact hp,fun j hj=>?_⟩
 have:=hinv j l[j] hj (Zt3 (by omega))
 simp[this]
theorem Znm {l:List Int}{p:Int→Bool}(hinv:∀(j:Nat) (y:Int),j<l.length→l[j]?=some y→p y=false):l.findIdx? p=none:=by
 rw[ZuU];intro x hx;obtain⟨j,hj⟩:=Zui.1 hx;exact hinv j x (Zt5.1 hj).1 hj
def ixI:Option Nat→Int
 |some i=>i
 |none=>-1
theorem Znl {l:List Int}{p:Int→Bool}{i:Nat}(h:l.findIdx? p=some i):i<l.length∧l.take i=(l.take (i+1)).filter (fun n=>!p n):=by
 obtain⟨h1,h2,h3⟩:=ZuT.1 h;refine⟨h1,?_⟩;rw[Zuf,Zt3 h1,ZuV];have e:(Option.some l[i]).toList.filter (fun n=>!p n)=[]:=by simp[h2]
 rw[e,Zut,List.filter_eq_self.2];intro x hx;obtain⟨j,hj⟩:=Zui.1 hx;rw[Zuj]at hj;split at hj
 ·rename_i hji;obtain⟨q1,q2⟩:=Zt5.1 hj
  have:=h3 j hji
  rw[q2]at this;simpa using this
 ·cases hj
theorem ZjO {l:List Int}{p:Int→Bool}(h:l.findIdx? p=none):l.filter (fun n=>!p n)=l:=by
 rw[List.filter_eq_self];intro x hx
 have:=ZuU.1 h x hx
 simp[this]
def hdB (hs:List (PV×PV))(m:Nat):List Box:=[.cells [.mp (.par (m+1))],.map hs]
theorem predH (H:Int→Bool)(hs:List (PV×PV))(hH:HMap H hs)(n:Int)(_:True):Zak Tryz.prog 81 [.pv (.int .i64 n),.ptr (.par 0) 0] (laid 0 (hdB hs 0)) (fun r B=>r=.pv (.bool (!H n))∧B=laid 0 (hdB hs 0)):=by
 have hf:=hH.f n;have hk:=hH.k;refine cB [.par 0,.par 1] L81 ?_;simp[-getElem?_pos,L81,hdB,laid,hf,hk]
section
theorem ixH (H:Int→Bool)(hs:List (PV×PV))(hH:HMap H hs)(l:List Int)(hl:l.length≤1000)(hin:∀n∈l,True):
  Zak Tryz.prog 113 [.vec (.par 0) 1 0 l.length,(.fn 81 [] [.ptr (.par 1) 0])] (laid 0 (.arr 3 1 (l.map intP)::hdB hs 1)) (fun x B=>x=.pv (.int .i64 (ixI (l.findIdx? (fun n=>!H n))))∧B=laid 0 (.arr 3 1 (l.map intP)::hdB hs 1)):=by
 refine cBR [.par 0,.par 1,.par 2] L113 ?_;intro R hR;simp[-getElem?_pos,L113,hdB,laid];refine Zae (fun n τ=>∃k:Nat,k≤l.length∧n=l.length-k∧(∀(j:Nat) (y:Int),j<k→l[j]?=some y→(fun n=>!H n) y=false)∧τ=⟨[(0,.vec (.par 0) 1 0 l.length),(1,(.fn 81 [] [.ptr (.par 1) 0])),(7,.pv (.int .i64 l.length)),(8,.pv (.int .i64 k))],laid 0 (.arr 3 1 (l.map intP)::hdB hs 1)⟩)
  ⟨l.length,⟨[(0,.vec (.par 0) 1 0 l.length),(1,(.fn 81 [] [.ptr (.par 1) 0])),(7,.pv (.int .i64 l.length)),(8,.pv (.int .i64 0))],laid 0 (.arr 3 1 (l.map intP)::hdB hs 1)⟩,Sub.mk (by simp) (by simp[hdB,laid]),0,Zud _,rfl,(fun j y hj=>by omega),rfl⟩ ?_
 rintro J hJ n τ ⟨k,hk,rfl,hinv,rfl⟩;by_cases hlt:k<l.length
 ·obtain⟨r,hx⟩:∃x,l[k]?=some x:=⟨l[k],Zt3 hlt⟩;have hg:(l.map intP)[k]?=some (.int .i64 r):=by rw[Zt4,hx];rfl
  have hw:=wrapK (k:=k) (by omega);have hmeas:l.length-(k+1)<l.length-k:=by omega
  have hC:=predH H hs hH r (hin r (Zua hx));have hnext:(fun n=>!H n) r=false→J (l.length-(k+1)) _:=fun hn=>hJ _ _ ⟨k+1,hlt,rfl,(fun j y hj hy=>by
   rcases ZuW.1 hj with h|h
   ·exact hinv j y h hy
   ·subst h;rw[hx]at hy;cases hy;exact hn),rfl⟩
  clear hJ;simp[-getElem?_pos,-List.getElem?_map,hdB,laid,hlt,hg,nblt,nble];refine cM [.pv (.int .i64 r),.ptr (.par 0) 0] (laid 0 (hdB hs 0)) 16 [.par 1,.par 2] (by simp[hdB,laid]) hC (by simp[hdB,laid]) ?_;cases hgv:(fun n=>!H n) r with
  |false=>
   have hround:=hnext hgv;have hgv':(!H r)=false:=hgv;simp[-getElem?_pos,-List.getElem?_map,hdB,laid,hw,hgv'];refine⟨_,_,hmeas,Sub.mk ?_ ?_,hround⟩
   ·simp
   ·simp[hdB,laid]
  |true=>
   have hf:=ZiS hx hgv hinv;have hgv':(!H r)=true:=hgv;simp[-getElem?_pos,-List.getElem?_map,hdB,laid,hgv'];rw[←hR,hf];simp[hdB,laid,ixI]
 ·have he:k=l.length:=by omega
  subst he;have hf:=Znm hinv;clear hJ;simp[-getElem?_pos,-List.getElem?_map,hdB,laid];rw[←hR,hf];simp[hdB,laid,ixI]
set_option maxHeartbeats 8000000 in
theorem delH (H:Int→Bool)(hs:List (PV×PV))(hH:HMap H hs)(l:List Int)(hl:l.length≤1000)(hin:∀n∈l,True):
  Zak Tryz.prog 80 [.vec (.par 0) 1 0 l.length,(.fn 81 [] [.ptr (.par 1) 0])] (laid 0 (.arr 3 1 (l.map intP)::hdB hs 1)) (fun x B=>x=.vec (.par 0) 1 0 (l.filter (fun n=>!(fun n=>!H n) n)).length∧∃X:List Int,X.take (l.filter (fun n=>!(fun n=>!H n) n)).length=l.filter (fun n=>!(fun n=>!H n) n)∧B=laid 0 (.arr 3 1 (X.map intP)::hdB hs 1)):=by
 have hC:=ixH H hs hH l hl hin;refine cBR [.par 0,.par 1,.par 2] L80 ?_;intro R hR;simp[-getElem?_pos,L80,hdB,laid];refine cM [.vec (.par 0) 1 0 l.length,(.fn 81 [] [.ptr (.par 1) 0])] (laid 0 (.arr 3 1 (l.map intP)::hdB hs 1)) 10 [.par 0,.par 1,.par 2] (by simp[hdB,laid]) hC (by simp[hdB,laid]) ?_;cases hx:l.findIdx? (fun n=>!H n)with
 |none=>
  have hfl:=ZjO hx;simp[-getElem?_pos,hdB,laid,ixI];rw[←hR,hfl];exact⟨rfl,l,by simp,by simp[hdB,laid]⟩
 |some i=>
  obtain⟨hi,hti⟩:=Znl hx;have hw1:=wrapK (k:=i) (by omega);have hni:¬((i:Int) = -1):=by omega
  clear hC;simp[-getElem?_pos,hdB,laid,ixI,hw1,hni];refine Zae (fun n τ=>∃(j:Nat) (X K:List Int),j≤l.length∧n=l.length-j∧X.length=l.length∧K=(l.take j).filter (fun n=>!(fun n=>!H n) n)∧X.take K.length=K∧X.drop j=l.drop j∧K.length<j∧τ=⟨[(0,.vec (.par 0) 1 0 l.length),(1,(.fn 81 [] [.ptr (.par 1) 0])),(5,.pv (.int .i64 K.length)),(6,.pv (.int .i64 j))],laid 0 (.arr 3 1 (X.map intP)::hdB hs 1)⟩)
   ⟨l.length-(i+1),⟨[(0,.vec (.par 0) 1 0 l.length),(1,(.fn 81 [] [.ptr (.par 1) 0])),(5,.pv (.int .i64 i)),(6,.pv (.int .i64 (i+1:Nat)))],laid 0 (.arr 3 1 (l.map intP)::hdB hs 1)⟩,Sub.mk (by simp) (by simp[hdB,laid]),i+1,l,l.take i,by omega,rfl,rfl,hti,by simp,rfl,by rw[Zt6];omega,by rw[Zt6,ZuB (by omega)]⟩ ?_
  clear hx hw1 hni hti;rintro J hJ n τ ⟨j,X,K,hj,rfl,hXl,hKe,hXt,hXd,hKj,rfl⟩;by_cases hlt:j<l.length
  ·obtain⟨r,hxr⟩:∃x,l[j]?=some x:=⟨l[j],Zt3 hlt⟩;have hXr:X[j]?=some r:=by
    have h1:(X.drop j)[0]?=(l.drop j)[0]?:=by rw[hXd]
    rw[Zur,Zur,Nat.add_zero]at h1;rw[h1];exact hxr
   have hg:(X.map intP)[j]?=some (.int .i64 r):=by rw[Zt4,hXr];rfl
   have hw:=wrapK (k:=j) (by omega);have hw2:=wrapK (k:=K.length) (by omega);have hmeas:l.length-(j+1)<l.length-j:=by omega
   have hC:=predH H hs hH r (hin r (Zua hxr));have hdn:X.drop (j+1)=l.drop (j+1):=by
    have:=congrArg List.tail hXd
    simpa[List.tail_drop]using this
   have hKl:K.length<X.length:=by omega
   have htn:(l.take (j+1)).filter (fun n=>!(fun n=>!H n) n)=K++(if(!(fun n=>!H n) r)=true then[r]else[]):=by
    rw[Zuf,hxr,ZuV,←hKe];congr 1;simp only[Option.toList,ZuN,List.filter_nil]
   have hset:∀Y,Y=X.set K.length r→(fun n=>!H n) r=false→J (l.length-(j+1)) ⟨[(0,.vec (.par 0) 1 0 l.length),(1,(.fn 81 [] [.ptr (.par 1) 0])),(5,.pv (.int .i64 (K.length+1:Nat))),(6,.pv (.int .i64 (j+1:Nat)))],laid 0 (.arr 3 1 (Y.map intP)::hdB hs 1)⟩:=fun Y hY hn=>hJ _ _ ⟨j+1,Y,K++[r],hlt,rfl,by rw[hY,List.length_set];exact hXl,by rw[htn,if_pos (by simp[hn])],by
    rw[hY,Zt9];show List.take (K.length+1) _=_;rw[Zuf,List.getElem?_set_self hKl,List.take_set_of_le (Zue _),hXt];rfl,by rw[hY,List.drop_set_of_lt (by omega)];exact hdn,by simp;omega,by simp⟩
   have hgot:(fun n=>!H n) r=true→J (l.length-(j+1)) ⟨[(0,.vec (.par 0) 1 0 l.length),(1,(.fn 81 [] [.ptr (.par 1) 0])),(5,.pv (.int .i64 K.length)),(6,.pv (.int .i64 (j+1:Nat)))],laid 0 (.arr 3 1 (X.map intP)::hdB hs 1)⟩:=fun hn=>hJ _ _ ⟨j+1,X,K,hlt,rfl,hXl,by rw[htn,if_neg (by simp[hn]),Zut],hXt,hdn,by omega,rfl⟩
   clear hJ;have hKn:K.length<l.length:=by omega
   have hlt2:j<X.length:=by omega
   have hKx:(X.map intP)[K.length]?=some (.int .i64 X[K.length]):=by rw[Zt4,Zt3 hKl];rfl
   have hst:=Zo9 (X:=X) (w:=K.length) (r:=r);simp[-getElem?_pos,-List.getElem?_map,hdB,laid,hlt,hg,hXl,nblt,nble];refine cM [.pv (.int .i64 r),.ptr (.par 0) 0] (laid 0 (hdB hs 0)) 28 [.par 1,.par 2] (by simp[hdB,laid]) hC (by simp[hdB,laid]) ?_;cases hgv:(fun n=>!H n) r with
   |false=>
    have hround:=hset _ rfl hgv;have hgv':(!H r)=false:=hgv;simp[-getElem?_pos,-List.getElem?_map,hdB,laid,hgv',hw,hw2,hKn,hKx,hst,nblt,nble,setAt];refine⟨_,_,hmeas,Sub.mk ?_ ?_,hround⟩
    ·simp
    ·simp[hdB,laid]
   |true=>
    have hround:=hgot hgv;have hgv':(!H r)=true:=hgv;simp[-getElem?_pos,-List.getElem?_map,hdB,laid,hgv',hw];refine⟨_,_,hmeas,Sub.mk ?_ ?_,hround⟩
    ·simp
    ·simp[hdB,laid]
  ·have he:j=l.length:=by omega
   subst he;rw[Zus]at hKe;clear hJ;have hK2:K.length≤l.length:=by omega
   have hKs:K.length+(l.length-K.length)=l.length:=by omega
   have hsp:splice (X.map intP) K.length (List.replicate (l.length-K.length) (PV.int .i64 0))=(K++List.replicate (l.length-K.length) 0).map intP:=by
    unfold splice;rw[List.length_replicate,hKs,List.drop_eq_nil_of_le (by simp;omega),Zut,←List.map_take,hXt,Zuw,List.map_replicate];rfl
   simp[-getElem?_pos,-List.getElem?_map,-splice,hdB,laid,nblt,nble,hK2,hKs,hXl,hsp];rw[←hR,←hKe];exact⟨rfl,K++List.replicate (l.length-K.length) 0,by simp,by simp[hdB,laid]⟩
theorem del0H (hs:List (PV×PV)):Zak Tryz.prog 80 [.pv (.lst false 1 []),(.fn 81 [] [.ptr (.par 0) 0])] (laid 0 (hdB hs 0)) (fun x B=>x=.pv (.lst false 1 [])∧B=laid 0 (hdB hs 0)):=by
 have hC:Zak Tryz.prog 113 [.pv (.lst false 1 []),(.fn 81 [] [.ptr (.par 0) 0])] (laid 0 (hdB hs 0)) (fun x B=>x=.pv (.int .i64 (-1))∧B=laid 0 (hdB hs 0)):=by
  refine cB [.par 0,.par 1] L113 ?_;simp[-getElem?_pos,L113,hdB,laid];refine Zae (fun n τ=>n=0∧τ=⟨[(0,.pv (.lst false 1 [])),(1,(.fn 81 [] [.ptr (.par 0) 0])),(7,.pv (.int .i64 0)),(8,.pv (.int .i64 0))],laid 0 (hdB hs 0)⟩) ⟨0,⟨[(0,.pv (.lst false 1 [])),(1,(.fn 81 [] [.ptr (.par 0) 0])),(7,.pv (.int .i64 0)),(8,.pv (.int .i64 0))],laid 0 (hdB hs 0)⟩,Sub.mk (by simp) (by simp[hdB,laid]),rfl,rfl⟩ ?_;rintro J hJ n τ ⟨rfl,rfl⟩;simp[-getElem?_pos,hdB,laid]
 refine cB [.par 0,.par 1] L80 ?_;simp[-getElem?_pos,L80,hdB,laid];refine cM [.pv (.lst false 1 []),(.fn 81 [] [.ptr (.par 0) 0])] (laid 0 (hdB hs 0)) 10 [.par 0,.par 1] (by simp[hdB,laid]) hC (by simp[hdB,laid]) ?_;simp[-getElem?_pos,hdB,laid]
end
end
section
open Go.RowKit
set_option maxRecDepth 10000
section
attribute [local simp] Box.purge Site.isLoc
theorem Zpc (l:List Int)(n:Int)(hl:l.length≤1000000):Gives Tryz.prog 114 [.lst false 1 (l.map iP),.int .i64 n] (.int .i64 (match l.findIdx? (fun y=>decide (n=y))with|some i=>i|none=>-1)):=by
 refine cS L114 ?_;simp[L114];refine Zae (fun m τ=>∃k:Nat,k≤l.length∧m=l.length-k∧(∀(j:Nat) (x:Int),j<k→l[j]?=some x→(fun y=>decide (n=y)) x=false)∧τ=⟨[(0,.pv (.lst false 1 (l.map iP))),(1,.pv (.int .i64 n)),(7,.pv (.int .i64 l.length)),(8,.pv (.int .i64 k))],[]⟩)
  ⟨l.length,_,Sub.mk (by simp) (by simp),0,by omega,rfl,(fun j x hj=>by omega),rfl⟩ ?_
 rintro J hJ m τ ⟨k,hk,rfl,hinv,rfl⟩;by_cases hlt:k<l.length
 ·obtain⟨z,hz⟩:∃x,l[k]?=some x:=⟨l[k],Zt3 hlt⟩;have hg:(l.map iP)[k]?=some (.int .i64 z):=by rw[Zt4,hz];rfl
  have hw:IntKind.i64.wrap ((k:Int)+1)=((k+1:Nat):Int):=by rw[wrap64 (by omega)];omega
  by_cases hb:n=z
  ·have hf:l.findIdx? (fun y=>decide (n=y))=some k:=ZiS hz (by simpa using hb) hinv;simp[-getElem?_pos,-List.getElem?_map,hlt,hg,nblt,hb];rw[hb]at hf;rw[hf]
  ·simp[-getElem?_pos,-List.getElem?_map,hlt,hg,nblt,hb,hw];exact⟨_,_,(by omega:l.length-(k+1)<l.length-k),Sub.mk (by simp) (by simp),hJ _ _ ⟨k+1,by omega,rfl,fun j x hj hjx=>by
    rcases ZuW.1 hj with h|h
    ·exact hinv j x h hjx
    ·subst h;rw[hz]at hjx;cases hjx;simpa using hb,rfl⟩⟩
 ·have he:k=l.length:=by omega
  subst he;have hf:l.findIdx? (fun y=>decide (n=y))=none:=Znm hinv;simp[-getElem?_pos,hf]
theorem Zsn (l:List Int)(n:Int)(hl:l.length≤1000000):Gives Tryz.prog 84 [.lst false 1 (l.map iP),.int .i64 n] (.bool (l.contains n)):=by
 refine cS L84 ?_;simp[-getElem?_pos,L84];refine cG [.lst false 1 (l.map iP),.int .i64 n] (Zpc l n hl) ?_;cases h:l.findIdx? (fun y=>decide (n=y))with
 |none=>
  rw[ZuU]at h;have hn:n∉l:=fun hm=>by have:=h n hm;simp at this
  simp[-getElem?_pos,hn]
 |some i=>
  obtain⟨h1,h2,_⟩:=ZuT.1 h;have hm:n∈l:=by
   have:n=l[i]:=by simpa using h2
   rw[this];exact ZuJ h1
  have h0:(0:Int)≤(i:Int):=by omega
  simp[-getElem?_pos,hm,h0]
end
attribute [local simp] AS.exp expG Box.ren AV.map AV.mapL Zau noRet Site.isRet Box.allS AV.allS AV.allSL retB dropL AS.adds renL outG outOk Zas inG fnOf lookA Zuq
attribute [local simp] Box.purge Site.isLoc
theorem Zsm {X:List Ct}{w:Nat}{r:Ct}:(X.map Ct.pv).set w r.pv=(X.set w r).map Ct.pv:=by rw[List.map_set]
theorem Zly {α:Type}{l:List α}{k:Nat}{x:α}{p:α→Bool}(h:l[k]?=some x)(hp:p x=true)(hinv:∀(j:Nat) (y:α),j<k→l[j]?=some y→p y=false):l.findIdx? p=some k:=by
 obtain⟨hlt,e⟩:=Zt5.1 h;rw[ZuT];refine⟨hlt,by rw[e];exact hp,fun j hj=>?_⟩
 have:=hinv j l[j] hj (Zt3 (by omega))
 simp[this]
theorem Zpm {α:Type}{l:List α}{p:α→Bool}(hinv:∀(j:Nat) (y:α),j<l.length→l[j]?=some y→p y=false):l.findIdx? p=none:=by
 rw[ZuU];intro x hx;obtain⟨j,hj⟩:=Zui.1 hx;exact hinv j x (Zt5.1 hj).1 hj
theorem Zlx {α:Type}{l:List α}{p:α→Bool}{i:Nat}(h:l.findIdx? p=some i):i<l.length∧l.take i=(l.take (i+1)).filter (fun n=>!p n):=by
 obtain⟨h1,h2,h3⟩:=ZuT.1 h;refine⟨h1,?_⟩;rw[Zuf,Zt3 h1,ZuV];have e:(Option.some l[i]).toList.filter (fun n=>!p n)=[]:=by simp[h2]
 rw[e,Zut,List.filter_eq_self.2];intro x hx;obtain⟨j,hj⟩:=Zui.1 hx;rw[Zuj]at hj;split at hj
 ·rename_i hji;obtain⟨q1,q2⟩:=Zt5.1 hj
  have:=h3 j hji
  rw[q2]at this;simpa using this
 ·cases hj
theorem ZiU {α:Type}{l:List α}{p:α→Bool}(h:l.findIdx? p=none):l.filter (fun n=>!p n)=l:=by
 rw[List.filter_eq_self];intro x hx
 have:=ZuU.1 h x hx
 simp[this]
def rgB (W:Box)(m:Nat):List Box:=[.cells [.ptr (.par (m+1)) 0],W]
def zCt:Ct:=⟨0,0,0,0,0,⟨0,0⟩⟩
def badP (bad:List Int)(x:Ct):Bool:=bad.contains x.num
theorem predR (a c d e:PV)(bad:List Int)(hb:bad.length≤1000)(x:Ct):Zak Tryz.prog 83 [.pv x.pv,.ptr (.par 0) 0] (laid 0 (rgB (wkX a (.lst false 1 (bad.map iP)) c d e) 0)) (fun r B=>r=.pv (.bool (badP bad x))∧B=laid 0 (rgB (wkX a (.lst false 1 (bad.map iP)) c d e) 0)):=by
 have hc:=Zsn bad x.num (by omega);refine cB [.par 0,.par 1] L83 ?_;simp[-getElem?_pos,L83,rgB,laid,wkX,Ct.pv];refine cG [.lst false 1 (bad.map iP),.int .i64 x.num] hc ?_;simp[-getElem?_pos,badP]
section
theorem ixC (a c d e:PV)(bad:List Int)(hb:bad.length≤1000)(l:List Ct)(hl:l.length≤1000):
  Zak Tryz.prog 101 [.vec (.par 0) 7 0 l.length,(.fn 83 [] [.ptr (.par 1) 0])] (laid 0 (.arr 83 7 (l.map Ct.pv)::rgB (wkX a (.lst false 1 (bad.map iP)) c d e) 1)) (fun x B=>x=.pv (.int .i64 (ixI (l.findIdx? (badP bad))))∧B=laid 0 (.arr 83 7 (l.map Ct.pv)::rgB (wkX a (.lst false 1 (bad.map iP)) c d e) 1)):=by
 refine cBR [.par 0,.par 1,.par 2] L101 ?_;intro R hR;simp[-getElem?_pos,L101,rgB,laid,wkX];refine Zae (fun n τ=>∃k:Nat,k≤l.length∧n=l.length-k∧(∀(j:Nat) (y:Ct),j<k→l[j]?=some y→(badP bad) y=false)∧τ=⟨[(0,.vec (.par 0) 7 0 l.length),(1,(.fn 83 [] [.ptr (.par 1) 0])),(7,.pv (.int .i64 l.length)),(8,.pv (.int .i64 k))],laid 0 (.arr 83 7 (l.map Ct.pv)::rgB (wkX a (.lst false 1 (bad.map iP)) c d e) 1)⟩)
  ⟨l.length,⟨[(0,.vec (.par 0) 7 0 l.length),(1,(.fn 83 [] [.ptr (.par 1) 0])),(7,.pv (.int .i64 l.length)),(8,.pv (.int .i64 0))],laid 0 (.arr 83 7 (l.map Ct.pv)::rgB (wkX a (.lst false 1 (bad.map iP)) c d e) 1)⟩,Sub.mk (by simp) (by simp[rgB,laid,wkX]),0,Zud _,rfl,(fun j y hj=>by omega),rfl⟩ ?_
 rintro J hJ n τ ⟨k,hk,rfl,hinv,rfl⟩;by_cases hlt:k<l.length
 ·obtain⟨r,hx⟩:∃x,l[k]?=some x:=⟨l[k],Zt3 hlt⟩;have hg:(l.map Ct.pv)[k]?=some r.pv:=by rw[Zt4,hx];rfl
  simp only[Ct.pv]at hg;have hw:=wrapK (k:=k) (by omega);have hmeas:l.length-(k+1)<l.length-k:=by omega
  have hC:=predR a c d e bad hb r;have hnext:(badP bad) r=false→J (l.length-(k+1)) _:=fun hn=>hJ _ _ ⟨k+1,hlt,rfl,(fun j y hj hy=>by
   rcases ZuW.1 hj with h|h
   ·exact hinv j y h hy
   ·subst h;rw[hx]at hy;cases hy;exact hn),rfl⟩
  clear hJ;simp[-getElem?_pos,-List.getElem?_map,rgB,laid,wkX,hlt,hg,nblt,nble];refine cM [.pv r.pv,.ptr (.par 0) 0] (laid 0 (rgB (wkX a (.lst false 1 (bad.map iP)) c d e) 0)) 16 [.par 1,.par 2] (by simp[rgB,laid,wkX]) hC (by simp[rgB,laid,wkX]) ?_;cases hgv:(badP bad) r with
  |false=>
   have hround:=hnext hgv;have hgv':(badP bad r)=false:=hgv;simp[-getElem?_pos,-List.getElem?_map,rgB,laid,wkX,hw,hgv'];refine⟨_,_,hmeas,Sub.mk ?_ ?_,hround⟩
   ·simp
   ·simp[rgB,laid,wkX]
  |true=>
   have hf:=Zly hx hgv hinv;have hgv':(badP bad r)=true:=hgv;simp[-getElem?_pos,-List.getElem?_map,rgB,laid,wkX,hgv'];rw[←hR,hf];simp[rgB,laid,wkX,ixI]
 ·have he:k=l.length:=by omega
  subst he;have hf:=Zpm hinv;clear hJ;simp[-getElem?_pos,-List.getElem?_map,rgB,laid,wkX];rw[←hR,hf];simp[rgB,laid,wkX,ixI]
set_option maxHeartbeats 8000000 in
theorem delC (a c d e:PV)(bad:List Int)(hb:bad.length≤1000)(l:List Ct)(hl:l.length≤1000):
  Zak Tryz.prog 82 [.vec (.par 0) 7 0 l.length,(.fn 83 [] [.ptr (.par 1) 0])] (laid 0 (.arr 83 7 (l.map Ct.pv)::rgB (wkX a (.lst false 1 (bad.map iP)) c d e) 1)) (fun x B=>x=.vec (.par 0) 7 0 (l.filter (fun n=>!badP bad n)).length∧∃X:List Ct,X.take (l.filter (fun n=>!badP bad n)).length=l.filter (fun n=>!badP bad n)∧B=laid 0 (.arr 83 7 (X.map Ct.pv)::rgB (wkX a (.lst false 1 (bad.map iP)) c d e) 1)):=by
 have hC:=ixC a c d e bad hb l hl;refine cBR [.par 0,.par 1,.par 2] L82 ?_;intro R hR;simp[-getElem?_pos,L82,rgB,laid,wkX];refine cM [.vec (.par 0) 7 0 l.length,(.fn 83 [] [.ptr (.par 1) 0])] (laid 0 (.arr 83 7 (l.map Ct.pv)::rgB (wkX a (.lst false 1 (bad.map iP)) c d e) 1)) 10 [.par 0,.par 1,.par 2] (by simp[rgB,laid,wkX]) hC (by simp[rgB,laid,wkX]) ?_;cases hx:l.findIdx? (badP bad)with
 |none=>
  have hfl:=ZiU hx;simp[-getElem?_pos,rgB,laid,wkX,ixI];rw[←hR,hfl];exact⟨rfl,l,by simp,by simp[rgB,laid,wkX]⟩
 |some i=>
  obtain⟨hi,hti⟩:=Zlx hx;have hw1:=wrapK (k:=i) (by omega);have hni:¬((i:Int) = -1):=by omega
  clear hC;simp[-getElem?_pos,rgB,laid,wkX,ixI,hw1,hni];refine Zae (fun n τ=>∃(j:Nat) (X K:List Ct),j≤l.length∧n=l.length-j∧X.length=l.length∧K=(l.take j).filter (fun n=>!badP bad n)∧X.take K.length=K∧X.drop j=l.drop j∧K.length<j∧τ=⟨[(0,.vec (.par 0) 7 0 l.length),(1,(.fn 83 [] [.ptr (.par 1) 0])),(5,.pv (.int .i64 K.length)),(6,.pv (.int .i64 j))],laid 0 (.arr 83 7 (X.map Ct.pv)::rgB (wkX a (.lst false 1 (bad.map iP)) c d e) 1)⟩)
   ⟨l.length-(i+1),⟨[(0,.vec (.par 0) 7 0 l.length),(1,(.fn 83 [] [.ptr (.par 1) 0])),(5,.pv (.int .i64 i)),(6,.pv (.int .i64 (i+1:Nat)))],laid 0 (.arr 83 7 (l.map Ct.pv)::rgB (wkX a (.lst false 1 (bad.map iP)) c d e) 1)⟩,Sub.mk (by simp) (by simp[rgB,laid,wkX]),i+1,l,l.take i,by omega,rfl,rfl,hti,by simp,rfl,by rw[Zt6];omega,by rw[Zt6,ZuB (by omega)]⟩ ?_
  clear hx hw1 hni hti;rintro J hJ n τ ⟨j,X,K,hj,rfl,hXl,hKe,hXt,hXd,hKj,rfl⟩;by_cases hlt:j<l.length
  ·obtain⟨r,hxr⟩:∃x,l[j]?=some x:=⟨l[j],Zt3 hlt⟩;have hXr:X[j]?=some r:=by
    have h1:(X.drop j)[0]?=(l.drop j)[0]?:=by rw[hXd]
    rw[Zur,Zur,Nat.add_zero]at h1;rw[h1];exact hxr
   have hg:(X.map Ct.pv)[j]?=some r.pv:=by rw[Zt4,hXr];rfl
   simp only[Ct.pv]at hg;have hw:=wrapK (k:=j) (by omega);have hw2:=wrapK (k:=K.length) (by omega);have hmeas:l.length-(j+1)<l.length-j:=by omega
   have hC:=predR a c d e bad hb r;have hdn:X.drop (j+1)=l.drop (j+1):=by
    have:=congrArg List.tail hXd
    simpa[List.tail_drop]using this
   have hKl:K.length<X.length:=by omega
   have htn:(l.take (j+1)).filter (fun n=>!badP bad n)=K++(if(!(badP bad) r)=true then[r]else[]):=by
    rw[Zuf,hxr,ZuV,←hKe];congr 1;simp only[Option.toList,ZuN,List.filter_nil]
   have hset:∀Y,Y=X.set K.length r→(badP bad) r=false→J (l.length-(j+1)) ⟨[(0,.vec (.par 0) 7 0 l.length),(1,(.fn 83 [] [.ptr (.par 1) 0])),(5,.pv (.int .i64 (K.length+1:Nat))),(6,.pv (.int .i64 (j+1:Nat)))],laid 0 (.arr 83 7 (Y.map Ct.pv)::rgB (wkX a (.lst false 1 (bad.map iP)) c d e) 1)⟩:=fun Y hY hn=>hJ _ _ ⟨j+1,Y,K++[r],hlt,rfl,by rw[hY,List.length_set];exact hXl,by rw[htn,if_pos (by simp[hn])],by
    rw[hY,Zt9];show List.take (K.length+1) _=_;rw[Zuf,List.getElem?_set_self hKl,List.take_set_of_le (Zue _),hXt];rfl,by rw[hY,List.drop_set_of_lt (by omega)];exact hdn,by simp;omega,by simp⟩
   have hgot:(badP bad) r=true→J (l.length-(j+1)) ⟨[(0,.vec (.par 0) 7 0 l.length),(1,(.fn 83 [] [.ptr (.par 1) 0])),(5,.pv (.int .i64 K.length)),(6,.pv (.int .i64 (j+1:Nat)))],laid 0 (.arr 83 7 (X.map Ct.pv)::rgB (wkX a (.lst false 1 (bad.map iP)) c d e) 1)⟩:=fun hn=>hJ _ _ ⟨j+1,X,K,hlt,rfl,hXl,by rw[htn,if_neg (by simp[hn]),Zut],hXt,hdn,by omega,rfl⟩
   clear hJ;have hKn:K.length<l.length:=by omega
   have hlt2:j<X.length:=by omega
   have hKx:(X.map Ct.pv)[K.length]?=some X[K.length].pv:=by rw[Zt4,Zt3 hKl];rfl
   have hst:=Zsm (X:=X) (w:=K.length) (r:=r);simp[-getElem?_pos,-List.getElem?_map,rgB,laid,wkX,hlt,hg,hXl,nblt,nble];refine cM [.pv r.pv,.ptr (.par 0) 0] (laid 0 (rgB (wkX a (.lst false 1 (bad.map iP)) c d e) 0)) 28 [.par 1,.par 2] (by simp[rgB,laid,wkX]) hC (by simp[rgB,laid,wkX]) ?_;cases hgv:(badP bad) r with
   |false=>
    have hround:=hset _ rfl hgv;have hgv':(badP bad r)=false:=hgv;simp[-getElem?_pos,-List.getElem?_map,rgB,laid,wkX,hgv',hw,hw2,hKn,hKx,hst,nblt,nble,setAt];refine⟨_,_,hmeas,Sub.mk ?_ ?_,hround⟩
    ·simp[hw,hw2]
    ·simp[rgB,laid,wkX,Ct.pv]
   |true=>
    have hround:=hgot hgv;have hgv':(badP bad r)=true:=hgv;simp[-getElem?_pos,-List.getElem?_map,rgB,laid,wkX,hgv',hw];refine⟨_,_,hmeas,Sub.mk ?_ ?_,hround⟩
    ·simp
    ·simp[rgB,laid,wkX]
  ·have he:j=l.length:=by omega
   subst he;rw[Zus]at hKe;clear hJ;have hK2:K.length≤l.length:=by omega
   have hKs:K.length+(l.length-K.length)=l.length:=by omega
   have hsp:splice (X.map Ct.pv) K.length (List.replicate (l.length-K.length) zCt.pv)=(K++List.replicate (l.length-K.length) zCt).map Ct.pv:=by
    unfold splice;rw[List.length_replicate,hKs,List.drop_eq_nil_of_le (by simp;omega),Zut,←List.map_take,hXt,Zuw,List.map_replicate]
   simp[-getElem?_pos,-List.getElem?_map,-splice,rgB,laid,wkX,nblt,nble,hK2,hKs,hXl,hsp];rw[←hR,←hKe];exact⟨rfl,K++List.replicate (l.length-K.length) zCt,by simp,by
    simp[rgB,laid,wkX];rw[←List.map_take,hXt,hKs,List.drop_eq_nil_of_le (by simp;omega)];simp[zCt,Ct.pv]⟩
theorem del0C (a b c d e:PV):Zak Tryz.prog 82 [.pv (.lst false 7 []),(.fn 83 [] [.ptr (.par 0) 0])] (laid 0 (rgB (wkX a b c d e) 0)) (fun x B=>x=.pv (.lst false 7 [])∧B=laid 0 (rgB (wkX a b c d e) 0)):=by
 have hC:Zak Tryz.prog 101 [.pv (.lst false 7 []),(.fn 83 [] [.ptr (.par 0) 0])] (laid 0 (rgB (wkX a b c d e) 0)) (fun x B=>x=.pv (.int .i64 (-1))∧B=laid 0 (rgB (wkX a b c d e) 0)):=by
  refine cB [.par 0,.par 1] L101 ?_;simp[-getElem?_pos,L101,rgB,laid,wkX];refine Zae (fun n τ=>n=0∧τ=⟨[(0,.pv (.lst false 7 [])),(1,(.fn 83 [] [.ptr (.par 0) 0])),(7,.pv (.int .i64 0)),(8,.pv (.int .i64 0))],laid 0 (rgB (wkX a b c d e) 0)⟩) ⟨0,⟨[(0,.pv (.lst false 7 [])),(1,(.fn 83 [] [.ptr (.par 0) 0])),(7,.pv (.int .i64 0)),(8,.pv (.int .i64 0))],laid 0 (rgB (wkX a b c d e) 0)⟩,Sub.mk (by simp) (by simp[rgB,laid,wkX]),rfl,rfl⟩ ?_;rintro J hJ n τ ⟨rfl,rfl⟩;simp[-getElem?_pos,rgB,laid,wkX]
 refine cB [.par 0,.par 1] L82 ?_;simp[-getElem?_pos,L82,rgB,laid,wkX];refine cM [.pv (.lst false 7 []),(.fn 83 [] [.ptr (.par 0) 0])] (laid 0 (rgB (wkX a b c d e) 0)) 10 [.par 0,.par 1] (by simp[rgB,laid,wkX]) hC (by simp[rgB,laid,wkX]) ?_;simp[-getElem?_pos,rgB,laid,wkX]
end
end
section
open Go.RowKit
def wkF:Nat→PV→PV→Bool
 |0,_,_=>false
 |n+1,x,y=>match x,y with
  |.emp _,.lst nn _ l=>!nn&&l.isEmpty
  |.agg a,.agg b=>decide (a.length=b.length)&&(a.zip b).all fun p=>wkF n p.1 p.2
  |.tup a,.tup b=>decide (a.length=b.length)&&(a.zip b).all fun p=>wkF n p.1 p.2
  |.lst nn k a,.lst nn' k' b=>decide (nn=nn')&&decide (k=k')&&decide (a.length=b.length)&&(b.all fun c=>decide (c.cells.length=k))&&(a.zip b).all fun p=>(p.1.cells.zip p.2.cells).all fun p=>wkF n p.1 p.2
  |x,y=>PV.beq x y
theorem Zhu {α:Type}{a b:List α}{j:Nat}{x y:α}(h1:a[j]?=some x)(h2:b[j]?=some y):(x,y)∈a.zip b:=by
 refine Zui.2 ⟨j,?_⟩;rw[List.getElem?_zip_eq_some];exact⟨h1,h2⟩
theorem ZbW:∀(n:Nat) (x y:PV),wkF n x y=true→∀(m:Mem) (v:Value),RdP m v x→RdP m v y
 |0,_,_,h=>by cases h
 |n+1,x,y,h=>by
  intro m v hr;unfold wkF at h;split at h
  ·rename_i nl nn k l;simp only[Zt7,Bool.not_eq_true']at h;obtain⟨h1,h2⟩:=h;cases l with
   |nil=>subst h1;exact Zbz hr
   |cons a l=>cases h2
  ·rename_i a b;simp only[Zt7,decide_eq_true_eq,Zuo]at h;exact ZtV h.1 (fun j c c' d h1 h2 hd=>ZbW n c c' (h.2 _ (Zhu h1 h2)) m d hd) hr
  ·rename_i a b;simp only[Zt7,decide_eq_true_eq,Zuo]at h;exact ZlY h.1 (fun j c c' d h1 h2 hd=>ZbW n c c' (h.2 _ (Zhu h1 h2)) m d hd) hr
  ·rename_i nn k a nn' k' b;simp only[Zt7,decide_eq_true_eq,Zuo]at h;obtain⟨⟨⟨⟨rfl,rfl⟩,h1⟩,h2⟩,h3⟩:=h;exact Zto h1 (fun j c hc=>h2 c (Zua hc)) (fun j c c' i d x x' k1 k2 k3 k4 hd=>ZbW n x x' (h3 _ (Zhu k1 k2) _ (Zhu k3 k4)) m d hd) hr
  ·rename_i x y _ _ _ _;rw[←PV.beq_eq _ _ h];exact hr
end
section
open Go.RowKit
set_option maxRecDepth 10000
attribute [local simp] AS.exp expG Box.ren AV.map AV.mapL Zau noRet Site.isRet Box.allS AV.allS AV.allSL retB dropL AS.adds renL outG outOk Zas inG fnOf lookA Zuq
attribute [local simp] Box.purge Site.isLoc
attribute [local simp] retFz frzL AS.frz AV.frz AV.frzL Box.frz AS.tidy AS.frzC frzsL retOk renB toLoc
def ZbN:List It:=[⟨0,true,⟨0,0⟩⟩,⟨0,true,⟨-2,2⟩⟩,⟨1,false,⟨0,0⟩⟩,⟨1,false,⟨0,0⟩⟩,⟨0,false,⟨0,0⟩⟩,⟨0,false,⟨0,0⟩⟩]
def ZiM:PV:=.lst false 1 [.lst false 2 [.agg [.int .i64 10,.int .i64 13]],.lst false 2 []]
theorem ZjF:Gives Tryz.prog 85 [] (itsP ZbN):=by
 refine cF [.loc 8 0] L85 ?_;simp[-getElem?_pos,L85,itsP,ZbN,It.pv,nble,setAt]
theorem Zfd:Gives Tryz.prog 90 [] ZiM:=by
 refine Zak.weak2 ?_;refine cF [.loc 3 0] L90 ?_;simp[-getElem?_pos,L90,nble];exact ZbW 5 _ _ rfl
theorem ZqZ (l:List Ct)(b c d e:PV):Zak Tryz.prog 176 [.ptr (.par 0) 0] [(.par 0,wkX (ctsP l) b c d e)] (fun r B=>r=.pv (Bk.pv ⟨ZbN,l⟩)∧B=[(.par 0,wkX (ctsP l) b c d e)]):=by
 refine cB [.par 0] L176 ?_;simp[-getElem?_pos,L176,wkX,ctsP];refine cQ [] [] ZjF ?_;simp[-getElem?_pos,Bk.pv,ctsP,itsP]
theorem Zmz (l:List PV)(a b c d:PV):Zak Tryz.prog 53 [.ptr (.par 0) 0] [(.par 0,wkX a b c d (.lst false 3 l))] (fun r B=>r=.pv (.agg [ZiM,.lst false 3 l])∧B=[(.par 0,wkX a b c d (.lst false 3 l))]):=by
 refine cB [.par 0] L53 ?_;simp[-getElem?_pos,L53,wkX];refine cQ [] [] Zfd ?_;simp[-getElem?_pos,ZiM]
end
section
open Go.RowKit
set_option maxRecDepth 10000
attribute [local simp] AS.exp expG Box.ren AV.map AV.mapL Zau noRet Site.isRet Box.allS AV.allS AV.allSL retB dropL AS.adds renL outG outOk Zas inG fnOf lookA Zuq
attribute [local simp] Box.purge Site.isLoc
attribute [local simp] ZaD Zay Zam ZaB
section
end
end
section
open Go.RowKit
set_option maxRecDepth 10000
theorem ZjI {b:Bk}(hb:b.ok){bad:List Int}:b.nums.filter (fun n=>(b.held bad).contains n)=b.held bad:=by
 refine ZjG (Zbw.filter _) (Zfy 1000).1 (fun x=>?_);rw[Zum,ZuC];exact⟨fun h=>h.2,fun h=>⟨ZiQ hb h,h⟩⟩
attribute [local irreducible] Bk.held Bk.nums
def Bk.heldM (b:Bk)(bad:List Int):List Int×Int:=if b.fault=0 then(if areB bad=true then(b.held bad,0)else([],2))else([],b.fault)
def lstE (x:List Int×Int):PV:=.tup [.lst false 1 (x.1.map intP),.int .i64 x.2]
theorem Zfe {e:Int}{l:List Int×Int}(h:l=([],e)):∀m v,RdP m v (.tup [.emp (some true),.int .i64 e])→RdP m v (lstE l):=by
 subst h;intro m v hv;refine ZlY (cs:=[.emp (some true),.int .i64 e]) (cs':=[.lst false 1 [],.int .i64 e]) rfl ?_ hv;intro j c c' d h1 h2 hr
 match j with
 |0=>simp at h1 h2;subst h1 h2;exact Zbz hr
 |1=>simp at h1 h2;subst h1 h2;exact hr
 |j+2=>simp at h1
attribute [local simp] AS.exp expG Box.ren AV.map AV.mapL Zau noRet Site.isRet Box.allS AV.allS AV.allSL retB dropL AS.adds renL outG outOk Zas inG fnOf lookA Zuq
attribute [local simp] Box.purge Site.isLoc
attribute [local simp] ZaD Zay Zam ZaB Za4
attribute [local simp] retFz frzL AS.frz AV.frz AV.frzL Box.frz AS.tidy AS.frzC
set_option maxHeartbeats 16000000 in
theorem Zt0 (b:Bk)(hi:b.items.length≤1000)(hc:b.certs.length≤1000)(bad:List Int)(hbl:bad.length≤1000):Zak Tryz.prog 49 [.pv b.pv,.pv (.lst false 1 (bad.map intP))] [] (fun r B=>r=.pv (lstE (b.heldM bad))∧B=[]):=by
 have hr:=ZlP b hi hc bad hbl;refine Zak.weak2 ?_;refine cFR [.loc 24 0] L49 ?_;intro R hR;simp[-getElem?_pos,L49,Bk.pv];refine cL [.pv b.pv,.pv (.lst false 1 (bad.map intP))] [] 12 [] rfl hr ?_
 rintro r0 B0 (⟨h0,rfl,rfl⟩|⟨h0,h1,rfl,rfl⟩|⟨h0,h1,es,hes,rfl,rfl⟩)
 ·refine⟨rfl,by simp,?_⟩;have hd:decide (b.fault=0)=false:=by simpa using h0
  simp[-getElem?_pos,-decide_eq_true_eq,-decide_eq_false_iff_not,hd];rw[←hR];exact⟨_,rfl,rfl,Zfe (by unfold Bk.heldM;rw[if_neg h0])⟩
 ·refine⟨rfl,by simp,?_⟩;simp[-getElem?_pos];rw[←hR];exact⟨_,rfl,rfl,Zfe (by unfold Bk.heldM;rw[if_pos h0,if_neg (by simp[h1])])⟩
 have hb:b.ok:=Bk.ok_iff.1 h0;have hM:b.heldM bad=(b.held bad,0):=by unfold Bk.heldM;rw[if_pos h0,if_pos h1]
 refine⟨rfl,by simp[wkC],?_⟩;simp[-getElem?_pos,-List.getElem?_map,wkC];refine cM [.ptr (.par 0) 0] (laid 0 (wkB b bad es)) 19 [.loc 12 0,.loc 12 1] (by simp[laid,wkB,wkC]) (Zni b hb bad es hes) (by simp[laid,wkB,wkC]) ?_;have hH:=ZcF hb bad;have hf:=ZjI hb (bad:=bad);generalize hEnt b bad b.nums.length=hs at *;simp[-getElem?_pos,-List.getElem?_map,laid,wkB,wkC];by_cases hn:b.nums=[]
 ·have hhe:b.held bad=[]:=by rw[←hf,hn];rfl
  rw[hn];simp only[List.map_nil];refine .inl (cQ [] [.lst false 1 []] ZpE ?_);simp[-getElem?_pos,-List.getElem?_map,frzsL];refine cM [.pv (.lst false 1 []),.fn 81 [] [.ptr (.par 0) 0]] (laid 0 (hdB hs 0)) 26 [.loc 8 0,.loc 19 0] (by simp[laid,hdB]) (del0H hs) (by simp[laid,hdB]) ?_;simp[-getElem?_pos,-List.getElem?_map,laid,hdB];rw[←hR,hM,hhe];exact⟨_,rfl,rfl,fun m v h=>h⟩
 ·have hl:=ZdU (b:=b);refine cM [.pv (.lst false 1 (b.nums.map intP))] [] 24 [] rfl (ZjT b.nums hn (by omega)) (by simp) ?_;simp[-getElem?_pos,-List.getElem?_map];refine cL [.vec (.par 0) 1 0 b.nums.length,.fn 81 [] [.ptr (.par 1) 0]] (laid 0 (.arr 3 1 (b.nums.map intP)::hdB hs 1)) 26 [.loc 24 0,.loc 8 0,.loc 19 0] (by simp[laid,hdB]) (delH _ hs hH b.nums hl (fun _ _=>trivial)) ?_
  rintro r0 B0 ⟨rfl,X,hX,rfl⟩;have hff:(b.nums.filter fun n=>!(fun n=>!(b.held bad).contains n) n)=b.held bad:=by
   refine Eq.trans (List.filter_congr fun n _=>?_) hf;exact Bool.not_not _
  rw[hff]at hX;simp only[hff];refine⟨rfl,by simp[laid,hdB],?_⟩;have hXm:(X.map intP).take (b.held bad).length=(b.held bad).map intP:=by rw[←List.map_take,hX]
  have hXl:(b.held bad).length≤X.length:=by
   have:=congrArg List.length hX
   rw[Zt6]at this;omega
  simp[-getElem?_pos,-List.getElem?_map,laid,hdB,hXm,hXl];rw[←hR,hM];exact⟨_,rfl,rfl,fun m v h=>h⟩
end
section
open Go.RowKit
set_option maxRecDepth 10000
attribute [local irreducible] Bk.held Bk.nums
theorem Zf7 {b:Bk}(hb:b.ok):∀n∈b.nums,1≤n∧n≤999:=fun n hn=>by
 obtain⟨c,hc,rfl⟩:=(Zbu hb).1 hn
 have:=Zbi hb hc
 omega
attribute [local simp] AS.exp expG Box.ren AV.map AV.mapL Zau noRet Site.isRet Box.allS AV.allS AV.allSL retB dropL AS.adds renL outG outOk Zas inG fnOf lookA Zuq
attribute [local simp] Box.purge Site.isLoc
attribute [local simp] ZaD Zay Zam ZaB Za4
attribute [local simp] retFz frzL AS.frz AV.frz AV.frzL Box.frz AS.tidy AS.frzC
end
section
open Go.RowKit
set_option maxRecDepth 10000
attribute [local irreducible] Bk.held Bk.nums
theorem cok58:COk Tryz.prog (tyOf tys) L102.code:=Zdl L102_ok L102_tab
noncomputable def askX (b:Bk)(bad:List Int)(es hs:List (PV×PV))(is:Bool):List Box:=[.loop (rcode Tryz.prog 102 0) [49] 61 [(11,.ptr (.par 2) 0),(12,.ptr (.par 1) 0)] none,
 .cells [.pv (.bool is)],.cells [.mp (.par 3)],.map hs,capB (.par 5),.cells (wkC b (.par 6) (badZ bad)),.map es]
attribute [local simp] AS.exp expG Box.ren AV.map AV.mapL Zau noRet Site.isRet Box.allS AV.allS AV.allSL retB dropL AS.adds renL outG outOk Zas inG fnOf lookA Zuq
section
attribute [local simp] Box.purge Site.isLoc
set_option maxHeartbeats 8000000 in
noncomputable def askC (b:Bk)(bad:List Int)(es hs:List (PV×PV))(H:Int→Bool)(hH:HMap H hs):Cons Tryz.prog where
 m:=7
 S:=Bool
 X:=askX b bad es hs
 step is x:=(is||H (numOf x),true)
 good x:=∃c:Ct,x=c.pv
 live _:=True
 m0:=by omega
 len _:=rfl
 cl c:=by
  intro bx hb;simp only[askX,Zul,List.not_mem_nil,or_false]at hb;rcases hb with rfl|rfl|rfl|rfl|rfl|rfl|rfl
  ·rfl
  ·rfl
  ·rfl
  ·rfl
  ·rfl
  ·simp[wkC,Site.lt,Zay]
  ·rfl
 goes _ _ _ _ _:=trivial
 yields c x hc hx:=by
  obtain⟨y,rfl⟩:=hx;have hcok:COk Tryz.prog (tyOf tys) (.rng 61 (.t 48) (rcode Tryz.prog 102 0) Y102_0a Y102_0b [49]):=cok58.2.2.2.2.2.2.1.2;have hf:=hH.f y.num;have hk:=hH.k;refine ZaG mixed hcok.1 hcok.2.1 rfl rfl (by simp) rfl ?_;cases c
  all_goals
   simp[-getElem?_pos,Y102_0a,Y102_0b,askX,laid,putL,Ct.pv,hk,hf,numOf,capB,wkC,Zam,ZaD];exact⟨[],[.par 1,.par 2,.par 3,.par 4,.par 5,.par 6],rfl,rfl,by simp[frzL,Zay],rfl,by simp[frzL,ZaB]⟩
end
theorem Zk4 {b:Bk}{bad:List Int}{es hs:List (PV×PV)}{H:Int→Bool}{hH:HMap H hs}:∀(l:List Ct) (c:Bool),(askC b bad es hs H hH).run c (ctsV l)=(c||l.any (fun o=>H o.num),true)
 |[],c=>by
  show(c,true)=_;simp
 |x::l,c=>by
  show(askC b bad es hs H hH).run (c||H x.num) (ctsV l)=_;rw[Zk4 l,List.any_cons,Bool.or_assoc]
def Bk.isHeld (b:Bk)(item day:Int):Bool:=(b.item item).std||(b.ofL item day 1000).any fun o=>(b.held []).contains o.num
def Bk.askM (b:Bk)(item day:Int):Int:=if b.fault=0 then(if(b.hasItem item&&inB day 0 1000)=true then(if b.isHeld item day=true then 0 else 10)else 2)else b.fault
def askR (b:Bk)(item day:Int)(r:AV)(B:List (Site×Box)):Prop:=
 (b.askM item day≠0∧r=.pv (.tup [.nilp,.nilmap,.int .i64 (b.askM item day)])∧B=[])∨
 (b.askM item day=0∧b.fault=0∧b.hasItem item=true∧inB day 0 1000=true∧b.isHeld item day=true∧∃es,CMap b es∧r=.tup [.ptr (.ret 0) 0,.mp (.ret 2),.pv (.int .i64 0)]∧B=[(.ret 0,.cells (wkC b (.ret 1) (badZ []))),(.ret 1,.map es),(.ret 2,.map (hEnt b [] b.nums.length))])
attribute [local simp] Box.purge Site.isLoc
attribute [local simp] ZaD Zay Zam ZaB Za4
set_option maxHeartbeats 16000000 in
theorem Zn1 (b:Bk)(hi:b.items.length≤1000)(hc:b.certs.length≤1000)(item day:Int):Zak Tryz.prog 102 [.pv b.pv,.pv (.int .i64 item),.pv (.int .i64 day)] [] (askR b item day):=by
 have hr:=Zit b hi hc;refine cE L102 ?_;generalize hR:askR b item day=R;have rerr:∀e,b.askM item day=e→e≠0→R (.pv (.tup [.nilp,.nilmap,.int .i64 e])) []:=fun e h h0=>by
  rw[←hR];exact .inl ⟨by rw[h];exact h0,by rw[h],rfl⟩
 simp[-getElem?_pos,L102,Bk.pv];refine cL [.pv b.pv] [] 16 [] rfl hr ?_
 rintro r0 B0 (⟨h0,rfl,rfl⟩|⟨h0,es,hes,rfl,rfl⟩)
 ·refine⟨rfl,by simp,?_⟩;have hd:decide (b.fault=0)=false:=by simpa using h0
  have h2:=rerr _ (by unfold Bk.askM;rw[if_neg h0]) h0;simp[-getElem?_pos,-decide_eq_true_eq,-decide_eq_false_iff_not,hd,-retB];exact⟨[],by simpa using h2⟩
 have hb:b.ok:=Bk.ok_iff.1 h0;refine⟨rfl,by simp[wkC,ZbY],?_⟩;simp[-getElem?_pos,-List.getElem?_map,wkC,ZbY,-retB];refine cG [b.pv,.int .i64 item] (Zm7 b item hi) ?_;cases e1:b.hasItem item
 ·have h2:=rerr 2 (by unfold Bk.askM;rw[if_pos h0,e1];rfl) (by omega);simp[-getElem?_pos,-List.getElem?_map,-retB];exact⟨[],by simpa using h2⟩
 simp[-getElem?_pos,-List.getElem?_map,-retB];refine cG [.int .i64 day] (day_c day) ?_;cases e2:inB day 0 1000
 ·have h2:=rerr 2 (by unfold Bk.askM;rw[if_pos h0,e1,e2];rfl) (by omega);simp[-getElem?_pos,-List.getElem?_map,-retB];exact⟨[],by simpa using h2⟩
 simp[-getElem?_pos,-List.getElem?_map,-retB];refine cM [.ptr (.par 0) 0] (laid 0 (wkB b [] es)) 35 [.loc 16 0,.loc 16 1] (by simp[laid,wkB,wkC]) (Zni b hb [] es hes) (by simp[laid,wkB,wkC]) ?_;have hH:=ZcF hb [];have hrok:b.isHeld item day=true→R (.tup [.ptr (.ret 0) 0,.mp (.ret 2),.pv (.int .i64 0)]) [(.ret 0,.cells (wkC b (.ret 1) (badZ []))),(.ret 1,.map es),(.ret 2,.map (hEnt b [] b.nums.length))]:=fun h=>by
  rw[←hR];refine .inr ⟨?_,h0,e1,e2,h,es,hes,rfl,rfl⟩;unfold Bk.askM;rw[if_pos h0,e1,e2,if_pos (show(true&&true)=true from rfl),if_pos h]
 have hrno:b.isHeld item day=false→R (.pv (.tup [.nilp,.nilmap,.int .i64 10])) []:=fun h=>by
  refine rerr 10 ?_ (by omega);unfold Bk.askM;rw[if_pos h0,e1,e2,if_pos (show(true&&true)=true from rfl),if_neg (by simp[h])]
 generalize hEnt b [] b.nums.length=hs at *;have hii:0≤item∧item<b.items.length:=by
  unfold Bk.hasItem inB at e1;simp only[Zt7,decide_eq_true_eq]at e1;omega
 obtain⟨si,rfl⟩:∃si:Nat,item=si:=⟨item.toNat,by omega⟩;have hsi:si<b.items.length:=by omega
 obtain⟨z,hz⟩:∃z,b.items[si]?=some z:=⟨b.items[si],Zt3 hsi⟩;have hgz:(b.items.map It.pv)[si]?=some (.agg [.int .i64 z.drift,.bool z.std,.int .i64 z.val.lo,.int .i64 z.val.hi]):=by rw[Zt4,hz];rfl
 have hzi:b.item (si:Int)=z:=by unfold Bk.item;rw[Int.toNat_natCast,hz];rfl
 have hIH:b.isHeld si day=(z.std||(b.ofL si day 1000).any fun o=>(b.held []).contains o.num):=by unfold Bk.isHeld;rw[hzi]
 have hrun:=fun is:Bool=>Zk4 (b:=b) (bad:=[]) (es:=es) (hH:=hH) (b.ofL si day 1000) is
 have hit:=fun is:Bool=>ZiK (askC b [] es hs _ hH) b hb [] es hes 4 5 6 (fun c _=>⟨rfl,rfl⟩) (fun c _=>rfl) si day 1000 is trivial (fun z hz=>⟨z,rfl⟩)
 simp only[hrun]at hit;generalize hAN:((b.ofL si day 1000).any fun n=>(b.held []).contains n.num)=an at *;have hit':=hit z.std;clear hit;simp[-getElem?_pos,-List.getElem?_map,laid,wkB,wkC,itsP,hgz,hsi,-retB];refine cM [.ptr (.par 0) 0,.pv (.int .i64 si),.pv (.int .i64 day),.pv (.int .i64 1000)] (laid 0 (wkB b [] es)) 48 [.loc 16 0,.loc 16 1] (by simp[laid,wkB,wkC,itsP]) (of_c b [] es si day 1000) (by simp[laid,wkB,wkC]) ?_;simp[-getElem?_pos,-List.getElem?_map,laid,wkB,wkC,ofF,-retB];refine ZbD [.loc 61 0,.loc 12 0,.loc 11 0,.loc 35 0,.loc 48 0,.loc 16 0,.loc 16 1] [(11,.ptr (.loc 11 0) 0),(12,.ptr (.loc 12 0) 0)] (gf:=143) (fs:=[]) (cs:=[.ptr (.loc 48 0) 0,.pv (.ref [.int .i64 1000]),.pv (.ref [.int .i64 si]),.pv (.ref [.int .i64 day])]) ?_ ?_ rfl rfl ?_ ?_ ?_ hit' ?_
 ·rfl
 ·simp
 ·simp[askC,askX,laid,wkC,capB]
 ·rfl
 ·rfl
 rintro r B' ⟨rfl,rfl⟩;refine⟨rfl,?_,?_⟩
 ·exact fun p hp=>Zfi (n:=7) (L:=askX b [] es hs (z.std||an)) (by simp[askX]) ((askC b [] es hs _ hH).cl (z.std||an)) p hp
 refine⟨_,_,_,_,_,rfl,?_⟩;cases hIS:(z.std||an)
 ·rw[hIS]at hIH;have h2:=hrno hIH;simp[-getElem?_pos,-List.getElem?_map,askC,askX,laid,jumpQ,wkC,capB,-retB,hIS];exact⟨[],by simpa using h2⟩
 ·rw[hIS]at hIH;have h2:=hrok hIH;simp[-getElem?_pos,-List.getElem?_map,askC,askX,laid,jumpQ,wkC,capB,-retB,hIS];refine⟨[.loc 16 0,.loc 16 1,.loc 35 0],?_⟩;simpa[wkC]using h2
end
section
open Go.RowKit
set_option maxRecDepth 10000
attribute [local irreducible] Bk.held Bk.nums
def spB (b:Bk)(es hs ss:List (PV×PV)):List Box:=[.cells [.ptr (.par 3) 0,.mp (.par 1),.mp (.par 2)],.map hs,.map ss,.cells (wkC b (.par 4) (badZ [])),.map es]
attribute [local simp] AS.exp expG Box.ren AV.map AV.mapL Zau noRet Site.isRet Box.allS AV.allS AV.allSL retB dropL AS.adds renL outG outOk Zas inG fnOf lookA Zuq
attribute [local simp] Box.purge Site.isLoc
attribute [local simp] ZaD Zay Zam ZaB Za4
theorem Zgw (b:Bk)(es hs ss:List (PV×PV))(H:Int→Bool)(hH:HMap H hs)(c:Ct):Zak Tryz.prog 227 [.ptr (.par 0) 0,.pv c.pv] (laid 0 (spB b es hs ss)) (fun r B=>r=.pv (.bool (H c.num))∧B=laid 0 (spB b es hs ss)):=by
 have hf:=hH.f c.num;have hk:=hH.k;refine cB [.par 0,.par 1,.par 2,.par 3,.par 4] L227 ?_;simp[-getElem?_pos,L227,spB,laid,wkC,Ct.pv,hf,hk]
theorem cok61:COk Tryz.prog (tyOf tys) L189.code:=Zdl L189_ok L189_tab
noncomputable def spnX (b:Bk)(es hs ss:List (PV×PV))(item day:Int)(r:Cr):List Box:=[.loop (rcode Tryz.prog 189 0) [47] 79 [(4,.ptr (.par 2) 0),(5,.ptr (.par 3) 0),(6,.ptr (.par 4) 0),(9,.ptr (.par 5) 0),(10,.ptr (.par 1) 0)] none,
 .cells [.pv (.int .i64 r.lo),.pv (.int .i64 r.hi)],.cells [.ptr (.par 6) 0],.cells [.pv (.int .i64 item)],.cells [.pv (.int .i64 day)],.cells [.fn 227 [.ptr (.par 6) 0] []],
 .cells [.ptr (.par 9) 0,.mp (.par 7),.mp (.par 8)],.map hs,.map ss,.cells (wkC b (.par 10) (badZ [])),.map es,capB (.par 9)]
def ctOf:PV→Ct
 |.agg [.int _ n,.int _ i,.int _ s,.int _ d,.int _ v,.int _ lo,.int _ hi]=>⟨n,i,s,d,v,⟨lo,hi⟩⟩
 |_=>ct0
theorem ZgA (c:Ct):ctOf c.pv=c:=rfl
def zR:PV:=.agg [.int .i64 0,.int .i64 0]
structure SMap (b:Bk)(S:Int→Cr)(below:Int)(ss:List (PV×PV)):Prop where
 k:ZbC kI ss=true
 f:∀c∈b.certs,c.num<below→c.num∈b.held []→(findV (.int .i64 c.num) ss).getD zR=(S c.num).pv∧(S c.num).bdd 1000000000
def Zfs (b:Bk)(S:Int→Cr)(item day:Int)(r:Cr)(c:Ct):Cr:=match(b.held []).contains c.num with
 |true=>r.cut ((S c.num).wider ((b.item item).drift*(day-c.day)))
 |false=>r
section
set_option maxHeartbeats 16000000 in
noncomputable def spnC (b:Bk)(hb:b.ok)(es hs ss:List (PV×PV))(hH:HMap (fun n=>(b.held []).contains n) hs)(S:Int→Cr)(si:Nat)(hsi:si<b.items.length)(day below:Int)(hd:0≤day∧day≤1000)(hS:SMap b S below ss):Cons Tryz.prog where
 m:=12
 S:=Cr
 X:=spnX b es hs ss si day
 step r x:=(Zfs b S si day r (ctOf x),true)
 good x:=∃c∈b.ofL si day below,x=c.pv
 live _:=True
 m0:=by omega
 len _:=rfl
 cl c:=by
  intro bx hb;simp only[spnX,Zul,List.not_mem_nil,or_false]at hb;rcases hb with rfl|rfl|rfl|rfl|rfl|rfl|rfl|rfl|rfl|rfl|rfl|rfl
  all_goals first|rfl|simp[wkC,Site.lt,Zay]
 goes _ _ _ _ _:=trivial
 yields r x hc hx:=by
  obtain⟨y,hy,rfl⟩:=hx;rw[ZgA];have hcok:COk Tryz.prog (tyOf tys) (.rng 79 (.t 46) (rcode Tryz.prog 189 0) Y189_0a Y189_0b [47]):=cok61.2.2.2.2.1.2;have hcall:=Zgw b es hs ss _ hH y;obtain⟨hyc,hyo⟩:=(Zcc hb).1 hy;unfold Bk.ofB at hyo;simp only[Zt7,decide_eq_true_eq]at hyo;have hfar:=ZqM hb hyc hyo.2.2;have hbd:=Zbi hb hyc;obtain⟨z,hz⟩:∃z,b.items[si]?=some z:=⟨b.items[si],Zt3 hsi⟩;have hgz:(b.items.map It.pv)[si]?=some (.agg [.int .i64 z.drift,.bool z.std,.int .i64 z.val.lo,.int .i64 z.val.hi]):=by rw[Zt4,hz];rfl
  have hzi:b.item (si:Int)=z:=by unfold Bk.item;rw[Int.toNat_natCast,hz];rfl
  rw[hyo.2.1,hzi]at hfar;have w1:IntKind.i64.wrap (day-y.day)=day-y.day:=wrap64 (by omega);have w2:IntKind.i64.wrap (z.drift*(day-y.day))=z.drift*(day-y.day):=wrap64 (by omega);have hk:=hS.k;have hstep:Zfs b S si day r y=match(b.held []).contains y.num with
   |true=>r.cut ((S y.num).wider (z.drift*(day-y.day)))
   |false=>r:=by unfold Zfs;rw[hzi]
  have hsf:=fun h:(b.held []).contains y.num=true=>hS.f y hyc hyo.1 (ZuC.1 h)
  rw[hstep];obtain⟨far,hfe⟩:∃far,z.drift*(day-y.day)=far:=⟨_,rfl⟩;rw[hfe]at hfar hstep;have w2':IntKind.i64.wrap (z.drift*(day-y.day))=far:=w2.trans hfe;rw[hfe];clear hstep w2 hfe;generalize hcv:(b.held []).contains y.num=v at *;refine ZaG mixed hcok.1 hcok.2.1 rfl rfl (by simp) rfl ?_;simp[-getElem?_pos,-List.getElem?_map,Y189_0a,Y189_0b,spnX,laid,putL,Ct.pv,capB,wkC];refine Zac (as':=[.ptr (.par 0) 0,.pv y.pv]) (B:=laid 0 (spB b es hs ss)) (fs:=[.ptr (.par 6) 0]) (cs:=[]) 50 [.par 6,.par 7,.par 8,.par 9,.par 10] ?_ rfl rfl ?_ ?_ ?_ hcall ?_
  ·rfl
  ·simp[laid,spB,wkC]
  ·rfl
  ·rfl
  rintro r0 B0 ⟨rfl,rfl⟩;refine⟨rfl,by simp[laid,spB,wkC],?_⟩;cases v
  ·simp[-getElem?_pos,-List.getElem?_map,laid,spB,wkC,-retB];exact⟨[],[.par 1,.par 2,.par 3,.par 4,.par 5,.par 6,.par 7,.par 8,.par 9,.par 10,.par 11],rfl,rfl,by simp[frzL],rfl,by simp[frzL,wkC]⟩
  ·obtain⟨hs1,hs2⟩:=hsf rfl;unfold Cr.bdd at hs2;have hwd:=ZqY (S y.num) far (wrap64 (by omega)) (wrap64 (by omega)) (wrap64 (by omega));have hct:=cut_c r ((S y.num).wider far);generalize S y.num=sy at *;unfold zR at hs1;unfold Cr.pv at hs1;simp[-getElem?_pos,-List.getElem?_map,laid,spB,wkC,-retB,hk,hs1,itsP,hgz,hsi,w1,w2'];refine cQ [] [sy.pv,.int .i64 far] hwd ?_;simp[-getElem?_pos,-List.getElem?_map,frzsL];refine .inl (cQ [] [r.pv,(sy.wider far).pv] hct ?_);simp[-getElem?_pos,-List.getElem?_map,frzsL,Cr.pv];exact⟨[],[.par 1,.par 2,.par 3,.par 4,.par 5,.par 6,.par 7,.par 8,.par 9,.par 10,.par 11],rfl,rfl,by simp[frzL],rfl,by simp[frzL,wkC,itsP]⟩
end
end
section
open Go.RowKit
set_option maxRecDepth 10000
attribute [local irreducible] Bk.held Bk.nums
theorem Zke {b:Bk}{hb:b.ok}{es hs ss:List (PV×PV)}{hH:HMap (fun n=>(b.held []).contains n) hs}{S:Int→Cr}{si:Nat}{hsi:si<b.items.length}{day below:Int}{hd:0≤day∧day≤1000}{hS:SMap b S below ss}:∀(l:List Ct) (r:Cr),(spnC b hb es hs ss hH S si hsi day below hd hS).run r (ctsV l)=(l.foldl (Zfs b S si day) r,true)
 |[],r=>rfl
 |x::l,r=>by
  show(spnC b hb es hs ss hH S si hsi day below hd hS).run (Zfs b S si day r x) (ctsV l)=_;rw[Zke l];rfl
theorem Zij {b:Bk}{S:Int→Cr}{item day:Int}:∀(l:List Ct) (r:Cr),l.foldl (Zfs b S item day) r=(l.filter fun c=>(b.held []).contains c.num).foldl (fun r c=>r.cut ((S c.num).wider ((b.item item).drift*(day-c.day)))) r
 |[],r=>rfl
 |c::l,r=>by
  rw[List.foldl_cons,Zij l,ZuN];unfold Zfs;cases h:(b.held []).contains c.num
  ·rfl
  ·rfl
theorem Znk {b:Bk}(hb:b.ok){S:Int→Cr}{item day below:Int}(h:(b.item item).std=false):(b.ofL item day below).foldl (Zfs b S item day) Zdg=b.itemSpan (b.held []) S item day below:=by
 rw[Zij,ZeG h];refine Zpw (fun c=>?_);rw[Zum,Zum,Zcc hb,Zt7];exact⟨fun⟨⟨h1,h2⟩,h3⟩=>⟨h1,h2,h3⟩,fun⟨h1,h2,h3⟩=>⟨⟨h1,h2⟩,h3⟩⟩
attribute [local simp] AS.exp expG Box.ren AV.map AV.mapL Zau noRet Site.isRet Box.allS AV.allS AV.allSL retB dropL AS.adds renL outG outOk Zas inG fnOf lookA Zuq
attribute [local simp] Box.purge Site.isLoc
attribute [local simp] ZaD Zay Zam ZaB Za4
set_option maxHeartbeats 16000000 in
theorem Zl5 (b:Bk)(hb:b.ok)(es hs ss:List (PV×PV))(hes:CMap b es)(hH:HMap (fun n=>(b.held []).contains n) hs)(S:Int→Cr)(si:Nat)(hsi:si<b.items.length)(day below:Int)(hd:0≤day∧day≤1000)(hS:SMap b S below ss):
  Zak Tryz.prog 189 [.ptr (.par 0) 0,.pv (.int .i64 si),.pv (.int .i64 day),.pv (.int .i64 below)] (laid 0 (spB b es hs ss)) (fun r B=>r=.pv (b.itemSpan (b.held []) S si day below).pv∧B=laid 0 (spB b es hs ss)):=by
 refine cBR [.par 0,.par 1,.par 2,.par 3,.par 4] L189 ?_;intro R hR;obtain⟨z,hz⟩:∃z,b.items[si]?=some z:=⟨b.items[si],Zt3 hsi⟩;have hgz:(b.items.map It.pv)[si]?=some (.agg [.int .i64 z.drift,.bool z.std,.int .i64 z.val.lo,.int .i64 z.val.hi]):=by rw[Zt4,hz];rfl
 have hzi:b.item (si:Int)=z:=by unfold Bk.item;rw[Int.toNat_natCast,hz];rfl
 rcases Bool.eq_false_or_eq_true z.std with hzs|hzs
 ·have hv:b.itemSpan (b.held []) S si day below=z.val:=by unfold Bk.itemSpan;rw[hzi,if_pos hzs]
  simp[-getElem?_pos,-List.getElem?_map,L189,laid,spB,wkC,itsP,hgz,hsi,hzs,-retB];rw[←hR,hv];simp[laid,spB,wkC,itsP,Cr.pv]
 have hv:=Znk hb (S:=S) (item:=(si:Int)) (day:=day) (below:=below) (by rw[hzi];exact hzs);have hit:=ZiK (spnC b hb es hs ss hH S si hsi day below hd hS) b hb [] es hes 11 9 10 (fun c _=>⟨rfl,rfl⟩) (fun c _=>rfl) si day below Zdg trivial (fun z hz=>⟨z,hz,rfl⟩);rw[Zke,hv]at hit;have hcl:=(spnC b hb es hs ss hH S si hsi day below hd hS).cl (b.itemSpan (b.held []) S si day below);generalize b.itemSpan (b.held []) S si day below=RES at *;simp[-getElem?_pos,-List.getElem?_map,L189,laid,spB,wkC,itsP,hgz,hsi,hzs,-retB];refine .inl (cQ [] [] ZiZ ?_);simp[-getElem?_pos,-List.getElem?_map,frzsL,Zdg,Cr.pv];refine cM [.ptr (.par 0) 0,.pv (.int .i64 si),.pv (.int .i64 day),.pv (.int .i64 below)] (laid 0 (wkB b [] es)) 46 [.par 3,.par 4] (by simp[laid,wkB,wkC,itsP]) (of_c b [] es si day below) (by simp[laid,wkB,wkC]) ?_;simp[-getElem?_pos,-List.getElem?_map,laid,wkB,wkC,ofF,-retB];refine ZbD [.loc 79 0,.loc 10 0,.loc 4 0,.loc 5 0,.loc 6 0,.loc 9 0,.par 0,.par 1,.par 2,.par 3,.par 4,.loc 46 0] [(4,.ptr (.loc 4 0) 0),(5,.ptr (.loc 5 0) 0),(6,.ptr (.loc 6 0) 0),(9,.ptr (.loc 9 0) 0),(10,.ptr (.loc 10 0) 0)] (gf:=143) (fs:=[]) (cs:=[.ptr (.loc 46 0) 0,.pv (.ref [.int .i64 below]),.pv (.ref [.int .i64 si]),.pv (.ref [.int .i64 day])]) ?_ ?_ rfl rfl ?_ ?_ ?_ hit ?_
 ·rfl
 ·simp
 ·simp[spnC,spnX,laid,wkC,capB,Zdg]
 ·rfl
 ·rfl
 rintro r B' ⟨rfl,rfl⟩;refine⟨rfl,?_,?_⟩
 ·exact fun p hp=>Zfi (n:=12) (L:=spnX b es hs ss si day RES) (by simp[spnX]) hcl p hp
 refine⟨_,_,_,_,_,rfl,?_⟩;simp[-getElem?_pos,-List.getElem?_map,spnC,spnX,laid,jumpQ,wkC,capB,-retB];trace_state;simp[wkC];rw[←hR];simp[laid,spB,wkC,Cr.pv]
end
section
open Go.RowKit
set_option maxRecDepth 10000
attribute [local irreducible] Bk.held Bk.nums Bk.span
def sEnt (b:Bk)(k:Nat):List (PV×PV):=mapI id (fun n=>(b.span (b.held []) n).pv) ((b.nums.take k).filter fun n=>(b.held []).contains n)
theorem ZfD {b:Bk}{k:Nat}{n x:Int}(h:b.nums[k]?=some n):x∈b.nums.take k↔x∈b.nums∧x<n:=by
 obtain⟨h2,e2⟩:=Zt5.1 h;have hs:=List.pairwise_iff_getElem.1 (Zbw (b:=b));constructor
 ·intro hx;obtain⟨i,hi⟩:=Zui.1 hx;rw[Zuj]at hi;split at hi
  ·rename_i hik;obtain⟨h1,e1⟩:=Zt5.1 hi
   have:=hs i k h1 h2 hik
   rw[e1,e2]at this;exact⟨Zua hi,this⟩
  ·cases hi
 ·rintro⟨hx,hlt⟩;obtain⟨i,hi⟩:=Zui.1 hx;obtain⟨h1,e1⟩:=Zt5.1 hi;rw[Zui];refine⟨i,?_⟩;rw[Zuj,if_pos,hi];rcases Nat.lt_trichotomy i k with hik|hik|hik
  ·exact hik
  ·subst hik;rw[e1]at e2;omega
  ·have:=hs k i h2 h1 hik
   rw[e1,e2]at this;omega
theorem Zor {b:Bk}(hb:b.ok){k:Nat}{n:Int}(h:b.nums[k]?=some n):SMap b (b.span (b.held [])) n (sEnt b k):=by
 refine⟨Zb5,fun c hc hlt hx=>?_⟩;unfold sEnt;rw[ZbH,Zgz,if_pos]
 ·refine⟨rfl,?_⟩
  have:=ZfE hb c hc hx
  have hbd:=Zbi hb hc;unfold Cr.bdd at this ⊢;omega
 ·rw[Zum,ZfD h];exact⟨⟨(Zbu hb).2 ⟨c,hc,rfl⟩,hlt⟩,ZuC.2 hx⟩
theorem Zf0 {b:Bk}(hb:b.ok)(below:Int):SMap b (b.span (b.held [])) below (sEnt b b.nums.length):=by
 refine⟨Zb5,fun c hc hlt hx=>?_⟩;unfold sEnt;rw[ZbH,Zgz,if_pos]
 ·refine⟨rfl,?_⟩
  have:=ZfE hb c hc hx
  have hbd:=Zbi hb hc;unfold Cr.bdd at this ⊢;omega
 ·rw[Zum,Zus];exact⟨(Zbu hb).2 ⟨c,hc,rfl⟩,ZuC.2 hx⟩
theorem Zmm {b:Bk}{k:Nat}{n:Int}(h:b.nums[k]?=some n)(hx:(b.held []).contains n=false):sEnt b (k+1)=sEnt b k:=by
 unfold sEnt;rw[Zuf,h,ZuV]
 have:(Option.some n).toList.filter (fun n=>(b.held []).contains n)=[]:=by
  simp only[Option.toList,ZuN,hx,List.filter_nil];rfl
 rw[this,Zut]
theorem Zoq {b:Bk}{k:Nat}{n:Int}(h:b.nums[k]?=some n)(hx:(b.held []).contains n=true):putK (.int .i64 n) (b.span (b.held []) n).pv (sEnt b k)=sEnt b (k+1):=by
 unfold sEnt;rw[Zew (fun x hm=>?_),Zuf,h,ZuV]
 ·have:(Option.some n).toList.filter (fun n=>(b.held []).contains n)=[n]:=by
   simp only[Option.toList,ZuN,hx,List.filter_nil];rfl
  rw[this];unfold mapI;rw[Zuw];rfl
 ·have:=(ZfD h).1 (Zum.1 hm).1
  show x≠n;omega
theorem Zoi {b:Bk}(hb:b.ok){n:Int}(hn:n∈b.nums)(hx:(b.held []).contains n=true):b.span (b.held []) n=(b.itemSpan (b.held []) (b.span (b.held [])) (b.get n).src (b.get n).day n).plus (b.get n).diff∧(b.itemSpan (b.held []) (b.span (b.held [])) (b.get n).src (b.get n).day n).bdd 2000000000:=by
 have h1:=Zf7 hb n hn;obtain⟨nn,rfl⟩:∃nn:Nat,n=nn:=⟨n.toNat,by omega⟩;obtain⟨hcm,hcn⟩:=Zby hb hn;have hbd:=Zbi hb hcm;refine⟨?_,?_⟩
 ·rw[Zl4 (by omega),if_pos hx]
 ·have hsr:=ZkL hb hcm (bad:=[]) (by rw[hcn];exact ZuC.1 hx);rw[hcn]at hsr
  have:=ZhY hb (held:=b.held []) (S:=b.span (b.held [])) (day:=(b.get (nn:Int)).day) (below:=(nn:Int)) (A:=1000000000) hbd.2.2.2.2.2.1 hbd.2.2.2.2.2.2.1 (by omega) (by omega) hsr fun o ho hlt hox=>by
   have k1:=ZfE hb o ho hox;have k2:=Zbi hb ho;unfold Cr.bdd at k1 ⊢;omega
  unfold Cr.bdd at this ⊢;omega
def rcB (b:Bk)(es hs ss:List (PV×PV)):List Box:=[.cells [.ptr (.par 6) 0],.cells [.ptr (.par 3) 0],.cells [.fn 226 [] [.ptr (.par 0) 0,.ptr (.par 1) 0,.ptr (.par 2) 0]],
 .cells [.ptr (.par 6) 0,.mp (.par 4),.mp (.par 5)],.map hs,.map ss,.cells (wkC b (.par 7) (badZ [])),.map es]
end
section
open Go.RowKit
set_option maxRecDepth 10000
attribute [local irreducible] Bk.held Bk.nums Bk.span
attribute [local simp] AS.exp expG Box.ren AV.map AV.mapL Zau noRet Site.isRet Box.allS AV.allS AV.allSL retB dropL AS.adds renL outG outOk Zas inG fnOf lookA Zuq
attribute [local simp] Box.purge Site.isLoc
attribute [local simp] ZaD Zay Zam ZaB Za4
def rcJ (b:Bk)(es hs ss:List (PV×PV))(L:List PV)(n:Int)(R:Cr):AS:=⟨[(0,.pv (.lst false 1 L)),(1,.ptr (.par 0) 0),(2,.ptr (.par 1) 0),(3,.ptr (.par 2) 0),(23,.mp (.par 5)),(25,.pv (.int .i64 n)),(36,.pv (.agg [.int .i64 R.lo,.int .i64 R.hi]))],laid 0 (rcB b es hs ss)⟩
set_option maxHeartbeats 32000000 in
theorem rc_c (b:Bk)(hb:b.ok)(es hs:List (PV×PV))(hes:CMap b es)(hH:HMap (fun n=>(b.held []).contains n) hs):∀m k,m+k=b.nums.length→
  Zak Tryz.prog 226 [.pv (.lst false 1 ((b.nums.drop k).map intP)),.ptr (.par 0) 0,.ptr (.par 1) 0,.ptr (.par 2) 0] (laid 0 (rcB b es hs (sEnt b k))) (fun r B=>r=.pv (.tup [])∧B=laid 0 (rcB b es hs (sEnt b b.nums.length)))
 |0,k,hk=>by
  have hk':k=b.nums.length:=by omega
  subst hk';rw[List.drop_length];refine cB [.par 0,.par 1,.par 2,.par 3,.par 4,.par 5,.par 6,.par 7] L226 ?_;simp[-getElem?_pos,L226,rcB,laid,wkC]
 |m+1,k,hk=>by
  have ih:=rc_c b hb es hs hes hH m (k+1) (by omega);have hlt:k<b.nums.length:=by omega
  obtain⟨n,hn⟩:∃n,b.nums[k]?=some n:=⟨b.nums[k],Zt3 hlt⟩;have hdr:b.nums.drop k=n::b.nums.drop (k+1):=by
   rw[List.drop_eq_getElem_cons hlt]
   have:b.nums[k]=n:=by rw[Zt3 hlt]at hn;exact Option.some.inj hn
   rw[this]
  have hnm:=Zua hn;obtain⟨hcm,hcn⟩:=Zby hb hnm;have hbd:=Zbi hb hcm;have hfx:=hes.f n;rw[if_pos hnm]at hfx;have hko:=hes.k;have hsk:=Zmm hn;have hsp:=Zoq hn;have hsg:=Zoi hb hnm;have hSM:=Zor hb hn;have hkk:=hSM.k;have hhold:=Zgw b es hs (sEnt b k) _ hH (b.get n);rw[hdr];generalize b.nums.drop (k+1)=rest at *;generalize sEnt b b.nums.length=SF at *;generalize sEnt b (k+1)=S2 at *;generalize hS1:sEnt b k=S1 at *;generalize b.get n=y at *;obtain⟨yn,yi,ys,yd,yv,⟨yl,yh⟩⟩:=y;simp only at hcn hbd hsg hhold;subst hcn;unfold Ct.pv at hfx;obtain⟨si,rfl⟩:∃si:Nat,ys=si:=⟨ys.toNat,by omega⟩;have hsi:si<b.items.length:=by omega
  have hspan:=Zl5 b hb es hs S1 hes hH (b.span (b.held [])) si hsi yd yn (by omega) hSM;generalize b.itemSpan (b.held []) (b.span (b.held [])) si yd yn=R1 at *;generalize b.span (b.held []) yn=R2 at *;generalize hcv:(b.held []).contains yn=v at *;refine cBR [.par 0,.par 1,.par 2,.par 3,.par 4,.par 5,.par 6,.par 7] L226 ?_;intro R hR;have hl0:(0:Int)<(rest.length:Int)+1:=by omega
  have hlz:¬((rest.length:Int)+1=0):=by omega
  simp[-getElem?_pos,-List.getElem?_map,L226,rcB,laid,wkC,hl0,hlz,hko,hfx,-retB,intP];refine cM [.ptr (.par 0) 0,.pv (Ct.pv ⟨yn,yi,si,yd,yv,⟨yl,yh⟩⟩)] (laid 0 (spB b es hs S1)) 19 [.par 3,.par 4,.par 5,.par 6,.par 7] (by simp[laid,spB,wkC]) hhold (by simp[laid,spB,wkC]) ?_;have hl1:1≤rest.length+1:=by omega
  have htk:(rest.map intP).take rest.length=rest.map intP:=Zub (by rw[Zuc];exact Zue _);cases v
  ·rw[hsk rfl]at ih;simp[-getElem?_pos,-List.getElem?_map,laid,spB,wkC,-retB,nble,hl1,htk];refine cM [.pv (.lst false 1 (rest.map intP)),.ptr (.par 0) 0,.ptr (.par 1) 0,.ptr (.par 2) 0] (laid 0 (rcB b es hs S1)) 40 [.par 0,.par 1,.par 2,.par 3,.par 4,.par 5,.par 6,.par 7] (by simp[laid,rcB,wkC]) ih (by simp[laid,rcB,wkC]) ?_;simp[-getElem?_pos,laid,rcB,wkC];rw[←hR];simp[laid,rcB,wkC]
  ·obtain⟨hq1,hq2⟩:=hsg rfl;have hput:=hsp rfl;unfold Cr.pv at hput;unfold Cr.bdd at hq2;have hdf:=hbd.2.2.2.2.2.2.2.2.2.2.2.2.1;unfold Cr.bdd at hdf;simp only at hdf;have hplus:=ZqA R1 ⟨yl,yh⟩ (wrap64 (by simp only;omega)) (wrap64 (by simp only;omega));rw[←hq1]at hplus;simp[-getElem?_pos,-List.getElem?_map,laid,spB,wkC,-retB,nble,hl1,htk];refine Zdx (rcJ b es hs S1 (intP yn::rest.map intP) yn R2) ?_ ?_
   ·simp[-getElem?_pos,-List.getElem?_map,Zaf,Zaj,-retB]
    repeat' (with_reducible refine And.intro ?_ ?_)
    all_goals
     refine cM [.ptr (.par 0) 0,.pv (.int .i64 si),.pv (.int .i64 yd),.pv (.int .i64 yn)] (laid 0 (spB b es hs S1)) 33 [.par 3,.par 4,.par 5,.par 6,.par 7] (by simp[laid,spB,wkC]) hspan (by simp[laid,spB,wkC]) ?_;simp[-getElem?_pos,-List.getElem?_map,laid,spB,wkC,-retB,Zaf,Zaj,Cr.pv]
    all_goals
     refine cQ [] [R1.pv,Cr.pv ⟨yl,yh⟩] hplus ?_;simp[-getElem?_pos,-List.getElem?_map,frzsL,Zaf,Zaj,Cr.pv,-retB]
    all_goals
     refine Sub.mk ?_ ?_
     ·simp[rcJ,intP]
     ·simp[rcJ,laid,rcB,wkC]
   ·simp[-getElem?_pos,-List.getElem?_map,Zaf,Zaj,rcJ,laid,rcB,wkC,-retB,hkk,nble,hl1,htk,hput];refine cM [.pv (.lst false 1 (rest.map intP)),.ptr (.par 0) 0,.ptr (.par 1) 0,.ptr (.par 2) 0] (laid 0 (rcB b es hs S2)) 40 [.par 0,.par 1,.par 2,.par 3,.par 4,.par 5,.par 6,.par 7] (by simp[laid,rcB,wkC]) ih (by simp[laid,rcB,wkC]) ?_;simp[-getElem?_pos,laid,rcB,wkC];rw[←hR];simp[laid,rcB,wkC]
end
section
open Go.RowKit
set_option maxRecDepth 10000
attribute [local irreducible] Bk.held Bk.nums Bk.span
attribute [local simp] AS.exp expG Box.ren AV.map AV.mapL Zau noRet Site.isRet Box.allS AV.allS AV.allSL retB dropL AS.adds renL outG outOk Zas inG fnOf lookA Zuq
attribute [local simp] Box.purge Site.isLoc
attribute [local simp] ZaD Zay Zam ZaB Za4
def spsJ (b:Bk)(es hs:List (PV×PV)):AS:=⟨[(1,.ptr (.loc 1 0) 0),(3,.ptr (.loc 3 0) 0),(10,.ptr (.loc 10 0) 0)],
 [(.loc 10 0,.cells [.ptr (.par 0) 0,.mp (.loc 7 0),.mp (.loc 8 0)]),(.loc 7 0,.map hs),(.loc 8 0,.map []),(.loc 3 0,.cells [.pv .nilp]),(.loc 1 0,.cells [.ptr (.par 0) 0]),(.par 0,.cells (wkC b (.par 1) (badZ []))),(.par 1,.map es)]⟩
def spsR (b:Bk)(es:List (PV×PV))(r:AV)(B:List (Site×Box)):Prop:=r=.ptr (.ret 0) 0∧B=[(.ret 0,.cells [.ptr (.par 0) 0,.mp (.ret 1),.mp (.ret 2)]),(.ret 1,.map (hEnt b [] b.nums.length)),(.ret 2,.map (sEnt b b.nums.length)),(.par 0,.cells (wkC b (.par 1) (badZ []))),(.par 1,.map es)]
set_option maxHeartbeats 32000000 in
theorem Zjm (b:Bk)(hb:b.ok)(es:List (PV×PV))(hes:CMap b es):Zak Tryz.prog 187 [.ptr (.par 0) 0] (laid 0 (wkB b [] es)) (spsR b es):=by
 have hheld:=Zni b hb [] es hes;have hrc:=rc_c b hb es _ hes (ZcF hb []) b.nums.length 0 (by omega);have hs0:sEnt b 0=[]:=by unfold sEnt;rw[List.take_zero];rfl
 rw[hs0,List.drop_zero]at hrc;refine cB [.loc 10 0,.loc 7 0,.loc 8 0,.par 0,.par 1] L187 ?_;generalize hR:spsR b es=R;have hRd:∀r B,R r B↔spsR b es r B:=fun r B=>by rw[hR]
 unfold spsR at hRd;generalize hEnt b [] b.nums.length=hs at *;generalize sEnt b b.nums.length=SF at *;clear hR;simp[-getElem?_pos,-List.getElem?_map,L187,laid,wkB,wkC,-retB];refine Zdx (spsJ b es hs) ?_ ?_
 ·simp[-getElem?_pos,-List.getElem?_map,Zaf,Zaj,-retB]
  repeat' (with_reducible refine And.intro ?_ ?_)
  all_goals
   refine cM [.ptr (.par 0) 0] (laid 0 (wkB b [] es)) 7 [.par 0,.par 1] (by simp[laid,wkB,wkC]) hheld (by simp[laid,wkB,wkC]) ?_;simp[-getElem?_pos,-List.getElem?_map,laid,wkB,wkC,-retB,Zaf,Zaj]
  repeat' (with_reducible refine And.intro ?_ ?_)
  all_goals
   refine Sub.mk ?_ ?_
   ·simp[spsJ]
   ·simp[spsJ,wkC]
 ·simp[-getElem?_pos,-List.getElem?_map,Zaf,Zaj,spsJ,wkC,-retB];refine cM [.pv (.lst false 1 (b.nums.map intP)),.ptr (.par 0) 0,.ptr (.par 1) 0,.ptr (.par 2) 0] (laid 0 (rcB b es hs [])) 17 [.loc 1 0,.loc 3 0,.loc 4 0,.loc 10 0,.loc 7 0,.loc 8 0,.par 0,.par 1] (by simp[laid,rcB,wkC]) hrc (by simp[laid,rcB,wkC]) ?_;simp[-getElem?_pos,-List.getElem?_map,laid,rcB,wkC];rw[hRd];simp[wkC]
end
section
open Go.RowKit
set_option maxRecDepth 10000
attribute [local irreducible] Bk.held Bk.nums Bk.span
def Bk.contraAt (b:Bk)(n:Int):Bool:=(b.held []).contains n&&decide ((b.itemSpan (b.held []) (b.span (b.held [])) (b.get n).it (b.get n).day 1000).hi<(b.itemSpan (b.held []) (b.span (b.held [])) (b.get n).it (b.get n).day 1000).lo)
theorem ZjS {b:Bk}(hb:b.ok):b.contra=b.nums.any b.contraAt:=by
 rw[Zuz];unfold Bk.contra;rw[Zux,Zux];constructor
 ·rintro⟨c,hc,h⟩;refine⟨c.num,(Zbu hb).2 ⟨c,hc,rfl⟩,?_⟩;unfold Bk.contraAt;rw[Zd7 hb hc];exact h
 ·rintro⟨n,hn,h⟩;obtain⟨h1,h2⟩:=Zby hb hn;refine⟨b.get n,h1,?_⟩;unfold Bk.contraAt at h;rw[h2];exact h
attribute [local simp] AS.exp expG Box.ren AV.map AV.mapL Zau noRet Site.isRet Box.allS AV.allS AV.allSL retB dropL AS.adds renL outG outOk Zas inG fnOf lookA Zuq
attribute [local simp] Box.purge Site.isLoc
attribute [local simp] ZaD Zay Zam ZaB Za4
def ctrK (b:Bk)(es hs ss:List (PV×PV))(k:Nat):AS:=⟨[(0,.ptr (.par 0) 0),(13,.pv (.lst false 1 (b.nums.map intP))),(14,.pv (.int .i64 b.nums.length)),(15,.pv (.int .i64 k))],laid 0 (spB b es hs ss)⟩
set_option maxHeartbeats 16000000 in
theorem Zh9 (b:Bk)(hb:b.ok)(es hs ss:List (PV×PV))(hes:CMap b es)(hH:HMap (fun n=>(b.held []).contains n) hs)(hS:SMap b (b.span (b.held [])) 1000 ss):
  Zak Tryz.prog 188 [.ptr (.par 0) 0] (laid 0 (spB b es hs ss)) (fun r B=>r=.pv (.bool b.contra)∧B=laid 0 (spB b es hs ss)):=by
 have hlen:=ZdU (b:=b);rw[ZjS hb];refine cBR [.par 0,.par 1,.par 2,.par 3,.par 4] L188 ?_;intro R hR;simp[-getElem?_pos,-List.getElem?_map,L188,laid,spB,wkC,-retB];refine Zae (fun n τ=>∃k:Nat,k≤b.nums.length∧n=b.nums.length-k∧(∀(j:Nat) (x:Int),j<k→b.nums[j]?=some x→b.contraAt x=false)∧τ=ctrK b es hs ss k) ⟨b.nums.length,ctrK b es hs ss 0,Sub.mk (by simp[ctrK]) (by simp[ctrK,laid,spB,wkC]),0,Zud _,rfl,(fun j x hj=>by omega),rfl⟩ ?_;rintro J hJ n τ ⟨k,hk,rfl,hinv,rfl⟩;by_cases hlt:k<b.nums.length
 ·obtain⟨x,hx⟩:∃x,b.nums[k]?=some x:=⟨b.nums[k],Zt3 hlt⟩;have hxm:=Zua hx;have hgx:(b.nums.map intP)[k]?=some (.int .i64 x):=by rw[Zt4,hx];rfl
  have hw:=wrapK (k:=k) (by omega);have hmeas:b.nums.length-(k+1)<b.nums.length-k:=by omega
  obtain⟨hcm,hcn⟩:=Zby hb hxm;have hbd:=Zbi hb hcm;have hfx:=hes.f x;rw[if_pos hxm]at hfx;have hko:=hes.k;have hhold:=Zgw b es hs ss _ hH (b.get x);have hround:b.contraAt x=false→J (b.nums.length-(k+1)) (ctrK b es hs ss (k+1)):=fun h=>hJ _ _ ⟨k+1,hlt,rfl,(fun j y hj hy=>by
   rcases ZuW.1 hj with h'|h'
   ·exact hinv j y h' hy
   ·subst h';rw[hx]at hy;cases hy;exact h),rfl⟩
  have hend:b.contraAt x=true→b.nums.any b.contraAt=true:=fun h=>Zux.2 ⟨x,hxm,h⟩
  have hca:b.contraAt x=((b.held []).contains x&&decide ((b.itemSpan (b.held []) (b.span (b.held [])) (b.get x).it (b.get x).day 1000).hi<(b.itemSpan (b.held []) (b.span (b.held [])) (b.get x).it (b.get x).day 1000).lo)):=rfl;generalize b.get x=y at *;obtain⟨yn,yi,ys,yd,yv,⟨yl,yh⟩⟩:=y;simp only at hcn hbd hhold hca;subst hcn;unfold Ct.pv at hfx;obtain⟨si,rfl⟩:∃si:Nat,yi=si:=⟨yi.toNat,by omega⟩;have hspan:=Zl5 b hb es hs ss hes hH (b.span (b.held [])) si (by omega) yd 1000 (by omega) hS;generalize b.itemSpan (b.held []) (b.span (b.held [])) si yd 1000=R1 at *;have hlt':decide ((k:Int)<(b.nums.length:Int))=true:=by simp;omega
  simp[-getElem?_pos,-List.getElem?_map,-decide_eq_true_eq,-decide_eq_false_iff_not,ctrK,laid,spB,wkC,hlt,hlt',hgx,hko,hfx,-retB];refine cM [.ptr (.par 0) 0,.pv (.int .i64 si),.pv (.int .i64 yd),.pv (.int .i64 1000)] (laid 0 (spB b es hs ss)) 33 [.par 0,.par 1,.par 2,.par 3,.par 4] (by simp[laid,spB,wkC]) hspan (by simp[laid,spB,wkC]) ?_;simp[-getElem?_pos,-List.getElem?_map,-decide_eq_true_eq,-decide_eq_false_iff_not,laid,spB,wkC,-retB,Cr.pv];refine cM [.ptr (.par 0) 0,.pv (Ct.pv ⟨yn,si,ys,yd,yv,⟨yl,yh⟩⟩)] (laid 0 (spB b es hs ss)) 36 [.par 0,.par 1,.par 2,.par 3,.par 4] (by simp[laid,spB,wkC]) hhold (by simp[laid,spB,wkC]) ?_;generalize(b.held []).contains yn=v at *;cases v
  ·have hround:=hround hca;simp[-getElem?_pos,-List.getElem?_map,-decide_eq_true_eq,-decide_eq_false_iff_not,laid,spB,wkC,-retB,hw];exact⟨_,_,hmeas,Sub.mk (by simp[ctrK]) (by simp[ctrK,laid,spB,wkC]),hround⟩
  ·rw[Bool.true_and]at hca;cases hd:decide (R1.hi<R1.lo)
   ·have hround:=hround (by rw[hca,hd]);simp[-getElem?_pos,-List.getElem?_map,-decide_eq_true_eq,-decide_eq_false_iff_not,laid,spB,wkC,-retB,hw,hd];exact⟨_,_,hmeas,Sub.mk (by simp[ctrK]) (by simp[ctrK,laid,spB,wkC]),hround⟩
   ·have he:=hend (by rw[hca,hd]);simp[-getElem?_pos,-List.getElem?_map,-decide_eq_true_eq,-decide_eq_false_iff_not,laid,spB,wkC,hw,hd];rw[←hR,he];simp[laid,spB,wkC]
 ·have he:k=b.nums.length:=by omega
  subst he;clear hJ;have hno:b.nums.any b.contraAt=false:=by
   rw[List.any_eq_false];intro x hx;obtain⟨j,hj⟩:=Zui.1 hx;simp[hinv j x (Zt5.1 hj).1 hj]
  simp[-getElem?_pos,-List.getElem?_map,ctrK,laid,spB,wkC];rw[←hR,hno];simp[laid,spB,wkC]
end
section
open Go.RowKit
set_option maxRecDepth 10000
attribute [local irreducible] Bk.held Bk.nums Bk.span
def Bk.spanM (b:Bk)(item day:Int):Cr×Int:=if b.askM item day=0 then(if b.contra=true then(⟨0,0⟩,9)else(b.itemSpan (b.held []) (b.span (b.held [])) item day 1000,0))else(⟨0,0⟩,b.askM item day)
def spanE (x:Cr×Int):PV:=.tup [x.1.pv,.int .i64 x.2]
attribute [local simp] AS.exp expG Box.ren AV.map AV.mapL Zau noRet Site.isRet Box.allS AV.allS AV.allSL retB dropL AS.adds renL outG outOk Zas inG fnOf lookA Zuq
attribute [local simp] Box.purge Site.isLoc
attribute [local simp] ZaD Zay Zam ZaB Za4
set_option maxHeartbeats 16000000 in
theorem ZtY (b:Bk)(hi:b.items.length≤1000)(hc:b.certs.length≤1000)(item day:Int):Gives Tryz.prog 147 [b.pv,.int .i64 item,.int .i64 day] (spanE (b.spanM item day)):=by
 have hask:=Zn1 b hi hc item day;refine cSR L147 ?_;intro R hR;simp[-getElem?_pos,L147,Bk.pv];refine cL [.pv b.pv,.pv (.int .i64 item),.pv (.int .i64 day)] [] 16 [] rfl hask ?_
 rintro r0 B0 (⟨h0,rfl,rfl⟩|⟨h0,hf0,hit,hdy,hih,es,hes,rfl,rfl⟩)
 ·refine⟨rfl,by simp,?_⟩;have hd:decide (b.askM item day=0)=false:=by simpa using h0
  have hM:b.spanM item day=(⟨0,0⟩,b.askM item day):=by unfold Bk.spanM;rw[if_neg h0]
  simp[-getElem?_pos,-decide_eq_true_eq,-decide_eq_false_iff_not,hd];rw[←hR,hM];exact⟨rfl,rfl⟩
 have hb:b.ok:=Bk.ok_iff.1 hf0;refine⟨rfl,by simp[wkC],?_⟩;have hsp:=Zjm b hb es hes;have hH:=ZcF hb [];have hS:=Zf0 hb 1000;simp[-getElem?_pos,-List.getElem?_map,wkC];refine cM [.ptr (.par 0) 0] (laid 0 (wkB b [] es)) 25 [.loc 16 0,.loc 16 1] (by simp[laid,wkB,wkC]) hsp (by simp[wkC]) ?_;generalize hEnt b [] b.nums.length=hs at *;generalize sEnt b b.nums.length=ss at *;have hct:=Zh9 b hb es hs ss hes hH hS;have hii:0≤item∧item<b.items.length:=by
  unfold Bk.hasItem inB at hit;simp only[Zt7,decide_eq_true_eq]at hit;omega
 have hdd:0≤day∧day≤1000:=by
  unfold inB at hdy;simp only[Zt7,decide_eq_true_eq]at hdy;omega
 obtain⟨si,rfl⟩:∃si:Nat,item=si:=⟨item.toNat,by omega⟩;have hspan:=Zl5 b hb es hs ss hes hH (b.span (b.held [])) si (by omega) day 1000 hdd hS;have hM:b.spanM si day=if b.contra=true then(⟨0,0⟩,9)else(b.itemSpan (b.held []) (b.span (b.held [])) si day 1000,0):=by unfold Bk.spanM;rw[if_pos h0]
 rw[hM]at hR;generalize b.itemSpan (b.held []) (b.span (b.held [])) si day 1000=R1 at *;simp[-getElem?_pos,-List.getElem?_map,wkC];refine cM [.ptr (.par 0) 0] (laid 0 (spB b es hs ss)) 27 [.loc 25 0,.loc 25 1,.loc 25 2,.loc 16 0,.loc 16 1] (by simp[laid,spB,wkC]) hct (by simp[laid,spB,wkC]) ?_;cases hcn:b.contra
 ·rw[hcn,if_neg (by simp)]at hR;simp[-getElem?_pos,-List.getElem?_map,laid,spB,wkC];refine cM [.ptr (.par 0) 0,.pv (.int .i64 si),.pv (.int .i64 day),.pv (.int .i64 1000)] (laid 0 (spB b es hs ss)) 32 [.loc 25 0,.loc 25 1,.loc 25 2,.loc 16 0,.loc 16 1] (by simp[laid,spB,wkC]) hspan (by simp[laid,spB,wkC]) ?_;simp[-getElem?_pos,-List.getElem?_map,laid,spB,wkC,Cr.pv];rw[←hR];exact⟨rfl,rfl⟩
 ·rw[hcn,if_pos rfl]at hR;simp[-getElem?_pos,-List.getElem?_map,laid,spB,wkC];rw[←hR];exact⟨rfl,rfl⟩
end
section
open Go.RowKit
def lexB:List Int→List Int→Bool
 |a::azz,b::bs=>decide (a<b)||(decide (a=b)&&lexB azz bs)
 |[],_::_=>true
 |_,[]=>false
def ltC (a b:List Int):Bool:=decide (a.length<b.length)||(decide (a.length=b.length)&&lexB a b)
theorem ZkE:∀a:List Int,lexB a a=false
 |[]=>rfl
 |a::azz=>by unfold lexB;rw[ZkE azz];simp
theorem ZkD:∀a b:List Int,a.length=b.length→lexB a b=false→lexB b a=false→a=b
 |[],[],_,_,_=>rfl
 |[],_::_,h,_,_=>by cases h
 |_::_,[],h,_,_=>by cases h
 |a::azz,b::bs,h,h1,h2=>by
  unfold lexB at h1 h2;simp only[Bool.or_eq_false_iff,Bool.and_eq_false_iff,decide_eq_false_iff_not]at h1 h2;have e:a=b:=by omega
  subst e;rw[ZkD azz bs (by simpa using h) (by simpa using h1.2) (by simpa using h2.2)]
theorem Zhf:∀a b c:List Int,lexB a b=true→lexB b c=true→lexB a c=true
 |[],[],_,h,_=>by cases h
 |[],b::bs,c,_,h=>by
  cases c with
  |nil=>cases h
  |cons c cs=>rfl
 |a::azz,[],_,h,_=>by cases h
 |a::azz,b::bs,[],_,h=>by cases h
 |a::azz,b::bs,c::cs,h1,h2=>by
  unfold lexB at h1 h2 ⊢;simp only[ZuK,Zt7,decide_eq_true_eq]at h1 h2 ⊢;rcases h1 with h1|⟨h1,h1'⟩<;>rcases h2 with h2|⟨h2,h2'⟩
  ·left;omega
  ·left;omega
  ·left;omega
  ·right;exact⟨by omega,Zhf azz bs cs h1' h2'⟩
theorem Zgg (a:List Int):ltC a a=false:=by unfold ltC;rw[ZkE];simp
theorem Zm0 {a b:List Int}(h1:ltC a b=false)(h2:ltC b a=false):a=b:=by
 unfold ltC at h1 h2;simp only[Bool.or_eq_false_iff,Bool.and_eq_false_iff,decide_eq_false_iff_not]at h1 h2;have e:a.length=b.length:=by omega
 exact ZkD a b e (by rcases h1.2 with h|h;exact absurd e h;exact h) (by rcases h2.2 with h|h;exact absurd e.symm h;exact h)
theorem ZiF {a b c:List Int}(h1:ltC a b=true)(h2:ltC b c=true):ltC a c=true:=by
 unfold ltC at h1 h2 ⊢;simp only[ZuK,Zt7,decide_eq_true_eq]at h1 h2 ⊢;rcases h1 with h1|⟨h1,h1'⟩<;>rcases h2 with h2|⟨h2,h2'⟩
 ·left;omega
 ·left;omega
 ·left;omega
 ·right;exact⟨by omega,Zhf a b c h1' h2'⟩
theorem ZkF:∀(a b:List Int) (n:Int),a.length=b.length→lexB (a++[n]) (b++[n])=lexB a b
 |[],[],n,_=>by simp[lexB]
 |[],_::_,_,h=>by cases h
 |_::_,[],_,h=>by cases h
 |a::azz,b::bs,n,h=>by
  show(decide (a<b)||(decide (a=b)&&lexB (azz++[n]) (bs++[n])))=(decide (a<b)||(decide (a=b)&&lexB azz bs));rw[ZkF azz bs n (by simpa using h)]
theorem ZrV (a b:List Int)(n:Int):ltC (a++[n]) (b++[n])=ltC a b:=by
 unfold ltC;rw[Zt9,Zt9];by_cases h:a.length=b.length
 ·rw[ZkF a b n h,Zuz];simp
 ·rw[Zuz];simp[h]
def stepC (o:Option (List Int))(x:List Int):Option (List Int):=match o with
 |none=>some x
 |some m=>if ltC x m=true then some x else some m
def minC (l:List (List Int)):Option (List Int):=l.foldl stepC none
theorem Zf9:∀(l:List (List Int)) (o:Option (List Int)),(o=none∧l=[]∧l.foldl stepC o=none)∨∃m,l.foldl stepC o=some m∧(o=some m∨m∈l)∧(∀x∈l,ltC x m=false)∧∀x,o=some x→ltC x m=false
 |[],none=>.inl ⟨rfl,rfl,rfl⟩
 |[],some x=>.inr ⟨x,rfl,.inl rfl,fun y hy=>(by cases hy),fun y hy=>by cases hy;exact Zgg x⟩
 |y::l,o=>by
  rw[List.foldl_cons];have key:∃z,stepC o y=some z∧(o=some z∨z=y)∧ltC y z=false∧∀x,o=some x→ltC x z=false:=by
   cases o with
   |none=>exact⟨y,rfl,.inr rfl,Zgg y,fun x hx=>by cases hx⟩
   |some m=>
    unfold stepC;simp only;split
    ·rename_i h;refine⟨y,rfl,.inr rfl,Zgg y,fun x hx=>?_⟩;cases hx;rw[Bool.eq_false_iff];intro h'
     have:=ZiF h h'
     rw[Zgg]at this;cases this
    ·rename_i h;exact⟨m,rfl,.inl rfl,by simpa using h,fun x hx=>by cases hx;exact Zgg m⟩
  obtain⟨z,h1,h2,h3,h4⟩:=key;rw[h1];rcases Zf9 l (some z)with⟨h,_⟩|⟨m,k1,k2,k3,k4⟩
  ·cases h
  ·have kz:=k4 z rfl;have lift:∀x,ltC x z=false→ltC x m=false:=fun x hx=>by
    rw[Bool.eq_false_iff];intro h';by_cases e:ltC z x=true
    ·have:=ZiF e h'
     rw[kz]at this;cases this
    ·have:x=z:=Zm0 hx (by simpa using e)
     subst this;rw[kz]at h';cases h'
   refine .inr ⟨m,k1,?_,fun x hx=>?_,fun x hx=>lift x (h4 x hx)⟩
   ·rcases k2 with k2|k2
    ·cases k2;rcases h2 with h2|h2
     ·exact .inl h2
     ·right;rw[h2];simp
    ·right;simp[k2]
   ·rcases Zul.1 hx with e|e
    ·subst e;exact lift _ h3
    ·exact k3 x e
theorem Zci {l:List (List Int)}:minC l=none↔l=[]:=by
 rcases Zf9 l none with⟨_,h1,h2⟩|⟨m,h1,h2,_⟩
 ·exact⟨fun _=>h1,fun _=>h2⟩
 ·constructor
  ·intro h;rw[minC,h1]at h;cases h
  ·intro h;subst h;rcases h2 with h2|h2
   ·cases h2
   ·cases h2
theorem Zb3 {l:List (List Int)}{m:List Int}(h:minC l=some m):m∈l∧∀x∈l,ltC x m=false:=by
 rcases Zf9 l none with⟨_,_,h2⟩|⟨m',h1,h2,h3,_⟩
 ·rw[minC,h2]at h;cases h
 ·rw[minC,h1]at h;cases h;rcases h2 with h2|h2
  ·cases h2
  ·exact⟨h2,h3⟩
theorem ZhT {l:List (List Int)}{m:List Int}(h1:m∈l)(h2:∀x∈l,ltC x m=false):minC l=some m:=by
 cases h:minC l with
 |none=>rw[Zci]at h;subst h;cases h1
 |some m'=>
  obtain⟨k1,k2⟩:=Zb3 h;rw[Zm0 (k2 m h1) (h2 m' k1)]
theorem ZiE {l l':List (List Int)}(h:∀x,x∈l↔x∈l'):minC l=minC l':=by
 cases hm:minC l with
 |none=>
  rw[Zci]at hm;subst hm;symm;rw[Zci];cases l' with
  |nil=>rfl
  |cons x l'=>exact absurd ((h x).2 (by simp)) (by simp)
 |some m=>
  obtain⟨h1,h2⟩:=Zb3 hm;exact(ZhT ((h m).1 h1) fun x hx=>h2 x ((h x).2 hx)).symm
theorem Zhb {α:Type}{L:List α}{f:α→List (List Int)}:minC (L.flatMap f)=minC (L.filterMap fun x=>minC (f x)):=by
 cases hm:minC (L.flatMap f)with
 |none=>
  rw[Zci,List.flatMap_eq_nil_iff]at hm;symm;rw[Zci,List.filterMap_eq_nil_iff];exact fun x hx=>Zci.2 (hm x hx)
 |some m=>
  obtain⟨h1,h2⟩:=Zb3 hm;obtain⟨x,hx,hxm⟩:=List.mem_flatMap.1 h1;have e:minC (f x)=some m:=ZhT hxm fun y hy=>h2 y (List.mem_flatMap.2 ⟨x,hx,hy⟩)
  refine(ZhT (List.mem_filterMap.2 ⟨x,hx,e⟩) fun y hy=>?_).symm;obtain⟨z,hz,hzy⟩:=List.mem_filterMap.1 hy;exact h2 y (List.mem_flatMap.2 ⟨z,hz,(Zb3 hzy).1⟩)
theorem ZoU {l:List (List Int)}{n:Int}:minC (l.map (·++[n]))=(minC l).map (·++[n]):=by
 cases hm:minC l with
 |none=>rw[Zci]at hm;subst hm;rfl
 |some m=>
  obtain⟨h1,h2⟩:=Zb3 hm;refine ZhT (Zug.2 ⟨m,h1,rfl⟩) fun x hx=>?_
  obtain⟨y,hy,rfl⟩:=Zug.1 hx;rw[ZrV];exact h2 y hy
end
section
open Go.RowKit
attribute [local simp] Box.purge Site.isLoc
set_option maxRecDepth 10000
theorem nan_c (x:Int):Gives Tryz.prog 225 [.int .i64 x] (.bool false):=by
 refine cS L225 ?_;simp[-getElem?_pos,L225]
def cmpI (x y:Int):Int:=if x<y then -1 else if y<x then 1 else 0
theorem cmp_c (x y:Int):Gives Tryz.prog 186 [.int .i64 x,.int .i64 y] (.int .i64 (cmpI x y)):=by
 refine cS L186 ?_;simp[-getElem?_pos,L186];refine cG [.int .i64 x] (nan_c x) ?_;simp[-getElem?_pos];refine cG [.int .i64 y] (nan_c y) ?_;simp[-getElem?_pos];unfold cmpI;by_cases h1:x<y
 ·simp[-getElem?_pos,h1]
 ·by_cases h2:y<x
  ·simp[-getElem?_pos,h1,h2]
  ·simp[-getElem?_pos,h1,h2]
def cmpL:List Int→List Int→Int
 |[],[]=>0
 |[],_::_=>-1
 |_::_,[]=>1
 |a::r,b::t=>if cmpI a b=0 then cmpL r t else cmpI a b
theorem ZnG {a b:List Int}{k:Nat}{x y:Int}(h1:a[k]?=some x)(h2:b[k]?=some y):cmpL (a.drop k) (b.drop k)=if cmpI x y=0 then cmpL (a.drop (k+1)) (b.drop (k+1))else cmpI x y:=by
 obtain⟨q1,e1⟩:=Zt5.1 h1;obtain⟨q2,e2⟩:=Zt5.1 h2;rw[List.drop_eq_getElem_cons q1,List.drop_eq_getElem_cons q2,e1,e2];rfl
theorem ZnC (a b:List Int)(ha:a.length≤2000)(hb:b.length≤2000):Gives Tryz.prog 146 [.lst false 1 (a.map intP),.lst false 1 (b.map intP)] (.int .i64 (cmpL a b)):=by
 refine cS L146 ?_;simp[-getElem?_pos,L146];refine Zae (fun n τ=>∃k:Nat,k≤a.length∧k≤b.length∧n=a.length-k∧cmpL a b=cmpL (a.drop k) (b.drop k)∧τ=⟨[(0,.pv (.lst false 1 (a.map intP))),(1,.pv (.lst false 1 (b.map intP))),(9,.pv (.lst false 1 (a.map intP))),(10,.pv (.int .i64 a.length)),(11,.pv (.int .i64 k))],[]⟩)
  ⟨a.length,⟨[(0,.pv (.lst false 1 (a.map intP))),(1,.pv (.lst false 1 (b.map intP))),(9,.pv (.lst false 1 (a.map intP))),(10,.pv (.int .i64 a.length)),(11,.pv (.int .i64 0))],[]⟩,Sub.mk (by simp) (by simp),0,Zud _,Zud _,rfl,rfl,rfl⟩ ?_
 rintro J hJ n τ ⟨k,hk,hk2,rfl,hinv,rfl⟩;rw[hinv];by_cases hlt:k<a.length
 ·obtain⟨x,hx⟩:∃x,a[k]?=some x:=⟨a[k],Zt3 hlt⟩;have hgx:(a.map intP)[k]?=some (.int .i64 x):=by rw[Zt4,hx];rfl
  have hw:=wrapK (k:=k) (by omega);have hmeas:a.length-(k+1)<a.length-k:=by omega
  have hlt':decide ((k:Int)<(a.length:Int))=true:=by simp;omega
  by_cases hlt2:k<b.length
  ·obtain⟨y,hy⟩:∃y,b[k]?=some y:=⟨b[k],Zt3 hlt2⟩;have hgy:(b.map intP)[k]?=some (.int .i64 y):=by rw[Zt4,hy];rfl
   have hge:¬b.length≤k:=by omega
   have hdr:=ZnG hx hy;have hcc:=cmp_c x y;have hround:=fun h:cmpI x y=0=>hJ _ _ ⟨k+1,hlt,hlt2,rfl,by rw[hinv,hdr,if_pos h],rfl⟩
   rw[hdr];generalize cmpI x y=c at *;simp[-getElem?_pos,-List.getElem?_map,-decide_eq_true_eq,-decide_eq_false_iff_not,hlt,hlt',hgx,hge,hlt2,hgy];refine cG [.int .i64 x,.int .i64 y] hcc ?_;cases hc:decide (c=0)
   ·have hc':¬c=0:=by simpa using hc
    simp[-getElem?_pos,-List.getElem?_map,hc']
   ·have hc':c=0:=by simpa using hc
    have hround:=hround hc';simp[-getElem?_pos,-List.getElem?_map,hc',hw];exact⟨_,_,hmeas,Sub.mk (by simp) (by simp),hround⟩
  ·have hkb:k=b.length:=by omega
   have hge:b.length≤k:=by omega
   have hv:cmpL (a.drop k) (b.drop k)=1:=by
    rw[hkb,List.drop_length,List.drop_eq_getElem_cons (by omega)];rfl
   rw[hv];simp[-getElem?_pos,-List.getElem?_map,-decide_eq_true_eq,-decide_eq_false_iff_not,hlt,hlt',hgx,hge]
 ·have he:k=a.length:=by omega
  subst he;clear hJ;rw[List.drop_length];by_cases hl:a.length<b.length
  ·have hd:decide ((a.length:Int)<(b.length:Int))=true:=by simp;omega
   have hv:cmpL [] (b.drop a.length) = -1:=by rw[List.drop_eq_getElem_cons hl];rfl
   rw[hv];simp[-getElem?_pos,-List.getElem?_map,-decide_eq_true_eq,-decide_eq_false_iff_not,hd,hl]
  ·have hd:decide ((a.length:Int)<(b.length:Int))=false:=by simp;omega
   have hv:cmpL [] (b.drop a.length)=0:=by rw[List.drop_eq_nil_of_le (by omega)];rfl
   rw[hv];simp[-getElem?_pos,-List.getElem?_map,-decide_eq_true_eq,-decide_eq_false_iff_not,hd,hl]
def befV (a b:List Int):Int:=if(a.length:Int)-b.length=0 then cmpL a b else(a.length:Int)-b.length
theorem ZnF:∀a b:List Int,a.length=b.length→decide (cmpL a b<0)=lexB a b
 |[],[],_=>rfl
 |[],_::_,h=>by cases h
 |_::_,[],h=>by cases h
 |a::r,b::t,h=>by
  have ih:=ZnF r t (by simpa using h);show decide ((if cmpI a b=0 then cmpL r t else cmpI a b)<0)=(decide (a<b)||(decide (a=b)&&lexB r t));unfold cmpI;by_cases h1:a<b
  ·rw[if_pos h1];simp[h1]
  ·rw[if_neg h1];by_cases h2:b<a
   ·rw[if_pos h2]
    have:¬a=b:=by omega
    simp[h1,this]
   ·have e:a=b:=by omega
    rw[if_neg h2,if_pos rfl,ih];simp[e]
theorem ZnS (a b:List Int):decide (befV a b<0)=ltC a b:=by
 unfold befV ltC;by_cases h:a.length=b.length
 ·rw[if_pos (by omega),ZnF a b h];simp[h]
 ·rw[if_neg (by omega),Zuz];simp[h];omega
theorem or_c (x y:Int):Gives Tryz.prog 145 [.lst false 1 [.int .i64 x,.int .i64 y]] (.int .i64 (if x=0 then y else x)):=by
 refine cS L145 ?_;simp[-getElem?_pos,L145];have S:Nat→AS:=fun k=>⟨[(3,.pv (.int .i64 0)),(6,.pv (.lst false 1 [.int .i64 x,.int .i64 y])),(7,.pv (.int .i64 2)),(8,.pv (.int .i64 k))],[]⟩
 refine Zae (fun n τ=>(n=2∧τ=⟨[(3,.pv (.int .i64 0)),(6,.pv (.lst false 1 [.int .i64 x,.int .i64 y])),(7,.pv (.int .i64 2)),(8,.pv (.int .i64 0))],[]⟩)∨(n=1∧x=0∧τ=⟨[(3,.pv (.int .i64 0)),(6,.pv (.lst false 1 [.int .i64 x,.int .i64 y])),(7,.pv (.int .i64 2)),(8,.pv (.int .i64 1))],[]⟩)∨(n=0∧x=0∧y=0∧τ=⟨[(3,.pv (.int .i64 0)),(6,.pv (.lst false 1 [.int .i64 x,.int .i64 y])),(7,.pv (.int .i64 2)),(8,.pv (.int .i64 2))],[]⟩)) ⟨2,_,Sub.mk (by simp) (by simp),.inl ⟨rfl,rfl⟩⟩ ?_;have w1:IntKind.i64.wrap 1=1:=rfl;have w2:IntKind.i64.wrap 2=2:=rfl;rintro J hJ n τ (⟨rfl,rfl⟩|⟨rfl,hx,rfl⟩|⟨rfl,hx,hy,rfl⟩)
 ·by_cases h:x=0
  ·have hround:=hJ _ _ (.inr (.inl ⟨rfl,h,rfl⟩));clear hJ;subst h;simp[-getElem?_pos,w1];exact⟨_,_,(by omega:1<2),Sub.mk (by simp) (by simp),hround⟩
  ·simp[-getElem?_pos,h]
 ·subst hx;by_cases h:y=0
  ·have hround:=hJ _ _ (.inr (.inr ⟨rfl,rfl,h,rfl⟩));clear hJ;subst h;simp[-getElem?_pos,w2];exact⟨_,_,(by omega:0<1),Sub.mk (by simp) (by simp),hround⟩
  ·simp[-getElem?_pos,h]
 ·subst hx hy;simp[-getElem?_pos]
theorem Zk0 (a b:List Int)(ha:a.length≤2000)(hb:b.length≤2000):Gives Tryz.prog 105 [.lst false 1 (a.map intP),.lst false 1 (b.map intP)] (.int .i64 (befV a b)):=by
 have hc:=ZnC a b ha hb;have hw:IntKind.i64.wrap ((a.length:Int)-(b.length:Int))=(a.length:Int)-b.length:=wrap64 (by omega);have ho:=or_c ((a.length:Int)-b.length) (cmpL a b);refine cS L105 ?_;simp[-getElem?_pos,L105,hw];refine cG [.lst false 1 (a.map intP),.lst false 1 (b.map intP)] hc ?_;simp[-getElem?_pos];refine Zaa (k:=1) (fs:=[]) (xs:=[.lst false 1 [.int .i64 ((a.length:Int)-b.length),.int .i64 (cmpL a b)]]) (cs:=[]) rfl rfl ho rfl ?_;simp[-getElem?_pos,befV]
end
section
open Go.RowKit
def Bk.chU (b:Bk)(held:List Int):Nat→Int→List (List Int)
 |0,_=>[]
 |k+1,n=>if n=(k:Int)then(if(b.item (b.get n).src).std=true then[[n]]else(held.filter fun m=>Zc4 (b.get n) (b.get m)).flatMap fun m=>(b.chU held k m).map (·++[n]))else b.chU held k n
theorem ZfQ {b:Bk}{held:List Int}{k:Nat}{n:Int}:b.chU held (k+1) n=if n=(k:Int)then(if(b.item (b.get n).src).std=true then[[n]]else(held.filter fun m=>Zc4 (b.get n) (b.get m)).flatMap fun m=>(b.chU held k m).map (·++[n]))else b.chU held k n:=rfl
theorem ZgD {b:Bk}{held:List Int}{n:Int}:∀{k:Nat},n<(k:Int)→∀j,b.chU held (k+j) n=b.chU held k n
 |k,h,0=>rfl
 |k,h,j+1=>by
  rw[←Nat.add_assoc,ZfQ,if_neg (by omega)];exact ZgD h j
def Bk.chains (b:Bk)(held:List Int)(n:Int):List (List Int):=b.chU held 1000 n
theorem Zi4 {b:Bk}(hb:b.ok){held:List Int}(hh:∀m∈held,m∈b.nums){n:Nat}(hn:n<1000)(hn2:(n:Int)∈b.nums):b.chains held n=if(b.item (b.get n).src).std=true then[[(n:Int)]]else(held.filter fun m=>Zc4 (b.get n) (b.get m)).flatMap fun m=>(b.chains held m).map (·++[(n:Int)]):=by
 have e:b.chains held n=b.chU held (n+1) n:=by
  unfold Bk.chains;rw[show 1000=n+1+(1000-(n+1)) by omega];exact ZgD (by omega) _
 rw[e,ZfQ,if_pos rfl];split
 ·rfl
 ·have key:∀L:List Int,(∀m∈L,m<(n:Int))→(L.flatMap fun m=>(b.chU held n m).map (·++[(n:Int)]))=L.flatMap fun m=>(b.chains held m).map (·++[(n:Int)]):=by
   intro L;induction L with
   |nil=>exact fun _=>rfl
   |cons m L ih=>
    intro h;rw[List.flatMap_cons,List.flatMap_cons,ih fun x hx=>h x (by simp[hx])];congr 2;unfold Bk.chains;rw[show 1000=n+(1000-n) by omega];exact(ZgD (h m (by simp)) _).symm
  refine key _ fun m hm=>?_
  rw[Zum]at hm;have h1:=hm.2;unfold Zc4 at h1;simp only[Zt7,decide_eq_true_eq]at h1;have h2:=(Zby hb (hh m hm.1)).2;have h3:=(Zby hb hn2).2;omega
def Bk.endC (b:Bk)(held:List Int)(n:Int):Option (List Int):=minC (b.chains held n)
theorem Znt {b:Bk}(hb:b.ok){held:List Int}(hh:∀m∈held,m∈b.nums){n:Nat}(hn:n<1000)(hn2:(n:Int)∈b.nums):b.endC held n=if(b.item (b.get n).src).std=true then some [(n:Int)]else minC ((held.filter fun m=>Zc4 (b.get n) (b.get m)).filterMap fun m=>(b.endC held m).map (·++[(n:Int)])):=by
 unfold Bk.endC;rw[Zi4 hb hh hn hn2];split
 ·rfl
 ·rw[Zhb];congr 2;funext m;exact ZoU
theorem Zdd {b:Bk}(hb:b.ok){bad:List Int}:∀m∈b.held bad,m∈b.nums:=fun m hm=>by
 obtain⟨c,hc,e,_⟩:=(ZeD hb).1 hm;exact(Zbu hb).2 ⟨c,hc,e⟩
def Bk.bestC (b:Bk)(held:List Int)(item day:Int):Option (List Int):=minC ((held.filter fun m=>decide ((b.get m).it=item)&&(b.get m).on day).flatMap (b.chains held))
theorem ZpZ {b:Bk}{held:List Int}{item day:Int}:b.bestC held item day=minC ((held.filter fun m=>decide ((b.get m).it=item)&&(b.get m).on day).filterMap (b.endC held)):=by
 unfold Bk.bestC;rw[Zhb];rfl
theorem ZkY {b:Bk}{held:List Int}:∀(k:Nat) (n:Int),∀l∈b.chU held k n,∃l',l=l'++[n]
 |0,n,l,h=>by cases h
 |k+1,n,l,h=>by
  rw[ZfQ]at h;split at h
  ·split at h
   ·simp at h;exact⟨[],by simpa using h⟩
   ·obtain⟨m,_,hm⟩:=List.mem_flatMap.1 h;obtain⟨l',_,rfl⟩:=Zug.1 hm;exact⟨l',rfl⟩
  ·exact ZkY k n l h
theorem ZjY {b:Bk}(hb:b.ok):∀n:Nat,(n:Int)∈b.held []→b.chains (b.held []) n≠[]:=by
 intro n;induction n using Nat.strongRecOn with
 |_ n ih=>
 intro hx;have hn2:=Zdd hb _ hx;obtain⟨h1,h2⟩:=Zby hb hn2;obtain⟨n',hn',h3,h4⟩:=ZiC hb h1
 have:n'=n:=by omega
 subst this;rw[Zi4 hb (Zdd hb) h4 hn2];split
 ·simp
 ·rename_i hs;intro e;rw[List.flatMap_eq_nil_iff]at e;obtain⟨c,hc,e1,e2⟩:=(ZeD hb).1 hx;have hcg:b.get (n':Int)=c:=by rw[←e1];exact Zd7 hb hc
  unfold Bk.holdB at e2;rw[Zt7,ZuK]at e2;rcases e2.1 with h|h
  ·rw[←hcg]at h;exact hs h
  ·rw[Zux]at h;obtain⟨o,ho,h5⟩:=h;rw[Zt7,ZuC]at h5;obtain⟨m,hm,_,_⟩:=ZiC hb ho;have hlt:o.num<c.num:=by have:=h5.1;unfold Zc4 at this;simp only[Zt7,decide_eq_true_eq]at this;exact this.1.2
   have hmem:o.num∈(b.held []).filter fun m=>Zc4 (b.get n') (b.get m):=by
    rw[Zum,hcg,Zd7 hb ho];exact⟨h5.2,h5.1⟩
   have:=e o.num hmem
   rw[List.map_eq_nil_iff,hm]at this;rw[hm]at h5;exact ih m (by omega) h5.2 this
end
section
open Go.RowKit
set_option maxRecDepth 10000
attribute [local irreducible] Bk.held Bk.nums Bk.span Bk.chains
theorem ZjZ {b:Bk}{held:List Int}:∀(k:Nat) (n:Int),∀l∈b.chU held k n,l.length≤k
 |0,n,l,h=>by cases h
 |k+1,n,l,h=>by
  rw[ZfQ]at h;split at h
  ·split at h
   ·simp at h;subst h;simp
   ·obtain⟨m,_,hm⟩:=List.mem_flatMap.1 h;obtain⟨l',hl',rfl⟩:=Zug.1 hm
    have:=ZjZ k m l' hl'
    rw[Zt9];simp;exact this
  ·have:=ZjZ k n l h;omega
def Bk.endL (b:Bk)(n:Int):List Int:=(b.endC (b.held []) n).getD []
theorem ZeR {b:Bk}{n:Int}:(b.endL n).length≤1000:=by
 unfold Bk.endL;cases h:b.endC (b.held []) n with
 |none=>simp
 |some l=>
  unfold Bk.endC at h
  have:=(Zb3 h).1
  unfold Bk.chains at this;exact ZjZ 1000 n l this
theorem ZbK {b:Bk}(hb:b.ok){n:Int}(h:(b.held []).contains n=true):b.endC (b.held []) n=some (b.endL n)∧b.endL n≠[]:=by
 have hx:=ZuC.1 h;have hn:=Zf7 hb n (ZiQ hb hx);obtain⟨nn,rfl⟩:∃nn:Nat,n=nn:=⟨n.toNat,by omega⟩;unfold Bk.endL;cases he:b.endC (b.held []) (nn:Int)with
 |none=>
  unfold Bk.endC at he;rw[Zci]at he;exact absurd he (ZjY hb nn hx)
 |some l=>
  refine⟨rfl,fun e=>?_⟩;unfold Bk.endC at he
  have:=(Zb3 he).1
  unfold Bk.chains at this;obtain⟨l',hl'⟩:=ZkY 1000 _ l this;have e':l=[]:=e;rw[e']at hl';simp at hl'
structure EMap (b:Bk)(below:Int)(em:List (PV×PV)):Prop where
 k:ZbC kI em=true
 f:∀m:Int,m<below→(findV (.int .i64 m) em).getD (.emp (some true))=if(b.held []).contains m=true then .lst false 1 ((b.endL m).map intP)else .emp (some true)
attribute [local simp] AS.exp expG Box.ren AV.map AV.mapL Zau noRet Site.isRet Box.allS AV.allS AV.allSL retB dropL AS.adds renL outG outOk Zas inG fnOf lookA Zuq
attribute [local simp] Box.purge Site.isLoc
attribute [local simp] ZaD Zay Zam ZaB Za4
theorem Zj3 (H:Int→Bool)(hs:List (PV×PV))(hH:HMap H hs)(c:Ct):Zak Tryz.prog 103 [.pv c.pv,.ptr (.par 0) 0] (laid 0 (hdB hs 0)) (fun r B=>r=.pv (.bool (H c.num))∧B=laid 0 (hdB hs 0)):=by
 have hf:=hH.f c.num;have hk:=hH.k;refine cB [.par 0,.par 1] L103 ?_;simp[-getElem?_pos,L103,hdB,laid,Ct.pv,hf,hk]
theorem ZpC:Gives Tryz.prog 65 [.emp (some true)] (.emp (some true)):=by
 refine cS L65 ?_;simp[-getElem?_pos,L65,nilOf]
end
section
open Go.RowKit
set_option maxRecDepth 10000
attribute [local irreducible] Bk.held Bk.nums Bk.span Bk.endL
theorem cok38:COk Tryz.prog (tyOf tys) L66.code:=Zdl L66_ok L66_tab
def bestP:Option (List Int)→PV
 |none=>.emp (some true)
 |some l=>.lst false 1 (l.map intP)
noncomputable def beX (b:Bk)(es hs em:List (PV×PV))(n:Int)(s:Option (List Int)):List Box:=[.loop (rcode Tryz.prog 66 0) [72] 136 [(11,.ptr (.par 2) 0),(12,.ptr (.par 5) 0),(14,.ptr (.par 7) 0),(16,.ptr (.par 1) 0)] none,
 .cells [.pv (bestP s)],.cells [.fn 103 [] [.ptr (.par 3) 0]],.cells [.mp (.par 4)],.map hs,.cells [.mp (.par 6)],.map em,.cells [.pv (.int .i64 n)],capB (.par 9),.cells (wkC b (.par 10) (badZ [])),.map es]
def Zjc (b:Bk)(n:Int)(s:Option (List Int))(c:Ct):Option (List Int):=match(b.held []).contains c.num with
 |true=>stepC s (b.endL c.num++[n])
 |false=>s
def ZqQ (s:Option (List Int)):Prop:=∀l,s=some l→l≠[]∧l.length≤1001
attribute [local simp] AS.exp expG Box.ren AV.map AV.mapL Zau noRet Site.isRet Box.allS AV.allS AV.allSL retB dropL AS.adds renL outG outOk Zas inG fnOf lookA Zuq
attribute [local simp] Box.purge Site.isLoc
attribute [local simp] ZaD Zay Zam ZaB Za4
noncomputable def beY (b:Bk)(es hs em:List (PV×PV))(n:Int)(s:Option (List Int))(y:Ct)(a:AV)(B:List (Site×Box)):AS:=⟨[(11,.ptr (.par 2) 0),(12,.ptr (.par 5) 0),(14,.ptr (.par 7) 0),(16,.ptr (.par 1) 0),(17,.ptr (.loc 17 0) 0),(77,a),(79,.vec (.loc 79 0) 1 0 1)],
 (laid 0 (beX b es hs em n s)).drop 1++((.loc 17 0,.cells [.pv (.int .i64 y.num),.pv (.int .i64 y.it),.pv (.int .i64 y.src),.pv (.int .i64 y.day),.pv (.int .i64 y.valid),.pv (.int .i64 y.diff.lo),.pv (.int .i64 y.diff.hi)])::(.loc 79 0,.arr 3 1 [.int .i64 n])::B)⟩
section
set_option maxHeartbeats 16000000 in
noncomputable def beC (b:Bk)(hb:b.ok)(es hs em:List (PV×PV))(hH:HMap (fun n=>(b.held []).contains n) hs)(n:Int)(hE:EMap b n em):Cons Tryz.prog where
 m:=11
 S:=Option (List Int)
 X:=beX b es hs em n
 step s x:=(Zjc b n s (ctOf x),true)
 good x:=∃c:Ct,c.num<n∧x=c.pv
 live:=ZqQ
 m0:=by omega
 len _:=rfl
 cl c:=by
  intro bx hb;simp only[beX,Zul,List.not_mem_nil,or_false]at hb;rcases hb with rfl|rfl|rfl|rfl|rfl|rfl|rfl|rfl|rfl|rfl|rfl
  all_goals first|rfl|simp[wkC,Site.lt,Zay]
 goes s x hs hx _:=by
  obtain⟨y,hy,rfl⟩:=hx;rw[ZgA];have hl:=ZeR (b:=b) (n:=y.num);intro l hl';unfold Zjc at hl';split at hl'
  ·unfold stepC at hl';split at hl'
   ·cases hl';exact⟨by simp,by rw[Zt9];simp;omega⟩
   ·split at hl'
    ·cases hl';exact⟨by simp,by rw[Zt9];simp;omega⟩
    ·exact hs l hl'
  ·exact hs l hl'
 yields s x hc hx:=by
  obtain⟨y,hy,rfl⟩:=hx;rw[ZgA];have hcok:COk Tryz.prog (tyOf tys) (.rng 136 (.t 71) (rcode Tryz.prog 66 0) Y66_0a Y66_0b [72]):=cok38.2.2.2.2.2.1.2.2.2.1.2.2.2.2.1.2;have hf:=hE.f y.num hy;have hk:=hE.k;have hcall:=Zj3 _ hs hH y;have hlen:=ZeR (b:=b) (n:=y.num);have hnn:=fun h:(b.held []).contains y.num=true=>(ZbK hb h).2
  have hstep:Zjc b n s y=match(b.held []).contains y.num with
   |true=>stepC s (b.endL y.num++[n])
   |false=>s:=rfl
  rw[hstep];clear hstep;generalize b.endL y.num=E at *;generalize hcv:(b.held []).contains y.num=v at *;refine ZaG mixed hcok.1 hcok.2.1 rfl rfl (by simp) rfl ?_;cases v
  ·rw[if_neg (by simp)]at hf;simp[-getElem?_pos,-List.getElem?_map,Y66_0a,Y66_0b,beX,laid,putL,Ct.pv,capB,wkC,hk,hf];refine Zdx (beY b es hs em n s y (.pv (.emp (some true))) []) ?_ ?_
   ·simp[-getElem?_pos,-List.getElem?_map,Zaf,Zaj];refine⟨?_,?_⟩
    all_goals
     refine cQ [] [.emp (some true)] ZpC ?_;simp[-getElem?_pos,-List.getElem?_map,frzsL,Zaf,Zaj];refine Sub.mk ?_ ?_
     ·simp[beY]
     ·simp[beY,beX,laid,capB,wkC]
   ·simp[-getElem?_pos,-List.getElem?_map,Zaf,Zaj,beY,beX,laid,capB,wkC,nble,nblt];refine cM [.pv y.pv,.ptr (.par 0) 0] (laid 0 (hdB hs 0)) 83 [.par 3,.par 4] (by simp[laid,hdB]) hcall (by simp[laid,hdB]) ?_;simp[-getElem?_pos,-List.getElem?_map,laid,hdB,-retB];exact⟨[],[.par 1,.par 2,.par 3,.par 4,.par 5,.par 6,.par 7,.par 8,.par 9,.par 10],rfl,rfl,by simp[frzL],rfl,by simp[frzL,wkC]⟩
  ·rw[if_pos rfl]at hf;simp[-getElem?_pos,-List.getElem?_map,Y66_0a,Y66_0b,beX,laid,putL,Ct.pv,capB,wkC,hk,hf];refine Zdx (beY b es hs em n s y (.vec (.loc 77 0) 1 0 E.length) [(.loc 77 0,.arr 3 1 (E.map intP))]) ?_ ?_
   ·simp[-getElem?_pos,-List.getElem?_map,Zaf,Zaj];refine⟨?_,?_⟩
    all_goals
     refine ZpL [] (fs:=[]) (xs:=[.lst false 1 (E.map intP)]) (cs:=[]) rfl rfl (ZjT E (hnn rfl) (by omega)) ?_;simp[-getElem?_pos,-List.getElem?_map,frzsL,Zaf,Zaj];refine Sub.mk ?_ ?_
     ·simp[beY]
     ·simp[beY,beX,laid,capB,wkC]
   ·have hE6:E.length≤999999:=by omega
    have hE7:(E.map intP).take E.length=E.map intP:=Zub (by simp);have hE8:(E.map intP++[PV.int .i64 n]).take (E.length+1)=E.map intP++[PV.int .i64 n]:=Zub (by simp);simp[-getElem?_pos,-List.getElem?_map,Zaf,Zaj,beY,beX,laid,capB,wkC,nble,nblt,hE6,hE7];refine cM [.pv y.pv,.ptr (.par 0) 0] (laid 0 (hdB hs 0)) 83 [.par 3,.par 4] (by simp[laid,hdB]) hcall (by simp[laid,hdB]) ?_;cases s with
    |none=>
     simp[-getElem?_pos,-List.getElem?_map,laid,hdB,bestP,nilOf,-retB];exact⟨[.loc 80 0],[.par 1,.par 2,.par 3,.par 4,.par 5,.par 6,.par 7,.par 8,.par 9,.par 10],rfl,rfl,by simp[frzL,AS.frz,AV.frz,AV.frzL,Box.frz,AS.tidy,AS.frzC,fnA,unpvs,hE8],rfl,by simp[frzL,AS.frz,AV.frz,AV.frzL,Box.frz,AS.tidy,AS.frzC,fnA,unpvs,hE8,wkC,stepC,intP]⟩
    |some l=>
     obtain⟨hl0,hl1⟩:=hc l rfl;have hnil:nilOf .sl (.pv (.lst false 1 (l.map intP)))=some false:=by
      cases l with
      |nil=>exact absurd rfl hl0
      |cons a r=>rfl
     have hbf:=Zk0 (E++[n]) l (by rw[Zt9];simp;omega) (by omega);have hlt:=ZnS (E++[n]) l;have hst:stepC (some l) (E++[n])=if ltC (E++[n]) l=true then some (E++[n])else some l:=rfl;rw[hst];simp[-getElem?_pos,-List.getElem?_map,laid,hdB,bestP,hnil,-retB];refine Zaa (k:=0) (fs:=[]) (xs:=[.lst false 1 ((E++[n]).map intP),.lst false 1 (l.map intP)]) (cs:=[]) rfl (by simp[snapW,AV.snap,AV.snap0,intP,hE7];try exact hE8) hbf rfl ?_;cases hd:ltC (E++[n]) l
     ·rw[hd]at hlt;simp[-getElem?_pos,-List.getElem?_map,-decide_eq_true_eq,-decide_eq_false_iff_not,hlt,-retB];exact⟨[],[.par 1,.par 2,.par 3,.par 4,.par 5,.par 6,.par 7,.par 8,.par 9,.par 10],rfl,rfl,by simp[frzL],rfl,by simp[frzL,wkC,intP]⟩
     ·rw[hd]at hlt;simp[-getElem?_pos,-List.getElem?_map,-decide_eq_true_eq,-decide_eq_false_iff_not,hlt,-retB];exact⟨[.loc 80 0],[.par 1,.par 2,.par 3,.par 4,.par 5,.par 6,.par 7,.par 8,.par 9,.par 10],rfl,rfl,by simp[frzL,AS.frz,AV.frz,AV.frzL,Box.frz,AS.tidy,AS.frzC,fnA,unpvs,hE8],rfl,by simp[frzL,AS.frz,AV.frz,AV.frzL,Box.frz,AS.tidy,AS.frzC,fnA,unpvs,hE8,wkC,intP]⟩
end
end
section
open Go.RowKit
set_option maxRecDepth 10000
attribute [local irreducible] Bk.held Bk.nums Bk.span Bk.endL
noncomputable def bfX (b:Bk)(es hs em:List (PV×PV))(s:Option (List Int)):List Box:=[.loop (rcode Tryz.prog 66 1) [115] 136 [(11,.ptr (.par 2) 0),(12,.ptr (.par 5) 0),(19,.ptr (.par 1) 0)] none,
 .cells [.pv (bestP s)],.cells [.fn 103 [] [.ptr (.par 3) 0]],.cells [.mp (.par 4)],.map hs,.cells [.mp (.par 6)],.map em,capB (.par 8),.cells (wkC b (.par 9) (badZ [])),.map es]
def Zjb (b:Bk)(s:Option (List Int))(c:Ct):Option (List Int):=match(b.held []).contains c.num with
 |true=>stepC s (b.endL c.num)
 |false=>s
attribute [local simp] AS.exp expG Box.ren AV.map AV.mapL Zau noRet Site.isRet Box.allS AV.allS AV.allSL retB dropL AS.adds renL outG outOk Zas inG fnOf lookA Zuq
attribute [local simp] Box.purge Site.isLoc
attribute [local simp] ZaD Zay Zam ZaB Za4
section
set_option maxHeartbeats 16000000 in
noncomputable def bfC (b:Bk)(hb:b.ok)(es hs em:List (PV×PV))(hH:HMap (fun n=>(b.held []).contains n) hs)(hE:EMap b 1000 em):Cons Tryz.prog where
 m:=10
 S:=Option (List Int)
 X:=bfX b es hs em
 step s x:=(Zjb b s (ctOf x),true)
 good x:=∃c:Ct,c.num<1000∧x=c.pv
 live:=ZqQ
 m0:=by omega
 len _:=rfl
 cl c:=by
  intro bx hb;simp only[bfX,Zul,List.not_mem_nil,or_false]at hb;rcases hb with rfl|rfl|rfl|rfl|rfl|rfl|rfl|rfl|rfl|rfl
  all_goals first|rfl|simp[wkC,Site.lt,Zay]
 goes s x hs hx _:=by
  obtain⟨y,hy,rfl⟩:=hx;rw[ZgA];have hl:=ZeR (b:=b) (n:=y.num);intro l hl';unfold Zjb at hl';split at hl'
  ·rename_i hh;have hne:=(ZbK hb hh).2;unfold stepC at hl';split at hl'
   ·cases hl';exact⟨hne,by omega⟩
   ·split at hl'
    ·cases hl';exact⟨hne,by omega⟩
    ·exact hs l hl'
  ·exact hs l hl'
 yields s x hc hx:=by
  obtain⟨y,hy,rfl⟩:=hx;rw[ZgA];have hcok:COk Tryz.prog (tyOf tys) (.rng 136 (.t 114) (rcode Tryz.prog 66 1) Y66_1a Y66_1b [115]):=cok38.2.2.2.2.2.2.2.1.2;have hf:=hE.f y.num hy;have hk:=hE.k;have hcall:=Zj3 _ hs hH y;have hlen:=ZeR (b:=b) (n:=y.num);have hnn:=fun h:(b.held []).contains y.num=true=>(ZbK hb h).2
  have hstep:Zjb b s y=match(b.held []).contains y.num with
   |true=>stepC s (b.endL y.num)
   |false=>s:=rfl
  rw[hstep];clear hstep;generalize b.endL y.num=E at *;generalize hcv:(b.held []).contains y.num=v at *;refine ZaG mixed hcok.1 hcok.2.1 rfl rfl (by simp) rfl ?_;cases v
  ·rw[if_neg (by simp)]at hf;simp[-getElem?_pos,-List.getElem?_map,Y66_1a,Y66_1b,bfX,laid,putL,Ct.pv,capB,wkC,hk,hf];refine cM [.pv y.pv,.ptr (.par 0) 0] (laid 0 (hdB hs 0)) 122 [.par 3,.par 4] (by simp[laid,hdB]) hcall (by simp[laid,hdB]) ?_;simp[-getElem?_pos,-List.getElem?_map,laid,hdB,-retB];exact⟨[],[.par 1,.par 2,.par 3,.par 4,.par 5,.par 6,.par 7,.par 8,.par 9],rfl,rfl,by simp[frzL],rfl,by simp[frzL,wkC]⟩
  ·rw[if_pos rfl]at hf;simp[-getElem?_pos,-List.getElem?_map,Y66_1a,Y66_1b,bfX,laid,putL,Ct.pv,capB,wkC,hk,hf];refine cM [.pv y.pv,.ptr (.par 0) 0] (laid 0 (hdB hs 0)) 122 [.par 3,.par 4] (by simp[laid,hdB]) hcall (by simp[laid,hdB]) ?_;cases s with
   |none=>
    simp[-getElem?_pos,-List.getElem?_map,laid,hdB,bestP,nilOf,-retB];exact⟨[],[.par 1,.par 2,.par 3,.par 4,.par 5,.par 6,.par 7,.par 8,.par 9],rfl,rfl,by simp[frzL],rfl,by simp[frzL,wkC,stepC,intP]⟩
   |some l=>
    obtain⟨hl0,hl1⟩:=hc l rfl;have hnil:nilOf .sl (.pv (.lst false 1 (l.map intP)))=some false:=by
     cases l with
     |nil=>exact absurd rfl hl0
     |cons a r=>rfl
    have hbf:=Zk0 E l (by omega) (by omega);have hlt:=ZnS E l;have hst:stepC (some l) E=if ltC E l=true then some E else some l:=rfl;rw[hst];simp[-getElem?_pos,-List.getElem?_map,laid,hdB,bestP,hnil,-retB];refine cG [.lst false 1 (E.map intP),.lst false 1 (l.map intP)] hbf ?_;cases hd:ltC E l
    ·rw[hd]at hlt;simp[-getElem?_pos,-List.getElem?_map,-decide_eq_true_eq,-decide_eq_false_iff_not,hlt,-retB];exact⟨[],[.par 1,.par 2,.par 3,.par 4,.par 5,.par 6,.par 7,.par 8,.par 9],rfl,rfl,by simp[frzL],rfl,by simp[frzL,wkC,intP]⟩
    ·rw[hd]at hlt;simp[-getElem?_pos,-List.getElem?_map,-decide_eq_true_eq,-decide_eq_false_iff_not,hlt,-retB];exact⟨[],[.par 1,.par 2,.par 3,.par 4,.par 5,.par 6,.par 7,.par 8,.par 9],rfl,rfl,by simp[frzL],rfl,by simp[frzL,wkC,intP]⟩
end
theorem ZnT {b:Bk}{hb:b.ok}{es hs em:List (PV×PV)}{hH:HMap (fun n=>(b.held []).contains n) hs}{n:Int}{hE:EMap b n em}:∀(l:List Ct) (s:Option (List Int)),(beC b hb es hs em hH n hE).run s (ctsV l)=((((l.filter fun c=>(b.held []).contains c.num).map fun c=>b.endL c.num++[n])).foldl stepC s,true)
 |[],s=>rfl
 |x::l,s=>by
  show(beC b hb es hs em hH n hE).run (Zjc b n s x) (ctsV l)=_;rw[ZnT l];unfold Zjc;cases h:(b.held []).contains x.num
  ·simp only[ZuN,h,Bool.false_eq_true,if_false];rfl
  ·simp only[ZuN,h,if_true,Zun,List.foldl_cons];rfl
theorem ZnR {b:Bk}{hb:b.ok}{es hs em:List (PV×PV)}{hH:HMap (fun n=>(b.held []).contains n) hs}{hE:EMap b 1000 em}:∀(l:List Ct) (s:Option (List Int)),(bfC b hb es hs em hH hE).run s (ctsV l)=((((l.filter fun c=>(b.held []).contains c.num).map fun c=>b.endL c.num)).foldl stepC s,true)
 |[],s=>rfl
 |x::l,s=>by
  show(bfC b hb es hs em hH hE).run (Zjb b s x) (ctsV l)=_;rw[ZnR l];unfold Zjb;cases h:(b.held []).contains x.num
  ·simp only[ZuN,h,Bool.false_eq_true,if_false];rfl
  ·simp only[ZuN,h,if_true,Zun,List.foldl_cons];rfl
end
section
open Go.RowKit
set_option maxRecDepth 10000
attribute [local irreducible] Bk.held Bk.nums Bk.span Bk.endL
def endP (b:Bk)(n:Int):PV:=.lst false 1 ((b.endL n).map intP)
def eEnt (b:Bk)(k:Nat):List (PV×PV):=mapI id (endP b) ((b.nums.take k).filter fun n=>(b.held []).contains n)
theorem Zpt {b:Bk}(hb:b.ok){k:Nat}{n:Int}(h:b.nums[k]?=some n):EMap b n (eEnt b k):=by
 refine⟨Zb5,fun m hm=>?_⟩;unfold eEnt;rw[ZbH,Zgz];cases hc:(b.held []).contains m
 ·rw[if_neg (by rw[Zum,hc];simp),if_neg (by simp)];rfl
 ·rw[if_pos (by
   rw[Zum,ZfD h];exact⟨⟨ZiQ hb (ZuC.1 hc),hm⟩,hc⟩),if_pos rfl];rfl
theorem Znw {b:Bk}(hb:b.ok):EMap b 1000 (eEnt b b.nums.length):=by
 refine⟨Zb5,fun m hm=>?_⟩;unfold eEnt;rw[ZbH,Zgz,Zus];cases hc:(b.held []).contains m
 ·rw[if_neg (by rw[Zum,hc];simp),if_neg (by simp)];rfl
 ·rw[if_pos (by
   rw[Zum];exact⟨ZiQ hb (ZuC.1 hc),hc⟩),if_pos rfl];rfl
theorem Znv {b:Bk}{k:Nat}{n:Int}(h:b.nums[k]?=some n)(hx:(b.held []).contains n=false):eEnt b (k+1)=eEnt b k:=by
 unfold eEnt;rw[Zuf,h,ZuV]
 have:(Option.some n).toList.filter (fun n=>(b.held []).contains n)=[]:=by
  simp only[Option.toList,ZuN,hx,List.filter_nil];rfl
 rw[this,Zut]
theorem Zps {b:Bk}{k:Nat}{n:Int}(h:b.nums[k]?=some n)(hx:(b.held []).contains n=true):putK (.int .i64 n) (endP b n) (eEnt b k)=eEnt b (k+1):=by
 unfold eEnt;rw[Zew (fun x hm=>?_),Zuf,h,ZuV]
 ·have:(Option.some n).toList.filter (fun n=>(b.held []).contains n)=[n]:=by
   simp only[Option.toList,ZuN,hx,List.filter_nil];rfl
  rw[this];unfold mapI;rw[Zuw];rfl
 ·have:=(ZfD h).1 (Zum.1 hm).1
  show x≠n;omega
def endM (b:Bk)(n:Int):Option (List Int):=(((b.ofL (b.get n).src (b.get n).day n).filter fun c=>(b.held []).contains c.num).map fun c=>b.endL c.num++[n]).foldl stepC none
theorem Zsg {b:Bk}(hb:b.ok){n:Int}(hn:n∈b.nums)(hx:(b.held []).contains n=true)(hs:(b.item (b.get n).src).std=false):endM b n=some (b.endL n):=by
 rw[←(ZbK hb hx).1];have hbn:=Zf7 hb n hn;obtain⟨nn,rfl⟩:∃nn:Nat,n=nn:=⟨n.toNat,by omega⟩;rw[Znt hb (Zdd hb) (by omega) hn,if_neg (by simp[hs])];obtain⟨hcm,hcn⟩:=Zby hb hn;refine ZiE fun x=>?_
 rw[Zug,List.mem_filterMap];constructor
 ·rintro⟨c,hc,rfl⟩;rw[Zum]at hc;obtain⟨h1,h2⟩:=(Zcc hb).1 hc.1;refine⟨c.num,?_,?_⟩
  ·rw[Zum];refine⟨ZuC.1 hc.2,?_⟩;rw[Zd7 hb h1,ZfG,hcn];exact h2
  ·rw[(ZbK hb hc.2).1];rfl
 ·rintro⟨m,hm,hx'⟩;rw[Zum]at hm;obtain⟨hm1,hm2⟩:=hm;have hmn:=Zdd hb m hm1;obtain⟨g1,g2⟩:=Zby hb hmn;have hmc:(b.held []).contains m=true:=ZuC.2 hm1;rw[(ZbK hb hmc).1]at hx';refine⟨b.get m,?_,?_⟩
  ·rw[Zum,Zcc hb,g2];refine⟨⟨g1,?_⟩,hmc⟩;rw[ZfG,hcn]at hm2;exact hm2
  ·rw[g2];simpa using hx'
theorem Zpq {b:Bk}(hb:b.ok){n:Int}(hn:n∈b.nums)(hs:(b.item (b.get n).src).std=true):b.endL n=[n]:=by
 have hbn:=Zf7 hb n hn;obtain⟨nn,rfl⟩:∃nn:Nat,n=nn:=⟨n.toNat,by omega⟩;unfold Bk.endL;rw[Znt hb (Zdd hb) (by omega) hn,if_pos hs];rfl
def Bk.bestL (b:Bk)(item day:Int):List Int:=(b.bestC (b.held []) item day).getD []
def Bk.bestM (b:Bk)(item day:Int):List Int×Int:=if b.askM item day=0 then(if(b.item item).std=true then([],0)else(b.bestL item day,0))else([],b.askM item day)
def bestF (b:Bk)(item day:Int):Option (List Int):=(((b.ofL item day 1000).filter fun c=>(b.held []).contains c.num).map fun c=>b.endL c.num).foldl stepC none
theorem ZpY {b:Bk}(hb:b.ok){item day:Int}:bestF b item day=b.bestC (b.held []) item day:=by
 rw[ZpZ];refine ZiE fun x=>?_
 rw[Zug,List.mem_filterMap];constructor
 ·rintro⟨c,hc,rfl⟩;rw[Zum]at hc;obtain⟨h1,h2⟩:=(Zcc hb).1 hc.1;refine⟨c.num,?_,(ZbK hb hc.2).1⟩;rw[Zum];refine⟨ZuC.1 hc.2,?_⟩;rw[Zd7 hb h1];unfold Bk.ofB at h2;rw[Zt7]at h2;exact h2.2
 ·rintro⟨m,hm,hx'⟩;rw[Zum]at hm;obtain⟨hm1,hm2⟩:=hm;have hmn:=Zdd hb m hm1;have hbn:=Zf7 hb m hmn;obtain⟨g1,g2⟩:=Zby hb hmn;have hmc:(b.held []).contains m=true:=ZuC.2 hm1;rw[(ZbK hb hmc).1]at hx';refine⟨b.get m,?_,?_⟩
  ·rw[Zum,Zcc hb,g2];refine⟨⟨g1,?_⟩,hmc⟩;unfold Bk.ofB;rw[Zt7];exact⟨by rw[g2];simp;omega,hm2⟩
  ·rw[g2];simpa using hx'
theorem ZlJ {b:Bk}(hb:b.ok){item day:Int}(hs:(b.item item).std=false)(hh:b.isHeld item day=true):bestF b item day=some (b.bestL item day)∧b.bestL item day≠[]∧(b.bestL item day).length≤1000:=by
 have he:bestF b item day=b.bestC (b.held []) item day:=ZpY hb;unfold Bk.isHeld at hh;rw[hs,Bool.false_or,Zux]at hh;obtain⟨c,hc1,hc2⟩:=hh;have hne:(((b.ofL item day 1000).filter fun c=>(b.held []).contains c.num).map fun c=>b.endL c.num)≠[]:=by
  intro e
  have:c∈(b.ofL item day 1000).filter fun c=>(b.held []).contains c.num:=Zum.2 ⟨hc1,hc2⟩
  rw[List.map_eq_nil_iff]at e;rw[e]at this;cases this
 unfold Bk.bestL;rw[←he];cases hb2:bestF b item day with
 |none=>
  exact absurd (Zci.1 hb2) hne
 |some l=>
  refine⟨rfl,?_⟩;have hm:=(Zb3 hb2).1;rw[Zug]at hm;obtain⟨o,ho,rfl⟩:=hm;exact⟨(ZbK hb (Zum.1 ho).2).2,ZeR⟩
end
section
open Go.RowKit
attribute [local simp] Box.purge Site.isLoc
set_option maxRecDepth 10000
theorem Zr1 {b:Bk}{i:Int}(h0:0≤i)(h1:i<b.items.length):∃j:Nat,i=j∧j<b.items.length∧∃z,b.items[j]?=some z∧b.item i=z∧(b.items.map It.pv)[j]?=some (.agg [.int .i64 z.drift,.bool z.std,.int .i64 z.val.lo,.int .i64 z.val.hi]):=by
 have hz:b.items[i.toNat]?=some (b.items[i.toNat]'(by omega)):=Zt3 _;refine⟨i.toNat,by omega,by omega,_,hz,?_,?_⟩
 ·unfold Bk.item;rw[hz];rfl
 ·rw[Zt4,hz];rfl
section
attribute [local simp] retFz frzL AS.frz AV.frz AV.frzL Box.frz AS.tidy AS.frzC
end
end
section
open Go.RowKit
set_option maxRecDepth 10000
attribute [local irreducible] Bk.held Bk.nums Bk.span Bk.endL Bk.bestL endM bestF
attribute [local simp] AS.exp expG Box.ren AV.map AV.mapL Zau noRet Site.isRet Box.allS AV.allS AV.allSL retB dropL AS.adds renL outG outOk Zas inG fnOf lookA Zuq
attribute [local simp] Box.purge Site.isLoc
attribute [local simp] ZaD Zay Zam ZaB Za4
attribute [local simp] retFz frzL AS.frz AV.frz AV.frzL Box.frz AS.tidy AS.frzC
def beK (b:Bk)(item day:Int)(es hs:List (PV×PV))(k:Nat):AS:=⟨[(1,.pv (.int .i64 item)),(2,.pv (.int .i64 day)),(8,.ptr (.loc 26 0) 0),(11,.ptr (.loc 11 0) 0),(12,.ptr (.loc 12 0) 0),(49,.pv (.lst false 1 (b.nums.map intP))),(50,.pv (.int .i64 b.nums.length)),(51,.pv (.int .i64 k))],
 [(.loc 45 0,.map (eEnt b k)),(.loc 12 0,.cells [.mp (.loc 45 0)]),(.loc 11 0,.cells [.fn 103 [] [.ptr (.loc 9 0) 0]]),(.loc 9 0,.cells [.mp (.loc 26 2)]),(.loc 26 0,.cells (wkC b (.loc 26 1) (badZ []))),(.loc 26 1,.map es),(.loc 26 2,.map hs)]⟩
set_option maxHeartbeats 32000000 in
theorem Zt1 (b:Bk)(hi:b.items.length≤1000)(hc:b.certs.length≤1000)(item day:Int):Zak Tryz.prog 66 ([b.pv,.int .i64 item,.int .i64 day].map .pv) [] (fun r B=>r=.pv (lstE (b.bestM item day))∧B=[]):=by
 have hask:=Zn1 b hi hc item day;refine Zak.weak2 ?_;refine cFR [.loc 135 0] L66 ?_;intro R hR;simp[-getElem?_pos,L66,Bk.pv,-retB];refine cL [.pv b.pv,.pv (.int .i64 item),.pv (.int .i64 day)] [] 26 [] rfl hask ?_
 rintro r0 B0 (⟨h0,rfl,rfl⟩|⟨h0,hf0,hit,hdy,hih,es,hes,rfl,rfl⟩)
 ·refine⟨rfl,by simp,?_⟩;have hd:decide (b.askM item day=0)=false:=by simpa using h0
  simp[-getElem?_pos,-decide_eq_true_eq,-decide_eq_false_iff_not,hd];rw[←hR];exact⟨_,rfl,rfl,Zfe (by unfold Bk.bestM;rw[if_neg h0])⟩
 have hb:b.ok:=Bk.ok_iff.1 hf0;have hH:=ZcF hb [];have hlen:=ZdU (b:=b);obtain⟨si,rfl,hsi,z,hz,hbz,hgz⟩:=Zr1 (b:=b) (i:=item) (by unfold Bk.hasItem inB at hit;simp only[Zt7,decide_eq_true_eq]at hit;omega) (by unfold Bk.hasItem inB at hit;simp only[Zt7,decide_eq_true_eq]at hit;omega);refine⟨rfl,by simp[wkC],?_⟩;generalize hEnt b [] b.nums.length=hs at *;cases hstd:z.std
 case true=>
  rw[hstd]at hgz;simp[-getElem?_pos,-List.getElem?_map,wkC,itsP,hgz,hsi];rw[←hR];exact⟨_,rfl,rfl,Zfe (by unfold Bk.bestM;rw[if_pos h0,if_pos (by rw[hbz];exact hstd)])⟩
 case false=>
 rw[hstd]at hgz;simp[-getElem?_pos,-List.getElem?_map,wkC,itsP,hgz,hsi,-retB];refine Zae (fun n τ=>∃k:Nat,k≤b.nums.length∧n=b.nums.length-k∧τ=beK b si day es hs k) ⟨b.nums.length,beK b si day es hs 0,Sub.mk (by simp[beK]) (by simp[beK,wkC,itsP,eEnt,mapI]),0,Zud _,rfl,rfl⟩ ?_;rintro J hJ n τ ⟨k,hk,rfl,rfl⟩;by_cases hlt:k<b.nums.length
 ·obtain⟨x,hx⟩:∃x,b.nums[k]?=some x:=⟨b.nums[k],Zt3 hlt⟩;have hxm:=Zua hx;have hgx:(b.nums.map intP)[k]?=some (.int .i64 x):=by rw[Zt4,hx];rfl
  have hw:=wrapK (k:=k) (by omega);have hmeas:b.nums.length-(k+1)<b.nums.length-k:=by omega
  obtain⟨hcm,hcn⟩:=Zby hb hxm;have hfx:=hes.f x;rw[if_pos hxm]at hfx;have hko:=hes.k;have hbd:=Zbi hb hcm;have hround:=hJ _ _ ⟨k+1,hlt,rfl,rfl⟩;have hput:=Zps hx;have hskip:=Znv hx;have hEM:=Zpt hb hx;have hek:=hEM.k;have hst0:=Zpq hb hxm;have hst1:=Zsg hb hxm;have hbest:=Zj3 _ hs hH (b.get x);have hit:=ZiK (beC b hb es hs (eEnt b k) hH x hEM) b hb [] es hes 8 9 10 (fun c _=>⟨rfl,rfl⟩) (fun c _=>rfl) (b.get x).src (b.get x).day x none (fun l h=>by cases h) (fun c hc=>⟨c,by
   have:=((Zcc hb).1 hc).2
   unfold Bk.ofB at this;simp only[Zt7,decide_eq_true_eq]at this;exact this.1,rfl⟩)
  have hrun:(beC b hb es hs (eEnt b k) hH x hEM).run none (ctsV (b.ofL (b.get x).src (b.get x).day x))=(endM b x,true):=by rw[ZnT];unfold endM;rfl
  rw[hrun]at hit;clear hJ hrun;unfold beK at hround ⊢;have hcl:=fun s=>(beC b hb es hs (eEnt b k) hH x hEM).cl s
  generalize eEnt b k=em at *;generalize b.get x=y at *;obtain⟨yn,yi,ys,yd,yv,⟨yl,yh⟩⟩:=y;simp only at hcn hbd hit hst0 hst1 hbest;subst hcn;unfold Ct.pv at hfx;obtain⟨sj,rfl⟩:∃sj:Nat,ys=sj:=⟨ys.toNat,by omega⟩;obtain⟨nn,rfl⟩:∃nn:Nat,yn=nn:=⟨yn.toNat,by omega⟩;have hsj:sj<b.items.length:=by omega
  obtain⟨u,hu⟩:∃u,b.items[sj]?=some u:=⟨b.items[sj],Zt3 hsj⟩;have hgu:(b.items.map It.pv)[sj]?=some (.agg [.int .i64 u.drift,.bool u.std,.int .i64 u.val.lo,.int .i64 u.val.hi]):=by rw[Zt4,hu];rfl
  have hui:b.item (sj:Int)=u:=by unfold Bk.item;rw[Int.toNat_natCast,hu];rfl
  rw[hui]at hst0 hst1;simp[-getElem?_pos,-List.getElem?_map,beK,wkC,hlt,hgx,hko,hfx,-retB];refine cM [.pv (Ct.pv ⟨nn,yi,sj,yd,yv,⟨yl,yh⟩⟩),.ptr (.par 0) 0] (laid 0 (hdB hs 0)) 63 [.loc 9 0,.loc 26 2] (by simp[laid,hdB]) hbest (by simp[laid,hdB]) ?_;generalize hcv:(b.held []).contains (nn:Int)=v at *;cases v
  ·rw[hskip rfl]at hround;simp[-getElem?_pos,-List.getElem?_map,laid,hdB,hw,-retB];exact⟨_,_,hmeas,Sub.mk (by simp[beK]) (by simp[beK,wkC]),hround⟩
  have hst1:=hst1 rfl;rw[←hput rfl]at hround;simp[-getElem?_pos,-List.getElem?_map,laid,hdB,-retB];refine cM [.ptr (.par 0) 0,.pv (.int .i64 sj),.pv (.int .i64 yd),.pv (.int .i64 nn)] (laid 0 (wkB b [] es)) 71 [.loc 26 0,.loc 26 1] (by simp[laid,wkB,wkC]) (of_c b [] es sj yd nn) (by simp[laid,wkB,wkC]) ?_;simp[-getElem?_pos,-List.getElem?_map,laid,wkB,wkC,ofF,-retB];refine ZbD [.loc 136 0,.loc 16 0,.loc 11 0,.loc 9 0,.loc 26 2,.loc 12 0,.loc 45 0,.loc 14 0,.loc 71 0,.loc 26 0,.loc 26 1] [(11,.ptr (.loc 11 0) 0),(12,.ptr (.loc 12 0) 0),(14,.ptr (.loc 14 0) 0),(16,.ptr (.loc 16 0) 0)] (gf:=143) (fs:=[]) (cs:=[.ptr (.loc 71 0) 0,.pv (.ref [.int .i64 nn]),.pv (.ref [.int .i64 sj]),.pv (.ref [.int .i64 yd])]) ?_ ?_ rfl rfl ?_ ?_ ?_ hit ?_
  ·rfl
  ·simp
  ·simp[beC,beX,bestP,laid,wkC,capB]
  ·rfl
  ·rfl
  rintro r B' ⟨rfl,rfl⟩;refine⟨rfl,?_,?_⟩
  ·exact fun p hp=>Zfi (n:=11) (L:=beX b es hs em nn (endM b nn)) (by simp[beX]) (hcl (endM b nn)) p hp
  refine⟨_,_,_,_,_,rfl,?_⟩;clear hcl;generalize endM b nn=M at *;have hgu':=hgu;cases hs2:u.std
  ·rw[hs2]at hgu;have hM:=hst1 hs2;subst hM;simp[-getElem?_pos,-List.getElem?_map,beC,beX,laid,jumpQ,wkC,capB,bestP,itsP,hgu,hsj,hek,hw,fnA,unpvs,-retB];exact⟨_,_,hmeas,Sub.mk (by simp) (by simp[wkC,endP,itsP]),hround⟩
  ·rw[hs2]at hgu;have hE:=hst0 hs2;simp[-getElem?_pos,-List.getElem?_map,beC,beX,laid,jumpQ,wkC,capB,bestP,itsP,hgu,hsj,hek,hw,fnA,unpvs,-retB];exact⟨_,_,hmeas,Sub.mk (by simp) (by simp[wkC,endP,hE,itsP,intP]),hround⟩
 have he:k=b.nums.length:=by omega
 subst he;clear hJ;have hEM:=Znw hb;have hzs:(b.item (si:Int)).std=false:=by rw[hbz];exact hstd
 obtain⟨hF,hL0,hL1⟩:=ZlJ hb hzs hih;have hM:b.bestM si day=(b.bestL si day,0):=by unfold Bk.bestM;rw[if_pos h0,if_neg (by rw[hzs];simp)]
 have hit:=ZiK (bfC b hb es hs (eEnt b b.nums.length) hH hEM) b hb [] es hes 7 8 9 (fun c _=>⟨rfl,rfl⟩) (fun c _=>rfl) si day 1000 none (fun l h=>by cases h) (fun c hc=>⟨c,by
  have:=((Zcc hb).1 hc).2
  unfold Bk.ofB at this;simp only[Zt7,decide_eq_true_eq]at this;exact this.1,rfl⟩)
 have hrun:(bfC b hb es hs (eEnt b b.nums.length) hH hEM).run none (ctsV (b.ofL si day 1000))=(some (b.bestL si day),true):=by rw[←hF,ZnR];unfold bestF;rfl
 rw[hrun]at hit;have hcl:=fun s=>(bfC b hb es hs (eEnt b b.nums.length) hH hEM).cl s
 have hclone:=ZjT (b.bestL si day) hL0 (by omega);rw[hM]at hR;clear hrun hF hM;unfold beK;generalize eEnt b b.nums.length=em at *;generalize b.bestL si day=L at *;simp[-getElem?_pos,-List.getElem?_map,wkC,-retB];refine cM [.ptr (.par 0) 0,.pv (.int .i64 si),.pv (.int .i64 day),.pv (.int .i64 1000)] (laid 0 (wkB b [] es)) 114 [.loc 26 0,.loc 26 1] (by simp[laid,wkB,wkC]) (of_c b [] es si day 1000) (by simp[laid,wkB,wkC]) ?_;simp[-getElem?_pos,-List.getElem?_map,laid,wkB,wkC,ofF,-retB];refine ZbD [.loc 136 0,.loc 19 0,.loc 11 0,.loc 9 0,.loc 26 2,.loc 12 0,.loc 45 0,.loc 114 0,.loc 26 0,.loc 26 1] [(11,.ptr (.loc 11 0) 0),(12,.ptr (.loc 12 0) 0),(19,.ptr (.loc 19 0) 0)] (gf:=143) (fs:=[]) (cs:=[.ptr (.loc 114 0) 0,.pv (.ref [.int .i64 1000]),.pv (.ref [.int .i64 si]),.pv (.ref [.int .i64 day])]) ?_ ?_ rfl rfl ?_ ?_ ?_ hit ?_
 ·rfl
 ·simp
 ·simp[bfC,bfX,bestP,laid,wkC,capB]
 ·rfl
 ·rfl
 rintro r B' ⟨rfl,rfl⟩;refine⟨rfl,?_,?_⟩
 ·exact fun p hp=>Zfi (n:=10) (L:=bfX b es hs em (some L)) (by simp[bfX]) (hcl (some L)) p hp
 refine⟨_,_,_,_,_,rfl,?_⟩;clear hcl;simp[-getElem?_pos,-List.getElem?_map,bfC,bfX,laid,jumpQ,wkC,capB,bestP,-retB];refine cM [.pv (.lst false 1 (L.map intP))] [] 135 [] rfl hclone (by simp) ?_;have hLm:(L.map intP).take L.length=L.map intP:=Zub (by simp);simp[-getElem?_pos,-List.getElem?_map,hLm,-retB];rw[←hR];exact⟨_,rfl,rfl,fun m v h=>h⟩
end
section
open Go.RowKit
set_option maxRecDepth 10000
attribute [local simp] AS.exp expG Box.ren AV.map AV.mapL Zau noRet Site.isRet Box.allS AV.allS AV.allSL retB dropL AS.adds renL outG outOk Zas inG fnOf lookA Zuq
attribute [local simp] Box.purge Site.isLoc
attribute [local simp] retFz frzL AS.frz AV.frz AV.frzL Box.frz AS.tidy AS.frzC frzsL retOk renB toLoc
theorem ZnU:Gives Tryz.prog 68 [.lst false 7 []] (.lst false 7 []):=by
 refine Zak.weak2 ?_;refine cF [.loc 7 0] L68 ?_;simp[-getElem?_pos,L68,nilOf,ZaN,nble,opWp,osel];exact fun m v h=>Zbz h
def goodC (l:List Ct)(bad:List Int):List Ct:=l.filter (fun x=>!badP bad x)
def ZaA (l:List Ct)(bad:List Int):Bk:=⟨ZbN,goodC l bad⟩
theorem ZhF (l:List Ct)(bad:List Int)(c d e:PV)(hl:l.length≤1000)(hb:bad.length≤1000):Zak Tryz.prog 50 [.ptr (.par 0) 0] [(.par 0,wkX (ctsP l) (.lst false 1 (bad.map iP)) c d e)] (fun r B=>r=.pv (ZaA l bad).pv∧B=[(.par 0,wkX (ctsP l) (.lst false 1 (bad.map iP)) c d e)]):=by
 refine cBR [.par 0] L50 ?_;intro R hR;simp[-getElem?_pos,L50,wkX,ctsP];by_cases hn:l=[]
 ·subst hn;simp only[List.map_nil];refine .inl (cQ [] [.lst false 7 []] ZnU ?_);simp[-getElem?_pos];refine cM [.pv (.lst false 7 []),.fn 83 [] [.ptr (.par 0) 0]] (laid 0 (rgB (wkX (.lst false 7 []) (.lst false 1 (bad.map iP)) c d e) 0)) 11 [.loc 1 0,.par 0] (by simp[laid,rgB,wkX]) (del0C _ _ c d e) (by simp[laid,rgB,wkX]) ?_;simp[-getElem?_pos,laid,rgB,wkX];refine .inl (cQ [] [] ZjF ?_);simp[-getElem?_pos,←hR,ZaA,goodC,Bk.pv,ctsP,itsP,wkX]
 ·refine .inl (Zbr [] (fs:=[]) (xs:=[.lst false 7 (l.map Ct.pv)]) (cs:=[]) (d:=9) rfl rfl (Zfp (l.map Ct.pv) (by rw[Zuc];omega)) ?_);rintro r B (⟨h,rfl,rfl⟩|⟨rfl,rfl⟩)
  ·exact absurd (List.map_eq_nil_iff.1 h) hn
  refine⟨by simp,?_⟩;simp[-getElem?_pos];refine cL [.vec (.par 0) 7 0 l.length,.fn 83 [] [.ptr (.par 1) 0]] (laid 0 (.arr 83 7 (l.map Ct.pv)::rgB (wkX (ctsP l) (.lst false 1 (bad.map iP)) c d e) 1)) 11 [.loc 9 0,.loc 1 0,.par 0] (by simp[laid,rgB,wkX,ctsP]) (delC _ c d e bad hb l hl) ?_
  rintro r0 B0 ⟨rfl,X,hX,rfl⟩;refine⟨rfl,by simp[laid,rgB,wkX,ctsP],?_⟩;have hXm:(X.map Ct.pv).take (goodC l bad).length=(goodC l bad).map Ct.pv:=by rw[←List.map_take];exact congrArg _ hX
  have hXl:(goodC l bad).length≤X.length:=by
   have:=congrArg List.length hX
   rw[Zt6]at this;unfold goodC;omega
  have hgf:(l.filter fun x=>!badP bad x)=goodC l bad:=rfl;simp only[hgf];simp[-getElem?_pos,laid,rgB,wkX,ctsP];refine .inl (cQ [.loc 9 0] [] ZjF ?_);simp[-getElem?_pos,←hR,ZaA,Bk.pv,ctsP,itsP,wkX,hXm,hXl]
theorem Zep (l:List Ct)(bad:List Int)(c d e:PV)(hl:l.length≤1000)(hb:bad.length≤1000)(lot item day rd:Int):Zak Tryz.prog 39 [.ptr (.par 0) 0,.pv (.agg [.int .i64 lot,.int .i64 item,.int .i64 day,.int .i64 rd])] [(.par 0,wkX (ctsP l) (.lst false 1 (bad.map iP)) c d e)] (fun r B=>r=.pv (.bool (decide (((ZaA l bad).bestM item day).2=0)))∧B=[(.par 0,wkX (ctsP l) (.lst false 1 (bad.map iP)) c d e)]):=by
 have hrc:=ZhF l bad c d e hl hb;have hbc:=Zt1 (ZaA l bad) (show ZbN.length≤1000 by decide) (by unfold ZaA goodC;exact Zup (ZuX _ _) hl) item day;refine cBR [.par 0] L39 ?_;intro R hR;simp[-getElem?_pos,L39,wkX];refine ZaI (fun τ=>τ=⟨[(9,.pv (ZaA l bad).pv),(11,.pv (.int .i64 item)),(13,.pv (.int .i64 day))],[(.par 0,wkX (ctsP l) (.lst false 1 (bad.map iP)) c d e)]⟩) ?_ ?_
 ·simp[-getElem?_pos,Zaf,Zaj]
  repeat' apply And.intro
  all_goals
   refine cM [.ptr (.par 0) 0] [(.par 0,wkX (ctsP l) (.lst false 1 (bad.map iP)) c d e)] 9 [.par 0] (by simp[wkX]) hrc (by simp[wkX]) ?_;simp[-getElem?_pos,wkX,Zaf,Zaj];exact Sub.mk (by simp) (by simp[wkX])
 ·rintro τ rfl;simp[-getElem?_pos,Zaf,Zaj,wkX];refine .inl (cQ [] [(ZaA l bad).pv,.int .i64 item,.int .i64 day] hbc ?_);simp[-getElem?_pos,lstE];rw[←hR];exact⟨rfl,by simp[wkX]⟩
theorem ZqK (l:List Ct)(bad:List Int)(c d e:PV)(hl:l.length≤1000)(hb:bad.length≤1000)(lot item day rd limit:Int)(hfit:IntKind.i64.wrap (rd+((ZaA l bad).spanM item day).1.lo)=rd+((ZaA l bad).spanM item day).1.lo):Zak Tryz.prog 108 [.ptr (.par 0) 0,.pv (.agg [.int .i64 lot,.int .i64 item,.int .i64 day,.int .i64 rd]),.pv (.int .i64 limit)] [(.par 0,wkX (ctsP l) (.lst false 1 (bad.map iP)) c d e)] (fun r B=>r=.pv (.bool (decide (limit≤rd+((ZaA l bad).spanM item day).1.lo)))∧B=[(.par 0,wkX (ctsP l) (.lst false 1 (bad.map iP)) c d e)]):=by
 have hrc:=ZhF l bad c d e hl hb;have hbc:=ZtY (ZaA l bad) (show ZbN.length≤1000 by decide) (by unfold ZaA goodC;exact Zup (ZuX _ _) hl) item day;refine cBR [.par 0] L108 ?_;intro R hR;simp[-getElem?_pos,L108,wkX];refine ZaI (fun τ=>τ=⟨[(18,.pv (.int .i64 ((ZaA l bad).spanM item day).2)),(7,.ptr (.loc 7 0) 0),(4,.ptr (.loc 4 0) 0),(2,.pv (.int .i64 limit))],[(.loc 7 0,.cells [.pv (.int .i64 ((ZaA l bad).spanM item day).1.lo),.pv (.int .i64 ((ZaA l bad).spanM item day).1.hi)]),(.loc 4 0,.cells [.pv (.int .i64 lot),.pv (.int .i64 item),.pv (.int .i64 day),.pv (.int .i64 rd)]),(.par 0,wkX (ctsP l) (.lst false 1 (bad.map iP)) c d e)]⟩) ?_ ?_
 ·simp[-getElem?_pos,Zaf,Zaj]
  repeat' apply And.intro
  all_goals
   refine cM [.ptr (.par 0) 0] [(.par 0,wkX (ctsP l) (.lst false 1 (bad.map iP)) c d e)] 11 [.par 0] (by simp[wkX]) hrc (by simp[wkX]) ?_;simp[-getElem?_pos,wkX,Zaf,Zaj]
   repeat' apply And.intro
   all_goals
    refine .inl (cQ [] [(ZaA l bad).pv,.int .i64 item,.int .i64 day] hbc ?_);simp[-getElem?_pos,spanE,Cr.pv,Zaf,Zaj]
    repeat' apply And.intro
    all_goals exact Sub.mk (by simp) (by simp[wkX])
 ·rintro τ rfl;simp[-getElem?_pos,Zaf,Zaj,wkX,hfit];rw[←hR];exact⟨rfl,by simp[wkX]⟩
end
section
open Go.RowKit
set_option maxRecDepth 10000
section
attribute [local simp] Box.purge Site.isLoc
theorem Znb (l:List PV)(g:FuncId)(fs cs:List PV)(q:PV→Bool)(hq:∀x∈l,Gives Tryz.prog g (fs++[x]++cs) (.bool (q x)))(hl:l.length≤1000000)(hc:∀x∈l,∃a b c,x=.agg [.int .i64 a,.int .i64 b,.int .i64 c]):
  Gives Tryz.prog 263 [.lst false 3 l,.fn g fs cs] (.int .i64 (match l.findIdx? q with|some i=>i|none=>-1)):=by
 refine cS L263 ?_;simp[L263];refine Zae (fun n τ=>∃k:Nat,k≤l.length∧n=l.length-k∧(∀j x,j<k→l[j]?=some x→q x=false)∧τ=⟨[(0,.pv (.lst false 3 l)),(1,.pv (.fn g fs cs)),(7,.pv (.int .i64 l.length)),(8,.pv (.int .i64 k))],[]⟩)
  ⟨l.length,_,Sub.mk (by simp) (by simp),0,by omega,rfl,(fun j x hj=>by omega),rfl⟩ ?_
 rintro J hJ n τ ⟨k,hk,rfl,hinv,rfl⟩;by_cases hlt:k<l.length
 ·have hx:l[k]?=some l[k]:=Zt3 hlt;have hm:=ZuJ hlt;generalize l[k]=x at hx hm;obtain⟨a,b,c,rfl⟩:=hc x hm;have hg:=hq _ hm;have hw:IntKind.i64.wrap ((k:Int)+1)=((k+1:Nat):Int):=by rw[wrap64 (by omega)];omega
  simp[-getElem?_pos,hlt,hx,nblt];refine Zaa (k:=0) rfl rfl hg rfl ?_;cases hb:q _
  ·simp[hw];exact⟨_,_,(by omega:l.length-(k+1)<l.length-k),Sub.mk (by simp) (by simp),hJ _ _ ⟨k+1,by omega,rfl,fun j x hj hjx=>by
    rcases ZuW.1 hj with h|h
    ·exact hinv j x h hjx
    ·subst h;rw[hx]at hjx;cases hjx;exact hb,rfl⟩⟩
  ·simp[ZdB hx hb hinv]
 ·have he:k=l.length:=by omega
  subst he;simp[Zb8 hinv]
theorem ZsN (l:List PV)(g:FuncId)(fs cs:List PV)(q:PV→Bool)(hq:∀x∈l,Gives Tryz.prog g (fs++[x]++cs) (.bool (q x)))(hl:l.length≤1000000)(hc:∀x∈l,∃a b c,x=.agg [.int .i64 a,.int .i64 b,.int .i64 c]):
  Gives Tryz.prog 232 [.lst false 3 l,.fn g fs cs] (.bool (l.any q)):=by
 refine cS L232 ?_;simp[L232];refine Zaa (k:=0) rfl rfl (Znb l g fs cs q hq hl hc) rfl ?_;cases hf:l.findIdx? q with
 |none=>
  have:l.any q=false:=by rw[List.any_eq_false];intro x hx;simpa using ZuU.1 hf x hx
  simp[this]
 |some i=>
  have:l.any q=true:=by
   obtain⟨hi,h1,_⟩:=ZuT.1 hf;exact Zux.2 ⟨_,ZuJ hi,h1⟩
  simp[this]
theorem Zql (x:PV)(g:FuncId)(fs cs:List PV)(b:Bool)(hx:∃a b c,x=.agg [.int .i64 a,.int .i64 b,.int .i64 c])(hq:Gives Tryz.prog g (fs++[x]++cs) (.bool b)):
  Gives Tryz.prog 233 [x,.ref [.fn g fs cs]] (.bool (!b)):=by
 obtain⟨a,b,c,rfl⟩:=hx;refine cS L233 ?_;simp[L233];refine Zaa (k:=0) rfl rfl hq rfl ?_;simp
theorem ZsR (l:List PV)(g:FuncId)(fs cs:List PV)(q:PV→Bool)(hq:∀x∈l,Gives Tryz.prog g (fs++[x]++cs) (.bool (q x)))(hl:l.length≤1000000)(hc:∀x∈l,∃a b c,x=.agg [.int .i64 a,.int .i64 b,.int .i64 c]):
  Gives Tryz.prog 191 [.lst false 3 l,.fn g fs cs] (.bool (l.all q)):=by
 refine cS L191 ?_;simp[L191];refine Zaa (k:=4) rfl rfl (ZsN l 233 [] [.ref [.fn g fs cs]] (fun x=>!q x) (fun x hx=>Zql x g fs cs (q x) (hc x hx) (hq x hx)) hl hc) rfl ?_;simp[List.not_any_eq_all_not]
end
attribute [local simp] AS.exp expG Box.ren AV.map AV.mapL Zau noRet Site.isRet Box.allS AV.allS AV.allSL retB dropL AS.adds renL outG outOk Zas inG fnOf lookA Zuq
attribute [local simp] Box.purge Site.isLoc
attribute [local simp] retFz frzL AS.frz AV.frz AV.frzL Box.frz AS.tidy AS.frzC frzsL retOk renB toLoc
theorem wr0:IntKind.i64.wrap 0=0:=by decide
theorem wr1:IntKind.i64.wrap 1=1:=by decide
theorem wr2:IntKind.i64.wrap 2=2:=by decide
theorem wr3:IntKind.i64.wrap 3=3:=by decide
theorem wr4:IntKind.i64.wrap 4=4:=by decide
theorem wr5:IntKind.i64.wrap 5=5:=by decide
theorem wr6:IntKind.i64.wrap 6=6:=by decide
attribute [local simp] wr0 wr1 wr2 wr3 wr4 wr5 wr6
theorem Zf3 (n low high:Int):Gives Tryz.prog 190 [.int .i64 n,.int .i64 low,.int .i64 high] (.bool (decide (low≤n)&&decide (n≤high))):=by
 refine cS L190 ?_;by_cases h1:low≤n<;>by_cases h2:n≤high<;>simp[L190,h1,h2]
theorem Zq5 (a b c:Int):Gives Tryz.prog 192 [.agg [.int .i64 a,.int .i64 b,.int .i64 c]] (.bool (decide (1≤a))):=by
 refine cS L192 ?_;simp[-getElem?_pos,L192]
def stgP (k:Int):PV:=.agg [.int .i64 2,.int .i64 k,.int .i64 2]
def planP (n:Int):PV:=.agg [.int .i64 n,.lst false 3 [stgP 0,stgP 1]]
theorem Zix (num n limit:Int)(ps:Bool):Gives Tryz.prog 110 [.agg [.int .i64 num,.int .i64 n,.int .i64 limit,.bool ps]] (planP n):=by
 refine cF [.loc 7 0] L110 ?_;simp[-getElem?_pos,L110,planP,stgP,nble,setAt]
def saysM (bad a r:Int):Int:=if bad≤a then 1 else if r≤bad then 2 else 3
theorem Zs5 (t a r bad:Int):Gives Tryz.prog 149 [.agg [.int .i64 t,.int .i64 a,.int .i64 r],.int .i64 bad] (.int .u8 (saysM bad a r)):=by
 refine cS L149 ?_;unfold saysM;by_cases h1:bad≤a<;>by_cases h2:r≤bad<;>simp[-getElem?_pos,L149,h1,h2]
theorem ZlM:Gives Tryz.prog 191 [.lst false 3 [stgP 0,stgP 1],.fn 192 [] []] (.bool true):=
 ZsR [stgP 0,stgP 1] 192 [] [] (fun _=>true) (fun x hx=>by
  have h:∃k,x=stgP k:=by
   simp at hx;rcases hx with rfl|rfl<;>exact⟨_,rfl⟩
  obtain⟨k,rfl⟩:=h;exact Zq5 2 k 2) (by decide) (fun x hx=>by
   simp at hx;rcases hx with rfl|rfl<;>exact⟨_,_,_,rfl⟩)
def ckS (n t a b c k:Int):AS:=⟨[(1,.ptr (.loc 1 0) 0),(3,.pv (.int .i64 t)),(4,.ptr (.loc 4 0) 0),(31,.pv (.lst false 3 [stgP 0,stgP 1])),(32,.pv (.int .i64 2)),(33,.pv (.int .i64 k))],[(.loc 1 0,.cells [.pv (.int .i64 n),.pv (.lst false 3 [stgP 0,stgP 1])]),(.loc 4 0,.cells [.pv (.int .i64 a),.pv (.int .i64 b),.pv (.int .i64 c)])]⟩
theorem ZjX (n:Int)(h4:4≤n)(h30:n≤30):Gives Tryz.prog 148 [planP n] (.int .i64 0):=by
 have hw:=Zf3 n 1 30;have hd:(decide (1≤n)&&decide (n≤30))=true:=by simp;omega
 rw[hd]at hw;have hw0:=Zf3 2 1 3;have hw1:=Zf3 2 2 5;refine cS L148 ?_;simp[-getElem?_pos,L148,planP];refine cG [.int .i64 n,.int .i64 1,.int .i64 30] hw ?_;simp[-getElem?_pos];refine cG [.lst false 3 [stgP 0,stgP 1],.fn 192 [] []] ZlM ?_;simp[-getElem?_pos,setAt];have hwn:∀t:Int,0≤t→t≤4→IntKind.i64.wrap (n-t)=n-t:=fun t h1 h2=>wrap64 (by omega)
 refine Zae (fun m τ=>(m=2∧τ=ckS n 0 0 (-1) 0 0)∨(m=1∧τ=ckS n 2 2 0 2 1)∨(m=0∧τ=ckS n 4 2 1 2 2)) ⟨2,ckS n 0 0 (-1) 0 0,Sub.mk (by simp[ckS]) (by simp[ckS]),.inl ⟨rfl,rfl⟩⟩ ?_;rintro J hJ m τ (⟨rfl,rfl⟩|⟨rfl,rfl⟩|⟨rfl,rfl⟩)
 ·have hj:=hJ 1 _ (.inr (.inl ⟨rfl,rfl⟩));have h1:¬(n<2):=by omega
  have h0:IntKind.i64.wrap n=n:=wrap64 (by omega);simp[-getElem?_pos,ckS,stgP,setAt,h0,h1];refine cG [.int .i64 2,.int .i64 1,.int .i64 3] hw0 ?_;simp[-getElem?_pos,setAt];exact⟨_,_,by decide,Sub.mk (by simp[ckS,stgP]) (by simp[ckS,stgP]),hj⟩
 ·have hj:=hJ 0 _ (.inr (.inr ⟨rfl,rfl⟩));have h1:¬(n-2<2):=by omega
  have h0:IntKind.i64.wrap (n-2)=n-2:=wrap64 (by omega);simp[-getElem?_pos,ckS,stgP,setAt,h0,h1];refine cG [.int .i64 2,.int .i64 2,.int .i64 5] hw1 ?_;simp[-getElem?_pos,setAt];exact⟨_,_,by decide,Sub.mk (by simp[ckS,stgP]) (by simp[ckS,stgP]),hj⟩
 ·simp[-getElem?_pos,ckS,stgP,setAt]
def cntB:List Bool→Int
 |[]=>0
 |x::l=>(if x=true then 1 else 0)+cntB l
theorem ZnD {l:List Bool}{k:Nat}{x:Bool}(h:l[k]?=some x):cntB (l.take (k+1))=cntB (l.take k)+(if x=true then 1 else 0):=by
 induction l generalizing k with
 |nil=>cases h
 |cons y l ih=>
  cases k with
  |zero=>
   simp at h;subst h;simp[cntB]
  |succ k=>
   have:=ih (k:=k) (by simpa using h)
   simp only[List.take_succ_cons,cntB,this];omega
theorem ZnE {l:List Bool}:0≤cntB l∧cntB l≤l.length:=by
 induction l with
 |nil=>exact⟨Int.le_refl _,Int.le_refl _⟩
 |cons x l ih=>
  simp only[cntB,Zuu]
  split<;>omega
def planM (rs:List Bool):Int×Int×Int:=
 if rs.length<2 then(3,2-(rs.length:Int),0)
 else if saysM (cntB (rs.take 2)) 0 2=3 then
  (if rs.length<4 then(3,4-(rs.length:Int),0)
  else if 4<rs.length then(0,0,2)else(saysM (1+cntB ((rs.drop 2).take 2)) 1 2,0,0))
 else if 2<rs.length then(0,0,2)else(saysM (cntB (rs.take 2)) 0 2,0,0)
def planE (x:Int×Int×Int):PV:=.tup [.int .u8 x.1,.int .i64 x.2.1,.int .i64 x.2.2]
def plS (n:Int)(rs:List Bool)(k:Nat):AS:=⟨[(1,.vec (.par 0) 1 0 rs.length),(8,.pv (.int .i64 ((2*k:Nat):Int))),(9,.pv (.int .i64 (k:Int))),(20,.pv (.lst false 3 [stgP 0,stgP 1])),(21,.pv (.int .i64 2)),(22,.pv (.int .i64 (k:Int)))],[(.par 0,.arr 4 1 (rs.map .bool))]⟩
def inS (rs sub:List Bool)(k j:Nat):AS:=⟨[(1,.vec (.par 0) 1 0 rs.length),(8,.pv (.int .i64 ((2*k:Nat):Int))),(9,.pv (.int .i64 ((k:Int)+cntB (sub.take j)))),(11,.ptr (.loc 11 0) 0),(20,.pv (.lst false 3 [stgP 0,stgP 1])),(21,.pv (.int .i64 2)),(22,.pv (.int .i64 (k:Int))),(46,.vec (.par 0) 1 (2*k) 2),(47,.pv (.int .i64 2)),(48,.pv (.int .i64 (j:Int)))],[(.loc 11 0,.cells [.pv (.int .i64 2),.pv (.int .i64 (k:Int)),.pv (.int .i64 2)]),(.par 0,.arr 4 1 (rs.map .bool))]⟩
theorem ZmI (n:Int)(h4:4≤n)(h30:n≤30)(rs:List Bool)(hl:rs.length≤1000):Zak Tryz.prog 109 [.pv (planP n),.vec (.par 0) 1 0 rs.length] [(.par 0,.arr 4 1 (rs.map .bool))] (fun r B=>r=.pv (planE (planM rs))∧B=[(.par 0,.arr 4 1 (rs.map .bool))]):=by
 refine cBR [.par 0] L109 ?_;intro R hR;simp[-getElem?_pos,L109,planP];refine cG [planP n] (ZjX n h4 h30) ?_;simp[-getElem?_pos];refine Zae (fun m τ=>∃k:Nat,(k=0∨(k=1∧2≤rs.length∧cntB (rs.take 2)=1))∧m=2-k∧τ=plS n rs k) ⟨2,plS n rs 0,Sub.mk (by simp[plS]) (by simp[plS]),0,.inl rfl,rfl,rfl⟩ ?_;rintro J hJ m τ ⟨k,hk,rfl,rfl⟩;have hk2:k<2:=by omega
 have hst:([stgP 0,stgP 1]:List PV)[k]?=some (.agg [.int .i64 2,.int .i64 (k:Int),.int .i64 2]):=by
  rcases hk with rfl|⟨rfl,_⟩<;>rfl
 have hw2:IntKind.i64.wrap ((2*k:Nat)+2:Int)=((2*k+2:Nat):Int):=by rw[wrap64 (by omega)];omega
 have hki:((k:Int)<2):=by omega
 by_cases hlen:rs.length<2*k+2
 ·have hli:(rs.length:Int)<((2*k+2:Nat):Int):=by omega
  simp[-getElem?_pos,-Int.natCast_add,-Int.natCast_mul,plS,hki,hst,setAt,hw2,hli];rw[←hR];refine⟨?_,by simp⟩;rw[wrap64 (by omega)];rcases hk with rfl|⟨rfl,h2,hc⟩
  ·simp[planE,planM,hlen,show rs.length<2 by omega]
  ·have e:saysM (cntB (rs.take 2)) 0 2=3:=by rw[hc];rfl
   simp[planE,planM,e,show ¬rs.length<2 by omega,show rs.length<4 by omega]
 ·have hli:¬((rs.length:Int)<((2*k+2:Nat):Int)):=by omega
  have hb1:(2*k).ble (2*k+2)=true:=Nat.ble_eq_true_of_le (by omega);have hb2:(2*k+2).ble rs.length=true:=Nat.ble_eq_true_of_le (by omega);obtain⟨sub,hsub⟩:∃sub,sub=(rs.drop (2*k)).take 2:=⟨_,rfl⟩;have hsl:sub.length=2:=by rw[hsub,Zt6,Zuh];omega
  have hse:List.drop (2*k) (List.take (2*k+2) (List.map PV.bool rs))=sub.map .bool:=by
   rw[hsub,List.drop_take,Nat.add_sub_cancel_left,List.map_take,List.map_drop]
  have hsc:=ZnE (l:=sub);simp[-getElem?_pos,-Int.natCast_add,-Int.natCast_mul,plS,hki,hst,setAt,hw2,hli,hb1,hb2,hse,hsl];refine Zae (fun m τ=>∃j:Nat,j≤2∧m=2-j∧τ=inS rs sub k j) ⟨2,inS rs sub k 0,Sub.mk (by simp[inS,cntB]) (by simp[inS]),0,Zud _,rfl,rfl⟩ ?_;rintro J2 hJ2 m τ ⟨j,hj,rfl,rfl⟩;by_cases hj2:j<2
  ·obtain⟨x,hx⟩:∃x,sub[j]?=some x:=⟨sub[j],Zt3 (by omega)⟩;have hg:(rs.map PV.bool)[2*k+j]?=some (.bool x):=by
    rw[hsub,Zuj,if_pos hj2,Zur]at hx;rw[Zt4,hx];rfl
   have hJn:=hJ2 (2-(j+1)) _ ⟨j+1,hj2,rfl,rfl⟩;unfold inS at hJn;rw[ZnD hx]at hJn;have hct:=ZnE (l:=sub.take j);have hcl:((sub.take j).length:Int)≤2:=by rw[Zt6];omega
   have hji:(j:Int)<2:=by omega
   have hwj:=wrapK (k:=j) (by omega);cases x with
   |false=>
    simp[-getElem?_pos,-List.getElem?_map,-Int.natCast_mul,inS,hji,hg,hwj,nblt,hj2];exact⟨_,_,(by omega:2-(j+1)<2-j),Sub.mk (by simp) (by simp),hJn⟩
   |true=>
    have hwb:IntKind.i64.wrap ((k:Int)+cntB (sub.take j)+1)=(k:Int)+(cntB (sub.take j)+1):=by rw[wrap64 (by omega)];omega
    simp[-getElem?_pos,-List.getElem?_map,-Int.natCast_mul,inS,hji,hg,hwj,hwb,nblt,hj2];exact⟨_,_,(by omega:2-(j+1)<2-j),Sub.mk (by simp) (by simp),hJn⟩
  ·have hje:j=2:=by omega
   subst hje;unfold inS;rw[Zub (by omega)];have hwk:=wrapK (k:=k) (by omega);simp[-getElem?_pos,-Int.natCast_add,-Int.natCast_mul,hw2];refine cG [.agg [.int .i64 2,.int .i64 (k:Int),.int .i64 2],.int .i64 ((k:Int)+cntB sub)] (Zs5 _ _ _ _) ?_;have hs2:(2:Int)*(k:Int)+2=((2*k+2:Nat):Int):=by omega
   by_cases hv:saysM ((k:Int)+cntB sub) (k:Int) 2=3
   ·have hk0:k=0∧cntB sub=1:=by
     unfold saysM at hv;split at hv
     ·omega
     ·split at hv<;>omega
    obtain⟨rfl,hc1⟩:=hk0;rw[hv];simp[-getElem?_pos,hc1];refine⟨_,_,by decide,Sub.mk ?_ ?_,hJ 1 _ ⟨1,.inr ⟨rfl,by omega,by rw[←hc1,hsub];rfl⟩,rfl,rfl⟩⟩
    ·simp[plS]
    ·simp[plS]
   ·have hrs:¬rs.length<2:=by omega
    have hP:planM rs=(if 2*k+2<rs.length then(0,0,2)else(saysM ((k:Int)+cntB sub) (k:Int) 2,0,0)):=by
     rcases hk with rfl|⟨rfl,h2,hc⟩
     ·have e1:((0:Nat):Int)+cntB sub=cntB (rs.take 2):=by rw[hsub];simp
      rw[e1]at hv ⊢;unfold planM;have hv':¬saysM (cntB (rs.take 2)) 0 2=3:=hv;rw[if_neg hrs,if_neg hv'];rfl
     ·have e1:((1:Nat):Int)+cntB sub=1+cntB ((rs.drop 2).take 2):=by rw[hsub];rfl
      have e:saysM (cntB (rs.take 2)) 0 2=3:=by rw[hc];rfl
      rw[e1];unfold planM;rw[if_neg hrs,if_pos e,if_neg (by omega)];rfl
    by_cases hm:2*k+2<rs.length
    ·have hmi:(2:Int)*(k:Int)+2<(rs.length:Int):=by omega
     rw[if_pos hm]at hP;simp[-getElem?_pos,hv,hmi];rw[←hR,hP];exact⟨rfl,by simp⟩
    ·have hmi:¬(2:Int)*(k:Int)+2<(rs.length:Int):=by omega
     rw[if_neg hm]at hP;simp[-getElem?_pos,hv,hmi];rw[←hR,hP];exact⟨rfl,by simp⟩
end
section
open Go.RowKit
set_option maxRecDepth 10000
attribute [local simp] AS.exp expG Box.ren AV.map AV.mapL Zau noRet Site.isRet Box.allS AV.allS AV.allSL retB dropL AS.adds renL outG outOk Zas inG fnOf lookA Zuq
attribute [local simp] Box.purge Site.isLoc
attribute [local simp] retFz frzL AS.frz AV.frz AV.frzL Box.frz AS.tidy AS.frzC frzsL retOk renB toLoc
structure Tt where
 lot:Int
 item:Int
 day:Int
 rd:Int
deriving DecidableEq
def Tt.pv (t:Tt):PV:=.agg [.int .i64 t.lot,.int .i64 t.item,.int .i64 t.day,.int .i64 t.rd]
def spP (S:Int→Int→Bool)(sp:List (Int×Int)):List (PV×PV):=sp.map fun p=>(.agg [.int .i64 p.1,.int .i64 p.2],.bool (S p.1 p.2))
theorem ZqO (a b c d:Int):eqK (.agg [.int .i64 a,.int .i64 b]) (.agg [.int .i64 c,.int .i64 d])=decide ((a,b)=(c,d)):=by
 rw[Zuz];simp[eqK,eqL,eqC,PV.cells]
theorem ZkQ {S:Int→Int→Bool}{i d:Int}:∀{sp:List (Int×Int)},findV (.agg [.int .i64 i,.int .i64 d]) (spP S sp)=if(i,d)∈sp then some (.bool (S i d))else none
 |[]=>rfl
 |p::r=>by
  have ih:=ZkQ (S:=S) (i:=i) (d:=d) (sp:=r);unfold spP at ih ⊢;rw[Zun,findV,ZqO];by_cases h:(i,d)=p
  ·subst h;simp
  ·have:decide ((i,d)=(p.1,p.2))=false:=decide_eq_false h
   rw[this];simp only[ih,Zul,h,false_or]
theorem ZmE {S:Int→Int→Bool}{i d:Int}:∀{sp:List (Int×Int)},(i,d)∉sp→putK (.agg [.int .i64 i,.int .i64 d]) (.bool (S i d)) (spP S sp)=spP S (sp++[(i,d)])
 |[],_=>rfl
 |p::r,h=>by
  have h1:(i,d)≠p:=fun e=>h (by simp[e])
  have ih:=ZmE (S:=S) (i:=i) (d:=d) (sp:=r) (fun e=>h (by simp[e]));have h2:decide ((i,d)=(p.1,p.2))=false:=decide_eq_false h1;unfold spP at ih ⊢;rw[Zun,putK,ZqO,h2];simp only[ih];rfl
theorem ZrZ {S:Int→Int→Bool}{sp:List (Int×Int)}:ZbC ⟨true,[.int .i64,.int .i64]⟩ (spP S sp)=true:=by
 unfold ZbC spP;rw[Zuo];intro x hx;obtain⟨p,_,rfl⟩:=Zug.1 hx;rfl
def verdM (S:Int→Int→Bool)(G:Tt→Bool)(num:Int):List Tt→List Bool→Int
 |[],_=>3
 |t::l,rs=>if t.lot=num∧S t.item t.day=true then(if(planM (rs++[!G t])).1=3 then verdM S G num l (rs++[!G t])else(planM (rs++[!G t])).1)else verdM S G num l rs
theorem ZlT {S:Int→Int→Bool}{G:Tt→Bool}{num:Int}{rs:List Bool}:verdM S G num [] rs=3:=rfl
theorem Zlb {S:Int→Int→Bool}{G:Tt→Bool}{num:Int}{t:Tt}{l:List Tt}{rs:List Bool}:verdM S G num (t::l) rs=if t.lot=num∧S t.item t.day=true then(if(planM (rs++[!G t])).1=3 then verdM S G num l (rs++[!G t])else(planM (rs++[!G t])).1)else verdM S G num l rs:=rfl
def stM (l:List Ct)(bad:List Int)(i d:Int):Bool:=decide (((ZaA l bad).bestM i d).2=0)
def gdM (l:List Ct)(bad:List Int)(limit:Int)(t:Tt):Bool:=decide (limit≤t.rd+((ZaA l bad).spanM t.item t.day).1.lo)
def ttsP (l:List Tt):PV:=.lst false 4 (l.map Tt.pv)
def vdS (W:Box)(x:Lt)(S:Int→Int→Bool)(ts:List Tt)(rs:List Bool)(sp:List (Int×Int))(k:Nat):AS:=
 ⟨[(0,.ptr (.par 0) 0),(3,.ptr (.loc 3 0) 0),(5,.vec (.loc 61 0) 1 0 rs.length),(6,.fn 39 [.ptr (.par 0) 0] []),(7,.pv (.int .u8 3)),(8,.mp (.loc 16 0)),(21,.pv (.lst false 4 (ts.map Tt.pv))),(22,.pv (.int .i64 ts.length)),(23,.pv (.int .i64 (k:Int)))],
  [(.loc 3 0,.cells [.pv (.int .i64 x.num),.pv (.int .i64 x.pieces),.pv (.int .i64 x.limit),.pv (.bool x.passed)]),(.loc 16 0,.map (spP S sp)),(.loc 61 0,.arr 4 1 (rs.map .bool)),(.par 0,W)]⟩
theorem Zen (l:List Ct)(bad:List Int)(ls:PV)(ts:List Tt)(rn:PV)(x:Lt)(hl:l.length≤1000)(hb:bad.length≤1000)(ht:ts.length≤900)(h4:4≤x.pieces)(h30:x.pieces≤30)
  (hfit:∀t∈ts,IntKind.i64.wrap (t.rd+((ZaA l bad).spanM t.item t.day).1.lo)=t.rd+((ZaA l bad).spanM t.item t.day).1.lo):
  Zak Tryz.prog 77 [.ptr (.par 0) 0,.pv x.pv] [(.par 0,wkX (ctsP l) (.lst false 1 (bad.map iP)) ls (ttsP ts) rn)] (fun r B=>r=.pv (.int .u8 (verdM (stM l bad) (gdM l bad x.limit) x.num ts []))∧B=[(.par 0,wkX (ctsP l) (.lst false 1 (bad.map iP)) ls (ttsP ts) rn)]):=by
 refine cBR [.par 0] L77 ?_;intro R hR;obtain⟨V,hV⟩:∃V,V=verdM (stM l bad) (gdM l bad x.limit) x.num ts []:=⟨_,rfl⟩;rw[←hV]at hR;simp[-getElem?_pos,L77,wkX,Lt.pv,ttsP];refine Zae (fun m τ=>∃(k:Nat) (rs:List Bool) (sp:List (Int×Int)),k≤ts.length∧m=ts.length-k∧rs.length≤k∧τ=vdS (wkX (ctsP l) (.lst false 1 (bad.map iP)) ls (ttsP ts) rn) x (stM l bad) ts rs sp k∧verdM (stM l bad) (gdM l bad x.limit) x.num (ts.drop k) rs=V)
  ⟨ts.length,vdS (wkX (ctsP l) (.lst false 1 (bad.map iP)) ls (ttsP ts) rn) x (stM l bad) ts [] [] 0,Sub.trans' (Sub.mk (by simp[vdS,AS.vecT]) (by simp[vdS,AS.vecT,wkX,ttsP,spP])) (vecT 61 4 1 5 rfl (by decide)),0,[],[],Zud _,rfl,Zue _,rfl,hV.symm⟩ ?_
 rintro J hJ m τ ⟨k,rs,sp,hk,rfl,hrl,rfl,hv⟩;by_cases hlt:k<ts.length
 ·obtain⟨t,hx⟩:∃t,ts[k]?=some t:=⟨ts[k],Zt3 hlt⟩;have hmem:t∈ts:=Zua hx;have hg:(ts.map Tt.pv)[k]?=some t.pv:=by rw[Zt4,hx];rfl
  simp only[Tt.pv]at hg;have hd:ts.drop k=t::ts.drop (k+1):=by
   rw[List.drop_eq_getElem_cons hlt];congr 1;rw[Zt3 hlt]at hx;exact Option.some.inj hx
  rw[hd]at hv;rw[Zlb]at hv;have hw:=wrapK (k:=k) (by omega);have hmeas:ts.length-(k+1)<ts.length-k:=by omega
  have hnext:∀rs' sp',rs'.length≤k+1→verdM (stM l bad) (gdM l bad x.limit) x.num (ts.drop (k+1)) rs'=V→J (ts.length-(k+1)) (vdS (wkX (ctsP l) (.lst false 1 (bad.map iP)) ls (ttsP ts) rn) x (stM l bad) ts rs' sp' (k+1)):=fun rs' sp' h1 h2=>hJ _ _ ⟨k+1,rs',sp',hlt,rfl,h1,rfl,h2⟩
  clear hJ;by_cases hlo:t.lot=x.num
  ·have hf:=ZkQ (S:=stM l bad) (i:=t.item) (d:=t.day) (sp:=sp);have hkey:=ZrZ (S:=stM l bad) (sp:=sp);have hp:=fun h=>ZmE (S:=stM l bad) (i:=t.item) (d:=t.day) (sp:=sp) h
   by_cases hin:(t.item,t.day)∈sp
   ·rw[if_pos hin]at hf;cases hs:stM l bad t.item t.day with
    |false=>
     rw[if_neg (by simp[hs])]at hv;rw[hs]at hf;have hn:=hnext rs sp (by omega) hv;simp[-getElem?_pos,-List.getElem?_map,vdS,wkX,hlt,hg,nblt,nble,setAt,hlo,hw,hf,hkey];exact⟨_,_,hmeas,Sub.mk (by simp[vdS]) (by simp[vdS,wkX]),hn⟩
    |true=>
     rw[hs]at hf;simp[-getElem?_pos,-List.getElem?_map,vdS,wkX,hlt,hg,nblt,nble,setAt,hlo,hw,hf,hkey];have hgc:=ZqK l bad ls (ttsP ts) rn hl hb x.num t.item t.day t.rd x.limit (hfit t hmem);refine cM [.ptr (.par 0) 0,.pv (.agg [.int .i64 x.num,.int .i64 t.item,.int .i64 t.day,.int .i64 t.rd]),.pv (.int .i64 x.limit)] [(.par 0,(wkX (ctsP l) (.lst false 1 (bad.map iP)) ls (ttsP ts) rn))] 58 [.par 0] (by simp[wkX]) hgc (by simp[wkX]) ?_;rw[if_pos ⟨hlo,hs⟩]at hv;have hgd:decide (x.limit≤t.rd+((ZaA l bad).spanM t.item t.day).1.lo)=gdM l bad x.limit t:=rfl;rw[hgd];clear hgd hgc;have h1:rs.length+1≤1000000:=by omega
     generalize gdM l bad x.limit t=gv at hv ⊢;simp[-getElem?_pos,wkX,h1,nble];refine .inl (cQ [] [x.pv] (Zix x.num x.pieces x.limit x.passed) ?_);simp[-getElem?_pos];refine Zac (as':=[.pv (planP x.pieces),.vec (.par 0) 1 0 (rs++[!gv]).length]) (B:=[(.par 0,.arr 4 1 ((rs++[!gv]).map .bool))]) (fs:=[]) (cs:=[]) 66 [.loc 61 0] ?_ rfl rfl ?_ ?_ ?_ (ZmI x.pieces h4 h30 (rs++[!gv]) (by simp;omega)) ?_
     ·first|rfl|simp
     ·first|rfl|simp
     ·first|rfl|simp
     ·first|rfl|simp
     rintro r0 B0 ⟨rfl,rfl⟩;refine⟨rfl,by simp,?_⟩;have hn:=hnext (rs++[!gv]) sp (by simp;omega);generalize planM (rs++[!gv])=pm at hv ⊢;obtain⟨v,mo,er⟩:=pm;by_cases h3:v=3
     ·subst h3;have hn:=hn hv;simp[-getElem?_pos,planE,hw];exact⟨_,_,hmeas,Sub.mk (by simp[vdS]) (by simp[vdS,wkX]),hn⟩
     ·rw[if_neg h3]at hv;simp[-getElem?_pos,planE,h3];rw[←hR,←hv];exact⟨rfl,by simp[wkX]⟩
   ·rw[if_neg hin]at hf;have hpn:=hp hin;have hsc:=Zep l bad ls (ttsP ts) rn hl hb x.num t.item t.day t.rd;simp[-getElem?_pos,-List.getElem?_map,vdS,wkX,hlt,hg,nblt,nble,setAt,hlo,hw,hf,hkey];refine Zac (as':=[.ptr (.par 0) 0,.pv (.agg [.int .i64 x.num,.int .i64 t.item,.int .i64 t.day,.int .i64 t.rd])]) (B:=[(.par 0,(wkX (ctsP l) (.lst false 1 (bad.map iP)) ls (ttsP ts) rn))]) (fs:=[.ptr (.par 0) 0]) (cs:=[]) 47 [.par 0] ?_ rfl rfl ?_ ?_ ?_ hsc ?_
    ·rfl
    ·simp[wkX]
    ·rfl
    ·rfl
    rintro r0 B0 ⟨rfl,rfl⟩;refine⟨rfl,by simp[wkX],?_⟩;have hst:decide (((ZaA l bad).bestM t.item t.day).2=0)=stM l bad t.item t.day:=rfl;rw[hst];cases hs:stM l bad t.item t.day with
    |false=>
     rw[if_neg (by simp[hs])]at hv;rw[hs]at hpn;have hn:=hnext rs (sp++[(t.item,t.day)]) (by omega) hv;simp[-getElem?_pos,wkX,hkey,hpn,hw];exact⟨_,_,hmeas,Sub.mk (by simp[vdS]) (by simp[vdS,wkX]),hn⟩
    |true=>
     rw[hs]at hpn;simp[-getElem?_pos,wkX,hkey,hpn,hw];have hgc:=ZqK l bad ls (ttsP ts) rn hl hb x.num t.item t.day t.rd x.limit (hfit t hmem);refine cM [.ptr (.par 0) 0,.pv (.agg [.int .i64 x.num,.int .i64 t.item,.int .i64 t.day,.int .i64 t.rd]),.pv (.int .i64 x.limit)] [(.par 0,(wkX (ctsP l) (.lst false 1 (bad.map iP)) ls (ttsP ts) rn))] 58 [.par 0] (by simp[wkX]) hgc (by simp[wkX]) ?_;rw[if_pos ⟨hlo,hs⟩]at hv;have hgd:decide (x.limit≤t.rd+((ZaA l bad).spanM t.item t.day).1.lo)=gdM l bad x.limit t:=rfl;rw[hgd];clear hgd hgc;have h1:rs.length+1≤1000000:=by omega
     generalize gdM l bad x.limit t=gv at hv ⊢;simp[-getElem?_pos,wkX,h1,nble];refine .inl (cQ [] [x.pv] (Zix x.num x.pieces x.limit x.passed) ?_);simp[-getElem?_pos];refine Zac (as':=[.pv (planP x.pieces),.vec (.par 0) 1 0 (rs++[!gv]).length]) (B:=[(.par 0,.arr 4 1 ((rs++[!gv]).map .bool))]) (fs:=[]) (cs:=[]) 66 [.loc 61 0] ?_ rfl rfl ?_ ?_ ?_ (ZmI x.pieces h4 h30 (rs++[!gv]) (by simp;omega)) ?_
     ·first|rfl|simp
     ·first|rfl|simp
     ·first|rfl|simp
     ·first|rfl|simp
     rintro r0 B0 ⟨rfl,rfl⟩;refine⟨rfl,by simp,?_⟩;have hn:=hnext (rs++[!gv]) (sp++[(t.item,t.day)]) (by simp;omega);generalize planM (rs++[!gv])=pm at hv ⊢;obtain⟨v,mo,er⟩:=pm;by_cases h3:v=3
     ·subst h3;have hn:=hn hv;simp[-getElem?_pos,planE,hw];exact⟨_,_,hmeas,Sub.mk (by simp[vdS]) (by simp[vdS,wkX]),hn⟩
     ·rw[if_neg h3]at hv;simp[-getElem?_pos,planE,h3];rw[←hR,←hv];exact⟨rfl,by simp[wkX]⟩
  ·rw[if_neg (fun h=>hlo h.1)]at hv;have hn:=hnext rs sp (by omega) hv;simp[-getElem?_pos,-List.getElem?_map,vdS,wkX,hlt,hg,nblt,nble,setAt,hlo,hw];exact⟨_,_,hmeas,Sub.mk (by simp[vdS]) (by simp[vdS,wkX]),hn⟩
 ·have he:k=ts.length:=by omega
  subst he;rw[List.drop_eq_nil_of_le (Zue _)]at hv;rw[ZlT]at hv;simp[-getElem?_pos,vdS,wkX];rw[←hR,hv];exact⟨rfl,by simp[wkX]⟩
end
section
open Go.RowKit
set_option maxRecDepth 10000
attribute [local simp] AS.exp expG Box.ren AV.map AV.mapL Zau noRet Site.isRet Box.allS AV.allS AV.allSL retB dropL AS.adds renL outG outOk Zas inG fnOf lookA Zuq
attribute [local simp] Box.purge Site.isLoc
attribute [local simp] frzsL retOk renB toLoc
theorem Zjz {x:Int}:∀{l:List Int},l.Pairwise (·<·)→x∈l→l[lowB l x]?=some x
 |y::r,hs,h=>by
  obtain⟨h1,h2⟩:=List.pairwise_cons.1 hs;unfold lowB;rw[ZuN];by_cases hy:y<x
  ·rw[if_pos (by simpa using hy)];have hm:x∈r:=by
    rcases Zul.1 h with rfl|h
    ·omega
    ·exact h
   exact Zjz h2 hm
  ·rw[if_neg (by simpa using hy)];have hx:x=y:=by
    rcases Zul.1 h with rfl|h
    ·rfl
    ·have:=h1 x h;omega
   subst hx;have hf:r.filter (fun y=>decide (y<x))=[]:=by
    rw[List.filter_eq_nil_iff];intro z hz
    have:=h1 z hz
    simp;omega
   rw[hf];rfl
theorem panW {E:Int→Prop}{n:Int}{τ:AS}{a b c d e:PV}(h1:E n)(h2:τ.b (.par 0)=some (wkX a b c d e)):panF (noR E) (errP n) τ:=by
 refine⟨[.par 0],rfl,fun s hs b hb=>?_,n,rfl,h1,a,b,c,d,e,?_⟩
 ·cases ZuA.1 hs;rw[h2]at hb;cases hb;rfl
 ·unfold AS.exp;rw[h2];rfl
theorem retW (fz:List Site){Q:PV→PV→PV→PV→PV→Prop}{τ:AS}{a b c d e:PV}(h2:(frzL fz τ).b (.par 0)=some (wkX a b c d e))(hq:Q a b c d e):retWp [] (okR Q) τ:=by
 refine⟨fz,[.par 0],[],rfl,rfl,rfl,fun s hs b hb=>?_,rfl,a,b,c,d,e,?_,hq⟩
 ·cases ZuA.1 hs;rw[h2]at hb;cases hb;rfl
 ·unfold AS.exp;rw[h2];rfl
def lotsP (l:List Lt):PV:=.lst false 4 (l.map Lt.pv)
def bdsP (l:List Int):PV:=.lst false 1 (l.map iP)
def passM (v:Lt→Int)(ls:List Lt)(n:Int):Except Int (List Lt):=
 match ls[lowB (ls.map Lt.num) n]? with
 |some x=>if x.num=n then(if x.passed=true then .error 6 else if v x=3 then .error 8 else if v x=1 then .ok (ls.set (lowB (ls.map Lt.num) n) { x with passed:=true })else .error 11)else .error 7
 |none=>.error 7
def wkQ (r:Except Int (List Lt))(l:List Ct)(bad:List Int)(ts:List Tt)(rn:PV)(a b c d e:PV):Prop:=∃ls',r=.ok ls'∧a=ctsP l∧b=bdsP bad∧c=lotsP ls'∧d=ttsP ts∧e=rn
def spFit (l:List Ct)(bad:List Int)(ts:List Tt):Prop:=∀t∈ts,IntKind.i64.wrap (t.rd+((ZaA l bad).spanM t.item t.day).1.lo)=t.rd+((ZaA l bad).spanM t.item t.day).1.lo
def ltOk (x:Lt):Prop:=1≤x.num∧x.num≤99∧4≤x.pieces∧x.pieces≤30
def verdL (l:List Ct)(bad:List Int)(ts:List Tt)(x:Lt):Int:=verdM (stM l bad) (gdM l bad x.limit) x.num ts []
theorem Zte (l:List Ct)(bad:List Int)(ls:List Lt)(ts:List Tt)(rn:PV)(n:Int)(hn:-1000000000<n∧n<1000000000)(hl:l.length≤1000)(hb:bad.length≤1000)(hll:ls.length≤900)(ht:ts.length≤900)(hs:(ls.map Lt.num).Pairwise (·<·))(hok:∀x∈ls,ltOk x)(hfit:spFit l bad ts):
  Za8 Tryz.prog 138 [.ptr (.par 0) 0,.pv (.lst false 1 [iP n])] [(.par 0,wkX (ctsP l) (bdsP bad) (lotsP ls) (ttsP ts) rn)] (okR (wkQ (passM (verdL l bad ts) ls n) l bad ts rn)) (noR (fun e=>passM (verdL l bad ts) ls n=.error e)):=by
 have hfc:=Znn ls n (ctsP l) (bdsP bad) (ttsP ts) rn hs (by omega) (fun y hy=>by obtain⟨h1,h2,_⟩:=hok y hy;exact wrap64 (by omega));refine cX L138 ?_;generalize hE:(fun e=>passM (verdL l bad ts) ls n=.error e)=E;generalize hQ:wkQ (passM (verdL l bad ts) ls n) l bad ts rn=Q;show awpX _ (.seq _ (.seq _ (.seq _ (.seq _ (.seq _ (.seq _ (.seq _ _))))))) _ _ _;refine Zao ?_;simp[-getElem?_pos,hold,wkX,lotsP];refine cM [.ptr (.par 0) 0,.pv (.int .i64 n)] [(.par 0,wkX (ctsP l) (bdsP bad) (lotsP ls) (ttsP ts) rn)] 12 [.par 0] (by simp[wkX,lotsP]) hfc (by simp[wkX]) ?_;simp[-getElem?_pos,-List.mem_map,hold,wkX];by_cases hm:n∈ls.map Lt.num
 ·have hlo:=Zjz hs hm;rw[Zt4]at hlo;obtain⟨x,hx,hxn⟩:=Zt8.1 hlo;unfold passM at hE hQ;rw[hx]at hE hQ;dsimp only at hE hQ;rw[if_pos hxn]at hE hQ;generalize hi:lowB (ls.map Lt.num) n=i at hx hQ ⊢;refine Zao ?_;simp[-getElem?_pos,-List.mem_map,hold,hm];refine cG [.bool true,.int .i64 7] (ask_t 7) ?_;simp[-getElem?_pos,hold];have hil:i<ls.length:=(Zt5.1 hx).1;have hgx:(ls.map Lt.pv)[i]?=some x.pv:=by rw[Zt4,hx];rfl
  simp only[Lt.pv]at hgx;have hvc:=Zen l bad (lotsP ls) ts rn x hl hb ht (hok x (Zua hx)).2.2.1 (hok x (Zua hx)).2.2.2 hfit;cases hps:x.passed with
  |true=>
   rw[hps]at hE hgx;have hE6:E 6:=by rw[←hE];rfl
   refine Zan [_,_,_,_,_,_,_,_,_,_] ?_;simp[-getElem?_pos,-List.getElem?_map,hold,hil,hgx,nblt,nble];exact Zar (d:=99) [] (xs:=[.bool false,.int .i64 6]) (cs:=[]) rfl rfl (ask_f 6) rfl (fun x hx=>by rw[hx.1];exact panW hE6 rfl) (fun x B hx=>hx.2)
  |false=>
  rw[hps]at hE hQ hgx;rw[if_neg (by simp)]at hE hQ;refine Zao ?_;simp[-getElem?_pos,-List.getElem?_map,hold,hil,hgx,nblt,nble];refine cG [.bool true,.int .i64 6] (ask_t 6) ?_;simp[-getElem?_pos,hold];refine Zao ?_;simp[-getElem?_pos,-List.getElem?_map,hold,hil,hgx,nblt,nble];refine cM [.ptr (.par 0) 0,.pv (.agg [.int .i64 x.num,.int .i64 x.pieces,.int .i64 x.limit,.bool false])] [(.par 0,(wkX (ctsP l) (bdsP bad) (lotsP ls) (ttsP ts) rn))] 37 [.par 0] (by simp[wkX,lotsP]) (by rw[Lt.pv,hps]at hvc;exact hvc) (by simp[wkX]) ?_;have hvd:verdM (stM l bad) (gdM l bad x.limit) x.num ts []=verdL l bad ts x:=rfl;rw[hvd];clear hvd hvc hfc;generalize verdL l bad ts x=v at hE hQ ⊢;simp[-getElem?_pos,hold,wkX];by_cases h3:v=3
  ·rw[if_pos h3]at hE;have hE8:E 8:=by rw[←hE]
   refine Zan [_,_] ?_;simp[-getElem?_pos,hold,h3];exact Zar (d:=99) [] (xs:=[.bool false,.int .i64 8]) (cs:=[]) rfl rfl (ask_f 8) rfl (fun x hx=>by rw[hx.1];exact panW hE8 rfl) (fun x B hx=>hx.2)
  rw[if_neg h3]at hE hQ;refine Zao ?_;simp[-getElem?_pos,hold,h3];refine cG [.bool true,.int .i64 8] (ask_t 8) ?_;simp[-getElem?_pos,hold];by_cases h1:¬v=1
  ·rw[if_neg h1]at hE;have hE11:E 11:=by rw[←hE]
   refine Zan [_,_] ?_;simp[-getElem?_pos,hold,h1];exact Zar (d:=99) [] (xs:=[.bool false,.int .i64 11]) (cs:=[]) rfl rfl (ask_f 11) rfl (fun x hx=>by rw[hx.1];exact panW hE11 rfl) (fun x B hx=>hx.2)
  have h1:v=1:=Decidable.not_not.1 h1;rw[if_pos h1]at hQ;refine Zao ?_;simp[-getElem?_pos,hold,h1];refine cG [.bool true,.int .i64 11] (ask_t 11) ?_;simp[-getElem?_pos,hold];refine Zao ?_;simp[-getElem?_pos,hold,lotsP];refine .inl (Zbr [] (fs:=[]) (xs:=[.lst false 4 (ls.map Lt.pv)]) (cs:=[]) (d:=50) rfl rfl (Zhq (ls.map Lt.pv) (by rw[Zuc];omega)) ?_);rintro r B (⟨h,rfl,rfl⟩|⟨rfl,rfl⟩)
  ·rw[List.map_eq_nil_iff.1 h]at hil;exact absurd hil (Nat.not_lt_zero _)
  refine⟨by simp,?_⟩;simp[-getElem?_pos,hold];refine ZbZ ?_;simp[-getElem?_pos,-List.getElem?_map,hold,hil,hgx,nblt,nble,setAt];have hset:(ls.map Lt.pv).set i (.agg [.int .i64 x.num,.int .i64 x.pieces,.int .i64 x.limit,.bool true])=(ls.set i { x with passed:=true }).map Lt.pv:=by rw[List.map_set];rfl
  rw[hset];have htk:List.take ls.length ((ls.set i { x with passed:=true }).map Lt.pv)=(ls.set i { x with passed:=true }).map Lt.pv:=Zub (by simp);refine retW (a:=ctsP l) (b:=bdsP bad) (c:=lotsP (ls.set i { x with passed:=true })) (d:=ttsP ts) (e:=rn) [.loc 50 0] ?_ ?_
  ·simp[-List.map_set,frzL,AS.frz,AV.frz,AV.frzL,Box.frz,AS.tidy,AS.frzC,wkX,lotsP,bdsP,htk]
  ·rw[←hQ];exact⟨_,rfl,rfl,rfl,rfl,rfl,rfl⟩
 ·have hE7:E 7:=by
   rw[←hE];unfold passM;split
   ·rename_i x hx;have hne:¬x.num=n:=fun h=>hm (by rw[←h];exact List.mem_map_of_mem (Zua hx))
    rw[if_neg hne]
   ·rfl
  refine Zan [_] ?_;simp[-getElem?_pos,-List.mem_map,hold,hm];exact Zar (d:=99) [] (xs:=[.bool false,.int .i64 7]) (cs:=[]) rfl rfl (ask_f 7) rfl (fun x hx=>by rw[hx.1];exact panW hE7 rfl) (fun x B hx=>hx.2)
def manyT (ts:List Tt)(n:Int):Nat:=(ts.filter fun t=>decide (t.lot=n)).length
theorem Zln {ts:List Tt}{n:Int}{k:Nat}{t:Tt}(h:ts[k]?=some t):manyT (ts.take (k+1)) n=manyT (ts.take k) n+(if t.lot=n then 1 else 0):=by
 unfold manyT;rw[Zuf,h,ZuV,Zt9];congr 1;simp only[Option.toList,ZuN,List.filter_nil];by_cases ht:t.lot=n<;>simp[ht]
theorem ZoX {ts:List Tt}{n:Int}:manyT ts n≤ts.length:=ZuX _ _
def testM (S:Int→Int→Bool)(v:Lt→Int)(ls:List Lt)(ts:List Tt)(q:Tt):Except Int (List Tt):=
 if(decide (2≤q.item)&&decide (q.item≤5))=true∧(decide (0≤q.day)&&decide (q.day≤1000))=true∧(decide (0≤q.rd)&&decide (q.rd≤2000))=true then
  (match ls[lowB (ls.map Lt.num) q.lot]? with
  |some x=>if x.num=q.lot then(if x.passed=true then .error 8 else if v x=3 then(if(manyT ts q.lot:Int)<x.pieces then(if S q.item q.day=true then .ok (ts++[q])else .error 10)else .error 3)else .error 8)else .error 7
  |none=>.error 7)
 else .error 2
def tsQ (r:Except Int (List Tt))(l:List Ct)(bad:List Int)(ls:List Lt)(rn:PV)(a b c d e:PV):Prop:=∃ts',r=.ok ts'∧a=ctsP l∧b=bdsP bad∧c=lotsP ls∧d=ttsP ts'∧e=rn
def tsS (W:Box)(x:Lt)(q:Tt)(ts:List Tt)(k:Nat):AS:=
 ⟨[(0,.ptr (.par 0) 0),(1,.pv (.lst false 1 [.int .i64 q.lot,.int .i64 q.item,.int .i64 q.day,.int .i64 q.rd])),(6,.ptr (.loc 6 0) 0),(7,.pv (.int .i64 ((manyT (ts.take k) q.lot:Nat):Int))),(60,.pv (.lst false 4 (ts.map Tt.pv))),(61,.pv (.int .i64 ts.length)),(62,.pv (.int .i64 (k:Int)))],
  [(.loc 6 0,.cells [.pv (.int .i64 x.num),.pv (.int .i64 x.pieces),.pv (.int .i64 x.limit),.pv (.bool false)]),(.par 0,W)]⟩
theorem Zs1 (l:List Ct)(bad:List Int)(ls:List Lt)(ts:List Tt)(rn:PV)(q:Tt)(hn:-1000000000<q.lot∧q.lot<1000000000)(hl:l.length≤1000)(hb:bad.length≤1000)(hll:ls.length≤900)(ht:ts.length≤900)(hs:(ls.map Lt.num).Pairwise (·<·))(hok:∀x∈ls,ltOk x)(hfit:spFit l bad ts):
  Za8 Tryz.prog 137 [.ptr (.par 0) 0,.pv (.lst false 1 [iP q.lot,iP q.item,iP q.day,iP q.rd])] [(.par 0,wkX (ctsP l) (bdsP bad) (lotsP ls) (ttsP ts) rn)] (okR (tsQ (testM (stM l bad) (verdL l bad ts) ls ts q) l bad ls rn)) (noR (fun e=>testM (stM l bad) (verdL l bad ts) ls ts q=.error e)):=by
 have hfc:=Znn ls q.lot (ctsP l) (bdsP bad) (ttsP ts) rn hs (by omega) (fun y hy=>by obtain⟨h1,h2,_⟩:=hok y hy;exact wrap64 (by omega));have w1:=ZbL q.item 2 5;have w2:=ZbL q.day 0 1000;have w3:=ZbL q.rd 0 2000;refine cX L137 ?_;generalize hE:(fun e=>testM (stM l bad) (verdL l bad ts) ls ts q=.error e)=E;generalize hQ:tsQ (testM (stM l bad) (verdL l bad ts) ls ts q) l bad ls rn=Q;unfold testM at hE hQ;generalize(decide (2≤q.item)&&decide (q.item≤5))=c1 at w1 hE hQ;generalize(decide (0≤q.day)&&decide (q.day≤1000))=c2 at w2 hE hQ;generalize(decide (0≤q.rd)&&decide (q.rd≤2000))=c3 at w3 hE hQ;show awpX _ (.seq _ (.seq _ (.seq _ _))) _ _ _;by_cases hc:¬(c1=true∧c2=true∧c3=true)
 ·have hE2:E 2:=by rw[←hE,if_neg hc]
  refine Zan [_,_,_,_,_,_,_,_,_,_,_,_,_,_,_,_] ?_;simp[-getElem?_pos,hold,iP];refine cG [.int .i64 q.item,.int .i64 2,.int .i64 5] w1 ?_;cases c1 with
  |false=>
   simp[-getElem?_pos,hold];exact Zar (d:=99) [] (xs:=[.bool false,.int .i64 2]) (cs:=[]) rfl rfl (ask_f 2) rfl (fun x hx=>by rw[hx.1];exact panW hE2 rfl) (fun x B hx=>hx.2)
  |true=>
  simp[-getElem?_pos,hold];refine cG [.int .i64 q.day,.int .i64 0,.int .i64 1000] w2 ?_;cases c2 with
  |false=>
   simp[-getElem?_pos,hold];exact Zar (d:=99) [] (xs:=[.bool false,.int .i64 2]) (cs:=[]) rfl rfl (ask_f 2) rfl (fun x hx=>by rw[hx.1];exact panW hE2 rfl) (fun x B hx=>hx.2)
  |true=>
  simp[-getElem?_pos,hold];refine cG [.int .i64 q.rd,.int .i64 0,.int .i64 2000] w3 ?_;cases c3 with
  |false=>
   simp[-getElem?_pos,hold];exact Zar (d:=99) [] (xs:=[.bool false,.int .i64 2]) (cs:=[]) rfl rfl (ask_f 2) rfl (fun x hx=>by rw[hx.1];exact panW hE2 rfl) (fun x B hx=>hx.2)
  |true=>exact absurd ⟨rfl,rfl,rfl⟩ hc
 have hc:=Decidable.not_not.1 hc;rw[if_pos hc]at hE hQ;obtain⟨rfl,rfl,rfl⟩:=hc;refine Zao ?_;simp[-getElem?_pos,hold,iP];refine cG [.int .i64 q.item,.int .i64 2,.int .i64 5] w1 ?_;simp[-getElem?_pos,hold];refine cG [.int .i64 q.day,.int .i64 0,.int .i64 1000] w2 ?_;simp[-getElem?_pos,hold];refine cG [.int .i64 q.rd,.int .i64 0,.int .i64 2000] w3 ?_;simp[-getElem?_pos,hold];refine cG [.bool true,.int .i64 2] (ask_t 2) ?_;simp[-getElem?_pos,hold];refine Zao ?_;simp[-getElem?_pos,hold,wkX,lotsP];refine cM [.ptr (.par 0) 0,.pv (.int .i64 q.lot)] [(.par 0,wkX (ctsP l) (bdsP bad) (lotsP ls) (ttsP ts) rn)] 33 [.par 0] (by simp[wkX,lotsP]) hfc (by simp[wkX]) ?_;simp[-getElem?_pos,-List.mem_map,hold,wkX];by_cases hm:¬q.lot∈ls.map Lt.num
 ·have hE7:E 7:=by
   rw[←hE];split
   ·rename_i x hx;have hne:¬x.num=q.lot:=fun h=>hm (by rw[←h];exact List.mem_map_of_mem (Zua hx))
    rw[if_neg hne]
   ·rfl
  refine Zan [_] ?_;simp[-getElem?_pos,-List.mem_map,hold,hm];exact Zar (d:=99) [] (xs:=[.bool false,.int .i64 7]) (cs:=[]) rfl rfl (ask_f 7) rfl (fun x hx=>by rw[hx.1];exact panW hE7 rfl) (fun x B hx=>hx.2)
 have hm:=Decidable.not_not.1 hm;have hlo:=Zjz hs hm;rw[Zt4]at hlo;obtain⟨x,hx,hxn⟩:=Zt8.1 hlo;rw[hx]at hE hQ;dsimp only at hE hQ;rw[if_pos hxn]at hE hQ;generalize hi:lowB (ls.map Lt.num) q.lot=i at hx hQ ⊢;have hil:i<ls.length:=(Zt5.1 hx).1;have hgx:(ls.map Lt.pv)[i]?=some x.pv:=by rw[Zt4,hx];rfl
 simp only[Lt.pv]at hgx;have hvc:=Zen l bad (lotsP ls) ts rn x hl hb ht (hok x (Zua hx)).2.2.1 (hok x (Zua hx)).2.2.2 hfit;refine Zao ?_;simp[-getElem?_pos,-List.mem_map,hold,hm];refine cG [.bool true,.int .i64 7] (ask_t 7) ?_;simp[-getElem?_pos,hold];refine Zao ?_;simp[-getElem?_pos,-List.getElem?_map,hold,hil,hgx,nblt,nble,setAt];have pan8:∀τ:AS,E 8→τ.b (.par 0)=some (wkX (ctsP l) (bdsP bad) (lotsP ls) (ttsP ts) rn)→panF (noR E) (errP 8) τ:=fun τ h1 h2=>panW h1 h2
 cases hps:x.passed with
 |true=>
  rw[hps]at hE;have hE8:E 8:=by rw[←hE];rfl
  refine Zan [_,_,_,_,_,_,_,_,_] ?_;simp[-getElem?_pos,hold];exact Zar (d:=99) [] (xs:=[.bool false,.int .i64 8]) (cs:=[]) rfl rfl (ask_f 8) rfl (fun x hx=>by rw[hx.1];exact panW hE8 rfl) (fun x B hx=>hx.2)
 |false=>
 rw[hps]at hE hQ;rw[if_neg (by simp)]at hE hQ;have hvd:verdM (stM l bad) (gdM l bad x.limit) x.num ts []=verdL l bad ts x:=rfl;rw[hvd]at hvc;clear hvd hfc;generalize verdL l bad ts x=v at hE hQ hvc;rw[Lt.pv,hps]at hvc;by_cases h3:¬v=3
 ·rw[if_neg h3]at hE;have hE8:E 8:=by rw[←hE]
  refine Zan [_,_,_,_,_,_,_,_,_] ?_;simp[-getElem?_pos,hold];refine cM [.ptr (.par 0) 0,.pv (.agg [.int .i64 x.num,.int .i64 x.pieces,.int .i64 x.limit,.bool false])] [(.par 0,(wkX (ctsP l) (bdsP bad) (lotsP ls) (ttsP ts) rn))] 52 [.par 0] (by simp[wkX,lotsP]) hvc (by simp[wkX]) ?_;simp[-getElem?_pos,hold,wkX,h3];exact Zar (d:=99) [] (xs:=[.bool false,.int .i64 8]) (cs:=[]) rfl rfl (ask_f 8) rfl (fun x hx=>by rw[hx.1];exact panW hE8 rfl) (fun x B hx=>hx.2)
 have h3:=Decidable.not_not.1 h3;rw[if_pos h3]at hE hQ;refine Zao ?_;simp[-getElem?_pos,hold];refine cM [.ptr (.par 0) 0,.pv (.agg [.int .i64 x.num,.int .i64 x.pieces,.int .i64 x.limit,.bool false])] [(.par 0,(wkX (ctsP l) (bdsP bad) (lotsP ls) (ttsP ts) rn))] 52 [.par 0] (by simp[wkX,lotsP]) hvc (by simp[wkX]) ?_;simp[-getElem?_pos,hold,wkX,h3];refine cG [.bool true,.int .i64 8] (ask_t 8) ?_;simp[-getElem?_pos,hold];refine Zao ?_;simp[-getElem?_pos,hold];refine Zao ?_;simp[-getElem?_pos,hold,ttsP];refine Zae (fun m τ=>∃k:Nat,k≤ts.length∧m=ts.length-k∧τ=tsS (wkX (ctsP l) (bdsP bad) (lotsP ls) (ttsP ts) rn) x q ts k) ⟨ts.length,tsS (wkX (ctsP l) (bdsP bad) (lotsP ls) (ttsP ts) rn) x q ts 0,Sub.mk (by simp[tsS,manyT]) (by simp[tsS,wkX,bdsP,lotsP,ttsP]),0,Zud _,rfl,rfl⟩ ?_;rintro J hJ m τ ⟨k,hk,rfl,rfl⟩;by_cases hlt:k<ts.length
 ·obtain⟨t,hxt⟩:∃t,ts[k]?=some t:=⟨ts[k],Zt3 hlt⟩;have hg:(ts.map Tt.pv)[k]?=some t.pv:=by rw[Zt4,hxt];rfl
  simp only[Tt.pv]at hg;have hw:=wrapK (k:=k) (by omega);have hm1:=ZoX (ts:=ts.take k) (n:=q.lot);rw[Zt6]at hm1;have hw2:=wrapK (k:=manyT (ts.take k) q.lot) (by omega);have hmeas:ts.length-(k+1)<ts.length-k:=by omega
  have hn:=hJ (ts.length-(k+1)) _ ⟨k+1,hlt,rfl,rfl⟩;unfold tsS at hn;rw[Zln hxt]at hn;by_cases htl:t.lot=q.lot
  ·rw[if_pos htl]at hn;simp[-getElem?_pos,-List.getElem?_map,tsS,wkX,hlt,hg,nblt,nble,setAt,hw,hw2,htl,hxn];exact⟨_,_,hmeas,Sub.mk (by simp[hxn]) (by simp[wkX,hxn]),hn⟩
  ·rw[if_neg htl]at hn;simp[-getElem?_pos,-List.getElem?_map,tsS,wkX,hlt,hg,nblt,nble,setAt,hw,htl,hxn];exact⟨_,_,hmeas,Sub.mk (by simp[hxn]) (by simp[wkX,hxn]),hn⟩
 have he:k=ts.length:=by omega
 subst he;simp[-getElem?_pos,tsS,hold,wkX];by_cases hmp:¬(manyT ts q.lot:Int)<x.pieces
 ·rw[if_neg hmp]at hE;have hE3:E 3:=by rw[←hE]
  refine Zan [_,_,_,_] ?_;simp[-getElem?_pos,hold,hmp];exact Zar (d:=99) [] (xs:=[.bool false,.int .i64 3]) (cs:=[]) rfl rfl (ask_f 3) rfl (fun x hx=>by rw[hx.1];exact panW hE3 rfl) (fun x B hx=>hx.2)
 have hmp:=Decidable.not_not.1 hmp;rw[if_pos hmp]at hE hQ;refine Zao ?_;simp[-getElem?_pos,hold,hmp];refine cG [.bool true,.int .i64 3] (ask_t 3) ?_;simp[-getElem?_pos,hold];refine Zao ?_;simp[-getElem?_pos,hold,setAt];have hsc:=Zep l bad (lotsP ls) (ttsP ts) rn hl hb q.lot q.item q.day q.rd;have hst:decide (((ZaA l bad).bestM q.item q.day).2=0)=stM l bad q.item q.day:=rfl;rw[hst]at hsc;clear hst;cases hsv:stM l bad q.item q.day with
 |false=>
  rw[hsv]at hE hsc;have hE10:E 10:=by rw[←hE];rfl
  refine Zan [_,_,_] ?_;simp[-getElem?_pos,hold];refine cM [.ptr (.par 0) 0,.pv (.agg [.int .i64 q.lot,.int .i64 q.item,.int .i64 q.day,.int .i64 q.rd])] [(.par 0,(wkX (ctsP l) (bdsP bad) (lotsP ls) (ttsP ts) rn))] 94 [.par 0] (by simp[wkX,bdsP,lotsP,ttsP]) hsc (by simp[wkX]) ?_;simp[-getElem?_pos,hold,wkX];exact Zar (d:=99) [] (xs:=[.bool false,.int .i64 10]) (cs:=[]) rfl rfl (ask_f 10) rfl (fun x hx=>by rw[hx.1];exact panW hE10 rfl) (fun x B hx=>hx.2)
 |true=>
 rw[hsv]at hQ hsc;rw[if_pos rfl]at hQ;refine Zao ?_;simp[-getElem?_pos,hold];refine cM [.ptr (.par 0) 0,.pv (.agg [.int .i64 q.lot,.int .i64 q.item,.int .i64 q.day,.int .i64 q.rd])] [(.par 0,(wkX (ctsP l) (bdsP bad) (lotsP ls) (ttsP ts) rn))] 94 [.par 0] (by simp[wkX,bdsP,lotsP,ttsP]) hsc (by simp[wkX]) ?_;simp[-getElem?_pos,hold,wkX];refine cG [.bool true,.int .i64 10] (ask_t 10) ?_;simp[-getElem?_pos,hold];refine ZbZ ?_;simp[-getElem?_pos,hold,ttsP];refine .inl (cQ [] [.lst false 4 (ts.map Tt.pv),.agg [.int .i64 q.lot,.int .i64 q.item,.int .i64 q.day,.int .i64 q.rd]] (ZnM (ts.map Tt.pv) q.lot q.item q.day q.rd (by rw[Zuc];omega)) ?_);simp[-getElem?_pos,hold];have hap:ts.map Tt.pv++[.agg [.int .i64 q.lot,.int .i64 q.item,.int .i64 q.day,.int .i64 q.rd]]=(ts++[q]).map Tt.pv:=by rw[Zuw];rfl
 rw[hap];refine retW (a:=ctsP l) (b:=bdsP bad) (c:=lotsP ls) (d:=ttsP (ts++[q])) (e:=rn) [] ?_ ?_
 ·simp[-List.map_append,frzL,wkX,ttsP,bdsP]
 ·rw[←hQ];exact⟨_,rfl,rfl,rfl,rfl,rfl,rfl⟩
end
section
open Go.RowKit
set_option maxRecDepth 10000
section
attribute [local simp] Box.purge Site.isLoc
theorem ZpB (l:List Ct)(h0:l≠[])(hl:l.length≤1000000):Zak Tryz.prog 68 [.pv (ctsP l)] [] (fun r B=>r=.vec (.ret 0) 7 0 l.length∧B=[(.ret 0,.arr 83 7 (l.map Ct.pv))]):=by
 refine cB [.loc 7 0] L68 ?_;cases l with
 |nil=>exact absurd rfl h0
 |cons a l=>
  have h1:l.length+1≤1000000:=by simpa using hl
  have hm:(l.map Ct.pv).take l.length=l.map Ct.pv:=Zub (by simp);simp[-getElem?_pos,L68,ctsP,nilOf,nble,h1,hm,retB,Zau,AS.exp,expG,Box.ren,AV.map,AV.mapL,noRet,Site.isRet,Box.allS,AV.allS,AV.allSL,Zuq]
end
attribute [local simp] AS.exp expG Box.ren AV.map AV.mapL Zau noRet Site.isRet Box.allS AV.allS AV.allSL retB dropL AS.adds renL outG outOk Zas inG fnOf lookA Zuq
attribute [local simp] Box.purge Site.isLoc
theorem Zsl {X:List Ct}{w:Nat}{r:Ct}:(X.map Ct.pv).set w (.agg [.int .i64 r.num,.int .i64 r.it,.int .i64 r.src,.int .i64 r.day,.int .i64 r.valid,.int .i64 r.diff.lo,.int .i64 r.diff.hi])=(X.set w r).map Ct.pv:=by rw[List.map_set];rfl
theorem ZlA {α:Type}{l:List α}{k:Nat}{x:α}{p:α→Bool}(h:l[k]?=some x)(hp:p x=true)(hinv:∀(j:Nat) (y:α),j<k→l[j]?=some y→p y=false):l.findIdx? p=some k:=by
 obtain⟨hlt,e⟩:=Zt5.1 h;rw[ZuT];refine⟨hlt,by rw[e];exact hp,fun j hj=>?_⟩
 have:=hinv j l[j] hj (Zt3 (by omega))
 simp[this]
theorem Zpn {α:Type}{l:List α}{p:α→Bool}(hinv:∀(j:Nat) (y:α),j<l.length→l[j]?=some y→p y=false):l.findIdx? p=none:=by
 rw[ZuU];intro x hx;obtain⟨j,hj⟩:=Zui.1 hx;exact hinv j x (Zt5.1 hj).1 hj
theorem Zlz {α:Type}{l:List α}{p:α→Bool}{i:Nat}(h:l.findIdx? p=some i):i<l.length∧l.take i=(l.take (i+1)).filter (fun n=>!p n):=by
 obtain⟨h1,h2,h3⟩:=ZuT.1 h;refine⟨h1,?_⟩;rw[Zuf,Zt3 h1,ZuV];have e:(Option.some l[i]).toList.filter (fun n=>!p n)=[]:=by simp[h2]
 rw[e,Zut,List.filter_eq_self.2];intro x hx;obtain⟨j,hj⟩:=Zui.1 hx;rw[Zuj]at hj;split at hj
 ·rename_i hji;obtain⟨q1,q2⟩:=Zt5.1 hj
  have:=h3 j hji
  rw[q2]at this;simpa using this
 ·cases hj
theorem ZiV {α:Type}{l:List α}{p:α→Bool}(h:l.findIdx? p=none):l.filter (fun n=>!p n)=l:=by
 rw[List.filter_eq_self];intro x hx
 have:=ZuU.1 h x hx
 simp[this]
def deB (d:Int)(m:Nat):List Box:=[.cells [.pv (.int .i64 d)]]
theorem predT (d:Int)(c:Ct)(_:True):Zak Tryz.prog 215 [.pv c.pv,.ptr (.par 0) 0] (laid 0 (deB d 0)) (fun r B=>r=.pv (.bool (decide (c.num=d)))∧B=laid 0 (deB d 0)):=by
 refine cB [.par 0] L215 ?_;simp[-getElem?_pos,L215,deB,laid,Ct.pv]
section
variable (d:Int)
theorem ixT (l:List Ct)(hl:l.length≤1000)(hin:∀c∈l,True):
  Zak Tryz.prog 101 [.vec (.par 0) 7 0 l.length,(.fn 215 [] [.ptr (.par 1) 0])] (laid 0 (.arr 83 7 (l.map Ct.pv)::deB d 1)) (fun x B=>x=.pv (.int .i64 (ixI (l.findIdx? (fun c:Ct=>decide (c.num=d)))))∧B=laid 0 (.arr 83 7 (l.map Ct.pv)::deB d 1)):=by
 refine cBR [.par 0,.par 1] L101 ?_;intro R hR;simp[-getElem?_pos,L101,deB,laid];refine Zae (fun n τ=>∃k:Nat,k≤l.length∧n=l.length-k∧(∀(j:Nat) (y:Ct),j<k→l[j]?=some y→(fun c:Ct=>decide (c.num=d)) y=false)∧τ=⟨[(0,.vec (.par 0) 7 0 l.length),(1,(.fn 215 [] [.ptr (.par 1) 0])),(7,.pv (.int .i64 l.length)),(8,.pv (.int .i64 k))],laid 0 (.arr 83 7 (l.map Ct.pv)::deB d 1)⟩)
  ⟨l.length,⟨[(0,.vec (.par 0) 7 0 l.length),(1,(.fn 215 [] [.ptr (.par 1) 0])),(7,.pv (.int .i64 l.length)),(8,.pv (.int .i64 0))],laid 0 (.arr 83 7 (l.map Ct.pv)::deB d 1)⟩,Sub.mk (by simp) (by simp[deB,laid]),0,Zud _,rfl,(fun j y hj=>by omega),rfl⟩ ?_
 rintro J hJ n τ ⟨k,hk,rfl,hinv,rfl⟩;by_cases hlt:k<l.length
 ·obtain⟨r,hx⟩:∃x,l[k]?=some x:=⟨l[k],Zt3 hlt⟩;have hg:(l.map Ct.pv)[k]?=some (.agg [.int .i64 r.num,.int .i64 r.it,.int .i64 r.src,.int .i64 r.day,.int .i64 r.valid,.int .i64 r.diff.lo,.int .i64 r.diff.hi]):=by rw[Zt4,hx];rfl
  have hw:=wrapK (k:=k) (by omega);have hmeas:l.length-(k+1)<l.length-k:=by omega
  have hC:=predT d r (hin r (Zua hx));have hnext:(fun c:Ct=>decide (c.num=d)) r=false→J (l.length-(k+1)) _:=fun hn=>hJ _ _ ⟨k+1,hlt,rfl,(fun j y hj hy=>by
   rcases ZuW.1 hj with h|h
   ·exact hinv j y h hy
   ·subst h;rw[hx]at hy;cases hy;exact hn),rfl⟩
  clear hJ;simp[-getElem?_pos,-List.getElem?_map,deB,laid,hlt,hg,nblt,nble];refine cM [.pv r.pv,.ptr (.par 0) 0] (laid 0 (deB d 0)) 16 [.par 1] (by simp[deB,laid]) hC (by simp[deB,laid]) ?_;cases hgv:(fun c:Ct=>decide (c.num=d)) r with
  |false=>
   have hround:=hnext hgv;have hgv':(decide (r.num=d))=false:=hgv;simp[-getElem?_pos,-List.getElem?_map,deB,laid,hw,hgv'];refine⟨_,_,hmeas,Sub.mk ?_ ?_,hround⟩
   ·simp
   ·simp[deB,laid]
  |true=>
   have hf:=ZlA hx hgv hinv;have hgv':(decide (r.num=d))=true:=hgv;simp[-getElem?_pos,-List.getElem?_map,deB,laid,hgv'];rw[←hR,hf];simp[deB,laid,ixI]
 ·have he:k=l.length:=by omega
  subst he;have hf:=Zpn hinv;clear hJ;simp[-getElem?_pos,-List.getElem?_map,deB,laid];rw[←hR,hf];simp[deB,laid,ixI]
set_option maxHeartbeats 8000000 in
theorem delT (l:List Ct)(hl:l.length≤1000)(hin:∀c∈l,True):
  Zak Tryz.prog 82 [.vec (.par 0) 7 0 l.length,(.fn 215 [] [.ptr (.par 1) 0])] (laid 0 (.arr 83 7 (l.map Ct.pv)::deB d 1)) (fun x B=>x=.vec (.par 0) 7 0 (l.filter (fun n=>!(fun c:Ct=>decide (c.num=d)) n)).length∧∃X:List Ct,X.take (l.filter (fun n=>!(fun c:Ct=>decide (c.num=d)) n)).length=l.filter (fun n=>!(fun c:Ct=>decide (c.num=d)) n)∧B=laid 0 (.arr 83 7 (X.map Ct.pv)::deB d 1)):=by
 have hC:=ixT d l hl hin;refine cBR [.par 0,.par 1] L82 ?_;intro R hR;simp[-getElem?_pos,L82,deB,laid];refine cM [.vec (.par 0) 7 0 l.length,(.fn 215 [] [.ptr (.par 1) 0])] (laid 0 (.arr 83 7 (l.map Ct.pv)::deB d 1)) 10 [.par 0,.par 1] (by simp[deB,laid]) hC (by simp[deB,laid]) ?_;cases hx:l.findIdx? (fun c:Ct=>decide (c.num=d))with
 |none=>
  have hfl:=ZiV hx;simp[-getElem?_pos,deB,laid,ixI];rw[←hR,hfl];exact⟨rfl,l,by simp,by simp[deB,laid]⟩
 |some i=>
  obtain⟨hi,hti⟩:=Zlz hx;have hw1:=wrapK (k:=i) (by omega);have hni:¬((i:Int) = -1):=by omega
  clear hC;simp[-getElem?_pos,deB,laid,ixI,hw1,hni];refine Zae (fun n τ=>∃(j:Nat) (X K:List Ct),j≤l.length∧n=l.length-j∧X.length=l.length∧K=(l.take j).filter (fun n=>!(fun c:Ct=>decide (c.num=d)) n)∧X.take K.length=K∧X.drop j=l.drop j∧K.length<j∧τ=⟨[(0,.vec (.par 0) 7 0 l.length),(1,(.fn 215 [] [.ptr (.par 1) 0])),(5,.pv (.int .i64 K.length)),(6,.pv (.int .i64 j))],laid 0 (.arr 83 7 (X.map Ct.pv)::deB d 1)⟩)
   ⟨l.length-(i+1),⟨[(0,.vec (.par 0) 7 0 l.length),(1,(.fn 215 [] [.ptr (.par 1) 0])),(5,.pv (.int .i64 i)),(6,.pv (.int .i64 (i+1:Nat)))],laid 0 (.arr 83 7 (l.map Ct.pv)::deB d 1)⟩,Sub.mk (by simp) (by simp[deB,laid]),i+1,l,l.take i,by omega,rfl,rfl,hti,by simp,rfl,by rw[Zt6];omega,by rw[Zt6,ZuB (by omega)]⟩ ?_
  clear hx hw1 hni hti;rintro J hJ n τ ⟨j,X,K,hj,rfl,hXl,hKe,hXt,hXd,hKj,rfl⟩;by_cases hlt:j<l.length
  ·obtain⟨r,hxr⟩:∃x,l[j]?=some x:=⟨l[j],Zt3 hlt⟩;have hXr:X[j]?=some r:=by
    have h1:(X.drop j)[0]?=(l.drop j)[0]?:=by rw[hXd]
    rw[Zur,Zur,Nat.add_zero]at h1;rw[h1];exact hxr
   have hg:(X.map Ct.pv)[j]?=some (.agg [.int .i64 r.num,.int .i64 r.it,.int .i64 r.src,.int .i64 r.day,.int .i64 r.valid,.int .i64 r.diff.lo,.int .i64 r.diff.hi]):=by rw[Zt4,hXr];rfl
   have hw:=wrapK (k:=j) (by omega);have hw2:=wrapK (k:=K.length) (by omega);have hmeas:l.length-(j+1)<l.length-j:=by omega
   have hC:=predT d r (hin r (Zua hxr));have hdn:X.drop (j+1)=l.drop (j+1):=by
    have:=congrArg List.tail hXd
    simpa[List.tail_drop]using this
   have hKl:K.length<X.length:=by omega
   have htn:(l.take (j+1)).filter (fun n=>!(fun c:Ct=>decide (c.num=d)) n)=K++(if(!(fun c:Ct=>decide (c.num=d)) r)=true then[r]else[]):=by
    rw[Zuf,hxr,ZuV,←hKe];congr 1;simp only[Option.toList,ZuN,List.filter_nil]
   have hset:∀Y,Y=X.set K.length r→(fun c:Ct=>decide (c.num=d)) r=false→J (l.length-(j+1)) ⟨[(0,.vec (.par 0) 7 0 l.length),(1,(.fn 215 [] [.ptr (.par 1) 0])),(5,.pv (.int .i64 (K.length+1:Nat))),(6,.pv (.int .i64 (j+1:Nat)))],laid 0 (.arr 83 7 (Y.map Ct.pv)::deB d 1)⟩:=fun Y hY hn=>hJ _ _ ⟨j+1,Y,K++[r],hlt,rfl,by rw[hY,List.length_set];exact hXl,by rw[htn,if_pos (by simp[hn])],by
    rw[hY,Zt9];show List.take (K.length+1) _=_;rw[Zuf,List.getElem?_set_self hKl,List.take_set_of_le (Zue _),hXt];rfl,by rw[hY,List.drop_set_of_lt (by omega)];exact hdn,by simp;omega,by simp⟩
   have hgot:(fun c:Ct=>decide (c.num=d)) r=true→J (l.length-(j+1)) ⟨[(0,.vec (.par 0) 7 0 l.length),(1,(.fn 215 [] [.ptr (.par 1) 0])),(5,.pv (.int .i64 K.length)),(6,.pv (.int .i64 (j+1:Nat)))],laid 0 (.arr 83 7 (X.map Ct.pv)::deB d 1)⟩:=fun hn=>hJ _ _ ⟨j+1,X,K,hlt,rfl,hXl,by rw[htn,if_neg (by simp[hn]),Zut],hXt,hdn,by omega,rfl⟩
   clear hJ;have hKn:K.length<l.length:=by omega
   have hlt2:j<X.length:=by omega
   obtain⟨u,hu⟩:∃u,X[K.length]?=some u:=⟨_,Zt3 hKl⟩;have hKx:(X.map Ct.pv)[K.length]?=some (.agg [.int .i64 u.num,.int .i64 u.it,.int .i64 u.src,.int .i64 u.day,.int .i64 u.valid,.int .i64 u.diff.lo,.int .i64 u.diff.hi]):=by rw[Zt4,hu];rfl
   have hst:=Zsl (X:=X) (w:=K.length) (r:=r);simp[-getElem?_pos,-List.getElem?_map,deB,laid,hlt,hg,hXl,nblt,nble];refine cM [.pv r.pv,.ptr (.par 0) 0] (laid 0 (deB d 0)) 28 [.par 1] (by simp[deB,laid]) hC (by simp[deB,laid]) ?_;cases hgv:(fun c:Ct=>decide (c.num=d)) r with
   |false=>
    have hround:=hset _ rfl hgv;have hgv':(decide (r.num=d))=false:=hgv;simp[-getElem?_pos,-List.getElem?_map,deB,laid,hgv',hw,hw2,hKn,hKx,hst,nblt,nble,setAt];refine⟨_,_,hmeas,Sub.mk ?_ ?_,hround⟩
    all_goals simp[deB,laid,hw,hw2]
   |true=>
    have hround:=hgot hgv;have hgv':(decide (r.num=d))=true:=hgv;simp[-getElem?_pos,-List.getElem?_map,deB,laid,hgv',hw];refine⟨_,_,hmeas,Sub.mk ?_ ?_,hround⟩
    all_goals simp[deB,laid,hw,hw2]
  ·have he:j=l.length:=by omega
   subst he;rw[Zus]at hKe;clear hJ;have hK2:K.length≤l.length:=by omega
   have hKs:K.length+(l.length-K.length)=l.length:=by omega
   have hsp:splice (X.map Ct.pv) K.length (List.replicate (l.length-K.length) (PV.agg [.int .i64 0,.int .i64 0,.int .i64 0,.int .i64 0,.int .i64 0,.int .i64 0,.int .i64 0]))=(K++List.replicate (l.length-K.length) ct0).map Ct.pv:=by
    unfold splice;rw[List.length_replicate,hKs,List.drop_eq_nil_of_le (by simp;omega),Zut,←List.map_take,hXt,Zuw,List.map_replicate];rfl
   simp[-getElem?_pos,-List.getElem?_map,-splice,deB,laid,nblt,nble,hK2,hKs,hXl,hsp];rw[←hR,←hKe];exact⟨rfl,K++List.replicate (l.length-K.length) ct0,by simp,by simp[deB,laid]⟩
end
end
section
open Go.RowKit
set_option maxRecDepth 10000
section
variable {P:Program}{K:AV→AS→Prop}{σ:AS}
theorem Zsq (fz:List Site){f:Opd}{args:List Opd}{d:Nat}{g:FuncId}{fs xs cs:List PV}{R:AV→List (Site×Box)→Prop}{X:Prop}(h1:(frzsL fz σ).o f=.pv (.fn g fs cs))(h2:(frzsL fz σ).pvs args=some xs)
  (hc:Zak P g ((fs++xs++cs).map .pv) [] R) (hK:∀r B,R r B→retOk r B∧K (r.map (toLoc d)) (((frzsL fz σ).purge d).adds (renB d B))):ZcJ P f args d K σ∨X:=
 .inl (.inr ⟨fz,g,fs,xs,cs,h1,h2,hc.mono fun r B h=>hK r B h⟩)
end
def Bk.wo (b:Bk)(n:Int):Bk:=⟨b.items,b.certs.filter fun c=>!decide (c.num=n)⟩
theorem Zif {b:Bk}{n:Int}{c:Ct}(h:c∈(b.wo n).certs):c∈b.certs:=(Zum.1 h).1
theorem wo_ok {b:Bk}(hb:b.ok)(n:Int):(b.wo n).ok:=
 ⟨hb.i,Zup (ZuX _ _) hb.c,hb.it,fun x hx=>hb.ct x (Zif hx),fun x hx y hy e=>hb.one x (Zif hx) y (Zif hy) e,fun x hx y hy e=>hb.day x (Zif hx) y (Zif hy) e⟩
def Bk.suspB (b:Bk)(n:Int):Bool:=!(b.wo n).contra
def Bk.suspM (b:Bk):List Int×Int:=if b.fault=0 then(if b.contra=true then(b.nums.filter b.suspB,0)else([],7))else([],b.fault)
attribute [local irreducible] Bk.held Bk.nums Bk.span Bk.contra Bk.suspB
attribute [local simp] AS.exp expG Box.ren AV.map AV.mapL Zau noRet Site.isRet Box.allS AV.allS AV.allSL retB dropL AS.adds renL outG outOk Zas inG fnOf lookA Zuq
attribute [local simp] Box.purge Site.isLoc
attribute [local simp] ZaD Zay Zam ZaB Za4
attribute [local simp] retFz frzL AS.frz AV.frz AV.frzL Box.frz AS.tidy AS.frzC
def suK (b:Bk)(k:Nat):AS:=⟨[(1,.ptr (.loc 1 0) 0),(6,.vec (.loc 54 0) 1 0 ((b.nums.take k).filter b.suspB).length),(29,.pv (.lst false 1 (b.nums.map intP))),(30,.pv (.int .i64 b.nums.length)),(31,.pv (.int .i64 k))],
 [(.loc 54 0,.arr 3 1 (((b.nums.take k).filter b.suspB).map intP)),(.loc 1 0,.cells b.cells)]⟩
set_option maxHeartbeats 32000000 in
theorem ZlN (b:Bk)(hi:b.items.length≤1000)(hc:b.certs.length≤1000):Zak Tryz.prog 177 ([b.pv].map .pv) [] (fun r B=>r=.pv (lstE b.suspM)∧B=[]):=by
 have hr:=Zit b hi hc;refine Zak.weak2 ?_;refine cFR [.loc 54 0] L177 ?_;intro R hR;simp[-getElem?_pos,L177,Bk.pv,-retB];refine cL [.pv b.pv] [] 14 [] rfl hr ?_
 rintro r0 B0 (⟨h0,rfl,rfl⟩|⟨h0,es,hes,rfl,rfl⟩)
 ·refine⟨rfl,by simp,?_⟩;have hd:decide (b.fault=0)=false:=by simpa using h0
  simp[-getElem?_pos,-decide_eq_true_eq,-decide_eq_false_iff_not,hd];rw[←hR];exact⟨_,rfl,rfl,Zfe (by unfold Bk.suspM;rw[if_neg h0])⟩
 have hb:b.ok:=Bk.ok_iff.1 h0;have hlen:=ZdU (b:=b);have hsp:=Zjm b hb es hes;have hH:=ZcF hb [];have hS:=Zf0 hb 1000;have hct:=Zh9 b hb es (hEnt b [] b.nums.length) (sEnt b b.nums.length) hes hH hS;refine⟨rfl,by simp[wkC,ZbY],?_⟩;simp[-getElem?_pos,-List.getElem?_map,wkC,ZbY,-retB];refine cM [.ptr (.par 0) 0] (laid 0 (wkB b [] es)) 23 [.loc 14 0,.loc 14 1] (by simp[laid,wkB,wkC]) hsp (by simp[wkC]) ?_;generalize hEnt b [] b.nums.length=hs at *;generalize sEnt b b.nums.length=ss at *;simp[-getElem?_pos,-List.getElem?_map,wkC,-retB];refine cM [.ptr (.par 0) 0] (laid 0 (spB b es hs ss)) 24 [.loc 23 0,.loc 23 1,.loc 23 2,.loc 14 0,.loc 14 1] (by simp[laid,spB,wkC]) hct (by simp[laid,spB,wkC]) ?_;clear hsp hct hr;cases hcn:b.contra
 ·simp[-getElem?_pos,-List.getElem?_map,laid,spB,wkC];rw[←hR];exact⟨_,rfl,rfl,Zfe (by unfold Bk.suspM;rw[if_pos h0,if_neg (by simp[hcn])])⟩
 have hM:b.suspM=(b.nums.filter b.suspB,0):=by unfold Bk.suspM;rw[if_pos h0,if_pos hcn]
 rw[hM]at hR;simp[-getElem?_pos,-List.getElem?_map,laid,spB,wkC,-retB];refine Zae (fun m τ=>∃k:Nat,k≤b.nums.length∧m=b.nums.length-k∧τ=suK b k) ⟨b.nums.length,suK b 0,Sub.trans' (Sub.mk (by simp[suK,AS.vecT]) (by simp[suK,AS.vecT,Bk.cells])) (vecT 54 3 1 6 rfl (by decide)),0,by omega,rfl,rfl⟩ ?_;rintro J hJ m τ ⟨k,hk,rfl,rfl⟩;have hpl:((b.nums.take k).filter b.suspB).length≤1000:=Zup (ZuX _ _) (by rw[Zt6];omega);by_cases hlt:k<b.nums.length
 ·obtain⟨n,hn⟩:∃n,b.nums[k]?=some n:=⟨_,Zt3 hlt⟩;have hgn:(b.nums.map intP)[k]?=some (.int .i64 n):=by rw[Zt4,hn];rfl
  have hwk:=wrapK (k:=k) (by omega);have hround:=hJ _ _ ⟨k+1,hlt,rfl,rfl⟩;have hmeas:b.nums.length-(k+1)<b.nums.length-k:=by omega
  have hnext:(b.nums.take (k+1)).filter b.suspB=(b.nums.take k).filter b.suspB++(if b.suspB n=true then[n]else[]):=by
   rw[Zuf,hn,ZuV];congr 1;simp only[Option.toList,ZuN,List.filter_nil]
  have hne:b.certs≠[]:=fun e=>by
   obtain⟨c,hc,_⟩:=(Zbu hb).1 (Zua hn);rw[e]at hc;cases hc
  have hok:=wo_ok hb n;have hf0:(b.wo n).fault=0:=Bk.ok_iff.2 hok;have hcl:=hb.c;have hr2:=Zit (b.wo n) (by have:=hok.i;omega) (by have:=hok.c;omega);have hclone:=ZpB b.certs hne (by omega);have hdel:=delT n b.certs (by omega) (fun _ _=>trivial);have hsu:b.suspB n=!(b.wo n).contra:=by unfold Bk.suspB;rfl
  have hwp:(b.wo n).pv=.agg [itsP b.items,.lst false 7 ((b.certs.filter fun c=>!decide (c.num=n)).map Ct.pv)]:=rfl;unfold suK at hround ⊢;rw[hnext,hsu]at hround;clear hJ hnext hsu hR;generalize(b.nums.take k).filter b.suspB=Y at *;have hY:(Y.map intP).take Y.length=Y.map intP:=Zub (by simp);have hY6:Y.length≤999999:=by omega
  have hfl:(b.certs.filter fun c=>!decide (c.num=n)).length≤1000:=Zup (ZuX _ _) hc;simp[-getElem?_pos,-List.getElem?_map,hlt,hgn,Bk.cells,-retB];refine cM [.pv (ctsP b.certs)] [] 38 [] rfl hclone (by simp) ?_;simp[-getElem?_pos,-List.getElem?_map,-retB];refine cL [.vec (.par 0) 7 0 b.certs.length,.fn 215 [] [.ptr (.par 1) 0]] (laid 0 (.arr 83 7 (b.certs.map Ct.pv)::deB n 1)) 40 [.loc 38 0,.loc 8 0] (by simp[laid,deB]) hdel ?_
  rintro r0 B0 ⟨rfl,X,hX,rfl⟩;simp only at hX;refine⟨rfl,by simp[laid,deB],?_⟩;have hXm:(X.map Ct.pv).take (b.certs.filter fun c=>!decide (c.num=n)).length=(b.certs.filter fun c=>!decide (c.num=n)).map Ct.pv:=by rw[←List.map_take,hX]
  have hXl:(b.certs.filter fun c=>!decide (c.num=n)).length≤X.length:=by
   have:=congrArg List.length hX
   rw[Zt6]at this;omega
  generalize(b.certs.filter fun c=>!decide (c.num=n))=Z at *;simp[-getElem?_pos,-List.getElem?_map,laid,deB,-retB];refine Zsq [.loc 38 0] (fs:=[]) (xs:=[(b.wo n).pv]) (cs:=[]) rfl ?_ hr2 ?_
  ·simp[frzsL,hXm,hXl,hwp]
  rintro r0 B0 (⟨q0,rfl,rfl⟩|⟨q0,es2,hes2,rfl,rfl⟩)
  ·exact absurd hf0 q0
  have hsp2:=Zjm (b.wo n) hok es2 hes2;have hH2:=ZcF hok [];have hS2:=Zf0 hok 1000;have hct2:=Zh9 (b.wo n) hok es2 (hEnt (b.wo n) [] (b.wo n).nums.length) (sEnt (b.wo n) (b.wo n).nums.length) hes2 hH2 hS2;generalize b.wo n=b2 at *;refine⟨by simp[retOk,wkC,ZbY,Zay],?_⟩;simp[-getElem?_pos,-List.getElem?_map,frzsL,wkC,ZbY,renB,toLoc,hXm,hXl,-retB];refine cM [.ptr (.par 0) 0] (laid 0 (wkB b2 [] es2)) 48 [.loc 44 0,.loc 44 1] (by simp[laid,wkB,wkC]) hsp2 (by simp[wkC]) ?_;generalize hEnt b2 [] b2.nums.length=hs2 at *;generalize sEnt b2 b2.nums.length=ss2 at *;simp[-getElem?_pos,-List.getElem?_map,wkC,-retB];refine cM [.ptr (.par 0) 0] (laid 0 (spB b2 es2 hs2 ss2)) 49 [.loc 48 0,.loc 48 1,.loc 48 2,.loc 44 0,.loc 44 1] (by simp[laid,spB,wkC]) hct2 (by simp[laid,spB,wkC]) ?_;cases hc2:b2.contra
  case true=>
   rw[hc2,if_neg (by simp),Zut]at hround;simp[-getElem?_pos,-List.getElem?_map,laid,spB,wkC,hwk,-retB];exact⟨_,_,hmeas,Sub.mk (by simp) (by simp[Bk.cells]),hround⟩
  case false=>
  rw[hc2,if_pos (by rfl)]at hround;simp[-getElem?_pos,-List.getElem?_map,laid,spB,wkC,hwk,nble,nblt,hY,hY6,-retB];exact⟨_,_,hmeas,Sub.mk (by simp) (by simp[Bk.cells,intP]),hround⟩
 have he:k=b.nums.length:=by omega
 subst he;clear hJ;unfold suK;rw[Zus]at hpl ⊢;generalize b.nums.filter b.suspB=Y at *;have hY:(Y.map intP).take Y.length=Y.map intP:=Zub (by simp);simp[-getElem?_pos,-List.getElem?_map,hY,-retB];rw[←hR];exact⟨_,rfl,rfl,fun m v h=>h⟩
end
section
open Go.RowKit
set_option maxRecDepth 10000
attribute [local simp] AS.exp expG Box.ren AV.map AV.mapL Zau noRet Site.isRet Box.allS AV.allS AV.allSL retB dropL AS.adds renL outG outOk Zas inG fnOf lookA Zuq
attribute [local simp] Box.purge Site.isLoc
attribute [local simp] frzsL retOk renB toLoc
attribute [local irreducible] Bk.fault Bk.suspM
theorem nI3:natI 3=some 3:=rfl
theorem nI4:natI 4=some 4:=rfl
theorem nI5:natI 5=some 5:=rfl
theorem nI6:natI 6=some 6:=rfl
theorem gl4 {α:Type}{a b c d e:α}{l:List α}:(a::b::c::d::e::l)[4]?=some e:=rfl
theorem gl5 {α:Type}{a b c d e f:α}{l:List α}:(a::b::c::d::e::f::l)[5]?=some f:=rfl
theorem gl6 {α:Type}{a b c d e f g:α}{l:List α}:(a::b::c::d::e::f::g::l)[6]?=some g:=rfl
def certM (l:List Ct)(bad:List Int)(x:Ct):Except Int (List Ct):=
 if(l.any fun y=>decide (y.num=x.num))=true then .error 6
 else if Bk.fault ⟨ZbN,l++[x]⟩=0 then(if(ZaA (l++[x]) bad).suspM.2=7 then .ok (l++[x])else .error 9)
 else .error (Bk.fault ⟨ZbN,l++[x]⟩)
def crQ (r:Except Int (List Ct))(bad:List Int)(ls:PV)(ts:PV)(rn:PV)(a b c d e:PV):Prop:=∃l',r=.ok l'∧a=ctsP l'∧b=bdsP bad∧c=ls∧d=ts∧e=rn
theorem ZtI (l:List Ct)(bad:List Int)(ls ts rn:PV)(x:Ct)(hl:l.length≤900)(hb:bad.length≤1000):
  Za8 Tryz.prog 134 [.ptr (.par 0) 0,.pv (.lst false 1 [iP x.num,iP x.it,iP x.src,iP x.day,iP x.valid,iP x.diff.lo,iP x.diff.hi])] [(.par 0,wkX (ctsP l) (bdsP bad) ls ts rn)] (okR (crQ (certM l bad x) bad ls ts rn)) (noR (fun e=>certM l bad x=.error e)):=by
 have hkc:=ZjE l x.num (bdsP bad) ls ts rn (by omega);refine cX L134 ?_;generalize hE:(fun e=>certM l bad x=.error e)=E;generalize hQ:crQ (certM l bad x) bad ls ts rn=Q;unfold certM at hE hQ;generalize(l.any fun y=>decide (y.num=x.num))=kn at hE hQ hkc;show awpX _ (.seq _ (.seq _ (.seq _ _))) _ _ _;cases kn with
 |true=>
  have hE6:E 6:=by rw[←hE];rfl
  refine Zan [_,_,_,_,_,_] ?_;simp[-getElem?_pos,hold,wkX,iP,ctsP];refine cM [.ptr (.par 0) 0,.pv (.int .i64 x.num)] [(.par 0,wkX (ctsP l) (bdsP bad) ls ts rn)] 9 [.par 0] (by simp[wkX,ctsP]) hkc (by simp[wkX]) ?_;simp[-getElem?_pos,hold,wkX];exact Zar (d:=99) [] (xs:=[.bool false,.int .i64 6]) (cs:=[]) rfl rfl (ask_f 6) rfl (fun x hx=>by rw[hx.1];exact panW hE6 rfl) (fun x B hx=>hx.2)
 |false=>
 rw[if_neg (by simp)]at hE hQ;refine Zao ?_;simp[-getElem?_pos,hold,wkX,iP,ctsP];refine cM [.ptr (.par 0) 0,.pv (.int .i64 x.num)] [(.par 0,wkX (ctsP l) (bdsP bad) ls ts rn)] 9 [.par 0] (by simp[wkX,ctsP]) hkc (by simp[wkX]) ?_;simp[-getElem?_pos,hold,wkX];refine cG [.bool true,.int .i64 6] (ask_t 6) ?_;simp[-getElem?_pos,hold];refine Zao ?_;simp[-getElem?_pos,hold,setAt,nI3,nI4,nI5,nI6,gl4,gl5,gl6];refine .inl (cQ [] [.lst false 7 (l.map Ct.pv),x.pv] (ZnO (l.map Ct.pv) x.num x.it x.src x.day x.valid x.diff.lo x.diff.hi (by rw[Zuc];omega)) ?_);have hap:l.map Ct.pv++[.agg [.int .i64 x.num,.int .i64 x.it,.int .i64 x.src,.int .i64 x.day,.int .i64 x.valid,.int .i64 x.diff.lo,.int .i64 x.diff.hi]]=(l++[x]).map Ct.pv:=by rw[Zuw];rfl
 rw[hap];have hLl:(l++[x]).length≤1000:=by rw[Zt9];simp;omega
 generalize l++[x]=L at hE hQ hLl ⊢;clear hap hkc;simp[-getElem?_pos,hold];have hwc:=ZqZ L (bdsP bad) ls ts rn;have hcb:=ZjV ⟨ZbN,L⟩ (show ZbN.length≤1000 by decide) hLl;generalize hF:Bk.fault ⟨ZbN,L⟩=F at hE hQ hcb;refine Zao ?_;simp[-getElem?_pos,hold];refine cM [.ptr (.par 0) 0] [(.par 0,wkX (ctsP L) (bdsP bad) ls ts rn)] 46 [.par 0] (by simp[wkX,ctsP]) hwc (by simp[wkX]) ?_;simp[-getElem?_pos,hold,wkX];refine cG [Bk.pv ⟨ZbN,L⟩] hcb ?_;simp[-getElem?_pos,hold];by_cases h0:¬F=0
 ·rw[if_neg h0]at hE;have hEF:E F:=by rw[←hE]
  refine Zan [_,_,_] ?_;simp[-getElem?_pos,hold,h0];exact Zar (d:=99) [] (xs:=[.bool false,.int .i64 F]) (cs:=[]) rfl rfl (ask_f F) rfl (fun x hx=>by rw[hx.1];exact panW hEF rfl) (fun x B hx=>hx.2)
 have h0:=Decidable.not_not.1 h0;rw[if_pos h0]at hE hQ;refine Zao ?_;simp[-getElem?_pos,hold,h0];refine cG [.bool true,.int .i64 0] (ask_t 0) ?_;simp[-getElem?_pos,hold];have hrc:=ZhF L bad ls ts rn hLl hb;have hsc:=ZlN (ZaA L bad) (show ZbN.length≤1000 by decide) (by unfold ZaA goodC;exact Zup (ZuX _ _) hLl);generalize hS:(ZaA L bad).suspM=sp at hE hQ hsc;obtain⟨s1,s2⟩:=sp;refine Zao ?_;simp[-getElem?_pos,hold];refine cM [.ptr (.par 0) 0] [(.par 0,wkX (ctsP L) (bdsP bad) ls ts rn)] 54 [.par 0] (by simp[wkX,ctsP]) hrc (by simp[wkX]) ?_;simp[-getElem?_pos,hold,wkX];refine .inl (cQ [] [(ZaA L bad).pv] hsc ?_);simp[-getElem?_pos,hold,lstE];by_cases h7:¬s2=7
 ·rw[if_neg h7]at hE;have hE9:E 9:=by rw[←hE]
  refine ZeZ [_,_] ?_;simp[-getElem?_pos,hold,h7];exact Zar (d:=99) [] (xs:=[.bool false,.int .i64 9]) (cs:=[]) rfl rfl (ask_f 9) rfl (fun x hx=>by rw[hx.1];exact panW hE9 rfl) (fun x B hx=>hx.2)
 have h7:=Decidable.not_not.1 h7;rw[if_pos h7]at hQ;refine ZbZ ?_;simp[-getElem?_pos,hold,h7];refine cG [.bool true,.int .i64 9] (ask_t 9) ?_;simp[-getElem?_pos,hold];refine retW (a:=ctsP L) (b:=bdsP bad) (c:=ls) (d:=ts) (e:=rn) [] ?_ ?_
 ·simp[frzL,wkX,ctsP,bdsP]
 ·rw[←hQ];exact⟨_,rfl,rfl,rfl,rfl,rfl,rfl⟩
end
end Go.Proofs.YteknmiggbkhdoaaGreatDoor
namespace Go.Proofs.YteknmiggbkhdoaaGreatDoor.Qn
section
open Go.RowKit Go.ChangeShapes Go.WideShapes Go.Deep
set_option maxRecDepth 100000
structure Rg where
 lo:Int
 hi:Int
structure Rq where
 hours:Int
 ready:Int
 on:List Bool
structure Qu where
 ms:List (List Rg)
 rs:List Rq
def Rg.pv (r:Rg):PV:=.agg [.int .i64 r.lo,.int .i64 r.hi]
def rgsP (l:List Rg):PV:=.lst false 2 (l.map Rg.pv)
def onP (l:List Bool):PV:=.lst false 1 (l.map PV.bool)
def Rq.pv (r:Rq):PV:=.agg [.int .i64 r.hours,.int .i64 r.ready,onP r.on]
def Qu.pv (q:Qu):PV:=.agg [.lst false 1 (q.ms.map rgsP),.lst false 3 (q.rs.map Rq.pv)]
section
variable {H:Type}{enc:TypeId×Value→H}{W:World}{sp:Nat→Bool}{held:Bool}{r:Reach}{base:Nat}
end
end
section
open Go.RowKit
attribute [local simp] Box.purge Site.isLoc
set_option maxRecDepth 10000
theorem ZbX (n lo hi:Int):Gives Tryz.prog 160 [.int .i64 n,.int .i64 lo,.int .i64 hi] (.bool (decide (lo≤n)&&decide (n≤hi))):=by
 refine cS L160 ?_;by_cases h:lo≤n
 all_goals simp[h,L160]
def hourB (n:Int):Bool:=decide (0≤n)&&decide (n≤39)
def manyB (n:Int):Bool:=decide (0≤n)&&decide (n≤40)
theorem ZqH (n:Int):Gives Tryz.prog 159 [.int .i64 n] (.bool (hourB n)):=by
 refine cS L159 ?_;simp[L159];refine Zaa (k:=0) rfl rfl (ZbX n 0 39) rfl ?_;simp[hourB]
theorem ZqE (n:Int):Gives Tryz.prog 121 [.int .i64 n] (.bool (manyB n)):=by
 refine cS L121 ?_;simp[L121];refine Zaa (k:=0) rfl rfl (ZbX n 0 40) rfl ?_;simp[manyB]
def Rg.hoursB (r:Rg):Bool:=hourB r.lo&&hourB r.hi&&decide (r.lo≤r.hi)
theorem Zr6 (r:Rg):Gives Tryz.prog 119 [r.pv] (.bool r.hoursB):=by
 refine cS L119 ?_;simp[-getElem?_pos,L119,Rg.pv];refine Zaa (k:=0) rfl rfl (ZqH r.lo) rfl ?_;cases h1:hourB r.lo
 ·simp[Rg.hoursB,h1]
 ·simp[h1];refine Zaa (k:=0) rfl rfl (ZqH r.hi) rfl ?_;cases h2:hourB r.hi
  ·simp[Rg.hoursB,h1,h2]
  ·simp[Rg.hoursB,h1,h2]
theorem ZdB {l:List PV}{q:PV→Bool}{k:Nat}{x:PV}(hx:l[k]?=some x)(hb:q x=true)(hinv:∀(j:Nat) (y:PV),j<k→l[j]?=some y→q y=false):l.findIdx? q=some k:=by
 obtain⟨hlt,e⟩:=Zt5.1 hx;rw[ZuT];refine⟨hlt,by rw[e];exact hb,fun j hj=>?_⟩
 have:=hinv j l[j] hj (Zt3 (by omega))
 simp[this]
theorem Zb8 {l:List PV}{q:PV→Bool}(hinv:∀(j:Nat) (y:PV),j<l.length→l[j]?=some y→q y=false):l.findIdx? q=none:=by
 rw[ZuU];intro x hx;obtain⟨j,hj⟩:=Zui.1 hx;exact hinv j x (Zt5.1 hj).1 hj
theorem Zlv (l:List PV)(g:FuncId)(fs cs:List PV)(q:PV→Bool)(hq:∀x∈l,Gives Tryz.prog g (fs++[x]++cs) (.bool (q x)))(hl:l.length≤1000000)(hc:∀x∈l,∃ys,x=.lst false 2 ys):
  Gives Tryz.prog 204 [.lst false 1 l,.fn g fs cs] (.int .i64 (match l.findIdx? q with|some i=>i|none=>-1)):=by
 refine cS L204 ?_;simp[L204];refine Zae (fun n τ=>∃k:Nat,k≤l.length∧n=l.length-k∧(∀j x,j<k→l[j]?=some x→q x=false)∧τ=⟨[(0,.pv (.lst false 1 l)),(1,.pv (.fn g fs cs)),(7,.pv (.int .i64 l.length)),(8,.pv (.int .i64 k))],[]⟩)
  ⟨l.length,_,Sub.mk (by simp) (by simp),0,by omega,rfl,(fun j x hj=>by omega),rfl⟩ ?_
 rintro J hJ n τ ⟨k,hk,rfl,hinv,rfl⟩;by_cases hlt:k<l.length
 ·have hx:l[k]?=some l[k]:=Zt3 hlt;have hm:=ZuJ hlt;generalize l[k]=x at hx hm;obtain⟨ys,rfl⟩:=hc x hm;have hg:=hq _ hm;have hw:IntKind.i64.wrap ((k:Int)+1)=((k+1:Nat):Int):=by rw[wrap64 (by omega)];omega
  simp[-getElem?_pos,hlt,hx,nblt];refine Zaa (k:=0) rfl rfl hg rfl ?_;cases hb:q _
  ·simp[hw];exact⟨_,_,(by omega:l.length-(k+1)<l.length-k),Sub.mk (by simp) (by simp),hJ _ _ ⟨k+1,by omega,rfl,fun j x hj hjx=>by
    rcases ZuW.1 hj with h|h
    ·exact hinv j x h hjx
    ·subst h;rw[hx]at hjx;cases hjx;exact hb,rfl⟩⟩
  ·simp[ZdB hx hb hinv]
 ·have he:k=l.length:=by omega
  subst he;simp[Zb8 hinv]
theorem Zqk (l:List PV)(g:FuncId)(fs cs:List PV)(q:PV→Bool)(hq:∀x∈l,Gives Tryz.prog g (fs++[x]++cs) (.bool (q x)))(hl:l.length≤1000000)(hc:∀x∈l,∃ys,x=.lst false 2 ys):
  Gives Tryz.prog 161 [.lst false 1 l,.fn g fs cs] (.bool (l.any q)):=by
 refine cS L161 ?_;simp[L161];refine Zaa (k:=0) rfl rfl (Zlv l g fs cs q hq hl hc) rfl ?_;cases hf:l.findIdx? q with
 |none=>
  have:l.any q=false:=by rw[List.any_eq_false];intro x hx;simpa using ZuU.1 hf x hx
  simp[this]
 |some i=>
  have:l.any q=true:=by
   obtain⟨hi,h1,_⟩:=ZuT.1 hf;exact Zux.2 ⟨_,ZuJ hi,h1⟩
  simp[this]
theorem Zn8 (x:PV)(g:FuncId)(fs cs:List PV)(b:Bool)(hx:∃ys,x=.lst false 2 ys)(hq:Gives Tryz.prog g (fs++[x]++cs) (.bool b)):
  Gives Tryz.prog 162 [x,.ref [.fn g fs cs]] (.bool (!b)):=by
 obtain⟨ys,rfl⟩:=hx;refine cS L162 ?_;simp[L162];refine Zaa (k:=0) rfl rfl hq rfl ?_;simp
theorem Zk6 (l:List PV)(g:FuncId)(fs cs:List PV)(q:PV→Bool)(hq:∀x∈l,Gives Tryz.prog g (fs++[x]++cs) (.bool (q x)))(hl:l.length≤1000000)(hc:∀x∈l,∃ys,x=.lst false 2 ys):
  Gives Tryz.prog 122 [.lst false 1 l,.fn g fs cs] (.bool (l.all q)):=by
 refine cS L122 ?_;simp[L122];refine Zaa (k:=4) rfl rfl (Zqk l 162 [] [.ref [.fn g fs cs]] (fun x=>!q x) (fun x hx=>Zn8 x g fs cs (q x) (hc x hx) (hq x hx)) hl hc) rfl ?_;simp[List.not_any_eq_all_not]
theorem Zne (l:List PV)(g:FuncId)(fs cs:List PV)(q:PV→Bool)(hq:∀x∈l,Gives Tryz.prog g (fs++[x]++cs) (.bool (q x)))(hl:l.length≤1000000)(hc:∀x∈l,∃a b,x=.agg [.int .i64 a,.int .i64 b]):
  Gives Tryz.prog 203 [.lst false 2 l,.fn g fs cs] (.int .i64 (match l.findIdx? q with|some i=>i|none=>-1)):=by
 refine cS L203 ?_;simp[L203];refine Zae (fun n τ=>∃k:Nat,k≤l.length∧n=l.length-k∧(∀j x,j<k→l[j]?=some x→q x=false)∧τ=⟨[(0,.pv (.lst false 2 l)),(1,.pv (.fn g fs cs)),(7,.pv (.int .i64 l.length)),(8,.pv (.int .i64 k))],[]⟩)
  ⟨l.length,_,Sub.mk (by simp) (by simp),0,by omega,rfl,(fun j x hj=>by omega),rfl⟩ ?_
 rintro J hJ n τ ⟨k,hk,rfl,hinv,rfl⟩;by_cases hlt:k<l.length
 ·have hx:l[k]?=some l[k]:=Zt3 hlt;have hm:=ZuJ hlt;generalize l[k]=x at hx hm;obtain⟨a,b,rfl⟩:=hc x hm;have hg:=hq _ hm;have hw:IntKind.i64.wrap ((k:Int)+1)=((k+1:Nat):Int):=by rw[wrap64 (by omega)];omega
  simp[-getElem?_pos,hlt,hx,nblt];refine Zaa (k:=0) rfl rfl hg rfl ?_;cases hb:q _
  ·simp[hw];exact⟨_,_,(by omega:l.length-(k+1)<l.length-k),Sub.mk (by simp) (by simp),hJ _ _ ⟨k+1,by omega,rfl,fun j x hj hjx=>by
    rcases ZuW.1 hj with h|h
    ·exact hinv j x h hjx
    ·subst h;rw[hx]at hjx;cases hjx;exact hb,rfl⟩⟩
  ·simp[ZdB hx hb hinv]
 ·have he:k=l.length:=by omega
  subst he;simp[Zb8 hinv]
theorem Zn5 (l:List PV)(g:FuncId)(fs cs:List PV)(q:PV→Bool)(hq:∀x∈l,Gives Tryz.prog g (fs++[x]++cs) (.bool (q x)))(hl:l.length≤1000000)(hc:∀x∈l,∃a b,x=.agg [.int .i64 a,.int .i64 b]):
  Gives Tryz.prog 157 [.lst false 2 l,.fn g fs cs] (.bool (l.any q)):=by
 refine cS L157 ?_;simp[L157];refine Zaa (k:=0) rfl rfl (Zne l g fs cs q hq hl hc) rfl ?_;cases hf:l.findIdx? q with
 |none=>
  have:l.any q=false:=by rw[List.any_eq_false];intro x hx;simpa using ZuU.1 hf x hx
  simp[this]
 |some i=>
  have:l.any q=true:=by
   obtain⟨hi,h1,_⟩:=ZuT.1 hf;exact Zux.2 ⟨_,ZuJ hi,h1⟩
  simp[this]
theorem Zqo (x:PV)(g:FuncId)(fs cs:List PV)(b:Bool)(hx:∃a b,x=.agg [.int .i64 a,.int .i64 b])(hq:Gives Tryz.prog g (fs++[x]++cs) (.bool b)):
  Gives Tryz.prog 158 [x,.ref [.fn g fs cs]] (.bool (!b)):=by
 obtain⟨a,b,rfl⟩:=hx;refine cS L158 ?_;simp[L158];refine Zaa (k:=0) rfl rfl hq rfl ?_;simp
theorem ZsU (l:List PV)(g:FuncId)(fs cs:List PV)(q:PV→Bool)(hq:∀x∈l,Gives Tryz.prog g (fs++[x]++cs) (.bool (q x)))(hl:l.length≤1000000)(hc:∀x∈l,∃a b,x=.agg [.int .i64 a,.int .i64 b]):
  Gives Tryz.prog 118 [.lst false 2 l,.fn g fs cs] (.bool (l.all q)):=by
 refine cS L118 ?_;simp[L118];refine Zaa (k:=4) rfl rfl (Zn5 l 158 [] [.ref [.fn g fs cs]] (fun x=>!q x) (fun x hx=>Zqo x g fs cs (q x) (hc x hx) (hq x hx)) hl hc) rfl ?_;simp[List.not_any_eq_all_not]
theorem Znd (l:List PV)(g:FuncId)(fs cs:List PV)(q:PV→Bool)(hq:∀x∈l,Gives Tryz.prog g (fs++[x]++cs) (.bool (q x)))(hl:l.length≤1000000)(hc:∀x∈l,∃a b ys,x=.agg [.int .i64 a,.int .i64 b,.lst false 1 ys]):
  Gives Tryz.prog 205 [.lst false 3 l,.fn g fs cs] (.int .i64 (match l.findIdx? q with|some i=>i|none=>-1)):=by
 refine cS L205 ?_;simp[L205];refine Zae (fun n τ=>∃k:Nat,k≤l.length∧n=l.length-k∧(∀j x,j<k→l[j]?=some x→q x=false)∧τ=⟨[(0,.pv (.lst false 3 l)),(1,.pv (.fn g fs cs)),(7,.pv (.int .i64 l.length)),(8,.pv (.int .i64 k))],[]⟩)
  ⟨l.length,_,Sub.mk (by simp) (by simp),0,by omega,rfl,(fun j x hj=>by omega),rfl⟩ ?_
 rintro J hJ n τ ⟨k,hk,rfl,hinv,rfl⟩;by_cases hlt:k<l.length
 ·have hx:l[k]?=some l[k]:=Zt3 hlt;have hm:=ZuJ hlt;generalize l[k]=x at hx hm;obtain⟨a,b,ys,rfl⟩:=hc x hm;have hg:=hq _ hm;have hw:IntKind.i64.wrap ((k:Int)+1)=((k+1:Nat):Int):=by rw[wrap64 (by omega)];omega
  simp[-getElem?_pos,hlt,hx,nblt];refine Zaa (k:=0) rfl rfl hg rfl ?_;cases hb:q _
  ·simp[hw];exact⟨_,_,(by omega:l.length-(k+1)<l.length-k),Sub.mk (by simp) (by simp),hJ _ _ ⟨k+1,by omega,rfl,fun j x hj hjx=>by
    rcases ZuW.1 hj with h|h
    ·exact hinv j x h hjx
    ·subst h;rw[hx]at hjx;cases hjx;exact hb,rfl⟩⟩
  ·simp[ZdB hx hb hinv]
 ·have he:k=l.length:=by omega
  subst he;simp[Zb8 hinv]
theorem ZsP (l:List PV)(g:FuncId)(fs cs:List PV)(q:PV→Bool)(hq:∀x∈l,Gives Tryz.prog g (fs++[x]++cs) (.bool (q x)))(hl:l.length≤1000000)(hc:∀x∈l,∃a b ys,x=.agg [.int .i64 a,.int .i64 b,.lst false 1 ys]):
  Gives Tryz.prog 163 [.lst false 3 l,.fn g fs cs] (.bool (l.any q)):=by
 refine cS L163 ?_;simp[L163];refine Zaa (k:=0) rfl rfl (Znd l g fs cs q hq hl hc) rfl ?_;cases hf:l.findIdx? q with
 |none=>
  have:l.any q=false:=by rw[List.any_eq_false];intro x hx;simpa using ZuU.1 hf x hx
  simp[this]
 |some i=>
  have:l.any q=true:=by
   obtain⟨hi,h1,_⟩:=ZuT.1 hf;exact Zux.2 ⟨_,ZuJ hi,h1⟩
  simp[this]
theorem Zqn (x:PV)(g:FuncId)(fs cs:List PV)(b:Bool)(hx:∃a b ys,x=.agg [.int .i64 a,.int .i64 b,.lst false 1 ys])(hq:Gives Tryz.prog g (fs++[x]++cs) (.bool b)):
  Gives Tryz.prog 164 [x,.ref [.fn g fs cs]] (.bool (!b)):=by
 obtain⟨a,b,ys,rfl⟩:=hx;refine cS L164 ?_;simp[L164];refine Zaa (k:=0) rfl rfl hq rfl ?_;simp
theorem ZsT (l:List PV)(g:FuncId)(fs cs:List PV)(q:PV→Bool)(hq:∀x∈l,Gives Tryz.prog g (fs++[x]++cs) (.bool (q x)))(hl:l.length≤1000000)(hc:∀x∈l,∃a b ys,x=.agg [.int .i64 a,.int .i64 b,.lst false 1 ys]):
  Gives Tryz.prog 123 [.lst false 3 l,.fn g fs cs] (.bool (l.all q)):=by
 refine cS L123 ?_;simp[L123];refine Zaa (k:=4) rfl rfl (ZsP l 164 [] [.ref [.fn g fs cs]] (fun x=>!q x) (fun x hx=>Zqn x g fs cs (q x) (hc x hx) (hq x hx)) hl hc) rfl ?_;simp[List.not_any_eq_all_not]
theorem few_c (ys:List PV):Gives Tryz.prog 116 [.lst false 2 ys] (.bool (decide ((ys.length:Int)≤6))):=by
 refine cS L116 ?_;simp[-decide_eq_true_eq,L116]
def ZiN:PV→Bool
 |.agg [.int _ a,.int _ b]=>Rg.hoursB ⟨a,b⟩
 |_=>true
theorem Zjl (l:List Rg)(hl:l.length≤1000000):Gives Tryz.prog 117 [rgsP l] (.bool (l.all Rg.hoursB)):=by
 have h:=ZsU (l.map Rg.pv) 119 [] [] ZiN (fun x hx=>by
  obtain⟨r,_,rfl⟩:=Zug.1 hx;exact Zr6 r) (by simpa using hl) (fun x hx=>by
  obtain⟨r,_,rfl⟩:=Zug.1 hx;exact⟨_,_,rfl⟩)
 have e:(l.map Rg.pv).all ZiN=l.all Rg.hoursB:=by rw[List.all_map];rfl
 rw[e]at h;refine cS L117 ?_;simp[L117,rgsP];refine Zaa (k:=0) rfl rfl h rfl ?_;simp
def Rq.okB (n:Nat)(r:Rq):Bool:=manyB r.hours&&manyB r.ready&&decide ((r.on.length:Int)=n)
theorem run_c (q:Qu)(r:Rq):Gives Tryz.prog 120 [r.pv,.ref [.lst false 1 (q.ms.map rgsP),.lst false 3 (q.rs.map Rq.pv)]] (.bool (r.okB q.ms.length)):=by
 refine cS L120 ?_;simp[-getElem?_pos,L120,Rq.pv];refine Zaa (k:=0) (fs:=[]) (cs:=[]) rfl rfl (ZqE r.hours) rfl ?_;cases h1:manyB r.hours
 ·simp[Rq.okB,h1]
 ·simp[-getElem?_pos];refine Zaa (k:=0) (fs:=[]) (cs:=[]) rfl rfl (ZqE r.ready) rfl ?_;cases h2:manyB r.ready
  ·simp[Rq.okB,h1,h2]
  ·simp[-getElem?_pos,onP,Rq.okB,h1,h2]
def Qu.big (q:Qu):Bool:=decide (4<q.ms.length)||decide (6<q.rs.length)||!(q.ms.all fun l=>decide ((l.length:Int)≤6))
def Qu.bad (q:Qu):Bool:=!(q.ms.all fun l=>l.all Rg.hoursB)||!(q.rs.all fun r=>r.okB q.ms.length)
def Qu.check (q:Qu):Int:=if q.big=true then 3 else if q.bad=true then 1 else 0
def fewQ:PV→Bool
 |.lst _ _ ys=>decide ((ys.length:Int)≤6)
 |_=>true
def Zl0:PV→Bool
 |.lst _ _ ys=>ys.all ZiN
 |_=>true
def okQ (n:Nat):PV→Bool
 |.agg [.int _ a,.int _ b,.lst _ _ ys]=>manyB a&&manyB b&&decide ((ys.length:Int)=n)
 |_=>true
theorem Zej (q:Qu)(h1:q.ms.length≤1000000)(h2:q.rs.length≤1000000)(h3:∀l∈q.ms,l.length≤1000000):Gives Tryz.prog 88 [q.pv] (.int .i64 q.check):=by
 have e1:(q.ms.map rgsP).all fewQ=q.ms.all fun l=>decide ((l.length:Int)≤6):=by
  rw[List.all_map];congr 1;funext l;simp[fewQ,rgsP]
 have e2:(q.ms.map rgsP).all Zl0=q.ms.all fun l=>l.all Rg.hoursB:=by
  rw[List.all_map];congr 1;funext l;show((l.map Rg.pv).all ZiN)=_;rw[List.all_map];rfl
 have e3:(q.rs.map Rq.pv).all (okQ q.ms.length)=q.rs.all fun r=>r.okB q.ms.length:=by
  rw[List.all_map];congr 1;funext r;simp[okQ,Rq.pv,onP,Rq.okB]
 have a1:=Zk6 (q.ms.map rgsP) 116 [] [] fewQ (fun x hx=>by
  obtain⟨l,_,rfl⟩:=Zug.1 hx;exact few_c _) (by simpa using h1) (fun x hx=>by
  obtain⟨l,_,rfl⟩:=Zug.1 hx;exact⟨_,rfl⟩)
 have a2:=Zk6 (q.ms.map rgsP) 117 [] [] Zl0 (fun x hx=>by
  obtain⟨l,hl,rfl⟩:=Zug.1 hx
  have:=Zjl l (h3 l hl)
  have e:Zl0 (rgsP l)=l.all Rg.hoursB:=by show((l.map Rg.pv).all ZiN)=_;rw[List.all_map];rfl
  rw[e];exact this) (by simpa using h1) (fun x hx=>by
  obtain⟨l,_,rfl⟩:=Zug.1 hx;exact⟨_,rfl⟩)
 have a3:=ZsT (q.rs.map Rq.pv) 120 [] [.ref [.lst false 1 (q.ms.map rgsP),.lst false 3 (q.rs.map Rq.pv)]] (okQ q.ms.length) (fun x hx=>by
  obtain⟨r,_,rfl⟩:=Zug.1 hx;have e:okQ q.ms.length r.pv=r.okB q.ms.length:=by simp[okQ,Rq.pv,onP,Rq.okB]
  rw[e];exact run_c q r) (by simpa using h2) (fun x hx=>by
  obtain⟨r,_,rfl⟩:=Zug.1 hx;exact⟨_,_,_,rfl⟩)
 rw[e1]at a1;rw[e2]at a2;rw[e3]at a3;have hb:q.big=(decide (4<q.ms.length)||decide (6<q.rs.length)||!(q.ms.all fun l=>decide ((l.length:Int)≤6))):=rfl;have hd:q.bad=(!(q.ms.all fun l=>l.all Rg.hoursB)||!(q.rs.all fun r=>r.okB q.ms.length)):=rfl;unfold Qu.check;generalize(q.ms.all fun l=>decide ((l.length:Int)≤6))=b1 at *;generalize(q.ms.all fun l=>l.all Rg.hoursB)=b2 at *;generalize(q.rs.all fun r=>r.okB q.ms.length)=b3 at *;refine cS L88 ?_;by_cases c1:4<q.ms.length
 ·have k1:(4:Int)<(q.ms.length:Int):=by omega
  have k1':¬((q.ms.length:Int)≤4):=by omega
  simp[-getElem?_pos,L88,Qu.pv,k1,k1',hb,c1]
 ·have d1:decide ((4:Int)<(q.ms.length:Int))=false:=by simp;omega
  by_cases c2:6<q.rs.length
  ·have d2:decide ((6:Int)<(q.rs.length:Int))=true:=by simp;omega
   simp[-getElem?_pos,-decide_eq_true_eq,-decide_eq_false_iff_not,L88,Qu.pv,d1,d2];simp[hb,c1,c2]
  ·have d2:decide ((6:Int)<(q.rs.length:Int))=false:=by simp;omega
   simp[-getElem?_pos,-decide_eq_true_eq,-decide_eq_false_iff_not,L88,Qu.pv,d1,d2];refine Zaa (k:=4) rfl rfl a1 rfl ?_;cases b1
   ·simp[-getElem?_pos,hb,c1,c2]
   ·simp[-getElem?_pos];refine Zaa (k:=4) rfl rfl a2 rfl ?_;cases b2
    ·simp[-getElem?_pos,hb,hd,c1,c2]
    ·simp[-getElem?_pos];refine Zaa (k:=4) rfl rfl a3 rfl ?_;cases b3<;>simp[-getElem?_pos,hb,hd,c1,c2]
def Qu.cells (q:Qu):List AV:=[.pv (.lst false 1 (q.ms.map rgsP)),.pv (.lst false 3 (q.rs.map Rq.pv))]

end
section
open Go.RowKit
attribute [local simp] Box.purge Site.isLoc
set_option maxRecDepth 10000
attribute [local simp] retFz frzL AS.frz AV.frz AV.frzL Box.frz AS.tidy AS.frzC

def intP (n:Int):PV:=.int .i64 n
def intsP (l:List Int):PV:=.lst false 1 (l.map intP)
def planP (p:List (List Int)):PV:=.lst false 1 (p.map intsP)
theorem wrapS {k:Nat}(h:k≤1000000):IntKind.i64.wrap ((k:Int)+1)=((k+1:Nat):Int):=by rw[wrap64 (by omega)];omega

def Rg.has (s:Rg)(h:Int):Bool:=decide (s.lo≤h)&&decide (h≤s.hi)
theorem Zq8 (s:Rg)(h:Int):Gives Tryz.prog 280 [s.pv,.ref [.int .i64 h]] (.bool (s.has h)):=by
 refine cS L280 ?_;simp[-getElem?_pos,L280,Rg.pv];refine Zaa (k:=0) rfl rfl (ZbX h s.lo s.hi) rfl ?_;simp[-getElem?_pos,Rg.has]
def hasQ (h:Int):PV→Bool
 |.agg [.int _ a,.int _ b]=>Rg.has ⟨a,b⟩ h
 |_=>false
def Qu.run (q:Qu)(i:Nat):Rq:=(q.rs[i]?).getD ⟨0,0,[]⟩
def Qu.stops (q:Qu)(m:Nat):List Rg:=(q.ms[m]?).getD []
def Qu.may (q:Qu)(i m:Nat)(h:Int):Bool:=((q.run i).on[m]?).getD false&&decide ((q.run i).ready≤h)&&!(q.stops m).any (Rg.has · h)
structure Qu.ok (q:Qu):Prop where
 m:q.ms.length≤4
 r:q.rs.length≤6
 s:∀l∈q.ms,l.length≤6
 x:∀l∈q.ms,∀y∈l,0≤y.lo∧y.lo≤y.hi∧y.hi≤39
 h:∀r∈q.rs,0≤r.hours∧r.hours≤40
 d:∀r∈q.rs,0≤r.ready∧r.ready≤40
 f:∀r∈q.rs,r.on.length=q.ms.length
theorem Qu.ok_of {q:Qu}(h:q.check=0):q.ok:=by
 unfold Qu.check at h;split at h
 ·cases h
 ·rename_i h1;split at h
  ·cases h
  ·rename_i h2;simp only[Qu.big,Bool.not_eq_true,Bool.or_eq_false_iff,decide_eq_false_iff_not,Bool.not_eq_false',Zuo,decide_eq_true_eq]at h1;simp only[Qu.bad,Bool.not_eq_true,Bool.or_eq_false_iff,Bool.not_eq_false',Zuo]at h2;obtain⟨⟨a1,a2⟩,a3⟩:=h1;obtain⟨b1,b2⟩:=h2;refine⟨by omega,by omega,fun l hl=>by have:=a3 l hl;omega,fun l hl y hy=>?_,fun r hr=>?_,fun r hr=>?_,fun r hr=>?_⟩
   ·have:=b1 l hl y hy
    simp only[Rg.hoursB,hourB,Zt7,decide_eq_true_eq]at this;omega
   all_goals
    have:=b2 r hr
    simp only[Rq.okB,manyB,Zt7,decide_eq_true_eq]at this;omega
theorem may_c (q:Qu)(hq:q.ok)(i m:Nat)(h:Int)(hi:i<q.rs.length)(hm:m<q.ms.length):Gives Tryz.prog 272 [q.pv,.int .i64 i,.int .i64 m,.int .i64 h] (.bool (q.may i m h)):=by
 obtain⟨r,hr⟩:∃r,q.rs[i]?=some r:=⟨q.rs[i],Zt3 hi⟩;obtain⟨l,hl⟩:∃l,q.ms[m]?=some l:=⟨q.ms[m],Zt3 hm⟩;obtain⟨b,hb⟩:∃b,r.on[m]?=some b:=⟨r.on[m]'(by rw[hq.f r (Zua hr)];exact hm),Zt3 _⟩;have hll:=hq.s l (Zua hl);have e:q.may i m h=(b&&decide (r.ready≤h)&&!l.any (Rg.has · h)):=by simp[Qu.may,Qu.run,Qu.stops,hr,hl,hb]
 have g1:(q.rs.map Rq.pv)[i]?=some (.agg [.int .i64 r.hours,.int .i64 r.ready,.lst false 1 (r.on.map PV.bool)]):=by rw[Zt4,hr];rfl
 have g2:(q.ms.map rgsP)[m]?=some (.lst false 2 (l.map Rg.pv)):=by rw[Zt4,hl];rfl
 have g3:(r.on.map PV.bool)[m]?=some (.bool b):=by rw[Zt4,hb];rfl
 have a1:=Zn5 (l.map Rg.pv) 280 [] [.ref [.int .i64 h]] (hasQ h) (fun x hx=>by
  obtain⟨s,_,rfl⟩:=Zug.1 hx;exact Zq8 s h) (by simp;omega) (fun x hx=>by
  obtain⟨s,_,rfl⟩:=Zug.1 hx;exact⟨_,_,rfl⟩)
 have e2:(l.map Rg.pv).any (hasQ h)=l.any (Rg.has · h):=by rw[List.any_map];rfl
 rw[e2]at a1;rw[e];generalize l.any (Rg.has · h)=c at *;clear e hll e2;refine cS L272 ?_;cases b
 ·simp[-getElem?_pos,-List.getElem?_map,L272,Qu.pv,g1,g3]
 ·by_cases hd:r.ready≤h
  ·simp[-getElem?_pos,-List.getElem?_map,L272,Qu.pv,g1,g2,g3,hd];refine Zaa (k:=4) (fs:=[]) (xs:=[.lst false 2 (l.map Rg.pv),.fn 280 [] [.ref [.int .i64 h]]]) (cs:=[]) rfl rfl a1 rfl ?_;simp[-getElem?_pos]
  ·simp[-getElem?_pos,-List.getElem?_map,L272,Qu.pv,g1,g2,g3,hd]
theorem Zdp {α:Type}{l:List α}{k:Nat}{x:α}(h:l[k]?=some x):l.take (k+1)=l.take k++[x]:=by rw[Zuf,h];rfl




theorem ZpD (l:List Int)(hl:l.length≤1000000):Gives Tryz.prog 65 [intsP l] (intsP l):=by
 refine Zak.weak2 ?_;refine cF [.loc 7 0] L65 ?_;cases l with
 |nil=>
  simp[-getElem?_pos,L65,intsP,nilOf,ZaN,nble,opWp,osel];exact fun m v h=>Zbz h
 |cons a l=>
  have h1:l.length+1≤1000000:=by simpa using hl
  have hm:(l.map intP).take l.length=l.map intP:=Zub (by simp);simp[-getElem?_pos,L65,intsP,nilOf,nble,h1,hm]


end
section
open Go.RowKit
set_option maxRecDepth 10000
theorem Zef {P:Program}{C:Cons P}{c:C.S}{k:Nat}:((laid 0 (C.X c)).filter fun p=>!p.1.isLoc k).map (fun p=>(p.1,p.2.purge k))=laid 0 (C.X c):=Zfh (C.cl c)
theorem Zgp {P:Program}{C:Cons P}{c:C.S}:(laid 0 (C.X c)).filter (fun p=>!p.1.lt C.m)=[]:=ZhW (by rw[C.len];omega)
section
attribute [local simp] Box.purge Site.isLoc
attribute [local simp] retFz frzL AS.frz AV.frz AV.frzL Box.frz AS.tidy AS.frzC
theorem Ztv:Gives Tryz.prog 125 [] (.agg [.int .i64 (-1),.int .i64 (-1),.int .i64 (-1),.int .i64 (-1)]):=by
 refine cS L125 ?_;simp[-getElem?_pos,L125];refine Zae (fun n τ=>(n=4∧τ=⟨[(0,.ptr (.loc 0 0) 0),(2,.pv (.int .i64 0))],[(.loc 0 0,.cells [.pv (.int .i64 0),.pv (.int .i64 0),.pv (.int .i64 0),.pv (.int .i64 0)])]⟩)∨
  (n=3∧τ=⟨[(0,.ptr (.loc 0 0) 0),(2,.pv (.int .i64 1))],[(.loc 0 0,.cells [.pv (.int .i64 (-1)),.pv (.int .i64 0),.pv (.int .i64 0),.pv (.int .i64 0)])]⟩)∨
  (n=2∧τ=⟨[(0,.ptr (.loc 0 0) 0),(2,.pv (.int .i64 2))],[(.loc 0 0,.cells [.pv (.int .i64 (-1)),.pv (.int .i64 (-1)),.pv (.int .i64 0),.pv (.int .i64 0)])]⟩)∨
  (n=1∧τ=⟨[(0,.ptr (.loc 0 0) 0),(2,.pv (.int .i64 3))],[(.loc 0 0,.cells [.pv (.int .i64 (-1)),.pv (.int .i64 (-1)),.pv (.int .i64 (-1)),.pv (.int .i64 0)])]⟩)∨
  (n=0∧τ=⟨[(0,.ptr (.loc 0 0) 0),(2,.pv (.int .i64 4))],[(.loc 0 0,.cells [.pv (.int .i64 (-1)),.pv (.int .i64 (-1)),.pv (.int .i64 (-1)),.pv (.int .i64 (-1))])]⟩)) ⟨4,_,Sub.mk (by simp) (by simp),.inl ⟨rfl,rfl⟩⟩ ?_
 have w1:IntKind.i64.wrap 1=1:=rfl;have w2:IntKind.i64.wrap 2=2:=rfl;have w3:IntKind.i64.wrap 3=3:=rfl;have w4:IntKind.i64.wrap 4=4:=rfl;have n3:natI 3=some 3:=rfl;rintro J hJ n τ (⟨rfl,rfl⟩|⟨rfl,rfl⟩|⟨rfl,rfl⟩|⟨rfl,rfl⟩|⟨rfl,rfl⟩)
 ·have hround:=hJ _ _ (.inr (.inl ⟨rfl,rfl⟩));clear hJ;simp[-getElem?_pos,w1,nblt,nble];exact⟨_,_,(by omega:3<4),Sub.mk (by simp) (by simp),hround⟩
 ·have hround:=hJ _ _ (.inr (.inr (.inl ⟨rfl,rfl⟩)));clear hJ;simp[-getElem?_pos,w2,nblt,nble];exact⟨_,_,(by omega:2<3),Sub.mk (by simp) (by simp),hround⟩
 ·have hround:=hJ _ _ (.inr (.inr (.inr (.inl ⟨rfl,rfl⟩))));clear hJ;simp[-getElem?_pos,w3,nblt,nble];exact⟨_,_,(by omega:1<2),Sub.mk (by simp) (by simp),hround⟩
 ·have hround:=hJ _ _ (.inr (.inr (.inr (.inr ⟨rfl,rfl⟩))));clear hJ;simp[-getElem?_pos,w4,n3,nblt,nble];exact⟨_,_,(by omega:0<1),Sub.mk (by simp) (by simp),hround⟩
 ·simp[-getElem?_pos]
def macF (q:Qu)(i:Nat)(h:Int):PV:=.fn 271 [] [.ref [.lst false 1 (q.ms.map rgsP),.lst false 3 (q.rs.map Rq.pv)],.ref [.int .i64 i],.ref [.int .i64 h]]
theorem Zfd (q:Qu)(i:Nat)(h:Int):Gives Tryz.prog 251 [q.pv,.int .i64 i,.int .i64 h] (macF q i h):=by
 refine cF [.loc 3 0,.loc 4 0,.loc 5 0] L251 ?_;simp[-getElem?_pos,L251,Qu.pv,unpvs,fnA];rfl
end
attribute [local simp] ZcD ZcC ZcB Zbv Zcy Zcz ZbR Zef
attribute [local simp] AV.map AV.mapL noRet Site.isRet Box.allS AV.allS AV.allSL AS.adds
def Qu.macs (q:Qu)(i:Nat)(h:Int)(k:Nat):List Nat:=((List.range q.ms.length).take k).filter (fun m=>q.may i m h)
theorem Qu.macs_next (q:Qu){i:Nat}{h:Int}{k:Nat}(hk:k<q.ms.length):q.macs i h (k+1)=q.macs i h k++(if q.may i k h=true then[k]else[]):=by
 have:(List.range q.ms.length)[k]?=some k:=by rw[List.getElem?_range hk]
 unfold Qu.macs;rw[Zdp this,ZuV,ZuN,List.filter_nil]
end
section
open Go.RowKit
set_option maxRecDepth 10000
theorem ZrU {q:Qu}(hq:q.ok){i:Nat}{h:Int}{k:Nat}:∀m∈q.macs i h k,m<q.ms.length:=fun m hm=>by
 unfold Qu.macs at hm
 have:=ZuQ (Zum.1 hm).1
 simpa using this
def bl (t:List Bool):List AV:=t.map fun b=>.pv (.bool b)
def il (w:List Int):List AV:=w.map fun n=>.pv (.int .i64 n)
theorem ZhI {q:Site→Bool}:∀(l:List PV),AV.allSL q (l.map .pv)=true
 |[]=>rfl
 |a::r=>by simp[AV.allSL,AV.allS,ZhI r]
theorem ZhH {g:Site→Site}:∀(l:List PV),AV.mapL g (l.map .pv)=l.map .pv
 |[]=>rfl
 |a::r=>by simp[AV.mapL,AV.map,ZhH r]
theorem Ziv {d:Nat}(l:List PV):(l.map AV.pv).map (AV.purge d)=l.map .pv:=by rw[List.map_map];rfl
theorem bl_pv (t:List Bool):bl t=(t.map PV.bool).map .pv:=by rw[List.map_map];rfl
theorem il_pv (t:List Int):il t=(t.map (PV.int .i64)).map .pv:=by rw[List.map_map];rfl
theorem Zss {q:Site→Bool}{t:List Bool}:AV.allSL q (bl t)=true:=by rw[bl_pv];exact ZhI _
theorem Zr5 {q:Site→Bool}{t:List Int}:AV.allSL q (il t)=true:=by rw[il_pv];exact ZhI _
theorem Zsr {g:Site→Site}{t:List Bool}:AV.mapL g (bl t)=bl t:=by rw[bl_pv];exact ZhH _
theorem Zr4 {g:Site→Site}{t:List Int}:AV.mapL g (il t)=il t:=by rw[il_pv];exact ZhH _
theorem ZpU {d:Nat}{t:List Bool}:(bl t).map (AV.purge d)=bl t:=by rw[bl_pv];exact Ziv _
theorem Zpd {d:Nat}{t:List Int}:(il t).map (AV.purge d)=il t:=by rw[il_pv];exact Ziv _
attribute [local simp] AS.exp expG Box.ren AV.map AV.mapL Zau noRet Site.isRet Box.allS AV.allS AV.allSL retB dropL AS.adds renL outG outOk Zas inG fnOf lookA Zuq
attribute [local simp] Zss Zr5 Zsr Zr4 ZpU Zpd
attribute [local simp] Box.purge Site.isLoc
end
section
open Go.RowKit
set_option maxRecDepth 10000
attribute [local simp] AS.exp expG Box.ren AV.map AV.mapL Zau noRet Site.isRet Box.allS AV.allS AV.allSL retB dropL AS.adds renL outG outOk Zas inG fnOf lookA Zuq
attribute [local simp] Zss Zr5 Zsr Zr4 ZpU Zpd
attribute [local simp] Box.purge Site.isLoc

end
section
open Go.RowKit
set_option maxRecDepth 10000
attribute [local simp] AS.exp expG Box.ren AV.map AV.mapL Zau noRet Site.isRet Box.allS AV.allS AV.allSL dropL AS.adds renL outG outOk Zas inG fnOf lookA Zuq
attribute [local simp] Zss Zr5 Zsr Zr4 ZpU Zpd
attribute [local simp] Box.purge Site.isLoc
def idle4:List Int:=[-1,-1,-1,-1]
end
section
open Go.RowKit
set_option maxRecDepth 10000
inductive Nd where
 |ru (r:Nat)
 |rh (r h:Nat)
 |mh (m h:Nat)
 deriving DecidableEq
def Nd.pv:Nd→PV
 |.ru r=>.agg [.int .i64 r,.int .i64 (-1),.int .i64 (-1)]
 |.rh r h=>.agg [.int .i64 r,.int .i64 (-1),.int .i64 h]
 |.mh m h=>.agg [.int .i64 (-1),.int .i64 m,.int .i64 h]
def Nd.kind:Nd→Nat
 |.ru _=>0
 |.rh _ _=>1
 |.mh _ _=>2
def rowP (r:List Int):PV:=.agg (r.map (PV.int .i64))
def plP (p:List (List Int)):List PV:=p.map rowP
def onR (l:List Int)(run:Int):Int:=match l.findIdx? (fun x=>decide (run=x))with
 |some i=>i
 |none=>-1
def onI (p:List (List Int))(run:Int)(h:Nat):Int:=onR ((p[h]?).getD []) run
def who (p:List (List Int))(h m:Nat):Int:=(((p[h]?).getD [])[m]?).getD (-1)
def layB (q:Qu)(p:List (List Int))(b:Nat):List Box:=[.cells [.pv (.lst false 1 (q.ms.map rgsP)),.pv (.lst false 3 (q.rs.map Rq.pv)),.vec (.par b) 4 0 p.length],.arr 177 4 (plP p)]
def four (p:List (List Int)):Prop:=∀l∈p,l.length=4
section
attribute [local simp] Box.purge Site.isLoc
attribute [local simp] retFz frzL AS.frz AV.frz AV.frzL Box.frz AS.tidy AS.frzC
theorem Zr0 (l:List Int)(hl:l.length≤1000)(v:Int):Gives Tryz.prog 114 [.lst false 1 (l.map (PV.int .i64)),.int .i64 v] (.int .i64 (onR l v)):=by
 refine cS L114 ?_;simp[-getElem?_pos,L114];refine Zae (fun n τ=>∃k:Nat,k≤l.length∧n=l.length-k∧(∀(j:Nat) (x:Int),j<k→l[j]?=some x→decide (v=x)=false)∧τ=⟨[(0,.pv (.lst false 1 (l.map (PV.int .i64)))),(1,.pv (.int .i64 v)),(7,.pv (.int .i64 l.length)),(8,.pv (.int .i64 k))],[]⟩)
  ⟨l.length,⟨[(0,.pv (.lst false 1 (l.map (PV.int .i64)))),(1,.pv (.int .i64 v)),(7,.pv (.int .i64 l.length)),(8,.pv (.int .i64 0))],[]⟩,Sub.mk (by simp) (by simp),0,Zud _,rfl,(fun j x hj=>by omega),rfl⟩ ?_
 rintro J hJ n τ ⟨k,hk,rfl,hinv,rfl⟩;by_cases hlt:k<l.length
 ·obtain⟨x,hx⟩:∃x,l[k]?=some x:=⟨l[k],Zt3 hlt⟩;have hg:(l.map (PV.int .i64))[k]?=some (.int .i64 x):=by rw[Zt4,hx];rfl
  have hw:=wrapS (k:=k) (by omega);have hmeas:l.length-(k+1)<l.length-k:=by omega
  by_cases h1:v=x
  ·have hf:l.findIdx? (fun x=>decide (v=x))=some k:=by
    rw[ZuT];refine⟨hlt,by rw[(Zt5.1 hx).2];simpa using h1,fun j hj=>?_⟩
    have:=hinv j l[j] hj (Zt3 (by omega))
    simpa using this
   unfold onR;rw[hf];simp[-getElem?_pos,-List.getElem?_map,hlt,hg,h1]
  ·have hround:=hJ _ _ ⟨k+1,hlt,rfl,(fun j y hj hy=>by
    rcases ZuW.1 hj with h|h
    ·exact hinv j y h hy
    ·subst h;rw[hx]at hy;cases hy;simpa using h1),rfl⟩
   clear hJ;simp[-getElem?_pos,-List.getElem?_map,hlt,hg,h1,hw];exact⟨_,_,hmeas,Sub.mk (by simp) (by simp),hround⟩
 ·have hf:l.findIdx? (fun x=>decide (v=x))=none:=by
   rw[ZuU];intro x hx;obtain⟨j,hj⟩:=Zui.1 hx;exact hinv j x (by have:=(Zt5.1 hj).1;omega) hj
  have he:k=l.length:=by omega
  subst he;unfold onR;rw[hf];simp[-getElem?_pos,-List.getElem?_map]
theorem on_c (x y:PV)(p:List (List Int))(hp:four p)(run:Int)(h:Nat)(hh:h<p.length):Gives Tryz.prog 250 [.ref [x,y,.lst false 4 (plP p)],.int .i64 run,.int .i64 h] (.int .i64 (onI p run h)):=by
 obtain⟨l,hl⟩:∃l,p[h]?=some l:=⟨p[h],Zt3 hh⟩;have h4:=hp l (Zua hl);have hg:(plP p)[h]?=some (.agg (l.map (PV.int .i64))):=by rw[plP,Zt4,hl];rfl
 have ht:(l.map (PV.int .i64)).take 4=l.map (PV.int .i64):=Zub (by simp[h4]);have e:onI p run h=onR l run:=by simp[onI,hl]
 rw[e];refine cS L250 ?_;have n4:natI 4=some 4:=rfl;simp[-getElem?_pos,-List.getElem?_map,L250,hg,n4,h4,ht,nble];refine Zaa (k:=0) (fs:=[]) (cs:=[]) rfl rfl (Zr0 l (by omega) run) rfl ?_;simp[-getElem?_pos]
theorem Zm3 (n:Nd):Gives Tryz.prog 165 [n.pv] (.int .i64 n.kind):=by
 refine cS L165 ?_;cases n with
 |ru r=>simp[-getElem?_pos,L165,Nd.pv,Nd.kind]
 |rh r h=>
  have:¬((h:Int) = -1):=by omega
  simp[-getElem?_pos,L165,Nd.pv,Nd.kind,this]
 |mh m h=>
  have h1:¬((h:Int) = -1):=by omega
  have h2:¬((m:Int) = -1):=by omega
  simp[-getElem?_pos,L165,Nd.pv,Nd.kind,h1,h2]
def Zl2:List PV:=[.agg [.fn 206 [] []],.agg [.fn 207 [] []],.agg [.fn 208 [] []]]
theorem Zq9:Gives Tryz.prog 167 [] (.lst false 1 Zl2):=by
 refine cF [.loc 4 0] L167 ?_;simp[-getElem?_pos,L167];rfl
end
def ZcK (p:List (List Int))(r:Nat)(k:Nat):List Nd:=(((List.range p.length).take k).filter fun h=>decide (onI p r h = -1)).map (Nd.rh r)
def Zf8 (p:List (List Int))(r:Nat):List Nd:=ZcK p r p.length
theorem Zjw {p:List (List Int)}{r k:Nat}(hk:k<p.length):ZcK p r (k+1)=ZcK p r k++(if onI p r k = -1 then[.rh r k]else[]):=by
 have:(List.range p.length)[k]?=some k:=by rw[List.getElem?_range hk]
 unfold ZcK;rw[Zdp this,ZuV,Zuw,ZuN,List.filter_nil];by_cases h:onI p r k = -1<;>simp[h]
theorem Zha {p:List (List Int)}{r k:Nat}:(ZcK p r k).length≤k:=by
 unfold ZcK;rw[Zuc];refine Zup (ZuX _ _) ?_;rw[Zt6];omega
attribute [local simp] AS.exp expG Box.ren AV.map AV.mapL Zau noRet Site.isRet Box.allS AV.allS AV.allSL retB dropL AS.adds renL outG outOk Zas inG fnOf lookA Zuq
attribute [local simp] Box.purge Site.isLoc
def nodB (l:List Nd):List (Site×Box):=[(.ret 0,.arr 249 3 (l.map Nd.pv))]
set_option maxHeartbeats 4000000 in
theorem Zo4 (q:Qu)(p:List (List Int))(hp:four p)(hl:p.length≤1000)(r:Nat):
  Zak Tryz.prog 206 [.ptr (.par 0) 0,.pv (Nd.ru r).pv] (laid 0 (layB q p 1)) (fun x B=>x=.vec (.ret 0) 3 0 (Zf8 p r).length∧B=nodB (Zf8 p r)++laid 0 (layB q p 1)):=by
 refine cBR [.loc 26 0,.par 0,.par 1] L206 ?_;intro R hR;simp[-getElem?_pos,L206,layB,laid,Nd.pv];refine Zae (fun n τ=>∃k:Nat,k≤p.length∧n=p.length-k∧τ=⟨[(0,.ptr (.par 0) 0),(3,.ptr (.loc 3 0) 0),(4,.vec (.loc 26 0) 3 0 (ZcK p r k).length),(10,.pv (.int .i64 p.length)),(11,.pv (.int .i64 k))],[(.loc 26 0,.arr 249 3 ((ZcK p r k).map Nd.pv)),(.loc 3 0,.cells [.pv (.int .i64 r),.pv (.int .i64 (-1)),.pv (.int .i64 (-1))])]++laid 0 (layB q p 1)⟩)
  ⟨p.length,⟨[(0,.ptr (.par 0) 0),(3,.ptr (.loc 3 0) 0),(4,.vec (.loc 26 0) 3 0 0),(10,.pv (.int .i64 p.length)),(11,.pv (.int .i64 0))],[(.loc 26 0,.arr 249 3 []),(.loc 3 0,.cells [.pv (.int .i64 r),.pv (.int .i64 (-1)),.pv (.int .i64 (-1))])]++laid 0 (layB q p 1)⟩,Sub.trans' (Sub.mk (by simp[AS.vecT]) (by simp[AS.vecT,layB,laid])) (vecT 26 249 3 4 rfl (by decide)),0,Zud _,rfl,by simp[ZcK]⟩ ?_
 rintro J hJ n τ ⟨k,hk,rfl,rfl⟩;by_cases hlt:k<p.length
 ·have hw:=wrapS (k:=k) (by omega);have hmeas:p.length-(k+1)<p.length-k:=by omega
  have hround:=hJ _ _ ⟨k+1,hlt,rfl,rfl⟩;have hnx:=Zjw (r:=r) hlt;have hln:=Zha (p:=p) (r:=r) (k:=k);have hon:=on_c (.lst false 1 (q.ms.map rgsP)) (.lst false 3 (q.rs.map Rq.pv)) p hp r k hlt;have hk6:(ZcK p r k).length+1≤1000000:=by omega
  have hpt:(plP p).take p.length=plP p:=Zub (by simp[plP]);have hpl:(plP p).length=p.length:=by simp[plP]
  clear hJ;generalize ZcK p r (k+1)=N2 at *;generalize ZcK p r k=N1 at *;simp[-getElem?_pos,-List.getElem?_map,layB,laid,hlt];refine Zaa (k:=3) (fs:=[]) (xs:=[.ref [.lst false 1 (q.ms.map rgsP),.lst false 3 (q.rs.map Rq.pv),.lst false 4 (plP p)],.int .i64 r,.int .i64 k]) (cs:=[]) rfl ?_ hon rfl ?_
  ·simp[snapW,AV.snap,AV.snap0,hpl,hpt]
  by_cases ho:onI p r k = -1
  ·rw[if_pos ho]at hnx;subst hnx;simp[-getElem?_pos,-List.getElem?_map,ho,nble,hk6,hw];refine⟨_,_,hmeas,Sub.mk ?_ ?_,hround⟩
   ·simp
   ·simp[layB,laid,Nd.pv]
  ·rw[if_neg ho,Zut]at hnx;subst hnx;simp[-getElem?_pos,-List.getElem?_map,ho,hw];refine⟨_,_,hmeas,Sub.mk ?_ ?_,hround⟩
   ·simp
   ·simp[layB,laid]
 ·have he:k=p.length:=by omega
  subst he;simp[-getElem?_pos,-List.getElem?_map,layB,laid];rw[←hR];exact⟨rfl,by simp[nodB,layB,laid,Zf8]⟩
theorem Zkb {p:List (List Int)}{h m:Nat}{l:List Int}{x:Int}(h1:p[h]?=some l)(h2:l[m]?=some x):who p h m=x:=by simp[who,h1,h2]
theorem ZoZ (q:Qu)(p:List (List Int))(hp:four p)(m h:Nat)(hm:m<4)(hh:h<p.length)(r:Nat)(hr:who p h m=r):
  Zak Tryz.prog 208 [.ptr (.par 0) 0,.pv (Nd.mh m h).pv] (laid 0 (layB q p 1)) (fun x B=>x=.vec (.ret 0) 3 0 1∧B=nodB [.rh r h]++laid 0 (layB q p 1)):=by
 obtain⟨l,hl⟩:∃l,p[h]?=some l:=⟨p[h],Zt3 hh⟩;have h4:=hp l (Zua hl);obtain⟨x,hx⟩:∃x,l[m]?=some x:=⟨l[m]'(by omega),Zt3 _⟩;rw[Zkb hl hx]at hr;subst hr;have hg:(plP p)[h]?=some (.agg (l.map (PV.int .i64))):=by rw[plP,Zt4,hl];rfl
 have hg2:(l.map (PV.int .i64))[m]?=some (.int .i64 r):=by rw[Zt4,hx];rfl
 refine cB [.loc 19 0,.par 0,.par 1] L208 ?_;simp[-getElem?_pos,-List.getElem?_map,L208,layB,laid,Nd.pv,nblt,nble,hh,hm,hg,hg2,nodB]
end
section
open Go.RowKit
set_option maxRecDepth 10000
attribute [local simp] AS.exp expG Box.ren AV.map AV.mapL Zau noRet Site.isRet Box.allS AV.allS AV.allSL retB dropL AS.adds renL outG outOk Zas inG fnOf lookA Zuq
attribute [local simp] Box.purge Site.isLoc
theorem cok111:COk Tryz.prog (tyOf tys) L207.code:=Zdl L207_ok L207_tab
noncomputable def skR:Box:=.loop (rcode Tryz.prog 207 0) [15] 50 [(2,.ptr (.par 3) 0),(3,.ptr (.par 4) 0),(4,.ptr (.par 5) 0)] none
def skL (q:Qu)(p:List (List Int))(r h:Nat)(e:Site)(s:List Nd):List (Site×Box):=
 [(.par 1,.cells [.pv (.lst false 1 (q.ms.map rgsP)),.pv (.lst false 3 (q.rs.map Rq.pv)),.vec (.par 2) 4 0 p.length]),(.par 2,.arr 177 4 (plP p)),(.par 3,.cells [.ptr (.par 1) 0]),(.par 4,.cells [.pv (.int .i64 r),.pv (.int .i64 (-1)),.pv (.int .i64 h)]),(.par 5,.cells [.vec e 3 0 s.length])]
noncomputable def skB (q:Qu)(p:List (List Int))(r h:Nat)(e:Site)(s:List Nd):List (Site×Box):=(.par 0,skR)::skL q p r h e s++[(e,.arr 249 3 (s.map Nd.pv))]
noncomputable def skA (q:Qu)(p:List (List Int))(r h:Nat)(s:List Nd):List (Site×Box):=(.par 0,skR)::(.ret 0,.arr 249 3 (s.map Nd.pv))::skL q p r h (.ret 0) s
set_option maxHeartbeats 4000000 in
theorem Zmi (q:Qu)(p:List (List Int))(hp:four p)(r h:Nat)(hh:h<p.length)(s:List Nd)(hs:s.length≤1000)(m:Nat)(hm:m<4):
  ZbM Tryz.prog 0 [.pv (.int .i64 m)] (skB q p r h (.par 6) s) (fun x B=>x=.pv (.bool true)∧B=if who p h m=r then skB q p r h (.par 6) s else skA q p r h (s++[.mh m h])):=by
 obtain⟨l,hl⟩:∃l,p[h]?=some l:=⟨p[h],Zt3 hh⟩;have h4:=hp l (Zua hl);obtain⟨x,hx⟩:∃x,l[m]?=some x:=⟨l[m]'(by omega),Zt3 _⟩;have hwho:=Zkb hl hx;have hg:(plP p)[h]?=some (.agg (l.map (PV.int .i64))):=by rw[plP,Zt4,hl];rfl
 have hg2:(l.map (PV.int .i64))[m]?=some (.int .i64 x):=by rw[Zt4,hx];rfl
 have hs6:s.length+1≤1000000:=by omega
 have hcok:COk Tryz.prog (tyOf tys) (.rng 50 (.t 14) (rcode Tryz.prog 207 0) Y207_0a Y207_0b [15]):=cok111.2.1.2;refine ZaG mixed hcok.1 hcok.2.1 rfl rfl (by simp) rfl ?_;rw[hwho];generalize hR:(fun(z:AV) (B:List (Site×Box))=>z=.pv (.bool true)∧B=if x=(r:Int)then skB q p r h (.par 6) s else skA q p r h (s++[.mh m h]))=R;by_cases hxr:x=(r:Int)
 ·subst hxr;simp[-getElem?_pos,-List.getElem?_map,Y207_0a,Y207_0b,skB,skR,skL,putL,nblt,nble,hh,hm,hg,hg2];refine⟨[],[.par 1,.par 2,.par 3,.par 4,.par 5,.par 6],rfl,rfl,?_,?_⟩
  ·simp[frzL]
  ·rw[←hR];simp[skB,skR,skL,frzL]
 ·simp[-getElem?_pos,-List.getElem?_map,Y207_0a,Y207_0b,skB,skR,skL,putL,nblt,nble,hh,hm,hg,hg2,hxr,hs6];refine⟨[],[.loc 35 0,.par 1,.par 2,.par 3,.par 4,.par 5],rfl,rfl,?_,?_⟩
  ·simp[frzL]
  ·rw[←hR];simp[skA,skR,skL,frzL,hxr,Nd.pv]
def seekK (q:Qu)(p:List (List Int))(r h k:Nat):List Nd:=((q.macs r h k).filter fun m=>!decide (who p h m=r)).map (Nd.mh · h)
theorem Zle (q:Qu){p:List (List Int)}{r h k:Nat}(hk:k<q.ms.length):seekK q p r h (k+1)=seekK q p r h k++(if q.may r k h=true∧¬who p h k=r then[.mh k h]else[]):=by
 unfold seekK;rw[q.macs_next hk,ZuV,Zuw];cases hm:q.may r k h<;>by_cases hw:who p h k=r<;>simp[hw]
theorem ZfZ {q:Qu}{p:List (List Int)}{r h k:Nat}:(seekK q p r h k).length≤k:=by
 unfold seekK Qu.macs;rw[Zuc];refine Zup (ZuX _ _) (Zup (ZuX _ _) ?_);rw[Zt6];omega
noncomputable def skF (q:Qu)(p:List (List Int))(r h:Nat)(s:List Nd):List (Site×Box):=(.ret 0,.arr 249 3 (s.map Nd.pv))::(.par 0,skR)::skL q p r h (.ret 0) s
def skV (q:Qu)(r h k:Nat):List (Nat×AV):=[(0,.yld (.par 0)),(2,.pv (.ref [.int .i64 r])),(3,.pv (.ref [.int .i64 h])),(5,.pv (.fn 272 [q.pv] [])),(11,.pv (.int .i64 q.ms.length)),(12,.pv (.int .i64 k))]
set_option maxHeartbeats 8000000 in
theorem Zri (q:Qu)(hq:q.ok)(p:List (List Int))(hp:four p)(r h:Nat)(hr:r<q.rs.length)(hh:h<p.length):
  Zak Tryz.prog 271 [.yld (.par 0),.pv (.ref [.lst false 1 (q.ms.map rgsP),.lst false 3 (q.rs.map Rq.pv)]),.pv (.ref [.int .i64 r]),.pv (.ref [.int .i64 h])] (skB q p r h (.par 6) []) (fun x B=>x=.pv (.tup [])∧B=skF q p r h (seekK q p r h q.ms.length)):=by
 have hqm:=hq.m;refine cBR [.loc 23 0,.par 0,.par 1,.par 2,.par 3,.par 4,.par 5] L271 ?_;intro R hR;simp[-getElem?_pos,L271];refine Zae (fun n τ=>∃(k:Nat),k≤q.ms.length∧n=q.ms.length-k∧τ=⟨skV q r h k,skB q p r h (.loc 23 0) (seekK q p r h k)⟩)
  ⟨q.ms.length,⟨skV q r h 0,skB q p r h (.loc 23 0) []⟩,Sub.trans' (Sub.mk ?_ ?_) (Sub.ren 23 (.par 6) _),0,Zud _,rfl,by simp[seekK,Qu.macs]⟩ ?_
 ·simp[AS.ren,skV,skB,skL,skR,renS,Qu.pv]
 ·simp[AS.ren,skV,skB,skL,skR,renS]
 rintro J hJ n τ ⟨k,hk,rfl,rfl⟩;by_cases hlt:k<q.ms.length
 ·have hw:=wrapS (k:=k) (by omega);have hmeas:q.ms.length-(k+1)<q.ms.length-k:=by omega
  have hmay:=may_c q hq r k h hr hlt;have hnx:=Zle q (p:=p) (r:=r) (h:=h) hlt;have hlt':(k:Int)<(q.ms.length:Int):=by omega
  have hround:=hJ _ _ ⟨k+1,hlt,rfl,rfl⟩;have hsl:=ZfZ (q:=q) (p:=p) (r:=r) (h:=h) (k:=k);have hY:=Zmi q p hp r h hh (seekK q p r h k) (by omega) k (by omega);clear hJ;generalize seekK q p r h (k+1)=S2 at *;generalize seekK q p r h k=S1 at *;simp[-getElem?_pos,-List.getElem?_map,skV,hlt,hlt'];refine Zaa (k:=0) (fs:=[q.pv]) (xs:=[.int .i64 r,.int .i64 k,.int .i64 h]) (cs:=[]) rfl rfl hmay rfl ?_;cases hm:q.may r k h
  ·rw[hm,if_neg (by simp),Zut]at hnx;subst hnx;simp[-getElem?_pos,-List.getElem?_map,hw];refine⟨_,_,hmeas,Sub.mk ?_ ?_,hround⟩
   ·simp[skV]
   ·simp[skB,skL,skR]
  ·simp[-getElem?_pos,-List.getElem?_map,skB,skL,skR];refine ZcW 1023 0 [.par 0,.par 1,.par 2,.par 3,.par 4,.par 5,.loc 23 0] (as':=[.pv (.int .i64 k)]) rfl rfl rfl rfl ?_ rfl rfl hY ?_
   ·simp[skB,skL,skR]
   rintro x B ⟨rfl,rfl⟩;by_cases hwr:who p h k=r
   ·rw[if_neg (by simp[hwr]),Zut]at hnx;subst hnx;rw[if_pos hwr];refine⟨rfl,by simp[skB,skL,skR],?_⟩;simp[-getElem?_pos,-List.getElem?_map,skB,skL,skR,hw];refine⟨_,_,hmeas,Sub.mk ?_ ?_,hround⟩
    ·simp[skV]
    ·simp[skB,skL,skR]
   ·rw[if_pos ⟨hm,hwr⟩]at hnx;subst hnx;rw[if_neg hwr];refine⟨rfl,by simp[skA,skL,skR],?_⟩;simp[-getElem?_pos,-List.getElem?_map,skA,skL,skR,hw];refine⟨_,_,hmeas,Sub.trans' (Sub.mk ?_ ?_) (Sub.ren 23 (.loc 1023 0) _),hround⟩
    ·simp[AS.ren,renS,skV]
    ·simp[AS.ren,renS,skB,skL,skR,Nd.pv]
 ·have he:k=q.ms.length:=by omega
  subst he;simp[-getElem?_pos,-List.getElem?_map,skV,skB,skL,skR];rw[←hR];simp[skF,skL,skR]
def Zft (q:Qu)(p:List (List Int))(r h:Nat):List Nd:=seekK q p r h q.ms.length++(if onI p r h = -1 then[]else[.ru r])
set_option maxHeartbeats 8000000 in
theorem Zo1 (q:Qu)(hq:q.ok)(p:List (List Int))(hp:four p)(r h:Nat)(hr:r<q.rs.length)(hh:h<p.length):
  Zak Tryz.prog 207 [.ptr (.par 0) 0,.pv (Nd.rh r h).pv] (laid 0 (layB q p 1)) (fun x B=>x=.vec (.ret 0) 3 0 (Zft q p r h).length∧B=nodB (Zft q p r h)++laid 0 (layB q p 1)):=by
 have hqm:=hq.m;have hit:=Zri q hq p hp r h hr hh;have hon:=on_c (.lst false 1 (q.ms.map rgsP)) (.lst false 3 (q.rs.map Rq.pv)) p hp r h hh;have hsl:=ZfZ (q:=q) (p:=p) (r:=r) (h:=h) (k:=q.ms.length);have hpt:(plP p).take p.length=plP p:=Zub (by simp[plP]);have hpl:(plP p).length=p.length:=by simp[plP]
 have hS:Zft q p r h=seekK q p r h q.ms.length++(if onI p r h = -1 then[]else[.ru r]):=rfl;refine cE L207 ?_;generalize hR:(fun(x:AV) (B:List (Site×Box))=>x=.vec (.ret 0) 3 0 (Zft q p r h).length∧B=nodB (Zft q p r h)++laid 0 (layB q p 1))=R;generalize Zft q p r h=S at *;generalize seekK q p r h q.ms.length=S1 at *;have hs6:S1.length+1≤1000000:=by omega
 simp[-getElem?_pos,-List.getElem?_map,L207,layB,laid,Nd.pv];refine .inl (cQ [] [q.pv,.int .i64 r,.int .i64 h] (Zfd q r h) ?_);simp[-getElem?_pos,-List.getElem?_map,frzsL,macF];refine Ze3 (vecC 60 249 3 (s:=.loc 4 0) (cs:=[.pv (.emp (some true))]) 0 rfl rfl (by decide)) ?_;refine ZbD [.loc 50 0,.par 0,.par 1,.loc 2 0,.loc 3 0,.loc 4 0,.loc 60 0] [(2,.ptr (.loc 2 0) 0),(3,.ptr (.loc 3 0) 0),(4,.ptr (.loc 4 0) 0)] (gf:=271) (fs:=[]) (cs:=[.pv (.ref [.lst false 1 (q.ms.map rgsP),.lst false 3 (q.rs.map Rq.pv)]),.pv (.ref [.int .i64 r]),.pv (.ref [.int .i64 h])]) ?_ ?_ rfl rfl ?_ ?_ ?_ hit ?_
 ·rfl
 ·simp[AS.vecC]
 ·simp[AS.vecC,skB,skL,skR]
 ·rfl
 ·rfl
 rintro x B ⟨rfl,rfl⟩;refine⟨rfl,by simp[skF,skL,skR],?_⟩;refine⟨_,_,_,_,_,rfl,?_⟩;simp[-getElem?_pos,-List.getElem?_map,AS.vecC,skF,skL,skR,jumpQ];refine Zaa (k:=3) (fs:=[]) (xs:=[.ref [.lst false 1 (q.ms.map rgsP),.lst false 3 (q.rs.map Rq.pv),.lst false 4 (plP p)],.int .i64 r,.int .i64 h]) (cs:=[]) rfl ?_ hon rfl ?_
 ·simp[snapW,AV.snap,AV.snap0,hpl,hpt]
 by_cases ho:onI p r h = -1
 ·rw[if_pos ho,Zut]at hS;subst hS;simp[-getElem?_pos,-List.getElem?_map,ho];refine⟨[.loc 51 0,.par 0,.par 1],?_⟩;simp;rw[←hR];simp[nodB,layB,laid]
 ·rw[if_neg ho]at hS;subst hS;simp[-getElem?_pos,-List.getElem?_map,ho,nble,hs6];refine⟨[.loc 48 0,.par 0,.par 1],?_⟩;simp;rw[←hR];simp[nodB,layB,laid,Nd.pv]
end
end Go.Proofs.YteknmiggbkhdoaaGreatDoor.Qn
