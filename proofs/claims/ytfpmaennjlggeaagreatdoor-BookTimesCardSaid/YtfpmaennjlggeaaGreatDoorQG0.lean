/- The registrar's book: what the statement needs, joined and shortened by program. -/
import Derived.Test.YtfpmaennjlggeaaGreatDoorProg
import Derived.Test.YtfpmaennjlggeaaGreatDoorCards
import Derived.Test.YtfpmaennjlggeaaGreatDoorTie
import Derived.SevenTiedAt
import Derived.Test.YtfpmaennjlggeaaGreatDoorP0
import Derived.Test.YtfpmaennjlggeaaGreatDoorP1
import Derived.Test.YtfpmaennjlggeaaGreatDoorP2
import Derived.Test.YtfpmaennjlggeaaGreatDoorP3
import Derived.Test.YtfpmaennjlggeaaGreatDoorP4
set_option linter.unusedSimpArgs false
set_option linter.unusedVariables false
set_option maxHeartbeats 32000000
set_option maxRecDepth 10000
namespace Go.Proofs.YtfpmaennjlggeaaGreatDoor
open Go.RowKit
section
set_option maxRecDepth 100000
noncomputable section
def L3:LFn :=⟨98,S [Pf 4] (.seq (S [Om 19 0,Ok 20 8 [.t 19],Oo 21 20,Om 22 21,G 23 22 false (M 0),G 24 22 false (.call (C 9) [.t 23]),G 25 22 false (.not (.t 24)),Pq 26 22 25] (Cd 26 (S [Ok 27 10 [],Om 4 27] .ret) .skip)) (S [Om 28 1,O 29 (.conv .i64 (.t 28)),Om 30 0,On 31 30,Oc 32 .add 31 1,Ob 33 .rem 29 32,Om 5 33] (S [Om 35 0,Ok 36 11 [.t 35],Om 34 36,Oe 37 34 0,Oe 38 34 1,Oe 39 34 2,O 6 (.alloc (.agg [E0,E0,E0,E0,E0])),Ns 5 6 37,Om 7 38,Om 8 39] (S [Om 41 0,Om 42 5,O 43 (.slc 1 none (.t 41) none (some (.t 42)) none),Ok 44 11 [.t 43],Om 40 44,Oe 45 40 0,Oe 46 40 1,Oe 47 40 2,O 9 (.alloc (.agg [E0,E0,E0,E0,E0])),Ns 5 9 45,Om 10 46,Om 11 47] (.seq (S [Om 48 8,Oo 49 48,Om 50 49,G 51 50 false (M 11),G 52 50 false (.not (.t 51)),Pq 53 50 52] (Cd 53 (S [Pf 4] .ret) .skip)) (S [O 54 (.build (.agg [Z0,Z0]) [(0,(1,(I 10))),(1,(1,(I 13)))]),Pb 55 35 2 54,O 56 (.bslice 36 1 [.t 55,.c E0]),Om 12 56] (S [Om 58 12,Oa 59 4 9,Ol 60 1 59,O 61 (.build (.agg [E0,E0]) [(0,(1,(.t 58))),(1,(1,(.t 60)))]),Ok 62 12 [.t 61],Om 57 62,Oe 63 57 0,Oe 64 57 1,Oe 65 57 2,Om 13 63,Om 14 64,Om 15 65] (S [Om 67 12,Oa 68 4 6,Ol 69 1 68,O 70 (.build (.agg [E0,E0]) [(0,(1,(.t 67))),(1,(1,(.t 69)))]),Ok 71 12 [.t 70],Om 66 71,Oe 72 66 0,Oe 73 66 1,Oe 74 66 2,Om 16 72,Om 17 73,Om 18 74] (S [Om 75 15,Oc 76 .eql 75 0,Om 77 76,Pn 78 77 18,G 79 77 true (.bin false .eql (.t 78) (I 0)),Pp 80 77 79,Om 81 80,Pn 82 81 14,Pn 83 81 17,G 84 81 true (.bin false .leq (.t 82) (.t 83)),Pp 85 81 84,Om 86 85,Ph 87 86 4 9,Pg 88 86 87,G 89 86 true (.len none (.t 88)),Ph 90 86 4 6,Pg 91 86 90,G 92 86 true (.len none (.t 91)),G 93 86 true (.bin false .leq (.t 89) (.t 92)),Pp 94 86 93,Om 95 94,G 96 95 true (.call (C 10) []),Pp 97 95 96,Om 4 97] .ret))))))))),[.tm 4]⟩
def L11:LFn :=⟨47,S [O 2 (.alloc (.agg [E0,E0,E0,E0,E0])),Pe 3,Pf 4] (S [Om 11 0,Ok 12 14 [.t 11],Ok 13 15 [.t 12],Om 10 13,Oe 14 10 0,Oe 15 10 1,Oe 16 10 2,O 5 (.alloc (.agg [E0,E0,E0,E0,E0])),Ns 5 5 14,Om 6 15,Om 7 16] (.seq (S [Om 17 7,Oc 18 .neq 17 0,Om 19 18,G 20 19 false (M 6),G 21 19 false (.len none (.t 20)),G 22 19 false (M 0),G 23 19 false (.len none (.t 22)),G 24 19 false (.bin false .neq (.t 21) (.t 23)),Pq 25 19 24] (Cd 25 (S [Ot 26 5 5,Ns 5 2 26,Pe 3,Pf 4] .ret) .skip)) (S [Pe 8] (.seq (S [OM 9 0] (.block 0 (.loop (.seq (S [Om 27 9,Om 28 0,On 29 28,Ob 30 .lss 27 29] (Ce 30 0)) (.seq (.block 1 (S [Om 33 6,Om 34 9,Oi 35 1 33 34,Ol 36 1 35,Oc 37 .eql 36 0] (Cd 37 (.region [Om 38 8,Om 39 0,Om 40 9,Oi 41 1 39 40,Ol 42 1 41,Pb 43 9 1 42,Py 44 9 1 16 38 43,Om 8 44]) .skip))) (.region [Om 31 9,Oc 32 .add 31 1,Om 9 32])))))) (S [Ot 45 5 5,Om 46 8,Ns 5 2 45,Om 3 46,O 4 (.mov Bt)] .ret))))),[.cell 2 true 5,.tm 3,.tm 4]⟩
end
end
end Go.Proofs.YtfpmaennjlggeaaGreatDoor
namespace Go.Proofs.YtfpmaennjlggeaaGreatDoor.Qn
open Go.RowKit
section
attribute [local simp] Box.Zu0 Site.Zu1
attribute [local simp] retFz frzL AS.frz AV.frz AV.frzL Box.frz AS.tidy AS.ZvF
def Qu.hrs (q:Qu)(i:Int):Int:=((q.rs[i.toNat]?).map Rq.hours).getD 0
def Qu.Zxb (q:Qu)(l:List Int):Int:=(l.map q.hrs).sum
def liveL (l:List Int):Bool:=l.any fun x=>decide (x≠-1)
def endK (p:List (List Int)):Nat→Int
 |0=>0
 |k+1=>if liveL ((p[k]?).getD [])=true then(k:Int)+1 else endK p k
def endP (p:List (List Int)):Int:=endK p p.length
theorem ZjP (p:List (List Int)):∀k:Nat,0≤endK p k∧endK p k≤k
 |0=>by simp[endK]
 |k+1=>by
  have:=ZjP p k
  unfold endK
  split<;>omega
def Qu.Zxj (q:Qu)(h:Nat)(l:List Int)(m:Nat):Bool:=
 decide ((l[m]?).getD (-1) = -1)||(decide (0≤(l[m]?).getD (-1))&&decide ((l[m]?).getD (-1)≤(q.rs.length:Int)-1)&&!(l.take m).contains ((l[m]?).getD (-1))&&q.may ((l[m]?).getD (-1)).toNat m h)
def Qu.Zxq (q:Qu)(h:Nat)(l:List Int):Bool:=decide (l.length=q.ms.length)&&(List.range l.length).all (q.Zxj h l)
def Qu.Zxp (q:Qu)(p:List (List Int)):Bool:=(List.range p.length).all fun h=>q.Zxq h ((p[h]?).getD [])
def cnt (p:List (List Int))(i:Nat):Nat:=(p.map (List.count (i:Int))).sum
def Qu.Zxs (q:Qu)(p:List (List Int)):Bool:=(List.range q.rs.length).all fun i=>decide ((cnt p i:Int)=(q.run i).hours)
def Qu.right (q:Qu)(p:List (List Int)):Bool:=decide ((p.length:Int)≤40)&&q.Zxp p&&q.Zxs p
theorem Zf7 {n:Nat}{f:Nat→Bool}(hf:∀k,k<n→f k=true):(List.range n).all f=true:=by
 rw[Zx7];exact fun k hk=>hf k (List.mem_range.1 hk)
theorem ZoB (a b:List (List Int))(i:Nat):cnt (a++b) i=cnt a i+cnt b i:=by simp[cnt]
theorem ZtA (l:List Int)(i:Nat):cnt [l] i=l.count (i:Int):=by simp[cnt]
def Qu.ZwL (q:Qu)(l:List Int)(i:Nat):Bool:=decide (0≤(l[i]?).getD (-1))&&decide ((l[i]?).getD (-1)≤(q.rs.length:Int)-1)&&(decide (i=0)||decide ((l[i-1]?).getD (-1)<(l[i]?).getD (-1)))
def Qu.rising (q:Qu)(l:List Int):Bool:=(List.range l.length).all (q.ZwL l)
end
section
abbrev GR:=List Bool×List Int×Bool
def loopG (rec:Nat→List Bool→List Int→GR)(run:Nat):List Nat→List Bool→List Int→GR
 |[],t,w=>(t,w,false)
 |m::r,t,w=>if(t[m]?).getD true=true then loopG rec run r t w else
  if(w[m]?).getD (-1) = -1 then(t.set m true,w.set m run,true)else
  if(rec ((w[m]?).getD (-1)).toNat (t.set m true) w).2.2=true then((rec ((w[m]?).getD (-1)).toNat (t.set m true) w).1,(rec ((w[m]?).getD (-1)).toNat (t.set m true) w).2.1.set m run,true)
  else loopG rec run r (rec ((w[m]?).getD (-1)).toNat (t.set m true) w).1 (rec ((w[m]?).getD (-1)).toNat (t.set m true) w).2.1
def Qu.ZvZ (q:Qu)(h:Int):Nat→Nat→List Bool→List Int→GR
 |0,_,t,w=>(t,w,false)
 |n+1,run,t,w=>loopG (q.ZvZ h n) run (q.Zwi run h q.ms.length) t w
def unt (t:List Bool):Nat:=t.count false
structure GW (q:Qu)(t:List Bool)(w:List Int):Prop where
 t4:t.length=4
 w4:w.length=4
 ok:∀x∈w,x = -1∨(0≤x∧x<q.rs.length)
theorem Zmw {t:List Bool}{m:Nat}(h:t[m]?=some false):unt (t.set m true)+1=unt t:=by
 induction t generalizing m with
 |nil=>simp at h
 |cons a r ih=>
  cases m with
  |zero=>simp at h;subst h;simp[unt]
  |succ m=>
   have h':r[m]?=some false:=by simpa using h
   have:=ih h'
   cases a<;>simp[unt]at this ⊢<;>omega
theorem GW.set {q:Qu}{t:List Bool}{w:List Int}(h:GW q t w)(m:Nat):GW q (t.set m true) w:=⟨by simpa using h.t4,h.w4,h.ok⟩
theorem GW.put {q:Qu}{t:List Bool}{w:List Int}(h:GW q t w)(m:Nat){run:Nat}(hr:run<q.rs.length):GW q t (w.set m run):=
 ⟨h.t4,by simpa using h.w4,fun x hx=>by
  rcases List.mem_or_eq_of_mem_set hx with hx|hx
  ·exact h.ok x hx
  ·subst hx;right;omega⟩
theorem GW.at {q:Qu}{t:List Bool}{w:List Int}(h:GW q t w){m:Nat}(hm:m<4):∃b x,t[m]?=some b∧w[m]?=some x∧(x = -1∨(0≤x∧x<q.rs.length)):=by
 have h1:m<t.length:=by rw[h.t4];exact hm
 have h2:m<w.length:=by rw[h.w4];exact hm
 exact⟨t[m],w[m],ZxL h1,ZxL h2,h.ok _ (Zyh h2)⟩
theorem Zhv {q:Qu}{rec:Nat→List Bool→List Int→GR}{n:Nat}(hrec:∀run t w,run<q.rs.length→GW q t w→GW q (rec run t w).1 (rec run t w).2.1∧unt (rec run t w).1≤unt t){run:Nat}(hr:run<q.rs.length):
  ∀(l:List Nat),(∀m∈l,m<4)→∀(t:List Bool) (w:List Int),GW q t w→GW q (loopG rec run l t w).1 (loopG rec run l t w).2.1∧unt (loopG rec run l t w).1≤unt t
 |[],_,t,w,h=>⟨h,ZxR _⟩
 |m::r,hl,t,w,h=>by
  obtain⟨b,x,h1,h2,h3⟩:=h.at (hl m (by simp));have hl':∀m∈r,m<4:=fun m hm=>hl m (by simp[hm])
  unfold loopG;rw[h1,h2];simp only[Zym];cases b with
  |true=>rw[if_pos rfl];exact Zhv (n:=n) hrec hr r hl' t w h
  |false=>
   rw[if_neg (by simp)];have hu:=Zmw h1;split
   ·exact⟨(h.set m).put m hr,by show unt (t.set m true)≤_;omega⟩
   ·rename_i hx;have hx2:x.toNat<q.rs.length:=by rcases h3 with h3|h3;exact absurd h3 hx;omega
    obtain⟨k1,k2⟩:=hrec x.toNat (t.set m true) w hx2 (h.set m);split
    ·exact⟨k1.put m hr,by show unt (rec x.toNat (t.set m true) w).1≤_;omega⟩
    ·obtain⟨k3,k4⟩:=Zhv (n:=n) hrec hr r hl' _ _ k1;exact⟨k3,by omega⟩
theorem ZeZ {q:Qu}(hq:q.ok)(h:Int):∀(n run:Nat) (t:List Bool) (w:List Int),run<q.rs.length→GW q t w→GW q (q.ZvZ h n run t w).1 (q.ZvZ h n run t w).2.1∧unt (q.ZvZ h n run t w).1≤unt t
 |0,run,t,w,_,hw=>⟨hw,ZxR _⟩
 |n+1,run,t,w,hr,hw=>Zhv (n:=n) (fun run t w hr hw=>ZeZ hq h n run t w hr hw) hr _ (fun m hm=>by have:=Zhs hq m hm;have:=hq.m;omega) t w hw
attribute [local simp] AS.exp expG Box.ren AV.map AV.Zu9 Zau noRet Site.Zu6 Box.Zu3 AV.Zu3 AV.Zu4 retB dropL AS.Zvd renL outG outOk Zas inG fnOf lookA Zyc
attribute [local simp] ZoR Zn8 ZoQ Zn7 Zlr Zk7
attribute [local simp] Box.Zu0 Site.Zu1
end
section
attribute [local simp] AS.exp expG Box.ren AV.map AV.Zu9 Zau noRet Site.Zu6 Box.Zu3 AV.Zu3 AV.Zu4 dropL AS.Zvd renL outG outOk Zas inG fnOf lookA Zyc
attribute [local simp] ZoR Zn8 ZoQ Zn7 Zlr Zk7
attribute [local simp] Box.Zu0 Site.Zu1
def no4:List Bool:=[false,false,false,false]
def Qu.atK (q:Qu)(h:Int)(runs:List Int):Nat→Nat×List Int
 |0=>(0,idle4)
 |k+1=>((q.atK h runs k).1+(if(q.ZvZ h 5 ((runs[k]?).getD 0).toNat no4 (q.atK h runs k).2).2.2=true then 1 else 0),(q.ZvZ h 5 ((runs[k]?).getD 0).toNat no4 (q.atK h runs k).2).2.1)
def Qu.atM (q:Qu)(h:Int)(runs:List Int):Nat:=(q.atK h runs runs.length).1
theorem GW.idle {q:Qu}:GW q no4 idle4:=⟨rfl,rfl,fun x hx=>by simp[idle4]at hx;exact .inl hx⟩
theorem GW.fresh {q:Qu}{t:List Bool}{w:List Int}(h:GW q t w):GW q no4 w:=⟨rfl,h.w4,h.ok⟩
theorem Qu.Zw3 {q:Qu}(hq:q.ok){h:Int}{runs:List Int}(hin:∀x∈runs,0≤x∧x<q.rs.length):∀k,k≤runs.length→GW q no4 (q.atK h runs k).2∧(q.atK h runs k).1≤k
 |0,_=>⟨GW.idle,ZxR _⟩
 |k+1,hk=>by
  obtain⟨h1,h2⟩:=Qu.Zw3 hq (h:=h) hin k (by omega);have hx:runs[k]?=some runs[k]:=ZxL (by omega);have hr:=hin _ (ZxQ hx)
  have:=ZeZ hq h 5 ((runs[k]?).getD 0).toNat no4 (q.atK h runs k).2 (by rw[hx];simp only[Zym];omega) h1
  refine⟨this.1.fresh,?_⟩;show(q.atK h runs k).1+_≤k+1
  split<;>omega
def Qu.Zwo (q:Qu)(runs:List Int):Nat→Nat
 |0=>0
 |h+1=>q.Zwo runs h+q.atM h runs
theorem Qu.ZwK {q:Qu}{l:List Int}(h:q.rising l=true):∀x∈l,0≤x∧x<q.rs.length:=fun x hx=>by
 obtain⟨i,hi⟩:=ZxV.1 hx;have hl:=(ZxN.1 hi).1;simp only[Qu.rising,Zx7,List.mem_range]at h
 have:=h i hl
 simp only[Qu.ZwL,hi,Zym,ZxO,decide_eq_true_eq]at this;omega
end
section
theorem Zue {l:List Int}{v:Int}:onR l v = -1∨∃i:Nat,onR l v=i∧i<l.length∧l[i]?=some v:=by
 unfold onR;cases h:l.findIdx? (fun x=>decide (v=x))with
 |none=>exact .inl rfl
 |some i=>
  obtain⟨hi,h1,_⟩:=Zyy.1 h;refine .inr ⟨i,rfl,hi,?_⟩;rw[ZxL hi];simp only[decide_eq_true_eq]at h1;rw[h1]
end
end Go.Proofs.YtfpmaennjlggeaaGreatDoor.Qn
namespace Go.Proofs.YtfpmaennjlggeaaGreatDoor
open Go.RowKit
section
attribute [local simp] AS.exp expG Box.ren AV.map AV.Zu9 Zau noRet Site.Zu6 Box.Zu3 AV.Zu3 AV.Zu4 retB dropL AS.Zvd renL outG outOk Zas inG fnOf lookA Zyc
attribute [local simp] Box.Zu0 Site.Zu1
section
attribute [local simp] retFz frzL AS.frz AV.frz AV.frzL Box.frz AS.tidy AS.ZvF frzsL retOk renB toLoc
section
variable {D:Wk→ByteArray→Wk×Int}
theorem ZgB {s:ByteArray}:∀{l:List ByteArray} {st:Wk},keepD D st (l++[s])=keepD D st l++if(D (foldD D st l).1 s).2=0 then[s]else[]
 |[],st=>by
  by_cases h:(D st s).2=0
  ·simp[keepD,foldD,h]
  ·simp[keepD,foldD,h]
 |x::l,st=>by
  simp only[List.cons_append,keepD,foldD];rw[ZgB (l:=l)];by_cases h2:(D (foldD D (D st x).1 l).1 s).2=0<;>by_cases h1:(D st x).2=0<;>simp[h1,h2]
theorem ZfK:∀{l:List ByteArray} {st:Wk},(keepD D st l).length≤l.length
 |[],_=>ZxR _
 |x::l,st=>by
  unfold keepD;split
  ·exact Nat.succ_le_succ ZfK
  ·exact Nat.le_succ_of_le ZfK
end
def emp5:List AV:=[.pv (.emp (some true)),.pv (.emp (some true)),.pv (.emp (some true)),.pv (.emp (some true)),.pv (.emp (some true))]
def pdS (L:List ByteArray)(w:Wk)(es:List Int)(kp:List ByteArray)(k:Nat):AS:=
 ⟨[(0,.pv (.lst false 1 (L.map .str))),(2,.ptr (.loc 2 0) 0),(5,.ptr (.loc 5 0) 0),(6,.pv (.lst false 1 (es.map iE))),(8,.vec (.loc 44 0) 1 0 kp.length),(9,.pv (.int .i64 (k:Int)))],
  [(.loc 44 0,.arr 9 1 (kp.map .str)),(.loc 2 0,.cells emp5),(.loc 5 0,.cells w.cells)]⟩
theorem ZkH {F:Nat}(hF:407<F)(L:List ByteArray)(hr:Zbq L=true):Gives Tryz.prog 11 [strsP L] (.tup [(foldD (doB F) wk0 L).1.pv,strsP (keepD (doB F) wk0 L),.bool true]):=by
 obtain⟨hl0,hs0⟩:=Zbt hr;have hck:=Zby hr;have hbi:=Zj3 L (by omega);have hpl:=Zlz hF L (by omega);unfold plyE at hpl;rw[if_pos hck]at hpl;have hfl:=ZcC (D:=doB F) (l:=L) (st:=wk0);have hget:=fun k s (h:L[k]?=some s)=>ZfV (D:=doB F) (st:=wk0) h
 have hkp:=fun k s=>ZgB (D:=doB F) (s:=s) (l:=L.take k) (st:=wk0)
 have hkl:=fun k=>Zx5 (ZfK (D:=doB F) (l:=L.take k) (st:=wk0)) (show(L.take k).length≤50 by rw[ZxT];omega)
 refine cFR [.loc 44 0] L11 ?_;intro R hR;generalize hD:doB F=D at hpl hfl hget hkp hkl hR;obtain⟨K,hK⟩:∃K:Nat→List ByteArray,K=fun k=>keepD D wk0 (L.take k):=⟨_,rfl⟩
 have hK0:K 0=[]:=by rw[hK];rfl
 have hKL:K L.length=keepD D wk0 L:=by rw[hK];show keepD D wk0 (L.take L.length)=_;rw[Zye]
 have hKs:∀k s,L[k]?=some s→∃e,(foldD D wk0 L).2[k]?=some e∧K (k+1)=K k++(if e=0 then[s]else[]):=fun k s hx=>by
  refine⟨_,hget k s hx,?_⟩;rw[hK];show keepD D wk0 (L.take (k+1))=_;rw[Zx6,hx];exact hkp k s
 have hKl:∀k,(K k).length≤50:=fun k=>by rw[hK];exact hkl k
 rw[←hKL]at hR;clear hK hkp hkl hget;generalize foldD D wk0 L=q at hpl hfl hKs hR;obtain⟨w,es⟩:=q;dsimp only at hpl hfl hKs hR;simp[-getElem?_pos,L11];refine .inl (cQ [] [strsP L] hbi ?_);simp[-getElem?_pos];refine .inl (cQ [] [strsP L] hpl ?_);simp[-getElem?_pos,Wk.pv,ctsP,bdsP,lotsP,ttsP,runsP,strsP,hfl];refine Zaf (fun m τ=>∃k:Nat,k≤L.length∧m=L.length-k∧τ=pdS L w es (K k) k) ⟨L.length,pdS L w es (K 0) 0,Sub.trans' (Sub.mk (by simp[pdS,hK0,AS.vecT]) (by simp[pdS,hK0,AS.vecT,emp5,Wk.cells])) (vecT 44 9 1 8 rfl (by decide)),0,Zx0 _,rfl,rfl⟩ ?_;rintro J hJ m τ ⟨k,hk,rfl,rfl⟩;by_cases hlt:k<L.length
 ·obtain⟨s,hx⟩:∃s,L[k]?=some s:=⟨L[k],ZxL hlt⟩;have hg:(L.map PV.str)[k]?=some (.str s):=by rw[ZxM,hx];rfl
  obtain⟨e,he,hks⟩:=hKs k s hx;have hge:(es.map iE)[k]?=some (.int .i64 e):=by rw[ZxM,he];rfl
  have hw:=wrapK (k:=k) (by omega);have hn:=hJ _ _ ⟨k+1,hlt,rfl,rfl⟩;have hmeas:L.length-(k+1)<L.length-k:=by omega
  have hk5:=hKl k;have hlt2:k<es.length:=by omega
  rw[hks]at hn;clear hJ hKs;generalize K k=kp at hn hk5 ⊢;have hk6:kp.length+1≤1000000:=by omega
  by_cases h0:e=0
  ·rw[if_pos h0]at hn;subst h0;simp[-getElem?_pos,-List.getElem?_map,pdS,hlt,hlt2,hg,hge,nblt,nble,hk6,hw,Wk.cells,emp5];exact⟨_,_,hmeas,Sub.mk (by simp[pdS]) (by simp[pdS,Wk.cells,emp5]),hn⟩
  ·rw[if_neg h0,Zx9]at hn;simp[-getElem?_pos,-List.getElem?_map,pdS,hlt,hlt2,hg,hge,nblt,nble,h0,hw,Wk.cells,emp5];exact⟨_,_,hmeas,Sub.mk (by simp[pdS]) (by simp[pdS,Wk.cells,emp5]),hn⟩
 ·have he:k=L.length:=by omega
  subst he;have hm:List.take (K L.length).length ((K L.length).map PV.str)=(K L.length).map PV.str:=ZxW (by simp);simp[-getElem?_pos,-List.map_take,pdS,Wk.cells,emp5,hm];rw[←hR];exact⟨by simp[Wk.pv,ctsP,bdsP,lotsP,ttsP,runsP,strsP],by simp⟩
end
end
end Go.Proofs.YtfpmaennjlggeaaGreatDoor
namespace Go.Proofs.YtfpmaennjlggeaaGreatDoor.Qn
open Go.RowKit
section
theorem ZeR {w:List Int}{m:Nat}{x y:Int}(h:w[m]?=some x):(x::w.set m y).Perm (y::w):=by
 induction w generalizing m with
 |nil=>simp at h
 |cons a r ih=>
  cases m with
  |zero=>
   simp at h;subst h;simp only[List.set_cons_zero];exact List.Perm.swap y a r
  |succ m=>
   have h':r[m]?=some x:=by simpa using h
   simp only[List.set_cons_succ];exact(List.Perm.swap a x _).trans (((ih h').cons a).trans (List.Perm.swap y a r))
structure Said (q:Qu)(h:Int)(run:Nat)(ms:List Nat)(t:List Bool)(w:List Int)(g:GR):Prop where
 up:∀m:Nat,t[m]?=some true→g.1[m]?=some true
 same:∀m:Nat,t[m]?=some true→g.2.1[m]?=w[m]?
 yes:g.2.2=true→(-1::g.2.1).Perm ((run:Int)::w)
 no:g.2.2=false→g.2.1=w∧(∀m∈ms,g.1[m]?=some true)∧∀m:Nat,g.1[m]?=some true→t[m]?=some false→∃r:Nat,w[m]?=some (r:Int)∧∀m'∈q.Zwi r h q.ms.length,g.1[m']?=some true
theorem ZdI {t:List Bool}{m m':Nat}(h:t[m']?=some true):(t.set m true)[m']?=some true:=by
 by_cases e:m'=m
 ·subst e;rw[ZyA (ZxN.1 h).1]
 ·rw[ZyC (fun e'=>e e'.symm)];exact h
theorem Zfq {t:List Bool}{m m':Nat}(h:t[m]?=some false)(h':t[m']?=some true):m≠m':=fun e=>by subst e;rw[h]at h';cases h'
theorem Zet {q:Qu}{h:Int}{rec:Nat→List Bool→List Int→GR}{n:Nat}
  (hok:∀run t w,run<q.rs.length→GW q t w→GW q (rec run t w).1 (rec run t w).2.1∧unt (rec run t w).1≤unt t)
  (hrec:∀r t w,r<q.rs.length→GW q t w→unt t≤n→Said q h r (q.Zwi r h q.ms.length) t w (rec r t w)) {run:Nat} (hr:run<q.rs.length):
  ∀(l:List Nat),(∀m∈l,m<4)→∀(t:List Bool) (w:List Int),GW q t w→unt t≤n+1→Said q h run l t w (loopG rec run l t w)
 |[],_,t,w,_,_=>⟨fun _ h=>h,fun _ _=>rfl,fun h=>(by cases h),fun _=>⟨rfl,fun m hm=>(by cases hm),fun m h1 h2=>by rw[show(loopG rec run [] t w).1=t from rfl,h2]at h1;cases h1⟩⟩
 |m::r,hl,t,w,hw,hu=>by
  obtain⟨b,x,h1,h2,h3⟩:=hw.at (hl m (by simp));have hl':∀m∈r,m<4:=fun m hm=>hl m (by simp[hm])
  unfold loopG;rw[h1,h2];simp only[Zym];cases b with
  |true=>
   rw[if_pos rfl];have S:=Zet hok hrec hr r hl' t w hw hu;exact⟨S.up,S.same,S.yes,fun h0=>⟨(S.no h0).1,fun m' hm'=>by
    rcases Zx2.1 hm' with e|e
    ·subst e;exact S.up _ h1
    ·exact(S.no h0).2.1 m' e,(S.no h0).2.2⟩⟩
  |false=>
   rw[if_neg (by simp)];have hu':=Zmw h1;have hm4:m<t.length:=(ZxN.1 h1).1;have hset:(t.set m true)[m]?=some true:=ZyA hm4;split
   ·rename_i hx;subst hx;exact⟨fun m' h'=>ZdI h',fun m' h'=>by
     show(w.set m run)[m']?=_;rw[ZyC (Zfq h1 h')],fun _=>ZeR h2,fun h0=>by cases h0⟩
   ·rename_i hx;obtain⟨i,rfl⟩:∃i:Nat,x=i:=⟨x.toNat,by rcases h3 with h3|h3;exact absurd h3 hx;omega⟩;have hi:i<q.rs.length:=by rcases h3 with h3|h3;exact absurd h3 hx;omega
    simp only[Int.toNat_natCast];have S:=hrec i (t.set m true) w hi (hw.set m) (by omega);obtain⟨k1,k2⟩:=hok i (t.set m true) w hi (hw.set m);generalize rec i (t.set m true) w=g at *;obtain⟨t',w',b'⟩:=g;simp only at *;split
    ·rename_i hb;subst hb;have hsm:w'[m]?=some (i:Int):=(S.same m hset).trans h2;refine⟨fun m' h'=>S.up m' (ZdI h'),fun m' h'=>?_,fun _=>?_,fun h0=>by cases h0⟩
     ·show(w'.set m run)[m']?=_;rw[ZyC (Zfq h1 h')];exact S.same m' (ZdI h')
     ·have p1:=ZeR (y:=(run:Int)) hsm;have p2:=S.yes rfl;show(-1::w'.set m run).Perm _;refine List.Perm.cons_inv (a:=(i:Int)) ?_;exact(List.Perm.swap _ _ _).trans ((p1.cons (-1)).trans ((List.Perm.swap _ _ _).trans ((p2.cons _).trans (List.Perm.swap _ _ _))))
    ·rename_i hb;have hb':b'=false:=by cases b';rfl;exact absurd rfl hb
     subst hb';obtain⟨n1,n2,n3⟩:=S.no rfl;subst n1;have T:=Zet hok hrec hr r hl' t' w' k1 (by omega);refine⟨fun m' h'=>T.up m' (S.up m' (ZdI h')),fun m' h'=>T.same m' (S.up m' (ZdI h')),T.yes,fun h0=>?_⟩;obtain⟨o1,o2,o3⟩:=T.no h0;refine⟨o1,fun m' hm'=>?_,fun m' h1' h2'=>?_⟩
     ·rcases Zx2.1 hm' with e|e
      ·subst e;exact T.up _ (S.up _ hset)
      ·exact o2 m' e
     ·have hm':m'<t'.length:=by rw[k1.t4,←hw.t4];exact(ZxN.1 h2').1
      cases ht':t'[m']with
      |false=>exact o3 m' h1' (by rw[ZxL hm',ht'])
      |true=>
       have ht2:t'[m']?=some true:=by rw[ZxL hm',ht']
       by_cases e:m'=m
       ·subst e;exact⟨i,h2,fun m2 hm2=>T.up _ (n2 m2 hm2)⟩
       ·obtain⟨r0,e1,e2⟩:=n3 m' ht2 (by rw[ZyC (fun e'=>e e'.symm)];exact h2');exact⟨r0,e1,fun m2 hm2=>T.up _ (e2 m2 hm2)⟩
theorem Zr6 {t:List Bool}(h:unt t=0){m:Nat}(hm:m<t.length):t[m]?=some true:=by
 have:∀b∈t,b≠false:=fun b hb e=>by
  subst e
  have:=List.count_pos_iff.2 hb
  unfold unt at h;omega
 have h2:=this t[m] (Zyh hm);rw[ZxL hm];cases hh:t[m]
 ·rw[hh]at h2;exact absurd rfl h2
 ·rfl
theorem ZgF {q:Qu}(hq:q.ok)(h:Int):∀(n run:Nat) (t:List Bool) (w:List Int),run<q.rs.length→GW q t w→unt t≤n→Said q h run (q.Zwi run h q.ms.length) t w (q.ZvZ h n run t w)
 |0,run,t,w,_,hw,hu=>⟨fun _ h=>h,fun _ _=>rfl,fun h=>(by cases h),fun _=>⟨rfl,fun m hm=>Zr6 (t:=t) (Nat.le_zero.1 hu) (by have:=Zhs hq m hm;have:=hq.m;rw[hw.t4];omega),fun m h1 h2=>by rw[show(q.ZvZ h 0 run t w).1=t from rfl,h2]at h1;cases h1⟩⟩
 |n+1,run,t,w,hr,hw,hu=>Zet (n:=n) (fun run t w hr hw=>ZeZ hq h n run t w hr hw) (fun r t w hr hw hu=>ZgF hq h n r t w hr hw hu) hr _ (fun m hm=>by have:=Zhs hq m hm;have:=hq.m;omega) t w hw hu
theorem Zdf {q:Qu}{i:Nat}{h:Int}{m:Nat}:m∈q.Zwi i h q.ms.length↔m<q.ms.length∧q.may i m h=true:=by
 unfold Qu.Zwi;rw[ZxW (by simp)];simp[ZxX,List.mem_range]
structure Mt (q:Qu)(h:Int)(P:Nat→Prop)(j:Nat)(w:List Int):Prop where
 len:w.length=4
 ok:∀x∈w,x = -1∨0≤x
 on:∀m r:Nat,w[m]?=some (r:Int)→j≤m∧m<q.ms.length∧P r∧q.may r m h=true
 one:∀m m' r:Nat,w[m]?=some (r:Int)→w[m']?=some (r:Int)→m=m'
def OnOk (q:Qu)(h:Int)(w:List Int):Prop:=∀m r:Nat,w[m]?=some (r:Int)→m∈q.Zwi r h q.ms.length
theorem OnOk.set {q:Qu}{h:Int}{w:List Int}(hw:OnOk q h w){m run:Nat}(hm:m∈q.Zwi run h q.ms.length):OnOk q h (w.set m run):=by
 intro m' r e;rw[List.getElem?_set]at e;split at e
 ·rename_i e1;split at e
  ·have h1:(run:Int)=r:=by simpa using e
   have h2:run=r:=by omega
   subst h2;subst e1;exact hm
  ·cases e
 ·exact hw m' r e
theorem Zhu {q:Qu}{h:Int}{rec:Nat→List Bool→List Int→GR}(hrec:∀r t w,OnOk q h w→OnOk q h (rec r t w).2.1){run:Nat}:∀(l:List Nat),(∀m∈l,m∈q.Zwi run h q.ms.length)→∀(t:List Bool) (w:List Int),OnOk q h w→OnOk q h (loopG rec run l t w).2.1
 |[],_,t,w,hw=>hw
 |m::r,hl,t,w,hw=>by
  have hm:=hl m (by simp);have hl':∀m∈r,m∈q.Zwi run h q.ms.length:=fun m hm=>hl m (by simp[hm])
  unfold loopG;split
  ·exact Zhu hrec r hl' t w hw
  ·split
   ·exact hw.set hm
   ·split
    ·exact(hrec _ _ _ hw).set hm
    ·exact Zhu hrec r hl' _ _ (hrec _ _ _ hw)
theorem Zle {q:Qu}{h:Int}:∀(n run:Nat) (t:List Bool) (w:List Int),OnOk q h w→OnOk q h (q.ZvZ h n run t w).2.1
 |0,run,t,w,hw=>hw
 |n+1,run,t,w,hw=>Zhu (fun r t w hw=>Zle n r t w hw) _ (fun m hm=>hm) t w hw
theorem cnt1 {l:List Int}{x:Int}:l.count x≤1↔∀m m':Nat,l[m]?=some x→l[m']?=some x→m=m':=by
 induction l with
 |nil=>simp
 |cons a l ih=>
  rw[List.count_cons];constructor
  ·intro hc m m' e e';have hl:∀k:Nat,l[k]?=some x→1≤l.count x:=fun k hk=>List.count_pos_iff.2 (ZxQ hk)
   cases m with
   |zero=>
    cases m' with
    |zero=>rfl
    |succ m'=>
     have ha:a=x:=by simpa using e
     have h2:=hl m' (by simpa using e');rw[if_pos (by simp[ha])]at hc;omega
   |succ m=>
    cases m' with
    |zero=>
     have ha:a=x:=by simpa using e'
     have h2:=hl m (by simpa using e);rw[if_pos (by simp[ha])]at hc;omega
    |succ m'=>
     have:=ih.1 (by omega) m m' (by simpa using e) (by simpa using e')
     omega
  ·intro hi;have h1:=ih.2 fun m m' e e'=>by have:=hi (m+1) (m'+1) (by simpa using e) (by simpa using e');omega
   by_cases ha:a=x
   ·have:l.count x=0:=by
     rcases Nat.eq_zero_or_pos (l.count x)with h0|h0
     ·exact h0
     ·obtain⟨k,hk⟩:=ZxV.1 (List.count_pos_iff.1 h0)
      have:=hi 0 (k+1) (by simpa using ha) (by simpa using hk)
      omega
    rw[this];split<;>omega
   ·rw[if_neg (by simpa using ha)];omega
theorem ZqI {A B:List Int}(hl:A.length=B.length)(h:∀m:Nat,A[m]?=some (-1)→B[m]?=some (-1)):A.count (-1)≤B.count (-1):=by
 induction A generalizing B with
 |nil=>simp
 |cons a A ih=>
  cases B with
  |nil=>simp at hl
  |cons b B=>
   have h1:=ih (B:=B) (by simpa using hl) fun m e=>by have:=h (m+1) (by simpa using e);simpa using this
   rw[List.count_cons,List.count_cons];by_cases ha:a = -1
   ·have hb:b = -1:=by have:=h 0 (by simpa using ha);simpa using this
    rw[if_pos (by simp[ha]),if_pos (by simp[hb])];omega
   ·rw[if_neg (by simpa using ha)];omega
theorem Mt.mono {q:Qu}{h:Int}{P P':Nat→Prop}{j:Nat}{w:List Int}(hw:Mt q h P j w)(hP:∀r,P r→P' r):Mt q h P' j w:=
 ⟨hw.len,hw.ok,fun m r e=>⟨(hw.on m r e).1,(hw.on m r e).2.1,hP _ (hw.on m r e).2.2.1,(hw.on m r e).2.2.2⟩,hw.one⟩
theorem Mt.cut {q:Qu}{h:Int}{P:Nat→Prop}{j:Nat}{w:List Int}(hw:Mt q h P j w){m run:Nat}(hm:w[m]?=some (run:Int)):Mt q h (fun r=>P r∧r≠run) j (w.set m (-1)):=by
 have key:∀m' r:Nat,(w.set m (-1))[m']?=some (r:Int)→w[m']?=some (r:Int)∧m'≠m:=fun m' r e=>by
  rw[List.getElem?_set]at e;split at e
  ·split at e
   ·have:=Option.some.inj e;omega
   ·cases e
  ·rename_i hne;exact⟨e,fun e'=>hne e'.symm⟩
 refine⟨by simpa using hw.len,fun x hx=>?_,fun m' r e=>?_,fun m1 m2 r e1 e2=>hw.one m1 m2 r (key m1 r e1).1 (key m2 r e2).1⟩
 ·rcases List.mem_or_eq_of_mem_set hx with hx|hx
  ·exact hw.ok x hx
  ·exact .inl hx
 ·obtain⟨e1,e2⟩:=key m' r e;obtain⟨o1,o2,o3,o4⟩:=hw.on m' r e1;exact⟨o1,o2,⟨o3,fun e'=>by subst e';exact e2 (hw.one _ _ _ e1 hm)⟩,o4⟩
theorem Mt.put {q:Qu}{h:Int}{P P':Nat→Prop}{i j:Nat}{w:List Int}(hw:Mt q h P i w){x:Nat}(hij:i≤j)(hj:j<q.ms.length)(hx:q.may x j h=true)(hP:P' x)(hPP:∀r,P r→P' r∧r≠x):Mt q h P' i (w.set j x):=by
 have key:∀m' r:Nat,(w.set j x)[m']?=some (r:Int)→(m'=j∧r=x)∨(m'≠j∧w[m']?=some (r:Int)):=fun m' r e=>by
  rw[List.getElem?_set]at e;split at e
  ·rename_i e1;split at e
   ·have:=Option.some.inj e;exact .inl ⟨e1.symm,by omega⟩
   ·cases e
  ·rename_i hne;exact .inr ⟨fun e'=>hne e'.symm,e⟩
 refine⟨by simpa using hw.len,fun y hy=>?_,fun m' r e=>?_,fun m1 m2 r e1 e2=>?_⟩
 ·rcases List.mem_or_eq_of_mem_set hy with hy|hy
  ·exact hw.ok y hy
  ·right;omega
 ·rcases key m' r e with⟨rfl,rfl⟩|⟨_,e⟩
  ·exact⟨hij,hj,hP,hx⟩
  ·obtain⟨o1,o2,o3,o4⟩:=hw.on m' r e;exact⟨o1,o2,(hPP r o3).1,o4⟩
 ·rcases key m1 r e1 with⟨a1,b1⟩|⟨a1,b1⟩<;>rcases key m2 r e2 with⟨a2,b2⟩|⟨a2,b2⟩
  ·omega
  ·exact absurd b1 (hPP r (hw.on _ _ b2).2.2.1).2
  ·exact absurd b2 (hPP r (hw.on _ _ b1).2.2.1).2
  ·exact hw.one _ _ _ b1 b2
theorem Mt.idle {q:Qu}{h:Int}{P:Nat→Prop}{j:Nat}:Mt q h P j idle4:=by
 have key:∀x∈idle4,x = -1:=fun x hx=>by simpa[idle4]using hx
 refine⟨rfl,fun x hx=>.inl (key x hx),fun m r e=>?_,fun m m' r e=>?_⟩
 all_goals
  have:=key _ (ZxQ e)
  omega
theorem Mt.none {q:Qu}{h:Int}{P:Nat→Prop}{j:Nat}{w:List Int}(hw:Mt q h P j w)(hP:∀m r:Nat,P r→j≤m→m<q.ms.length→False):w.count (-1)=4:=by
 rw[←hw.len,List.count_eq_length];intro x hx;rcases hw.ok x hx with h1|h1
 ·exact h1.symm
 ·obtain⟨m,hm⟩:=ZxV.1 hx;obtain⟨r,rfl⟩:∃r:Nat,x=r:=⟨x.toNat,by omega⟩
  have:=hw.on m r hm
  exact(hP m r this.2.2.1 this.1 this.2.1).elim
theorem Ztz {w:List Int}{m run:Nat}(h:w[m]?=some (run:Int)):(w.set m (-1)).count (-1)=w.count (-1)+1:=by
 have p:=(ZeR (y:=-1) h).count_eq (-1);rw[List.count_cons,List.count_cons]at p;simp only[beq_iff_eq,if_neg (by omega:¬(run:Int) = -1),if_true]at p;omega
def Pk (runs:List Int)(k r:Nat):Prop:=∃i:Nat,i<k∧runs[i]?=some (r:Int)
theorem Pk.next {runs:List Int}{k r:Nat}(h:Pk runs k r):Pk runs (k+1) r:=by
 obtain⟨i,h1,h2⟩:=h;exact⟨i,by omega,h2⟩
theorem Pk.split {runs:List Int}{k r run:Nat}(hx:runs[k]?=some (run:Int))(h:Pk runs (k+1) r)(hne:r≠run):Pk runs k r:=by
 obtain⟨i,h1,h2⟩:=h;refine⟨i,?_,h2⟩
 have:i≠k:=fun e=>by subst e;rw[hx]at h2;have:=Option.some.inj h2;omega
 omega
def mixW (T:List Bool)(w M:List Int):List Int:=(List.range 4).map fun m=>if T[m]?=some true then(w[m]?).getD (-1)else(M[m]?).getD (-1)
theorem ZdQ {T:List Bool}{w M:List Int}(hw:w.length=4)(hM:M.length=4){m:Nat}{x:Int}(h:(mixW T w M)[m]?=some x):(T[m]?=some true∧w[m]?=some x)∨(T[m]?≠some true∧M[m]?=some x):=by
 have hm:m<4:=by have:=(ZxN.1 h).1;simpa[mixW]using this
 have h2:(if T[m]?=some true then(w[m]?).getD (-1)else(M[m]?).getD (-1))=x:=by
  simpa[mixW,ZxM,List.getElem?_range hm]using h
 split at h2
 ·rename_i ht;refine .inl ⟨ht,?_⟩;rw[ZxL (by omega)]at h2 ⊢;simpa using h2
 ·rename_i ht;refine .inr ⟨ht,?_⟩;rw[ZxL (by omega)]at h2 ⊢;simpa using h2
theorem ZhQ {q:Qu}(hq:q.ok){h:Int}{runs:List Int}(hin:∀x∈runs,0≤x∧x<q.rs.length)(hnd:∀i j r:Nat,runs[i]?=some (r:Int)→runs[j]?=some (r:Int)→i=j):∀k,k≤runs.length→
  Mt q h (Pk runs k) 0 (q.atK h runs k).2∧(q.atK h runs k).1+(q.atK h runs k).2.count (-1)=4∧∀M,Mt q h (Pk runs k) 0 M→(q.atK h runs k).2.count (-1)≤M.count (-1)
 |0,_=>⟨Mt.idle,(show 0+idle4.count (-1)=4 by decide),fun M hM=>by
   rw[hM.none (fun m r hP _ _=>by obtain⟨i,hi,_⟩:=hP;omega)];exact(show idle4.count (-1)≤4 by decide)⟩
 |k+1,hk=>by
  obtain⟨A,B,C⟩:=ZhQ hq (h:=h) hin hnd k (by omega);have G:=(Qu.Zw3 hq (h:=h) hin k (by omega)).1;have hx:runs[k]?=some runs[k]:=ZxL (by omega);have hr:=hin _ (ZxQ hx);obtain⟨run,hrun⟩:∃run:Nat,runs[k]=run:=⟨runs[k].toNat,by omega⟩;rw[hrun]at hx hr;have hstep:q.atK h runs (k+1)=((q.atK h runs k).1+(if(q.ZvZ h 5 run no4 (q.atK h runs k).2).2.2=true then 1 else 0),(q.ZvZ h 5 run no4 (q.atK h runs k).2).2.1):=by simp[Qu.atK,hx]
  have S:=ZgF hq h 5 run no4 (q.atK h runs k).2 (by omega) G (by decide);have O:=(ZeZ hq h 5 run no4 (q.atK h runs k).2 (by omega) G).1;have On:=Zle (q:=q) (h:=h) 5 run no4 (q.atK h runs k).2 fun m r e=>Zdf.2 ⟨(A.on m r e).2.1,(A.on m r e).2.2.2⟩
  rw[hstep];generalize q.atK h runs k=a at *;obtain⟨n,w⟩:=a;generalize q.ZvZ h 5 run no4 (n,w).2=g at *;obtain⟨T,w',b⟩:=g;simp only at *;have hout:∀m:Nat,w[m]?=some (run:Int)→False:=fun m e=>by
   obtain⟨i,h1,h2⟩:=(A.on m run e).2.2.1
   have:=hnd _ _ _ h2 hx
   omega
  cases b with
  |true=>
   have p:=S.yes rfl;have hc:w'.count (-1)+1=w.count (-1):=by
    have:=p.count_eq (-1)
    rw[List.count_cons,List.count_cons]at this;simp only[beq_iff_eq,if_neg (by omega:¬(run:Int) = -1),if_true]at this;omega
   refine⟨⟨O.w4,fun x hx'=>by rcases O.ok x hx' with h1|h1;exact .inl h1;exact .inr h1.1,fun m r e=>?_,fun m m' r e e'=>?_⟩,?_,fun M hM=>?_⟩
   ·obtain⟨o1,o2⟩:=Zdf.1 (On m r e);refine⟨Zx0 _,o1,?_,o2⟩;have hmem:(r:Int)∈(run:Int)::w:=p.mem_iff.1 (List.mem_cons_of_mem _ (ZxQ e));rcases Zx2.1 hmem with e1|e1
    ·have:r=run:=by omega
     subst this;exact⟨k,by omega,hx⟩
    ·obtain⟨m2,hm2⟩:=ZxV.1 e1;exact(A.on m2 r hm2).2.2.1.next
   ·refine cnt1.1 ?_ m m' e e';have hp:=p.count_eq (r:Int);rw[List.count_cons,List.count_cons]at hp;simp only[beq_iff_eq,if_neg (by omega:¬(-1:Int)=(r:Int))]at hp;by_cases hrr:r=run
    ·subst hrr
     have:w.count (r:Int)=0:=List.count_eq_zero.2 fun hmem=>by
      obtain⟨m2,hm2⟩:=ZxV.1 hmem;exact hout m2 hm2
     rw[if_pos rfl]at hp;omega
    ·have:=cnt1.2 (fun m m' e e'=>A.one m m' r e e')
     rw[if_neg (by omega)]at hp;omega
   ·rw[if_pos rfl];omega
   ·by_cases hM1:∃m:Nat,M[m]?=some (run:Int)
    ·obtain⟨m,hm⟩:=hM1;have h1:=C _ ((hM.cut hm).mono fun r hr'=>Pk.split hx hr'.1 hr'.2);rw[Ztz hm]at h1;omega
    ·have h1:=C M ⟨hM.len,hM.ok,fun m r e=>⟨(hM.on m r e).1,(hM.on m r e).2.1,Pk.split hx (hM.on m r e).2.2.1 (fun e'=>hM1 ⟨m,by rw[←e'];exact e⟩),(hM.on m r e).2.2.2⟩,hM.one⟩;omega
  |false=>
   obtain⟨n1,n2,n3⟩:=S.no rfl;subst n1;refine⟨A.mono fun r hr'=>hr'.next,by rw[if_neg (by simp)];exact B,fun M hM=>?_⟩;have hT:∀m:Nat,T[m]?=some true→∃r:Nat,w'[m]?=some (r:Int)∧∀m'∈q.Zwi r h q.ms.length,T[m']?=some true:=fun m hm=>by
    have hm4:m<4:=by rw[←O.t4];exact(ZxN.1 hm).1
    exact n3 m hm (by
     have:∀m:Nat,m<4→no4[m]?=some false:=by decide
     exact this m hm4)
   have hmix:Mt q h (Pk runs k) 0 (mixW T w' M):=by
    refine⟨by simp[mixW],fun x hx'=>?_,fun m r e=>?_,fun m m' r e e'=>?_⟩
    ·obtain⟨m,hm⟩:=ZxV.1 hx';rcases ZdQ A.len hM.len hm with⟨_,h1⟩|⟨_,h1⟩
     ·exact A.ok _ (ZxQ h1)
     ·exact hM.ok _ (ZxQ h1)
    ·rcases ZdQ A.len hM.len e with⟨_,h1⟩|⟨ht,h1⟩
     ·exact A.on m r h1
     ·obtain⟨o1,o2,o3,o4⟩:=hM.on m r h1;exact⟨o1,o2,Pk.split hx o3 (fun e'=>by subst e';exact ht (n2 m (Zdf.2 ⟨o2,o4⟩))),o4⟩
    ·have hno:∀m m':Nat,T[m]?=some true→w'[m]?=some (r:Int)→T[m']?≠some true→M[m']?=some (r:Int)→False:=fun m m' t1 h1 t2 h2=>by
      obtain⟨r0,e1,e2⟩:=hT m t1;rw[h1]at e1
      have:r=r0:=by have:=Option.some.inj e1;omega
      subst this;exact t2 (e2 m' (Zdf.2 ⟨(hM.on m' r h2).2.1,(hM.on m' r h2).2.2.2⟩))
     rcases ZdQ A.len hM.len e with⟨t1,h1⟩|⟨t1,h1⟩<;>rcases ZdQ A.len hM.len e' with⟨t2,h2⟩|⟨t2,h2⟩
     ·exact A.one _ _ _ h1 h2
     ·exact(hno _ _ t1 h1 t2 h2).elim
     ·exact(hno _ _ t2 h2 t1 h1).elim
     ·exact hM.one _ _ _ h1 h2
   refine Zx5 (C _ hmix) (ZqI (by rw[hM.len];simp[mixW]) fun m e=>?_);rcases ZdQ A.len hM.len e with⟨t1,h1⟩|⟨t1,h1⟩
   ·obtain⟨r,e1,_⟩:=hT m t1;rw[h1]at e1
    have:=Option.some.inj e1;omega
   ·exact h1
theorem Pk.all {runs:List Int}{r:Nat}:Pk runs runs.length r↔(r:Int)∈runs:=
 ⟨fun⟨i,_,h⟩=>ZxQ h,fun h=>by
  obtain⟨i,hi⟩:=ZxV.1 h;exact⟨i,(ZxN.1 hi).1,hi⟩⟩
structure Runs (q:Qu)(l:List Int):Prop where
 inn:∀x∈l,0≤x∧x<q.rs.length
 one:∀i j r:Nat,l[i]?=some (r:Int)→l[j]?=some (r:Int)→i=j
theorem ZuT {q:Qu}(hq:q.ok){h:Int}{l:List Int}(hl:Runs q l){M:List Int}(hM:Mt q h (fun r=>(r:Int)∈l) 0 M):4≤q.atM h l+M.count (-1):=by
 obtain⟨_,B,C⟩:=ZhQ hq (h:=h) hl.inn hl.one l.length (ZxR _)
 have:=C M (hM.mono fun r hr=>Pk.all.2 hr)
 unfold Qu.atM;omega
theorem ZuS {q:Qu}(hq:q.ok){h:Int}{l:List Int}(hl:Runs q l):∃M,Mt q h (fun r=>(r:Int)∈l) 0 M∧q.atM h l+M.count (-1)=4:=by
 obtain⟨A,B,_⟩:=ZhQ hq (h:=h) hl.inn hl.one l.length (ZxR _);exact⟨_,A.mono fun r hr=>Pk.all.1 hr,B⟩
theorem Runs.ZvP {q:Qu}{l:List Int}(h:q.rising l=true):Runs q l:=by
 refine⟨Qu.ZwK h,?_⟩;have hs:∀i:Nat,i+1<l.length→∀x y:Int,l[i]?=some x→l[i+1]?=some y→x<y:=fun i hi x y hx hy=>by
  simp only[Qu.rising,Zx7,List.mem_range]at h
  have:=h (i+1) hi
  simp only[Qu.ZwL,hx,hy,Zym,ZxO,Zyk,decide_eq_true_eq,Nat.add_sub_cancel]at this;omega
 have hm:∀d i:Nat,∀x y:Int,l[i]?=some x→l[i+d+1]?=some y→x<y:=by
  intro d;induction d with
  |zero=>exact fun i x y hx hy=>hs i (ZxN.1 hy).1 x y hx hy
  |succ d ih=>
    intro i x y hx hy;have hl:=(ZxN.1 hy).1;have hz:l[i+d+1]?=some l[i+d+1]:=ZxL (by omega);have h1:=ih i x _ hx hz;have h2:=hs (i+d+1) (by omega) _ y hz (by rw[←hy];congr 1);omega
 intro i j r hi hj;rcases Nat.lt_trichotomy i j with h1|h1|h1
 ·obtain⟨d,rfl⟩:∃d,j=i+d+1:=⟨j-i-1,by omega⟩
  have:=hm d i _ _ hi hj
  omega
 ·exact h1
 ·obtain⟨d,rfl⟩:∃d,i=j+d+1:=⟨i-j-1,by omega⟩
  have:=hm d j _ _ hj hi
  omega
def selL (f:Nat→Bool)(k:Nat):List Int:=((List.range k).filter f).map Int.ofNat
theorem ZkQ {f:Nat→Bool}{k:Nat}{x:Int}:x∈selL f k↔∃r:Nat,x=r∧r<k∧f r=true:=by
 unfold selL;rw[ZxY];constructor
 ·rintro⟨r,h,rfl⟩;rw[ZxX,List.mem_range]at h;exact⟨r,rfl,h.1,h.2⟩
 ·rintro⟨r,rfl,h1,h2⟩;exact⟨r,by rw[ZxX,List.mem_range];exact⟨h1,h2⟩,rfl⟩
theorem Zfh {q:Qu}{f:Nat→Bool}:q.rising (selL f q.rs.length)=true:=by
 have hp:(selL f q.rs.length).Pairwise (·<·):=by
  unfold selL;rw[List.pairwise_map];exact(List.pairwise_lt_range.filter _).imp fun h=>by simpa using h
 unfold Qu.rising;rw[Zx7];intro i hi;rw[List.mem_range]at hi;have hx:(selL f q.rs.length)[i]?=some (selL f q.rs.length)[i]:=ZxL hi;obtain⟨r,e,hr,_⟩:=ZkQ.1 (Zyh hi);unfold Qu.ZwL;rw[hx,Zym];simp only[ZxO,Zyk,decide_eq_true_eq];refine⟨⟨by omega,by omega⟩,?_⟩;by_cases h0:i=0
 ·exact .inl h0
 ·right;have hy:(selL f q.rs.length)[i-1]?=some ((selL f q.rs.length)[i-1]'(by omega)):=ZxL (by omega);rw[hy,Zym];exact ZyE.1 hp (i-1) i (by omega) hi (by omega)
abbrev Row (q:Qu)(h:Nat)(l:List Int):Prop:=Mt q h (fun r=>r<q.rs.length) 0 l
structure LP (q:Qu)(p:List (List Int)):Prop where
 rows:∀(h:Nat) (l:List Int),p[h]?=some l→Row q h l
 len:p.length≤40
theorem LP.pw {q:Qu}{p:List (List Int)}(hp:LP q p):PW q p:=by
 refine⟨fun l hl=>?_,fun l hl x hx=>?_,hp.len⟩
 ·obtain⟨h,hh⟩:=ZxV.1 hl;exact(hp.rows h l hh).len
 ·obtain⟨h,hh⟩:=ZxV.1 hl;have R:=hp.rows h l hh;rcases R.ok x hx with h1|h1
  ·exact .inl h1
  ·obtain⟨m,hm⟩:=ZxV.1 hx;obtain⟨r,rfl⟩:∃r:Nat,x=r:=⟨x.toNat,by omega⟩
   have:r<q.rs.length:=(R.on m r hm).2.2.1
   right;omega
theorem Ze9 {p:List (List Int)}{h m r:Nat}(hw:who p h m=(r:Int)):∃l,p[h]?=some l∧l[m]?=some (r:Int):=by
 unfold who at hw;cases h1:p[h]? with
 |none=>rw[h1]at hw;simp at hw
 |some l=>
  rw[h1]at hw;simp only[Zym]at hw;refine⟨l,rfl,?_⟩;cases h2:l[m]? with
  |none=>rw[h2]at hw;simp at hw
  |some x=>rw[h2]at hw;simp at hw;rw[hw]
theorem Zkf {p:List (List Int)}{h m:Nat}{l:List Int}{x:Int}(hl:p[h]?=some l)(hm:l[m]?=some x):who p h m=x:=by
 unfold who;rw[hl,Zym,hm];rfl
theorem Zjc {p:List (List Int)}{h m:Nat}{l:List Int}{x:Int}(hl:p[h]?=some l)(hm:m<l.length)(h' m':Nat):who (setP p h m x) h' m'=if h'=h∧m'=m then x else who p h' m':=by
 have hh:=(ZxN.1 hl).1;unfold who setP;rw[hl,Zym];by_cases e:h'=h
 ·subst e;rw[ZyA hh,Zym,hl,Zym];by_cases e2:m'=m
  ·subst e2;rw[ZyA hm,if_pos ⟨rfl,rfl⟩];rfl
  ·rw[ZyC (fun e'=>e2 e'.symm),if_neg (fun h=>e2 h.2)]
 ·rw[ZyC (fun e'=>e e'.symm),if_neg (fun h=>e h.1)]
theorem ZrC {p:List (List Int)}{r h:Nat}(ho:onI p r h = -1)(m:Nat):who p h m≠(r:Int):=fun hw=>by
 obtain⟨l,h1,h2⟩:=Ze9 hw;unfold onI onR at ho;rw[h1,Zym]at ho;cases hf:l.findIdx? (fun x=>decide ((r:Int)=x))with
 |none=>
  rw[Zyz]at hf
  have:=hf _ (ZxQ h2)
  simp at this
 |some i=>rw[hf]at ho;simp only at ho;omega
theorem nx_ru {q:Qu}{p:List (List Int)}{r:Nat}{x:Nd}:x∈nx q p (.ru r)↔∃h,h<p.length∧onI p r h = -1∧x=.rh r h:=by
 simp only[nx,ZeI,Zb4,ZxY,ZxX,decide_eq_true_eq];rw[ZxW (by simp)];constructor
 ·rintro⟨h,⟨h1,h2⟩,h3⟩;exact⟨h,by simpa using h1,h2,h3.symm⟩
 ·rintro⟨h,h1,h2,h3⟩;exact⟨h,⟨by simpa using h1,h2⟩,h3.symm⟩
theorem nx_rh {q:Qu}{p:List (List Int)}{r h:Nat}{x:Nd}:x∈nx q p (.rh r h)↔(∃m,m<q.ms.length∧q.may r m h=true∧who p h m≠(r:Int)∧x=.mh m h)∨(onI p r h≠-1∧x=.ru r):=by
 simp only[nx,ZdJ,seekK,Zyp,ZxY,ZxX];constructor
 ·rintro(⟨m,⟨h1,h2⟩,h3⟩|h1)
  ·obtain⟨a,b⟩:=Zdf.1 h1;exact .inl ⟨m,a,b,by simpa using h2,h3.symm⟩
  ·split at h1
   ·cases h1
   ·rename_i ho;exact .inr ⟨ho,by simpa using h1⟩
 ·rintro(⟨m,h1,h2,h3,h4⟩|⟨h1,h2⟩)
  ·exact .inl ⟨m,⟨Zdf.2 ⟨h1,h2⟩,by simpa using h3⟩,h4.symm⟩
  ·right;rw[if_neg h1];simpa using h2
theorem nx_mh {q:Qu}{p:List (List Int)}{m h:Nat}{x:Nd}:x∈nx q p (.mh m h)↔x=.rh (who p h m).toNat h:=by simp[nx]
abbrev keys (by':By):List Nd:=by'.map (·.1)
theorem ZpH {by':By}{n:Nd}(h:(par by' n).isSome=true):n∈keys by':=by
 unfold par at h;rw[Option.isSome_map,List.find?_isSome]at h;obtain⟨e,he,h2⟩:=h;simp only[decide_eq_true_eq]at h2;exact ZxY.2 ⟨e,he,h2.symm⟩
structure Grow (s s':By×List Nd):Prop where
 k:∀x∈keys s.1,x∈keys s'.1
 t:∀x∈s.2,x∈s'.2
 n:∀x∈keys s'.1,x∈keys s.1∨x∈s'.2
 i:∀(i:Nat) (e:Nd×Nd),s.1[i]?=some e→s'.1[i]?=some e
theorem Grow.refl (s:By×List Nd):Grow s s:=⟨fun _ h=>h,fun _ h=>h,fun _ h=>.inl h,fun _ _ h=>h⟩
theorem Grow.trans {s s' s'':By×List Nd}(h:Grow s s')(h':Grow s' s''):Grow s s'':=
 ⟨fun x hx=>h'.k x (h.k x hx),fun x hx=>h'.t x (h.t x hx),fun x hx=>by
  rcases h'.n x hx with h1|h1
  ·rcases h.n x h1 with h2|h2
   ·exact .inl h2
   ·exact .inr (h'.t x h2)
  ·exact .inr h1,fun i e hi=>h'.i i e (h.i i e hi)⟩
def Came (q:Qu)(p:List (List Int))(run:Nat)(by':By):Prop:=∀(i:Nat) (e:Nd×Nd),by'[i]?=some e→(i=0∧e=(.ru run,.ru run))∨∃(j:Nat) (b:Nd),j<i∧by'[j]?=some (e.2,b)∧e.1∈nx q p e.2∧ZaS p e.2=false
theorem Zob {q:Qu}{p:List (List Int)}{run:Nat}{n x:Nd}{s:By×List Nd}(hc:Came q p run s.1)(hn:∃(i:Nat) (b:Nd),s.1[i]?=some (n,b))(hx:x∈nx q p n)(hf:ZaS p n=false):Grow s (push1 n s x)∧Came q p run (push1 n s x).1∧x∈keys (push1 n s x).1:=by
 unfold push1;split
 ·rename_i h1;exact⟨Grow.refl s,hc,ZpH h1⟩
 ·have old:∀(j:Nat) (e:Nd×Nd),s.1[j]?=some e→(s.1++[(x,n)])[j]?=some e:=fun j e hj=>by
   rw[List.getElem?_append_left (ZxN.1 hj).1];exact hj
  refine⟨⟨fun y hy=>?_,fun y hy=>by simp[hy],fun y hy=>?_,old⟩,fun i e hi=>?_,by simp[keys]⟩
  ·simp only[keys,Zyb,Zyp];exact .inl hy
  ·simp only[keys,Zyb,Zyp]at hy;rcases hy with hy|hy
   ·exact .inl hy
   ·simp at hy;subst hy;simp
  ·rw[Zyl]at hi;split at hi
   ·rcases hc i e hi with h1|⟨j,b,h1,h2,h3⟩
    ·exact .inl h1
    ·exact .inr ⟨j,b,h1,old j _ h2,h3⟩
   ·rename_i hl;have h0:i-s.1.length=0:=by
     have:=(ZxN.1 hi).1
     simp at this;omega
    rw[h0]at hi;simp at hi;subst hi;obtain⟨j,b,hj⟩:=hn;exact .inr ⟨j,b,by have:=(ZxN.1 hj).1;omega,old j _ hj,hx,hf⟩
theorem ZfT {q:Qu}{p:List (List Int)}{run:Nat}{n:Nd}(hf:ZaS p n=false):∀(l:List Nd) {s:By×List Nd},Came q p run s.1→(∃(i:Nat) (b:Nd),s.1[i]?=some (n,b))→(∀x∈l,x∈nx q p n)→Grow s (l.foldl (push1 n) s)∧Came q p run (l.foldl (push1 n) s).1∧∀x∈l,x∈keys (l.foldl (push1 n) s).1
 |[],s,hc,_,_=>⟨Grow.refl s,hc,fun x hx=>by cases hx⟩
 |x::l,s,hc,hn,hl=>by
  obtain⟨g1,c1,k1⟩:=Zob hc hn (hl x (by simp)) hf;obtain⟨i,b,hi⟩:=hn;obtain⟨g2,c2,k2⟩:=ZfT hf l (s:=push1 n s x) c1 ⟨i,b,g1.i i _ hi⟩ (fun y hy=>hl y (by simp[hy]));rw[List.foldl_cons];exact⟨g1.trans g2,c2,fun y hy=>by
   rcases Zx2.1 hy with e|e
   ·subst e;exact g2.k _ k1
   ·exact k2 y e⟩
structure BX (q:Qu)(p:List (List Int))(run:Nat)(s:By×List Nd):Prop where
 b:BW q p s
 c:Came q p run s.1
 r:.ru run∈keys s.1
 cl:∀n∈keys s.1,n∈s.2∨(ZaS p n=false∧∀x∈nx q p n,x∈keys s.1)
theorem BX.start {q:Qu}{p:List (List Int)}{run:Nat}(hr:run<q.rs.length):BX q p run ([(.ru run,.ru run)],[.ru run]):=
 ⟨BW.start hr,fun i e hi=>by
  cases i with
  |zero=>simp at hi;subst hi;exact .inl ⟨rfl,rfl⟩
  |succ i=>simp at hi,by simp[keys],fun n hn=>by simp[keys]at hn;subst hn;left;simp⟩
theorem BX.step {q:Qu}(hq:q.ok){p:List (List Int)}(hp:PW q p){run:Nat}{by':By}{n:Nd}{rest:List Nd}(h:BX q p run (by',n::rest))(hf:ZaS p n=false):
  BX q p run ((nx q p n).foldl (push1 n) (by',rest))∧((nx q p n).foldl (push1 n) (by',rest)).2.length+by'.length=rest.length+((nx q p n).foldl (push1 n) (by',rest)).1.length:=by
 obtain⟨i0,b0,hi0⟩:=h.b.t n (by simp);have okn:=(h.b.b.ok _ (ZxQ hi0)).1;obtain⟨w1,_,w3,_⟩:=BW.ZwA (nx q p n) h.b.tail ⟨i0,b0,hi0⟩ (nx_ok hq hp okn hf);obtain⟨g,c,k⟩:=ZfT (run:=run) hf (nx q p n) (s:=(by',rest)) h.c ⟨i0,b0,hi0⟩ (fun x hx=>hx);refine⟨⟨w1,c,g.k _ h.r,fun x hx=>?_⟩,w3⟩;rcases g.n x hx with h1|h1
 ·rcases h.cl x h1 with h2|⟨h2,h3⟩
  ·rcases Zx2.1 h2 with e|e
   ·subst e;exact .inr ⟨hf,k⟩
   ·exact .inl (g.t x e)
  ·exact .inr ⟨h2,fun y hy=>g.k y (h3 y hy)⟩
 ·exact .inl h1
theorem ZhM {q:Qu}(hq:q.ok){p:List (List Int)}(hp:PW q p){run:Nat}:∀(f:Nat) (by':By) (todo:List Nd),BX q p run (by',todo)→todo.length+407<f+by'.length→
  (∃(by2:By) (todo2:List Nd) (n:Nd) (i:Nat) (b:Nd),BX q p run (by2,todo2)∧by2[i]?=some (n,b)∧ZaS p n=true∧bfs q p f by' todo=some (chg by2 by2.length n p))∨(bfs q p f by' todo=none∧∃by2:By,BX q p run (by2,[]))
 |0,by',todo,hB,hF=>by
  have:=hB.b.len hq hp
  simp only at this;omega
 |f+1,by',[],hB,hF=>.inr ⟨rfl,by',hB⟩
 |f+1,by',n::rest,hB,hF=>by
  obtain⟨i0,b0,hi0⟩:=hB.b.t n (by simp);rw[bfs];by_cases hf:ZaS p n=true
  ·rw[if_pos hf];exact .inl ⟨by',n::rest,n,i0,b0,hB,hi0,hf,rfl⟩
  ·rw[if_neg hf];have hff:ZaS p n=false:=by simpa using hf
   obtain⟨h1,h2⟩:=hB.step hq hp hff;refine ZhM hq hp f _ _ h1 ?_;simp only[Zyg]at hF;omega
theorem ZjS {p:List (List Int)}{h:Nat}{l l':List Int}(hl:p[h]?=some l)(r:Nat):cnt (p.set h l') r+l.count (r:Int)=cnt p r+l'.count (r:Int):=by
 induction p generalizing h with
 |nil=>simp at hl
 |cons a p ih=>
  cases h with
  |zero=>simp at hl;subst hl;simp[cnt];omega
  |succ h=>
   have h1:=ih (h:=h) (by simpa using hl);simp[cnt]at h1 ⊢;omega
theorem Zeg {p:List (List Int)}{h m:Nat}{l:List Int}{x:Int}(hl:p[h]?=some l):setP p h m x=p.set h (l.set m x):=by unfold setP;rw[hl];rfl
theorem Ze1 {p:List (List Int)}{h m:Nat}{l:List Int}{x y:Int}(hl:p[h]?=some l)(hm:l[m]?=some y)(r:Nat):cnt (setP p h m x) r+(if y=(r:Int)then 1 else 0)=cnt p r+(if x=(r:Int)then 1 else 0):=by
 have h1:=ZjS (l':=l.set m x) hl r;have h2:=(ZeR (y:=x) hm).count_eq (r:Int);rw[List.count_cons,List.count_cons]at h2;rw[Zeg hl];simp only[beq_iff_eq]at h2;omega
theorem LP.setRow {q:Qu}{p:List (List Int)}(hp:LP q p){h:Nat}{l':List Int}(hl:h<p.length)(hr:Row q h l'):LP q (p.set h l'):=by
 refine⟨fun k l e=>?_,by simpa using hp.len⟩;rw[List.getElem?_set]at e;split at e
 ·rename_i e1;subst e1;first
   |(cases e;exact hr)
   |(rw[if_pos hl]at e;cases e;exact hr)
 ·exact hp.rows k l e
theorem Mt.ZxD {q:Qu}{h:Int}{P:Nat→Prop}{j:Nat}{w:List Int}(hw:Mt q h P j w){r:Nat}(hr:∀m:Nat,w[m]?≠some (r:Int)):Mt q h (fun x=>P x∧x≠r) j w:=
 ⟨hw.len,hw.ok,fun m x e=>⟨(hw.on m x e).1,(hw.on m x e).2.1,⟨(hw.on m x e).2.2.1,fun e'=>hr m (e'▸e)⟩,(hw.on m x e).2.2.2⟩,hw.one⟩
theorem LP.cut {q:Qu}{p:List (List Int)}(hp:LP q p){h m r:Nat}(hw:who p h m=(r:Int)):LP q (setP p h m (-1)):=by
 obtain⟨l,h1,h2⟩:=Ze9 hw;rw[Zeg h1];exact hp.setRow (ZxN.1 h1).1 (((hp.rows h l h1).cut h2).mono fun _ h=>h.1)
theorem LP.put {q:Qu}{p:List (List Int)}(hp:LP q p){h m r:Nat}(hh:h<p.length)(hm:m<q.ms.length)(hr:r<q.rs.length)(hx:q.may r m h=true)(hno:∀m',who p h m'≠(r:Int)):LP q (setP p h m r):=by
 have h1:p[h]?=some p[h]:=ZxL hh;rw[Zeg h1];refine hp.setRow hh (((hp.rows h _ h1).ZxD (r:=r) fun m' e=>hno m' (Zkf h1 e)).put (Zx0 _) hm hx hr fun x hx=>⟨hx.1,hx.2⟩)
theorem LP.move {q:Qu}{p:List (List Int)}(hp:LP q p){h m m' r:Nat}(hw:who p h m'=(r:Int))(hmm:m≠m')(hm:m<q.ms.length)(hx:q.may r m h=true):LP q (setP (setP p h m r) h m' (-1)):=by
 obtain⟨l,h1,h2⟩:=Ze9 hw;have hh:=(ZxN.1 h1).1;have e:setP (setP p h m r) h m' (-1)=p.set h ((l.set m' (-1)).set m r):=by
  rw[Zeg h1,Zeg (l:=l.set m r) (by rw[ZyA hh]),List.set_set,List.set_comm _ _ hmm]
 rw[e];have R:=hp.rows h l h1;refine hp.setRow hh ((R.cut h2).put (Zx0 _) hm hx (R.on m' r h2).2.2.1 fun x hx=>⟨hx.1,hx.2⟩)
def CurS (p:List (List Int))(cur:List (List Int)):Nd→Prop
 |.ru r=>∀x,cnt cur x=cnt p x+(if r=x then 1 else 0)
 |.mh m h=>who cur h m = -1∧∀x,cnt cur x=cnt p x
 |.rh _ _=>False
structure Cur (q:Qu)(p:List (List Int))(by':By)(i:Nat)(n:Nd)(cur:List (List Int)):Prop where
 lp:LP q cur
 len:cur.length=p.length
 c1:∀h m,who cur h m=who p h m∨∃k b,i≤k∧by'[k]?=some (Nd.mh m h,b)
 c2:∀h m (r:Nat),who cur h m=(r:Int)→who p h m=(r:Int)∨∃k b,i≤k∧by'[k]?=some (Nd.rh r h,b)
 st:CurS p cur n
theorem ZnT {by':By}(hn:(by'.map (·.1)).Nodup){i k:Nat}{n b b':Nd}(hi:by'[i]?=some (n,b))(hk:by'[k]?=some (n,b')):i=k:=by
 refine(List.getElem?_inj (l:=by'.map (·.1)) ?_ hn).1 ?_
 ·rw[ZxS];exact(ZxN.1 hi).1
 ·rw[ZxM,ZxM,hi,hk];rfl
theorem Ze3 {by':By}{f:Nat}{n b:Nd}{p:List (List Int)}(hp:par by' n=some b)(hne:n≠b):chg by' (f+1) n p=chg by' f b (chg1 n b p):=by
 rw[chg,hp];simp only;rw[if_neg hne]
theorem ZqO {by':By}{f:Nat}{n:Nd}{p:List (List Int)}(hp:par by' n=some n):chg by' f n p=p:=by
 cases f with
 |zero=>rfl
 |succ f=>rw[chg,hp];simp
theorem ZoI {q:Qu}(hq:q.ok){p:List (List Int)}(hp:LP q p){run:Nat}{by':By}(hB:ByOk q p by')(hC:Came q p run by'):∀(i f:Nat) (n b:Nd) (cur:List (List Int)),by'[i]?=some (n,b)→i≤f→Cur q p by' i n cur→
  LP q (chg by' f n cur)∧(chg by' f n cur).length=p.length∧∀x,cnt (chg by' f n cur) x=cnt p x+(if run=x then 1 else 0):=by
 intro i;induction i using Nat.strongRecOn with
 |_ i ih=>
  intro f n b cur hi hf hc;have hpar:=ZkJ hB.nd hi;simp only at hpar;cases n with
  |rh r h=>exact hc.st.elim
  |ru r=>
   rcases hC i _ hi with⟨h0,he⟩|⟨j,b1,hj,hbj,hnx,hfr⟩
   ·simp only[Prod.mk.injEq]at he;obtain⟨e1,e2⟩:=he;have e3:r=run:=by injection e1
    subst e3 e2;rw[ZqO hpar];exact⟨hc.lp,hc.len,hc.st⟩
   ·simp only at hbj hnx hfr;obtain⟨h,rfl,ho⟩:∃h,b=.rh r h∧onI p r h≠-1:=by
     cases b with
     |ru r'=>obtain⟨_,_,_,e⟩:=nx_ru.1 hnx;cases e
     |mh m' h'=>cases nx_mh.1 hnx
     |rh r' h'=>
      rcases nx_rh.1 hnx with⟨_,_,_,_,e⟩|⟨e1,e2⟩
      ·cases e
      ·injection e2 with e3;subst e3;exact⟨h',rfl,e1⟩
    have hpar2:=ZkJ hB.nd hbj;simp only at hpar2;rcases hC j _ hbj with⟨_,he⟩|⟨j2,b2,hj2,hbj2,hnx2,hfr2⟩
    ·simp at he
    ·simp only at hbj2 hnx2 hfr2;obtain⟨m,rfl,hwm⟩:∃m,b1=.mh m h∧who p h m=(r:Int):=by
      cases b1 with
      |ru r'=>obtain⟨h',_,e1,e2⟩:=nx_ru.1 hnx2;injection e2 with e3 e4;subst e3 e4;exact absurd e1 ho
      |rh r' h'=>
       rcases nx_rh.1 hnx2 with⟨_,_,_,_,e⟩|⟨_,e⟩
       ·cases e
       ·cases e
      |mh m' h'=>
       have e:=nx_mh.1 hnx2;injection e with e1 e2;subst e2;have h1:¬who p h m' = -1:=by simpa[ZaS]using hfr2
       have:=hp.pw.who h m'
       exact⟨m',rfl,by omega⟩
     obtain⟨f2,rfl⟩:∃f2,f=f2+1+1:=⟨f-2,by omega⟩;rw[Ze3 hpar (by simp),Ze3 hpar2 (by simp)];have okm:=(hB.ok _ (ZxQ hbj2)).1;have hcm:who cur h m=(r:Int):=by
      rcases hc.c1 h m with h1|⟨k,b',hk1,hk2⟩
      ·rw[h1];exact hwm
      ·have:=ZnT hB.nd hbj2 hk2;omega
     obtain⟨l,hl1,hl2⟩:=Ze9 hcm;have hml:=(ZxN.1 hl2).1;have hws:=Zjc (x:=-1) hl1 hml;refine ih j2 (by omega) f2 _ b2 _ hbj2 (by omega) ⟨hc.lp.cut hcm,by rw[←hc.len];exact Zb9,fun h' m'=>?_,fun h' m' r' e=>?_,?_,fun x=>?_⟩
     ·show who (setP cur h m (-1)) h' m'=_∨_;rw[hws];split
      ·rename_i e;obtain⟨rfl,rfl⟩:=e;exact .inr ⟨j2,b2,ZxR _,hbj2⟩
      ·rcases hc.c1 h' m' with h1|⟨k,b',hk1,hk2⟩
       ·exact .inl h1
       ·exact .inr ⟨k,b',by omega,hk2⟩
     ·have e:who (setP cur h m (-1)) h' m'=(r':Int):=e;rw[hws]at e;split at e
      ·omega
      ·rcases hc.c2 h' m' r' e with h1|⟨k,b',hk1,hk2⟩
       ·exact .inl h1
       ·exact .inr ⟨k,b',by omega,hk2⟩
     ·show who (setP cur h m (-1)) h m = -1;rw[hws,if_pos ⟨rfl,rfl⟩]
     ·show cnt (setP cur h m (-1)) x=cnt p x;have h1:=Ze1 (x:=-1) hl1 hl2 x;have h2:cnt cur x=cnt p x+(if r=x then 1 else 0):=hc.st x;rw[if_neg (by omega:¬(-1:Int)=(x:Int))]at h1;by_cases e:r=x
      ·rw[if_pos e]at h2;rw[if_pos (by omega)]at h1;omega
      ·rw[if_neg e]at h2;rw[if_neg (by omega)]at h1;omega
  |mh m h=>
   obtain⟨hidle,hcnt⟩:who cur h m = -1∧∀x,cnt cur x=cnt p x:=hc.st;rcases hC i _ hi with⟨_,he⟩|⟨j,b1,hj,hbj,hnx,hfr⟩
   ·simp at he
   ·simp only at hbj hnx hfr;obtain⟨r,rfl,hmN,hmay,hwne⟩:∃r,b=.rh r h∧m<q.ms.length∧q.may r m h=true∧who p h m≠(r:Int):=by
     cases b with
     |ru r'=>obtain⟨_,_,_,e⟩:=nx_ru.1 hnx;cases e
     |mh m' h'=>cases nx_mh.1 hnx
     |rh r' h'=>
      rcases nx_rh.1 hnx with⟨m',a1,a2,a3,e⟩|⟨_,e2⟩
      ·injection e with e3 e4;subst e3 e4;exact⟨r',rfl,a1,a2,a3⟩
      ·cases e2
    have okr:r<q.rs.length∧h<p.length:=(hB.ok _ (ZxQ hbj)).1;have hpar2:=ZkJ hB.nd hbj;simp only at hpar2;have hh:h<cur.length:=by rw[hc.len];exact okr.2
    have hl1:cur[h]?=some cur[h]:=ZxL hh;have R:=hc.lp.rows h _ hl1;have hm4:m<cur[h].length:=by rw[R.len];have:=hq.m;omega
    have hl2:cur[h][m]?=some (-1):=by
     have e:cur[h][m]?=some cur[h][m]:=ZxL hm4
     have:=Zkf hl1 e
     rw[hidle]at this;rw[e,←this]
    have hws:=Zjc (x:=(r:Int)) hl1 hm4;have hrc:∀m':Nat,who cur h m'=(r:Int)→who p h m'=(r:Int):=fun m' e=>by
     rcases hc.c2 h m' r e with h1|⟨k,b',hk1,hk2⟩
     ·exact h1
     ·have:=ZnT hB.nd hbj hk2;omega
    rcases hC j _ hbj with⟨_,he⟩|⟨j2,b2,hj2,hbj2,hnx2,hfr2⟩
    ·simp at he
    ·simp only at hbj2 hnx2 hfr2;obtain⟨f2,rfl⟩:∃f2,f=f2+1+1:=⟨f-2,by omega⟩;rw[Ze3 hpar (by simp),Ze3 hpar2 (by intro e;cases b1<;>cases e<;>(first|(obtain⟨_,_,_,e⟩:=nx_ru.1 hnx2;cases e)|(rcases nx_rh.1 hnx2 with⟨_,_,_,_,e⟩|⟨_,e⟩<;>cases e)|skip))];cases b1 with
     |rh r' h'=>
      rcases nx_rh.1 hnx2 with⟨_,_,_,_,e⟩|⟨_,e⟩
      ·cases e
      ·cases e
     |ru r'=>
      obtain⟨h',_,e1,e2⟩:=nx_ru.1 hnx2;injection e2 with e3 e4;subst e3 e4;have hno:∀m',who cur h m'≠(r:Int):=fun m' e=>ZrC e1 m' (hrc m' e)
      refine ih j2 (by omega) f2 _ b2 _ hbj2 (by omega) ⟨hc.lp.put hh hmN okr.1 hmay hno,by rw[←hc.len];exact Zb9,fun h' m'=>?_,fun h' m' r' e=>?_,fun x=>?_⟩
      ·show who (setP cur h m r) h' m'=_∨_;rw[hws];split
       ·rename_i e;obtain⟨rfl,rfl⟩:=e;exact .inr ⟨i,_,by omega,hi⟩
       ·rcases hc.c1 h' m' with h1|⟨k,b',hk1,hk2⟩
        ·exact .inl h1
        ·exact .inr ⟨k,b',by omega,hk2⟩
      ·have e:who (setP cur h m r) h' m'=(r':Int):=e;rw[hws]at e;split at e
       ·rename_i e';obtain⟨rfl,rfl⟩:=e'
        have:r=r':=by omega
        subst this;exact .inr ⟨j,_,by omega,hbj⟩
       ·rcases hc.c2 h' m' r' e with h1|⟨k,b',hk1,hk2⟩
        ·exact .inl h1
        ·exact .inr ⟨k,b',by omega,hk2⟩
      ·show cnt (setP cur h m r) x=_;have h1:=Ze1 (x:=(r:Int)) hl1 hl2 x;have h2:=hcnt x;rw[if_neg (by omega:¬(-1:Int)=(x:Int))]at h1;by_cases e:r=x
       ·rw[if_pos e];rw[if_pos (by omega)]at h1;omega
       ·rw[if_neg e];rw[if_neg (by omega)]at h1;omega
     |mh m' h'=>
      have e:=nx_mh.1 hnx2;injection e with e1 e2;subst e2;have hwp:who p h m'=(r:Int):=by
       have h1:¬who p h m' = -1:=by simpa[ZaS]using hfr2
       have:=hp.pw.who h m'
       omega
      have hcm:who cur h m'=(r:Int):=by
       rcases hc.c1 h m' with h1|⟨k,b',hk1,hk2⟩
       ·rw[h1];exact hwp
       ·have:=ZnT hB.nd hbj2 hk2;omega
      have hmm:m≠m':=fun e=>by subst e;exact hwne hwp
      obtain⟨l,k1,k2⟩:=Ze9 hcm;rw[hl1]at k1;cases k1;have hl3:(setP cur h m r)[h]?=some (cur[h].set m r):=by rw[Zeg hl1,ZyA hh]
      have k3:(cur[h].set m (r:Int))[m']?=some (r:Int):=by rw[ZyC hmm];exact k2
      have hws2:=Zjc (x:=-1) hl3 (ZxN.1 k3).1;refine ih j2 (by omega) f2 _ b2 _ hbj2 (by omega) ⟨hc.lp.move hcm hmm hmN hmay,by rw[←hc.len];exact Zb9.trans Zb9,fun h' m2=>?_,fun h' m2 r' e=>?_,?_,fun x=>?_⟩
      ·show who (setP (setP cur h m r) h m' (-1)) h' m2=_∨_;rw[hws2];split
       ·rename_i e;obtain⟨rfl,rfl⟩:=e;exact .inr ⟨j2,_,by omega,hbj2⟩
       ·rw[hws];split
        ·rename_i e;obtain⟨rfl,rfl⟩:=e;exact .inr ⟨i,_,by omega,hi⟩
        ·rcases hc.c1 h' m2 with h1|⟨k,b',hk1,hk2⟩
         ·exact .inl h1
         ·exact .inr ⟨k,b',by omega,hk2⟩
      ·have e:who (setP (setP cur h m r) h m' (-1)) h' m2=(r':Int):=e;rw[hws2]at e;split at e
       ·omega
       ·rw[hws]at e;split at e
        ·rename_i e';obtain⟨rfl,rfl⟩:=e'
         have:r=r':=by omega
         subst this;exact .inr ⟨j,_,by omega,hbj⟩
        ·rcases hc.c2 h' m2 r' e with h1|⟨k,b',hk1,hk2⟩
         ·exact .inl h1
         ·exact .inr ⟨k,b',by omega,hk2⟩
      ·show who (setP (setP cur h m r) h m' (-1)) h m' = -1;rw[hws2,if_pos ⟨rfl,rfl⟩]
      ·show cnt (setP (setP cur h m r) h m' (-1)) x=cnt p x;have h1:=Ze1 (x:=(r:Int)) hl1 hl2 x;have h2:=hcnt x;have h3:=Ze1 (x:=-1) hl3 k3 x;rw[if_neg (by omega:¬(-1:Int)=(x:Int))]at h1 h3;omega
theorem Zl2 {F:Nat}(hF:407<F){q:Qu}(hq:q.ok){p p':List (List Int)}(hp:LP q p){run:Nat}(hr:run<q.rs.length)(h:giveP F q p run=some p'):LP q p'∧p'.length=p.length∧∀x,cnt p' x=cnt p x+(if run=x then 1 else 0):=by
 rcases ZhM hq hp.pw F _ _ (BX.start (q:=q) (p:=p) hr) (by simp;omega)with⟨by2,todo2,n,i,b,hB,hi,hf,he⟩|⟨he,_⟩
 ·unfold giveP at h;rw[he]at h;cases h;have hil:=(ZxN.1 hi).1;cases n with
  |ru r=>cases hf
  |rh r h=>cases hf
  |mh m h=>
   refine ZoI hq hp hB.b.b hB.c i by2.length _ b p hi (by omega) ⟨hp,rfl,fun _ _=>.inl rfl,fun _ _ _ e=>.inl e,by simpa[ZaS]using hf,fun _=>rfl⟩
 ·unfold giveP at h;rw[he]at h;cases h
theorem ZnD {l:List Nat}:∀{l':List Nat},l.Nodup→(∀x∈l,x∈l')→l.length≤l'.length:=by
 induction l with
 |nil=>exact fun _ _=>Zx0 _
 |cons a l ih=>
  intro l' hn hs;rw[List.nodup_cons]at hn;have ha:=hs a (by simp);have h1:=ih (l':=l'.erase a) hn.2 fun x hx=>by
   have hne:x≠a:=fun e=>hn.1 (e▸hx)
   exact(List.mem_erase_of_ne hne).2 (hs x (by simp[hx]))
  rw[List.length_erase_of_mem ha]at h1
  have:=List.length_pos_of_mem ha
  rw[Zyg];omega
theorem ZnE {l l':List Nat}{f:Nat→Nat}(hn:l.Nodup)(hi:∀x∈l,∀y∈l,f x=f y→x=y)(hs:∀x∈l,f x∈l'):l.length≤l'.length:=by
 have h1:(l.map f).Nodup:=by
  rw[List.nodup_iff_pairwise_ne,List.pairwise_map];refine List.Pairwise.imp_of_mem ?_ (List.nodup_iff_pairwise_ne.1 hn);exact fun{a b} ha hb hne e=>hne (hi a ha b hb e)
 have:=ZnD (l':=l') h1 (fun x hx=>by
  obtain⟨y,hy,rfl⟩:=ZxY.1 hx;exact hs y hy)
 simpa using this
theorem Znb (w:List Int):(List.range w.length).map (fun m=>(w[m]?).getD (-1))=w:=by
 apply List.ext_getElem?;intro i;rw[ZxM];by_cases hi:i<w.length
 ·rw[List.getElem?_range hi,ZxL hi];simp[ZxL hi]
 ·rw[List.getElem?_eq_none (by simp;omega),List.getElem?_eq_none (by omega)];rfl
theorem ZiW (P:Int→Bool)(w:List Int):w.countP P=((List.range w.length).filter fun m=>P ((w[m]?).getD (-1))).length:=by
 conv=>lhs;rw[←Znb w,List.countP_map,List.countP_eq_length_filter]
 rfl
theorem ZgM (w:List Int):w.count (-1)+w.countP busy=w.length:=by
 induction w with
 |nil=>rfl
 |cons a w ih=>
  rw[List.count_cons,List.countP_cons,Zyg];by_cases h:a = -1
  ·simp[h,busy]at ih ⊢;omega
  ·simp[h,busy]at ih ⊢;omega
def inR (R:List Int)(l:List Int):Nat:=l.countP fun x=>R.contains x
def gotR (q:Qu)(by':By):List Int:=selL (fun r=>decide (Nd.ru r∈keys by')) q.rs.length
theorem Zft {q:Qu}{by':By}{r:Nat}:(r:Int)∈gotR q by'↔r<q.rs.length∧Nd.ru r∈keys by':=by
 unfold gotR;rw[ZkQ];constructor
 ·rintro⟨x,e,h1,h2⟩
  have:r=x:=by omega
  subst this;exact⟨h1,by simpa using h2⟩
 ·rintro⟨h1,h2⟩;exact⟨r,rfl,h1,by simpa using h2⟩
theorem Zps {q:Qu}(hq:q.ok){p:List (List Int)}(hp:LP q p){run:Nat}{by':By}(hB:BX q p run (by',[])){h:Nat}{l:List Int}(hl:p[h]?=some l):q.atM h (gotR q by')≤inR (gotR q by') l:=by
 have hh:=(ZxN.1 hl).1;have Rw:=hp.rows h l hl;have hrr:Runs q (gotR q by'):=Runs.ZvP Zfh;obtain⟨M,hM,hM4⟩:=ZuS hq (h:=h) hrr;have hcl:∀n∈keys by',ZaS p n=false∧∀x∈nx q p n,x∈keys by':=fun n hn=>by
  rcases hB.cl n hn with h1|h1
  ·cases h1
  ·exact h1
 have okr:∀n∈keys by',n.ok q p:=fun n hn=>by
  obtain⟨e,he,rfl⟩:=ZxY.1 hn;exact(hB.b.b.ok e he).1
 have fa:∀r:Nat,Nd.ru r∈keys by'→onI p r h = -1→Nd.rh r h∈keys by':=fun r hr ho=>(hcl _ hr).2 _ (nx_ru.2 ⟨h,hh,ho,rfl⟩)
 have fb:∀r m:Nat,Nd.rh r h∈keys by'→m<q.ms.length→q.may r m h=true→who p h m≠(r:Int)→Nd.mh m h∈keys by':=fun r m hr h1 h2 h3=>(hcl _ hr).2 _ (nx_rh.2 (.inl ⟨m,h1,h2,h3,rfl⟩))
 have fc:∀r:Nat,Nd.rh r h∈keys by'→onI p r h≠-1→Nd.ru r∈keys by':=fun r hr h1=>(hcl _ hr).2 _ (nx_rh.2 (.inr ⟨h1,rfl⟩))
 have fd:∀m:Nat,Nd.mh m h∈keys by'→∃r:Nat,who p h m=(r:Int)∧Nd.rh r h∈keys by'∧(r:Int)∈gotR q by':=fun m hm=>by
  obtain⟨f1,f2⟩:=hcl _ hm;have h1:¬who p h m = -1:=by simpa[ZaS]using f1
  have h2:=hp.pw.who h m;obtain⟨r,hr⟩:∃r:Nat,who p h m=r:=⟨(who p h m).toNat,by omega⟩;have h3:=f2 _ (nx_mh.2 rfl);rw[hr,Int.toNat_natCast]at h3;exact⟨r,hr,h3,Zft.2 ⟨by omega,fc r h3 fun ho=>ZrC ho m hr⟩⟩
 have hcM:=ZgM M;rw[hM.len]at hcM;have hA:q.atM h (gotR q by')=M.countP busy:=by omega
 rw[hA,inR,ZiW,ZiW,hM.len,Rw.len];have hcell:∀m:Nat,m∈(List.range 4).filter (fun m=>busy ((M[m]?).getD (-1)))→∃r:Nat,M[m]?=some (r:Int)∧m<q.ms.length∧q.may r m h=true∧Nd.ru r∈keys by'∧r<q.rs.length:=fun m hm=>by
  rw[ZxX,List.mem_range]at hm;have hm4:m<M.length:=by rw[hM.len];exact hm.1
  have e:M[m]?=some M[m]:=ZxL hm4;have h1:M[m]≠-1:=by have:=hm.2;rw[e]at this;simpa[busy]using this
  have h2:=hM.ok _ (Zyh hm4);obtain⟨r,hr⟩:∃r:Nat,M[m]=r:=⟨M[m].toNat,by omega⟩;rw[hr]at e;obtain⟨_,o2,o3,o4⟩:=hM.on m r e;obtain⟨o5,o6⟩:=Zft.1 o3;exact⟨r,e,o2,o4,o6,o5⟩
 have hoff:∀r:Nat,Nd.ru r∈keys by'→Nd.rh r h∉keys by'→∃i:Nat,(onI p r h).toNat=i∧l[i]?=some (r:Int):=fun r h1 h2=>by
  have ho:onI p r h≠-1:=fun e=>h2 (fa r h1 e)
  unfold onI at ho ⊢;rw[hl,Zym]at ho ⊢;rcases Zue (l:=l) (v:=(r:Int))with e|⟨i,e1,_,e2⟩
  ·exact absurd e ho
  ·exact⟨i,by rw[e1,Int.toNat_natCast],e2⟩
 refine ZnE (f:=fun m=>if Nd.rh ((M[m]?).getD (-1)).toNat h∈keys by' then m else(onI p ((M[m]?).getD (-1)).toNat h).toNat) (List.nodup_range.filter _) (fun m1 hm1 m2 hm2 e=>?_) (fun m hm=>?_)
 ·obtain⟨r1,a1,a2,a3,a4,_⟩:=hcell m1 hm1;obtain⟨r2,b1,b2,b3,b4,_⟩:=hcell m2 hm2;simp only[a1,b1,Zym,Int.toNat_natCast]at e;have key:∀(m1 m2 r1 r2:Nat),M[m1]?=some (r1:Int)→m1<q.ms.length→q.may r1 m1 h=true→Nd.ru r2∈keys by'→Nd.rh r1 h∈keys by'→Nd.rh r2 h∉keys by'→m1=(onI p r2 h).toNat→False:=fun m1 m2 r1 r2 a1 a2 a3 b4 c1 c2 e=>by
   obtain⟨i,e1,e2⟩:=hoff r2 b4 c2;rw[e1]at e;subst e;have hw:=Zkf hl e2;by_cases hrr:r2=r1
   ·subst hrr;exact c2 c1
   ·have:=fb r1 m1 c1 a2 a3 (by rw[hw];omega)
    obtain⟨r3,d1,d2,_⟩:=fd m1 this;rw[hw]at d1
    have:r2=r3:=by omega
    subst this;exact c2 d2
  by_cases c1:Nd.rh r1 h∈keys by'<;>by_cases c2:Nd.rh r2 h∈keys by'
  ·rw[if_pos c1,if_pos c2]at e;exact e
  ·rw[if_pos c1,if_neg c2]at e;exact(key m1 m2 r1 r2 a1 a2 a3 b4 c1 c2 e).elim
  ·rw[if_neg c1,if_pos c2]at e;exact(key m2 m1 r2 r1 b1 b2 b3 a4 c2 c1 e.symm).elim
  ·rw[if_neg c1,if_neg c2]at e;obtain⟨i,e1,e2⟩:=hoff r1 a4 c1;obtain⟨j,f1,f2⟩:=hoff r2 b4 c2;rw[e1,f1]at e;subst e;rw[e2]at f2
   have:r1=r2:=by have:=Option.some.inj f2;omega
   subst this;exact hM.one _ _ _ a1 b1
 ·obtain⟨r,a1,a2,a3,a4,a5⟩:=hcell m hm;rw[ZxX,List.mem_range]at hm ⊢;simp only[a1,Zym,Int.toNat_natCast];split
  ·rename_i c1;refine⟨hm.1,?_⟩;have hml:m<l.length:=by rw[Rw.len];exact hm.1
   have e:l[m]?=some l[m]:=ZxL hml;have hw:=Zkf hl e;rw[e,Zym,←hw,Zx4];by_cases hwr:who p h m=(r:Int)
   ·rw[hwr];exact Zft.2 ⟨a5,a4⟩
   ·obtain⟨r3,d1,_,d3⟩:=fd m (fb r m c1 a2 a3 hwr);rw[d1];exact d3
  ·rename_i c1;obtain⟨i,e1,e2⟩:=hoff r a4 c1;rw[e1,e2,Zym,Zx4];refine⟨by rw[←Rw.len];exact(ZxN.1 e2).1,Zft.2 ⟨a5,a4⟩⟩
def tot (R:List Int)(p:List (List Int)):Nat:=(p.map (inR R)).sum
theorem Runs.nodup {q:Qu}{R:List Int}(h:Runs q R):R.Nodup:=by
 rw[List.nodup_iff_pairwise_ne,ZyE];intro i j hi hj hij e;have hx:=h.inn R[i] (Zyh hi);obtain⟨r,hr⟩:∃r:Nat,R[i]=r:=⟨R[i].toNat,by omega⟩
 have:=h.one i j r (by rw[ZxL hi,hr]) (by rw[ZxL hj,←e,hr])
 omega
theorem Zqi {a:Int}{R:List Int}(ha:a∉R)(l:List Int):inR (a::R) l=l.count a+inR R l:=by
 unfold inR;induction l with
 |nil=>rfl
 |cons x l ih=>
  rw[List.countP_cons,List.countP_cons,List.count_cons,ih];by_cases e:x=a
  ·subst e;have h1:R.contains x=false:=by
    rw[Bool.eq_false_iff];intro h;exact ha (Zx4.1 h)
   simp[ha];omega
  ·have h1:(a::R).contains x=R.contains x:=by
    rw[List.contains_cons]
    have:(x==a)=false:=by simpa using e
    rw[this,Bool.false_or]
   have h2:(x==a)=false:=by simpa using e
   rw[h1,h2];simp only[Bool.false_eq_true,if_false];omega
theorem Ztg {R:List Int}(hn:R.Nodup)(l:List Int):inR R l=(R.map fun x=>l.count x).sum:=by
 induction R with
 |nil=>unfold inR;simp
 |cons a R ih=>
  rw[List.nodup_cons]at hn;rw[Zqi hn.1,ZxZ,List.sum_cons,ih hn.2]
theorem ZmB (R:List Int)(f g:Int→Nat):(R.map fun x=>f x+g x).sum=(R.map f).sum+(R.map g).sum:=by
 induction R with
 |nil=>rfl
 |cons a R ih=>simp only[ZxZ,List.sum_cons,ih];omega
theorem Zfc {R:List Int}(hn:R.Nodup)(h0:∀x∈R,0≤x):∀p:List (List Int),tot R p=(R.map fun x=>cnt p x.toNat).sum
 |[]=>by
  have:∀R:List Int,(R.map fun x=>cnt [] x.toNat).sum=0:=fun R=>by
   induction R with
   |nil=>rfl
   |cons a R ih=>rw[ZxZ,List.sum_cons,ih];rfl
  rw[this];rfl
 |l::p=>by
  have h1:tot R (l::p)=inR R l+tot R p:=by unfold tot;rw[ZxZ,List.sum_cons]
  have h2:(R.map fun x=>cnt (l::p) x.toNat)=R.map fun x=>l.count x+cnt p x.toNat:=by
   refine List.map_congr_left fun x hx=>?_
   have:=h0 x hx
   unfold cnt;rw[ZxZ,List.sum_cons,Int.toNat_of_nonneg this]
  rw[h1,h2,ZmB,Zfc hn h0 p,Ztg hn]
theorem ZkA {q:Qu}{R:List Int}{p:List (List Int)}(h:∀(k:Nat) (l:List Int),p[k]?=some l→q.atM k R≤inR R l):∀k,k≤p.length→q.Zwo R k≤tot R (p.take k)
 |0,_=>Zx0 _
 |k+1,hk=>by
  have e:p[k]?=some p[k]:=ZxL (by omega);have h1:=ZkA h k (by omega);have h2:=h k _ e;have h3:tot R (p.take (k+1))=tot R (p.take k)+inR R p[k]:=by unfold tot;rw[ZbX e,Zyb,List.sum_append];simp
  show q.Zwo R k+q.atM k R≤_;omega
theorem Zkj {q:Qu}{R:List Int}{p:List (List Int)}(h:∀(k:Nat) (l:List Int),p[k]?=some l→inR R l≤q.atM k R):∀k,k≤p.length→tot R (p.take k)≤q.Zwo R k
 |0,_=>by simp[tot]
 |k+1,hk=>by
  have e:p[k]?=some p[k]:=ZxL (by omega);have h1:=Zkj h k (by omega);have h2:=h k _ e;have h3:tot R (p.take (k+1))=tot R (p.take k)+inR R p[k]:=by unfold tot;rw[ZbX e,Zyb,List.sum_append];simp
  show _≤q.Zwo R k+q.atM k R;omega
theorem LP.Zxl {q:Qu}(hq:q.ok){p:List (List Int)}(hp:LP q p){R:List Int}(hR:Runs q R):tot R p≤q.Zwo R p.length:=by
 have:=Zkj (q:=q) (R:=R) (p:=p) (fun k l hl=>by
  have Rw:=hp.rows k l hl;have hg:∀(m:Nat) (x:Int),(l.map fun x=>if R.contains x=true then x else -1)[m]?=some x→∃y,l[m]?=some y∧((R.contains y=true∧x=y)∨(R.contains y=false∧x = -1)):=fun m x e=>by
   rw[ZxM,ZxP]at e;obtain⟨y,h1,h2⟩:=e;refine⟨y,h1,?_⟩;split at h2
   ·rename_i hc;exact .inl ⟨hc,h2.symm⟩
   ·rename_i hc;exact .inr ⟨by simpa using hc,h2.symm⟩
  have hM:Mt q k (fun r=>(r:Int)∈R) 0 (l.map fun x=>if R.contains x=true then x else -1):=by
   refine⟨by simpa using Rw.len,fun x hx=>?_,fun m r e=>?_,fun m m' r e e'=>?_⟩
   ·obtain⟨m,hm⟩:=ZxV.1 hx;obtain⟨y,h1,h2⟩:=hg m x hm;rcases h2 with⟨_,rfl⟩|⟨_,rfl⟩
    ·exact Rw.ok _ (ZxQ h1)
    ·exact .inl rfl
   ·obtain⟨y,h1,h2⟩:=hg m r e;rcases h2 with⟨h2,rfl⟩|⟨_,h2⟩
    ·obtain⟨o1,o2,o3,o4⟩:=Rw.on m r h1;exact⟨o1,o2,Zx4.1 h2,o4⟩
    ·omega
   ·obtain⟨y,h1,h2⟩:=hg m r e;obtain⟨y',h1',h2'⟩:=hg m' r e';rcases h2 with⟨_,rfl⟩|⟨_,h2⟩
    ·rcases h2' with⟨_,rfl⟩|⟨_,h2'⟩
     ·exact Rw.one _ _ _ h1 h1'
     ·omega
    ·omega
  have h1:=ZuT hq hR hM;have h2:=ZgM (l.map fun x=>if R.contains x=true then x else -1);rw[hM.len,List.countP_map]at h2;have h3:l.countP (busy∘fun x=>if R.contains x=true then x else -1)=inR R l:=by
   unfold inR;refine List.countP_congr fun x _=>?_
   simp only[Function.comp,busy];rw[decide_eq_true_eq];by_cases hc:R.contains x=true
   ·have:=hR.inn x (Zx4.1 hc)
    simp only[hc,iff_true,if_true];omega
   ·simp only[hc,iff_false];simp
  rw[h3]at h2
  omega) p.length (ZxR _)
 rwa [Zye]at this
def Stuck (q:Qu)(p:List (List Int))(r:Nat):Prop:=∃R,q.rising R=true∧(r:Int)∈R∧q.Zwo R p.length≤tot R p
theorem Zl3 {F:Nat}(hF:407<F){q:Qu}(hq:q.ok){p:List (List Int)}(hp:LP q p){run:Nat}(hr:run<q.rs.length)(h:giveP F q p run=none):Stuck q p run:=by
 rcases ZhM hq hp.pw F _ _ (BX.start (q:=q) (p:=p) hr) (by simp;omega)with⟨by2,todo2,n,i,b,hB,hi,hf,he⟩|⟨_,by2,hB⟩
 ·unfold giveP at h;rw[he]at h;cases h
 ·refine⟨gotR q by2,Zfh,Zft.2 ⟨hr,hB.r⟩,?_⟩
  have:=ZkA (fun k l hl=>Zps hq hp hB hl) p.length (ZxR _)
  rwa [Zye]at this
theorem Zpe {R:List Int}(hn:R.Nodup)(h0:∀x∈R,0≤x){p p':List (List Int)}(h:∀x,cnt p x≤cnt p' x):tot R p≤tot R p':=by
 rw[Zfc hn h0,Zfc hn h0];clear hn h0;induction R with
 |nil=>exact ZxR _
 |cons a R ih=>simp only[ZxZ,List.sum_cons];have:=h a.toNat;omega
theorem Stuck.mono {q:Qu}{p p':List (List Int)}{r:Nat}(h:Stuck q p r)(hl:p'.length=p.length)(hc:∀x,cnt p x≤cnt p' x):Stuck q p' r:=by
 obtain⟨R,h1,h2,h3⟩:=h;have hR:=Runs.ZvP h1;exact⟨R,h1,h2,by rw[hl];exact Zx5 h3 (Zpe hR.nodup (fun x hx=>(hR.inn x hx).1) hc)⟩
theorem ZfY {F:Nat}(hF:407<F){q:Qu}(hq:q.ok):∀(l:List Nat) (p:List (List Int)),LP q p→(∀r∈l,r<q.rs.length)→
  LP q (delM F q p l).1∧(delM F q p l).1.length=p.length∧(∀x,cnt (delM F q p l).1 x+(delM F q p l).2.count x=cnt p x+l.count x)∧(∀x,cnt p x≤cnt (delM F q p l).1 x)∧(∀r∈(delM F q p l).2,r∈l∧Stuck q (delM F q p l).1 r)
 |[],p,hp,_=>⟨hp,rfl,fun _=>rfl,fun _=>ZxR _,fun r hr=>by cases hr⟩
 |r::l,p,hp,hl=>by
  have hl':∀x∈l,x<q.rs.length:=fun x hx=>hl x (by simp[hx])
  have hr:=hl r (by simp);unfold delM;cases hg:giveP F q p r with
  |some p'=>
   obtain⟨g1,g2,g3⟩:=Zl2 hF hq hp hr hg;obtain⟨k1,k2,k3,k4,k5⟩:=ZfY hF hq l p' g1 hl';refine⟨k1,k2.trans g2,fun x=>?_,fun x=>Zx5 (by rw[g3];omega) (k4 x),fun y hy=>⟨by simp[(k5 y hy).1],(k5 y hy).2⟩⟩;simp only;rw[k3,g3,List.count_cons];by_cases e:r=x
   ·simp[e];omega
   ·simp[e]
  |none=>
   have hst:=Zl3 hF hq hp hr hg;obtain⟨k1,k2,k3,k4,k5⟩:=ZfY hF hq l p hp hl';refine⟨k1,k2,fun x=>?_,k4,fun y hy=>?_⟩
   ·simp only;rw[List.count_cons,List.count_cons,←Nat.add_assoc,k3,Nat.add_assoc]
   ·simp only at hy ⊢;rcases Zx2.1 hy with e|e
    ·subst e;exact⟨by simp,hst.mono k2 k4⟩
    ·exact⟨by simp[(k5 y e).1],(k5 y e).2⟩
def Lack (q:Qu)(T:Nat):Prop:=∃R,q.rising R=true∧(q.Zwo R T:Int)<q.Zxb R
def Done (q:Qu)(p:List (List Int)):Prop:=∀x,x<q.rs.length→(cnt p x:Int)=(q.run x).hours
theorem Zin {q:Qu}{R:List Int}(h0:∀x∈R,0≤x∧x<q.rs.length){f:Nat→Nat}(hf:∀x,x<q.rs.length→(f x:Int)=(q.run x).hours):q.Zxb R=((R.map fun x=>f x.toNat).sum:Nat):=by
 unfold Qu.Zxb;induction R with
 |nil=>rfl
 |cons a R ih=>
  rw[ZxZ,List.sum_cons,ZxZ,List.sum_cons,ih fun x hx=>h0 x (by simp[hx])];have ha:=h0 a (by simp);have h1:=hf a.toNat (by omega);have h2:q.hrs a=(q.run a.toNat).hours:=by unfold Qu.hrs Qu.run;cases q.rs[a.toNat]?<;>rfl
  rw[h2,←h1];omega
theorem ZlF {q:Qu}{p:List (List Int)}{l:List Nat}{r:Nat}(hs:Stuck q p r)(hr:r∈l)(hc:∀x,x<q.rs.length→((cnt p x+l.count x:Nat):Int)=(q.run x).hours):Lack q p.length:=by
 obtain⟨R,h1,h2,h3⟩:=hs;have hR:=Runs.ZvP h1;refine⟨R,h1,?_⟩;rw[Zin hR.inn hc,ZmB R (fun x=>cnt p x.toNat) (fun x=>l.count x.toNat),←Zfc hR.nodup fun x hx=>(hR.inn x hx).1];have h4:1≤(R.map fun x=>l.count x.toNat).sum:=by
  clear h1 h3 hR hc;induction R with
  |nil=>cases h2
  |cons a R ih=>
   rw[ZxZ,List.sum_cons];rcases Zx2.1 h2 with e|e
   ·subst e
    have:1≤l.count r:=List.count_pos_iff.2 hr
    rw[Int.toNat_natCast];omega
   ·have:=ih e;omega
 omega
theorem LP.nil {q:Qu}:LP q []:=⟨fun h l e=>by simp at e,by simp⟩
theorem LP.more {q:Qu}{p:List (List Int)}(hp:LP q p)(hl:p.length<40):LP q (p++[idle4]):=by
 refine⟨fun h l e=>?_,by simp;omega⟩;rw[Zyl]at e;split at e
 ·exact hp.rows h l e
 ·have h0:h-p.length=0:=by
   have:=(ZxN.1 e).1
   simp at this;omega
  rw[h0]at e;simp at e;subst e;exact Mt.idle
theorem Zll {p:List (List Int)}{x:Nat}:cnt (p++[idle4]) x=cnt p x:=by
 rw[ZoB,ZtA]
 have:idle4.count (x:Int)=0:=List.count_eq_zero.2 fun h=>by simp[idle4]at h
 rw[this];rfl
theorem Zis {F:Nat}(hF:407<F){q:Qu}(hq:q.ok):∀(n:Nat) (p:List (List Int)) (l:List Nat),LP q p→(∀r∈l,r<q.rs.length)→(∀x,x<q.rs.length→((cnt p x+l.count x:Nat):Int)=(q.run x).hours)→(∀r∈l,Stuck q p r)→(p.length=0∨Lack q (p.length-1))→p.length+n=41→
  (∃p',layM F q n p l=some p'∧LP q p'∧Done q p'∧(p'.length=0∨Lack q (p'.length-1)))∨(layM F q n p l=none∧Lack q 40)
 |n,p,[],hp,_,hc,_,hL,_=>.inl ⟨p,by cases n<;>rfl,hp,fun x hx=>by have:=hc x hx;simpa using this,hL⟩
 |0,p,r::l,hp,_,_,_,_,hn=>by have:=hp.len;omega
 |n+1,p,r::l,hp,hl,hc,hs,hL,hn=>by
  have hk:=ZlF (hs r (by simp)) (by simp) hc;unfold layM;split
  ·rename_i h40;rw[h40]at hk;exact .inr ⟨rfl,hk⟩
  ·rename_i h40;have h1:=hp.len;obtain⟨k1,k2,k3,_,k5⟩:=ZfY hF hq (r::l) _ (hp.more (by omega)) hl;have e:(p++[idle4]).length=p.length+1:=by simp
   rw[e]at k2;refine Zis hF hq n _ _ k1 (fun x hx=>hl x (k5 x hx).1) (fun x hx=>?_) (fun x hx=>(k5 x hx).2) (.inr ?_) (by omega)
   ·rw[k3,Zll];exact hc x hx
   ·rw[k2,Nat.add_sub_cancel];exact hk
theorem Zfb {q:Qu}{x:Nat}:∀k,((List.range k).flatMap fun i=>List.replicate (q.run i).hours.toNat i).count x=if x<k then(q.run x).hours.toNat else 0
 |0=>rfl
 |k+1=>by
  rw[List.range_succ,List.flatMap_append,List.count_append,Zfb k];simp only[List.flatMap_cons,List.flatMap_nil,Zx9,List.count_replicate];by_cases e:k=x
  ·subst e;simp
  ·have:(k==x)=false:=by simpa using e
   rw[this];by_cases h:x<k
   ·have h':x<k+1:=by omega
    simp[h,h']
   ·have h':¬x<k+1:=fun h'=>h (by omega)
    simp[h,h']
theorem Zqa {F:Nat}(hF:407<F){q:Qu}(hq:q.ok):(∃p,q.ZwE F=some p∧LP q p∧Done q p∧(p.length=0∨Lack q (p.length-1)))∨(q.ZwE F=none∧Lack q 40):=by
 refine Zis hF hq 41 [] q.Zwd LP.nil units_lt (fun x hx=>?_) (fun r hr=>?_) (.inl rfl) rfl
 ·have h1:q.Zwd.count x=_:=Zfb (q:=q) (x:=x) q.rs.length;rw[h1,if_pos hx];have h2:cnt [] x=0:=rfl;have hx':q.rs[x]?=some q.rs[x]:=ZxL hx;have h3:=(hq.h _ (Zyh hx)).1;have h4:q.run x=q.rs[x]:=by unfold Qu.run;rw[hx'];rfl
  rw[h2,h4];omega
 ·have hr':=units_lt r hr;refine⟨[(r:Int)],?_,by simp,Zx0 _⟩;simp[Qu.rising,Qu.ZwL];omega
theorem Lack.no {q:Qu}(hq:q.ok){p:List (List Int)}(hp:LP q p)(hd:Done q p):¬Lack q p.length:=by
 rintro⟨R,h1,h2⟩;have hR:=Runs.ZvP h1;have h3:=hp.Zxl hq hR;rw[Zfc hR.nodup fun x hx=>(hR.inn x hx).1]at h3;rw[Zin hR.inn hd]at h2;omega
def Feas (q:Qu)(T:Nat):Prop:=∃p,LP q p∧p.length=T∧Done q p
theorem Feas.up {q:Qu}{T:Nat}(h:Feas q T):∀{T':Nat},T≤T'→T'≤40→Feas q T'
 |0,h1,_=>by
  have:T=0:=by omega
  subst this;exact h
 |T'+1,h1,h2=>by
  by_cases e:T=T'+1
  ·subst e;exact h
  ·obtain⟨p,a,b,c⟩:=Feas.up h (T':=T') (by omega) (by omega);exact⟨p++[idle4],a.more (by omega),by simp[b],fun x hx=>by rw[Zll];exact c x hx⟩
theorem Lack.ZxH {q:Qu}(hq:q.ok){T T':Nat}(h:Lack q T)(h1:T'≤T)(h2:T≤40):¬Feas q T':=fun hf=>by
 obtain⟨p,a,b,c⟩:=hf.up h1 h2;rw[←b]at h;exact h.no hq a c
theorem Zm3 {q:Qu}(hq:q.ok){h:Nat}{l:List Int}(hl:Row q h l):q.Zxq h (l.take q.ms.length)=true:=by
 have hm4:=hq.m;have hlen:(l.take q.ms.length).length=q.ms.length:=by rw[ZxT,hl.len];omega
 unfold Qu.Zxq;rw[hlen,decide_eq_true rfl,Bool.true_and];refine Zf7 fun m hm=>?_
 have hml:m<l.length:=by rw[hl.len];omega
 have e:l[m]?=some l[m]:=ZxL hml;have e2:(l.take q.ms.length)[m]?=some l[m]:=by rw[Zx1,if_pos hm,e]
 unfold Qu.Zxj;rw[e2,Zym];rcases hl.ok _ (Zyh hml)with h1|h1
 ·rw[h1];rfl
 ·obtain⟨r,hr⟩:∃r:Nat,l[m]=r:=⟨l[m].toNat,by omega⟩;rw[hr]at e ⊢;obtain⟨_,o2,o3,o4⟩:=hl.on m r e;have o5:r<q.rs.length:=o3;have hno:((l.take q.ms.length).take m).contains (r:Int)=false:=by
   rw[Bool.eq_false_iff];intro hc;obtain⟨j,hj⟩:=ZxV.1 (Zx4.1 hc);rw[Zx1]at hj;split at hj
   ·rw[Zx1]at hj;split at hj
    ·have:=hl.one _ _ _ hj e;omega
    ·cases hj
   ·cases hj
  rw[hno,Int.toNat_natCast,o4]
  simp;omega
theorem Zoz {q:Qu}{h:Nat}{l:List Int}(hl:Row q h l)(x:Nat):(l.take q.ms.length).count (x:Int)=l.count (x:Int):=by
 conv=>rhs;rw[←List.take_append_drop q.ms.length l]
 rw[List.count_append]
 have:(l.drop q.ms.length).count (x:Int)=0:=List.count_eq_zero.2 fun hx=>by
  obtain⟨m,hm⟩:=ZxV.1 hx;rw[Zx3]at hm
  have:=(hl.on _ x hm).2.1
  omega
 omega
theorem ZjT {p:List (List Int)}{f:List Int→List Int}{x:Nat}(h:∀l∈p,(f l).count (x:Int)=l.count (x:Int)):cnt (p.map f) x=cnt p x:=by
 induction p with
 |nil=>rfl
 |cons l p ih=>
  have h1:=ih fun l hl=>h l (by simp[hl])
  have h2:=h l (by simp);unfold cnt at h1 ⊢;simp only[ZxZ,List.sum_cons]at h1 ⊢;omega
theorem LP.row {q:Qu}{p:List (List Int)}(hp:LP q p){l:List Int}(hl:l∈p):∃h:Nat,Row q h l:=by
 obtain⟨h,hh⟩:=ZxV.1 hl;exact⟨h,hp.rows h l hh⟩
theorem Zpt {q:Qu}(hq:q.ok){p:List (List Int)}(hp:LP q p)(hd:Done q p):q.right (q.ZvG p)=true:=by
 have hlen:(q.ZvG p).length=p.length:=by simp[Qu.ZvG]
 have h1:=hp.len;unfold Qu.right;rw[ZxO,ZxO];refine⟨⟨?_,?_⟩,?_⟩
 ·rw[decide_eq_true_eq,hlen];omega
 ·refine Zf7 fun h hh=>?_
  rw[hlen]at hh;have e:(q.ZvG p)[h]?=some (p[h].take q.ms.length):=by unfold Qu.ZvG;rw[ZxM,ZxL hh];rfl
  rw[e,Zym];exact Zm3 hq (hp.rows h _ (ZxL hh))
 ·refine Zf7 fun i hi=>?_
  rw[decide_eq_true_eq];unfold Qu.ZvG;rw[ZjT fun l hl=>by obtain⟨h,hh⟩:=hp.row hl;exact Zoz hh i];exact hd i hi
def padL (q:Qu)(l:List Int):List Int:=l++List.replicate (4-q.ms.length) (-1)
theorem Zhh {q:Qu}{l:List Int}(hl:l.length=q.ms.length){m r:Nat}(h:(padL q l)[m]?=some (r:Int)):l[m]?=some (r:Int):=by
 unfold padL at h;rw[Zyl]at h;split at h
 ·exact h
 ·have:=ZxQ h
  rw[List.mem_replicate]at this;omega
theorem ZsO {q:Qu}(hq:q.ok){h:Nat}{l:List Int}(hl:q.Zxq h l=true):Row q h (padL q l):=by
 have hm4:=hq.m;unfold Qu.Zxq at hl;rw[ZxO,decide_eq_true_eq,Zx7]at hl;obtain⟨hlen,hc⟩:=hl;have hcell:∀(m:Nat) (x:Int),l[m]?=some x→x = -1∨(0≤x∧x<q.rs.length∧q.may x.toNat m h=true∧x∉l.take m):=fun m x e=>by
  have h1:=hc m (List.mem_range.2 (ZxN.1 e).1);unfold Qu.Zxj at h1;rw[e,Zym]at h1;simp only[Zyk,ZxO,decide_eq_true_eq,Bool.not_eq_true',Bool.eq_false_iff]at h1;rcases h1 with h1|⟨⟨⟨h1,h2⟩,h3⟩,h4⟩
  ·exact .inl h1
  ·exact .inr ⟨h1,by omega,h4,fun hm=>h3 (Zx4.2 hm)⟩
 refine⟨by unfold padL;rw[ZxU,List.length_replicate];omega,fun x hx=>?_,fun m r e=>?_,fun m m' r e e'=>?_⟩
 ·unfold padL at hx;rcases Zyp.1 hx with hx|hx
  ·obtain⟨m,hm⟩:=ZxV.1 hx;rcases hcell m x hm with h1|h1
   ·exact .inl h1
   ·exact .inr h1.1
  ·rw[List.mem_replicate]at hx;exact .inl hx.2
 ·have e1:=Zhh hlen e;rcases hcell m r e1 with h1|⟨h1,h2,h3,_⟩
  ·omega
  ·rw[Int.toNat_natCast]at h3;exact⟨Zx0 _,by rw[←hlen];exact(ZxN.1 e1).1,(show r<q.rs.length by omega),h3⟩
 ·have e1:=Zhh hlen e;have e2:=Zhh hlen e';have key:∀a b:Nat,a<b→l[a]?=some (r:Int)→l[b]?=some (r:Int)→False:=fun a b hab ha hb=>by
   rcases hcell b r hb with h1|⟨_,_,_,h4⟩
   ·omega
   ·exact h4 (ZxQ (i:=a) (by rw[Zx1,if_pos hab];exact ha))
  rcases Nat.lt_trichotomy m m' with h1|h1|h1
  ·exact(key m m' h1 e1 e2).elim
  ·exact h1
  ·exact(key m' m h1 e2 e1).elim
theorem ZiU {q:Qu}{l:List Int}{x:Nat}:(padL q l).count (x:Int)=l.count (x:Int):=by
 unfold padL;rw[List.count_append]
 have:(List.replicate (4-q.ms.length) (-1:Int)).count (x:Int)=0:=List.count_eq_zero.2 fun hx=>by
  rw[List.mem_replicate]at hx;omega
 omega
theorem ZpQ {q:Qu}(hq:q.ok){p:List (List Int)}(h:q.right p=true):LP q (p.map (padL q))∧Done q (p.map (padL q))∧p.length≤40:=by
 unfold Qu.right at h;rw[ZxO,ZxO,decide_eq_true_eq]at h;obtain⟨⟨h1,h2⟩,h3⟩:=h;unfold Qu.Zxp at h2;unfold Qu.Zxs at h3;rw[Zx7]at h2 h3;refine⟨⟨fun k l e=>?_,by rw[ZxS];omega⟩,fun x hx=>?_,by omega⟩
 ·rw[ZxM,ZxP]at e;obtain⟨l0,e1,rfl⟩:=e
  have:=h2 k (List.mem_range.2 (ZxN.1 e1).1)
  rw[e1,Zym]at this;exact ZsO hq this
 ·rw[ZjT fun l _=>ZiU];simpa using h3 x (List.mem_range.2 hx)
theorem ZiR {p:List (List Int)}:∀(k j:Nat),endK p k≤j→j<k→liveL ((p[j]?).getD [])=false
 |k+1,j,h1,h2=>by
  unfold endK at h1;by_cases hl:liveL ((p[k]?).getD [])=true
  ·rw[if_pos hl]at h1;omega
  ·rw[if_neg hl]at h1;by_cases e:j=k
   ·subst e;simpa using hl
   ·exact ZiR k j h1 (by omega)
theorem ZlT {l:List Int}(h:liveL l=false)(x:Nat):l.count (x:Int)=0:=List.count_eq_zero.2 fun hx=>by
 unfold liveL at h;rw[List.any_eq_false]at h
 have:=h _ hx
 simp at this
theorem LP.take {q:Qu}{p:List (List Int)}(hp:LP q p)(T:Nat):LP q (p.take T):=by
 refine⟨fun h l e=>?_,by have:=hp.len;rw[ZxT];omega⟩;rw[Zx1]at e;split at e
 ·exact hp.rows h l e
 ·cases e
theorem ZqH {p:List (List Int)}{x:Nat}(h:∀l∈p,l.count (x:Int)=0):cnt p x=0:=by
 induction p with
 |nil=>rfl
 |cons l p ih=>
  have h1:=ih fun l hl=>h l (by simp[hl])
  have h2:=h l (by simp);unfold cnt at h1 ⊢;simp only[ZxZ,List.sum_cons]at h1 ⊢;omega
theorem Zqt {q:Qu}(hq:q.ok){p:List (List Int)}(h:q.right p=true):Feas q (endP p).toNat:=by
 obtain⟨h1,h2,h3⟩:=ZpQ hq h;have hb:=ZjP p p.length;have he:endP p=endK p p.length:=rfl;have hT:(endP p).toNat≤p.length:=by omega
 refine⟨(p.map (padL q)).take (endP p).toNat,h1.take _,by rw[ZxT,ZxS];omega,fun x hx=>?_⟩;rw[←h2 x hx]
 have:cnt (p.map (padL q)) x=cnt ((p.map (padL q)).take (endP p).toNat) x+cnt ((p.map (padL q)).drop (endP p).toNat) x:=by
  rw[←ZoB,List.take_append_drop]
 rw[this,ZqH (p:=(p.map (padL q)).drop _)]
 ·omega
 ·intro l hl;obtain⟨j,hj⟩:=ZxV.1 hl;rw[Zx3,ZxM,ZxP]at hj;obtain⟨l0,e1,rfl⟩:=hj;have hd:=ZiR (p:=p) p.length ((endP p).toNat+j) (by omega) (ZxN.1 e1).1;rw[e1,Zym]at hd;rw[ZiU,ZlT hd]
theorem early_spec {F:Nat}(hF:407<F){q:Qu}(hq:q.ok):(∃p,q.ZwE F=some p∧q.right (q.ZvG p)=true∧endP (q.ZvG p)=p.length∧p.length≤40∧Feas q p.length∧(∀T,T<p.length→¬Feas q T)∧(p.length=0∨Lack q (p.length-1)))∨(q.ZwE F=none∧(∀T,T≤40→¬Feas q T)∧Lack q 40):=by
 rcases Zqa hF hq with⟨p,h1,h2,h3,h4⟩|⟨h1,h2⟩
 ·have hr:=Zpt hq h2 h3;have hlen:(q.ZvG p).length=p.length:=by simp[Qu.ZvG]
  have hno:∀T,T<p.length→¬Feas q T:=fun T hT=>by
   rcases h4 with h4|h4
   ·omega
   ·exact h4.ZxH hq (by omega) (by have:=h2.len;omega)
  have hf:=Zqt hq hr;have hb:=ZjP (q.ZvG p) (q.ZvG p).length;have he:endP (q.ZvG p)=endK (q.ZvG p) (q.ZvG p).length:=rfl;have hge:¬(endP (q.ZvG p)).toNat<p.length:=fun hlt=>hno _ hlt hf
  exact .inl ⟨p,h1,hr,by omega,h2.len,⟨p,h2,rfl,h3⟩,hno,h4⟩
 ·exact .inr ⟨h1,fun T hT=>h2.ZxH hq hT (by omega),h2⟩
theorem Mt.map {q q':Qu}{h:Int}{P P':Nat→Prop}{w:List Int}(hw:Mt q h P 0 w)(hms:q'.ms.length=q.ms.length)(f:Int→Int)(hneg:f (-1) = -1)
  (hf:∀m r:Nat,w[m]?=some (r:Int)→f r = -1∨∃r':Nat,f r=(r':Int)∧P' r'∧q'.may r' m h=true)
  (hinj:∀r1 r2:Nat,(r1:Int)∈w→(r2:Int)∈w→f r1=f r2→f r1≠-1→r1=r2):Mt q' h P' 0 (w.map f):=by
 have key:∀m r':Nat,(w.map f)[m]?=some (r':Int)→∃r:Nat,w[m]?=some (r:Int)∧f r=(r':Int):=fun m r' e=>by
  rw[ZxM,ZxP]at e;obtain⟨x,h1,h2⟩:=e;rcases hw.ok x (ZxQ h1)with h3|h3
  ·subst h3;rw[hneg]at h2;omega
  ·exact⟨x.toNat,by rw[h1];congr 1;omega,by rw[←h2];congr 1;omega⟩
 refine⟨by simpa using hw.len,fun x hx=>?_,fun m r' e=>?_,fun m m' r' e e'=>?_⟩
 ·obtain⟨y,hy,rfl⟩:=ZxY.1 hx;rcases hw.ok y hy with h3|h3
  ·subst h3;exact .inl hneg
  ·obtain⟨r,rfl⟩:∃r:Nat,y=r:=⟨y.toNat,by omega⟩;obtain⟨m,hm⟩:=ZxV.1 hy;rcases hf m r hm with h4|⟨r',h4,_⟩
   ·exact .inl h4
   ·rw[h4];right;omega
 ·obtain⟨r,h1,h2⟩:=key m r' e;rcases hf m r h1 with h4|⟨r2,h4,h5,h6⟩
  ·omega
  ·rw[h4]at h2
   have:r2=r':=by omega
   subst this;exact⟨Zx0 _,by rw[hms];exact(hw.on m r h1).2.1,h5,h6⟩
 ·obtain⟨r,h1,h2⟩:=key m r' e;obtain⟨r2,h3,h4⟩:=key m' r' e'
  have:=hinj r r2 (ZxQ h1) (ZxQ h3) (by rw[h2,h4]) (by omega)
  subst this;exact hw.one _ _ _ h1 h3
theorem ZiV (f:Int→Int)(l:List Int)(x:Int)(h:∀y∈l,f y=x↔y=x):(l.map f).count x=l.count x:=by
 induction l with
 |nil=>rfl
 |cons a l ih=>
  rw[ZxZ,List.count_cons,List.count_cons,ih fun y hy=>h y (by simp[hy])]
  have:=h a (by simp)
  by_cases e:a=x
  ·rw[if_pos (by simpa using this.2 e),if_pos (by simpa using e)]
  ·rw[if_neg (by simpa using fun e'=>e (this.1 e')),if_neg (by simpa using e)]
theorem Feas.drop {q q':Qu}(hms:q'.ms.length=q.ms.length)(hrs:q'.rs.length≤q.rs.length)(hmay:∀(r m:Nat) (h:Nat),r<q'.rs.length→q.may r m h=true→q'.may r m h=true)(hh:∀x,x<q'.rs.length→(q'.run x).hours=(q.run x).hours){T:Nat}(hf:Feas q T):Feas q' T:=by
 obtain⟨p,a,b,c⟩:=hf;refine⟨p.map fun l=>l.map fun x=>if x<(q'.rs.length:Int)then x else -1,⟨fun h l e=>?_,by rw[ZxS];exact a.len⟩,by rw[ZxS];exact b,fun x hx=>?_⟩
 ·rw[ZxM,ZxP]at e;obtain⟨l0,h1,rfl⟩:=e;have R:=a.rows h l0 h1;refine R.map hms _ (by rw[if_pos (by omega)]) (fun m r e=>?_) (fun r1 r2 h1 h2 e hne=>?_)
  ·obtain⟨_,o2,o3,o4⟩:=R.on m r e;split
   ·rename_i hlt;exact .inr ⟨r,rfl,(show r<q'.rs.length by omega),hmay r m h (by omega) o4⟩
   ·exact .inl rfl
  ·split at e<;>split at e<;>first|omega|(rename_i k1 _;rw[if_neg k1]at hne;exact absurd rfl hne)
 ·rw[ZjT fun l _=>?_]
  ·rw[c x (by omega),hh x hx]
  ·refine ZiV _ l (x:Int) fun y _=>?_
   constructor
   ·intro e;split at e
    ·exact e
    ·omega
   ·intro e;subst e;rw[if_pos (by omega)]
end
end Go.Proofs.YtfpmaennjlggeaaGreatDoor.Qn
namespace Go.Proofs.YtfpmaennjlggeaaGreatDoor
open Go.RowKit
section
theorem Zop {q:Qn.Qu}(h:earlE 408 q=0):q.ok∧∃p,q.ZwE 408=some p∧q.ZvS 408=.tup [Qn.planP (q.ZvG p),.int .i64 p.length,.int .i64 0]∧(∀T,T<p.length→¬Qn.Feas q T)∧Qn.Feas q p.length:=by
 unfold earlE at h;split at h
 ·rename_i h1;exact absurd h h1
 ·rename_i h1;have hc:q.check=0:=Decidable.not_not.1 h1;have hq:=Qn.Qu.Zxa hc;refine⟨hq,?_⟩;rcases Qn.early_spec (F:=408) (by decide) hq with⟨p,h2,_,_,_,h3,h4,_⟩|h2
  ·refine⟨p,h2,?_,h4,h3⟩;unfold Qn.Qu.ZvS;rw[if_neg h1,h2]
  ·rw[h2.1]at h;cases h
theorem Zqx {rs rs':List Qn.Rq}(hp:∃l,rs'=rs++l)(h:earlE 408 (ZaJ rs)=0)(h':earlE 408 (ZaJ rs')=0):
  ∃x y:PV,∃a b:Nat,(ZaJ rs).ZvS 408=.tup [x,.int .i64 a,.int .i64 0]∧(ZaJ rs').ZvS 408=.tup [y,.int .i64 b,.int .i64 0]∧a≤b:=by
 obtain⟨_,p,_,h2,h3,_⟩:=Zop h;obtain⟨_,p',_,k2,_,k4⟩:=Zop h';refine⟨_,_,_,_,h2,k2,?_⟩;obtain⟨l,rfl⟩:=hp;have hr:∀x,x<rs.length→(ZaJ (rs++l)).run x=(ZaJ rs).run x:=fun x hx=>by
  unfold Qn.Qu.run ZaJ;dsimp only;rw[List.getElem?_append_left hx]
 have hf:Qn.Feas (ZaJ rs) p'.length:=Qn.Feas.drop (q:=ZaJ (rs++l)) (q':=ZaJ rs) rfl (by show rs.length≤(rs++l).length;rw[ZxU];omega) (fun r m h hr' hm=>by
  have e:=hr r hr';unfold Qn.Qu.may at hm ⊢;rw[e]at hm;exact hm) (fun x hx=>by rw[hr x hx]) k4
 exact Nat.le_of_not_lt fun hlt=>h3 _ hlt hf
theorem Zm0 {F:Nat}{st w:Wk}{g:FuncId}{nums:List Int}(hw:doW F st g nums=.ok w):∃l,w.runs=st.runs++l:=by
 unfold doW at hw;iterate 5
  split at hw
  ·split at hw
   ·obtain⟨l,_,rfl⟩:=ZaP hw;exact⟨[],(Zx9 _).symm⟩
   ·cases hw
 split at hw
 ·obtain⟨l,h1,rfl⟩:=ZaP hw;obtain⟨rfl,_⟩:=Zjk h1;exact⟨_,rfl⟩
 ·cases hw
theorem Zm1 {F:Nat}{st:Wk}(s:ByteArray):∃l,(doB F st s).1.runs=st.runs++l:=by
 unfold doB lineM;cases hp:ZaD s with
 |none=>exact⟨[],(Zx9 _).symm⟩
 |some q=>
  obtain⟨g,nums⟩:=q;dsimp only;cases hd:doW F st g nums with
  |error e=>exact⟨[],(Zx9 _).symm⟩
  |ok w=>exact Zm0 hd
theorem Zh5 {F:Nat}:∀{l:List ByteArray} {st:Wk},∃r,(foldD (doB F) st l).1.runs=st.runs++r
 |[],st=>⟨[],(Zx9 _).symm⟩
 |x::l,st=>by
  obtain⟨a,ha⟩:=Zm1 (F:=F) (st:=st) x;obtain⟨b,hb⟩:=Zh5 (F:=F) (l:=l) (st:=(doB F st x).1);exact⟨a++b,by show(foldD (doB F) (doB F st x).1 l).1.runs=_;rw[hb,ha,List.append_assoc]⟩
theorem ZiH {D:Wk→ByteArray→Wk×Int}:∀{l l':List ByteArray} {st:Wk},(foldD D st (l++l')).1=(foldD D (foldD D st l).1 l').1
 |[],l',st=>rfl
 |x::l,l',st=>by
  simp only[List.cons_append,foldD];exact ZiH (l:=l)
theorem Zpr {F:Nat}{L:List ByteArray}{k:Nat}:∃r,(foldD (doB F) wk0 L).1.runs=(foldD (doB F) wk0 (L.take k)).1.runs++r:=by
 have h:=ZiH (D:=doB F) (l:=L.take k) (l':=L.drop k) (st:=wk0);rw[List.take_append_drop]at h;rw[h];exact Zh5
end
section
attribute [local simp] AS.exp expG Box.ren AV.map AV.Zu9 Zau noRet Site.Zu6 Box.Zu3 AV.Zu3 AV.Zu4 retB dropL AS.Zvd renL outG outOk Zas inG fnOf lookA Zyc
attribute [local simp] Box.Zu0 Site.Zu1
section
attribute [local simp] retFz frzL AS.frz AV.frz AV.frzL Box.frz AS.tidy AS.ZvF frzsL retOk renB toLoc
def hallN:PV:=.lst false 1 [.lst false 2 [.agg [.int .i64 10,.int .i64 13]],.emp (some true)]
theorem ZrQ {F:Nat}(hF:407<F)(rs:List Qn.Rq)(hr:rs.length≤1000):Gives Tryz.prog 12 [.agg [hallN,.lst false 3 (rs.map Qn.Rq.pv)]] ((ZaJ rs).ZvS F):=by
 have hec:=Qn.earliest_c hF (ZaJ rs) (show(2:Nat)≤1000000 by decide) (show rs.length≤1000000 by omega) (fun l hl=>by
  simp[ZaJ]at hl;rcases hl with rfl|rfl<;>decide)
 refine Zai.Zwz (ys:=[(ZaJ rs).pv]) hec rfl ?_;intro j x y m v hx hy h
 match j with
 |0=>
  cases hx;cases hy;refine ZrV (cs:=[hallN,.lst false 3 (rs.map Qn.Rq.pv)]) (cs':=[ZgC,.lst false 3 (rs.map Qn.Rq.pv)]) rfl (fun i c c' d h1 h2 hd=>?_) h
  match i with
  |0=>cases h1;cases h2;exact Zbw 5 _ _ rfl _ _ hd
  |1=>cases h1;cases h2;exact hd
theorem ZlE {L:List ByteArray}{k:Nat}(h:Zbq L=true):Zbq (L.take k)=true:=by
 obtain⟨h1,h2⟩:=Zbt h;unfold Zbq;rw[ZxO,decide_eq_true_eq,Zx7];exact⟨fun s hs=>by simpa using h2 s (List.mem_of_mem_take hs),by rw[ZxT];omega⟩
theorem Zr8 (L:List ByteArray)(hl:L.length≤9223372036854775807)(at_:Int)(ha:0≤at_∧at_≤255):Gives Tryz.prog 3 [strsP L,.int .u8 at_] (.bool true):=by
 have hth:=ZoO L hl;refine cSR L3 ?_;intro R hR;simp[-getElem?_pos,L3];refine cG [strsP L] hth ?_;cases ht:thinB L with
 |false=>
  simp[-getElem?_pos];refine cG [] ZbW ?_;simp[-getElem?_pos];rw[←hR];exact⟨rfl,by simp⟩
 |true=>
 have hl5:L.length≤55:=by
  unfold thinB at ht;rw[ZxO,decide_eq_true_eq]at ht;exact ht.2
 have hrr:=Zky L (by omega);simp[-getElem?_pos];refine cG [strsP L] hrr ?_;cases hrt:Zbq L with
 |false=>
  simp[-getElem?_pos];refine cG [] ZbW ?_;simp[-getElem?_pos];rw[←hR];exact⟨rfl,by simp⟩
 |true=>
 have hF:407<408:=by decide
 obtain⟨k,hk⟩:∃k:Nat,at_.tmod ((L.length:Int)+1)=(k:Int)∧k≤L.length:=by
  refine⟨(at_.tmod ((L.length:Int)+1)).toNat,?_,?_⟩
  ·have:=Int.tmod_nonneg ((L.length:Int)+1) ha.1
   omega
  ·have h1:=Int.tmod_nonneg ((L.length:Int)+1) ha.1;have h2:=Int.tmod_lt_of_pos at_ (show(0:Int)<(L.length:Int)+1 by omega);omega
 obtain⟨hk,hkl⟩:=hk;have hp1:=ZkH hF L hrt;have hp2:=ZkH hF (L.take k) (ZlE hrt);obtain⟨h1,h2⟩:=Zbt hrt;have i1:=ZfU (l:=L) (k:=0) wk0_I wk0_J;have i2:=ZfU (l:=L.take k) (k:=0) wk0_I wk0_J;obtain⟨r,hpre⟩:=Zpr (F:=408) (L:=L) (k:=k);generalize keepD (doB 408) wk0 L=kp1 at hp1;generalize keepD (doB 408) wk0 (L.take k)=kp2 at hp2;generalize(foldD (doB 408) wk0 L).1=w at hp1 i1 hpre;generalize(foldD (doB 408) wk0 (L.take k)).1=u at hp2 i2 hpre;have hwr:=i1.1.r6;have hur:=i2.1.r6;obtain⟨x,y,a,b,e1,e2,hab⟩:=Zqx (rs:=u.runs) (rs':=w.runs) ⟨r,hpre⟩ i2.2.q i1.2.q;have c1:=ZrQ hF u.runs (by omega);have c2:=ZrQ hF w.runs (by omega);rw[e1]at c1;rw[e2]at c2;have hlen:u.runs.length≤w.runs.length:=by rw[hpre,ZxU];omega
 have w1:IntKind.i64.wrap at_=at_:=wrap64 (by omega);have w2:IntKind.i64.wrap ((L.length:Int)+1)=(L.length:Int)+1:=wrap64 (by omega);have htk:strsP (L.take k)=.lst false 1 ((L.map PV.str).take k):=by unfold strsP;rw[List.map_take]
 rw[htk]at hp2;simp[-getElem?_pos,strsP,w1,w2,hk];refine .inl<|cQ [] [strsP L] hp1 ?_;have hb1:k.ble L.length=true:=Nat.ble_eq_true_of_le hkl;simp[-getElem?_pos,frzsL,strsP,Wk.pv,hb1];refine .inl<|cQ [] [_] hp2 ?_;simp[-getElem?_pos,frzsL,Wk.pv,nble,setAt,runsP];unfold hallN at c1 c2;refine .inl<|cQ [.loc 56 0] [_] c1 ?_;simp[-getElem?_pos,frzsL,AS.frz,AV.frz,AV.frzL,Box.frz,nble,setAt];refine .inl<|cQ [] [_] c2 ?_;simp[-getElem?_pos,frzsL,hab,hlen];refine cG [] ZbW ?_;simp[-getElem?_pos];rw[←hR];exact⟨rfl,by simp⟩
end
end
section
open Go.ChangeShapes Go.WideShapes Go.ChangeAt Go.RowKit
set_option maxRecDepth 100000
theorem Zg1 (v0 v1:Value)(W:World){H:Type}{enc:TypeId×Value→H}{base:Nat}{sp:Nat→Bool}{hd:Bool}{d0 d1:DataW H}{p0 p1:List MemPlace}(hg:Glob W.mem W)
  (k0:Value.okWide Tryz.prog W .any base 22 v0) (h0:DataW.Trod enc Tryz.prog W 0 sp hd 22 v0 d0 p0)
  (k1:Value.okWide Tryz.prog W .any base 5 v1) (h1:DataW.Trod enc Tryz.prog W 0 sp hd 5 v1 d1 p1):
  Calls Tryz.prog 3 #[v0,v1] W fun e w'=>e=.returned (.bool true)∧Keep [] W w':=by
 obtain⟨n0,h0⟩:=h0;obtain⟨s0,w0,r0⟩:=Zm9 k0 h0;obtain⟨z1,rfl,rfl,rfl,y1⟩:=open_int Tryz.underlying5 k1 h1;obtain⟨s1,w1,rfl⟩:∃s:Nat,s<256∧z1=(s:Int):=by
  have e1:IntKind.u8.min=0:=by decide
  have e2:IntKind.u8.max=255:=by decide
  have y:=ZgA y1;exact⟨z1.toNat,by omega,by omega⟩
 refine ZgO (xs:=[strsP s0,.int .u8 (s1:Int)]) (b:=true) ((Zr8 s0 w0 s1 ⟨by omega,by omega⟩).mono (fun _ _ h=>h.1)) rfl (fun j v x e1 e2=>?_) hg
 match j with
 |0=>simp at e1 e2;subst e1 e2;exact r0
 |1=>simp at e1 e2;subst e1 e2;exact .int .u8 (s1:Int)
 |j+2=>simp at e1
theorem ZfF (os:Os)(started:os.Started)(H:Type)(enc:TypeId×Value→H):
  ReturnsInHanded {} Tryz.checked os 3 .any (fun w args=>(Rows.bookTimesSpec.pre enc Tryz.prog Tryz.f3 Rows.bookTimesRow.domain false w args∧laidMetH Tryz.prog Rows.bookTimesRow.laid w)∧sizedMet enc Tryz.prog Tryz.f3 (OpenSpec.ofChange Rows.bookTimesSpec) false w args)
   (Rows.bookTimesSpec.post enc Tryz.prog Tryz.f3 false true false false):=by
 refine ZfS (C:=Tryz.checked) (X:=fun w _=>laidMetH Tryz.prog Rows.bookTimesRow.laid w) (fun _ _ _ hh h=>h.of_heap hh) own started (by kernel_rfl) Tryz.func3
  (ChangeSpec.witness_shaped (enc:=enc) (C:=Tryz.checked) (os:=os) (X:=fun w _=>laidMetH Tryz.prog Rows.bookTimesRow.laid w) false (World.laidAll Tryz.prog os Rows.bookTimesRow.laid) #[.slice none 0 0,.int .u8 0] 8 (World.laidAll_os _ _ _)
   (World.shaped_of_ZipB (by kernel_rfl) (by kernel_rfl)) (by kernel_rfl) (by kernel_rfl) (by kernel_rfl)
   (by rw[MakeChecks.laidMetH_plain _ _ _ (by kernel_rfl)];exact laidMet_laidAll _ (by kernel_rfl) (by kernel_rfl))) ?_
 intro W base args ds gs before hval0 hW hL hsh;have hval:∀(j:Nat) t v,Tryz.f3.params[j]?=some t→args[j]?=some v→Value.okWide Tryz.prog W .any base t v:=hval0;rw[MakeChecks.laidMetH_plain _ _ _ (by kernel_rfl)]at hL;have hg:=Zod hsh (Lib.laidMet.reads hL (by simp[Rows.bookTimesRow])) (Lib.laidMet.reads hL (by simp[Rows.bookTimesRow])) (Lib.laidMet.reads hL (by simp[Rows.bookTimesRow]));have hW':=hW;obtain⟨p,q,hA0,hV,rfl,hfz,hnd⟩:=hW;have hA:DataW.TrodAll enc Tryz.prog W 0 (fun _=>true) true Tryz.f3.params.toList args.toList ds p:=hA0;rw[Tryz.params3]at hA hval;obtain⟨v0,vs0,d0,ds0,p0,q0,hargs,rfl,rfl,h0,r0⟩:=trodAll_cons hA;obtain⟨v1,vs1,d1,ds1,p1,q1,rfl,rfl,rfl,h1,r1⟩:=trodAll_cons r0;obtain⟨rfl,rfl,rfl⟩:=trodAll_nil r1;have hargs':args=#[v0,v1]:=by
  apply Array.ext';exact hargs
 subst hargs';have k0:=hval 0 _ v0 rfl rfl;have k1:=hval 1 _ v1 rfl rfl;obtain⟨rfl,rfl⟩:=trodVars_none hV;refine(Zg1 v0 v1 W hg k0 h0 k1 h1).mono fun e W' ⟨he,hk⟩=>?_
 subst he;exact⟨_,rfl,ZkG (tb:=4) laidP Zkz fullP (by decide +kernel) rfl rfl rfl Tryz.underlying4 hW' hk⟩
end
section
set_option maxRecDepth 100000
theorem bG0:(Rows.bookTimesRow.wf (OpenSpec.ofChange Rows.bookTimesSpec))=true:=by kernel_rfl
theorem bG1:(laidOutB Tryz.prog)=true:=laidP
theorem bG2:(mapsRowed Tryz.prog)=true:=Zkz
theorem bG3:(Tryz.f3.params.all (Tryz.prog.readableRec ·))=true:=by kernel_rfl
theorem bG4:(namedTie Tryz.prog Rows.bookTimesRow.named Rows.bookTimesSpec.vars)=true:=by kernel_rfl
theorem bG9:((Rows.bookTimesRow.inPlace==Tryz.prog.inPlace 3))=true:=by kernel_rfl
theorem bG10:((Rows.bookTimesRow.unfollowed==Tryz.prog.unfollowed 3))=true:=by kernel_rfl
theorem bG11:((Rows.bookTimesRow.recurses==Tryz.prog.recurses 3))=true:=by kernel_rfl
theorem bG12:((Rows.bookTimesRow.named==Tryz.prog.varsNamed 3))=true:=by kernel_rfl
theorem bG22:((Rows.bookTimesRow.plainKeys==Tryz.prog.plainKeys))=true:=by kernel_rfl
theorem bG24:(Tryz.prog.stopsHeard)=true:=by kernel_rfl
theorem bG25:(Tryz.prog.mayEnter)=true:=by kernel_rfl
theorem bG26:((Rows.bookTimesRow.lifted==Tryz.prog.liftsFinal))=true:=by kernel_rfl
theorem bG27:((Tryz.prog.make==some Rows.bookTimesRow.make))=true:=by kernel_rfl
theorem Zq9:joinedFacts Tryz.pinned.checked.prog 3 Tryz.f3 Rows.bookTimesSpec Rows.bookTimesRow=true:=
 ZeK bG0 bG1 bG2 bG3 bG4 (by kernel_rfl) (by kernel_rfl) (by kernel_rfl) (by kernel_rfl) bG9 bG10 bG11 bG12 (by kernel_rfl) (by kernel_rfl) (by kernel_rfl) (by kernel_rfl) (by kernel_rfl) (by kernel_rfl) (by kernel_rfl) (by kernel_rfl) (by kernel_rfl) bG22 (by kernel_rfl) bG24 bG25 bG26 bG27 (by kernel_rfl) (by kernel_rfl) (by kernel_rfl) (by kernel_rfl)
end
section
open Go.ChangeShapes Go.WideShapes Go.ChangeAt Go.RowKit
set_option maxRecDepth 100000
theorem Zra (os:Os)(started:os.Started)(H:Type)(enc:TypeId×Value→H):ReturnsInHanded Rows.bookTimesRow.assume Tryz.pinned.checked os 3 .any (Rows.bookTimesRow.pre enc Tryz.pinned.checked.prog Tryz.f3 (OpenSpec.ofChange Rows.bookTimesSpec)) (Rows.bookTimesSpec.post enc Tryz.pinned.checked.prog Tryz.f3 Rows.bookTimesRow.apart Rows.bookTimesRow.fresh Rows.bookTimesRow.handsOn Rows.bookTimesRow.again):=ZfF os started H enc
theorem Zhi:Rows.bookTimesRow.holds Tryz.pinned (OpenSpec.ofChange Rows.bookTimesSpec):=
 OpenClaim.holds_of_wide 3 Tryz.f3 rfl rfl rfl rfl rfl rfl rfl ⟨rfl,rfl,rfl,rfl,rfl⟩ rfl rfl rfl rfl rfl (by kernel_rfl) Tryz.func3 Zq9
  (of_decide_eq_true (by kernel_rfl)) (by unfold Func.isWrapper;first|(rw[if_pos (by decide +kernel)];kernel_rfl)|(rw[if_neg (by decide +kernel)];exact⟨rfl,rfl⟩))
  (fun os started H enc _=>Zra os started H enc)
theorem bGWf:Rows.bookTimesRow.wfByText (OpenSpec.ofChange Rows.bookTimesSpec)=true:=by kernel_rfl
theorem ZuR : Tryz.pinned.checked.prog.mainIs = some (true, "2d087c6f4cca3a53560cedf75fd690d9382a23561c3a3180de98d17e69e74364".toList) := by kernel_rfl
theorem ZtK:true=Tryz.pinned.checked.prog.looks []:=by kernel_rfl
theorem bGBy:false=Rows.bookTimesRow.goesBy Tryz.pinned.checked.prog:=by kernel_rfl
theorem ZtJ : Tryz.prog.funcNamed "tensile/tensilelaw12.BookTimes" = some 3 := by kernel_rfl
theorem ZtI:([22,5].all fun u=>!Tryz.prog.wantsStandIn u)=true:=by kernel_rfl
theorem cardBookTimes:Rows.BookTimesCardSaid:=
 Claim7.holds_tied_plain_at .later [] [.data, .data, .data, .data, .sentinel, .sentinel, .pinned] true (true, "2d087c6f4cca3a53560cedf75fd690d9382a23561c3a3180de98d17e69e74364") true
  Zhi (fun _ h=>by cases h) bGWf (fun _ h=>by cases h) bookTimes_row_tie rfl ⟨rfl,rfl⟩ ZuR rfl
  (fun f fn hf hfn=>by
   obtain rfl:f=3:=Option.some.inj (ZtJ.symm.trans hf) |>.symm;obtain rfl:fn=Tryz.f3:=(Option.some.inj (Tryz.func3.symm.trans hfn)).symm;exact⟨ZtK,fun j t ht=>by
    rw[Tryz.params3]at ht;have hm:t∈([22,5]:List TypeId):=by simpa using Array.mem_of_getElem? ht
    exact(show Tryz.prog.wantsStandIn t=false by simpa using Zx7.1 ZtI t hm)⟩)
  bGBy
end
end Go.Proofs.YtfpmaennjlggeaaGreatDoor
