import Derived.Test.YtlllhbmbnjnoiaaGreatDoorP0
import Derived.Test.YtlllhbmbnjnoiaaGreatDoorP4
import Derived.Test.YtlllhbmbnjnoiaaGreatDoorP3
import Derived.Test.YtlllhbmbnjnoiaaGreatDoorP2
import Derived.JoinedOf
import Derived.Test.YtlllhbmbnjnoiaaGreatDoorCards
import Derived.Test.YtlllhbmbnjnoiaaGreatDoorTie
import Derived.SevenTiedAt
set_option linter.unusedSimpArgs false
set_option linter.unusedVariables false
set_option maxHeartbeats 32000000
set_option maxRecDepth 100000
namespace Go.Proofs.YtlllhbmbnjnoiaaGreatDoor
open Go.RowKit
open Go.Proofs.Tryz Go.Proofs.YtlllhbmbnjnoiaaGreatDoor.Tryz
section
theorem rL (n lo hi:Int):aD prog 107 [.i n,.i lo,.i hi] (.bool (decide (lo<=n)&&decide (n<=hi))):=by
 refine cS L107 ?_;cases h1:decide (lo<=n)<;>cases h2:decide (n<=hi)<;>simp[-decide_eq_true_eq,-decide_eq_false_iff_not,L107,h1,h2]
theorem Z5 {n:Int}:∀{l:List Lt} {k:Nat},(∀x∈l,x.num≠n)/\MV l n k = -1\/∃i x,l[i]?=some x/\x.num=n/\MV l n k=((k+i:Nat):Int)
 |[],k=>.inl ⟨(fun x h=>absurd h (List.not_mem_nil)),rfl⟩
 |x::l,k=>by
  unfold MV;by_cases h:x.num=n
  .rw[if_pos h];exact .inr ⟨0,x,rfl,h,rfl⟩
  .rw[if_neg h];rcases Z5 (n:=n) (l:=l) (k:=k+1)with⟨h1,h2⟩|⟨i,y,h1,h2,h3⟩
   .exact .inl ⟨fun y hy=>(jN.1 hy).elim (fun e=>e▸h) (h1 y),h2⟩
   .exact .inr ⟨i+1,y,h1,h2,by rw[h3];congr 1;omega⟩
def Iz (w:Wk)(a b c:Int)(k:Nat):AS:=⟨[(1,.pv (.aF false 1 [.i a,.i b,.i c])),(2,.ptr (.loc 2 0) 0),(4,.ptr (.loc 4 0) 0),(6,.ptr (.loc 6 0) 0),(7,.pv (.i (k:Int)))],
 [(.loc 64 0,.arr 62 4 ((w.aK.take k).map Lt.pv)),(.loc 6 0,.cells [.pv (.aF false 7 (w.aA.map Ct.pv)),.pv (.aF false 1 (w.bad.map iP)),.vec (.loc 64 0) 4 0 k,.pv (.aF false 4 (w.aH.map Tt.pv)),.pv (.aF false 3 (w.runs.map Qn.Rq.pv))]),(.loc 2 0,.cells w.cells),(.loc 4 0,.cells [.pv (.emp (some true)),.pv (.emp (some true)),.pv (.emp (some true)),.pv (.emp (some true)),.pv (.emp (some true))])]⟩
theorem Zm9 {q:Nat}(w:Wk)(hI:sA q w)(hq:q<=100)(a b c:Int):aD prog 61 [w.pv,.aF false 1 [.i a,.i b,.i c]] (sM w ((pL w.aK ⟨a,b,c,false⟩).map fun l=>{ w with aK:=l })):=by
 have yI:=hI.l;have D6:=Yt w (by omega) a;have i1:=rL a 1 99;have i2:=rL b 4 30;have i3:=rL c 0 1000;have jI:w.pv=.agg [.aF false 7 (w.aA.map Ct.pv),.aF false 1 (w.bad.map iP),.aF false 4 (w.aK.map Lt.pv),.aF false 4 (w.aH.map Tt.pv),.aF false 3 (w.runs.map Qn.Rq.pv)]:=rfl;refine cF [.loc 90 0] L61 ?_;obtain⟨V,hV⟩:∃V,V=sM w ((pL w.aK ⟨a,b,c,false⟩).map fun l=>{ w with aK:=l }):=⟨_,rfl⟩;rw[<-hV];generalize hR:(fun(r:AV) (B:List (Site×aJ))=>r=.pv V/\B=[])=R;have gB:¬((decide (1<=a)&&decide (a<=99))=true/\(decide (4<=b)&&decide (b<=30))=true/\(decide (0<=c)&&decide (c<=1000))=true)->V=.bL [w.pv,.i 2]:=fun h=>by
  rw[hV];unfold pL;rw[if_neg h];rfl
 rw[jI]at D6 gB ⊢;simp[L61];refine cG [_,_,_] i1 ?_;generalize tW:(decide (1<=a)&&decide (a<=99))=d1 at *;cases d1
 .have hv:=gB (by simp);subst hv;simp;rw[<-hR];exact⟨by simp,by simp⟩
 simp;refine cG [_,_,_] i2 ?_;generalize wF:(decide (4<=b)&&decide (b<=30))=d2 at *;cases d2
 .have hv:=gB (by simp);subst hv;simp;rw[<-hR];exact⟨by simp,by simp⟩
 simp;refine cG [_,_,_] i3 ?_;generalize T2:(decide (0<=c)&&decide (c<=1000))=d3 at *;cases d3
 .have hv:=gB (by simp);subst hv;simp;rw[<-hR];exact⟨by simp,by simp⟩
 clear gB;have hlm:pL w.aK ⟨a,b,c,false⟩=if a∈w.aK.map Lt.num then .error 6 else .ok (w.aK.take (dI (w.aK.map Lt.num) a)++⟨a,b,c,false⟩::w.aK.drop (dI (w.aK.map Lt.num) a)):=by
  unfold pL;rw[if_pos ⟨tW,wF,T2⟩]
 rw[hlm]at hV;simp;refine cG [_,_] D6 ?_;rcases Z5 (n:=a) (l:=w.aK) (k:=0)with⟨mM,hf⟩|⟨i,x,hx,UL,hf⟩
 case inr=>
  have hv:V=.bL [w.pv,.i 6]:=by
   rw[hV,if_pos (iI.2 ⟨x,dK hx,UL⟩)];rfl
  rw[jI]at hv;subst hv;have h0:(0:Int)<=((0+i:Nat):Int):=Int.natCast_nonneg _;simp[-Int.natCast_add,hf];rw[<-hR];exact⟨by simp,by simp⟩
 have Av:a∉w.aK.map Lt.num:=fun h=>by
  obtain⟨x,h1,h2⟩:=iI.1 h;exact mM x h1 h2
 rw[if_neg Av]at hV;have hv:V=.bL [.agg [.aF false 7 (w.aA.map Ct.pv),.aF false 1 (w.bad.map iP),.aF false 4 ((w.aK.take (dI (w.aK.map Lt.num) a)++⟨a,b,c,false⟩::w.aK.drop (dI (w.aK.map Lt.num) a)).map Lt.pv),.aF false 4 (w.aH.map Tt.pv),.aF false 3 (w.runs.map Qn.Rq.pv)],.i 0]:=hV;clear hV hlm;simp[hf];refine eO (fun m τ=>∃k:Nat,k<=w.aK.length/\m=w.aK.length-k/\(∀(j:Nat) (y:Lt),j<k->w.aK[j]?=some y->y.num<a)/\τ=Iz w a b c k) ⟨w.aK.length,Iz w a b c 0,Sub.trans' (Sub.mk (by simp[AS.lY]) (by simp[AS.lY,Wk.cells])) (lY 64 62 4 (s:=.loc 6 0) (cs:=[.pv (.aF false 7 (w.aA.map Ct.pv)),.pv (.aF false 1 (w.bad.map iP)),.pv (.emp (some true)),.pv (.aF false 4 (w.aH.map Tt.pv)),.pv (.aF false 3 (w.runs.map Qn.Rq.pv))]) 2 rfl rfl (by decide)),0,gV _,rfl,(fun j y h=>absurd h (Nat.not_lt_zero j)),rfl⟩ ?_;rintro J hJ m τ ⟨k,hk,rfl,kN,rfl⟩;have Be:¬(k<w.aK.length/\∃y,w.aK[k]?=some y/\y.num<a)->dI (w.aK.map Lt.num) a=k:=fun h=>Xt hI.s (by rw[fV];exact hk) (fun j z hj hz=>by
   rw[bW]at hz;obtain⟨y,hy,rfl⟩:=dZ.1 hz;exact kN j y hj hy) fun z hz=>by
  rw[bW]at hz;obtain⟨y,hy,rfl⟩:=dZ.1 hz;have xG:=(bZ.1 hy).1;by_cases R8:y.num<a
  .exact absurd ⟨xG,y,hy,R8⟩ h
  .omega
 by_cases pZ:k<w.aK.length/\∃y,w.aK[k]?=some y/\y.num<a
 .obtain⟨aI,y,hy,R8⟩:=pZ;have hg:(w.aK.map Lt.pv)[k]?=some (.agg [.i y.num,.i y.pieces,.i y.limit,.bool y.passed]):=by rw[bW,hy];rfl
  have hw:=bN (k:=k) (by omega);have aB:=hJ _ _ ⟨k+1,aI,rfl,(fun j z hj hz=>by
   by_cases he:j=k
   .subst he;rw[hy]at hz;cases hz;exact R8
   .exact kN j z (by omega) hz),rfl⟩
  have aG:w.aK.length-(k+1)<w.aK.length-k:=by omega
  have jS:(w.aK.take (k+1)).map Lt.pv=(w.aK.take k).map Lt.pv++[.agg [.i y.num,.i y.pieces,.i y.limit,.bool y.passed]]:=by rw[mJ,hy,mF];rfl
  have nU:((w.aK.take k).map Lt.pv).length=k:=by rw[fV,gJ];omega
  have D3:k+1<=1000000:=by omega
  unfold Iz at aB ⊢;rw[jS]at aB;clear hJ;generalize QX:(w.aK.take k).map Lt.pv=TL at *;have T4:TL.take k=TL:=fO (by omega);simp[Wk.cells,aI,↓hg,R8,aP,hw,D3,nU];exact⟨_,_,aG,Sub.mk (by simp) (by simp[Wk.cells]),aB⟩
 have wE:=Be pZ;clear hJ Be;rw[wE]at hv;have nU:((w.aK.take k).map Lt.pv).length=k:=by rw[fV,gJ];omega
 have CJ:(w.aK.take k++⟨a,b,c,false⟩::w.aK.drop k).map Lt.pv=(w.aK.take k).map Lt.pv++[.agg [.i a,.i b,.i c,.bool false]]++(w.aK.map Lt.pv).drop k:=by
  rw[mF,iL,List.map_drop,H9];rfl
 rw[CJ]at hv;subst hv;have D3:k+1<=1000000:=by omega
 have pW:IntKind.i64.wrap (k:Int)=(k:Int):=wrap64 (by omega);have X2:(w.aK.map Lt.pv).take w.aK.length=w.aK.map Lt.pv:=fO (by simp);have nE:((w.aK.map Lt.pv).drop k).length=w.aK.length-k:=by rw[uH,fV]
 have VA:k+1+(w.aK.length-k)<=1000000:=by omega
 unfold Iz;generalize QX:(w.aK.take k).map Lt.pv=TL at *;have T4:TL.take k=TL:=fO (by omega);have hT3:(TL++[PV.agg [.i a,.i b,.i c,.bool false]]).take (k+1)=TL++[PV.agg [.i a,.i b,.i c,.bool false]]:=fO (by rw[gD];simp;omega);have Cf:k+1+(w.aK.length-k)<=k+(w.aK.length-k+1):=by omega
 have QY:(TL++PV.agg [.i a,.i b,.i c,.bool false]::(w.aK.map Lt.pv).drop k).take (k+1+(w.aK.length-k))=TL++PV.agg [.i a,.i b,.i c,.bool false]::(w.aK.map Lt.pv).drop k:=fO (by rw[gD,pB,nU,nE];omega);by_cases aI:k<w.aK.length
 .obtain⟨y,hy⟩:∃y,w.aK[k]?=some y:=⟨w.aK[k],bB aI⟩;have hg:(w.aK.map Lt.pv)[k]?=some (.agg [.i y.num,.i y.pieces,.i y.limit,.bool y.passed]):=by rw[bW,hy];rfl
  have R8:¬y.num<a:=fun h=>pZ ⟨aI,y,hy,h⟩
  simp[-List.map_drop,Wk.cells,aI,↓hg,R8,aP,D3,VA,nU,pW,nE,hk,X2,Cf,QY];rw[<-hR];exact⟨by simp[-List.map_drop,H9],by simp⟩
 .simp[-List.map_drop,Wk.cells,aI,aP,D3,VA,nU,pW,nE,hk,X2,Cf,QY];rw[<-hR];exact⟨by simp[-List.map_drop,H9],by simp⟩
theorem ZnY {ls:List Lt}{i:Nat}{x:Lt}(hs:(ls.map Lt.num).Pairwise (·<·))(hx:ls[i]?=some x):dI (ls.map Lt.num) x.num=i:=by
 obtain⟨hl,he⟩:=bZ.1 hx;have hm:(ls.map Lt.num)[i]?=some x.num:=by rw[bW,hx];rfl
 obtain⟨qZ,he2⟩:=bZ.1 hm;refine Xt hs (by rw[fV];omega) (fun k y hk hy=>?_) (fun y hy=>by rw[hm]at hy;cases hy;exact Int.le_refl _);obtain⟨MB,he3⟩:=bZ.1 hy
 have:=Q2.1 hs k i MB qZ hk
 rw[he2,he3]at this;exact this
theorem Zks {b a r:Int}:eB b a r=1\/eB b a r=2\/eB b a r=3:=by
 unfold eB;split
 .exact .inl rfl
 .split
  .exact .inr (.inl rfl)
  .exact .inr (.inr rfl)
theorem ZpO {rs:List Bool}(h:(cY rs).2.2=0):(cY rs).1=1\/(cY rs).1=2\/(cY rs).1=3:=by
 unfold cY at *;split at h
 .rename_i h1;rw[if_pos h1];exact .inr (.inr rfl)
 .rename_i h1;rw[if_neg h1];split at h
  .rename_i h2;rw[if_pos h2];split at h
   .rename_i h3;rw[if_pos h3];exact .inr (.inr rfl)
   .rename_i h3;rw[if_neg h3];split at h
    .cases h
    .rename_i h4;rw[if_neg h4];exact Zks
  .rename_i h2;rw[if_neg h2];split at h
   .cases h
   .rename_i h3;rw[if_neg h3];exact Zks
theorem Xu {S:Int->Int->Bool}{G:Tt->Bool}{num:Int}:∀{l:List Tt} {rs:List Bool},lD rs->(qY S G num l rs).1=1\/(qY S G num l rs).1=2\/(qY S G num l rs).1=3
 |[],rs,_=>.inr (.inr rfl)
 |t::l,rs,h=>by
  rw[Zv];split
  .split
   .rename_i h3;exact Xu ((h.step _).2 h3)
   .exact ZpO (h.step _).1
  .exact Xu h
attribute [local irreducible] Bk.qU eY Bk.contra Bk.held Bk.span Bk.nums Bk.iG Bk.qF stM nM qY
theorem ZsN {q:Nat}(w:Wk)(hI:sA q w)(hq:q<=100)(hJ:AH w)(n:Int):aD prog 63 [w.pv,.i n] (sM w ((jH (cH w.aA w.bad w.aH) w.aK n).map fun l=>{ w with aK:=l })):=by
 have yI:=hI.l;have D6:=Yt w (by omega) n;have jI:w.pv=.agg [.aF false 7 (w.aA.map Ct.pv),.aF false 1 (w.bad.map iP),.aF false 4 (w.aK.map Lt.pv),.aF false 4 (w.aH.map Tt.pv),.aF false 3 (w.runs.map Qn.Rq.pv)]:=rfl;refine cF [.loc 44 0] L63 ?_;obtain⟨V,hV⟩:∃V,V=sM w ((jH (cH w.aA w.bad w.aH) w.aK n).map fun l=>{ w with aK:=l }):=⟨_,rfl⟩;rw[<-hV];generalize hR:(fun(r:AV) (B:List (Site×aJ))=>r=.pv V/\B=[])=R;rw[jI]at D6 ⊢;simp[L63];refine cG [_,_] D6 ?_;rcases Z5 (n:=n) (l:=w.aK) (k:=0)with⟨mM,hf⟩|⟨i,x,hx,UL,hf⟩
 .have hv:V=.bL [w.pv,.i 7]:=by
   rw[hV];unfold jH;split
   .rename_i y hy;rw[if_neg (mM y (dK hy))];rfl
   .rfl
  rw[jI]at hv;subst hv;simp[hf];rw[<-hR];exact⟨by simp,by simp⟩
 rw[rX]at hf;subst UL;have yJ:=(bZ.1 hx).1;have hg:(w.aK.map Lt.pv)[i]?=some (.agg [.i x.num,.i x.pieces,.i x.limit,.bool x.passed]):=by rw[bW,hx];rfl
 have h0:¬(i:Int)<0:=by omega
 have hpm:jH (cH w.aA w.bad w.aH) w.aK x.num=if x.passed=true then .error 6 else if cH w.aA w.bad w.aH x=3 then .error 8 else if cH w.aA w.bad w.aH x=1 then .ok (w.aK.set i { x with passed:=true })else .error 11:=by
  unfold jH;rw[ZnY hI.s hx,hx];dsimp only;rw[if_pos rfl]
 rw[hpm]at hV;have oJ:=Zm w hI hq hJ.nc x;have Rn:(qY (stM w.aA w.bad) (nM w.aA w.bad x.limit) x.num w.aH []).1=cH w.aA w.bad w.aH x:=Ga;have Dg:=Xu (S:=stM w.aA w.bad) (G:=nM w.aA w.bad x.limit) (num:=x.num) (l:=w.aH) ZkL;rw[Rn]at oJ Dg;rw[jI,show x.pv=.agg [.i x.num,.i x.pieces,.i x.limit,.bool x.passed] from rfl]at oJ;generalize cH w.aA w.bad w.aH x=v at *;generalize(qY (stM w.aA w.bad) (nM w.aA w.bad x.limit) x.num w.aH []).2=many at oJ;cases hp:x.passed with
 |true=>
  rw[if_pos hp]at hV;have hv:V=.bL [w.pv,.i 6]:=hV;rw[jI]at hv;subst hv;rw[hp]at hg;simp[hf,h0,↓hg,aP];rw[<-hR];exact⟨by simp,by simp⟩
 |false=>
 rw[if_neg (by rw[hp];decide)]at hV;rw[hp]at hg oJ;simp[hf,h0,↓hg,aP];refine cG [_,_] oJ ?_;rcases Dg with rfl|rfl|rfl
 .have hv:V=.bL [.agg [.aF false 7 (w.aA.map Ct.pv),.aF false 1 (w.bad.map iP),.aF false 4 ((w.aK.set i { x with passed:=true }).map Lt.pv),.aF false 4 (w.aH.map Tt.pv),.aF false 3 (w.runs.map Qn.Rq.pv)],.i 0]:=hV;have Tf:w.aK.length<=1000000:=by omega
  have X2:(w.aK.map Lt.pv).take w.aK.length=w.aK.map Lt.pv:=fO (by simp);rw[List.map_set]at hv;subst hv;simp[yJ,↓hg,cV,aP,Tf];rw[<-hR,fO (by simp)];exact⟨rfl,rfl⟩
 .have hv:V=.bL [w.pv,.i 11]:=hV;rw[jI]at hv;subst hv;simp[hf,h0,yJ,↓hg,cV,aP];rw[<-hR];exact⟨by simp,by simp⟩
 .have hv:V=.bL [w.pv,.i 8]:=hV;rw[jI]at hv;subst hv;simp[aP];rw[<-hR];exact⟨by simp,by simp⟩
end
section
attribute [local irreducible] Bk.qU eY Bk.contra Bk.held Bk.span Bk.nums Bk.iG Bk.qF stM nM qY
def pQ:AV:=.pv (.emp (some true))
def KQ (w:Wk)(q:Tt)(i c j:Nat):AS:=⟨[(1,.pv (.aF false 1 [.i q.gA,.i q.item,.i q.day,.i q.rd])),(2,.ptr (.loc 2 0) 0),(4,.ptr (.loc 4 0) 0),(6,.pv (.i (i:Int))),(9,.pv (.i (c:Int))),(10,.pv (.i (j:Int)))],
 [(.loc 2 0,.cells w.cells),(.loc 4 0,.cells [pQ,pQ,pQ,pQ,pQ])]⟩
def tnJ (w:Wk)(q:Tt):AS:=⟨[(4,.ptr (.loc 4 0) 0),(12,.ptr (.loc 12 0) 0),(112,.vec (.loc 112 0) 4 0 w.aH.length),(114,.vec (.loc 114 0) 4 0 1)],
 [(.loc 114 0,.arr 53 4 [.agg [.i q.gA,.i q.item,.i q.day,.i q.rd]]),(.loc 112 0,.arr 53 4 (w.aH.map Tt.pv)),(.loc 12 0,.cells w.cells),(.loc 4 0,.cells [pQ,pQ,pQ,pQ,pQ])]⟩
theorem Zm5 {k0:Nat}(w:Wk)(hI:sA k0 w)(hq:k0<=100)(hJ:AH w)(q:Tt):aD prog 62 [w.pv,.aF false 1 [.i q.gA,.i q.item,.i q.day,.i q.rd]] (sM w ((kP (stM w.aA w.bad) (cH w.aA w.bad w.aH) w.aK w.aH q).map fun l=>{ w with aH:=l })):=by
 have yI:=hI.l;have nU:=hI.t;have gN:=hI.c;have xJ:=hI.b;have D6:=Yt w (by omega) q.gA;have i1:=rL q.item 2 5;have i2:=rL q.day 0 1000;have i3:=rL q.rd 0 2000;have jI:w.pv=.agg [.aF false 7 (w.aA.map Ct.pv),.aF false 1 (w.bad.map iP),.aF false 4 (w.aK.map Lt.pv),.aF false 4 (w.aH.map Tt.pv),.aF false 3 (w.runs.map Qn.Rq.pv)]:=rfl;refine cF [.loc 115 0] L62 ?_;obtain⟨V,hV⟩:∃V,V=sM w ((kP (stM w.aA w.bad) (cH w.aA w.bad w.aH) w.aK w.aH q).map fun l=>{ w with aH:=l }):=⟨_,rfl⟩;rw[<-hV];generalize hR:(fun(r:AV) (B:List (Site×aJ))=>r=.pv V/\B=[])=R;have gB:¬((decide (2<=q.item)&&decide (q.item<=5))=true/\(decide (0<=q.day)&&decide (q.day<=1000))=true/\(decide (0<=q.rd)&&decide (q.rd<=2000))=true)->V=.bL [w.pv,.i 2]:=fun h=>by
  rw[hV];unfold kP;rw[if_neg h];rfl
 rw[jI]at D6 gB ⊢;simp[L62];refine cG [_,_,_] i1 ?_;generalize tW:(decide (2<=q.item)&&decide (q.item<=5))=d1 at *;cases d1
 .have hv:=gB (by simp);subst hv;simp;rw[<-hR];exact⟨by simp,by simp⟩
 simp;refine cG [_,_,_] i2 ?_;generalize wF:(decide (0<=q.day)&&decide (q.day<=1000))=d2 at *;cases d2
 .have hv:=gB (by simp);subst hv;simp;rw[<-hR];exact⟨by simp,by simp⟩
 simp;refine cG [_,_,_] i3 ?_;generalize T2:(decide (0<=q.rd)&&decide (q.rd<=2000))=d3 at *;cases d3
 .have hv:=gB (by simp);subst hv;simp;rw[<-hR];exact⟨by simp,by simp⟩
 clear gB;have QM:2<=q.item/\q.item<=5:=by rw[dJ,decide_eq_true_eq,decide_eq_true_eq]at tW;exact tW
 have G8:0<=q.day/\q.day<=1000:=by rw[dJ,decide_eq_true_eq,decide_eq_true_eq]at wF;exact wF
 unfold kP at hV;rw[tW,wF,T2,if_pos ⟨rfl,rfl,rfl⟩]at hV;simp;refine cG [_,_] D6 ?_;rcases Z5 (n:=q.gA) (l:=w.aK) (k:=0)with⟨mM,hf⟩|⟨i,x,hx,UL,hf⟩
 .have hv:V=.bL [w.pv,.i 7]:=by
   rw[hV];split
   .rename_i y hy;rw[if_neg (mM y (dK hy))];rfl
   .rfl
  rw[jI]at hv;subst hv;simp[hf];rw[<-hR];exact⟨by simp,by simp⟩
 rw[rX]at hf;rw[<-UL,ZnY hI.s hx,hx]at hV;dsimp only at hV;rw[if_pos rfl]at hV;have yJ:=(bZ.1 hx).1;have hg:(w.aK.map Lt.pv)[i]?=some (.agg [.i x.num,.i x.pieces,.i x.limit,.bool x.passed]):=by rw[bW,hx];rfl
 have h0:¬(i:Int)<0:=by omega
 have oJ:=Zm w hI hq hJ.nc x;have Rn:(qY (stM w.aA w.bad) (nM w.aA w.bad x.limit) x.num w.aH []).1=cH w.aA w.bad w.aH x:=Ga;rw[Rn]at oJ;rw[jI,show x.pv=.agg [.i x.num,.i x.pieces,.i x.limit,.bool x.passed] from rfl]at oJ;generalize cH w.aA w.bad w.aH x=v at *;generalize(qY (stM w.aA w.bad) (nM w.aA w.bad x.limit) x.num w.aH []).2=many at oJ;simp[hf,h0,↓hg,aP];refine cG [_,_] oJ ?_;by_cases bT:v=3/\x.passed=false
 case neg=>
  have hv:V=.bL [w.pv,.i 8]:=by
   rw[hV];cases hp:x.passed with
   |true=>rfl
   |false=>rw[if_neg (by decide),if_neg (fun h=>bT ⟨h,hp⟩)];rfl
  rw[jI]at hv;subst hv;by_cases h3:v=3
  .have hp:x.passed=true:=by
    cases hp:x.passed with
    |true=>rfl
    |false=>exact absurd ⟨h3,hp⟩ bT
   rw[hp]at hg;simp[↓hg,aP,h3];rw[<-hR];exact⟨by simp,by simp⟩
  .simp[aP,h3];rw[<-hR];exact⟨by simp,by simp⟩
 obtain⟨rfl,hp⟩:=bT;rw[hp,if_neg (by decide),if_pos rfl]at hV;rw[hp]at hg;simp[hf,h0,yJ,↓hg,cV,aP];refine eO (fun m τ=>∃j:Nat,j<=w.aH.length/\m=w.aH.length-j/\τ=KQ w q i (kS (w.aH.take j) q.gA) j) ⟨w.aH.length,KQ w q i 0 0,Sub.mk (by simp) (by simp[pQ,Wk.cells]),0,gV _,rfl,by simp[kS]⟩ ?_;rintro J hJ m τ ⟨j,hj,rfl,rfl⟩;by_cases aI:j<w.aH.length
 .obtain⟨t,LS⟩:∃t,w.aH[j]?=some t:=⟨w.aH[j],bB aI⟩;have Jr:(w.aH.map Tt.pv)[j]?=some (.agg [.i t.gA,.i t.item,.i t.day,.i t.rd]):=by rw[bW,LS];rfl
  have hw:=bN (k:=j) (by omega);have aG:w.aH.length-(j+1)<w.aH.length-j:=by omega
  have aB:=hJ _ _ ⟨j+1,aI,rfl,rfl⟩;have S7:=ZkW (ts:=w.aH.take j) (n:=q.gA);rw[gJ]at S7;have ZY:=bN (k:=kS (w.aH.take j) q.gA) (by omega);rw[ZgG LS]at aB;clear hJ;generalize kS (w.aH.take j) q.gA=c at *;by_cases kN:t.gA=q.gA
  .rw[if_pos kN]at aB;simp[KQ,pQ,Wk.cells,aI,↓Jr,aP,hw,ZY,kN];exact⟨_,_,aG,Sub.mk (by simp) (by simp[pQ,Wk.cells]),aB⟩
  .rw[if_neg kN]at aB;simp[KQ,pQ,Wk.cells,aI,↓Jr,aP,hw,kN];exact⟨_,_,aG,Sub.mk (by simp[KQ]) (by simp[KQ,pQ,Wk.cells]),aB⟩
 have he:j=w.aH.length:=by omega
 subst he;rw[nF];clear hJ aI hj;rw[UL]at hV;generalize kS w.aH q.gA=c at *;by_cases ES:x.pieces<=(c:Int)
 .rw[if_neg (by omega)]at hV;have hv:V=.bL [w.pv,.i 3]:=hV;rw[jI]at hv;subst hv;simp[KQ,pQ,Wk.cells,↓hg,aP,ES];rw[<-hR];exact⟨by simp,by simp⟩
 rw[if_pos (by omega)]at hV;have vZ:=Zib w hI.bk (by omega) (by omega) q.gA q.item q.day q.rd (by omega) QM.2 G8.1 G8.2;rw[jI]at vZ;simp[KQ,pQ,Wk.cells,↓hg,aP,ES];refine cG [_,_] vZ ?_;cases hs:stM w.aA w.bad q.item q.day with
 |false=>
  rw[hs,if_neg (by decide)]at hV;have hv:V=.bL [w.pv,.i 10]:=hV;rw[jI]at hv;subst hv;simp;rw[<-hR];exact⟨by simp,by simp⟩
 |true=>
  rw[hs,if_pos rfl]at hV;have hv:V=.bL [.agg [.aF false 7 (w.aA.map Ct.pv),.aF false 1 (w.bad.map iP),.aF false 4 (w.aK.map Lt.pv),.aF false 4 ((w.aH++[q]).map Tt.pv),.aF false 3 (w.runs.map Qn.Rq.pv)],.i 0]:=hV;rw[mF]at hv;have hm:(w.aH.map Tt.pv).take w.aH.length=w.aH.map Tt.pv:=fO (by simp);have HP:w.aH.length<=1000000:=by omega
  have UZ:w.aH.length+1<=1000000:=by omega
  simp[aP];refine DU (fun τ=>τ=tnJ w q) ?_ ?_
  .simp[gO,gY,aP,HP]
   repeat' apply And.intro
   all_goals exact Sub.mk (by simp) (by simp[pQ,Wk.cells])
  rintro τ rfl;subst hv;simp[tnJ,pQ,Wk.cells,gO,gY,aP,UZ];rw[<-hR];exact⟨by simp;exact fO (by simp),by simp⟩
end
section
attribute [local irreducible] Bk.qU eY Bk.contra Bk.held Bk.span Bk.nums Bk.iG Bk.qF stM nM qY Bk.fault
def Ct.row (x:Ct):List PV:=[.i x.num,.i x.it,.i x.src,.i x.day,.i x.valid,.i x.diff.lo,.i x.diff.hi]
def crJ (w:Wk)(x:Ct):AS:=⟨[(2,.ptr (.loc 2 0) 0),(4,.ptr (.loc 4 0) 0),(6,.ptr (.loc 6 0) 0),(18,.vec (.loc 18 0) 7 0 w.aA.length),(42,.vec (.loc 42 0) 7 0 1)],
 [(.loc 42 0,.arr 82 7 [.agg x.row]),(.loc 18 0,.arr 82 7 (w.aA.map Ct.pv)),(.loc 6 0,.cells w.cells),(.loc 4 0,.cells [pQ,pQ,pQ,pQ,pQ]),(.loc 2 0,.cells w.cells)]⟩
theorem ZsW {k0:Nat}(w:Wk)(hI:sA k0 w)(hq:k0<=100)(x:Ct):aD prog 59 [w.pv,.aF false 1 x.row] (sM w ((lX w.aA w.bad x).map fun l=>{ w with aA:=l })):=by
 have gN:=hI.c;have xJ:=hI.b;have M7:=Zkz w (by omega) x.num;have HT:aD prog 77 [] (.aF false 4 JL):=ZkA;have jI:w.pv=.agg [.aF false 7 (w.aA.map Ct.pv),.aF false 1 (w.bad.map iP),.aF false 4 (w.aK.map Lt.pv),.aF false 4 (w.aH.map Tt.pv),.aF false 3 (w.runs.map Qn.Rq.pv)]:=rfl;obtain⟨u,hu⟩:∃u:Wk,u={ w with aA:=w.aA++[x]}:=⟨_,rfl⟩;have Rr:u.aA=w.aA++[x]:=by rw[hu]
 have hub:u.bad=w.bad:=by rw[hu]
 have S5:u.aA.length<=1000:=by rw[Rr,gD];simp;omega
 have D6:=Zpz ⟨qV,u.aA⟩ (show qV.length<=1000 by decide) S5;have ET:=Yq u S5 (by rw[hub];omega);have mB:Bk.fault ⟨qV,u.aA⟩=0->aD prog 106 [(fA u.aA u.bad).pv] (.bool (fA u.aA u.bad).contra):=fun h=>Znj _ (FU (Bk.U6.1 h))
 have UO:u.pv=.agg [.aF false 7 (w.aA.map Ct.pv++[.agg x.row]),.aF false 1 (w.bad.map iP),.aF false 4 (w.aK.map Lt.pv),.aF false 4 (w.aH.map Tt.pv),.aF false 3 (w.runs.map Qn.Rq.pv)]:=by
  rw[hu];show PV.agg [.aF false 7 ((w.aA++[x]).map Ct.pv),_,_,_,_]=_;rw[mF];rfl
 have hfp:Bk.pv ⟨qV,u.aA⟩=.agg [.aF false 4 JL,.aF false 7 (w.aA.map Ct.pv++[.agg x.row])]:=by
  rw[Rr];show PV.agg [_,.aF false 7 ((w.aA++[x]).map Ct.pv)]=_;rw[mF];rfl
 refine cF [.loc 43 0] L59 ?_;obtain⟨V,hV⟩:∃V,V=sM w ((lX w.aA w.bad x).map fun l=>{ w with aA:=l }):=⟨_,rfl⟩;rw[<-hV];generalize hR:(fun(r:AV) (B:List (Site×aJ))=>r=.pv V/\B=[])=R;unfold lX at hV;rw[jI]at M7 ⊢;simp[L59,Ct.row];refine cG [_,_] M7 ?_;cases mA:kn w x.num with
 |true=>
  have hv:V=.bL [w.pv,.i 6]:=by
   rw[hV,if_pos (show(w.aA.any fun y=>decide (y.num=x.num))=true from mA)];rfl
  rw[jI]at hv;subst hv;simp;rw[<-hR];exact⟨by simp,by simp⟩
 |false=>
 rw[if_neg (show ¬(w.aA.any fun y=>decide (y.num=x.num))=true by unfold kn at mA;rw[mA];decide),<-Rr,<-hub]at hV;have hm:(w.aA.map Ct.pv).take w.aA.length=w.aA.map Ct.pv:=fO (by simp);have HP:w.aA.length<=1000000:=by omega
 have UZ:w.aA.length+1<=1000000:=by omega
 have nD:(w.aA.map Ct.pv++[PV.agg x.row]).take (w.aA.length+1)=w.aA.map Ct.pv++[PV.agg x.row]:=fO (by simp);rw[hfp]at D6;rw[UO]at ET;have Vm:(fA u.aA u.bad).pv=.agg [.aF false 4 JL,.aF false 7 ((fR u.aA u.bad).map Ct.pv)]:=rfl;rw[Vm]at ET mB;generalize(fR u.aA u.bad).map Ct.pv=GC at *;simp[aP];refine DU (fun τ=>τ=crJ w x) ?_ ?_
 .simp[gO,gY,aP,HP]
  repeat' apply And.intro
  all_goals exact Sub.mk (by simp) (by simp[pQ,Wk.cells,Ct.row])
 rintro τ rfl;simp[crJ,pQ,Wk.cells,gO,gY,aP,UZ];refine cQ [.loc 43 0] [] HT ?_;simp[aM,nD];refine cG [_] D6 ?_;by_cases x7:Bk.fault ⟨qV,u.aA⟩=0
 case neg=>
  have hv:V=.bL [w.pv,.i (Bk.fault ⟨qV,u.aA⟩)]:=by rw[hV,if_neg x7];rfl
  rw[jI]at hv;subst hv;simp[x7];rw[<-hR];exact⟨by simp,by simp⟩
 have mB:=mB x7;rw[if_pos x7]at hV;simp[x7];refine .inl<|cQ [] [_] ET ?_;simp[aM];refine cG [_] mB ?_;have cZ:=FU (bad:=u.bad) (Bk.U6.1 x7);cases Z2:(fA u.aA u.bad).contra with
 |true=>
  have hv:V=.bL [w.pv,.i 9]:=by
   rw[hV,if_neg (fun h=>by rw[Zfd cZ h]at Z2;cases Z2)];rfl
  rw[jI]at hv;subst hv;simp;rw[<-hR];exact⟨by simp,by simp⟩
 |false=>
  have hv:V=.bL [u.pv,.i 0]:=by
   rw[hV,Zsl cZ Z2,if_pos rfl,hu];rfl
  rw[UO]at hv;subst hv;simp;rw[<-hR];exact⟨by simp,by simp⟩
end
end Go.Proofs.YtlllhbmbnjnoiaaGreatDoor
namespace Go.Proofs.YtlllhbmbnjnoiaaGreatDoor.Qn
open Go.RowKit
open Go.Proofs.Tryz Go.Proofs.YtlllhbmbnjnoiaaGreatDoor.Tryz
theorem Gu {w:List Int}{m:Nat}{x y:Int}(h:w[m]?=some x):(x::w.set m y).Perm (y::w):=by
 induction w generalizing m with
 |nil=>simp at h
 |cons a r ih=>
  cases m with
  |zero=>
   simp at h;subst h;simp only[List.set_cons_zero];exact List.Perm.swap y a r
  |succ m=>
   have h':r[m]?=some x:=by simpa using h
   simp only[List.set_cons_succ];exact(List.Perm.swap a x _).trans (((ih h').cons a).trans (List.Perm.swap y a r))
structure TK (q:Qu)(h:Int)(run:Nat)(ms:List Nat)(t:List Bool)(w:List Int)(g:GR):Prop where
 up:∀m:Nat,t[m]?=some true->g.1[m]?=some true
 same:∀m:Nat,t[m]?=some true->g.2.1[m]?=w[m]?
 yes:g.2.2=true->(-1::g.2.1).Perm ((run:Int)::w)
 no:g.2.2=false->g.2.1=w/\(∀m∈ms,g.1[m]?=some true)/\∀m:Nat,g.1[m]?=some true->t[m]?=some false->∃r:Nat,w[m]?=some (r:Int)/\∀m'∈q.F3 r h q.ms.length,g.1[m']?=some true
theorem Gv {t:List Bool}{m m':Nat}(h:t[m']?=some true):(t.set m true)[m']?=some true:=by
 by_cases e:m'=m
 .subst e;rw[O2 (bZ.1 h).1]
 .rw[List.getElem?_set_ne (fun e'=>e e'.symm)];exact h
theorem Zft {t:List Bool}{m m':Nat}(h:t[m]?=some false)(h':t[m']?=some true):m≠m':=fun e=>by subst e;rw[h]at h';cases h'
theorem ZeC {q:Qu}{h:Int}{rec:Nat->List Bool->List Int->GR}{n:Nat}
  (cZ:∀run t w,run<q.rs.length->GW q t w->GW q (rec run t w).1 (rec run t w).2.1/\A2 (rec run t w).1<=A2 t)
  (nB:∀r t w,r<q.rs.length->GW q t w->A2 t<=n->TK q h r (q.F3 r h q.ms.length) t w (rec r t w)) {run:Nat} (hr:run<q.rs.length):
  ∀(l:List Nat),(∀m∈l,m<4)->∀(t:List Bool) (w:List Int),GW q t w->A2 t<=n+1->TK q h run l t w (nK rec run l t w)
 |[],_,t,w,_,_=>⟨fun _ h=>h,fun _ _=>rfl,fun h=>(by cases h),fun _=>⟨rfl,fun m hm=>(by cases hm),fun m h1 h2=>by rw[show(nK rec run [] t w).1=t from rfl,h2]at h1;cases h1⟩⟩
 |m::r,hl,t,w,hw,hu=>by
  obtain⟨b,x,h1,h2,h3⟩:=hw.at (hl m (by simp));have lH:∀m∈r,m<4:=fun m hm=>hl m (by simp[hm])
  unfold nK;rw[h1,h2];simp only[rW];cases b with
  |true=>
   rw[if_pos rfl];have S:=ZeC cZ nB hr r lH t w hw hu;exact⟨S.up,S.same,S.yes,fun h0=>⟨(S.no h0).1,fun m' P8=>by
    rcases jN.1 P8 with e|e
    .subst e;exact S.up _ h1
    .exact(S.no h0).2.1 m' e,(S.no h0).2.2⟩⟩
  |false=>
   rw[if_neg (by simp)];have Ad:=Zmu h1;have yH:m<t.length:=(bZ.1 h1).1;have jK:(t.set m true)[m]?=some true:=O2 yH;split
   .rename_i hx;subst hx;exact⟨fun m' h'=>Gv h',fun m' h'=>by
     show(w.set m run)[m']?=_;rw[List.getElem?_set_ne (Zft h1 h')],fun _=>Gu h2,fun h0=>by cases h0⟩
   .rename_i hx;obtain⟨i,rfl⟩:∃i:Nat,x=i:=⟨x.toNat,by rcases h3 with h3|h3;exact absurd h3 hx;omega⟩;have hi:i<q.rs.length:=by rcases h3 with h3|h3;exact absurd h3 hx;omega
    simp only[H7];have S:=nB i (t.set m true) w hi (hw.set m) (by omega);obtain⟨k1,k2⟩:=cZ i (t.set m true) w hi (hw.set m);generalize rec i (t.set m true) w=g at *;obtain⟨t',w',b'⟩:=g;simp only at *;split
    .rename_i hb;subst hb;have X3:w'[m]?=some (i:Int):=(S.same m jK).trans h2;refine⟨fun m' h'=>S.up m' (Gv h'),fun m' h'=>?_,fun _=>?_,fun h0=>by cases h0⟩
     .show(w'.set m run)[m']?=_;rw[List.getElem?_set_ne (Zft h1 h')];exact S.same m' (Gv h')
     .have p1:=Gu (y:=(run:Int)) X3;have p2:=S.yes rfl;show(-1::w'.set m run).Perm _;refine List.Perm.cons_inv (a:=(i:Int)) ?_;exact(List.Perm.swap _ _ _).trans ((p1.cons (-1)).trans ((List.Perm.swap _ _ _).trans ((p2.cons _).trans (List.Perm.swap _ _ _))))
    .rename_i hb;have nL:b'=false:=by cases b';rfl;exact absurd rfl hb
     subst nL;obtain⟨n1,n2,n3⟩:=S.no rfl;subst n1;have T:=ZeC cZ nB hr r lH t' w' k1 (by omega);refine⟨fun m' h'=>T.up m' (S.up m' (Gv h')),fun m' h'=>T.same m' (S.up m' (Gv h')),T.yes,fun h0=>?_⟩;obtain⟨o1,o2,o3⟩:=T.no h0;refine⟨o1,fun m' P8=>?_,fun m' H3 uA=>?_⟩
     .rcases jN.1 P8 with e|e
      .subst e;exact T.up _ (S.up _ jK)
      .exact o2 m' e
     .have P8:m'<t'.length:=by rw[k1.t4,<-hw.t4];exact(bZ.1 uA).1
      cases ht':t'[m']with
      |false=>exact o3 m' H3 (by rw[bB P8,ht'])
      |true=>
       have ht2:t'[m']?=some true:=by rw[bB P8,ht']
       by_cases e:m'=m
       .subst e;exact⟨i,h2,fun m2 nD=>T.up _ (n2 m2 nD)⟩
       .obtain⟨r0,e1,e2⟩:=n3 m' ht2 (by rw[List.getElem?_set_ne (fun e'=>e e'.symm)];exact uA);exact⟨r0,e1,fun m2 nD=>T.up _ (e2 m2 nD)⟩
theorem Zsb {t:List Bool}(h:A2 t=0){m:Nat}(hm:m<t.length):t[m]?=some true:=by
 have:∀b∈t,b≠false:=fun b hb e=>by
  subst e
  have:=List.count_pos_iff.2 hb
  unfold A2 at h;omega
 have h2:=this t[m] (zX hm);rw[bB hm];cases hh:t[m]
 .rw[hh]at h2;exact absurd rfl h2
 .rfl
theorem ZgN {q:Qu}(hq:q.ok)(h:Int):∀(n run:Nat) (t:List Bool) (w:List Int),run<q.rs.length->GW q t w->A2 t<=n->TK q h run (q.F3 run h q.ms.length) t w (q.y9 h n run t w)
 |0,run,t,w,_,hw,hu=>⟨fun _ h=>h,fun _ _=>rfl,fun h=>(by cases h),fun _=>⟨rfl,fun m hm=>Zsb (t:=t) (Nat.le_zero.1 hu) (by have:=Li hq m hm;have:=hq.m;rw[hw.t4];omega),fun m h1 h2=>by rw[show(q.y9 h 0 run t w).1=t from rfl,h2]at h1;cases h1⟩⟩
 |n+1,run,t,w,hr,hw,hu=>ZeC (n:=n) (fun run t w hr hw=>Mr hq h n run t w hr hw) (fun r t w hr hw hu=>ZgN hq h n r t w hr hw hu) hr _ (fun m hm=>by have:=Li hq m hm;have:=hq.m;omega) t w hw hu
theorem WV {q:Qu}{i:Nat}{h:Int}{m:Nat}:m∈q.F3 i h q.ms.length↔m<q.ms.length/\q.may i m h=true:=by
 unfold Qu.F3;rw[fO (by simp)];simp[iU,List.mem_range]
structure Mt (q:Qu)(h:Int)(P:Nat->Prop)(j:Nat)(w:List Int):Prop where
 len:w.length=4
 ok:∀x∈w,x = -1\/0<=x
 on:∀m r:Nat,w[m]?=some (r:Int)->j<=m/\m<q.ms.length/\P r/\q.may r m h=true
 one:∀m m' r:Nat,w[m]?=some (r:Int)->w[m']?=some (r:Int)->m=m'
def F5 (q:Qu)(h:Int)(w:List Int):Prop:=∀m r:Nat,w[m]?=some (r:Int)->m∈q.F3 r h q.ms.length
theorem F5.set {q:Qu}{h:Int}{w:List Int}(hw:F5 q h w){m run:Nat}(hm:m∈q.F3 run h q.ms.length):F5 q h (w.set m run):=by
 intro m' r e;rw[List.getElem?_set]at e;split at e
 .rename_i e1;split at e
  .have h1:(run:Int)=r:=by simpa using e
   have h2:run=r:=by omega
   subst h2;subst e1;exact hm
  .cases e
 .exact hw m' r e
theorem Zt {q:Qu}{h:Int}{rec:Nat->List Bool->List Int->GR}(nB:∀r t w,F5 q h w->F5 q h (rec r t w).2.1){run:Nat}:∀(l:List Nat),(∀m∈l,m∈q.F3 run h q.ms.length)->∀(t:List Bool) (w:List Int),F5 q h w->F5 q h (nK rec run l t w).2.1
 |[],_,t,w,hw=>hw
 |m::r,hl,t,w,hw=>by
  have hm:=hl m (by simp);have lH:∀m∈r,m∈q.F3 run h q.ms.length:=fun m hm=>hl m (by simp[hm])
  unfold nK;split
  .exact Zt nB r lH t w hw
  .split
   .exact hw.set hm
   .split
    .exact(nB _ _ _ hw).set hm
    .exact Zt nB r lH _ _ (nB _ _ _ hw)
theorem Zlf {q:Qu}{h:Int}:∀(n run:Nat) (t:List Bool) (w:List Int),F5 q h w->F5 q h (q.y9 h n run t w).2.1
 |0,run,t,w,hw=>hw
 |n+1,run,t,w,hw=>Zt (fun r t w hw=>Zlf n r t w hw) _ (fun m hm=>hm) t w hw
theorem Ed {l:List Int}{x:Int}:l.count x<=1↔∀m m':Nat,l[m]?=some x->l[m']?=some x->m=m':=by
 induction l with
 |nil=>simp
 |cons a l ih=>
  rw[List.count_cons];constructor
  .intro hc m m' e e';have hl:∀k:Nat,l[k]?=some x->1<=l.count x:=fun k hk=>List.count_pos_iff.2 (dK hk)
   cases m with
   |zero=>
    cases m' with
    |zero=>rfl
    |succ m'=>
     have ha:a=x:=by simpa using e
     have h2:=hl m' (by simpa using e');rw[if_pos (by simp[ha])]at hc;omega
   |succ m=>
    cases m' with
    |zero=>
     have ha:a=x:=by simpa using e'
     have h2:=hl m (by simpa using e);rw[if_pos (by simp[ha])]at hc;omega
    |succ m'=>
     have:=ih.1 (by omega) m m' (by simpa using e) (by simpa using e')
     omega
  .intro hi;have h1:=ih.2 fun m m' e e'=>by have:=hi (m+1) (m'+1) (by simpa using e) (by simpa using e');omega
   by_cases ha:a=x
   .have:l.count x=0:=by
     rcases Nat.eq_zero_or_pos (l.count x)with h0|h0
     .exact h0
     .obtain⟨k,hk⟩:=iJ.1 (List.count_pos_iff.1 h0)
      have:=hi 0 (k+1) (by simpa using ha) (by simpa using hk)
      omega
    rw[this];split<;>omega
   .rw[if_neg (by simpa using ha)];omega
theorem ZqK {A B:List Int}(hl:A.length=B.length)(h:∀m:Nat,A[m]?=some (-1)->B[m]?=some (-1)):A.count (-1)<=B.count (-1):=by
 induction A generalizing B with
 |nil=>simp
 |cons a A ih=>
  cases B with
  |nil=>simp at hl
  |cons b B=>
   have h1:=ih (B:=B) (by simpa using hl) fun m e=>by have:=h (m+1) (by simpa using e);simpa using this
   rw[List.count_cons,List.count_cons];by_cases ha:a = -1
   .have hb:b = -1:=by have:=h 0 (by simpa using ha);simpa using this
    rw[if_pos (by simp[ha]),if_pos (by simp[hb])];omega
   .rw[if_neg (by simpa using ha)];omega
theorem Mt.mono {q:Qu}{h:Int}{P P':Nat->Prop}{j:Nat}{w:List Int}(hw:Mt q h P j w)(hP:∀r,P r->P' r):Mt q h P' j w:=
 ⟨hw.len,hw.ok,fun m r e=>⟨(hw.on m r e).1,(hw.on m r e).2.1,hP _ (hw.on m r e).2.2.1,(hw.on m r e).2.2.2⟩,hw.one⟩
theorem Mt.down {q:Qu}{h:Int}{P:Nat->Prop}{j:Nat}{w:List Int}(hw:Mt q h P (j+1) w):Mt q h P j w:=
 ⟨hw.len,hw.ok,fun m r e=>⟨by have:=(hw.on m r e).1;omega,(hw.on m r e).2⟩,hw.one⟩
theorem Mt.next {q:Qu}{h:Int}{P:Nat->Prop}{j:Nat}{w:List Int}(hw:Mt q h P j w)(hj:w[j]?=some (-1)):Mt q h P (j+1) w:=
 ⟨hw.len,hw.ok,fun m r e=>⟨by
  have:=(hw.on m r e).1
  have dA:m≠j:=fun e'=>by subst e';rw[hj]at e;have:=Option.some.inj e;omega
  omega,(hw.on m r e).2⟩,hw.one⟩
theorem Mt.cut {q:Qu}{h:Int}{P:Nat->Prop}{j:Nat}{w:List Int}(hw:Mt q h P j w){m run:Nat}(hm:w[m]?=some (run:Int)):Mt q h (fun r=>P r/\r≠run) j (w.set m (-1)):=by
 have key:∀m' r:Nat,(w.set m (-1))[m']?=some (r:Int)->w[m']?=some (r:Int)/\m'≠m:=fun m' r e=>by
  rw[List.getElem?_set]at e;split at e
  .split at e
   .have:=Option.some.inj e;omega
   .cases e
  .rename_i dA;exact⟨e,fun e'=>dA e'.symm⟩
 refine⟨by simpa using hw.len,fun x hx=>?_,fun m' r e=>?_,fun m1 m2 r e1 e2=>hw.one m1 m2 r (key m1 r e1).1 (key m2 r e2).1⟩
 .rcases List.mem_or_eq_of_mem_set hx with hx|hx
  .exact hw.ok x hx
  .exact .inl hx
 .obtain⟨e1,e2⟩:=key m' r e;obtain⟨o1,o2,o3,o4⟩:=hw.on m' r e1;exact⟨o1,o2,⟨o3,fun e'=>by subst e';exact e2 (hw.one _ _ _ e1 hm)⟩,o4⟩
theorem Mt.put {q:Qu}{h:Int}{P P':Nat->Prop}{i j:Nat}{w:List Int}(hw:Mt q h P i w){x:Nat}(QJ:i<=j)(hj:j<q.ms.length)(hx:q.may x j h=true)(hP:P' x)(Vc:∀r,P r->P' r/\r≠x):Mt q h P' i (w.set j x):=by
 have key:∀m' r:Nat,(w.set j x)[m']?=some (r:Int)->(m'=j/\r=x)\/(m'≠j/\w[m']?=some (r:Int)):=fun m' r e=>by
  rw[List.getElem?_set]at e;split at e
  .rename_i e1;split at e
   .have:=Option.some.inj e;exact .inl ⟨e1.symm,by omega⟩
   .cases e
  .rename_i dA;exact .inr ⟨fun e'=>dA e'.symm,e⟩
 refine⟨by simpa using hw.len,fun y hy=>?_,fun m' r e=>?_,fun m1 m2 r e1 e2=>?_⟩
 .rcases List.mem_or_eq_of_mem_set hy with hy|hy
  .exact hw.ok y hy
  .right;omega
 .rcases key m' r e with⟨rfl,rfl⟩|⟨_,e⟩
  .exact⟨QJ,hj,hP,hx⟩
  .obtain⟨o1,o2,o3,o4⟩:=hw.on m' r e;exact⟨o1,o2,(Vc r o3).1,o4⟩
 .rcases key m1 r e1 with⟨a1,b1⟩|⟨a1,b1⟩<;>rcases key m2 r e2 with⟨a2,b2⟩|⟨a2,b2⟩
  .omega
  .exact absurd b1 (Vc r (hw.on _ _ b2).2.2.1).2
  .exact absurd b2 (Vc r (hw.on _ _ b1).2.2.1).2
  .exact hw.one _ _ _ b1 b2
theorem Mt.idle {q:Qu}{h:Int}{P:Nat->Prop}{j:Nat}:Mt q h P j fC:=by
 have key:∀x∈fC,x = -1:=fun x hx=>by simpa[fC]using hx
 refine⟨rfl,fun x hx=>.inl (key x hx),fun m r e=>?_,fun m m' r e=>?_⟩
 all_goals
  have:=key _ (dK e)
  omega
theorem Mt.none {q:Qu}{h:Int}{P:Nat->Prop}{j:Nat}{w:List Int}(hw:Mt q h P j w)(hP:∀m r:Nat,P r->j<=m->m<q.ms.length->False):w.count (-1)=4:=by
 rw[<-hw.len,List.count_eq_length];intro x hx;rcases hw.ok x hx with h1|h1
 .exact h1.symm
 .obtain⟨m,hm⟩:=iJ.1 hx;obtain⟨r,rfl⟩:∃r:Nat,x=r:=⟨x.toNat,by omega⟩
  have:=hw.on m r hm
  exact(hP m r this.2.2.1 this.1 this.2.1).elim
theorem ZoA {w:List Int}{m run:Nat}(h:w[m]?=some (run:Int)):(w.set m (-1)).count (-1)=w.count (-1)+1:=by
 have p:=(Gu (y:=-1) h).count_eq (-1);rw[List.count_cons,List.count_cons]at p;simp only[beq_iff_eq,if_neg (by omega:¬(run:Int) = -1),if_true]at p;omega
theorem ZtV {w:List Int}{m run:Nat}(h:w[m]?=some (-1)):(w.set m run).count (-1)+1=w.count (-1):=by
 have p:=(Gu (y:=(run:Int)) h).count_eq (-1);rw[List.count_cons,List.count_cons]at p;simp only[beq_iff_eq,if_neg (by omega:¬(run:Int) = -1),if_true]at p;omega
def Pk (runs:List Int)(k r:Nat):Prop:=∃i:Nat,i<k/\runs[i]?=some (r:Int)
theorem Pk.next {runs:List Int}{k r:Nat}(h:Pk runs k r):Pk runs (k+1) r:=by
 obtain⟨i,h1,h2⟩:=h;exact⟨i,by omega,h2⟩
theorem Pk.split {runs:List Int}{k r run:Nat}(hx:runs[k]?=some (run:Int))(h:Pk runs (k+1) r)(dA:r≠run):Pk runs k r:=by
 obtain⟨i,h1,h2⟩:=h;refine⟨i,?_,h2⟩
 have:i≠k:=fun e=>by subst e;rw[hx]at h2;have:=Option.some.inj h2;omega
 omega
def j9 (T:List Bool)(w M:List Int):List Int:=(List.range 4).map fun m=>if T[m]?=some true then(w[m]?).getD (-1)else(M[m]?).getD (-1)
theorem Gs {T:List Bool}{w M:List Int}(hw:w.length=4)(hM:M.length=4){m:Nat}{x:Int}(h:(j9 T w M)[m]?=some x):(T[m]?=some true/\w[m]?=some x)\/(T[m]?≠some true/\M[m]?=some x):=by
 have hm:m<4:=by have:=(bZ.1 h).1;simpa[j9]using this
 have h2:(if T[m]?=some true then(w[m]?).getD (-1)else(M[m]?).getD (-1))=x:=by
  simpa[j9,bW,List.getElem?_range hm]using h
 split at h2
 .rename_i ht;refine .inl ⟨ht,?_⟩;rw[bB (by omega)]at h2 ⊢;simpa using h2
 .rename_i ht;refine .inr ⟨ht,?_⟩;rw[bB (by omega)]at h2 ⊢;simpa using h2
theorem ZhS {q:Qu}(hq:q.ok){h:Int}{runs:List Int}(fU:∀x∈runs,0<=x/\x<q.rs.length)(pX:∀i j r:Nat,runs[i]?=some (r:Int)->runs[j]?=some (r:Int)->i=j):∀k,k<=runs.length->
  Mt q h (Pk runs k) 0 (q.yO h runs k).2/\(q.yO h runs k).1+(q.yO h runs k).2.count (-1)=4/\∀M,Mt q h (Pk runs k) 0 M->(q.yO h runs k).2.count (-1)<=M.count (-1)
 |0,_=>⟨Mt.idle,(show 0+fC.count (-1)=4 by decide),fun M hM=>by
   rw[hM.none (fun m r hP _ _=>by obtain⟨i,hi,_⟩:=hP;omega)];exact(show fC.count (-1)<=4 by decide)⟩
 |k+1,hk=>by
  obtain⟨A,B,C⟩:=ZhS hq (h:=h) fU pX k (by omega);have G:=(Qu.Zxx hq (h:=h) fU k (by omega)).1;have hx:runs[k]?=some runs[k]:=bB (by omega);have hr:=fU _ (dK hx);obtain⟨run,dF⟩:∃run:Nat,runs[k]=run:=⟨runs[k].toNat,by omega⟩;rw[dF]at hx hr;have kB:q.yO h runs (k+1)=((q.yO h runs k).1+(if(q.y9 h 5 run j7 (q.yO h runs k).2).2.2=true then 1 else 0),(q.y9 h 5 run j7 (q.yO h runs k).2).2.1):=by simp[Qu.yO,hx]
  have S:=ZgN hq h 5 run j7 (q.yO h runs k).2 (by omega) G (by decide);have O:=(Mr hq h 5 run j7 (q.yO h runs k).2 (by omega) G).1;have On:=Zlf (q:=q) (h:=h) 5 run j7 (q.yO h runs k).2 fun m r e=>WV.2 ⟨(A.on m r e).2.1,(A.on m r e).2.2.2⟩
  rw[kB];generalize q.yO h runs k=a at *;obtain⟨n,w⟩:=a;generalize q.y9 h 5 run j7 (n,w).2=g at *;obtain⟨T,w',b⟩:=g;simp only at *;have yE:∀m:Nat,w[m]?=some (run:Int)->False:=fun m e=>by
   obtain⟨i,h1,h2⟩:=(A.on m run e).2.2.1
   have:=pX _ _ _ h2 hx
   omega
  cases b with
  |true=>
   have p:=S.yes rfl;have hc:w'.count (-1)+1=w.count (-1):=by
    have:=p.count_eq (-1)
    rw[List.count_cons,List.count_cons]at this;simp only[beq_iff_eq,if_neg (by omega:¬(run:Int) = -1),if_true]at this;omega
   refine⟨⟨O.w4,fun x rP=>by rcases O.ok x rP with h1|h1;exact .inl h1;exact .inr h1.1,fun m r e=>?_,fun m m' r e e'=>?_⟩,?_,fun M hM=>?_⟩
   .obtain⟨o1,o2⟩:=WV.1 (On m r e);refine⟨gV _,o1,?_,o2⟩;have gQ:(r:Int)∈(run:Int)::w:=p.mem_iff.1 (List.mem_cons_of_mem _ (dK e));rcases jN.1 gQ with e1|e1
    .have:r=run:=by omega
     subst this;exact⟨k,by omega,hx⟩
    .obtain⟨m2,nD⟩:=iJ.1 e1;exact(A.on m2 r nD).2.2.1.next
   .refine Ed.1 ?_ m m' e e';have hp:=p.count_eq (r:Int);rw[List.count_cons,List.count_cons]at hp;simp only[beq_iff_eq,if_neg (by omega:¬(-1:Int)=(r:Int))]at hp;by_cases Ak:r=run
    .subst Ak
     have:w.count (r:Int)=0:=List.count_eq_zero.2 fun gQ=>by
      obtain⟨m2,nD⟩:=iJ.1 gQ;exact yE m2 nD
     rw[if_pos rfl]at hp;omega
    .have:=Ed.2 (fun m m' e e'=>A.one m m' r e e')
     rw[if_neg (by omega)]at hp;omega
   .rw[if_pos rfl];omega
   .by_cases hM1:∃m:Nat,M[m]?=some (run:Int)
    .obtain⟨m,hm⟩:=hM1;have h1:=C _ ((hM.cut hm).mono fun r wB=>Pk.split hx wB.1 wB.2);rw[ZoA hm]at h1;omega
    .have h1:=C M ⟨hM.len,hM.ok,fun m r e=>⟨(hM.on m r e).1,(hM.on m r e).2.1,Pk.split hx (hM.on m r e).2.2.1 (fun e'=>hM1 ⟨m,by rw[<-e'];exact e⟩),(hM.on m r e).2.2.2⟩,hM.one⟩;omega
  |false=>
   obtain⟨n1,n2,n3⟩:=S.no rfl;subst n1;refine⟨A.mono fun r wB=>wB.next,by rw[if_neg (by simp)];exact B,fun M hM=>?_⟩;have hT:∀m:Nat,T[m]?=some true->∃r:Nat,w'[m]?=some (r:Int)/\∀m'∈q.F3 r h q.ms.length,T[m']?=some true:=fun m hm=>by
    have yH:m<4:=by rw[<-O.t4];exact(bZ.1 hm).1
    exact n3 m hm (by
     have:∀m:Nat,m<4->j7[m]?=some false:=by decide
     exact this m yH)
   have Tb:Mt q h (Pk runs k) 0 (j9 T w' M):=by
    refine⟨by simp[j9],fun x rP=>?_,fun m r e=>?_,fun m m' r e e'=>?_⟩
    .obtain⟨m,hm⟩:=iJ.1 rP;rcases Gs A.len hM.len hm with⟨_,h1⟩|⟨_,h1⟩
     .exact A.ok _ (dK h1)
     .exact hM.ok _ (dK h1)
    .rcases Gs A.len hM.len e with⟨_,h1⟩|⟨ht,h1⟩
     .exact A.on m r h1
     .obtain⟨o1,o2,o3,o4⟩:=hM.on m r h1;exact⟨o1,o2,Pk.split hx o3 (fun e'=>by subst e';exact ht (n2 m (WV.2 ⟨o2,o4⟩))),o4⟩
    .have mM:∀m m':Nat,T[m]?=some true->w'[m]?=some (r:Int)->T[m']?≠some true->M[m']?=some (r:Int)->False:=fun m m' t1 h1 t2 h2=>by
      obtain⟨r0,e1,e2⟩:=hT m t1;rw[h1]at e1
      have:r=r0:=by have:=Option.some.inj e1;omega
      subst this;exact t2 (e2 m' (WV.2 ⟨(hM.on m' r h2).2.1,(hM.on m' r h2).2.2.2⟩))
     rcases Gs A.len hM.len e with⟨t1,h1⟩|⟨t1,h1⟩<;>rcases Gs A.len hM.len e' with⟨t2,h2⟩|⟨t2,h2⟩
     .exact A.one _ _ _ h1 h2
     .exact(mM _ _ t1 h1 t2 h2).elim
     .exact(mM _ _ t2 h2 t1 h1).elim
     .exact hM.one _ _ _ h1 h2
   refine lC (C _ Tb) (ZqK (by rw[hM.len];simp[j9]) fun m e=>?_);rcases Gs A.len hM.len e with⟨t1,h1⟩|⟨t1,h1⟩
   .obtain⟨r,e1,_⟩:=hT m t1;rw[h1]at e1
    have:=Option.some.inj e1;omega
   .exact h1
theorem Pk.all {runs:List Int}{r:Nat}:Pk runs runs.length r↔(r:Int)∈runs:=
 ⟨fun⟨i,_,h⟩=>dK h,fun h=>by
  obtain⟨i,hi⟩:=iJ.1 h;exact⟨i,(bZ.1 hi).1,hi⟩⟩
structure nH (q:Qu)(l:List Int):Prop where
 C4:∀x∈l,0<=x/\x<q.rs.length
 one:∀i j r:Nat,l[i]?=some (r:Int)->l[j]?=some (r:Int)->i=j
theorem Zr0 {q:Qu}(hq:q.ok){h:Int}{l:List Int}(hl:nH q l){M:List Int}(hM:Mt q h (fun r=>(r:Int)∈l) 0 M):4<=q.DI h l+M.count (-1):=by
 obtain⟨_,B,C⟩:=ZhS hq (h:=h) hl.C4 hl.one l.length (fG _)
 have:=C M (hM.mono fun r hr=>Pk.all.2 hr)
 unfold Qu.DI;omega
theorem ZrZ {q:Qu}(hq:q.ok){h:Int}{l:List Int}(hl:nH q l):∃M,Mt q h (fun r=>(r:Int)∈l) 0 M/\q.DI h l+M.count (-1)=4:=by
 obtain⟨A,B,_⟩:=ZhS hq (h:=h) hl.C4 hl.one l.length (fG _);exact⟨_,A.mono fun r hr=>Pk.all.1 hr,B⟩
theorem nH.JJ {q:Qu}{l:List Int}(h:q.rising l=true):nH q l:=by
 refine⟨Qu.Zxc h,?_⟩;have hs:∀i:Nat,i+1<l.length->∀x y:Int,l[i]?=some x->l[i+1]?=some y->x<y:=fun i hi x y hx hy=>by
  simp only[Qu.rising,rC,List.mem_range]at h
  have:=h (i+1) hi
  simp only[Qu.SI,hx,hy,rW,dJ,rV,decide_eq_true_eq,Nat.add_sub_cancel]at this;omega
 have hm:∀d i:Nat,∀x y:Int,l[i]?=some x->l[i+d+1]?=some y->x<y:=by
  intro d;induction d with
  |zero=>exact fun i x y hx hy=>hs i (bZ.1 hy).1 x y hx hy
  |succ d ih=>
    intro i x y hx hy;have hl:=(bZ.1 hy).1;have hz:l[i+d+1]?=some l[i+d+1]:=bB (by omega);have h1:=ih i x _ hx hz;have h2:=hs (i+d+1) (by omega) _ y hz (by rw[<-hy];congr 1);omega
 intro i j r hi hj;rcases Nat.lt_trichotomy i j with h1|h1|h1
 .obtain⟨d,rfl⟩:∃d,j=i+d+1:=⟨j-i-1,by omega⟩
  have:=hm d i _ _ hi hj
  omega
 .exact h1
 .obtain⟨d,rfl⟩:∃d,i=j+d+1:=⟨i-j-1,by omega⟩
  have:=hm d j _ _ hj hi
  omega
def xR (f:Nat->Bool)(k:Nat):List Int:=((List.range k).filter f).map Int.ofNat
theorem ZkU {f:Nat->Bool}{k:Nat}{x:Int}:x∈xR f k↔∃r:Nat,x=r/\r<k/\f r=true:=by
 unfold xR;rw[iI];constructor
 .rintro⟨r,h,rfl⟩;rw[iU,List.mem_range]at h;exact⟨r,rfl,h.1,h.2⟩
 .rintro⟨r,rfl,h1,h2⟩;exact⟨r,by rw[iU,List.mem_range];exact⟨h1,h2⟩,rfl⟩
theorem Zfh {q:Qu}{f:Nat->Bool}:q.rising (xR f q.rs.length)=true:=by
 have hp:(xR f q.rs.length).Pairwise (·<·):=by
  unfold xR;rw[List.pairwise_map];exact(List.pairwise_lt_range.filter _).imp fun h=>by simpa using h
 unfold Qu.rising;rw[rC];intro i hi;rw[List.mem_range]at hi;have hx:(xR f q.rs.length)[i]?=some (xR f q.rs.length)[i]:=bB hi;obtain⟨r,e,hr,_⟩:=ZkU.1 (zX hi);unfold Qu.SI;rw[hx,rW];simp only[dJ,rV,decide_eq_true_eq];refine⟨⟨by omega,by omega⟩,?_⟩;by_cases h0:i=0
 .exact .inl h0
 .right;have hy:(xR f q.rs.length)[i-1]?=some ((xR f q.rs.length)[i-1]'(by omega)):=bB (by omega);rw[hy,rW];exact Q2.1 hp (i-1) i (by omega) hi (by omega)
abbrev Row (q:Qu)(h:Nat)(l:List Int):Prop:=Mt q h (fun r=>r<q.rs.length) 0 l
structure LP (q:Qu)(p:List (List Int)):Prop where
 rows:∀(h:Nat) (l:List Int),p[h]?=some l->Row q h l
 len:p.length<=40
theorem LP.pw {q:Qu}{p:List (List Int)}(hp:LP q p):PW q p:=by
 refine⟨fun l hl=>?_,fun l hl x hx=>?_,hp.len⟩
 .obtain⟨h,hh⟩:=iJ.1 hl;exact(hp.rows h l hh).len
 .obtain⟨h,hh⟩:=iJ.1 hl;have R:=hp.rows h l hh;rcases R.ok x hx with h1|h1
  .exact .inl h1
  .obtain⟨m,hm⟩:=iJ.1 hx;obtain⟨r,rfl⟩:∃r:Nat,x=r:=⟨x.toNat,by omega⟩
   have:r<q.rs.length:=(R.on m r hm).2.2.1
   right;omega
theorem Gk {p:List (List Int)}{h m r:Nat}(hw:gH p h m=(r:Int)):∃l,p[h]?=some l/\l[m]?=some (r:Int):=by
 unfold gH at hw;cases h1:p[h]? with
 |none=>rw[h1]at hw;simp at hw
 |some l=>
  rw[h1]at hw;simp only[rW]at hw;refine⟨l,rfl,?_⟩;cases h2:l[m]? with
  |none=>rw[h2]at hw;simp at hw
  |some x=>rw[h2]at hw;simp at hw;rw[hw]
theorem Lb {p:List (List Int)}{h m:Nat}{l:List Int}{x:Int}(hl:p[h]?=some l)(hm:l[m]?=some x):gH p h m=x:=by
 unfold gH;rw[hl,rW,hm];rfl
theorem Zp {p:List (List Int)}{h m:Nat}{l:List Int}{x:Int}(hl:p[h]?=some l)(hm:m<l.length)(h' m':Nat):gH (fY p h m x) h' m'=if h'=h/\m'=m then x else gH p h' m':=by
 have hh:=(bZ.1 hl).1;unfold gH fY;rw[hl,rW];by_cases e:h'=h
 .subst e;rw[O2 hh,rW,hl,rW];by_cases e2:m'=m
  .subst e2;rw[O2 hm,if_pos ⟨rfl,rfl⟩];rfl
  .rw[List.getElem?_set_ne (fun e'=>e2 e'.symm),if_neg (fun h=>e2 h.2)]
 .rw[List.getElem?_set_ne (fun e'=>e e'.symm),if_neg (fun h=>e h.1)]
theorem ZrG {p:List (List Int)}{r h:Nat}(ho:xE p r h = -1)(m:Nat):gH p h m≠(r:Int):=fun hw=>by
 obtain⟨l,h1,h2⟩:=Gk hw;unfold xE GU at ho;rw[h1,rW]at ho;cases hf:l.findIdx? (fun x=>decide ((r:Int)=x))with
 |none=>
  rw[List.findIdx?_eq_none_iff]at hf
  have:=hf _ (dK h2)
  simp at this
 |some i=>rw[hf]at ho;simp only at ho;omega
theorem zF {q:Qu}{p:List (List Int)}{r:Nat}{x:Nd}:x∈nx q p (.ru r)↔∃h,h<p.length/\xE p r h = -1/\x=.rh r h:=by
 simp only[nx,WO,V0,iI,iU,decide_eq_true_eq];rw[fO (by simp)];constructor
 .rintro⟨h,⟨h1,h2⟩,h3⟩;exact⟨h,by simpa using h1,h2,h3.symm⟩
 .rintro⟨h,h1,h2,h3⟩;exact⟨h,⟨by simpa using h1,h2⟩,h3.symm⟩
theorem vL {q:Qu}{p:List (List Int)}{r h:Nat}{x:Nd}:x∈nx q p (.rh r h)↔(∃m,m<q.ms.length/\q.may r m h=true/\gH p h m≠(r:Int)/\x=.mh m h)\/(xE p r h≠-1/\x=.ru r):=by
 simp only[nx,JM,jF,sI,iI,iU];constructor
 .rintro(⟨m,⟨h1,h2⟩,h3⟩|h1)
  .obtain⟨a,b⟩:=WV.1 h1;exact .inl ⟨m,a,b,by simpa using h2,h3.symm⟩
  .split at h1
   .cases h1
   .rename_i ho;exact .inr ⟨ho,by simpa using h1⟩
 .rintro(⟨m,h1,h2,h3,h4⟩|⟨h1,h2⟩)
  .exact .inl ⟨m,⟨WV.2 ⟨h1,h2⟩,by simpa using h3⟩,h4.symm⟩
  .right;rw[if_neg h1];simpa using h2
theorem J6 {q:Qu}{p:List (List Int)}{m h:Nat}{x:Nd}:x∈nx q p (.mh m h)↔x=.rh (gH p h m).toNat h:=by simp[nx]
abbrev keys (bQ:By):List Nd:=bQ.map (·.1)
theorem ZpQ {bQ:By}{n:Nd}(h:(par bQ n).isSome=true):n∈keys bQ:=by
 unfold par at h;rw[Option.isSome_map,List.find?_isSome]at h;obtain⟨e,he,h2⟩:=h;simp only[decide_eq_true_eq]at h2;exact iI.2 ⟨e,he,h2.symm⟩
structure Grow (s s':By×List Nd):Prop where
 k:∀x∈keys s.1,x∈keys s'.1
 t:∀x∈s.2,x∈s'.2
 n:∀x∈keys s'.1,x∈keys s.1\/x∈s'.2
 i:∀(i:Nat) (e:Nd×Nd),s.1[i]?=some e->s'.1[i]?=some e
theorem Grow.refl (s:By×List Nd):Grow s s:=⟨fun _ h=>h,fun _ h=>h,fun _ h=>.inl h,fun _ _ h=>h⟩
theorem Grow.trans {s s' Iv:By×List Nd}(h:Grow s s')(h':Grow s' Iv):Grow s Iv:=
 ⟨fun x hx=>h'.k x (h.k x hx),fun x hx=>h'.t x (h.t x hx),fun x hx=>by
  rcases h'.n x hx with h1|h1
  .rcases h.n x h1 with h2|h2
   .exact .inl h2
   .exact .inr (h'.t x h2)
  .exact .inr h1,fun i e hi=>h'.i i e (h.i i e hi)⟩
def v7 (q:Qu)(p:List (List Int))(run:Nat)(bQ:By):Prop:=∀(i:Nat) (e:Nd×Nd),bQ[i]?=some e->(i=0/\e=(.ru run,.ru run))\/∃(j:Nat) (b:Nd),j<i/\bQ[j]?=some (e.2,b)/\e.1∈nx q p e.2/\tL p e.2=false
theorem Zoc {q:Qu}{p:List (List Int)}{run:Nat}{n x:Nd}{s:By×List Nd}(hc:v7 q p run s.1)(hn:∃(i:Nat) (b:Nd),s.1[i]?=some (n,b))(hx:x∈nx q p n)(hf:tL p n=false):Grow s (cN n s x)/\v7 q p run (cN n s x).1/\x∈keys (cN n s x).1:=by
 unfold cN;split
 .rename_i h1;exact⟨Grow.refl s,hc,ZpQ h1⟩
 .have old:∀(j:Nat) (e:Nd×Nd),s.1[j]?=some e->(s.1++[(x,n)])[j]?=some e:=fun j e hj=>by
   rw[List.getElem?_append_left (bZ.1 hj).1];exact hj
  refine⟨⟨fun y hy=>?_,fun y hy=>by simp[hy],fun y hy=>?_,old⟩,fun i e hi=>?_,by simp[keys]⟩
  .simp only[keys,mF,sI];exact .inl hy
  .simp only[keys,mF,sI]at hy;rcases hy with hy|hy
   .exact .inl hy
   .simp at hy;subst hy;simp
  .rw[yS]at hi;split at hi
   .rcases hc i e hi with h1|⟨j,b,h1,h2,h3⟩
    .exact .inl h1
    .exact .inr ⟨j,b,h1,old j _ h2,h3⟩
   .rename_i hl;have h0:i-s.1.length=0:=by
     have:=(bZ.1 hi).1
     simp at this;omega
    rw[h0]at hi;simp at hi;subst hi;obtain⟨j,b,hj⟩:=hn;exact .inr ⟨j,b,by have:=(bZ.1 hj).1;omega,old j _ hj,hx,hf⟩
theorem ZfZ {q:Qu}{p:List (List Int)}{run:Nat}{n:Nd}(hf:tL p n=false):∀(l:List Nd) {s:By×List Nd},v7 q p run s.1->(∃(i:Nat) (b:Nd),s.1[i]?=some (n,b))->(∀x∈l,x∈nx q p n)->Grow s (l.foldl (cN n) s)/\v7 q p run (l.foldl (cN n) s).1/\∀x∈l,x∈keys (l.foldl (cN n) s).1
 |[],s,hc,_,_=>⟨Grow.refl s,hc,fun x hx=>by cases hx⟩
 |x::l,s,hc,hn,hl=>by
  obtain⟨g1,c1,k1⟩:=Zoc hc hn (hl x (by simp)) hf;obtain⟨i,b,hi⟩:=hn;obtain⟨g2,c2,k2⟩:=ZfZ hf l (s:=cN n s x) c1 ⟨i,b,g1.i i _ hi⟩ (fun y hy=>hl y (by simp[hy]));rw[List.foldl_cons];exact⟨g1.trans g2,c2,fun y hy=>by
   rcases jN.1 hy with e|e
   .subst e;exact g2.k _ k1
   .exact k2 y e⟩
structure BX (q:Qu)(p:List (List Int))(run:Nat)(s:By×List Nd):Prop where
 b:BW q p s
 c:v7 q p run s.1
 r:.ru run∈keys s.1
 cl:∀n∈keys s.1,n∈s.2\/(tL p n=false/\∀x∈nx q p n,x∈keys s.1)
theorem BX.start {q:Qu}{p:List (List Int)}{run:Nat}(hr:run<q.rs.length):BX q p run ([(.ru run,.ru run)],[.ru run]):=
 ⟨BW.start hr,fun i e hi=>by
  cases i with
  |zero=>simp at hi;subst hi;exact .inl ⟨rfl,rfl⟩
  |succ i=>simp at hi,by simp[keys],fun n hn=>by simp[keys]at hn;subst hn;left;simp⟩
theorem BX.step {q:Qu}(hq:q.ok){p:List (List Int)}(hp:PW q p){run:Nat}{bQ:By}{n:Nd}{rest:List Nd}(h:BX q p run (bQ,n::rest))(hf:tL p n=false):
  BX q p run ((nx q p n).foldl (cN n) (bQ,rest))/\((nx q p n).foldl (cN n) (bQ,rest)).2.length+bQ.length=rest.length+((nx q p n).foldl (cN n) (bQ,rest)).1.length:=by
 obtain⟨i0,b0,G7⟩:=h.b.t n (by simp);have vK:=(h.b.b.ok _ (dK G7)).1;obtain⟨w1,_,w3,_⟩:=BW.Kt (nx q p n) h.b.tail ⟨i0,b0,G7⟩ (BA hq hp vK hf);obtain⟨g,c,k⟩:=ZfZ (run:=run) hf (nx q p n) (s:=(bQ,rest)) h.c ⟨i0,b0,G7⟩ (fun x hx=>hx);refine⟨⟨w1,c,g.k _ h.r,fun x hx=>?_⟩,w3⟩;rcases g.n x hx with h1|h1
 .rcases h.cl x h1 with h2|⟨h2,h3⟩
  .rcases jN.1 h2 with e|e
   .subst e;exact .inr ⟨hf,k⟩
   .exact .inl (g.t x e)
  .exact .inr ⟨h2,fun y hy=>g.k y (h3 y hy)⟩
 .exact .inl h1
theorem ZhO {q:Qu}(hq:q.ok){p:List (List Int)}(hp:PW q p){run:Nat}:∀(f:Nat) (bQ:By) (todo:List Nd),BX q p run (bQ,todo)->todo.length+407<f+bQ.length->
  (∃(DC:By) (AL:List Nd) (n:Nd) (i:Nat) (b:Nd),BX q p run (DC,AL)/\DC[i]?=some (n,b)/\tL p n=true/\IV q p f bQ todo=some (wP DC DC.length n p))\/(IV q p f bQ todo=none/\∃DC:By,BX q p run (DC,[]))
 |0,bQ,todo,hB,hF=>by
  have:=hB.b.len hq hp
  simp only at this;omega
 |f+1,bQ,[],hB,hF=>.inr ⟨rfl,bQ,hB⟩
 |f+1,bQ,n::rest,hB,hF=>by
  obtain⟨i0,b0,G7⟩:=hB.b.t n (by simp);rw[IV];by_cases hf:tL p n=true
  .rw[if_pos hf];exact .inl ⟨bQ,n::rest,n,i0,b0,hB,G7,hf,rfl⟩
  .rw[if_neg hf];have CL:tL p n=false:=by simpa using hf
   obtain⟨h1,h2⟩:=hB.step hq hp CL;refine ZhO hq hp f _ _ h1 ?_;simp only[pB]at hF;omega
theorem ZjO {p:List (List Int)}{h:Nat}{l l':List Int}(hl:p[h]?=some l)(r:Nat):kL (p.set h l') r+l.count (r:Int)=kL p r+l'.count (r:Int):=by
 induction p generalizing h with
 |nil=>simp at hl
 |cons a p ih=>
  cases h with
  |zero=>simp at hl;subst hl;simp[kL];omega
  |succ h=>
   have h1:=ih (h:=h) (by simpa using hl);simp[kL]at h1 ⊢;omega
theorem WM {p:List (List Int)}{h m:Nat}{l:List Int}{x:Int}(hl:p[h]?=some l):fY p h m x=p.set h (l.set m x):=by unfold fY;rw[hl];rfl
theorem Mq {p:List (List Int)}{h m:Nat}{l:List Int}{x y:Int}(hl:p[h]?=some l)(hm:l[m]?=some y)(r:Nat):kL (fY p h m x) r+(if y=(r:Int)then 1 else 0)=kL p r+(if x=(r:Int)then 1 else 0):=by
 have h1:=ZjO (l':=l.set m x) hl r;have h2:=(Gu (y:=x) hm).count_eq (r:Int);rw[List.count_cons,List.count_cons]at h2;rw[WM hl];simp only[beq_iff_eq]at h2;omega
theorem LP.setRow {q:Qu}{p:List (List Int)}(hp:LP q p){h:Nat}{l':List Int}(hl:h<p.length)(hr:Row q h l'):LP q (p.set h l'):=by
 refine⟨fun k l e=>?_,by simpa using hp.len⟩;rw[List.getElem?_set]at e;split at e
 .rename_i e1;subst e1;first
   |(cases e;exact hr)
   |(rw[if_pos hl]at e;cases e;exact hr)
 .exact hp.rows k l e
theorem Mt.Zx3 {q:Qu}{h:Int}{P:Nat->Prop}{j:Nat}{w:List Int}(hw:Mt q h P j w){r:Nat}(hr:∀m:Nat,w[m]?≠some (r:Int)):Mt q h (fun x=>P x/\x≠r) j w:=
 ⟨hw.len,hw.ok,fun m x e=>⟨(hw.on m x e).1,(hw.on m x e).2.1,⟨(hw.on m x e).2.2.1,fun e'=>hr m (e'▸e)⟩,(hw.on m x e).2.2.2⟩,hw.one⟩
theorem LP.cut {q:Qu}{p:List (List Int)}(hp:LP q p){h m r:Nat}(hw:gH p h m=(r:Int)):LP q (fY p h m (-1)):=by
 obtain⟨l,h1,h2⟩:=Gk hw;rw[WM h1];exact hp.setRow (bZ.1 h1).1 (((hp.rows h l h1).cut h2).mono fun _ h=>h.1)
theorem LP.put {q:Qu}{p:List (List Int)}(hp:LP q p){h m r:Nat}(hh:h<p.length)(hm:m<q.ms.length)(hr:r<q.rs.length)(hx:q.may r m h=true)(mM:∀m',gH p h m'≠(r:Int)):LP q (fY p h m r):=by
 have h1:p[h]?=some p[h]:=bB hh;rw[WM h1];refine hp.setRow hh (((hp.rows h _ h1).Zx3 (r:=r) fun m' e=>mM m' (Lb h1 e)).put (gV _) hm hx hr fun x hx=>⟨hx.1,hx.2⟩)
theorem LP.move {q:Qu}{p:List (List Int)}(hp:LP q p){h m m' r:Nat}(hw:gH p h m'=(r:Int))(EM:m≠m')(hm:m<q.ms.length)(hx:q.may r m h=true):LP q (fY (fY p h m r) h m' (-1)):=by
 obtain⟨l,h1,h2⟩:=Gk hw;have hh:=(bZ.1 h1).1;have e:fY (fY p h m r) h m' (-1)=p.set h ((l.set m' (-1)).set m r):=by
  rw[WM h1,WM (l:=l.set m r) (by rw[O2 hh]),List.set_set,List.set_comm _ _ EM]
 rw[e];have R:=hp.rows h l h1;refine hp.setRow hh ((R.cut h2).put (gV _) hm hx (R.on m' r h2).2.2.1 fun x hx=>⟨hx.1,hx.2⟩)
def CurS (p:List (List Int))(cur:List (List Int)):Nd->Prop
 |.ru r=>∀x,kL cur x=kL p x+(if r=x then 1 else 0)
 |.mh m h=>gH cur h m = -1/\∀x,kL cur x=kL p x
 |.rh _ _=>False
structure Cur (q:Qu)(p:List (List Int))(bQ:By)(i:Nat)(n:Nd)(cur:List (List Int)):Prop where
 lp:LP q cur
 len:cur.length=p.length
 c1:∀h m,gH cur h m=gH p h m\/∃k b,i<=k/\bQ[k]?=some (Nd.mh m h,b)
 c2:∀h m (r:Nat),gH cur h m=(r:Int)->gH p h m=(r:Int)\/∃k b,i<=k/\bQ[k]?=some (Nd.rh r h,b)
 st:CurS p cur n
theorem Xy {bQ:By}(hn:(bQ.map (·.1)).Nodup){i k:Nat}{n b b':Nd}(hi:bQ[i]?=some (n,b))(hk:bQ[k]?=some (n,b')):i=k:=by
 refine(List.getElem?_inj (l:=bQ.map (·.1)) ?_ hn).1 ?_
 .rw[fV];exact(bZ.1 hi).1
 .rw[bW,bW,hi,hk];rfl
theorem Mo {bQ:By}{f:Nat}{n b:Nd}{p:List (List Int)}(hp:par bQ n=some b)(dA:n≠b):wP bQ (f+1) n p=wP bQ f b (qQ n b p):=by
 rw[wP,hp];simp only;rw[if_neg dA]
theorem ZqQ {bQ:By}{f:Nat}{n:Nd}{p:List (List Int)}(hp:par bQ n=some n):wP bQ f n p=p:=by
 cases f with
 |zero=>rfl
 |succ f=>rw[wP,hp];simp
theorem ZoG {q:Qu}(hq:q.ok){p:List (List Int)}(hp:LP q p){run:Nat}{bQ:By}(hB:KK q p bQ)(hC:v7 q p run bQ):∀(i f:Nat) (n b:Nd) (cur:List (List Int)),bQ[i]?=some (n,b)->i<=f->Cur q p bQ i n cur->
  LP q (wP bQ f n cur)/\(wP bQ f n cur).length=p.length/\∀x,kL (wP bQ f n cur) x=kL p x+(if run=x then 1 else 0):=by
 intro i;induction i using Nat.strongRecOn with
 |_ i ih=>
  intro f n b cur hi hf hc;have lN:=Ld hB.nd hi;simp only at lN;cases n with
  |rh r h=>exact hc.st.elim
  |ru r=>
   rcases hC i _ hi with⟨h0,he⟩|⟨j,b1,hj,CU,iD,D4⟩
   .simp only[Prod.mk.injEq]at he;obtain⟨e1,e2⟩:=he;have e3:r=run:=by injection e1
    subst e3 e2;rw[ZqQ lN];exact⟨hc.lp,hc.len,hc.st⟩
   .simp only at CU iD D4;obtain⟨h,rfl,ho⟩:∃h,b=.rh r h/\xE p r h≠-1:=by
     cases b with
     |ru r'=>obtain⟨_,_,_,e⟩:=zF.1 iD;cases e
     |mh m' h'=>cases J6.1 iD
     |rh r' h'=>
      rcases vL.1 iD with⟨_,_,_,_,e⟩|⟨e1,e2⟩
      .cases e
      .injection e2 with e3;subst e3;exact⟨h',rfl,e1⟩
    have K8:=Ld hB.nd CU;simp only at K8;rcases hC j _ CU with⟨_,he⟩|⟨j2,b2,CE,wG,rR,T0⟩
    .simp at he
    .simp only at wG rR T0;obtain⟨m,rfl,ZY⟩:∃m,b1=.mh m h/\gH p h m=(r:Int):=by
      cases b1 with
      |ru r'=>obtain⟨h',_,e1,e2⟩:=zF.1 rR;injection e2 with e3 e4;subst e3 e4;exact absurd e1 ho
      |rh r' h'=>
       rcases vL.1 rR with⟨_,_,_,_,e⟩|⟨_,e⟩
       .cases e
       .cases e
      |mh m' h'=>
       have e:=J6.1 rR;injection e with e1 e2;subst e2;have h1:¬gH p h m' = -1:=by simpa[tL]using T0
       have:=hp.pw.gH h m'
       exact⟨m',rfl,by omega⟩
     obtain⟨f2,rfl⟩:∃f2,f=f2+1+1:=⟨f-2,by omega⟩;rw[Mo lN (by simp),Mo K8 (by simp)];have okm:=(hB.ok _ (dK wG)).1;have rT:gH cur h m=(r:Int):=by
      rcases hc.c1 h m with h1|⟨k,b',gZ,sH⟩
      .rw[h1];exact ZY
      .have:=Xy hB.nd wG sH;omega
     obtain⟨l,oY,qZ⟩:=Gk rT;have S7:=(bZ.1 qZ).1;have BN:=Zp (x:=-1) oY S7;refine ih j2 (by omega) f2 _ b2 _ wG (by omega) ⟨hc.lp.cut rT,by rw[<-hc.len];exact OB,fun h' m'=>?_,fun h' m' r' e=>?_,?_,fun x=>?_⟩
     .show gH (fY cur h m (-1)) h' m'=_\/_;rw[BN];split
      .rename_i e;obtain⟨rfl,rfl⟩:=e;exact .inr ⟨j2,b2,fG _,wG⟩
      .rcases hc.c1 h' m' with h1|⟨k,b',gZ,sH⟩
       .exact .inl h1
       .exact .inr ⟨k,b',by omega,sH⟩
     .have e:gH (fY cur h m (-1)) h' m'=(r':Int):=e;rw[BN]at e;split at e
      .omega
      .rcases hc.c2 h' m' r' e with h1|⟨k,b',gZ,sH⟩
       .exact .inl h1
       .exact .inr ⟨k,b',by omega,sH⟩
     .show gH (fY cur h m (-1)) h m = -1;rw[BN,if_pos ⟨rfl,rfl⟩]
     .show kL (fY cur h m (-1)) x=kL p x;have h1:=Mq (x:=-1) oY qZ x;have h2:kL cur x=kL p x+(if r=x then 1 else 0):=hc.st x;rw[if_neg (by omega:¬(-1:Int)=(x:Int))]at h1;by_cases e:r=x
      .rw[if_pos e]at h2;rw[if_pos (by omega)]at h1;omega
      .rw[if_neg e]at h2;rw[if_neg (by omega)]at h1;omega
  |mh m h=>
   obtain⟨Bl,CS⟩:gH cur h m = -1/\∀x,kL cur x=kL p x:=hc.st;rcases hC i _ hi with⟨_,he⟩|⟨j,b1,hj,CU,iD,D4⟩
   .simp at he
   .simp only at CU iD D4;obtain⟨r,rfl,hmN,o0,Rl⟩:∃r,b=.rh r h/\m<q.ms.length/\q.may r m h=true/\gH p h m≠(r:Int):=by
     cases b with
     |ru r'=>obtain⟨_,_,_,e⟩:=zF.1 iD;cases e
     |mh m' h'=>cases J6.1 iD
     |rh r' h'=>
      rcases vL.1 iD with⟨m',a1,a2,a3,e⟩|⟨_,e2⟩
      .injection e with e3 e4;subst e3 e4;exact⟨r',rfl,a1,a2,a3⟩
      .cases e2
    have Pu:r<q.rs.length/\h<p.length:=(hB.ok _ (dK CU)).1;have K8:=Ld hB.nd CU;simp only at K8;have hh:h<cur.length:=by rw[hc.len];exact Pu.2
    have oY:cur[h]?=some cur[h]:=bB hh;have R:=hc.lp.rows h _ oY;have yH:m<cur[h].length:=by rw[R.len];have:=hq.m;omega
    have qZ:cur[h][m]?=some (-1):=by
     have e:cur[h][m]?=some cur[h][m]:=bB yH
     have:=Lb oY e
     rw[Bl]at this;rw[e,<-this]
    have BN:=Zp (x:=(r:Int)) oY yH;have lW:∀m':Nat,gH cur h m'=(r:Int)->gH p h m'=(r:Int):=fun m' e=>by
     rcases hc.c2 h m' r e with h1|⟨k,b',gZ,sH⟩
     .exact h1
     .have:=Xy hB.nd CU sH;omega
    rcases hC j _ CU with⟨_,he⟩|⟨j2,b2,CE,wG,rR,T0⟩
    .simp at he
    .simp only at wG rR T0;obtain⟨f2,rfl⟩:∃f2,f=f2+1+1:=⟨f-2,by omega⟩;rw[Mo lN (by simp),Mo K8 (by intro e;cases b1<;>cases e<;>(first|(obtain⟨_,_,_,e⟩:=zF.1 rR;cases e)|(rcases vL.1 rR with⟨_,_,_,_,e⟩|⟨_,e⟩<;>cases e)|skip))];cases b1 with
     |rh r' h'=>
      rcases vL.1 rR with⟨_,_,_,_,e⟩|⟨_,e⟩
      .cases e
      .cases e
     |ru r'=>
      obtain⟨h',_,e1,e2⟩:=zF.1 rR;injection e2 with e3 e4;subst e3 e4;have mM:∀m',gH cur h m'≠(r:Int):=fun m' e=>ZrG e1 m' (lW m' e)
      refine ih j2 (by omega) f2 _ b2 _ wG (by omega) ⟨hc.lp.put hh hmN Pu.1 o0 mM,by rw[<-hc.len];exact OB,fun h' m'=>?_,fun h' m' r' e=>?_,fun x=>?_⟩
      .show gH (fY cur h m r) h' m'=_\/_;rw[BN];split
       .rename_i e;obtain⟨rfl,rfl⟩:=e;exact .inr ⟨i,_,by omega,hi⟩
       .rcases hc.c1 h' m' with h1|⟨k,b',gZ,sH⟩
        .exact .inl h1
        .exact .inr ⟨k,b',by omega,sH⟩
      .have e:gH (fY cur h m r) h' m'=(r':Int):=e;rw[BN]at e;split at e
       .rename_i e';obtain⟨rfl,rfl⟩:=e'
        have:r=r':=by omega
        subst this;exact .inr ⟨j,_,by omega,CU⟩
       .rcases hc.c2 h' m' r' e with h1|⟨k,b',gZ,sH⟩
        .exact .inl h1
        .exact .inr ⟨k,b',by omega,sH⟩
      .show kL (fY cur h m r) x=_;have h1:=Mq (x:=(r:Int)) oY qZ x;have h2:=CS x;rw[if_neg (by omega:¬(-1:Int)=(x:Int))]at h1;by_cases e:r=x
       .rw[if_pos e];rw[if_pos (by omega)]at h1;omega
       .rw[if_neg e];rw[if_neg (by omega)]at h1;omega
     |mh m' h'=>
      have e:=J6.1 rR;injection e with e1 e2;subst e2;have jI:gH p h m'=(r:Int):=by
       have h1:¬gH p h m' = -1:=by simpa[tL]using T0
       have:=hp.pw.gH h m'
       omega
      have rT:gH cur h m'=(r:Int):=by
       rcases hc.c1 h m' with h1|⟨k,b',gZ,sH⟩
       .rw[h1];exact jI
       .have:=Xy hB.nd wG sH;omega
      have EM:m≠m':=fun e=>by subst e;exact Rl jI
      obtain⟨l,k1,k2⟩:=Gk rT;rw[oY]at k1;cases k1;have MB:(fY cur h m r)[h]?=some (cur[h].set m r):=by rw[WM oY,O2 hh]
      have k3:(cur[h].set m (r:Int))[m']?=some (r:Int):=by rw[List.getElem?_set_ne EM];exact k2
      have PB:=Zp (x:=-1) MB (bZ.1 k3).1;refine ih j2 (by omega) f2 _ b2 _ wG (by omega) ⟨hc.lp.move rT EM hmN o0,by rw[<-hc.len];exact OB.trans OB,fun h' m2=>?_,fun h' m2 r' e=>?_,?_,fun x=>?_⟩
      .show gH (fY (fY cur h m r) h m' (-1)) h' m2=_\/_;rw[PB];split
       .rename_i e;obtain⟨rfl,rfl⟩:=e;exact .inr ⟨j2,_,by omega,wG⟩
       .rw[BN];split
        .rename_i e;obtain⟨rfl,rfl⟩:=e;exact .inr ⟨i,_,by omega,hi⟩
        .rcases hc.c1 h' m2 with h1|⟨k,b',gZ,sH⟩
         .exact .inl h1
         .exact .inr ⟨k,b',by omega,sH⟩
      .have e:gH (fY (fY cur h m r) h m' (-1)) h' m2=(r':Int):=e;rw[PB]at e;split at e
       .omega
       .rw[BN]at e;split at e
        .rename_i e';obtain⟨rfl,rfl⟩:=e'
         have:r=r':=by omega
         subst this;exact .inr ⟨j,_,by omega,CU⟩
        .rcases hc.c2 h' m2 r' e with h1|⟨k,b',gZ,sH⟩
         .exact .inl h1
         .exact .inr ⟨k,b',by omega,sH⟩
      .show gH (fY (fY cur h m r) h m' (-1)) h m' = -1;rw[PB,if_pos ⟨rfl,rfl⟩]
      .show kL (fY (fY cur h m r) h m' (-1)) x=kL p x;have h1:=Mq (x:=(r:Int)) oY qZ x;have h2:=CS x;have h3:=Mq (x:=-1) MB k3 x;rw[if_neg (by omega:¬(-1:Int)=(x:Int))]at h1 h3;omega
theorem Zl0 {F:Nat}(hF:407<F){q:Qu}(hq:q.ok){p p':List (List Int)}(hp:LP q p){run:Nat}(hr:run<q.rs.length)(h:fS F q p run=some p'):LP q p'/\p'.length=p.length/\∀x,kL p' x=kL p x+(if run=x then 1 else 0):=by
 rcases ZhO hq hp.pw F _ _ (BX.start (q:=q) (p:=p) hr) (by simp;omega)with⟨DC,AL,n,i,b,hB,hi,hf,he⟩|⟨he,_⟩
 .unfold fS at h;rw[he]at h;cases h;have yJ:=(bZ.1 hi).1;cases n with
  |ru r=>cases hf
  |rh r h=>cases hf
  |mh m h=>
   refine ZoG hq hp hB.b.b hB.c i DC.length _ b p hi (by omega) ⟨hp,rfl,fun _ _=>.inl rfl,fun _ _ _ e=>.inl e,by simpa[tL]using hf,fun _=>rfl⟩
 .unfold fS at h;rw[he]at h;cases h
theorem ZnO {l:List Nat}:∀{l':List Nat},l.Nodup->(∀x∈l,x∈l')->l.length<=l'.length:=by
 induction l with
 |nil=>exact fun _ _=>gV _
 |cons a l ih=>
  intro l' hn hs;rw[List.nodup_cons]at hn;have ha:=hs a (by simp);have h1:=ih (l':=l'.erase a) hn.2 fun x hx=>by
   have dA:x≠a:=fun e=>hn.1 (e▸hx)
   exact(List.mem_erase_of_ne dA).2 (hs x (by simp[hx]))
  rw[List.length_erase_of_mem ha]at h1
  have:=List.length_pos_of_mem ha
  rw[pB];omega
theorem ZnP {l l':List Nat}{f:Nat->Nat}(hn:l.Nodup)(hi:∀x∈l,∀y∈l,f x=f y->x=y)(hs:∀x∈l,f x∈l'):l.length<=l'.length:=by
 have h1:(l.map f).Nodup:=by
  rw[DK,List.pairwise_map];refine List.Pairwise.imp_of_mem ?_ (DK.1 hn);exact fun{a b} ha hb dA e=>dA (hi a ha b hb e)
 have:=ZnO (l':=l') h1 (fun x hx=>by
  obtain⟨y,hy,rfl⟩:=iI.1 hx;exact hs y hy)
 simpa using this
theorem Znk (w:List Int):(List.range w.length).map (fun m=>(w[m]?).getD (-1))=w:=by
 apply List.ext_getElem?;intro i;rw[bW];by_cases hi:i<w.length
 .rw[List.getElem?_range hi,bB hi];simp[bB hi]
 .rw[List.getElem?_eq_none (by simp;omega),List.getElem?_eq_none (by omega)];rfl
theorem ZiO (P:Int->Bool)(w:List Int):w.countP P=((List.range w.length).filter fun m=>P ((w[m]?).getD (-1))).length:=by
 conv=>lhs;rw[<-Znk w,List.countP_map,List.countP_eq_length_filter]
 rfl
def busy (x:Int):Bool:=decide (x≠-1)
theorem ZgS (w:List Int):w.count (-1)+w.countP busy=w.length:=by
 induction w with
 |nil=>rfl
 |cons a w ih=>
  rw[List.count_cons,List.countP_cons,pB];by_cases h:a = -1
  .simp[h,busy]at ih ⊢;omega
  .simp[h,busy]at ih ⊢;omega
def R6 (R:List Int)(l:List Int):Nat:=l.countP fun x=>R.contains x
def N5 (q:Qu)(bQ:By):List Int:=xR (fun r=>decide (Nd.ru r∈keys bQ)) q.rs.length
theorem Ft {q:Qu}{bQ:By}{r:Nat}:(r:Int)∈N5 q bQ↔r<q.rs.length/\Nd.ru r∈keys bQ:=by
 unfold N5;rw[ZkU];constructor
 .rintro⟨x,e,h1,h2⟩
  have:r=x:=by omega
  subst this;exact⟨h1,by simpa using h2⟩
 .rintro⟨h1,h2⟩;exact⟨r,rfl,h1,by simpa using h2⟩
theorem Zpy {q:Qu}(hq:q.ok){p:List (List Int)}(hp:LP q p){run:Nat}{bQ:By}(hB:BX q p run (bQ,[])){h:Nat}{l:List Int}(hl:p[h]?=some l):q.DI h (N5 q bQ)<=R6 (N5 q bQ) l:=by
 have hh:=(bZ.1 hl).1;have Rw:=hp.rows h l hl;have Ak:nH q (N5 q bQ):=nH.JJ Zfh;obtain⟨M,hM,hM4⟩:=ZrZ hq (h:=h) Ak;have gN:∀n∈keys bQ,tL p n=false/\∀x∈nx q p n,x∈keys bQ:=fun n hn=>by
  rcases hB.cl n hn with h1|h1
  .cases h1
  .exact h1
 have Pu:∀n∈keys bQ,n.ok q p:=fun n hn=>by
  obtain⟨e,he,rfl⟩:=iI.1 hn;exact(hB.b.b.ok e he).1
 have fa:∀r:Nat,Nd.ru r∈keys bQ->xE p r h = -1->Nd.rh r h∈keys bQ:=fun r hr ho=>(gN _ hr).2 _ (zF.2 ⟨h,hh,ho,rfl⟩)
 have fb:∀r m:Nat,Nd.rh r h∈keys bQ->m<q.ms.length->q.may r m h=true->gH p h m≠(r:Int)->Nd.mh m h∈keys bQ:=fun r m hr h1 h2 h3=>(gN _ hr).2 _ (vL.2 (.inl ⟨m,h1,h2,h3,rfl⟩))
 have fc:∀r:Nat,Nd.rh r h∈keys bQ->xE p r h≠-1->Nd.ru r∈keys bQ:=fun r hr h1=>(gN _ hr).2 _ (vL.2 (.inr ⟨h1,rfl⟩))
 have fd:∀m:Nat,Nd.mh m h∈keys bQ->∃r:Nat,gH p h m=(r:Int)/\Nd.rh r h∈keys bQ/\(r:Int)∈N5 q bQ:=fun m hm=>by
  obtain⟨f1,f2⟩:=gN _ hm;have h1:¬gH p h m = -1:=by simpa[tL]using f1
  have h2:=hp.pw.gH h m;obtain⟨r,hr⟩:∃r:Nat,gH p h m=r:=⟨(gH p h m).toNat,by omega⟩;have h3:=f2 _ (J6.2 rfl);rw[hr,H7]at h3;exact⟨r,hr,h3,Ft.2 ⟨by omega,fc r h3 fun ho=>ZrG ho m hr⟩⟩
 have hcM:=ZgS M;rw[hM.len]at hcM;have hA:q.DI h (N5 q bQ)=M.countP busy:=by omega
 rw[hA,R6,ZiO,ZiO,hM.len,Rw.len];have oP:∀m:Nat,m∈(List.range 4).filter (fun m=>busy ((M[m]?).getD (-1)))->∃r:Nat,M[m]?=some (r:Int)/\m<q.ms.length/\q.may r m h=true/\Nd.ru r∈keys bQ/\r<q.rs.length:=fun m hm=>by
  rw[iU,List.mem_range]at hm;have yH:m<M.length:=by rw[hM.len];exact hm.1
  have e:M[m]?=some M[m]:=bB yH;have h1:M[m]≠-1:=by have:=hm.2;rw[e]at this;simpa[busy]using this
  have h2:=hM.ok _ (zX yH);obtain⟨r,hr⟩:∃r:Nat,M[m]=r:=⟨M[m].toNat,by omega⟩;rw[hr]at e;obtain⟨_,o2,o3,o4⟩:=hM.on m r e;obtain⟨o5,o6⟩:=Ft.1 o3;exact⟨r,e,o2,o4,o6,o5⟩
 have sR:∀r:Nat,Nd.ru r∈keys bQ->Nd.rh r h∉keys bQ->∃i:Nat,(xE p r h).toNat=i/\l[i]?=some (r:Int):=fun r h1 h2=>by
  have ho:xE p r h≠-1:=fun e=>h2 (fa r h1 e)
  unfold xE at ho ⊢;rw[hl,rW]at ho ⊢;rcases ZuH (l:=l) (v:=(r:Int))with e|⟨i,e1,_,e2⟩
  .exact absurd e ho
  .exact⟨i,by rw[e1,H7],e2⟩
 refine ZnP (f:=fun m=>if Nd.rh ((M[m]?).getD (-1)).toNat h∈keys bQ then m else(xE p ((M[m]?).getD (-1)).toNat h).toNat) (List.nodup_range.filter _) (fun m1 G6 m2 nD e=>?_) (fun m hm=>?_)
 .obtain⟨r1,a1,a2,a3,a4,_⟩:=oP m1 G6;obtain⟨r2,b1,b2,b3,b4,_⟩:=oP m2 nD;simp only[a1,b1,rW,H7]at e;have key:∀(m1 m2 r1 r2:Nat),M[m1]?=some (r1:Int)->m1<q.ms.length->q.may r1 m1 h=true->Nd.ru r2∈keys bQ->Nd.rh r1 h∈keys bQ->Nd.rh r2 h∉keys bQ->m1=(xE p r2 h).toNat->False:=fun m1 m2 r1 r2 a1 a2 a3 b4 c1 c2 e=>by
   obtain⟨i,e1,e2⟩:=sR r2 b4 c2;rw[e1]at e;subst e;have hw:=Lb hl e2;by_cases Ak:r2=r1
   .subst Ak;exact c2 c1
   .have:=fb r1 m1 c1 a2 a3 (by rw[hw];omega)
    obtain⟨r3,d1,d2,_⟩:=fd m1 this;rw[hw]at d1
    have:r2=r3:=by omega
    subst this;exact c2 d2
  by_cases c1:Nd.rh r1 h∈keys bQ<;>by_cases c2:Nd.rh r2 h∈keys bQ
  .rw[if_pos c1,if_pos c2]at e;exact e
  .rw[if_pos c1,if_neg c2]at e;exact(key m1 m2 r1 r2 a1 a2 a3 b4 c1 c2 e).elim
  .rw[if_neg c1,if_pos c2]at e;exact(key m2 m1 r2 r1 b1 b2 b3 a4 c2 c1 e.symm).elim
  .rw[if_neg c1,if_neg c2]at e;obtain⟨i,e1,e2⟩:=sR r1 a4 c1;obtain⟨j,f1,f2⟩:=sR r2 b4 c2;rw[e1,f1]at e;subst e;rw[e2]at f2
   have:r1=r2:=by have:=Option.some.inj f2;omega
   subst this;exact hM.one _ _ _ a1 b1
 .obtain⟨r,a1,a2,a3,a4,a5⟩:=oP m hm;rw[iU,List.mem_range]at hm ⊢;simp only[a1,rW,H7];split
  .rename_i c1;refine⟨hm.1,?_⟩;have S7:m<l.length:=by rw[Rw.len];exact hm.1
   have e:l[m]?=some l[m]:=bB S7;have hw:=Lb hl e;rw[e,rW,<-hw,jB];by_cases EI:gH p h m=(r:Int)
   .rw[EI];exact Ft.2 ⟨a5,a4⟩
   .obtain⟨r3,d1,_,d3⟩:=fd m (fb r m c1 a2 a3 EI);rw[d1];exact d3
  .rename_i c1;obtain⟨i,e1,e2⟩:=sR r a4 c1;rw[e1,e2,rW,jB];refine⟨by rw[<-Rw.len];exact(bZ.1 e2).1,Ft.2 ⟨a5,a4⟩⟩
def I8 (R:List Int)(p:List (List Int)):Nat:=(p.map (R6 R)).sum
theorem nH.nodup {q:Qu}{R:List Int}(h:nH q R):R.Nodup:=by
 rw[DK,Q2];intro i j hi hj QJ e;have hx:=h.C4 R[i] (zX hi);obtain⟨r,hr⟩:∃r:Nat,R[i]=r:=⟨R[i].toNat,by omega⟩
 have:=h.one i j r (by rw[bB hi,hr]) (by rw[bB hj,<-e,hr])
 omega
theorem Zqo {a:Int}{R:List Int}(ha:a∉R)(l:List Int):R6 (a::R) l=l.count a+R6 R l:=by
 unfold R6;induction l with
 |nil=>rfl
 |cons x l ih=>
  rw[List.countP_cons,List.countP_cons,List.count_cons,ih];by_cases e:x=a
  .subst e;have h1:R.contains x=false:=by
    rw[Bool.eq_false_iff];intro h;exact ha (jB.1 h)
   simp[ha];omega
  .have h1:(a::R).contains x=R.contains x:=by
    rw[List.contains_cons]
    have:(x==a)=false:=by simpa using e
    rw[this,Bool.false_or]
   have h2:(x==a)=false:=by simpa using e
   rw[h1,h2];simp only[Bool.false_eq_true,if_false];omega
theorem Ztz {R:List Int}(hn:R.Nodup)(l:List Int):R6 R l=(R.map fun x=>l.count x).sum:=by
 induction R with
 |nil=>unfold R6;simp
 |cons a R ih=>
  rw[List.nodup_cons]at hn;rw[Zqo hn.1,iL,List.sum_cons,ih hn.2]
theorem ZmA (R:List Int)(f g:Int->Nat):(R.map fun x=>f x+g x).sum=(R.map f).sum+(R.map g).sum:=by
 induction R with
 |nil=>rfl
 |cons a R ih=>simp only[iL,List.sum_cons,ih];omega
theorem Gj {R:List Int}(hn:R.Nodup)(h0:∀x∈R,0<=x):∀p:List (List Int),I8 R p=(R.map fun x=>kL p x.toNat).sum
 |[]=>by
  have:∀R:List Int,(R.map fun x=>kL [] x.toNat).sum=0:=fun R=>by
   induction R with
   |nil=>rfl
   |cons a R ih=>rw[iL,List.sum_cons,ih];rfl
  rw[this];rfl
 |l::p=>by
  have h1:I8 R (l::p)=R6 R l+I8 R p:=by unfold I8;rw[iL,List.sum_cons]
  have h2:(R.map fun x=>kL (l::p) x.toNat)=R.map fun x=>l.count x+kL p x.toNat:=by
   refine List.map_congr_left fun x hx=>?_
   have:=h0 x hx
   unfold kL;rw[iL,List.sum_cons,Int.toNat_of_nonneg this]
  rw[h1,h2,ZmA,Gj hn h0 p,Ztz hn]
theorem Zkx {q:Qu}{R:List Int}{p:List (List Int)}(h:∀(k:Nat) (l:List Int),p[k]?=some l->q.DI k R<=R6 R l):∀k,k<=p.length->q.z6 R k<=I8 R (p.take k)
 |0,_=>gV _
 |k+1,hk=>by
  have e:p[k]?=some p[k]:=bB (by omega);have h1:=Zkx h k (by omega);have h2:=h k _ e;have h3:I8 R (p.take (k+1))=I8 R (p.take k)+R6 R p[k]:=by unfold I8;rw[NV e,mF,List.sum_append];simp
  show q.z6 R k+q.DI k R<=_;omega
theorem Zkf {q:Qu}{R:List Int}{p:List (List Int)}(h:∀(k:Nat) (l:List Int),p[k]?=some l->R6 R l<=q.DI k R):∀k,k<=p.length->I8 R (p.take k)<=q.z6 R k
 |0,_=>by simp[I8]
 |k+1,hk=>by
  have e:p[k]?=some p[k]:=bB (by omega);have h1:=Zkf h k (by omega);have h2:=h k _ e;have h3:I8 R (p.take (k+1))=I8 R (p.take k)+R6 R p[k]:=by unfold I8;rw[NV e,mF,List.sum_append];simp
  show _<=q.z6 R k+q.DI k R;omega
theorem LP.ZxM {q:Qu}(hq:q.ok){p:List (List Int)}(hp:LP q p){R:List Int}(hR:nH q R):I8 R p<=q.z6 R p.length:=by
 have:=Zkf (q:=q) (R:=R) (p:=p) (fun k l hl=>by
  have Rw:=hp.rows k l hl;have hg:∀(m:Nat) (x:Int),(l.map fun x=>if R.contains x=true then x else -1)[m]?=some x->∃y,l[m]?=some y/\((R.contains y=true/\x=y)\/(R.contains y=false/\x = -1)):=fun m x e=>by
   rw[bW,dZ]at e;obtain⟨y,h1,h2⟩:=e;refine⟨y,h1,?_⟩;split at h2
   .rename_i hc;exact .inl ⟨hc,h2.symm⟩
   .rename_i hc;exact .inr ⟨by simpa using hc,h2.symm⟩
  have hM:Mt q k (fun r=>(r:Int)∈R) 0 (l.map fun x=>if R.contains x=true then x else -1):=by
   refine⟨by simpa using Rw.len,fun x hx=>?_,fun m r e=>?_,fun m m' r e e'=>?_⟩
   .obtain⟨m,hm⟩:=iJ.1 hx;obtain⟨y,h1,h2⟩:=hg m x hm;rcases h2 with⟨_,rfl⟩|⟨_,rfl⟩
    .exact Rw.ok _ (dK h1)
    .exact .inl rfl
   .obtain⟨y,h1,h2⟩:=hg m r e;rcases h2 with⟨h2,rfl⟩|⟨_,h2⟩
    .obtain⟨o1,o2,o3,o4⟩:=Rw.on m r h1;exact⟨o1,o2,jB.1 h2,o4⟩
    .omega
   .obtain⟨y,h1,h2⟩:=hg m r e;obtain⟨y',H3,uA⟩:=hg m' r e';rcases h2 with⟨_,rfl⟩|⟨_,h2⟩
    .rcases uA with⟨_,rfl⟩|⟨_,uA⟩
     .exact Rw.one _ _ _ h1 H3
     .omega
    .omega
  have h1:=Zr0 hq hR hM;have h2:=ZgS (l.map fun x=>if R.contains x=true then x else -1);rw[hM.len,List.countP_map]at h2;have h3:l.countP (busy∘fun x=>if R.contains x=true then x else -1)=R6 R l:=by
   unfold R6;refine List.countP_congr fun x _=>?_
   simp only[Function.comp,busy];rw[decide_eq_true_eq];by_cases hc:R.contains x=true
   .have:=hR.C4 x (jB.1 hc)
    simp only[hc,iff_true,if_true];omega
   .simp only[hc];simp
  rw[h3]at h2
  omega) p.length (fG _)
 rwa [nF]at this
def xB (q:Qu)(p:List (List Int))(r:Nat):Prop:=∃R,q.rising R=true/\(r:Int)∈R/\q.z6 R p.length<=I8 R p
theorem Zl1 {F:Nat}(hF:407<F){q:Qu}(hq:q.ok){p:List (List Int)}(hp:LP q p){run:Nat}(hr:run<q.rs.length)(h:fS F q p run=none):xB q p run:=by
 rcases ZhO hq hp.pw F _ _ (BX.start (q:=q) (p:=p) hr) (by simp;omega)with⟨DC,AL,n,i,b,hB,hi,hf,he⟩|⟨_,DC,hB⟩
 .unfold fS at h;rw[he]at h;cases h
 .refine⟨N5 q DC,Zfh,Ft.2 ⟨hr,hB.r⟩,?_⟩
  have:=Zkx (fun k l hl=>Zpy hq hp hB hl) p.length (fG _)
  rwa [nF]at this
theorem Zo8 {R:List Int}(hn:R.Nodup)(h0:∀x∈R,0<=x){p p':List (List Int)}(h:∀x,kL p x<=kL p' x):I8 R p<=I8 R p':=by
 rw[Gj hn h0,Gj hn h0];clear hn h0;induction R with
 |nil=>exact fG _
 |cons a R ih=>simp only[iL,List.sum_cons];have:=h a.toNat;omega
theorem xB.mono {q:Qu}{p p':List (List Int)}{r:Nat}(h:xB q p r)(hl:p'.length=p.length)(hc:∀x,kL p x<=kL p' x):xB q p' r:=by
 obtain⟨R,h1,h2,h3⟩:=h;have hR:=nH.JJ h1;exact⟨R,h1,h2,by rw[hl];exact lC h3 (Zo8 hR.nodup (fun x hx=>(hR.C4 x hx).1) hc)⟩
theorem Zf8 {F:Nat}(hF:407<F){q:Qu}(hq:q.ok):∀(l:List Nat) (p:List (List Int)),LP q p->(∀r∈l,r<q.rs.length)->
  LP q (fE F q p l).1/\(fE F q p l).1.length=p.length/\(∀x,kL (fE F q p l).1 x+(fE F q p l).2.count x=kL p x+l.count x)/\(∀x,kL p x<=kL (fE F q p l).1 x)/\(∀r∈(fE F q p l).2,r∈l/\xB q (fE F q p l).1 r)
 |[],p,hp,_=>⟨hp,rfl,fun _=>rfl,fun _=>fG _,fun r hr=>by cases hr⟩
 |r::l,p,hp,hl=>by
  have lH:∀x∈l,x<q.rs.length:=fun x hx=>hl x (by simp[hx])
  have hr:=hl r (by simp);unfold fE;cases hg:fS F q p r with
  |some p'=>
   obtain⟨g1,g2,g3⟩:=Zl0 hF hq hp hr hg;obtain⟨k1,k2,k3,k4,k5⟩:=Zf8 hF hq l p' g1 lH;refine⟨k1,k2.trans g2,fun x=>?_,fun x=>lC (by rw[g3];omega) (k4 x),fun y hy=>⟨by simp[(k5 y hy).1],(k5 y hy).2⟩⟩;simp only;rw[k3,g3,List.count_cons];by_cases e:r=x
   .simp[e];omega
   .simp[e]
  |none=>
   have bT:=Zl1 hF hq hp hr hg;obtain⟨k1,k2,k3,k4,k5⟩:=Zf8 hF hq l p hp lH;refine⟨k1,k2,fun x=>?_,k4,fun y hy=>?_⟩
   .simp only;rw[List.count_cons,List.count_cons,<-Nat.add_assoc,k3,Nat.add_assoc]
   .simp only at hy ⊢;rcases jN.1 hy with e|e
    .subst e;exact⟨by simp,bT.mono k2 k4⟩
    .exact⟨by simp[(k5 y e).1],(k5 y e).2⟩
def uO (q:Qu)(T:Nat):Prop:=∃R,q.rising R=true/\(q.z6 R T:Int)<q.sJ R
def TM (q:Qu)(p:List (List Int)):Prop:=∀x,x<q.rs.length->(kL p x:Int)=(q.run x).hours
theorem Ziq {q:Qu}{R:List Int}(h0:∀x∈R,0<=x/\x<q.rs.length){f:Nat->Nat}(hf:∀x,x<q.rs.length->(f x:Int)=(q.run x).hours):q.sJ R=((R.map fun x=>f x.toNat).sum:Nat):=by
 unfold Qu.sJ;induction R with
 |nil=>rfl
 |cons a R ih=>
  rw[iL,List.sum_cons,iL,List.sum_cons,ih fun x hx=>h0 x (by simp[hx])];have ha:=h0 a (by simp);have h1:=hf a.toNat (by omega);have h2:q.tU a=(q.run a.toNat).hours:=by unfold Qu.tU Qu.run;cases q.rs[a.toNat]?<;>rfl
  rw[h2,<-h1];omega
theorem ZlK {q:Qu}{p:List (List Int)}{l:List Nat}{r:Nat}(hs:xB q p r)(hr:r∈l)(hc:∀x,x<q.rs.length->((kL p x+l.count x:Nat):Int)=(q.run x).hours):uO q p.length:=by
 obtain⟨R,h1,h2,h3⟩:=hs;have hR:=nH.JJ h1;refine⟨R,h1,?_⟩;rw[Ziq hR.C4 hc,ZmA R (fun x=>kL p x.toNat) (fun x=>l.count x.toNat),<-Gj hR.nodup fun x hx=>(hR.C4 x hx).1];have h4:1<=(R.map fun x=>l.count x.toNat).sum:=by
  clear h1 h3 hR hc;induction R with
  |nil=>cases h2
  |cons a R ih=>
   rw[iL,List.sum_cons];rcases jN.1 h2 with e|e
   .subst e
    have:1<=l.count r:=List.count_pos_iff.2 hr
    rw[H7];omega
   .have:=ih e;omega
 omega
theorem LP.nil {q:Qu}:LP q []:=⟨fun h l e=>by simp at e,by simp⟩
theorem LP.more {q:Qu}{p:List (List Int)}(hp:LP q p)(hl:p.length<40):LP q (p++[fC]):=by
 refine⟨fun h l e=>?_,by simp;omega⟩;rw[yS]at e;split at e
 .exact hp.rows h l e
 .have h0:h-p.length=0:=by
   have:=(bZ.1 e).1
   simp at this;omega
  rw[h0]at e;simp at e;subst e;exact Mt.idle
theorem ZqJ {p:List (List Int)}{x:Nat}:kL (p++[fC]) x=kL p x:=by
 rw[Lr,ZtW]
 have:fC.count (x:Int)=0:=List.count_eq_zero.2 fun h=>by simp[fC]at h
 rw[this];rfl
theorem Ziv {F:Nat}(hF:407<F){q:Qu}(hq:q.ok):∀(n:Nat) (p:List (List Int)) (l:List Nat),LP q p->(∀r∈l,r<q.rs.length)->(∀x,x<q.rs.length->((kL p x+l.count x:Nat):Int)=(q.run x).hours)->(∀r∈l,xB q p r)->(p.length=0\/uO q (p.length-1))->p.length+n=41->
  (∃p',tS F q n p l=some p'/\LP q p'/\TM q p'/\(p'.length=0\/uO q (p'.length-1)))\/(tS F q n p l=none/\uO q 40)
 |n,p,[],hp,_,hc,_,hL,_=>.inl ⟨p,by cases n<;>rfl,hp,fun x hx=>by have:=hc x hx;simpa using this,hL⟩
 |0,p,r::l,hp,_,_,_,_,hn=>by have:=hp.len;omega
 |n+1,p,r::l,hp,hl,hc,hs,hL,hn=>by
  have hk:=ZlK (hs r (by simp)) (by simp) hc;unfold tS;split
  .rename_i RI;rw[RI]at hk;exact .inr ⟨rfl,hk⟩
  .rename_i RI;have h1:=hp.len;obtain⟨k1,k2,k3,_,k5⟩:=Zf8 hF hq (r::l) _ (hp.more (by omega)) hl;have e:(p++[fC]).length=p.length+1:=by simp
   rw[e]at k2;refine Ziv hF hq n _ _ k1 (fun x hx=>hl x (k5 x hx).1) (fun x hx=>?_) (fun x hx=>(k5 x hx).2) (.inr ?_) (by omega)
   .rw[k3,ZqJ];exact hc x hx
   .rw[k2,Nat.add_sub_cancel];exact hk
theorem Ze8 {q:Qu}{x:Nat}:∀k,((List.range k).flatMap fun i=>List.replicate (q.run i).hours.toNat i).count x=if x<k then(q.run x).hours.toNat else 0
 |0=>rfl
 |k+1=>by
  rw[List.range_succ,List.flatMap_append,List.count_append,Ze8 k];simp only[List.flatMap_cons,List.flatMap_nil,uG,List.count_replicate];by_cases e:k=x
  .subst e;simp
  .have:(k==x)=false:=by simpa using e
   rw[this];by_cases h:x<k
   .have h':x<k+1:=by omega
    simp[h,h']
   .have h':¬x<k+1:=fun h'=>h (by omega)
    simp[h,h']
theorem BF {F:Nat}(hF:407<F){q:Qu}(hq:q.ok):(∃p,q.DO F=some p/\LP q p/\TM q p/\(p.length=0\/uO q (p.length-1)))\/(q.DO F=none/\uO q 40):=by
 refine Ziv hF hq 41 [] q.JH LP.nil oD (fun x hx=>?_) (fun r hr=>?_) (.inl rfl) rfl
 .have h1:q.JH.count x=_:=Ze8 (q:=q) (x:=x) q.rs.length;rw[h1,if_pos hx];have h2:kL [] x=0:=rfl;have rP:q.rs[x]?=some q.rs[x]:=bB hx;have h3:=(hq.h _ (zX hx)).1;have h4:q.run x=q.rs[x]:=by unfold Qu.run;rw[rP];rfl
  rw[h2,h4];omega
 .have wB:=oD r hr;refine⟨[(r:Int)],?_,by simp,gV _⟩;simp[Qu.rising,Qu.SI];omega
theorem uO.no {q:Qu}(hq:q.ok){p:List (List Int)}(hp:LP q p)(hd:TM q p):¬uO q p.length:=by
 rintro⟨R,h1,h2⟩;have hR:=nH.JJ h1;have h3:=hp.ZxM hq hR;rw[Gj hR.nodup fun x hx=>(hR.C4 x hx).1]at h3;rw[Ziq hR.C4 hd]at h2;omega

def fB (rec:Nat->List (List Int)):Nat->Nat->List (List Int)
 |0,_=>[]
 |f+1,k=>rec k++fB rec f (k+1)
def uZ (n:Nat):Nat->List Int->Nat->List (List Int)
 |0,B,_=>[B]
 |m+1,B,next=>fB (fun k=>uZ n m (B++[(k:Int)]) (k+1)) (n-next) next
def yP (n:Nat):List (List Int):=fB (fun k=>uZ n k [] 0) n 1
def KI (n:Nat):Nat->List Int->Prop
 |_,[]=>True
 |next,y::s=>∃k:Nat,y=(k:Int)/\next<=k/\k<n/\KI n (k+1) s
theorem Zfw {rec:Nat->List (List Int)}{x:List Int}:∀(f k:Nat),x∈fB rec f k↔∃i,k<=i/\i<k+f/\x∈rec i
 |0,k=>by
  constructor
  .intro h;cases h
  .rintro⟨i,h1,h2,_⟩;omega
 |f+1,k=>by
  unfold fB;rw[sI,Zfw f (k+1)];constructor
  .rintro(h|⟨i,h1,h2,h3⟩)
   .exact⟨k,fG _,by omega,h⟩
   .exact⟨i,by omega,by omega,h3⟩
  .rintro⟨i,h1,h2,h3⟩;by_cases e:i=k
   .subst e;exact .inl h3
   .exact .inr ⟨i,by omega,by omega,h3⟩
theorem My {n:Nat}{x:List Int}:∀(m:Nat) (B:List Int) (next:Nat),x∈uZ n m B next↔∃s,x=B++s/\s.length=m/\KI n next s
 |0,B,next=>by
  show x∈[B]↔_;rw[rY];constructor
  .rintro rfl;exact⟨[],by simp,rfl,trivial⟩
  .rintro⟨s,h1,h2,_⟩;rw[List.length_eq_zero_iff.1 h2]at h1;simpa using h1
 |m+1,B,next=>by
  show x∈fB _ _ _↔_;rw[Zfw];constructor
  .rintro⟨k,h1,h2,h3⟩;obtain⟨s,e1,e2,e3⟩:=(My m _ _).1 h3;exact⟨(k:Int)::s,by rw[e1];simp,by simp[e2],k,rfl,h1,by omega,e3⟩
  .rintro⟨s,e1,e2,e3⟩;cases s with
   |nil=>cases e2
   |cons y s=>
    obtain⟨k,rfl,k1,k2,k3⟩:=e3;exact⟨k,k1,by omega,(My m _ _).2 ⟨s,by rw[e1];simp,by simpa using e2,k3⟩⟩
theorem KI.inc {n:Nat}:∀{next:Nat} {s:List Int},KI n next s->s.Pairwise (·<·)/\∀x∈s,(next:Int)<=x/\x<n
 |next,[],_=>⟨List.Pairwise.nil,fun x hx=>by cases hx⟩
 |next,y::s,⟨k,e,h1,h2,h3⟩=>by
  subst e;obtain⟨a,b⟩:=KI.inc h3;refine⟨H8.2 ⟨fun x hx=>by have:=b x hx;omega,a⟩,fun x hx=>?_⟩;rcases jN.1 hx with e|e
  .subst e;omega
  .have:=b x e;omega
theorem KI.of {n:Nat}:∀{next:Nat} {s:List Int},s.Pairwise (·<·)->(∀x∈s,(next:Int)<=x/\x<n)->KI n next s
 |next,[],_,_=>trivial
 |next,y::s,h1,h2=>by
  rw[H8]at h1;have hy:=h2 y (by simp);refine⟨y.toNat,by omega,by omega,by omega,KI.of h1.2 fun x hx=>?_⟩
  have:=h1.1 x hx
  have:=h2 x (by simp[hx])
  omega
theorem Znc {q:Qu}{l:List Int}(hp:l.Pairwise (·<·))(fU:∀x∈l,0<=x/\x<q.rs.length):q.rising l=true:=by
 unfold Qu.rising;rw[rC];intro i hi;rw[List.mem_range]at hi;have hx:l[i]?=some l[i]:=bB hi;have hr:=fU _ (zX hi);unfold Qu.SI;rw[hx,rW];simp only[dJ,rV,decide_eq_true_eq];refine⟨⟨by omega,by omega⟩,?_⟩;by_cases h0:i=0
 .exact .inl h0
 .right;have hy:l[i-1]?=some (l[i-1]'(by omega)):=bB (by omega);rw[hy,rW];exact Q2.1 hp (i-1) i (by omega) hi (by omega)
theorem qI {q:Qu}{l:List Int}(h:q.rising l=true):l.Pairwise (·<·):=by
 have hs:∀i:Nat,i+1<l.length->∀x y:Int,l[i]?=some x->l[i+1]?=some y->x<y:=fun i hi x y hx hy=>by
  simp only[Qu.rising,rC,List.mem_range]at h
  have:=h (i+1) hi
  simp only[Qu.SI,hx,hy,rW,dJ,rV,decide_eq_true_eq,Nat.add_sub_cancel]at this;omega
 have hm:∀d i:Nat,∀x y:Int,l[i]?=some x->l[i+d+1]?=some y->x<y:=by
  intro d;induction d with
  |zero=>exact fun i x y hx hy=>hs i (bZ.1 hy).1 x y hx hy
  |succ d ih=>
    intro i x y hx hy;have hl:=(bZ.1 hy).1;have hz:l[i+d+1]?=some l[i+d+1]:=bB (by omega);have h1:=ih i x _ hx hz;have h2:=hs (i+d+1) (by omega) _ y hz (by rw[<-hy];congr 1);omega
 rw[Q2];intro i j hi hj QJ;obtain⟨d,rfl⟩:∃d,j=i+d+1:=⟨j-i-1,by omega⟩;exact hm d i _ _ (bB hi) (bB hj)
theorem vQ {q:Qu}{x:List Int}:x∈yP q.rs.length↔q.rising x=true/\x≠[]:=by
 unfold yP;rw[Zfw];constructor
 .rintro⟨k,h1,_,h3⟩;obtain⟨s,e1,e2,e3⟩:=(My k _ _).1 h3;rw[List.nil_append]at e1;subst e1;obtain⟨a,b⟩:=e3.inc;exact⟨Znc a fun y hy=>by have:=b y hy;omega,fun e=>by subst e;simp at e2;omega⟩
 .rintro⟨h1,h2⟩;have hl:x.length<=q.rs.length:=by
   have hR:=nH.JJ h1
   have:=oI q.rs.length (x.map Int.toNat) (by
    rw[DK,List.pairwise_map];refine List.Pairwise.imp_of_mem ?_ (qI h1);intro a b ha hb aI e
    have:=hR.C4 a ha
    have:=hR.C4 b hb
    omega) (fun y hy=>by
    obtain⟨z,hz,rfl⟩:=iI.1 hy
    have:=hR.C4 z hz
    omega)
   simpa using this
  have h0:0<x.length:=List.length_pos_iff.2 h2;exact⟨x.length,by omega,by omega,(My _ _ _).2 ⟨x,by simp,rfl,KI.of (qI h1) fun y hy=>by have:=(nH.JJ h1).C4 y hy;omega⟩⟩
theorem ZeB {rec:Nat->List (List Int)}:∀(f k:Nat),fB rec (f+1) k=fB rec f k++rec (k+f)
 |0,k=>by simp[fB]
 |f+1,k=>by
  have ih:=ZeB (rec:=rec) f (k+1);have e1:fB rec (f+1+1) k=rec k++fB rec (f+1) (k+1):=rfl;have e2:fB rec (f+1) k=rec k++fB rec f (k+1):=rfl;rw[e1,e2,ih,H9,show k+1+f=k+(f+1) by omega]
theorem ZfG {n:Nat}{rec:Nat->List (List Int)}(h:∀k,k<n->(rec k).length<=2^(n-(k+1))):∀(f k:Nat),k+f<=n->(fB rec f k).length+2^(n-(k+f))<=2^(n-k)
 |0,k,_=>by simp[fB]
 |f+1,k,hk=>by
  have ih:=ZfG h f (k+1) (by omega);have h1:=h k (by omega);have e1:fB rec (f+1) k=rec k++fB rec f (k+1):=rfl;rw[e1,gD];rw[show k+1+f=k+(f+1) by omega]at ih
  have:2^(n-k)=2^(n-(k+1))+2^(n-(k+1)):=by
   rw[show n-k=n-(k+1)+1 by omega,Nat.pow_succ];omega
  omega
theorem XB {n:Nat}:∀(m:Nat) (B:List Int) (next:Nat),next<=n->(uZ n m B next).length<=2^(n-next)
 |0,B,next,_=>Nat.one_le_two_pow
 |m+1,B,next,hx=>by
  have:=ZfG (n:=n) (rec:=fun k=>uZ n m (B++[(k:Int)]) (k+1)) (fun k hk=>XB m _ _ (by omega)) (n-next) next (by omega)
  exact lC (Nat.le_add_right _ _) this
def Kw (q:Qu)(m:Nat):Prop:=∀(B:List Int) (next:Nat),B.length+m<=1000->next<=q.rs.length->cR prog 182 ([q.pv,bR B,.i next,.i m].map .pv) [] (fun r Bx=>r=.pv (eD (uZ q.rs.length m B next))/\Bx=[])
theorem Ztp (q:Qu):Kw q 0:=by
 intro B next hB _;refine cF [.loc 16 0] L182 ?_;have sV:B.length<=1000000:=by omega
 have htB:List.take B.length (List.map aN B)=List.map aN B:=fO (by simp);simp[L182,Qu.pv,bR,eD,uZ,aP,sV,htB]
def Jb (q:Qu)(m:Nat)(B:List Int)(k:Nat)(acc:List (List Int)):AS:=⟨[(1,.pv (bR B)),(3,.pv (.i (m+1:Nat))),(4,.ptr (.loc 4 0) 0),(9,.vec (.loc 38 0) 1 0 acc.length),(10,.pv (.i k))],[(.loc 38 0,.arr 26 1 (acc.map bR)),(.loc 4 0,.cells q.cells)]⟩
def lsJ (q:Qu)(m:Nat)(B:List Int)(k:Nat)(acc:List (List Int)):AS:=⟨[(25,.vec (.loc 38 0) 1 0 acc.length),(26,.pv q.pv),(32,.vec (.loc 32 0) 1 0 (B.length+1)),(34,.pv (.i (k+1:Nat))),(36,.pv (.i m)),(1,.pv (bR B)),(3,.pv (.i (m+1:Nat))),(4,.ptr (.loc 4 0) 0),(10,.pv (.i k))],
 [(.loc 32 0,.arr 3 1 ((B++[(k:Int)]).map aN)),(.loc 38 0,.arr 26 1 (acc.map bR)),(.loc 4 0,.cells q.cells)]⟩
theorem Zto (q:Qu)(hr:q.rs.length<=6)(m:Nat)(ih:Kw q m):Kw q (m+1):=by
 intro B next hB eJ;refine N6 [.loc 38 0] L182 ?_;intro R hR;have hm0:¬((m:Int)+1=0):=by omega
 have ZY:IntKind.i64.wrap (m:Int)=(m:Int):=wrap64 (by omega);have htB:List.take B.length (List.map aN B)=List.map aN B:=fO (by simp);simp[L182,Qu.pv,hm0];refine eO (fun n τ=>∃f:Nat,next+f<=q.rs.length/\n=q.rs.length-(next+f)/\τ=Jb q m B (next+f) (fB (fun k=>uZ q.rs.length m (B++[(k:Int)]) (k+1)) f next))
  ⟨q.rs.length-(next+0),Jb q m B next [],Sub.trans' (Sub.mk (by simp[AS.cI]) (by simp[AS.cI,Qu.cells])) (cI 38 26 1 9 rfl (by decide)),0,by omega,rfl,rfl⟩ ?_
 rintro J hJ n τ ⟨f,hf,rfl,rfl⟩;obtain⟨k,hk⟩:∃k,next+f=k:=⟨_,rfl⟩;rw[hk];rw[hk]at hf;by_cases aI:k<q.rs.length
 .have aB:=hJ _ _ ⟨f+1,by omega,rfl,rfl⟩;rw[ZeB,show next+(f+1)=k+1 by omega,hk]at aB;have hw:=jD (k:=k) (by omega);have aG:q.rs.length-(k+1)<q.rs.length-k:=by omega
  have hC:=ih (B++[(k:Int)]) (k+1) (by simp;omega) (by omega);have hlen:=XB (n:=q.rs.length) (m+1) B next eJ;have tY:=ZfG (n:=q.rs.length) (rec:=fun k=>uZ q.rs.length m (B++[(k:Int)]) (k+1)) (fun k hk=>XB m _ _ (by omega)) f next (by omega);have hpow:2^(q.rs.length-next)<=2^6:=Nat.pow_le_pow_right (by decide) (by omega);have yI:=XB (n:=q.rs.length) m (B++[(k:Int)]) (k+1) (by omega);have hpow2:2^(q.rs.length-(k+1))<=2^6:=Nat.pow_le_pow_right (by decide) (by omega);have haccl:=lC (Nat.le_add_right _ _) tY;clear hJ hlen ih tY;generalize uZ q.rs.length m (B++[(k:Int)]) (k+1)=new at *;generalize fB (fun k=>uZ q.rs.length m (B++[(k:Int)]) (k+1)) f next=acc at *;have sV:B.length<=1000000:=by omega
  have pP:B.length+1<=1000000:=by omega
  have QT:B.length<=999999:=by omega
  have MN:acc.length+new.length<=1000000:=by omega
  simp[Jb,Qu.cells,aI,hw,ZY];refine JQ (lsJ q m B k acc) ?_ ?_
  .simp[gO,gY,aP,sV,pP,bR]
   repeat' (with_reducible refine And.intro ?_ ?_)
   all_goals
    refine Sub.mk ?_ ?_
    .simp[bR,Qu.pv]
    .simp[aN,Qu.cells]
  .have hTT:List.take (B.length+1) ((B++[(k:Int)]).map aN)=(B++[(k:Int)]).map aN:=fO (by simp);have hTl:((B++[(k:Int)]).map aN).length=B.length+1:=by simp
   simp[-List.map_append,gO,gY,lsJ,Qu.cells];refine .inl (cP [.loc 32 0] [q.pv,bR (B++[(k:Int)]),.i (k+1:Nat),.i m] rfl ?_ hC ?_)
   .simp[-List.map_append,aM,bR,hTT]
   simp[-List.map_append,gO,gY,aM,eD,aP,MN,hw];refine⟨_,_,aG,Sub.mk ?_ ?_,aB⟩
   .simp
   .simp[Qu.cells]
 .have he:k=q.rs.length:=by omega
  have hf2:f=q.rs.length-next:=by omega
  subst hf2;clear hJ;have hV:uZ q.rs.length (m+1) B next=fB (fun k=>uZ q.rs.length m (B++[(k:Int)]) (k+1)) (q.rs.length-next) next:=rfl;rw[hV]at hR;generalize fB (fun k=>uZ q.rs.length m (B++[(k:Int)]) (k+1)) (q.rs.length-next) next=acc at *;have Rt:List.take acc.length (acc.map bR)=acc.map bR:=fO (by simp);rw[he];simp[Jb,Qu.cells,Rt];rw[<-hR];exact⟨rfl,rfl⟩
theorem Zn1 (q:Qu)(hr:q.rs.length<=6):∀m,Kw q m
 |0=>Ztp q
 |m+1=>Zto q hr m (Zn1 q hr m)
theorem vS {n:Nat}(hn:n<=6):∀(f k:Nat),(fB (fun k=>uZ n k [] 0) f k).length<=64*f
 |0,k=>gV _
 |f+1,k=>by
  have ih:=vS hn f (k+1);have h1:=lC (XB (n:=n) k [] 0 (by omega)) (Nat.pow_le_pow_right (n:=2) (by decide) (show n-0<=6 by omega));have e1:fB (fun k=>uZ n k [] 0) (f+1) k=uZ n k [] 0++fB (fun k=>uZ n k [] 0) f (k+1):=rfl;rw[e1,gD];omega
def Kf (q:Qu)(k:Nat)(acc:List (List Int)):AS:=⟨[(1,.ptr (.loc 1 0) 0),(3,.vec (.loc 16 0) 1 0 acc.length),(4,.pv (.i k))],[(.loc 16 0,.arr 26 1 (acc.map bR)),(.loc 1 0,.cells q.cells)]⟩
theorem AQ (q:Qu)(hr:q.rs.length<=6):cR prog 141 ([q.pv].map .pv) [] (fun r Bx=>r=.pv (eD (yP q.rs.length))/\Bx=[]):=by
 refine N6 [.loc 16 0] L141 ?_;intro R hR;simp[L141,Qu.pv];refine eO (fun n τ=>∃f:Nat,f<=q.rs.length/\n=q.rs.length-f/\τ=Kf q (1+f) (fB (fun k=>uZ q.rs.length k [] 0) f 1))
  ⟨q.rs.length,Kf q 1 [],Sub.trans' (Sub.mk (by simp[AS.cI]) (by simp[AS.cI,Qu.cells])) (cI 16 26 1 3 rfl (by decide)),0,by omega,rfl,rfl⟩ ?_
 rintro J hJ n τ ⟨f,hf,rfl,rfl⟩;by_cases aI:f<q.rs.length
 .have aB:=hJ _ _ ⟨f+1,by omega,rfl,rfl⟩;rw[ZeB]at aB;have hw:=jD (k:=1+f) (by omega);have aG:q.rs.length-(f+1)<q.rs.length-f:=by omega
  have hC:=Zn1 q hr (1+f) [] 0 (by simp;omega) (by omega);have hC':cR prog 182 ([q.pv,.emp (some true),.i (0:Nat),.i (1+f:Nat)].map .pv) [] (fun r Bx=>r=.pv (eD (uZ q.rs.length (1+f) [] 0))/\Bx=[]):=hC.Xg rfl (fun j x y m v e1 e2 hd=>by
   match j with
   |0=>simp at e1 e2;subst e1 e2;exact hd
   |1=>simp at e1 e2;subst e1 e2;exact AB hd
   |2=>simp at e1 e2;subst e1 e2;exact hd
   |3=>simp at e1 e2;subst e1 e2;exact hd
   |j+4=>simp at e1)
  have tY:=vS (n:=q.rs.length) hr f 1;have yI:=lC (XB (n:=q.rs.length) (1+f) [] 0 (by omega)) (Nat.pow_le_pow_right (n:=2) (by decide) (show q.rs.length-0<=6 by omega));clear hJ hC;have hle:(1:Int)+(f:Int)<=(q.rs.length:Int):=by omega
  have hle2:1+f<=q.rs.length:=by omega
  rw[show 1+(f+1)=1+f+1 by omega]at aB;generalize uZ q.rs.length (1+f) [] 0=new at *;generalize fB (fun k=>uZ q.rs.length k [] 0) f 1=acc at *;have MN:acc.length+new.length<=1000000:=by omega
  simp[Kf,Qu.cells,hle];refine .inl (cP [] [q.pv,.emp (some true),.i (0:Nat),.i (1+f:Nat)] rfl ?_ hC' ?_)
  .simp[aM,Qu.pv]
  have HD:IntKind.i64.wrap ((1:Int)+(f:Int)+1)=((1+f+1:Nat):Int):=by rw[<-hw];congr 1
  simp[aM,eD,aP,MN,HD];refine⟨_,_,aG,Sub.mk ?_ ?_,aB⟩
  .simp
  .simp[Qu.cells]
 .have he:f=q.rs.length:=by omega
  subst he;clear hJ;have hV:yP q.rs.length=fB (fun k=>uZ q.rs.length k [] 0) q.rs.length 1:=rfl;rw[hV]at hR;generalize fB (fun k=>uZ q.rs.length k [] 0) q.rs.length 1=acc at *;have Rt:List.take acc.length (acc.map bR)=acc.map bR:=fO (by simp);have Jr:¬(1:Int)+(q.rs.length:Int)<=(q.rs.length:Int):=by omega
  simp[Kf,Qu.cells,Rt,Jr];rw[<-hR];exact⟨rfl,rfl⟩
def fJ (q:Qu)(h:Int)(l:List Int)(j:Nat)(rec:List Bool->Nat)(t:List Bool):Nat->Nat
 |0=>rec t
 |i+1=>if(t[((l[i]?).getD 0).toNat]?).getD true=true\/q.may ((l[i]?).getD 0).toNat j h=false then fJ q h l j rec t i else max (fJ q h l j rec t i) (1+rec (t.set ((l[i]?).getD 0).toNat true))
def Qu.tJ (q:Qu)(h:Int)(l:List Int):Nat->List Bool->Nat
 |0,_=>0
 |k+1,t=>fJ q h l (q.ms.length-(k+1)) (q.tJ h l k) t l.length
theorem Zx {q:Qu}{h:Int}{l:List Int}{j k:Nat}{rec:List Bool->Nat}{t:List Bool}(hr:∀t,rec t<=k):∀i,fJ q h l j rec t i<=k+1
 |0=>by have:=hr t;unfold fJ;omega
 |i+1=>by
  have h1:=Zx (q:=q) (h:=h) (l:=l) (j:=j) (t:=t) hr i;have h2:=hr (t.set ((l[i]?).getD 0).toNat true);unfold fJ
  split<;>omega
theorem Zy {q:Qu}{h:Int}{l:List Int}:∀(k:Nat) (t:List Bool),q.tJ h l k t<=k
 |0,_=>fG _
 |k+1,t=>Zx (Zy k) _
theorem ZiX {t:List Bool}{i:Nat}{b:Bool}:(t.map PV.bool).set i (.bool b)=(t.set i b).map PV.bool:=by rw[List.map_set]
def OC (q:Qu)(h:Int)(l:List Int)(k:Nat):Prop:=∀t:List Bool,t.length=q.rs.length->cR prog 183 [.pv q.pv,.pv (bR l),.pv (.i h),.pv (.i ((q.ms.length-k:Nat):Int)),.vec (.par 0) 1 0 q.rs.length] [(.par 0,.arr 4 1 (t.map PV.bool))] (fun r B=>r=.pv (.i (q.tJ h l k t))/\B=[(.par 0,.arr 4 1 (t.map PV.bool))])
def zH (q:Qu)(h:Int)(l:List Int)(j:Nat)(t:List Bool)(b i:Nat):AS:=⟨[(1,.pv (bR l)),(2,.pv (.i h)),(3,.pv (.i j)),(4,.vec (.par 0) 1 0 q.rs.length),(5,.ptr (.loc 5 0) 0),(11,.pv (.i b)),(12,.pv (.i i))],[(.par 0,.arr 4 1 (t.map PV.bool)),(.loc 5 0,.cells q.cells)]⟩
theorem Lc (q:Qu)(hq:q.ok)(h:Int)(l:List Int)(hl:l.length<=1000)(fU:∀x∈l,0<=x/\x<q.rs.length):∀k,k<=q.ms.length->OC q h l k
 |0,_=>fun t ht=>by
  refine cB [.par 0] L183 ?_;simp[L183,Qu.pv,Qu.tJ]
 |k+1,hk=>fun t ht=>by
  have ih:=Lc q hq h l hl fU k (by omega);have yH:=hq.m;have UR:=hq.r;have sV:=Zy (q:=q) (h:=h) (l:=l) k;have pP:=Zx (q:=q) (h:=h) (l:=l) (j:=q.ms.length-(k+1)) (t:=t) sV;have nT:q.tJ h l (k+1) t=fJ q h l (q.ms.length-(k+1)) (q.tJ h l k) t l.length:=rfl;rw[nT];unfold OC at ih;obtain⟨j,hj⟩:∃j,q.ms.length-(k+1)=j:=⟨_,rfl⟩;have CF:q.ms.length-k=j+1:=by omega
  rw[hj]at pP ⊢;rw[CF]at ih;generalize hR:q.tJ h l k=R at *;have hjm:¬(j:Int)=(q.ms.length:Int):=by omega
  have PC:=jD (k:=j) (by omega);refine cB [.par 0] L183 ?_;have hjm2:¬j=q.ms.length:=by omega
  have ih0:=ih t ht;simp[L183,Qu.pv,hjm,PC];refine xM (gE:=[.pv q.pv,.pv (bR l),.pv (.i h),.pv (.i ((j+1:Nat):Int)),.vec (.par 0) 1 0 q.rs.length]) (B:=[(.par 0,.arr 4 1 (t.map PV.bool))]) (fs:=[]) (cs:=[]) 24 [.par 0] ?_ rfl rfl ?_ ?_ ?_ ih0 ?_
  .rfl
  .simp
  .simp
  .simp[Qu.pv]
  rintro r0 B0 ⟨rfl,rfl⟩;refine⟨rfl,by simp,?_⟩;simp;refine eO (fun n τ=>∃i:Nat,i<=l.length/\n=l.length-i/\τ=zH q h l j t (fJ q h l j R t i) i)
   ⟨l.length,zH q h l j t (fJ q h l j R t 0) 0,Sub.mk (by simp[fJ]) (by simp[Qu.cells]),0,gV _,rfl,rfl⟩ ?_
  rintro J hJ n τ ⟨i,hi,rfl,rfl⟩;by_cases aI:i<l.length
  .obtain⟨x,hx⟩:∃x,l[i]?=some x:=⟨l[i],bB aI⟩;obtain⟨BM,X0⟩:=fU x (dK hx);obtain⟨r,rfl⟩:∃r:Nat,x=r:=⟨x.toNat,by omega⟩;have n7:r<q.rs.length:=by omega
   have hg:(l.map aN)[i]?=some (.i r):=by rw[bW,hx];rfl
   have hw:=jD (k:=i) (by omega);have aG:l.length-(i+1)<l.length-i:=by omega
   have aB:=hJ _ _ ⟨i+1,aI,rfl,rfl⟩;obtain⟨b,hb⟩:∃b,t[r]?=some b:=⟨t[r],bB (by omega)⟩;have P9:(t.map PV.bool)[r]?=some (.bool b):=by rw[bW,hb];rfl
   have o0:=Zuw q hq r j h n7 (by omega);have iD:fJ q h l j R t (i+1)=if b=true\/q.may r j h=false then fJ q h l j R t i else max (fJ q h l j R t i) (1+R (t.set r true)):=by
    rw[fJ,hx];simp only[rW,H7,hb]
   have hrt:r<t.length:=by omega
   rw[iD]at aB;have QT:=pP i;clear hJ iD nT;generalize fJ q h l j R t i=E at *;cases b with
   |true=>
    rw[if_pos (.inl rfl)]at aB;simp[zH,bR,aI,↓hg,↓P9,hw,n7,cV];refine⟨_,_,aG,Sub.mk ?_ ?_,aB⟩
    .simp[bR]
    .simp[Qu.cells]
   |false=>
    simp[zH,bR,aI,↓hg,↓P9,n7,Qu.cells,cV];refine cG [q.pv,.i r,.i j,.i h] o0 ?_;cases hc:q.may r j h with
    |false=>
     rw[if_pos (.inr hc)]at aB;simp[hw];refine⟨_,_,aG,Sub.mk ?_ ?_,aB⟩
     .simp[bR]
     .simp[Qu.cells]
    |true=>
     rw[if_neg (by rw[hc];simp)]at aB;have BI:=ih (t.set r true) (by simpa using ht);have Cn:t.set r false=t:=by
      apply List.ext_getElem?;intro j';by_cases e:j'=r
      .subst e;rw[O2 hrt,hb]
      .rw[List.getElem?_set_ne (fun e'=>e e'.symm)]
     have Ub:((t.set r true).map PV.bool)[r]?=some (.bool true):=by rw[bW,O2 hrt];rfl
     have MN:=sV (t.set r true);have pW:IntKind.i64.wrap (1+(R (t.set r true):Int))=((1+R (t.set r true):Nat):Int):=by rw[wrap64 (by omega)];omega
     simp[-List.map_set,↓hg,↓P9,PC,n7,setAt,ZiX,cV];refine xM (gE:=[.pv q.pv,.pv (bR l),.pv (.i h),.pv (.i ((j+1:Nat):Int)),.vec (.par 0) 1 0 q.rs.length]) (B:=[(.par 0,.arr 4 1 ((t.set r true).map PV.bool))]) (fs:=[]) (cs:=[]) 62 [.par 0] ?_ rfl rfl ?_ ?_ ?_ BI ?_
     .rfl
     .simp
     .simp
     .simp[Qu.pv,bR]
     rintro r0 B0 ⟨rfl,rfl⟩;refine⟨rfl,by simp,?_⟩;simp[-List.map_set,↓hg,↓Ub,hw,pW,n7,setAt,ZiX,cV,Cn];have PY:(if(E:Int)<1+(R (t.set r true):Int)then 1+(R (t.set r true):Int)else(E:Int))=((max E (1+R (t.set r true)):Nat):Int):=by split<;>omega
     refine⟨_,_,aG,Sub.mk ?_ ?_,aB⟩
     .simp[bR,PY]
     .simp[zH,Qu.cells]
  .have he:i=l.length:=by omega
   subst he;simp[zH,bR,Qu.cells]
theorem ZkS {q:Qu}{h:Int}{l:List Int}{j:Nat}{rec:List Bool->Nat}{t:List Bool}{n:Nat}:fJ q h l j rec t n<=fJ q h l j rec t (n+1):=by
 show _<=(if _ then _ else _);split
 .exact fG _
 .exact Nat.le_max_left _ _
theorem ZgD {q:Qu}{h:Int}{l:List Int}{j:Nat}{rec:List Bool->Nat}{t:List Bool}:∀n,rec t<=fJ q h l j rec t n
 |0=>fG _
 |n+1=>lC (ZgD n) ZkS
theorem ZkT {q:Qu}{h:Int}{l:List Int}{j:Nat}{rec:List Bool->Nat}{t:List Bool}{i r:Nat}(hx:l[i]?=some (r:Int))(ht:t[r]?=some false)(hm:q.may r j h=true):∀n,i<n->1+rec (t.set r true)<=fJ q h l j rec t n
 |n+1,hi=>by
  by_cases e:i=n
  .subst e;show _<=(if _ then _ else _);rw[hx];simp only[rW,H7,ht];rw[if_neg (by rw[hm];simp)];exact Nat.le_max_right _ _
  .exact lC (ZkT hx ht hm n (by omega)) ZkS
def KJ (l:List Int)(t:List Bool)(r:Nat):Prop:=(r:Int)∈l/\t[r]?=some false
theorem Zz {q:Qu}(hq:q.ok){h:Int}{l:List Int}:∀k,k<=q.ms.length->∀(t:List Bool) (w:List Int),Mt q h (KJ l t) (q.ms.length-k) w->4<=q.tJ h l k t+w.count (-1)
 |0,_,t,w,hw=>by
  have:=hw.none (fun m r _ h1 h2=>by omega)
  omega
 |k+1,hk,t,w,hw=>by
  have yH:=hq.m;obtain⟨j,hj⟩:∃j,q.ms.length-(k+1)=j:=⟨_,rfl⟩;have CF:q.ms.length-k=j+1:=by omega
  have nT:q.tJ h l (k+1) t=fJ q h l j (q.tJ h l k) t l.length:=by rw[<-hj];rfl
  rw[nT];rw[hj]at hw;have xH:j<w.length:=by rw[hw.len];omega
  have hx:w[j]?=some w[j]:=bB xH;rcases hw.ok _ (zX xH)with h1|h1
  .rw[h1]at hx
   have:=Zz hq (h:=h) (l:=l) k (by omega) t w (by rw[CF];exact hw.next hx)
   have:=ZgD (q:=q) (h:=h) (l:=l) (j:=j) (rec:=q.tJ h l k) (t:=t) l.length
   omega
  .obtain⟨r,hr⟩:∃r:Nat,w[j]=r:=⟨w[j].toNat,by omega⟩;rw[hr]at hx;obtain⟨_,_,⟨o1,o2⟩,o3⟩:=hw.on j r hx;obtain⟨i,hi⟩:=iJ.1 o1
   have:=ZkT (rec:=q.tJ h l k) hi o2 o3 l.length (bZ.1 hi).1
   have hc:=hw.cut hx;have h2:=Zz hq (h:=h) (l:=l) k (by omega) (t.set r true) (w.set j (-1)) (by
    rw[CF];exact(hc.mono fun r' wB=>⟨wB.1.1,by rw[List.getElem?_set_ne (fun e=>wB.2 e.symm)];exact wB.1.2⟩).next (O2 xH))
   rw[ZoA hx]at h2;omega
theorem ZkR {q:Qu}(hq:q.ok){h:Int}{l:List Int}(fU:∀x∈l,0<=x/\x<q.rs.length):∀k,k<=q.ms.length->∀t:List Bool,∃w,Mt q h (KJ l t) (q.ms.length-k) w/\q.tJ h l k t+w.count (-1)=4
 |0,_,t=>⟨fC,Mt.idle,by show 0+_=_;decide⟩
 |k+1,hk,t=>by
  have yH:=hq.m;obtain⟨j,hj⟩:∃j,q.ms.length-(k+1)=j:=⟨_,rfl⟩;have CF:q.ms.length-k=j+1:=by omega
  have nT:q.tJ h l (k+1) t=fJ q h l j (q.tJ h l k) t l.length:=by rw[<-hj];rfl
  rw[nT,hj];have ih:=ZkR hq (h:=h) fU k (by omega);rw[CF]at ih;have step:∀n,n<=l.length->∃w,Mt q h (KJ l t) j w/\fJ q h l j (q.tJ h l k) t n+w.count (-1)=4:=by
   intro n;induction n with
   |zero=>
     intro _;obtain⟨w,h1,h2⟩:=ih t;exact⟨w,h1.down,h2⟩
   |succ n ihn=>
     intro hn;obtain⟨w0,k1,k2⟩:=ihn (by omega);have hx:l[n]?=some l[n]:=bB (by omega);have EK:=fU _ (dK hx);obtain⟨r,hr⟩:∃r:Nat,l[n]=r:=⟨l[n].toNat,by omega⟩;rw[hr]at hx;have bT:fJ q h l j (q.tJ h l k) t (n+1)=if(t[r]?).getD true=true\/q.may r j h=false then fJ q h l j (q.tJ h l k) t n else max (fJ q h l j (q.tJ h l k) t n) (1+q.tJ h l k (t.set r true)):=by
      rw[fJ,hx];simp only[rW,H7]
     rw[bT];split
     .exact⟨w0,k1,k2⟩
     .rename_i hc;rw[not_or]at hc;have ht:t[r]?=some false:=by
       cases e:t[r]? with
       |none=>rw[e]at hc;exact absurd rfl hc.1
       |some b=>cases b;rfl;rw[e]at hc;exact absurd rfl hc.1
      have hm:q.may r j h=true:=by simpa using hc.2
      rcases Nat.le_total (1+q.tJ h l k (t.set r true)) (fJ q h l j (q.tJ h l k) t n)with h1|h1
      .rw[Nat.max_eq_left h1];exact⟨w0,k1,k2⟩
      .rw[Nat.max_eq_right h1];obtain⟨w,a1,a2⟩:=ih (t.set r true);have xH:j<w.length:=by rw[a1.len];omega
       have PC:w[j]?=some (-1):=by
        rcases a1.ok _ (zX xH)with h3|h3
        .rw[bB xH,h3]
        .obtain⟨r',wB⟩:∃r':Nat,w[j]=r':=⟨w[j].toNat,by omega⟩
         have:=(a1.on j r' (by rw[bB xH,wB])).1
         omega
       refine⟨w.set j r,a1.down.put (fG _) (by omega) hm ⟨dK hx,ht⟩ (fun r' wB=>?_),?_⟩
       .have dA:r'≠r:=fun e=>by
         have h4:=wB.2;rw[e,O2 (bZ.1 ht).1]at h4;cases h4
        refine⟨⟨wB.1,?_⟩,dA⟩;have h4:=wB.2
        rwa [List.getElem?_set_ne (fun e=>dA e.symm)]at h4
       .have:=ZtV (run:=r) PC
        omega
  exact step l.length (fG _)
def j6 (q:Qu):List Bool:=List.replicate q.rs.length false
theorem Ztf {q:Qu}(hq:q.ok){h:Int}{l:List Int}(hl:nH q l):q.tJ h l q.ms.length (j6 q)=q.DI h l:=by
 have hf:∀r:Nat,KJ l (j6 q) r↔(r:Int)∈l:=fun r=>⟨fun h=>h.1,fun h=>⟨h,by
  have:=hl.C4 _ h
  unfold j6;rw[List.getElem?_replicate,if_pos (by omega)]⟩⟩
 obtain⟨w,h1,h2⟩:=ZkR hq (h:=h) hl.C4 q.ms.length (fG _) (j6 q);obtain⟨M,h3,h4⟩:=ZrZ hq (h:=h) hl;rw[Nat.sub_self]at h1;have h5:=Zr0 hq hl (h1.mono fun r hr=>(hf r).1 hr);have h6:=Zz hq (h:=h) (l:=l) q.ms.length (fG _) (j6 q) M (by rw[Nat.sub_self];exact h3.mono fun r hr=>(hf r).2 hr);omega
def Qu.O5 (q:Qu)(l:List Int):Nat->Nat
 |0=>0
 |h+1=>q.O5 l h+q.tJ h l q.ms.length (j6 q)
theorem vD {q:Qu}(hq:q.ok){l:List Int}(hl:nH q l):∀h,q.O5 l h=q.z6 l h
 |0=>rfl
 |h+1=>by
  show q.O5 l h+_=q.z6 l h+_;rw[vD hq hl h,Ztf hq hl]
theorem Zkw {q:Qu}(hq:q.ok){l:List Int}:∀h,q.O5 l h<=4*h
 |0=>fG _
 |h+1=>by
  have h1:=Zkw hq (l:=l) h;have h2:=Zy (q:=q) (h:=h) (l:=l) q.ms.length (j6 q)
  have:=hq.m
  show q.O5 l h+_<=_;omega
theorem GF (q:Qu)(hq:q.ok)(l:List Int)(hl:l.length<=1000)(fU:∀x∈l,0<=x/\x<q.rs.length)(u:Nat)(hu:u<=100):aD prog 143 [q.pv,bR l,.i u] (.i (q.O5 l u)):=by
 have hqr:=hq.r;refine cS L143 ?_;have hR6:q.rs.length<=1000000:=by omega
 simp[L143,Qu.pv];refine eO (fun n τ=>∃k:Nat,k<=u/\n=u-k/\τ=⟨[(1,.pv (bR l)),(2,.pv (.i u)),(3,.ptr (.loc 3 0) 0),(7,.pv (.i (q.O5 l k))),(8,.pv (.i k))],[(.loc 3 0,.cells q.cells)]⟩)
  ⟨u,⟨[(1,.pv (bR l)),(2,.pv (.i u)),(3,.ptr (.loc 3 0) 0),(7,.pv (.i 0)),(8,.pv (.i 0))],[(.loc 3 0,.cells q.cells)]⟩,Sub.mk (by simp) (by simp[Qu.cells]),0,gV _,rfl,rfl⟩ ?_
 rintro J hJ n τ ⟨k,hk,rfl,rfl⟩;by_cases aI:k<u
 .have hw:=jD (k:=k) (by omega);have aG:u-(k+1)<u-k:=by omega
  have aB:=hJ _ _ ⟨k+1,aI,rfl,rfl⟩;have Ta:=Lc q hq k l hl fU q.ms.length (fG _) (j6 q) (by simp[j6]);rw[Nat.sub_self]at Ta;have hb:=Zkw hq (l:=l) (k+1);have bT:q.O5 l (k+1)=q.O5 l k+q.tJ k l q.ms.length (j6 q):=rfl;have mM:(j6 q).map PV.bool=List.replicate q.rs.length (.bool false):=by simp[j6]
  rw[mM]at Ta;clear hJ mM;generalize q.O5 l (k+1)=E2 at *;subst bT;generalize q.O5 l k=E at *;generalize q.tJ k l q.ms.length (j6 q)=A at *;have sO:IntKind.i64.wrap ((E:Int)+(A:Int))=(E:Int)+(A:Int):=wrap64 (by omega);simp[Qu.cells,aI,aP,hR6];refine xM (gE:=[.pv q.pv,.pv (bR l),.pv (.i k),.pv (.i ((0:Nat):Int)),.vec (.par 0) 1 0 q.rs.length]) (B:=[(.par 0,.arr 4 1 (List.replicate q.rs.length (.bool false)))]) (fs:=[]) (cs:=[]) 22 [.loc 21 0] ?_ rfl rfl ?_ ?_ ?_ Ta ?_
  .rfl
  .simp
  .simp
  .simp[Qu.pv]
  rintro r0 B0 ⟨rfl,rfl⟩;refine⟨rfl,by simp,?_⟩;simp[hw,sO];refine⟨_,_,aG,Sub.mk ?_ ?_,aB⟩
  .simp
  .simp[Qu.cells]
 .have he:k=u:=by omega
  subst he;simp[Qu.cells]
end Go.Proofs.YtlllhbmbnjnoiaaGreatDoor.Qn
namespace Go.Proofs.YtlllhbmbnjnoiaaGreatDoor
open Go.RowKit
open Go.Proofs.Tryz Go.Proofs.YtlllhbmbnjnoiaaGreatDoor.Tryz
section
attribute [local irreducible] Qn.Qu.O5 Qn.Qu.sJ Qn.yP
def zE (q:Qn.Qu)(u:Nat):Bool:=(Qn.yP q.rs.length).all fun l=>decide (q.sJ l<=(q.O5 l u:Int))
def GO (q:Qn.Qu)(u:Nat)(A:List (List Int))(k:Nat):AS:=⟨[(1,.pv (.i (u:Int))),(2,.ptr (.loc 2 0) 0),(5,.pv (Qn.eD A)),(6,.pv (.i (k:Int)))],[(.loc 2 0,.cells q.cells)]⟩
theorem Znb {q:Qn.Qu}(hq:q.ok){l:List Int}(h:l∈Qn.yP q.rs.length):l.length<=1000/\∀x∈l,0<=x/\x<q.rs.length:=by
 have h1:=(Qn.vQ.1 h).1;have hR:=Qn.nH.JJ h1;refine⟨?_,hR.C4⟩
 have:=Qn.oI q.rs.length (l.map Int.toNat) (by
  rw[DK,List.pairwise_map];refine List.Pairwise.imp_of_mem ?_ (Qn.qI h1);intro a b ha hb aI e
  have:=hR.C4 a ha
  have:=hR.C4 b hb
  omega) (fun y hy=>by
  obtain⟨z,hz,rfl⟩:=iI.1 hy
  have:=hR.C4 z hz
  omega)
 have h6:=hq.r;rw[fV]at this;omega
theorem Zpw (q:Qn.Qu)(hq:q.ok)(u:Nat)(hu:u<=100):aD prog 98 [q.pv,.i (u:Int)] (.bool (zE q u)):=by
 have UR:=hq.r;have Th:=Qn.AQ q UR;have X3:=fun l h=>Znb (l:=l) hq h
 have hal:(Qn.yP q.rs.length).length<=1000:=by have:=Qn.vS UR q.rs.length 1;unfold Qn.yP;omega
 obtain⟨V,hV⟩:∃V,V=zE q u:=⟨_,rfl⟩;rw[<-hV];unfold zE at hV;generalize Qn.yP q.rs.length=A at *;refine T8 L98 ?_;intro R hR;simp[L98,Qn.Qu.pv];refine .inl (cP [] [q.pv] rfl (by simp[Qn.Qu.pv]) Th ?_);simp[aM];refine eO (fun m τ=>∃k:Nat,k<=A.length/\m=A.length-k/\V=(A.drop k).all (fun l=>decide (q.sJ l<=(q.O5 l u:Int)))/\τ=GO q u A k)
  ⟨A.length,GO q u A 0,Sub.mk (by simp) (by simp[Qn.Qu.cells]),0,gV _,rfl,hV,rfl⟩ ?_
 rintro J hJ m τ ⟨k,hk,rfl,hv,rfl⟩;by_cases aI:k<A.length
 .obtain⟨l,hx⟩:∃l,A[k]?=some l:=⟨A[k],bB aI⟩;obtain⟨oY,qZ⟩:=X3 l (dK hx);have hg:(A.map Qn.bR)[k]?=some (Qn.bR l):=by rw[bW,hx];rfl
  have hw:=bN (k:=k) (by omega);have aG:A.length-(k+1)<A.length-k:=by omega
  have x8:A.drop k=l::A.drop (k+1):=by
   obtain⟨hl,he⟩:=bZ.1 hx;rw[y8 hl,he]
  rw[x8,List.all_cons]at hv;have G5:=Qn.GX q l oY (by omega) hq.h qZ;have lW:=Qn.GF q hq l oY qZ u hu;have hip:Qn.bR l=.aF false 1 (l.map Qn.aN):=rfl;have hqp:q.pv=.agg [.aF false 1 (q.ms.map Qn.iB),.aF false 3 (q.rs.map Qn.Rq.pv)]:=rfl;rw[hqp,hip]at G5 lW;simp[GO,Qn.eD,Qn.Qu.cells,aI,↓hg,aP,hip];refine cQ [] [_,_] G5 ?_;simp[aM];refine cG [_,_,_] lW ?_;by_cases hc:q.sJ l<=(q.O5 l u:Int)
  .have aB:=hJ _ _ ⟨k+1,aI,rfl,by rw[hv,decide_eq_true hc,Bool.true_and],rfl⟩;have sU:¬(q.O5 l u:Int)<q.sJ l:=by omega
   simp[sU,hw];exact⟨_,_,aG,Sub.mk (by simp[Qn.eD]) (by simp[Qn.Qu.cells]),aB⟩
  .have sU:(q.O5 l u:Int)<q.sJ l:=by omega
   have zJ:V=false:=by rw[hv,decide_eq_false hc,Bool.false_and]
   subst zJ;simp[sU];rw[<-hR];exact⟨rfl,rfl⟩
 have he:k=A.length:=by omega
 subst he;rw[List.drop_length]at hv;have zJ:V=true:=hv;subst zJ;simp[GO,Qn.eD,Qn.Qu.cells];rw[<-hR];exact⟨rfl,rfl⟩
theorem Zna {q:Qn.Qu}{R:List Int}{u:Nat}:∀d,q.z6 R u<=q.z6 R (u+d)
 |0=>fG _
 |d+1=>lC (Zna d) (Nat.le_add_right _ _)
theorem Qn.uO.less {q:Qn.Qu}{T T':Nat}(h:Qn.uO q T)(hl:T'<=T):Qn.uO q T':=by
 obtain⟨R,h1,h2⟩:=h
 have:=Zna (q:=q) (R:=R) (u:=T') (T-T')
 rw[Nat.add_sub_cancel' hl]at this;exact⟨R,h1,by omega⟩
theorem Zky {q:Qn.Qu}(hq:q.ok){u:Nat}:zE q u=true↔¬Qn.uO q u:=by
 unfold zE;rw[rC];refine⟨?_,fun h l hl=>?_⟩
 .rintro h ⟨R,h1,h2⟩;have dA:R≠[]:=fun e=>by subst e;have:q.sJ []=0:=(by with_unfolding_all rfl);omega
  have h3:=of_decide_eq_true (h R (Qn.vQ.2 ⟨h1,dA⟩));rw[Qn.vD hq (Qn.nH.JJ h1)]at h3;omega
 .refine decide_eq_true ?_;have h1:=(Qn.vQ.1 hl).1;rw[Qn.vD hq (Qn.nH.JJ h1)];exact Int.not_lt.1 fun h2=>h ⟨l,h1,h2⟩
theorem Zoq {q:Qn.Qu}(hc:q.check=0):decide (eY 408 q=0)=zE q 40:=by
 have hq:=Qn.Qu.Kl hc;unfold eY;rw[if_neg (by rw[hc];exact fun h=>h rfl)];rcases Qn.BF (F:=408) (by decide) hq with⟨p,h1,h2,h3,_⟩|⟨h1,h2⟩
 .rw[h1];exact((Zky hq).2 fun h=>(h.less h2.len).no hq h2 h3).symm
 .rw[h1];exact(Bool.eq_false_iff.2 fun h=>(Zky hq).1 h h2).symm
theorem Zjy (rs:List Qn.Rq)(hr:rs.length<=6)(X7:∀r∈rs,∃h q o,r=pK h q o/\1<=h/\h<=40/\0<=q/\q<=40/\1<=o/\o<=3):(uL rs).check=0:=by
 have h1:(uL rs).xK=false:=by
  unfold Qn.Qu.xK uL;simp;omega
 have h2:(uL rs).bad=false:=by
  unfold Qn.Qu.bad uL;simp;refine⟨by decide,fun r hr=>?_⟩;obtain⟨h,q,o,rfl,hh⟩:=X7 r hr;have m1:Qn.kU h=true:=by unfold Qn.kU;rw[decide_eq_true (by omega),decide_eq_true (by omega)];rfl
  have m2:Qn.kU q=true:=by unfold Qn.kU;rw[decide_eq_true (by omega),decide_eq_true (by omega)];rfl
  show(Qn.kU h&&Qn.kU q&&true)=true;rw[m1,m2];rfl
 unfold Qn.Qu.check;rw[h1,h2];rfl
theorem Zpx (rs:List Qn.Rq)(hr:rs.length<=6)(X7:∀r∈rs,∃h q o,r=pK h q o/\1<=h/\h<=40/\0<=q/\q<=40/\1<=o/\o<=3):aD prog 98 [.agg [WH,.aF false 3 (rs.map Qn.Rq.pv)],.i 40] (.bool (decide (eY 408 (uL rs)=0))):=by
 have hc:=Zjy rs hr X7;rw[Zoq hc];exact Zpw (uL rs) (Qn.Qu.Kl hc) 40 (by decide)
end
section
attribute [local irreducible] Bk.qU eY Bk.contra Bk.held Bk.span Bk.nums Bk.iG Bk.qF stM nM qY Bk.fault
def rnJ (w:Wk)(x:PV):AS:=⟨[(2,.ptr (.loc 2 0) 0),(4,.ptr (.loc 4 0) 0),(6,.ptr (.loc 6 0) 0),(36,.vec (.loc 36 0) 3 0 w.runs.length),(53,.vec (.loc 53 0) 3 0 1)],
 [(.loc 53 0,.arr 85 3 [x]),(.loc 36 0,.arr 85 3 (w.runs.map Qn.Rq.pv)),(.loc 6 0,.cells w.cells),(.loc 4 0,.cells [pQ,pQ,pQ,pQ,pQ]),(.loc 2 0,.cells w.cells)]⟩
theorem Zuu {k0:Nat}(w:Wk)(hI:sA k0 w)(a b c:Int):aD prog 64 [w.pv,.aF false 1 [.i a,.i b,.i c]] (sM w ((runM 408 w.runs a b c).map fun l=>{ w with runs:=l })):=by
 have UR:=hI.r6;have i1:=rL a 1 40;have i2:=rL b 0 40;have i3:=rL c 1 3;have jI:w.pv=.agg [.aF false 7 (w.aA.map Ct.pv),.aF false 1 (w.bad.map iP),.aF false 4 (w.aK.map Lt.pv),.aF false 4 (w.aH.map Tt.pv),.aF false 3 (w.runs.map Qn.Rq.pv)]:=rfl;refine cF [.loc 54 0] L64 ?_;obtain⟨V,hV⟩:∃V,V=sM w ((runM 408 w.runs a b c).map fun l=>{ w with runs:=l }):=⟨_,rfl⟩;rw[<-hV];generalize hR:(fun(r:AV) (B:List (Site×aJ))=>r=.pv V/\B=[])=R;have gB:¬((decide (1<=a)&&decide (a<=40))=true/\(decide (0<=b)&&decide (b<=40))=true/\(decide (1<=c)&&decide (c<=3))=true)->V=.bL [w.pv,.i 2]:=fun h=>by
  rw[hV];unfold runM;rw[if_neg h];rfl
 rw[jI]at gB ⊢;simp[L64];refine cG [_,_,_] i1 ?_;generalize tW:(decide (1<=a)&&decide (a<=40))=d1 at *;cases d1
 .have hv:=gB (by simp);subst hv;simp;rw[<-hR];exact⟨by simp,by simp⟩
 simp;refine cG [_,_,_] i2 ?_;generalize wF:(decide (0<=b)&&decide (b<=40))=d2 at *;cases d2
 .have hv:=gB (by simp);subst hv;simp;rw[<-hR];exact⟨by simp,by simp⟩
 simp;refine cG [_,_,_] i3 ?_;generalize T2:(decide (1<=c)&&decide (c<=3))=d3 at *;cases d3
 .have hv:=gB (by simp);subst hv;simp;rw[<-hR];exact⟨by simp,by simp⟩
 clear gB;unfold runM at hV;rw[tW,wF,T2,if_pos ⟨rfl,rfl,rfl⟩]at hV;by_cases h6:w.runs.length<6
 case neg=>
  have hv:V=.bL [w.pv,.i 3]:=by rw[hV,if_neg h6];rfl
  rw[jI]at hv;subst hv;have VK:(6:Int)<=(w.runs.length:Int):=by omega
  have Vq:6<=w.runs.length:=by omega
  simp[VK];rw[<-hR];exact⟨by simp,by simp⟩
 have VK:¬(6:Int)<=(w.runs.length:Int):=by omega
 have Vq:¬6<=w.runs.length:=by omega
 rw[if_pos h6]at hV;have g1:1<=a/\a<=40:=by rw[dJ,decide_eq_true_eq,decide_eq_true_eq]at tW;exact tW
 have g2:0<=b/\b<=40:=by rw[dJ,decide_eq_true_eq,decide_eq_true_eq]at wF;exact wF
 have g3:1<=c/\c<=3:=by rw[dJ,decide_eq_true_eq,decide_eq_true_eq]at T2;exact T2
 have zL:=Zpx (w.runs++[pK a b c]) (by rw[gD];simp;omega) (fun r hr=>(sI.1 hr).elim (hI.on r) fun h=>⟨a,b,c,rY.1 h,g1.1,g1.2,g2.1,g2.2,g3.1,g3.2⟩);have US:=Zpv ((w.runs++[pK a b c]).map Qn.Rq.pv);have hnp:Qn.Rq.pv (pK a b c)=.agg [.i a,.i b,.aF false 1 [.bool (!decide (c=2)),.bool (!decide (c=1))]]:=rfl;have hm:(w.runs.map Qn.Rq.pv).take w.runs.length=w.runs.map Qn.Rq.pv:=fO (by simp);have HP:w.runs.length<=1000000:=by omega
 have UZ:w.runs.length+1<=1000000:=by omega
 rw[mF,iL,List.map_nil]at zL US;generalize hxx:Qn.Rq.pv (pK a b c)=xx at *;have nD:(w.runs.map Qn.Rq.pv++[xx]).take (w.runs.length+1)=w.runs.map Qn.Rq.pv++[xx]:=fO (by simp);simp[aP,VK];refine DU (fun τ=>τ=rnJ w xx) ?_ ?_
 .subst hnp;simp[gO,gY,aP,HP]
  repeat' apply And.intro
  all_goals exact Sub.mk (by simp) (by simp[pQ,Wk.cells])
 rintro τ rfl;simp[rnJ,pQ,Wk.cells,gO,gY,aP,UZ];refine .inl<|cP [.loc 54 0] [.aF false 3 (w.runs.map Qn.Rq.pv++[xx])] (by simp) (by simp[nD]) US ?_;simp[aM,nD];refine cG [_,_] zL ?_;by_cases he:eY 408 (uL (w.runs++[pK a b c]))=0
 case neg=>
  have hv:V=.bL [w.pv,.i 9]:=by rw[hV,if_neg he];rfl
  rw[jI]at hv;subst hv;simp[he];rw[<-hR];exact⟨by simp,by simp⟩
 have hv:V=.bL [.agg [.aF false 7 (w.aA.map Ct.pv),.aF false 1 (w.bad.map iP),.aF false 4 (w.aK.map Lt.pv),.aF false 4 (w.aH.map Tt.pv),.aF false 3 (w.runs.map Qn.Rq.pv++[xx])],.i 0]:=by
  rw[hV,if_pos he,<-hxx];show PV.bL [.agg [_,_,_,_,.aF false 3 ((w.runs++[pK a b c]).map Qn.Rq.pv)],_]=_;rw[mF];rfl
 subst hv;simp[he];rw[<-hR];exact⟨by simp,by simp⟩
end
def Pw:Option Int->PV
 |some v=>.bL [.i v,.bool true]
 |none=>.bL [.i 0,.bool false]
theorem ZnL (s:ByteArray):∃(neg:Bool) (a:Nat) (ds:List UInt8),((neg=true/\a=1/\AP s 0=some 45/\0<s.size)\/(neg=false/\a=0/\(s.size=0\/∃b,AP s 0=some b/\¬(b.toNat:Int)=45/\0<s.size)))/\s.data.toList.drop a=ds/\s.size=ds.length+a/\xY s=(tR s.size ds).map fun(n:Nat)=>if neg=true then -(n:Int)else(n:Int):=by
 have hz:s.size=s.data.toList.length:=by rw[uV];rfl
 unfold xY;cases hl:s.data.toList with
 |nil=>
  refine⟨false,0,[],.inr ⟨rfl,rfl,.inl (by rw[hz,hl];rfl)⟩,rfl,by rw[hz,hl];rfl,?_⟩;rw[hz,hl];rfl
 |cons b r=>
  have h0:AP s ((0:Nat):Int)=some b:=Yh (by rw[hl];rfl);have hp:0<s.size:=by rw[hz,hl];simp
  by_cases hb:b=45
  .subst hb;refine⟨true,1,r,.inl ⟨rfl,rfl,h0,hp⟩,rfl,by rw[hz,hl];rfl,?_⟩;rw[hz,hl];rfl
  .refine⟨false,0,b::r,.inr ⟨rfl,rfl,.inr ⟨b,h0,fun h=>hb (UInt8.toNat_inj.1 ?_),hp⟩⟩,rfl,by rw[hz,hl];rfl,?_⟩
   .have:(45:UInt8).toNat=45:=rfl
    omega
   .rw[hz,hl];split
    .rename_i r' e;exact absurd (List.cons.inj e).1 hb
    .rfl
theorem ZrU {b:UInt8}:(48<=b.toNat/\b.toNat<=57->Lib.digitVal b=some (b.toNat-48))/\(¬(48<=b.toNat/\b.toNat<=57)->Lib.digitVal b=none):=by
 constructor
 .rintro⟨h1,h2⟩;have h:=Xo (d:=b.toNat-48) (by omega);have e:UInt8.ofNat (48+(b.toNat-48))=b:=UInt8.toNat_inj.1 (by rw[UInt8.toNat_ofNat'];omega);rw[e]at h;exact h
 .intro h;cases hd:Lib.digitVal b with
  |none=>rfl
  |some d=>
   obtain⟨h1,rfl⟩:=ZrI hd;rw[UInt8.toNat_ofNat']at h;omega
theorem Zoe {b:UInt8}{l r:List UInt8}(h:Lib.digitVal b=none){n:Nat}(hn:Lib.decFrom 0 l=some n):Lib.decFrom 0 (l++b::r)=none:=by
 have:∀(l:List UInt8) (acc n:Nat),Lib.decFrom acc l=some n->Lib.decFrom acc (l++b::r)=none:=by
  intro l;induction l with
  |nil=>intro acc n _;simp only[List.nil_append,Lib.decFrom,h]
  |cons x l ih=>
   intro acc n hh;simp only[List.cons_append,Lib.decFrom]at hh ⊢;cases hx:Lib.digitVal x with
   |none=>rfl
   |some d=>rw[hx]at hh;exact ih _ _ hh
 exact this l 0 n hn
def UA (s:ByteArray)(neg:Bool)(a k n:Nat):AS:=⟨[(0,.pv (.str s)),(4,.pv (.bool neg)),(5,.pv (.i ((k+a:Nat):Int))),(6,.pv (.i (n:Int)))],[]⟩
theorem Zp1 (s:ByteArray)(hs:s.size<=1000000):aD prog 104 [.str s] (Pw (xY s)):=by
 obtain⟨neg,a,ds,hc,QP,fH,C9⟩:=ZnL s;obtain⟨V,hV⟩:∃V,V=xY s:=⟨_,rfl⟩;rw[<-hV]at C9 ⊢;clear hV;have p5:∀k,k<ds.length->∃b,ds[k]?=some b/\AP s ((k+a:Nat):Int)=some b:=fun k hk=>by
  refine⟨ds[k],bB hk,Yh ?_⟩;rw[<-bB hk,<-QP,mS,Nat.add_comm]
 refine T8 L104 ?_;intro R hR;have hI:∀c:Nat,((c:Int)=48)=(c=48):=fun c=>propext ⟨fun h=>by omega,fun h=>by omega⟩
 obtain⟨ng,Sv⟩:∃z,z=neg:=⟨_,rfl⟩;obtain⟨a',ha'⟩:∃z,z=a:=⟨_,rfl⟩;have w1:IntKind.i64.wrap ((s.size:Int)-(a:Int))=(ds.length:Int):=by rw[wrap64 (by omega)];omega
 by_cases p4:ds.length=0
 .have hn:V=none:=by rw[C9];unfold tR;rw[if_pos (.inl p4)];rfl
  subst hn;rcases hc with⟨rfl,rfl,h0,hp⟩|⟨rfl,rfl,h0⟩
  .have f1:s.size=1:=by omega
   simp[L104,h0,f1];rw[<-hR];exact⟨rfl,rfl⟩
  .have f1:s.size=0:=by omega
   simp[L104,f1];rw[<-hR];exact⟨rfl,rfl⟩
 obtain⟨b,hb,l9⟩:=p5 0 (by omega);have hh:ds.head?=some b:=by rw[List.head?_eq_getElem?];exact hb
 by_cases lO:9<ds.length\/(b=48/\1<s.size)
 .have hn:V=none:=by
   rw[C9];unfold tR;rcases lO with h|⟨h,h'⟩
   .rw[if_pos (.inr (.inl h))];rfl
   .rw[if_pos (.inr (.inr ⟨by rw[hh,h],h'⟩))];rfl
  subst hn;rcases hc with⟨rfl,rfl,h0,hp⟩|⟨rfl,rfl,h0⟩
  case' inl=>
   have l9:AP s 1=some b:=l9;have f1:¬s.size=1:=by omega
   have VL:¬(s.size:Int)=1:=by omega
   have w1:IntKind.i64.wrap ((s.size:Int)-1)=(ds.length:Int):=w1;have ID:=h0;have MM:=h0
  case' inr=>
   obtain⟨b0,h0,ID,hp⟩:=h0.resolve_left (by omega);obtain rfl:b=b0:=Option.some.inj (l9.symm.trans h0);have l9:AP s 0=some b:=l9;have MM:¬b.toNat=45:=by omega
   have f1:¬s.size=0:=by omega
   have VL:¬(s.size:Int)=0:=by omega
   have w1:IntKind.i64.wrap (s.size:Int)=(ds.length:Int):=by rw[wrap64 (by omega)];omega
  all_goals
   by_cases h9:(9:Int)<(ds.length:Int)
   .simp[L104,h0,hp,ID,f1,VL,w1,h9];rw[<-hR];exact⟨rfl,rfl⟩
   .obtain⟨rfl,g1⟩:=lO.resolve_left (by omega);have g2:(1:Int)<(s.size:Int):=by omega
    simp[L104,h0,hp,f1,VL,w1,h9,l9,g2];rw[<-hR];exact⟨rfl,rfl⟩
 have hn:V=(Lib.decFrom 0 ds).map fun(n:Nat)=>if neg=true then -(n:Int)else(n:Int):=by
  rw[C9];unfold tR;rw[if_neg];rintro(h|h|⟨h,h'⟩)
  .exact p4 h
  .exact lO (.inl h)
  .rw[hh]at h;exact lO (.inr ⟨Option.some.inj h,h'⟩)
 clear C9 QP;have h9:¬(9:Int)<(ds.length:Int):=fun h=>lO (.inl (by omega))
 have q0:b.toNat=48->¬1<s.size:=fun e h=>lO (.inr ⟨UInt8.toNat_inj.1 (by have:(48:UInt8).toNat=48:=rfl;omega),h⟩)
 rw[<-Sv]at hn;rcases hc with⟨rfl,rfl,h0,hp⟩|⟨rfl,rfl,h0⟩
 case' inl=>
  have l9:AP s 1=some b:=l9;have f1:¬s.size=1:=by omega
  have VL:¬(s.size:Int)=1:=by omega
  have w1:IntKind.i64.wrap ((s.size:Int)-1)=(ds.length:Int):=w1;have q1:¬b.toNat=48:=fun e=>by have:=q0 e;omega
  simp[L104,h0,hp,VL,w1,h9,l9,q1,hI]
 case' inr=>
  obtain⟨b0,h0,ID,hp⟩:=h0.resolve_left (by omega);obtain rfl:b=b0:=Option.some.inj (l9.symm.trans h0);have MM:¬b.toNat=45:=by omega
  have f1:¬s.size=0:=by omega
  have VL:¬(s.size:Int)=0:=by omega
  have w1:IntKind.i64.wrap (s.size:Int)=(ds.length:Int):=by rw[wrap64 (by omega)];omega
  by_cases q1:b.toNat=48
  case' pos=>
   have q2:=q0 q1;have q3:¬(1:Int)<(s.size:Int):=by omega
   simp[L104,h0,hp,f1,w1,h9,q1,q3]
  case' neg=>simp[L104,h0,hp,ID,f1,w1,h9,q1,hI]
 all_goals
  refine eO (fun m τ=>∃k n:Nat,k<=ds.length/\m=ds.length-k/\Lib.decFrom 0 (ds.take k)=some n/\n<10^k/\τ=UA s ng a' k n) ⟨ds.length,UA s ng a' 0 0,Sub.mk (by simp[Sv,ha']) (by simp),0,0,gV _,rfl,rfl,by decide,rfl⟩ ?_;rintro J hJ m τ ⟨k,n,hk,rfl,D4,HM,rfl⟩;by_cases aI:k<ds.length
  .obtain⟨x,hx,Jk⟩:=p5 k aI;rw[<-ha']at Jk;have hp9:(10:Nat)^k<=10^9:=Nat.pow_le_pow_right (by decide) (by omega);have iY:((k+a':Nat):Int)<(s.size:Int):=by omega
   have kH:k+a'<s.size:=by omega
   have w2:IntKind.i64.wrap (((k+a':Nat):Int)+1)=((k+1+a':Nat):Int):=by rw[wrap64 (by omega)];omega
   have hx8:=UInt8.toNat_lt x;have HI:ds=ds.take k++x::ds.drop (k+1):=by
    obtain⟨l1,e1⟩:=bZ.1 hx;rw[<-e1,<-y8 l1,List.take_append_drop]
   by_cases c1:x.toNat<48\/57<x.toNat
   .have hv:V=none:=by
     rw[hn,HI,Zoe (ZrU.2 (by omega)) D4];rfl
    subst hv;clear hJ;by_cases c2:x.toNat<48
    .have Ef:(x.toNat:Int)<48:=by omega
     simp[-Int.natCast_add,UA,Jk,iY,Ef];rw[<-hR];exact⟨rfl,rfl⟩
    .have Ef:¬(x.toNat:Int)<48:=by omega
     have c3:57<x.toNat:=by omega
     have We:(57:Int)<(x.toNat:Int):=by omega
     simp[-Int.natCast_add,UA,Jk,iY,Ef,We];rw[<-hR];exact⟨rfl,rfl⟩
   .have c2:¬x.toNat<48:=by omega
    have Ef:¬(x.toNat:Int)<48:=by omega
    have c3:¬57<x.toNat:=by omega
    have We:¬(57:Int)<(x.toNat:Int):=by omega
    have w3:IntKind.u8.wrap ((x.toNat:Int)-48)=((x.toNat-48:Nat):Int):=by
     rw[show IntKind.u8.wrap ((x.toNat:Int)-48)=((x.toNat:Int)-48)%256 from rfl];omega
    have w4:IntKind.i64.wrap ((x.toNat-48:Nat):Int)=((x.toNat-48:Nat):Int):=wrap64 (by omega);have w5:IntKind.i64.wrap (10*(n:Int))=((10*n:Nat):Int):=by rw[wrap64 (by omega)];omega
    have w6:IntKind.i64.wrap (((10*n:Nat):Int)+((x.toNat-48:Nat):Int))=((10*n+(x.toNat-48):Nat):Int):=by rw[wrap64 (by omega)];omega
    have T0:Lib.decFrom 0 (ds.take (k+1))=some (10*n+(x.toNat-48)):=by
     rw[mJ,hx];show Lib.decFrom 0 (ds.take k++[x])=_;rw[Nk,D4,Option.bind_some,ZrU.1 (by omega),uU];congr 1;omega
    have Su:10*n+(x.toNat-48)<10^(k+1):=by rw[Nat.pow_succ];omega
    have aB:=hJ _ _ ⟨k+1,_,aI,rfl,T0,Su,rfl⟩;have aG:ds.length-(k+1)<ds.length-k:=by omega
    clear hJ;simp[-Int.natCast_add,-Int.natCast_mul,UA,Jk,iY,Ef,We,w2,w3,w4,w5,w6];exact⟨_,_,aG,Sub.mk (by simp) (by simp),aB⟩
  have he:k=ds.length:=by omega
  subst he;rw[nF]at D4;rw[D4]at hn;have iY:¬((ds.length+a':Nat):Int)<(s.size:Int):=by omega
  have kH:¬ds.length+a'<s.size:=by omega
  have hp9:(10:Nat)^ds.length<=10^9:=Nat.pow_le_pow_right (by decide) (by omega);have w7:IntKind.i64.wrap (-(n:Int)) = -(n:Int):=wrap64 (by omega);clear hJ;subst hn;subst Sv;simp[-Int.natCast_add,UA,iY,w7];rw[<-hR];exact⟨rfl,rfl⟩
def tP (s:ByteArray):Nat->List ByteArray×Nat
 |0=>([],0)
 |i+1=>if i=s.size\/s.data.toList[i]?=some 32 then((tP s i).1++[s.extract (tP s i).2 i],i+1)else tP s i
theorem Mj {s:ByteArray}{i:Nat}:tP s (i+1)=if i=s.size\/s.data.toList[i]?=some 32 then((tP s i).1++[s.extract (tP s i).2 i],i+1)else tP s i:=rfl
theorem Lg (s:ByteArray):∀i,(tP s i).2<=i/\(tP s i).1.length<=i
 |0=>⟨fG _,fG _⟩
 |i+1=>by
  obtain⟨h1,h2⟩:=Lg s i;rw[Mj];split
  .exact⟨fG _,by rw[gD];simp;omega⟩
  .exact⟨by omega,by omega⟩
theorem ZnA {l:List UInt8}{f i:Nat}(h:∀k,f<=k->k<i->l[k]?≠some 32):∀c∈(l.drop f).take (i-f),c≠32:=fun c hc e=>by
 obtain⟨k,hk⟩:=List.getElem?_of_mem hc;obtain⟨hl,_⟩:=bZ.1 hk;rw[gJ]at hl;rw[List.getElem?_take_of_lt (by omega),mS]at hk;exact h (f+k) (by omega) (by omega) (by rw[hk,e])
theorem ZrD (s:ByteArray):∀i,i<=s.size->(∀k,(tP s i).2<=k->k<i->s.data.toList[k]?≠some 32)/\(tP s i).1.map (·.data.toList)++I4 (s.data.toList.drop (tP s i).2)=I4 s.data.toList
 |0,_=>⟨fun k _ h=>absurd h (Nat.not_lt_zero k),rfl⟩
 |i+1,hi=>by
  obtain⟨h1,h2⟩:=ZrD s i (by omega);obtain⟨h3,_⟩:=Lg s i;have hz:s.size=s.data.toList.length:=by rw[uV];rfl
  rw[Mj];by_cases hc:s.data.toList[i]?=some 32
  .rw[if_pos (.inr hc)];refine⟨fun k ha hb=>?_,?_⟩
   .have ha:i+1<=k:=ha;omega
   .show((tP s i).1++[s.extract (tP s i).2 i]).map (·.data.toList)++I4 (s.data.toList.drop (i+1))=_;rw[<-h2,mF,H9];congr 1;show(s.extract (tP s i).2 i).data.toList::I4 (s.data.toList.drop (i+1))=_;rw[Lib.extract_data];generalize(tP s i).2=f at h1 h3 ⊢;have hd:s.data.toList.drop f=(s.data.toList.drop f).take (i-f)++32::s.data.toList.drop (i+1):=by
     have e1:(s.data.toList.drop f).drop (i-f)=s.data.toList.drop i:=by rw[List.drop_drop];congr 1;omega
     have e2:s.data.toList.drop i=32::s.data.toList.drop (i+1):=by
      obtain⟨hl,he⟩:=bZ.1 hc;rw[y8 hl,he]
     rw[<-e2,<-e1,List.take_append_drop]
    conv=>rhs;rw[hd]
    rw[Zff (ZnA h1)]
  .rw[if_neg (by rintro(h|h);omega;exact hc h)];refine⟨fun k ha hb=>?_,h2⟩;by_cases hk:k=i
   .rw[hk];exact hc
   .exact h1 k ha (by omega)
theorem Zs0 (s:ByteArray):(tP s (s.size+1)).1=xP s blank:=by
 apply ZeQ;rw[Zpe,Mj,if_pos (.inl rfl)];obtain⟨h1,h2⟩:=ZrD s s.size (fG _);obtain⟨h3,_⟩:=Lg s s.size;have hz:s.size=s.data.toList.length:=by rw[uV];rfl
 rw[<-h2];show((tP s s.size).1++[s.extract (tP s s.size).2 s.size]).map (·.data.toList)=_;rw[mF];congr 1;show[(s.extract (tP s s.size).2 s.size).data.toList]=_;rw[Lib.extract_data];generalize(tP s s.size).2=f at h1 h3 ⊢;have hn:=ZnA h1;rw[fO (by rw[uH];omega)]at hn ⊢;rw[Zfg hn]
def GL (s:ByteArray):PV:=match xP s blank,O6 s with
 |w::_,some (_,l)=>.bL [.str w,.aF false 1 (l.map iP),.bool true]
 |_,_=>.bL [.str ⟨#[]⟩,.emp (some true),.bool false]
def iC (w:ByteArray):Int:=match gT w with
 |some (k,_)=>(k:Int)
 |none=>-1
theorem Zti (w:ByteArray):iC w=if w=jY then 7 else if w=pE\/w=jX then 1 else if w=pD\/w=pC then 3 else if w=jW then 4 else -1:=by
 by_cases h0:w=jY
 .subst h0;rfl
 by_cases h1:w=pE
 .subst h1;rfl
 by_cases h2:w=pD
 .subst h2;rfl
 by_cases h3:w=jW
 .subst h3;rfl
 by_cases h4:w=jX
 .subst h4;rfl
 by_cases h5:w=pC
 .subst h5;rfl
 unfold iC gT;simp only[if_neg h0,if_neg h3,h1,h2,h4,h5,or_self,if_false]
def OU (w:ByteArray)(c b p l r t:Prop):Prop:=(w=jY)=c/\(w=pE)=b/\(w=jX)=p/\(w=pD)=l/\(w=pC)=r/\(w=jW)=t
theorem XY (w:ByteArray):OU w True False False False False False/\iC w=7\/OU w False True False False False False/\iC w=1\/OU w False False True False False False/\iC w=1\/OU w False False False True False False/\iC w=3\/OU w False False False False True False/\iC w=3\/OU w False False False False False True/\iC w=4\/OU w False False False False False False/\iC w = -1:=by
 by_cases h0:w=jY
 .subst h0;exact .inl ⟨⟨eq_self _,eq_false (by decide),eq_false (by decide),eq_false (by decide),eq_false (by decide),eq_false (by decide)⟩,rfl⟩
 by_cases h1:w=pE
 .subst h1;exact .inr (.inl ⟨⟨eq_false (by decide),eq_self _,eq_false (by decide),eq_false (by decide),eq_false (by decide),eq_false (by decide)⟩,rfl⟩)
 by_cases h2:w=jX
 .subst h2;exact .inr (.inr (.inl ⟨⟨eq_false (by decide),eq_false (by decide),eq_self _,eq_false (by decide),eq_false (by decide),eq_false (by decide)⟩,rfl⟩))
 by_cases h3:w=pD
 .subst h3;exact .inr (.inr (.inr (.inl ⟨⟨eq_false (by decide),eq_false (by decide),eq_false (by decide),eq_self _,eq_false (by decide),eq_false (by decide)⟩,rfl⟩)))
 by_cases h4:w=pC
 .subst h4;exact .inr (.inr (.inr (.inr (.inl ⟨⟨eq_false (by decide),eq_false (by decide),eq_false (by decide),eq_false (by decide),eq_self _,eq_false (by decide)⟩,rfl⟩))))
 by_cases h5:w=jW
 .subst h5;exact .inr (.inr (.inr (.inr (.inr (.inl ⟨⟨eq_false (by decide),eq_false (by decide),eq_false (by decide),eq_false (by decide),eq_false (by decide),eq_self _⟩,rfl⟩)))))
 exact .inr (.inr (.inr (.inr (.inr (.inr ⟨⟨eq_false h0,eq_false h1,eq_false h2,eq_false h3,eq_false h4,eq_false h5⟩,by rw[Zti];simp only[h0,h1,h2,h3,h4,h5,or_self,if_false]⟩)))))
theorem Ztj (w:ByteArray):-1<=iC w/\iC w<=7:=by
 unfold iC;cases hw:gT w with
 |none=>exact⟨by decide,by decide⟩
 |some p=>
  obtain⟨k,g⟩:=p
  have:=Zj9 hw
  dsimp only;omega
theorem ZpM {s w:ByteArray}{r:List ByteArray}(h:xP s blank=w::r)(hn:(r.length:Int)≠iC w\/mL r=none):GL s=.bL [.str ⟨#[]⟩,.emp (some true),.bool false]:=by
 have hp:O6 s=none:=by
  unfold O6;rw[h];dsimp only;unfold iC at hn;cases hw:gT w with
  |none=>rfl
  |some p=>
   obtain⟨k,g⟩:=p;rw[hw]at hn;dsimp only at hn ⊢;rcases hn with hn|hn
   .rw[if_neg (by omega)]
   .rw[hn];split<;>rfl
 unfold GL;rw[hp,h]
theorem ZpL {s w:ByteArray}{r:List ByteArray}{l:List Int}(h:xP s blank=w::r)(hm:(r.length:Int)=iC w)(hl:mL r=some l):GL s=.bL [.str w,.aF false 1 (l.map iP),.bool true]:=by
 unfold GL O6;rw[h];dsimp only;unfold iC at hm;cases hw:gT w with
 |none=>rw[hw]at hm;dsimp only at hm;omega
 |some p=>
  obtain⟨k,g⟩:=p;rw[hw]at hm;dsimp only at hm ⊢;rw[if_pos (by omega),hl];rfl
theorem Znw (s:ByteArray):(O6 s=none/\GL s=.bL [.str ⟨#[]⟩,.emp (some true),.bool false])\/∃w k g nums,O6 s=some (g,nums)/\gT w=some (k,g)/\nums.length=k/\GL s=.bL [.str w,.aF false 1 (nums.map iP),.bool true]:=by
 cases hs:xP s blank with
 |nil=>
  have h:=Ky s;rw[hs]at h;cases h
 |cons w r=>
  cases hp:O6 s with
  |none=>
   refine .inl ⟨rfl,?_⟩;unfold GL;rw[hp,hs]
  |some q=>
   obtain⟨g,nums⟩:=q;have LX:=hp;unfold O6 at hp;rw[hs]at hp;dsimp only at hp;cases hw:gT w with
   |none=>rw[hw]at hp;cases hp
   |some p=>
    obtain⟨k,g'⟩:=p;rw[hw]at hp;dsimp only at hp;split at hp
    .rename_i hk;obtain⟨l,h1,h2⟩:=dZ.1 hp;cases h2;refine .inr ⟨w,k,g,nums,rfl,hw,(Zhl h1).1.trans hk,?_⟩;unfold GL;rw[LX,hs]
    .cases hp
theorem TR {w v:ByteArray}{l:List UInt8}(h:v.data.toList=l):(w.toList==l)=decide (w=v):=by rw[<-h,<-Lib.toList_data];exact A4 w v
theorem Ou (w:ByteArray):(w.toList==[99,101,114,116])=decide (w=jY):=TR rfl
theorem Ov (w:ByteArray):(w.toList==[98,97,100])=decide (w=pE):=TR rfl
theorem Oj (w:ByteArray):(w.toList==[112,97,115,115])=decide (w=jX):=TR rfl
theorem Oq (w:ByteArray):(w.toList==[108,111,116])=decide (w=pD):=TR rfl
theorem weR (w:ByteArray):(w.toList==[114,117,110])=decide (w=pC):=TR rfl
theorem Oh (w:ByteArray):(w.toList==[116,101,115,116])=decide (w=jW):=TR rfl
section
def GK (s:ByteArray)(P:List ByteArray)(f i:Nat):AS:=⟨[(0,.pv (.str s)),(5,.vec (.loc 35 0) 1 0 P.length),(6,.pv (.i (f:Int))),(7,.pv (.i (i:Int)))],[(.loc 35 0,.arr 9 1 (P.map .str))]⟩
def YX (P:List ByteArray)(l:List Int)(k:Nat):AS:=⟨[(5,.vec (.loc 35 0) 1 0 P.length),(9,.vec (.loc 75 0) 1 0 l.length),(10,.pv (.i (k:Int)))],[(.loc 75 0,.arr 3 1 (l.map iP)),(.loc 35 0,.arr 9 1 (P.map .str))]⟩
theorem Zs2 (s:ByteArray)(hs:s.size<=1000):aD prog 58 [.str s] (GL s):=by
 have hz:s.size=s.data.toList.length:=by rw[uV];rfl
 refine N6 [.loc 75 0] L58 ?_;intro R hR;simp[L58];refine eO (fun m τ=>∃i:Nat,i<=s.size+1/\m=s.size+1-i/\τ=GK s (tP s i).1 (tP s i).2 i) ⟨s.size+1,GK s [] 0 0,Sub.trans' (Sub.mk (by simp[AS.cI]) (by simp[AS.cI])) (cI 35 9 1 5 rfl (by decide)),0,gV _,rfl,rfl⟩ ?_;rintro J hJ m τ ⟨i,hi,rfl,rfl⟩;obtain⟨hf,lZ⟩:=Lg s i;have iD:=Mj (s:=s) (i:=i);by_cases aI:i<=s.size
 .have aB:=hJ _ _ ⟨i+1,by omega,rfl,rfl⟩;have aG:s.size+1-(i+1)<s.size+1-i:=by omega
  have hw:=bN (k:=i) (by omega);have o8:(i:Int)<=(s.size:Int):=by omega
  rw[iD]at aB;clear hJ iD;generalize tP s i=q at *;obtain⟨P,f⟩:=q;dsimp only at *;have hp6:P.length<=999999:=by omega
  have hp7:P.length+1<=1000000:=by omega
  have jS:List.take P.length (P.map PV.str)=P.map PV.str:=fO (by rw[fV];exact fG _);by_cases Tw:i=s.size
  .rw[if_pos (.inl Tw)]at aB;have hE1:((i:Int)=(s.size:Int))=True:=eq_true (by omega);have y1:(i=s.size)=True:=eq_true Tw;have Uf:(f:Int)<=(i:Int):=by omega
   simp[GK,aI,o8,hE1,hf,aP,hw,hp7];exact⟨_,_,aG,Sub.mk (by simp) (by simp),aB⟩
  .have Bj:¬(i:Int)=(s.size:Int):=by omega
   obtain⟨b,hb⟩:∃b,s.data.toList[i]?=some b:=⟨s.data.toList[i]'(by omega),bB _⟩;have hsa:=Yh hb;have kH:i<s.size:=by omega
   by_cases Jy:b=32
   .rw[if_pos (.inr (by rw[hb,Jy]))]at aB;subst Jy;have Uf:(f:Int)<=(i:Int):=by omega
    simp[GK,aI,o8,Bj,hsa,hf,aP,hw,hp7];exact⟨_,_,aG,Sub.mk (by simp) (by simp),aB⟩
   .rw[if_neg (by rintro(h|h);exact Tw h;rw[hb]at h;exact Jy (Option.some.inj h))]at aB;have QT:¬b.toNat=32:=fun h=>Jy (UInt8.toNat_inj.1 (by have:(32:UInt8).toNat=32:=rfl;omega))
    have MN:¬(b.toNat:Int)=32:=by omega
    simp[GK,o8,Bj,hsa,MN,hw];exact⟨_,_,aG,Sub.mk (by simp[GK]) (by simp[GK]),aB⟩
 have he:i=s.size+1:=by omega
 subst he;have o8:¬(s.size:Int)+1<=(s.size:Int):=by omega
 clear hJ aI iD;rw[Zs0]at *;have hpz:∀x∈xP s blank,x.size<=1000000:=fun x hx=>by
  have:=Zen blank _ s x hx
  omega
 generalize(tP s (s.size+1)).2=f at *;cases jJ:xP s blank with
 |nil=>
  have h:=Ky s;rw[jJ]at h;cases h
 |cons w0 r=>
 rw[jJ]at hpz lZ;have Te:=Ztj w0;have k8:IntKind.i64.wrap 8=8:=rfl;have hen:=ZpM jJ;have kZ:=fun l h1 h2=>ZpL (l:=l) jJ h1 h2
 have n7:r.length<=1001:=by rw[pB]at lZ;omega
 have C9:=fun x hx=>Zp1 x (hpz x hx)
 clear lZ;rcases XY w0 with h|h|h|h|h|h|h
 all_goals
  obtain⟨⟨e0,e1,e2,e3,e4,e5⟩,hm⟩:=h;by_cases hlen:(r.length:Int)=iC w0
  case neg=>
   have S6:=hen (.inl hlen);have oL:¬(r.length:Int)+1=iC w0+1:=by omega
   rw[hm]at oL;simp at oL;simp[GK,o8,cV,Ou,Ov,Oj,Oq,weR,Oh,Og,Il,Ik,Ij,k8,e0,e1,e2,e3,e4,e5,oL];rw[<-hR,S6];exact⟨rfl,rfl⟩
  have oL:(r.length:Int)+1=iC w0+1:=by omega
  rw[hm]at oL
  first|(exfalso;omega)|simp at oL
 all_goals
  replace oL:=eq_true oL;simp[GK,o8,cV,Ou,Ov,Oj,Oq,weR,Oh,Il,Ik,Ij,k8,e0,e1,e2,e3,e4,e5,oL];clear oL;have kZ:=fun l h=>kZ l hlen h
  refine eO (fun m τ=>∃(k:Nat) (l:List Int),1<=k/\k<=r.length+1/\m=r.length+1-k/\mL (r.take (k-1))=some l/\l.length=k-1/\τ=YX (w0::r) l k) ⟨r.length,YX (w0::r) [] 1,Sub.trans' (Sub.mk (by simp[AS.cI]) (by simp[AS.cI])) (cI 75 3 1 9 rfl (by decide)),1,[],fG _,by omega,rfl,rfl,rfl,rfl⟩ ?_;rintro J hJ m τ ⟨k,l,gZ,hk,rfl,oY,qZ,rfl⟩;have hPL:((w0::r).map PV.str).length=r.length+1:=by simp
  by_cases aI:k<r.length+1
  .obtain⟨x,hx⟩:∃x,r[k-1]?=some x:=⟨r[k-1],bB (by omega)⟩;have hg:((w0::r).map PV.str)[k]?=some (.str x):=by
    rw[bW,show k=k-1+1 by omega,List.getElem?_cons_succ,hx];rfl
   have hw:=bN (k:=k) (by omega);have iD:=C9 x (List.mem_cons_of_mem _ (dK hx));have aG:r.length+1-(k+1)<r.length+1-k:=by omega
   have iY:(k:Int)<(r.length:Int)+1:=by omega
   have jS:r.take k=r.take (k-1)++[x]:=by rw[show k=k-1+1 by omega,mJ,Nat.add_sub_cancel,hx];rfl
   rw[ZuI]at iD;cases S3:lK x with
   |none=>
    have S6:=hen (.inr (Zex S3 (dK hx)));rw[S3]at iD;clear hJ;unfold YX;generalize(w0::r).map PV.str=PP at *;simp[aI,iY,↓hg,cV];refine .inl<|cQ [] [.str x] iD ?_;simp[Pw];rw[<-hR,S6];exact⟨rfl,by simp⟩
   |some v=>
    rw[S3]at iD;have aB:=hJ _ _ ⟨k+1,l++[v],by omega,by omega,rfl,by rw[Nat.add_sub_cancel,jS];exact Zew S3 oY,by rw[gD];simp;omega,rfl⟩;clear hJ;have HP:l.length+1<=1000000:=by omega
    have UZ:l.length<=999999:=by omega
    have hlk:List.take l.length (l.map iP)=l.map iP:=fO (by rw[fV];exact fG _);unfold YX at aB ⊢;generalize(w0::r).map PV.str=PP at *;simp[hPL,aI,iY,↓hg,cV,aP];refine .inl<|cQ [] [.str x] iD ?_;simp[Pw,HP,hw,aP];exact⟨_,_,aG,Sub.mk (by simp) (by simp[iP]),aB⟩
  .have he:k=r.length+1:=by omega
   subst he;rw[Nat.add_sub_cancel,nF]at oY;have S6:=kZ l oY;have hlk:List.take l.length (l.map iP)=l.map iP:=fO (by rw[fV];exact fG _);have hg0:((w0::r).map PV.str)[0]?=some (.str w0):=rfl;clear hJ aI;unfold YX;generalize(w0::r).map PV.str=PP at *;simp[↓hg0,hlk,cV];rw[<-hR,S6];exact⟨rfl,by simp⟩
attribute [local irreducible] Bk.qU eY Bk.contra Bk.held Bk.span Bk.nums Bk.iG Bk.qF stM nM qY Bk.fault
theorem ZpB (w:Wk)(r:Except Int Wk):sM w r=.bL [(w.next r).1.pv,.i (w.next r).2]:=by
 cases r<;>rfl
theorem Zr5 {w:ByteArray}{k:Nat}{g:FuncId}(h:gT w=some (k,g)):(w=jY/\k=7/\g=187)\/(w=pE/\k=1/\g=188)\/(w=pD/\k=3/\g=189)\/(w=jW/\k=4/\g=190)\/(w=jX/\k=1/\g=191)\/(w=pC/\k=3/\g=192):=by
 unfold gT at h
 repeat' split at h
 all_goals first
  |(cases h;subst_vars;decide)
  |cases h
theorem Qs:decide (pE=jY)=false:=by decide
theorem Qr:decide (pD=jY)=false:=by decide
theorem Qq:decide (pD=pE)=false:=by decide
theorem Qo:decide (jW=jY)=false:=by decide
theorem Qm:decide (jW=pE)=false:=by decide
theorem Ql:decide (jW=pD)=false:=by decide
theorem Qk:decide (jX=jY)=false:=by decide
theorem Qj:decide (jX=pE)=false:=by decide
theorem Qi:decide (jX=pD)=false:=by decide
theorem Qh:decide (jX=jW)=false:=by decide
theorem Qg:decide (pC=jY)=false:=by decide
theorem Qf:decide (pC=pE)=false:=by decide
theorem Qe:decide (pC=pD)=false:=by decide
theorem Qd:decide (pC=jW)=false:=by decide
theorem Qc:decide (pC=jX)=false:=by decide
theorem YQ {k0:Nat}(w:Wk)(hI:sA k0 w)(hq:k0<=100)(hJ:AH w)(s:ByteArray)(hs:s.size<=1000):aD prog 26 [w.pv,.str s] (.bL [(lI 408 w s).1.pv,.i (lI 408 w s).2]):=by
 have UU:=Zs2 s hs;refine cS L26 ?_;have jI:w.pv=.agg [.aF false 7 (w.aA.map Ct.pv),.aF false 1 (w.bad.map iP),.aF false 4 (w.aK.map Lt.pv),.aF false 4 (w.aH.map Tt.pv),.aF false 3 (w.runs.map Qn.Rq.pv)]:=rfl;rcases Znw s with⟨P7,S6⟩|⟨w0,k,g,nums,hp,G3,hn,S6⟩
 .have hd:lI 408 w s=(w,4):=by unfold lI pU;rw[P7];rfl
  rw[hd];rw[S6]at UU;dsimp only;rw[jI];simp[L26];refine .inl<|cQ [] [_] UU ?_;simp[aM]
 have hd:lI 408 w s=w.next (tG 408 w g nums):=by unfold lI pU;rw[hp]
 rw[S6]at UU;rw[hd];have UO:∀u:Wk,u.pv=.agg [.aF false 7 (u.aA.map Ct.pv),.aF false 1 (u.bad.map iP),.aF false 4 (u.aK.map Lt.pv),.aF false 4 (u.aH.map Tt.pv),.aF false 3 (u.runs.map Qn.Rq.pv)]:=fun _=>rfl
 rcases Zr5 G3 with⟨rfl,rfl,rfl⟩|⟨rfl,rfl,rfl⟩|⟨rfl,rfl,rfl⟩|⟨rfl,rfl,rfl⟩|⟨rfl,rfl,rfl⟩|⟨rfl,rfl,rfl⟩
 case' inr.inl=>
  obtain⟨a,b,c,d,e,f,h,rfl⟩:∃a b c d e f h,nums=[a,b,c,d,e,f,h]:=by
   match nums,hn with
   |[a,b,c,d,e,f,h],_=>exact⟨a,b,c,d,e,f,h,rfl⟩
  have hc:=ZsW w hI hq ⟨a,b,c,d,e,⟨f,h⟩⟩;rw[show((lX w.aA w.bad ⟨a,b,c,d,e,⟨f,h⟩⟩).map fun l=>{ w with aA:=l })=tG 408 w 187 [a,b,c,d,e,f,h] from rfl]at hc
 case' inr.inr.inl=>
  obtain⟨a,rfl⟩:∃a,nums=[a]:=List.length_eq_one_iff.1 hn;have hc:=Zux w hI hq a;rw[show((pS w.aA w.bad a).map fun l=>{ w with bad:=l })=tG 408 w 188 [a] from rfl]at hc
 case' inr.inr.inr.inl=>
  obtain⟨a,b,c,rfl⟩:∃a b c,nums=[a,b,c]:=by
   match nums,hn with
   |[a,b,c],_=>exact⟨a,b,c,rfl⟩
  have hc:=Zm9 w hI hq a b c;rw[show((pL w.aK ⟨a,b,c,false⟩).map fun l=>{ w with aK:=l })=tG 408 w 189 [a,b,c] from rfl]at hc
 case' inr.inr.inr.inr.inl=>
  obtain⟨a,b,c,d,rfl⟩:∃a b c d,nums=[a,b,c,d]:=by
   match nums,hn with
   |[a,b,c,d],_=>exact⟨a,b,c,d,rfl⟩
  have hc:=Zm5 w hI hq hJ ⟨a,b,c,d⟩;rw[show((kP (stM w.aA w.bad) (cH w.aA w.bad w.aH) w.aK w.aH ⟨a,b,c,d⟩).map fun l=>{ w with aH:=l })=tG 408 w 190 [a,b,c,d] from rfl]at hc
 case' inr.inr.inr.inr.inr.inl=>
  obtain⟨a,rfl⟩:∃a,nums=[a]:=List.length_eq_one_iff.1 hn;have hc:=ZsN w hI hq hJ a;rw[show((jH (cH w.aA w.bad w.aH) w.aK a).map fun l=>{ w with aK:=l })=tG 408 w 191 [a] from rfl]at hc
 case' inr.inr.inr.inr.inr.inr=>
  obtain⟨a,b,c,rfl⟩:∃a b c,nums=[a,b,c]:=by
   match nums,hn with
   |[a,b,c],_=>exact⟨a,b,c,rfl⟩
  have hc:=Zuu w hI a b c;rw[show((runM 408 w.runs a b c).map fun l=>{ w with runs:=l })=tG 408 w 192 [a,b,c] from rfl]at hc
 all_goals
  rw[ZpB]at hc;clear hd hp G3 hn S6;generalize w.next (tG 408 w _ _)=r at *;obtain⟨u,er⟩:=r;dsimp only at hc ⊢;rw[UO u]at hc ⊢;rw[jI]at hc ⊢;simp[L26];refine .inl<|cQ [] [_] UU ?_;simp[aM,Ou,Ov,Oj,Oq,Oh,iP,Qs,Qr,Qq,Qo,Qm,Ql,Qk,Qj,Qi,Qh,Qg,Qf,Qe,Qd,Qc];refine .inl<|cQ [] [_,_] hc ?_;simp[aM]
end
section
attribute [local irreducible] Bk.qU eY Bk.contra Bk.held Bk.span Bk.nums Bk.qF stM hZ
end
section
attribute [local irreducible] Bk.qU eY Bk.contra Bk.held Bk.span Bk.nums Bk.iG Bk.qF stM nM qY Bk.fault lI
def RQ:List AV:=[.pv (.emp (some true)),.pv (.emp (some true)),.pv (.emp (some true)),.pv (.emp (some true)),.pv (.emp (some true))]
def GM (L:List ByteArray)(w:Wk)(es:List Int)(k:Nat):AS:=
 ⟨[(6,.pv (.i (k:Int))),(5,.vec (.loc 28 0) 1 0 es.length),(4,.ptr (.loc 4 0) 0),(2,.ptr (.loc 2 0) 0),(0,.pv (.aF false 1 (L.map .str)))],
  [(.loc 28 0,.arr 3 1 (es.map iP)),(.loc 4 0,.cells w.cells),(.loc 2 0,.cells RQ)]⟩
def YY (L:List ByteArray)(w u:Wk)(es:List Int)(e:Int)(k:Nat):AS:=
 ⟨[(6,.pv (.i (k:Int))),(5,.vec (.loc 28 0) 1 0 es.length),(4,.ptr (.loc 4 0) 0),(2,.ptr (.loc 2 0) 0),(0,.pv (.aF false 1 (L.map .str))),(7,.ptr (.loc 7 0) 0),(23,.pv (.i e))],
  [(.loc 28 0,.arr 3 1 (es.map iP)),(.loc 4 0,.cells w.cells),(.loc 2 0,.cells RQ),(.loc 7 0,.cells u.cells)]⟩
theorem Zm7 (L:List ByteArray)(hl:L.length<=50)(hs:∀s∈L,s.size<=200):aD prog 15 [bJ L] (.bL [(cU (lI 408) jV L).1.pv,.aF false 1 ((cU (lI 408) jV L).2.map iP)]):=by
 have hd:∀k,k<L.length->∀s,L[k]?=some s->aD prog 26 [(cU (lI 408) jV (L.take k)).1.pv,.str s] (.bL [(lI 408 (cU (lI 408) jV (L.take k)).1 s).1.pv,.i (lI 408 (cU (lI 408) jV (L.take k)).1 s).2]):=fun k hk s hx=>
  YQ (k0:=0+(L.take k).length) _ (Fe rF V7).1 (by rw[gJ];omega) (Fe (k:=0) rF V7).2 s (by have:=hs s (dK hx);omega)
 refine N6 [.loc 28 0] L15 ?_;intro R hR;simp[L15,bJ];refine eO (fun m τ=>∃k:Nat,k<=L.length/\m=L.length-k/\τ=GM L (cU (lI 408) jV (L.take k)).1 (cU (lI 408) jV (L.take k)).2 k) ⟨L.length,GM L jV [] 0,?_,0,gV _,rfl,rfl⟩ ?_
 .refine Sub.trans' ?_ (cI 28 3 1 5 rfl (by decide));refine Sub.trans' ?_ (Sub.aW (s:=.loc 4 0) (i:=0) _ rfl rfl (FJ 7));refine Sub.trans' ?_ (Sub.aW (s:=.loc 4 0) (i:=1) _ rfl rfl (FJ 1));refine Sub.trans' ?_ (Sub.aW (s:=.loc 4 0) (i:=2) _ rfl rfl (FJ 4));refine Sub.trans' ?_ (Sub.aW (s:=.loc 4 0) (i:=3) _ rfl rfl (FJ 4));refine Sub.trans' ?_ (Sub.aW (s:=.loc 4 0) (i:=4) _ rfl rfl (FJ 3));exact Sub.mk (by simp[AS.cI]) (by simp[AS.cI,Wk.cells,jV,RQ])
 rintro J hJ m τ ⟨k,hk,rfl,rfl⟩;have qB:=Nj (D:=lI 408) (l:=L.take k) (st:=jV);rw[gJ,Nat.min_eq_left hk]at qB;by_cases aI:k<L.length
 .obtain⟨s,hx⟩:∃s,L[k]?=some s:=⟨L[k],bB aI⟩;have hg:(L.map PV.str)[k]?=some (.str s):=by rw[bW,hx];rfl
  have jS:L.take (k+1)=L.take k++[s]:=by rw[mJ,hx];rfl
  have hn:=hJ (L.length-(k+1)) _ ⟨k+1,aI,rfl,rfl⟩;rw[jS,ZeI]at hn;have hc:=hd k aI s hx;have hw:=bN (k:=k) (by omega);have aG:L.length-(k+1)<L.length-k:=by omega
  clear hd hJ jS;generalize cU (lI 408) jV (L.take k)=q at hn hc qB ⊢;obtain⟨w,es⟩:=q;dsimp only at hn hc qB ⊢;generalize lI 408 w s=q' at hn hc;obtain⟨u,e⟩:=q';dsimp only at hn hc;have h6:es.length<=999999:=by omega
  have h7:es.length+1<=1000000:=by omega
  have nU:(es.map iP).take es.length=es.map iP:=fO (by simp);have jI:w.pv=.agg [.aF false 7 (w.aA.map Ct.pv),.aF false 1 (w.bad.map iP),.aF false 4 (w.aK.map Lt.pv),.aF false 4 (w.aH.map Tt.pv),.aF false 3 (w.runs.map Qn.Rq.pv)]:=rfl;have UO:u.pv=.agg [.aF false 7 (u.aA.map Ct.pv),.aF false 1 (u.bad.map iP),.aF false 4 (u.aK.map Lt.pv),.aF false 4 (u.aH.map Tt.pv),.aF false 3 (u.runs.map Qn.Rq.pv)]:=rfl;rw[jI,UO]at hc;simp[GM,Wk.cells,aI,↓hg,aP];refine DU (fun τ=>τ=YY L w u es e k) ?_ ?_
  .simp[gO,gY]
   repeat' apply And.intro
   all_goals
    refine .inl<|cQ [] [_,_] hc ?_;simp[aM,gO,gY];exact Sub.mk (by simp) (by simp[Wk.cells,RQ])
  rintro τ rfl;simp[YY,Wk.cells,aP,h7,hw,RQ];exact⟨_,_,aG,Sub.mk (by simp) (by simp[Wk.cells,RQ,iP]),hn⟩
 have he:k=L.length:=by omega
 subst he;rw[nF]at qB ⊢;generalize cU (lI 408) jV L=q at *;obtain⟨w,es⟩:=q;dsimp only at *;have nU:(es.map iP).take L.length=es.map iP:=fO (by simp[qB]);simp[GM,Wk.cells,aP,qB,nU,RQ];rw[<-hR];exact⟨rfl,rfl⟩
end
theorem Zr7:AK (lI 408) tA 1=.bL [.aF false 1 ([0,1].map iP),.i 0]:=by
 unfold AK;have h1:wY tA=0:=by decide +kernel
 have h2:kn (cU (lI 408) jV tA).1 1=true:=by decide +kernel
 have h3:V8 (cU (lI 408) jV tA).1 1 (cU (lI 408) jV tA).1.aH.length=[0,1]:=by decide +kernel
 rw[if_pos h1,if_pos h2,h3]
theorem Zul:GG 408 tA=.bL [.str Yr,.i 0]:=by
 unfold GG;have h1:wY tA=0:=by decide +kernel
 have h2:AU 408 (cU (lI 408) jV tA).1=Yr.data.toList:=by decide +kernel
 rw[if_pos h1,h2]
theorem YB:FZ [⟨#[97]⟩]=.bL [.aF false 1 (bP SM.data.toList),.i 0]:=by
 unfold FZ;have h1:wY [⟨#[97]⟩]=0:=by decide +kernel
 have h2:kC [⟨#[97]⟩] 0=SM.data.toList:=by decide +kernel
 rw[if_pos h1,h2]
theorem Zo:aD prog 9 [] (.bool true):=by
 have hF:407<408:=by decide
 have c1:=Zvm hF (tA++tB) (by decide);rw[Zr8]at c1;have c2:=Zj8 hF tA (by decide) 1;rw[Zr7]at c2;have c3:=Zru hF tA (by decide);rw[Zul]at c3;have c4:=Zuk [⟨#[97]⟩] (by decide);rw[YB]at c4;have c5:=ZoN [0,1] [0,1] (by decide);generalize hw:(cU (lI 408) jV (tA++tB)).1=w at c1;refine T8 L9 ?_;intro R hR;simp[L9];refine .inl (O7 [] (fs:=[]) (xs:=[]) (cs:=[]) (d:=11) rfl rfl Zc ?_);rintro r B ⟨rfl,rfl⟩;refine⟨by simp,?_⟩;simp[tA,aP];refine .inl (cP [.loc 13 0] [bJ (tA++tB)] (by simp) (by simp[bJ,tA,tB]) c1 ?_);simp[Wk.pv];refine .inl (O7 [] (fs:=[]) (xs:=[]) (cs:=[]) (d:=19) rfl rfl Zc ?_);rintro r B ⟨rfl,rfl⟩;refine⟨by simp,?_⟩;simp[tA];refine .inl (cP [.loc 19 0] [bJ tA,.i 1] (by simp) (by simp[bJ,tA]) c2 ?_);simp;refine .inl (O7 [] (fs:=[]) (xs:=[]) (cs:=[]) (d:=24) rfl rfl Zc ?_);rintro r B ⟨rfl,rfl⟩;refine⟨by simp,?_⟩;simp[tA,aP];refine .inl (cP [.loc 24 0] [bJ tA] (by simp) (by simp[bJ,tA]) c3 ?_);simp;refine .inl (cP [.loc 29 0] [bJ [⟨#[97]⟩]] (by simp) (by simp[bJ]) c4 ?_);simp[iE,iP];refine .inl (cP [.loc 88 0] [.aF false 1 ([0,1].map iP),.aF false 1 ([0,1].map iP)] (by simp) (by simp[iP]) c5 ?_);have hs:DT (bP SM.data.toList)=some ((SM.data.toList).map fun b=>(b.toNat:Int)):=by decide +kernel
 have pO:NP ((SM.data.toList).map fun b=>(b.toNat:Int))=SM:=by decide +kernel
 have hr:Yr.toList=[108,111,116,32,55,32,116,101,115,116,115,32,50,32,111,112,101,110,10,99,101,114,116,115,32,49,32,104,101,108,100,32,49,32,98,97,100,32,48,10,101,110,100,32,48,10]:=by rw[Lib.toList_data];rfl
 have C7:SM.toList=[123,48,48,49,58,57,57,56,58,48,48,49,48,57,125,97,10]:=by rw[Lib.toList_data];rfl
 simp[hs,pO,hr,C7];rw[<-hR];exact⟨by simp,by simp⟩


section
attribute [local simp] ZfT ZfS ZfR Zds Zfn Zfo Zes
attribute [local simp] AS.exp jT aJ.iR AV.map AV.iM rE dO Site.uJ aJ.dC AV.dC AV.gW aU cO AS.lT eZ gG bX oW kA q9
end
section


theorem ZjT {L:List ByteArray}:wY L=JP L:=by
 have hf:IK L=L.all (fun s=>decide (s.size<=200)):=rfl;unfold wY JP s6;rw[hf];by_cases h1:L.length<=50
 .have H3:¬50<L.length:=by omega
  by_cases h2:L.all (fun s=>decide (s.size<=200))=true
  .simp only[h1,H3,h2];rfl
  .rw[Bool.not_eq_true]at h2;simp only[h1,H3,h2];rfl
 .have H3:50<L.length:=by omega
  simp[h1,H3]
attribute [local irreducible] Bk.qU eY Bk.contra Bk.held Bk.span Bk.nums Bk.iG Bk.qF stM nM qY Bk.fault lI
theorem ZjJ {L:List ByteArray}(h:JP L=0):s6 L=true:=by
 unfold JP at h;by_cases h':s6 L=true
 .exact h'
 .rw[if_neg h']at h;cases h
end
section
attribute [local irreducible] Bk.qU eY Bk.contra Bk.held Bk.span Bk.nums Bk.iG Bk.qF stM nM qY Bk.fault
theorem Zjb {n:Nat}(w:Wk)(hI:sA n w)(hn:n<=100)(hc:(fA w.aA w.bad).contra=false)(x:Lt):aD prog 23 [w.pv,x.pv] (.bool (isRec w x)):=by
 have oJ:=Zm w hI hn hc x;have e:(qY (stM w.aA w.bad) (nM w.aA w.bad x.limit) x.num w.aH []).1=cH w.aA w.bad w.aH x:=Ga;have hi:isRec w x=(x.passed&&!decide (cH w.aA w.bad w.aH x=1)):=rfl;rw[e]at oJ;rw[hi];generalize cH w.aA w.bad w.aH x=v at *;generalize(((qY (stM w.aA w.bad) (nM w.aA w.bad x.limit) x.num w.aH []).2:Nat):Int)=z at *;have jI:w.pv=.agg [.aF false 7 (w.aA.map Ct.pv),.aF false 1 (w.bad.map iP),.aF false 4 (w.aK.map Lt.pv),.aF false 4 (w.aH.map Tt.pv),.aF false 3 (w.runs.map Qn.Rq.pv)]:=rfl;have hxp:x.pv=.agg [.i x.num,.i x.pieces,.i x.limit,.bool x.passed]:=rfl;rw[jI,hxp]at oJ ⊢;refine T8 L23 ?_;intro R hR;simp[L23];refine .inl<|cQ [] [_,_] oJ ?_;simp[aM];cases hp:x.passed<;>simp<;>rw[<-hR]<;>simp[hp]
end
section
attribute [local irreducible] Bk.qU eY Bk.contra Bk.held Bk.span Bk.nums Bk.iG Bk.qF stM nM qY Bk.fault lI
def Jc (w:Wk)(Y:List Int)(l:List Int)(k:Nat):AS:=
 ⟨[(2,.pv (.bool false)),(3,.pv (.aF false 1 (Y.map iP))),(4,.pv (.i 0)),(6,.ptr (.loc 6 0) 0),(8,.vec (.loc 62 0) 1 0 l.length),(9,.pv (.i (k:Int)))],[(.loc 62 0,.arr 3 1 (l.map iP)),(.loc 6 0,.cells w.cells)]⟩
theorem Znh (L:List ByteArray)(hl:L.length<=9223372036854775807):aD prog 6 [bJ L] (.bool true):=by
 have hth:=Zt0 L hl;refine T8 L6 ?_;intro R hR;simp[L6];refine cG [bJ L] hth ?_;cases ht:rG L with
 |false=>
  simp;refine cG [] Zo ?_;simp;rw[<-hR];exact⟨rfl,by simp⟩
 |true=>
 have Bd:L.length<=55:=by
  unfold rG at ht;rw[dJ,decide_eq_true_eq]at ht;exact ht.2
 have Uo:=Zt1 L (by omega);have qB:=Zq5 L (by omega);have lZ:=Zmm (F:=408) (by decide) L (by omega);unfold GJ at lZ;rw[ZjT]at lZ;simp;refine .inl (cQ [] [bJ L] Uo ?_);simp;refine .inl (cQ [] [bJ L] lZ ?_);by_cases hf:JP L=0
 case neg=>
  have h3:JP L=3:=by
   unfold JP at hf ⊢;by_cases h':s6 L=true
   .rw[if_pos h']at hf;exact absurd rfl hf
   .rw[if_neg h']
  rw[if_neg hf];rw[h3]at qB;simp;refine cG [bJ L] qB ?_;simp;refine cG [] Zo ?_;simp;rw[<-hR];exact⟨rfl,by simp⟩
 rw[if_pos hf];rw[hf]at qB;obtain⟨x4,Ai⟩:=Zjd (ZjJ hf);have Ry:=Zm7 L x4 Ai;have hI:=(Fe (l:=L) (k:=0) rF V7).1;have hJ0:=(Fe (l:=L) (k:=0) rF V7).2;generalize cU (lI 408) jV L=q at *;obtain⟨w,es⟩:=q;dsimp only at *;have cZ:=Fj _ _ (show 0+L.length<=50 by omega) hI;have kN:=cZ.l;have lW:=fun x=>Zjb w hI (show 0+L.length<=100 by omega) hJ0.nc x
 have jI:w.pv=.agg [.aF false 7 (w.aA.map Ct.pv),.aF false 1 (w.bad.map iP),.aF false 4 (w.aK.map Lt.pv),.aF false 4 (w.aH.map Tt.pv),.aF false 3 (w.runs.map Qn.Rq.pv)]:=rfl;rw[jI]at lW Ry;clear hJ0 hI;obtain⟨Y,hY⟩:∃Y,Y=qJ w w.aK.length:=⟨_,rfl⟩;rw[<-hY];simp;refine cG [bJ L] qB ?_;simp;refine .inl (cQ [] [bJ L] Ry ?_);simp;refine eO (fun m τ=>∃k:Nat,k<=w.aK.length/\m=w.aK.length-k/\τ=Jc w Y (qJ w k) k) ⟨w.aK.length,Jc w Y [] 0,Sub.trans' (Sub.mk (by simp[AS.cI]) (by simp[AS.cI,Wk.cells])) (cI 62 3 1 8 rfl (by decide)),0,gV _,rfl,rfl⟩ ?_;rintro J hJ m τ ⟨k,hk,rfl,rfl⟩;have yI:=ZkC (w:=w) (k:=k);by_cases aI:k<w.aK.length
 .obtain⟨x,hx⟩:∃x,w.aK[k]?=some x:=⟨w.aK[k],bB aI⟩;have hg:(w.aK.map Lt.pv)[k]?=some (.agg [.i x.num,.i x.pieces,.i x.limit,.bool x.passed]):=by rw[bW,hx];rfl
  have hw:=bN (k:=k) (by omega);have hn:=hJ (w.aK.length-(k+1)) _ ⟨k+1,aI,rfl,rfl⟩;rw[Zih hx]at hn;have aG:w.aK.length-(k+1)<w.aK.length-k:=by omega
  have VG:=lW x;rw[show x.pv=.agg [.i x.num,.i x.pieces,.i x.limit,.bool x.passed] from rfl]at VG;clear hJ lW Ry lZ;generalize qJ w k=l at *;have h6:l.length<=999999:=by omega
  have h7:l.length+1<=1000000:=by omega
  have nU:(l.map iP).take l.length=l.map iP:=fO (by simp);simp[Jc,Wk.cells,aI,↓hg,aP];refine .inl (cQ [] [_,_] VG ?_);cases hb:isRec w x with
  |false=>
   rw[hb,if_neg (by simp),uG]at hn;simp[aM,hw];exact⟨_,_,aG,Sub.mk (by simp) (by simp[Wk.cells]),hn⟩
  |true=>
   rw[hb,if_pos rfl]at hn;simp[aM,hw,↓hg,aP,h7];exact⟨_,_,aG,Sub.mk (by simp) (by simp[Wk.cells,iP]),hn⟩
 have he:k=w.aK.length:=by omega
 subst he;have fU:=ZoN Y Y (by rw[hY];omega);have nU:(Y.map iP).take Y.length=Y.map iP:=fO (by simp);rw[<-hY];simp[Jc,Wk.cells];refine .inl (cP [.loc 62 0] [.aF false 1 (Y.map iP),.aF false 1 (Y.map iP)] (by simp) (by simp[nU]) fU ?_);simp[aM];refine cG [] Zo ?_;simp;rw[<-hR];exact⟨rfl,by simp⟩
end
section
open Go.ChangeShapes Go.WideShapes Go.ChangeAt Go.RowKit
theorem Ze7 (v0:Value)(W:World){H:Type}{enc:TypeId×Value->H}{base:Nat}{sp:Nat->Bool}{hd:Bool}{d0:DataW H}{p0:List MemPlace}(hg:nI W.mem W)
  (k0:Value.okWide prog W .any base 22 v0) (h0:DataW.Trod enc prog W 0 sp hd 22 v0 d0 p0):
  Calls prog 6 #[v0] W fun e w'=>e=.returned (.bool true)/\cW [] W w':=by
 obtain⟨n0,h0⟩:=h0;obtain⟨s0,w0,r0⟩:=ZsV k0 h0;refine Zl8 (xs:=[bJ s0]) (b:=true) ((Znh s0 w0).mono (fun _ _ h=>h.1)) rfl (fun j v x e1 e2=>?_) hg
 match j with
 |0=>simp at e1 e2;subst e1 e2;exact r0
 |j+1=>simp at e1
theorem ZeE (os:Os)(started:os.Started)(H:Type)(enc:TypeId×Value->H):
  ReturnsInHanded {} checked os 6 .any (fun w args=>(Rows.bookRecallsSpec.pre enc prog f6 Rows.bookRecallsRow.domain false w args/\laidMetH prog Rows.bookRecallsRow.laid w)/\sizedMet enc prog f6 (OpenSpec.ofChange Rows.bookRecallsSpec) false w args)
   (Rows.bookRecallsSpec.post enc prog f6 false true false false):=by
 refine ZjC (C:=checked) (X:=fun w _=>laidMetH prog Rows.bookRecallsRow.laid w) (fun _ _ _ hh h=>h.of_heap hh) own started (by kernel_rfl) func6
  (ChangeSpec.witness_shaped (enc:=enc) (C:=checked) (os:=os) (X:=fun w _=>laidMetH prog Rows.bookRecallsRow.laid w) false (World.laidAll prog os Rows.bookRecallsRow.laid) #[.slice none 0 0] 8 (World.laidAll_os _ _ _)
   (World.shaped_of_ZipB (by kernel_rfl) (by kernel_rfl)) (by kernel_rfl) (by kernel_rfl) (by kernel_rfl)
   (by rw[MakeChecks.laidMetH_plain _ _ _ (by kernel_rfl)];exact laidMet_laidAll _ (by kernel_rfl) (by kernel_rfl))) ?_
 intro W base args ds gs before Aa hW hL HJ;have nT:∀(j:Nat) t v,f6.params[j]?=some t->args[j]?=some v->Value.okWide prog W .any base t v:=Aa;rw[MakeChecks.laidMetH_plain _ _ _ (by kernel_rfl)]at hL;have hg:=ZtM HJ (Lib.laidMet.reads hL (by simp[Rows.bookRecallsRow])) (Lib.laidMet.reads hL (by simp[Rows.bookRecallsRow])) (Lib.laidMet.reads hL (by simp[Rows.bookRecallsRow]));have Uw:=hW;obtain⟨p,q,hA0,hV,rfl,hfz,pX⟩:=hW;have hA:DataW.TrodAll enc prog W 0 (fun _=>true) true f6.params.toList args.toList ds p:=hA0;rw[params6]at hA nT;obtain⟨v0,vs0,d0,Vx,p0,q0,fX,rfl,rfl,h0,r0⟩:=trodAll_cons hA;obtain⟨rfl,rfl,rfl⟩:=trodAll_nil r0;have QV:args=#[v0]:=by
  apply Array.ext';exact fX
 subst QV;have k0:=nT 0 _ v0 rfl rfl;obtain⟨rfl,rfl⟩:=trodVars_none hV;refine(Ze7 v0 W hg k0 h0).mono fun e W' ⟨he,hk⟩=>?_
 subst he;exact⟨_,rfl,ZpN (tb:=4) LM ZrC Dl (by decide +kernel) rfl rfl rfl underlying4 Uw hk⟩
end
theorem Zix {P:Program}{f:FuncId}{fn:Func}{s:ChangeSpec}{c:OpenClaim}(k0:(c.wf (OpenSpec.ofChange s))=true)(k1:(laidOutB P)=true)(k2:(mapsRowed P)=true)(k3:(fn.params.all (P.readableRec ·))=true)(k4:(namedTie P c.named s.vars)=true)(k5:((c.stops==[]))=true)(k6:((P.stops==[]))=true)(k7:((c.knobs==[]))=true)(k8:((P.stopKnobs==[]))=true)(k9:((c.inPlace==P.inPlace f))=true)(Qy:((c.unfollowed==P.unfollowed f))=true)(Qx:((c.recurses==P.recurses f))=true)(k12:((c.named==P.varsNamed f))=true)(k13:((c.maps==(fn.params.toList++s.plain.varTypes P).any (P.mapsRec ·)))=true)(k14:((c.ifaces==(fn.params.toList++s.plain.varTypes P).any (P.ifacesRec ·)))=true)(k15:((c.mapsOut==P.mapsAmong fn.resultTypes.toList))=true)(k16:((c.loops==(fn.params.toList++s.plain.varTypes P).any (P.loopsFrom ·)))=true)(k17:((c.wideKeys==(fn.params.toList++s.plain.varTypes P++fn.resultTypes.toList).any (P.wideKeysFrom ·)))=true)(k18:(s.vars.all (P.varReadable ·))=true)(k19:(fn.resultTypes.all (fun t=>P.readableRec t&&decide (t<P.types.size)))=true)(k20:((c.ifacesOut==fn.resultTypes.toList.any (P.ifacesRec ·)))=true)(k21:((c.loopsOut==fn.resultTypes.toList.any (P.loopsFrom ·)))=true)(k22:((c.plainKeys==P.plainKeys))=true)(k23:(c.shortTexts.isNone)=true)(k24:(P.stopsHeard)=true)(k25:(P.mayEnter)=true)(k26:((c.lifted==P.liftsFinal))=true)(k27:((P.make==some c.make))=true)(k28:((c.kinds==(if c.domain.isEmpty then[]else fn.params.toList.map fun t=>match P.underlying t with|some (.int k)=>some k|_=>none)))=true)(k29:((c.pinned==c.pinnedBy))=true)(k30:((c.veiled==(fn.params.toList++s.plain.varTypes P++fn.resultTypes.toList).any (P.veiledRec ·)))=true)(k31:(c.veiledFits P fn.params.toList (fn.params.toList++s.plain.varTypes P++fn.resultTypes.toList))=true):joinedFacts P f fn s c=true:=by
 unfold joinedFacts;simp only[dJ];exact⟨⟨⟨⟨⟨⟨⟨⟨⟨⟨⟨⟨⟨⟨⟨⟨⟨⟨⟨⟨⟨⟨⟨⟨⟨⟨⟨⟨⟨⟨⟨k0,k1⟩,k2⟩,k3⟩,k4⟩,k5⟩,k6⟩,k7⟩,k8⟩,k9⟩,Qy⟩,Qx⟩,k12⟩,k13⟩,k14⟩,k15⟩,k16⟩,k17⟩,k18⟩,k19⟩,k20⟩,k21⟩,k22⟩,k23⟩,k24⟩,k25⟩,k26⟩,k27⟩,k28⟩,k29⟩,k30⟩,k31⟩
theorem bN0:(Rows.bookRecallsRow.wf (OpenSpec.ofChange Rows.bookRecallsSpec))=true:=by kernel_rfl
theorem bN1:(laidOutB prog)=true:=LM
theorem bN2:(mapsRowed prog)=true:=ZrC
theorem bN3:(f6.params.all (prog.readableRec ·))=true:=by kernel_rfl
theorem bN4:(namedTie prog Rows.bookRecallsRow.named Rows.bookRecallsSpec.vars)=true:=by kernel_rfl
theorem bN9:((Rows.bookRecallsRow.inPlace==prog.inPlace 6))=true:=by kernel_rfl
theorem Wq:((Rows.bookRecallsRow.unfollowed==prog.unfollowed 6))=true:=by kernel_rfl
theorem Wp:((Rows.bookRecallsRow.recurses==prog.recurses 6))=true:=by kernel_rfl
theorem Wo:((Rows.bookRecallsRow.named==prog.varsNamed 6))=true:=by kernel_rfl
theorem Wn:((Rows.bookRecallsRow.plainKeys==prog.plainKeys))=true:=by kernel_rfl
theorem Wm:(prog.stopsHeard)=true:=by kernel_rfl
theorem Wl:(prog.mayEnter)=true:=by kernel_rfl
theorem Wj:((Rows.bookRecallsRow.lifted==prog.liftsFinal))=true:=by kernel_rfl
theorem Wi:((prog.make==some Rows.bookRecallsRow.make))=true:=by kernel_rfl
theorem Zrb:joinedFacts pinned.checked.prog 6 f6 Rows.bookRecallsSpec Rows.bookRecallsRow=true:=
 Zix bN0 bN1 bN2 bN3 bN4 (by kernel_rfl) (by kernel_rfl) (by kernel_rfl) (by kernel_rfl) bN9 Wq Wp Wo (by kernel_rfl) (by kernel_rfl) (by kernel_rfl) (by kernel_rfl) (by kernel_rfl) (by kernel_rfl) (by kernel_rfl) (by kernel_rfl) (by kernel_rfl) Wn (by kernel_rfl) Wm Wl Wj Wi (by kernel_rfl) (by kernel_rfl) (by kernel_rfl) (by kernel_rfl)
section
open Go.ChangeShapes Go.WideShapes Go.ChangeAt Go.RowKit
theorem Zrc (os:Os)(started:os.Started)(H:Type)(enc:TypeId×Value->H):ReturnsInHanded Rows.bookRecallsRow.assume pinned.checked os 6 .any (Rows.bookRecallsRow.pre enc pinned.checked.prog f6 (OpenSpec.ofChange Rows.bookRecallsSpec)) (Rows.bookRecallsSpec.post enc pinned.checked.prog f6 Rows.bookRecallsRow.apart Rows.bookRecallsRow.fresh Rows.bookRecallsRow.handsOn Rows.bookRecallsRow.again):=ZeE os started H enc
theorem Zfq:Rows.bookRecallsRow.holds pinned (OpenSpec.ofChange Rows.bookRecallsSpec):=
 OpenClaim.holds_of_wide 6 f6 rfl rfl rfl rfl rfl rfl rfl ⟨rfl,rfl,rfl,rfl,rfl⟩ rfl rfl rfl rfl rfl (by kernel_rfl) func6 Zrb
  (of_decide_eq_true (by kernel_rfl)) (by unfold Func.isWrapper;first|(rw[if_pos (by decide +kernel)];kernel_rfl)|(rw[if_neg (by decide +kernel)];exact⟨rfl,rfl⟩))
  (fun os started H enc _=>Zrc os started H enc)
theorem Wg:Rows.bookRecallsRow.wfByText (OpenSpec.ofChange Rows.bookRecallsSpec)=true:=by kernel_rfl
theorem Zvg : pinned.checked.prog.mainIs = some (true, "fcce57d82b88c4b3015b95ddefccdbf550aa66b3a632443fa05c47b6881cad25".toList) := by kernel_rfl
theorem Zt6:true=pinned.checked.prog.looks []:=by kernel_rfl
theorem Wh:false=Rows.bookRecallsRow.goesBy pinned.checked.prog:=by kernel_rfl
theorem Zt5 : prog.funcNamed "tensile/tensilelaw12.BookRecalls" = some 6 := by kernel_rfl
theorem Zt4:([22].all fun u=>!prog.wantsStandIn u)=true:=by kernel_rfl
theorem cardBookRecalls:Rows.BookRecallsCardSaid:=
 Claim7.holds_tied_plain_at .later [] [.data, .data, .data, .data, .sentinel, .sentinel, .pinned] true (true, "fcce57d82b88c4b3015b95ddefccdbf550aa66b3a632443fa05c47b6881cad25") true
  Zfq (fun _ h=>by cases h) Wg (fun _ h=>by cases h) bookRecalls_row_tie rfl ⟨rfl,rfl⟩ Zvg rfl
  (fun f fn hf qA=>by
   obtain rfl:f=6:=Option.some.inj (Zt5.symm.trans hf) |>.symm;obtain rfl:fn=f6:=(Option.some.inj (func6.symm.trans qA)).symm;exact⟨Zt6,fun j t ht=>by
    rw[params6]at ht;have hm:t∈([22]:List TypeId):=by simpa using Array.mem_of_getElem? ht
    exact(show prog.wantsStandIn t=false by simpa using rC.1 Zt4 t hm)⟩)
  Wh
end
end Go.Proofs.YtlllhbmbnjnoiaaGreatDoor
