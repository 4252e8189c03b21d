import Derived.Test.YthmbecacehfgfabGreatDoorP0
import Derived.Test.YthmbecacehfgfabGreatDoorP4
import Derived.Test.YthmbecacehfgfabGreatDoorP3
import Derived.Lib.ItoaMem
import Derived.Test.YthmbecacehfgfabGreatDoorP2
import Derived.JoinedOf
import Derived.Test.YthmbecacehfgfabGreatDoorCards
import Derived.Test.YthmbecacehfgfabGreatDoorTie
import Derived.SevenTiedAt
set_option linter.unusedSimpArgs false
set_option linter.unusedVariables false
set_option maxHeartbeats 32000000
set_option maxRecDepth 100000
namespace Go.Proofs.YthmbecacehfgfabGreatDoor
open Go.RowKit
open Go.Proofs.Tryz Go.Proofs.YthmbecacehfgfabGreatDoor.Tryz
section
theorem Zn2 {ls:List Lt}{i:Nat}{x:Lt}(hs:(ls.map Lt.num).Pairwise (·<·))(hx:ls[i]?=some x):dJ (ls.map Lt.num) x.num=i:=by
 obtain⟨hl,he⟩:=cD.1 hx;have hm:(ls.map Lt.num)[i]?=some x.num:=by rw[bY,hx];rfl
 obtain⟨rJ,he2⟩:=cD.1 hm;refine Zn hs (by rw[fZ];omega) (fun k y hk hy=>?_) (fun y hy=>by rw[hm]at hy;cases hy;exact Int.le_refl _);obtain⟨NC,he3⟩:=cD.1 hy
 have:=R3.1 hs k i NC rJ hk
 rw[he2,he3]at this;exact this
theorem Zky {b a r:Int}:eG b a r=1\/eG b a r=2\/eG b a r=3:=by
 unfold eG;split
 .exact .inl rfl
 .split
  .exact .inr (.inl rfl)
  .exact .inr (.inr rfl)
theorem ZpP {rs:List Bool}(h:(cZ rs).2.2=0):(cZ rs).1=1\/(cZ rs).1=2\/(cZ rs).1=3:=by
 unfold cZ at *;split at h
 .rename_i h1;rw[if_pos h1];exact .inr (.inr rfl)
 .rename_i h1;rw[if_neg h1];split at h
  .rename_i h2;rw[if_pos h2];split at h
   .rename_i h3;rw[if_pos h3];exact .inr (.inr rfl)
   .rename_i h3;rw[if_neg h3];split at h
    .cases h
    .rename_i h4;rw[if_neg h4];exact Zky
  .rename_i h2;rw[if_neg h2];split at h
   .cases h
   .rename_i h3;rw[if_neg h3];exact Zky
theorem Ml {S:Int->Int->Bool}{G:Tt->Bool}{num:Int}:∀{l:List Tt} {rs:List Bool},lH rs->(qS S G num l rs).1=1\/(qS S G num l rs).1=2\/(qS S G num l rs).1=3
 |[],rs,_=>.inr (.inr rfl)
 |t::l,rs,h=>by
  rw[ZhF];split
  .split
   .rename_i h3;exact Ml ((h.step _).2 h3)
   .exact ZpP (h.step _).1
  .exact Ml h
attribute [local irreducible] Bk.rD eL Bk.contra Bk.held Bk.span Bk.nums Bk.iL Bk.qM stM nB qS
theorem ZsQ {q:Nat}(w:Wk)(hI:sI q w)(hq:q<=100)(hJ:BM w)(n:Int):aC prog 111 [w.pv,.i n] (sX w ((jN (bZ w.aA w.bad w.aG) w.aM n).map fun l=>{ w with aM:=l })):=by
 have zS:=hI.l;have F0:=Zjl w (by omega) n;have jE:w.pv=.agg [.aF false 7 (w.aA.map Ct.pv),.aF false 1 (w.bad.map iP),.aF false 4 (w.aM.map Lt.pv),.aF false 4 (w.aG.map Tt.pv),.aF false 3 (w.runs.map Qn.Rq.pv)]:=rfl;refine cF [.loc 44 0] L111 ?_;obtain⟨V,hV⟩:∃V,V=sX w ((jN (bZ w.aA w.bad w.aG) w.aM n).map fun l=>{ w with aM:=l }):=⟨_,rfl⟩;rw[<-hV];generalize hR:(fun(r:AV) (B:List (Site×aJ))=>r=.pv V/\B=[])=R;rw[jE]at F0 ⊢;simp[L111];refine cG [_,_] F0 ?_;rcases e9 (n:=n) (l:=w.aM) (k:=0)with⟨mP,hf⟩|⟨i,x,hx,VQ,hf⟩
 .have hv:V=.bN [w.pv,.i 7]:=by
   rw[hV];unfold jN;split
   .rename_i y hy;rw[if_neg (mP y (dL hy))];rfl
   .rfl
  rw[jE]at hv;subst hv;simp[hf];rw[<-hR];exact⟨by simp,by simp⟩
 rw[sF]at hf;subst VQ;have yR:=(cD.1 hx).1;have hg:(w.aM.map Lt.pv)[i]?=some (.agg [.i x.num,.i x.pieces,.i x.limit,.bool x.passed]):=by rw[bY,hx];rfl
 have h0:¬(i:Int)<0:=by omega
 have hpm:jN (bZ w.aA w.bad w.aG) w.aM x.num=if x.passed=true then .error 6 else if bZ w.aA w.bad w.aG x=3 then .error 8 else if bZ w.aA w.bad w.aG x=1 then .ok (w.aM.set i { x with passed:=true })else .error 11:=by
  unfold jN;rw[Zn2 hI.s hx,hx];dsimp only;rw[if_pos rfl]
 rw[hpm]at hV;have mZ:=Ms w hI hq hJ.nc x;have Tc:(qS (stM w.aA w.bad) (nB w.aA w.bad x.limit) x.num w.aG []).1=bZ w.aA w.bad w.aG x:=XQ;have U9:=Ml (S:=stM w.aA w.bad) (G:=nB w.aA w.bad x.limit) (num:=x.num) (l:=w.aG) Zhv;rw[Tc]at mZ U9;rw[jE,show x.pv=.agg [.i x.num,.i x.pieces,.i x.limit,.bool x.passed] from rfl]at mZ;generalize bZ w.aA w.bad w.aG x=v at *;generalize(qS (stM w.aA w.bad) (nB w.aA w.bad x.limit) x.num w.aG []).2=many at mZ;cases hp:x.passed with
 |true=>
  rw[if_pos hp]at hV;have hv:V=.bN [w.pv,.i 6]:=hV;rw[jE]at hv;subst hv;rw[hp]at hg;simp[hf,h0,↓hg,aN];rw[<-hR];exact⟨by simp,by simp⟩
 |false=>
 rw[if_neg (by rw[hp];decide)]at hV;rw[hp]at hg mZ;simp[hf,h0,↓hg,aN];refine cG [_,_] mZ ?_;rcases U9 with rfl|rfl|rfl
 .have hv:V=.bN [.agg [.aF false 7 (w.aA.map Ct.pv),.aF false 1 (w.bad.map iP),.aF false 4 ((w.aM.set i { x with passed:=true }).map Lt.pv),.aF false 4 (w.aG.map Tt.pv),.aF false 3 (w.runs.map Qn.Rq.pv)],.i 0]:=hV;have Ur:w.aM.length<=1000000:=by omega
  have Z3:(w.aM.map Lt.pv).take w.aM.length=w.aM.map Lt.pv:=fQ (by simp);rw[List.map_set]at hv;subst hv;simp[yR,↓hg,bV,aN,Ur];rw[<-hR,fQ (by simp)];exact⟨rfl,rfl⟩
 .have hv:V=.bN [w.pv,.i 11]:=hV;rw[jE]at hv;subst hv;simp[hf,h0,yR,↓hg,bV,aN];rw[<-hR];exact⟨by simp,by simp⟩
 .have hv:V=.bN [w.pv,.i 8]:=hV;rw[jE]at hv;subst hv;simp[aN];rw[<-hR];exact⟨by simp,by simp⟩
end
section
attribute [local irreducible] Bk.rD eL Bk.contra Bk.held Bk.span Bk.nums Bk.iL Bk.qM stM nB qS
def pU:AV:=.pv (.emp (some true))
def LW (w:Wk)(q:Tt)(i c j:Nat):AS:=⟨[(1,.pv (.aF false 1 [.i q.fU,.i q.item,.i q.day,.i q.rd])),(2,.ptr (.loc 2 0) 0),(4,.ptr (.loc 4 0) 0),(6,.pv (.i (i:Int))),(9,.pv (.i (c:Int))),(10,.pv (.i (j:Int)))],
 [(.loc 2 0,.cells w.cells),(.loc 4 0,.cells [pU,pU,pU,pU,pU])]⟩
def tnJ (w:Wk)(q:Tt):AS:=⟨[(4,.ptr (.loc 4 0) 0),(12,.ptr (.loc 12 0) 0),(112,.vec (.loc 112 0) 4 0 w.aG.length),(114,.vec (.loc 114 0) 4 0 1)],
 [(.loc 114 0,.arr 88 4 [.agg [.i q.fU,.i q.item,.i q.day,.i q.rd]]),(.loc 112 0,.arr 88 4 (w.aG.map Tt.pv)),(.loc 12 0,.cells w.cells),(.loc 4 0,.cells [pU,pU,pU,pU,pU])]⟩
theorem Zm8 {k0:Nat}(w:Wk)(hI:sI k0 w)(hq:k0<=100)(hJ:BM w)(q:Tt):aC prog 110 [w.pv,.aF false 1 [.i q.fU,.i q.item,.i q.day,.i q.rd]] (sX w ((kU (stM w.aA w.bad) (bZ w.aA w.bad w.aG) w.aM w.aG q).map fun l=>{ w with aG:=l })):=by
 have zS:=hI.l;have oQ:=hI.t;have gP:=hI.c;have wM:=hI.b;have F0:=Zjl w (by omega) q.fU;have i1:=rR q.item 2 5;have i2:=rR q.day 0 1000;have i3:=rR q.rd 0 2000;have jE:w.pv=.agg [.aF false 7 (w.aA.map Ct.pv),.aF false 1 (w.bad.map iP),.aF false 4 (w.aM.map Lt.pv),.aF false 4 (w.aG.map Tt.pv),.aF false 3 (w.runs.map Qn.Rq.pv)]:=rfl;refine cF [.loc 115 0] L110 ?_;obtain⟨V,hV⟩:∃V,V=sX w ((kU (stM w.aA w.bad) (bZ w.aA w.bad w.aG) w.aM w.aG q).map fun l=>{ w with aG:=l }):=⟨_,rfl⟩;rw[<-hV];generalize hR:(fun(r:AV) (B:List (Site×aJ))=>r=.pv V/\B=[])=R;have gE:¬((decide (2<=q.item)&&decide (q.item<=5))=true/\(decide (0<=q.day)&&decide (q.day<=1000))=true/\(decide (0<=q.rd)&&decide (q.rd<=2000))=true)->V=.bN [w.pv,.i 2]:=fun h=>by
  rw[hV];unfold kU;rw[if_neg h];rfl
 rw[jE]at F0 gE ⊢;simp[L110];refine cG [_,_,_] i1 ?_;generalize tO:(decide (2<=q.item)&&decide (q.item<=5))=d1 at *;cases d1
 .have hv:=gE (by simp);subst hv;simp;rw[<-hR];exact⟨by simp,by simp⟩
 simp;refine cG [_,_,_] i2 ?_;generalize uZ:(decide (0<=q.day)&&decide (q.day<=1000))=d2 at *;cases d2
 .have hv:=gE (by simp);subst hv;simp;rw[<-hR];exact⟨by simp,by simp⟩
 simp;refine cG [_,_,_] i3 ?_;generalize U5:(decide (0<=q.rd)&&decide (q.rd<=2000))=d3 at *;cases d3
 .have hv:=gE (by simp);subst hv;simp;rw[<-hR];exact⟨by simp,by simp⟩
 clear gE;have RS:2<=q.item/\q.item<=5:=by rw[dK,decide_eq_true_eq,decide_eq_true_eq]at tO;exact tO
 have H6:0<=q.day/\q.day<=1000:=by rw[dK,decide_eq_true_eq,decide_eq_true_eq]at uZ;exact uZ
 unfold kU at hV;rw[tO,uZ,U5,if_pos ⟨rfl,rfl,rfl⟩]at hV;simp;refine cG [_,_] F0 ?_;rcases e9 (n:=q.fU) (l:=w.aM) (k:=0)with⟨mP,hf⟩|⟨i,x,hx,VQ,hf⟩
 .have hv:V=.bN [w.pv,.i 7]:=by
   rw[hV];split
   .rename_i y hy;rw[if_neg (mP y (dL hy))];rfl
   .rfl
  rw[jE]at hv;subst hv;simp[hf];rw[<-hR];exact⟨by simp,by simp⟩
 rw[sF]at hf;rw[<-VQ,Zn2 hI.s hx,hx]at hV;dsimp only at hV;rw[if_pos rfl]at hV;have yR:=(cD.1 hx).1;have hg:(w.aM.map Lt.pv)[i]?=some (.agg [.i x.num,.i x.pieces,.i x.limit,.bool x.passed]):=by rw[bY,hx];rfl
 have h0:¬(i:Int)<0:=by omega
 have mZ:=Ms w hI hq hJ.nc x;have Tc:(qS (stM w.aA w.bad) (nB w.aA w.bad x.limit) x.num w.aG []).1=bZ w.aA w.bad w.aG x:=XQ;rw[Tc]at mZ;rw[jE,show x.pv=.agg [.i x.num,.i x.pieces,.i x.limit,.bool x.passed] from rfl]at mZ;generalize bZ w.aA w.bad w.aG x=v at *;generalize(qS (stM w.aA w.bad) (nB w.aA w.bad x.limit) x.num w.aG []).2=many at mZ;simp[hf,h0,↓hg,aN];refine cG [_,_] mZ ?_;by_cases bS:v=3/\x.passed=false
 case neg=>
  have hv:V=.bN [w.pv,.i 8]:=by
   rw[hV];cases hp:x.passed with
   |true=>rfl
   |false=>rw[if_neg (by decide),if_neg (fun h=>bS ⟨h,hp⟩)];rfl
  rw[jE]at hv;subst hv;by_cases h3:v=3
  .have hp:x.passed=true:=by
    cases hp:x.passed with
    |true=>rfl
    |false=>exact absurd ⟨h3,hp⟩ bS
   rw[hp]at hg;simp[↓hg,aN,h3];rw[<-hR];exact⟨by simp,by simp⟩
  .simp[aN,h3];rw[<-hR];exact⟨by simp,by simp⟩
 obtain⟨rfl,hp⟩:=bS;rw[hp,if_neg (by decide),if_pos rfl]at hV;rw[hp]at hg;simp[hf,h0,yR,↓hg,bV,aN];refine eP (fun m τ=>∃j:Nat,j<=w.aG.length/\m=w.aG.length-j/\τ=LW w q i (kX (w.aG.take j) q.fU) j) ⟨w.aG.length,LW w q i 0 0,Sub.mk (by simp) (by simp[pU,Wk.cells]),0,gW _,rfl,by simp[kX]⟩ ?_;rintro J hJ m τ ⟨j,hj,rfl,rfl⟩;by_cases aI:j<w.aG.length
 .obtain⟨t,AF⟩:∃t,w.aG[j]?=some t:=⟨w.aG[j],bC aI⟩;have RQ:(w.aG.map Tt.pv)[j]?=some (.agg [.i t.fU,.i t.item,.i t.day,.i t.rd]):=by rw[bY,AF];rfl
  have hw:=bK (k:=j) (by omega);have aH:w.aG.length-(j+1)<w.aG.length-j:=by omega
  have aB:=hJ _ _ ⟨j+1,aI,rfl,rfl⟩;have T8:=ZkZ (ts:=w.aG.take j) (n:=q.fU);rw[gM]at T8;have QG:=bK (k:=kX (w.aG.take j) q.fU) (by omega);rw[ZgO AF]at aB;clear hJ;generalize kX (w.aG.take j) q.fU=c at *;by_cases lD:t.fU=q.fU
  .rw[if_pos lD]at aB;simp[LW,pU,Wk.cells,aI,↓RQ,aN,hw,QG,lD];exact⟨_,_,aH,Sub.mk (by simp) (by simp[pU,Wk.cells]),aB⟩
  .rw[if_neg lD]at aB;simp[LW,pU,Wk.cells,aI,↓RQ,aN,hw,lD];exact⟨_,_,aH,Sub.mk (by simp[LW]) (by simp[LW,pU,Wk.cells]),aB⟩
 have he:j=w.aG.length:=by omega
 subst he;rw[nD];clear hJ aI hj;rw[VQ]at hV;generalize kX w.aG q.fU=c at *;by_cases FY:x.pieces<=(c:Int)
 .rw[if_neg (by omega)]at hV;have hv:V=.bN [w.pv,.i 3]:=hV;rw[jE]at hv;subst hv;simp[LW,pU,Wk.cells,↓hg,aN,FY];rw[<-hR];exact⟨by simp,by simp⟩
 rw[if_pos (by omega)]at hV;have wG:=Zfr w hI.bk (by omega) (by omega) q.fU q.item q.day q.rd (by omega) RS.2 H6.1 H6.2;rw[jE]at wG;simp[LW,pU,Wk.cells,↓hg,aN,FY];refine cG [_,_] wG ?_;cases hs:stM w.aA w.bad q.item q.day with
 |false=>
  rw[hs,if_neg (by decide)]at hV;have hv:V=.bN [w.pv,.i 10]:=hV;rw[jE]at hv;subst hv;simp;rw[<-hR];exact⟨by simp,by simp⟩
 |true=>
  rw[hs,if_pos rfl]at hV;have hv:V=.bN [.agg [.aF false 7 (w.aA.map Ct.pv),.aF false 1 (w.bad.map iP),.aF false 4 (w.aM.map Lt.pv),.aF false 4 ((w.aG++[q]).map Tt.pv),.aF false 3 (w.runs.map Qn.Rq.pv)],.i 0]:=hV;rw[mL]at hv;have hm:(w.aG.map Tt.pv).take w.aG.length=w.aG.map Tt.pv:=fQ (by simp);have IU:w.aG.length<=1000000:=by omega
  have WD:w.aG.length+1<=1000000:=by omega
  simp[aN];refine BK (fun τ=>τ=tnJ w q) ?_ ?_
  .simp[gL,gS,aN,IU]
   repeat' apply And.intro
   all_goals exact Sub.mk (by simp) (by simp[pU,Wk.cells])
  rintro τ rfl;subst hv;simp[tnJ,pU,Wk.cells,gL,gS,aN,WD];rw[<-hR];exact⟨by simp;exact fQ (by simp),by simp⟩
end
section
attribute [local irreducible] Bk.rD eL Bk.contra Bk.held Bk.span Bk.nums Bk.iL Bk.qM stM nB qS Bk.fault
def Ct.row (x:Ct):List PV:=[.i x.num,.i x.it,.i x.src,.i x.day,.i x.valid,.i x.diff.lo,.i x.diff.hi]
def crJ (w:Wk)(x:Ct):AS:=⟨[(2,.ptr (.loc 2 0) 0),(4,.ptr (.loc 4 0) 0),(6,.ptr (.loc 6 0) 0),(18,.vec (.loc 18 0) 7 0 w.aA.length),(42,.vec (.loc 42 0) 7 0 1)],
 [(.loc 42 0,.arr 162 7 [.agg x.row]),(.loc 18 0,.arr 162 7 (w.aA.map Ct.pv)),(.loc 6 0,.cells w.cells),(.loc 4 0,.cells [pU,pU,pU,pU,pU]),(.loc 2 0,.cells w.cells)]⟩
theorem ZsZ {k0:Nat}(w:Wk)(hI:sI k0 w)(hq:k0<=100)(x:Ct):aC prog 107 [w.pv,.aF false 1 x.row] (sX w ((mA w.aA w.bad x).map fun l=>{ w with aA:=l })):=by
 have gP:=hI.c;have wM:=hI.b;have N4:=ZkG w (by omega) x.num;have IY:aC prog 69 [] (.aF false 4 KL):=ZkH;have jE:w.pv=.agg [.aF false 7 (w.aA.map Ct.pv),.aF false 1 (w.bad.map iP),.aF false 4 (w.aM.map Lt.pv),.aF false 4 (w.aG.map Tt.pv),.aF false 3 (w.runs.map Qn.Rq.pv)]:=rfl;obtain⟨u,hu⟩:∃u:Wk,u={ w with aA:=w.aA++[x]}:=⟨_,rfl⟩;have Te:u.aA=w.aA++[x]:=by rw[hu]
 have hub:u.bad=w.bad:=by rw[hu]
 have T6:u.aA.length<=1000:=by rw[Te,gF];simp;omega
 have F0:=ZpA ⟨rE,u.aA⟩ (show rE.length<=1000 by decide) T6;have s8:=Mp u T6 (by rw[hub];omega);have mD:Bk.fault ⟨rE,u.aA⟩=0->aC prog 157 [(eO u.aA u.bad).pv] (.bool (eO u.aA u.bad).contra):=fun h=>Znn _ (FA (Bk.R6.1 h))
 have VT:u.pv=.agg [.aF false 7 (w.aA.map Ct.pv++[.agg x.row]),.aF false 1 (w.bad.map iP),.aF false 4 (w.aM.map Lt.pv),.aF false 4 (w.aG.map Tt.pv),.aF false 3 (w.runs.map Qn.Rq.pv)]:=by
  rw[hu];show PV.agg [.aF false 7 ((w.aA++[x]).map Ct.pv),_,_,_,_]=_;rw[mL];rfl
 have hfp:Bk.pv ⟨rE,u.aA⟩=.agg [.aF false 4 KL,.aF false 7 (w.aA.map Ct.pv++[.agg x.row])]:=by
  rw[Te];show PV.agg [_,.aF false 7 ((w.aA++[x]).map Ct.pv)]=_;rw[mL];rfl
 refine cF [.loc 43 0] L107 ?_;obtain⟨V,hV⟩:∃V,V=sX w ((mA w.aA w.bad x).map fun l=>{ w with aA:=l }):=⟨_,rfl⟩;rw[<-hV];generalize hR:(fun(r:AV) (B:List (Site×aJ))=>r=.pv V/\B=[])=R;unfold mA at hV;rw[jE]at N4 ⊢;simp[L107,Ct.row];refine cG [_,_] N4 ?_;cases mC:kn w x.num with
 |true=>
  have hv:V=.bN [w.pv,.i 6]:=by
   rw[hV,if_pos (show(w.aA.any fun y=>decide (y.num=x.num))=true from mC)];rfl
  rw[jE]at hv;subst hv;simp;rw[<-hR];exact⟨by simp,by simp⟩
 |false=>
 rw[if_neg (show ¬(w.aA.any fun y=>decide (y.num=x.num))=true by unfold kn at mC;rw[mC];decide),<-Te,<-hub]at hV;have hm:(w.aA.map Ct.pv).take w.aA.length=w.aA.map Ct.pv:=fQ (by simp);have IU:w.aA.length<=1000000:=by omega
 have WD:w.aA.length+1<=1000000:=by omega
 have nK:(w.aA.map Ct.pv++[PV.agg x.row]).take (w.aA.length+1)=w.aA.map Ct.pv++[PV.agg x.row]:=fQ (by simp);rw[hfp]at F0;rw[VT]at s8;have Xc:(eO u.aA u.bad).pv=.agg [.aF false 4 KL,.aF false 7 ((fR u.aA u.bad).map Ct.pv)]:=rfl;rw[Xc]at s8 mD;generalize(fR u.aA u.bad).map Ct.pv=GC at *;simp[aN];refine BK (fun τ=>τ=crJ w x) ?_ ?_
 .simp[gL,gS,aN,IU]
  repeat' apply And.intro
  all_goals exact Sub.mk (by simp) (by simp[pU,Wk.cells,Ct.row])
 rintro τ rfl;simp[crJ,pU,Wk.cells,gL,gS,aN,WD];refine cQ [.loc 43 0] [] IY ?_;simp[aL,nK];refine cG [_] F0 ?_;by_cases AN:Bk.fault ⟨rE,u.aA⟩=0
 case neg=>
  have hv:V=.bN [w.pv,.i (Bk.fault ⟨rE,u.aA⟩)]:=by rw[hV,if_neg AN];rfl
  rw[jE]at hv;subst hv;simp[AN];rw[<-hR];exact⟨by simp,by simp⟩
 have mD:=mD AN;rw[if_pos AN]at hV;simp[AN];refine .inl<|cQ [] [_] s8 ?_;simp[aL];refine cG [_] mD ?_;have dD:=FA (bad:=u.bad) (Bk.R6.1 AN);cases c6:(eO u.aA u.bad).contra with
 |true=>
  have hv:V=.bN [w.pv,.i 9]:=by
   rw[hV,if_neg (fun h=>by rw[Zfi dD h]at c6;cases c6)];rfl
  rw[jE]at hv;subst hv;simp;rw[<-hR];exact⟨by simp,by simp⟩
 |false=>
  have hv:V=.bN [u.pv,.i 0]:=by
   rw[hV,Zso dD c6,if_pos rfl,hu];rfl
  rw[VT]at hv;subst hv;simp;rw[<-hR];exact⟨by simp,by simp⟩
end
end Go.Proofs.YthmbecacehfgfabGreatDoor
namespace Go.Proofs.YthmbecacehfgfabGreatDoor.Qn
open Go.RowKit
open Go.Proofs.Tryz Go.Proofs.YthmbecacehfgfabGreatDoor.Tryz
theorem Hq {w:List Int}{m:Nat}{x y:Int}(h:w[m]?=some x):(x::w.set m y).Perm (y::w):=by
 induction w generalizing m with
 |nil=>simp at h
 |cons a r ih=>
  cases m with
  |zero=>
   simp at h;subst h;simp only[List.set_cons_zero];exact List.Perm.swap y a r
  |succ m=>
   have h':r[m]?=some x:=by simpa using h
   simp only[List.set_cons_succ];exact(List.Perm.swap a x _).trans (((ih h').cons a).trans (List.Perm.swap y a r))
structure US (q:Qu)(h:Int)(run:Nat)(ms:List Nat)(t:List Bool)(w:List Int)(g:GR):Prop where
 up:∀m:Nat,t[m]?=some true->g.1[m]?=some true
 same:∀m:Nat,t[m]?=some true->g.2.1[m]?=w[m]?
 yes:g.2.2=true->(-1::g.2.1).Perm ((run:Int)::w)
 no:g.2.2=false->g.2.1=w/\(∀m∈ms,g.1[m]?=some true)/\∀m:Nat,g.1[m]?=some true->t[m]?=some false->∃r:Nat,w[m]?=some (r:Int)/\∀m'∈q.G0 r h q.ms.length,g.1[m']?=some true
theorem Hr {t:List Bool}{m m':Nat}(h:t[m']?=some true):(t.set m true)[m']?=some true:=by
 by_cases e:m'=m
 .subst e;rw[O6 (cD.1 h).1]
 .rw[List.getElem?_set_ne (fun e'=>e e'.symm)];exact h
theorem ZfA {t:List Bool}{m m':Nat}(h:t[m]?=some false)(h':t[m']?=some true):m≠m':=fun e=>by subst e;rw[h]at h';cases h'
theorem ZeC {q:Qu}{h:Int}{rec:Nat->List Bool->List Int->GR}{n:Nat}
  (dD:∀run t w,run<q.rs.length->GW q t w->GW q (rec run t w).1 (rec run t w).2.1/\A7 (rec run t w).1<=A7 t)
  (nI:∀r t w,r<q.rs.length->GW q t w->A7 t<=n->US q h r (q.G0 r h q.ms.length) t w (rec r t w)) {run:Nat} (hr:run<q.rs.length):
  ∀(l:List Nat),(∀m∈l,m<4)->∀(t:List Bool) (w:List Int),GW q t w->A7 t<=n+1->US q h run l t w (nR rec run l t w)
 |[],_,t,w,_,_=>⟨fun _ h=>h,fun _ _=>rfl,fun h=>(by cases h),fun _=>⟨rfl,fun m hm=>(by cases hm),fun m h1 h2=>by rw[show(nR rec run [] t w).1=t from rfl,h2]at h1;cases h1⟩⟩
 |m::r,hl,t,w,hw,hu=>by
  obtain⟨b,x,h1,h2,h3⟩:=hw.at (hl m (by simp));have lL:∀m∈r,m<4:=fun m hm=>hl m (by simp[hm])
  unfold nR;rw[h1,h2];simp only[sE];cases b with
  |true=>
   rw[if_pos rfl];have S:=ZeC dD nI hr r lL t w hw hu;exact⟨S.up,S.same,S.yes,fun h0=>⟨(S.no h0).1,fun m' Q3=>by
    rcases jT.1 Q3 with e|e
    .subst e;exact S.up _ h1
    .exact(S.no h0).2.1 m' e,(S.no h0).2.2⟩⟩
  |false=>
   rw[if_neg (by simp)];have Bl:=Zmy h1;have yQ:m<t.length:=(cD.1 h1).1;have jQ:(t.set m true)[m]?=some true:=O6 yQ;split
   .rename_i hx;subst hx;exact⟨fun m' h'=>Hr h',fun m' h'=>by
     show(w.set m run)[m']?=_;rw[List.getElem?_set_ne (ZfA h1 h')],fun _=>Hq h2,fun h0=>by cases h0⟩
   .rename_i hx;obtain⟨i,rfl⟩:∃i:Nat,x=i:=⟨x.toNat,by rcases h3 with h3|h3;exact absurd h3 hx;omega⟩;have hi:i<q.rs.length:=by rcases h3 with h3|h3;exact absurd h3 hx;omega
    simp only[A1];have S:=nI i (t.set m true) w hi (hw.set m) (by omega);obtain⟨k1,k2⟩:=dD i (t.set m true) w hi (hw.set m);generalize rec i (t.set m true) w=g at *;obtain⟨t',w',b'⟩:=g;simp only at *;split
    .rename_i hb;subst hb;have Z4:w'[m]?=some (i:Int):=(S.same m jQ).trans h2;refine⟨fun m' h'=>S.up m' (Hr h'),fun m' h'=>?_,fun _=>?_,fun h0=>by cases h0⟩
     .show(w'.set m run)[m']?=_;rw[List.getElem?_set_ne (ZfA h1 h')];exact S.same m' (Hr h')
     .have p1:=Hq (y:=(run:Int)) Z4;have p2:=S.yes rfl;show(-1::w'.set m run).Perm _;refine List.Perm.cons_inv (a:=(i:Int)) ?_;exact(List.Perm.swap _ _ _).trans ((p1.cons (-1)).trans ((List.Perm.swap _ _ _).trans ((p2.cons _).trans (List.Perm.swap _ _ _))))
    .rename_i hb;have nT:b'=false:=by cases b';rfl;exact absurd rfl hb
     subst nT;obtain⟨n1,n2,n3⟩:=S.no rfl;subst n1;have T:=ZeC dD nI hr r lL t' w' k1 (by omega);refine⟨fun m' h'=>T.up m' (S.up m' (Hr h')),fun m' h'=>T.same m' (S.up m' (Hr h')),T.yes,fun h0=>?_⟩;obtain⟨o1,o2,o3⟩:=T.no h0;refine⟨o1,fun m' Q3=>?_,fun m' I0 uK=>?_⟩
     .rcases jT.1 Q3 with e|e
      .subst e;exact T.up _ (S.up _ jQ)
      .exact o2 m' e
     .have Q3:m'<t'.length:=by rw[k1.t4,<-hw.t4];exact(cD.1 uK).1
      cases ht':t'[m']with
      |false=>exact o3 m' I0 (by rw[bC Q3,ht'])
      |true=>
       have ht2:t'[m']?=some true:=by rw[bC Q3,ht']
       by_cases e:m'=m
       .subst e;exact⟨i,h2,fun m2 nK=>T.up _ (n2 m2 nK)⟩
       .obtain⟨r0,e1,e2⟩:=n3 m' ht2 (by rw[List.getElem?_set_ne (fun e'=>e e'.symm)];exact uK);exact⟨r0,e1,fun m2 nK=>T.up _ (e2 m2 nK)⟩
theorem Zse {t:List Bool}(h:A7 t=0){m:Nat}(hm:m<t.length):t[m]?=some true:=by
 have:∀b∈t,b≠false:=fun b hb e=>by
  subst e
  have:=List.count_pos_iff.2 hb
  unfold A7 at h;omega
 have h2:=this t[m] (A2 hm);rw[bC hm];cases hh:t[m]
 .rw[hh]at h2;exact absurd rfl h2
 .rfl
theorem ZgW {q:Qu}(hq:q.ok)(h:Int):∀(n run:Nat) (t:List Bool) (w:List Int),run<q.rs.length->GW q t w->A7 t<=n->US q h run (q.G0 run h q.ms.length) t w (q.AZ h n run t w)
 |0,run,t,w,_,hw,hu=>⟨fun _ h=>h,fun _ _=>rfl,fun h=>(by cases h),fun _=>⟨rfl,fun m hm=>Zse (t:=t) (Nat.le_zero.1 hu) (by have:=Nk hq m hm;have:=hq.m;rw[hw.t4];omega),fun m h1 h2=>by rw[show(q.AZ h 0 run t w).1=t from rfl,h2]at h1;cases h1⟩⟩
 |n+1,run,t,w,hr,hw,hu=>ZeC (n:=n) (fun run t w hr hw=>Ow hq h n run t w hr hw) (fun r t w hr hw hu=>ZgW hq h n r t w hr hw hu) hr _ (fun m hm=>by have:=Nk hq m hm;have:=hq.m;omega) t w hw hu
theorem YA {q:Qu}{i:Nat}{h:Int}{m:Nat}:m∈q.G0 i h q.ms.length↔m<q.ms.length/\q.may i m h=true:=by
 unfold Qu.G0;rw[fQ (by simp)];simp[iZ,List.mem_range]
structure Mt (q:Qu)(h:Int)(P:Nat->Prop)(j:Nat)(w:List Int):Prop where
 len:w.length=4
 ok:∀x∈w,x = -1\/0<=x
 on:∀m r:Nat,w[m]?=some (r:Int)->j<=m/\m<q.ms.length/\P r/\q.may r m h=true
 one:∀m m' r:Nat,w[m]?=some (r:Int)->w[m']?=some (r:Int)->m=m'
def G3 (q:Qu)(h:Int)(w:List Int):Prop:=∀m r:Nat,w[m]?=some (r:Int)->m∈q.G0 r h q.ms.length
theorem G3.set {q:Qu}{h:Int}{w:List Int}(hw:G3 q h w){m run:Nat}(hm:m∈q.G0 run h q.ms.length):G3 q h (w.set m run):=by
 intro m' r e;rw[List.getElem?_set]at e;split at e
 .rename_i e1;split at e
  .have h1:(run:Int)=r:=by simpa using e
   have h2:run=r:=by omega
   subst h2;subst e1;exact hm
  .cases e
 .exact hw m' r e
theorem ZhH {q:Qu}{h:Int}{rec:Nat->List Bool->List Int->GR}(nI:∀r t w,G3 q h w->G3 q h (rec r t w).2.1){run:Nat}:∀(l:List Nat),(∀m∈l,m∈q.G0 run h q.ms.length)->∀(t:List Bool) (w:List Int),G3 q h w->G3 q h (nR rec run l t w).2.1
 |[],_,t,w,hw=>hw
 |m::r,hl,t,w,hw=>by
  have hm:=hl m (by simp);have lL:∀m∈r,m∈q.G0 run h q.ms.length:=fun m hm=>hl m (by simp[hm])
  unfold nR;split
  .exact ZhH nI r lL t w hw
  .split
   .exact hw.set hm
   .split
    .exact(nI _ _ _ hw).set hm
    .exact ZhH nI r lL _ _ (nI _ _ _ hw)
theorem Zlj {q:Qu}{h:Int}:∀(n run:Nat) (t:List Bool) (w:List Int),G3 q h w->G3 q h (q.AZ h n run t w).2.1
 |0,run,t,w,hw=>hw
 |n+1,run,t,w,hw=>ZhH (fun r t w hw=>Zlj n r t w hw) _ (fun m hm=>hm) t w hw
theorem Fg {l:List Int}{x:Int}:l.count x<=1↔∀m m':Nat,l[m]?=some x->l[m']?=some x->m=m':=by
 induction l with
 |nil=>simp
 |cons a l ih=>
  rw[List.count_cons];constructor
  .intro hc m m' e e';have hl:∀k:Nat,l[k]?=some x->1<=l.count x:=fun k hk=>List.count_pos_iff.2 (dL hk)
   cases m with
   |zero=>
    cases m' with
    |zero=>rfl
    |succ m'=>
     have ha:a=x:=by simpa using e
     have h2:=hl m' (by simpa using e');rw[if_pos (by simp[ha])]at hc;omega
   |succ m=>
    cases m' with
    |zero=>
     have ha:a=x:=by simpa using e'
     have h2:=hl m (by simpa using e);rw[if_pos (by simp[ha])]at hc;omega
    |succ m'=>
     have:=ih.1 (by omega) m m' (by simpa using e) (by simpa using e')
     omega
  .intro hi;have h1:=ih.2 fun m m' e e'=>by have:=hi (m+1) (m'+1) (by simpa using e) (by simpa using e');omega
   by_cases ha:a=x
   .have:l.count x=0:=by
     rcases Nat.eq_zero_or_pos (l.count x)with h0|h0
     .exact h0
     .obtain⟨k,hk⟩:=iO.1 (List.count_pos_iff.1 h0)
      have:=hi 0 (k+1) (by simpa using ha) (by simpa using hk)
      omega
    rw[this];split<;>omega
   .rw[if_neg (by simpa using ha)];omega
theorem ZqM {A B:List Int}(hl:A.length=B.length)(h:∀m:Nat,A[m]?=some (-1)->B[m]?=some (-1)):A.count (-1)<=B.count (-1):=by
 induction A generalizing B with
 |nil=>simp
 |cons a A ih=>
  cases B with
  |nil=>simp at hl
  |cons b B=>
   have h1:=ih (B:=B) (by simpa using hl) fun m e=>by have:=h (m+1) (by simpa using e);simpa using this
   rw[List.count_cons,List.count_cons];by_cases ha:a = -1
   .have hb:b = -1:=by have:=h 0 (by simpa using ha);simpa using this
    rw[if_pos (by simp[ha]),if_pos (by simp[hb])];omega
   .rw[if_neg (by simpa using ha)];omega
theorem Mt.mono {q:Qu}{h:Int}{P P':Nat->Prop}{j:Nat}{w:List Int}(hw:Mt q h P j w)(hP:∀r,P r->P' r):Mt q h P' j w:=
 ⟨hw.len,hw.ok,fun m r e=>⟨(hw.on m r e).1,(hw.on m r e).2.1,hP _ (hw.on m r e).2.2.1,(hw.on m r e).2.2.2⟩,hw.one⟩
theorem Mt.down {q:Qu}{h:Int}{P:Nat->Prop}{j:Nat}{w:List Int}(hw:Mt q h P (j+1) w):Mt q h P j w:=
 ⟨hw.len,hw.ok,fun m r e=>⟨by have:=(hw.on m r e).1;omega,(hw.on m r e).2⟩,hw.one⟩
theorem Mt.next {q:Qu}{h:Int}{P:Nat->Prop}{j:Nat}{w:List Int}(hw:Mt q h P j w)(hj:w[j]?=some (-1)):Mt q h P (j+1) w:=
 ⟨hw.len,hw.ok,fun m r e=>⟨by
  have:=(hw.on m r e).1
  have dA:m≠j:=fun e'=>by subst e';rw[hj]at e;have:=Option.some.inj e;omega
  omega,(hw.on m r e).2⟩,hw.one⟩
theorem Mt.cut {q:Qu}{h:Int}{P:Nat->Prop}{j:Nat}{w:List Int}(hw:Mt q h P j w){m run:Nat}(hm:w[m]?=some (run:Int)):Mt q h (fun r=>P r/\r≠run) j (w.set m (-1)):=by
 have key:∀m' r:Nat,(w.set m (-1))[m']?=some (r:Int)->w[m']?=some (r:Int)/\m'≠m:=fun m' r e=>by
  rw[List.getElem?_set]at e;split at e
  .split at e
   .have:=Option.some.inj e;omega
   .cases e
  .rename_i dA;exact⟨e,fun e'=>dA e'.symm⟩
 refine⟨by simpa using hw.len,fun x hx=>?_,fun m' r e=>?_,fun m1 m2 r e1 e2=>hw.one m1 m2 r (key m1 r e1).1 (key m2 r e2).1⟩
 .rcases List.mem_or_eq_of_mem_set hx with hx|hx
  .exact hw.ok x hx
  .exact .inl hx
 .obtain⟨e1,e2⟩:=key m' r e;obtain⟨o1,o2,o3,o4⟩:=hw.on m' r e1;exact⟨o1,o2,⟨o3,fun e'=>by subst e';exact e2 (hw.one _ _ _ e1 hm)⟩,o4⟩
theorem Mt.put {q:Qu}{h:Int}{P P':Nat->Prop}{i j:Nat}{w:List Int}(hw:Mt q h P i w){x:Nat}(RP:i<=j)(hj:j<q.ms.length)(hx:q.may x j h=true)(hP:P' x)(Wr:∀r,P r->P' r/\r≠x):Mt q h P' i (w.set j x):=by
 have key:∀m' r:Nat,(w.set j x)[m']?=some (r:Int)->(m'=j/\r=x)\/(m'≠j/\w[m']?=some (r:Int)):=fun m' r e=>by
  rw[List.getElem?_set]at e;split at e
  .rename_i e1;split at e
   .have:=Option.some.inj e;exact .inl ⟨e1.symm,by omega⟩
   .cases e
  .rename_i dA;exact .inr ⟨fun e'=>dA e'.symm,e⟩
 refine⟨by simpa using hw.len,fun y hy=>?_,fun m' r e=>?_,fun m1 m2 r e1 e2=>?_⟩
 .rcases List.mem_or_eq_of_mem_set hy with hy|hy
  .exact hw.ok y hy
  .right;omega
 .rcases key m' r e with⟨rfl,rfl⟩|⟨_,e⟩
  .exact⟨RP,hj,hP,hx⟩
  .obtain⟨o1,o2,o3,o4⟩:=hw.on m' r e;exact⟨o1,o2,(Wr r o3).1,o4⟩
 .rcases key m1 r e1 with⟨a1,b1⟩|⟨a1,b1⟩<;>rcases key m2 r e2 with⟨a2,b2⟩|⟨a2,b2⟩
  .omega
  .exact absurd b1 (Wr r (hw.on _ _ b2).2.2.1).2
  .exact absurd b2 (Wr r (hw.on _ _ b1).2.2.1).2
  .exact hw.one _ _ _ b1 b2
theorem Mt.idle {q:Qu}{h:Int}{P:Nat->Prop}{j:Nat}:Mt q h P j fD:=by
 have key:∀x∈fD,x = -1:=fun x hx=>by simpa[fD]using hx
 refine⟨rfl,fun x hx=>.inl (key x hx),fun m r e=>?_,fun m m' r e=>?_⟩
 all_goals
  have:=key _ (dL e)
  omega
theorem Mt.none {q:Qu}{h:Int}{P:Nat->Prop}{j:Nat}{w:List Int}(hw:Mt q h P j w)(hP:∀m r:Nat,P r->j<=m->m<q.ms.length->False):w.count (-1)=4:=by
 rw[<-hw.len,List.count_eq_length];intro x hx;rcases hw.ok x hx with h1|h1
 .exact h1.symm
 .obtain⟨m,hm⟩:=iO.1 hx;obtain⟨r,rfl⟩:∃r:Nat,x=r:=⟨x.toNat,by omega⟩
  have:=hw.on m r hm
  exact(hP m r this.2.2.1 this.1 this.2.1).elim
theorem ZoE {w:List Int}{m run:Nat}(h:w[m]?=some (run:Int)):(w.set m (-1)).count (-1)=w.count (-1)+1:=by
 have p:=(Hq (y:=-1) h).count_eq (-1);rw[List.count_cons,List.count_cons]at p;simp only[beq_iff_eq,if_neg (by omega:¬(run:Int) = -1),if_true]at p;omega
theorem ZtZ {w:List Int}{m run:Nat}(h:w[m]?=some (-1)):(w.set m run).count (-1)+1=w.count (-1):=by
 have p:=(Hq (y:=(run:Int)) h).count_eq (-1);rw[List.count_cons,List.count_cons]at p;simp only[beq_iff_eq,if_neg (by omega:¬(run:Int) = -1),if_true]at p;omega
def Pk (runs:List Int)(k r:Nat):Prop:=∃i:Nat,i<k/\runs[i]?=some (r:Int)
theorem Pk.next {runs:List Int}{k r:Nat}(h:Pk runs k r):Pk runs (k+1) r:=by
 obtain⟨i,h1,h2⟩:=h;exact⟨i,by omega,h2⟩
theorem Pk.split {runs:List Int}{k r run:Nat}(hx:runs[k]?=some (run:Int))(h:Pk runs (k+1) r)(dA:r≠run):Pk runs k r:=by
 obtain⟨i,h1,h2⟩:=h;refine⟨i,?_,h2⟩
 have:i≠k:=fun e=>by subst e;rw[hx]at h2;have:=Option.some.inj h2;omega
 omega
def q9 (T:List Bool)(w M:List Int):List Int:=(List.range 4).map fun m=>if T[m]?=some true then(w[m]?).getD (-1)else(M[m]?).getD (-1)
theorem Ho {T:List Bool}{w M:List Int}(hw:w.length=4)(hM:M.length=4){m:Nat}{x:Int}(h:(q9 T w M)[m]?=some x):(T[m]?=some true/\w[m]?=some x)\/(T[m]?≠some true/\M[m]?=some x):=by
 have hm:m<4:=by have:=(cD.1 h).1;simpa[q9]using this
 have h2:(if T[m]?=some true then(w[m]?).getD (-1)else(M[m]?).getD (-1))=x:=by
  simpa[q9,bY,List.getElem?_range hm]using h
 split at h2
 .rename_i ht;refine .inl ⟨ht,?_⟩;rw[bC (by omega)]at h2 ⊢;simpa using h2
 .rename_i ht;refine .inr ⟨ht,?_⟩;rw[bC (by omega)]at h2 ⊢;simpa using h2
theorem Zh2 {q:Qu}(hq:q.ok){h:Int}{runs:List Int}(gB:∀x∈runs,0<=x/\x<q.rs.length)(qE:∀i j r:Nat,runs[i]?=some (r:Int)->runs[j]?=some (r:Int)->i=j):∀k,k<=runs.length->
  Mt q h (Pk runs k) 0 (q.yW h runs k).2/\(q.yW h runs k).1+(q.yW h runs k).2.count (-1)=4/\∀M,Mt q h (Pk runs k) 0 M->(q.yW h runs k).2.count (-1)<=M.count (-1)
 |0,_=>⟨Mt.idle,(show 0+fD.count (-1)=4 by decide),fun M hM=>by
   rw[hM.none (fun m r hP _ _=>by obtain⟨i,hi,_⟩:=hP;omega)];exact(show fD.count (-1)<=4 by decide)⟩
 |k+1,hk=>by
  obtain⟨A,B,C⟩:=Zh2 hq (h:=h) gB qE k (by omega);have G:=(Qu.ZxE hq (h:=h) gB k (by omega)).1;have hx:runs[k]?=some runs[k]:=bC (by omega);have hr:=gB _ (dL hx);obtain⟨run,dG⟩:∃run:Nat,runs[k]=run:=⟨runs[k].toNat,by omega⟩;rw[dG]at hx hr;have kG:q.yW h runs (k+1)=((q.yW h runs k).1+(if(q.AZ h 5 run o9 (q.yW h runs k).2).2.2=true then 1 else 0),(q.AZ h 5 run o9 (q.yW h runs k).2).2.1):=by simp[Qu.yW,hx]
  have S:=ZgW hq h 5 run o9 (q.yW h runs k).2 (by omega) G (by decide);have O:=(Ow hq h 5 run o9 (q.yW h runs k).2 (by omega) G).1;have On:=Zlj (q:=q) (h:=h) 5 run o9 (q.yW h runs k).2 fun m r e=>YA.2 ⟨(A.on m r e).2.1,(A.on m r e).2.2.2⟩
  rw[kG];generalize q.yW h runs k=a at *;obtain⟨n,w⟩:=a;generalize q.AZ h 5 run o9 (n,w).2=g at *;obtain⟨T,w',b⟩:=g;simp only at *;have yN:∀m:Nat,w[m]?=some (run:Int)->False:=fun m e=>by
   obtain⟨i,h1,h2⟩:=(A.on m run e).2.2.1
   have:=qE _ _ _ h2 hx
   omega
  cases b with
  |true=>
   have p:=S.yes rfl;have hc:w'.count (-1)+1=w.count (-1):=by
    have:=p.count_eq (-1)
    rw[List.count_cons,List.count_cons]at this;simp only[beq_iff_eq,if_neg (by omega:¬(run:Int) = -1),if_true]at this;omega
   refine⟨⟨O.w4,fun x rX=>by rcases O.ok x rX with h1|h1;exact .inl h1;exact .inr h1.1,fun m r e=>?_,fun m m' r e e'=>?_⟩,?_,fun M hM=>?_⟩
   .obtain⟨o1,o2⟩:=YA.1 (On m r e);refine⟨gW _,o1,?_,o2⟩;have gU:(r:Int)∈(run:Int)::w:=p.mem_iff.1 (List.mem_cons_of_mem _ (dL e));rcases jT.1 gU with e1|e1
    .have:r=run:=by omega
     subst this;exact⟨k,by omega,hx⟩
    .obtain⟨m2,nK⟩:=iO.1 e1;exact(A.on m2 r nK).2.2.1.next
   .refine Fg.1 ?_ m m' e e';have hp:=p.count_eq (r:Int);rw[List.count_cons,List.count_cons]at hp;simp only[beq_iff_eq,if_neg (by omega:¬(-1:Int)=(r:Int))]at hp;by_cases Bs:r=run
    .subst Bs
     have:w.count (r:Int)=0:=List.count_eq_zero.2 fun gU=>by
      obtain⟨m2,nK⟩:=iO.1 gU;exact yN m2 nK
     rw[if_pos rfl]at hp;omega
    .have:=Fg.2 (fun m m' e e'=>A.one m m' r e e')
     rw[if_neg (by omega)]at hp;omega
   .rw[if_pos rfl];omega
   .by_cases hM1:∃m:Nat,M[m]?=some (run:Int)
    .obtain⟨m,hm⟩:=hM1;have h1:=C _ ((hM.cut hm).mono fun r wI=>Pk.split hx wI.1 wI.2);rw[ZoE hm]at h1;omega
    .have h1:=C M ⟨hM.len,hM.ok,fun m r e=>⟨(hM.on m r e).1,(hM.on m r e).2.1,Pk.split hx (hM.on m r e).2.2.1 (fun e'=>hM1 ⟨m,by rw[<-e'];exact e⟩),(hM.on m r e).2.2.2⟩,hM.one⟩;omega
  |false=>
   obtain⟨n1,n2,n3⟩:=S.no rfl;subst n1;refine⟨A.mono fun r wI=>wI.next,by rw[if_neg (by simp)];exact B,fun M hM=>?_⟩;have hT:∀m:Nat,T[m]?=some true->∃r:Nat,w'[m]?=some (r:Int)/\∀m'∈q.G0 r h q.ms.length,T[m']?=some true:=fun m hm=>by
    have yQ:m<4:=by rw[<-O.t4];exact(cD.1 hm).1
    exact n3 m hm (by
     have:∀m:Nat,m<4->o9[m]?=some false:=by decide
     exact this m yQ)
   have Um:Mt q h (Pk runs k) 0 (q9 T w' M):=by
    refine⟨by simp[q9],fun x rX=>?_,fun m r e=>?_,fun m m' r e e'=>?_⟩
    .obtain⟨m,hm⟩:=iO.1 rX;rcases Ho A.len hM.len hm with⟨_,h1⟩|⟨_,h1⟩
     .exact A.ok _ (dL h1)
     .exact hM.ok _ (dL h1)
    .rcases Ho A.len hM.len e with⟨_,h1⟩|⟨ht,h1⟩
     .exact A.on m r h1
     .obtain⟨o1,o2,o3,o4⟩:=hM.on m r h1;exact⟨o1,o2,Pk.split hx o3 (fun e'=>by subst e';exact ht (n2 m (YA.2 ⟨o2,o4⟩))),o4⟩
    .have mP:∀m m':Nat,T[m]?=some true->w'[m]?=some (r:Int)->T[m']?≠some true->M[m']?=some (r:Int)->False:=fun m m' t1 h1 t2 h2=>by
      obtain⟨r0,e1,e2⟩:=hT m t1;rw[h1]at e1
      have:r=r0:=by have:=Option.some.inj e1;omega
      subst this;exact t2 (e2 m' (YA.2 ⟨(hM.on m' r h2).2.1,(hM.on m' r h2).2.2.2⟩))
     rcases Ho A.len hM.len e with⟨t1,h1⟩|⟨t1,h1⟩<;>rcases Ho A.len hM.len e' with⟨t2,h2⟩|⟨t2,h2⟩
     .exact A.one _ _ _ h1 h2
     .exact(mP _ _ t1 h1 t2 h2).elim
     .exact(mP _ _ t2 h2 t1 h1).elim
     .exact hM.one _ _ _ h1 h2
   refine lM (C _ Um) (ZqM (by rw[hM.len];simp[q9]) fun m e=>?_);rcases Ho A.len hM.len e with⟨t1,h1⟩|⟨t1,h1⟩
   .obtain⟨r,e1,_⟩:=hT m t1;rw[h1]at e1
    have:=Option.some.inj e1;omega
   .exact h1
theorem Pk.all {runs:List Int}{r:Nat}:Pk runs runs.length r↔(r:Int)∈runs:=
 ⟨fun⟨i,_,h⟩=>dL h,fun h=>by
  obtain⟨i,hi⟩:=iO.1 h;exact⟨i,(cD.1 hi).1,hi⟩⟩
structure nO (q:Qu)(l:List Int):Prop where
 D0:∀x∈l,0<=x/\x<q.rs.length
 one:∀i j r:Nat,l[i]?=some (r:Int)->l[j]?=some (r:Int)->i=j
theorem Zr3 {q:Qu}(hq:q.ok){h:Int}{l:List Int}(hl:nO q l){M:List Int}(hM:Mt q h (fun r=>(r:Int)∈l) 0 M):4<=q.EM h l+M.count (-1):=by
 obtain⟨_,B,C⟩:=Zh2 hq (h:=h) hl.D0 hl.one l.length (fH _)
 have:=C M (hM.mono fun r hr=>Pk.all.2 hr)
 unfold Qu.EM;omega
theorem Zr2 {q:Qu}(hq:q.ok){h:Int}{l:List Int}(hl:nO q l):∃M,Mt q h (fun r=>(r:Int)∈l) 0 M/\q.EM h l+M.count (-1)=4:=by
 obtain⟨A,B,_⟩:=Zh2 hq (h:=h) hl.D0 hl.one l.length (fH _);exact⟨_,A.mono fun r hr=>Pk.all.1 hr,B⟩
theorem nO.KH {q:Qu}{l:List Int}(h:q.rising l=true):nO q l:=by
 refine⟨Qu.Zxk h,?_⟩;have hs:∀i:Nat,i+1<l.length->∀x y:Int,l[i]?=some x->l[i+1]?=some y->x<y:=fun i hi x y hx hy=>by
  simp only[Qu.rising,rM,List.mem_range]at h
  have:=h (i+1) hi
  simp only[Qu.TS,hx,hy,sE,dK,sD,decide_eq_true_eq,Nat.add_sub_cancel]at this;omega
 have hm:∀d i:Nat,∀x y:Int,l[i]?=some x->l[i+d+1]?=some y->x<y:=by
  intro d;induction d with
  |zero=>exact fun i x y hx hy=>hs i (cD.1 hy).1 x y hx hy
  |succ d ih=>
    intro i x y hx hy;have hl:=(cD.1 hy).1;have hz:l[i+d+1]?=some l[i+d+1]:=bC (by omega);have h1:=ih i x _ hx hz;have h2:=hs (i+d+1) (by omega) _ y hz (by rw[<-hy];congr 1);omega
 intro i j r hi hj;rcases Nat.lt_trichotomy i j with h1|h1|h1
 .obtain⟨d,rfl⟩:∃d,j=i+d+1:=⟨j-i-1,by omega⟩
  have:=hm d i _ _ hi hj
  omega
 .exact h1
 .obtain⟨d,rfl⟩:∃d,i=j+d+1:=⟨i-j-1,by omega⟩
  have:=hm d j _ _ hj hi
  omega
def yA (f:Nat->Bool)(k:Nat):List Int:=((List.range k).filter f).map Int.ofNat
theorem ZkX {f:Nat->Bool}{k:Nat}{x:Int}:x∈yA f k↔∃r:Nat,x=r/\r<k/\f r=true:=by
 unfold yA;rw[iN];constructor
 .rintro⟨r,h,rfl⟩;rw[iZ,List.mem_range]at h;exact⟨r,rfl,h.1,h.2⟩
 .rintro⟨r,rfl,h1,h2⟩;exact⟨r,by rw[iZ,List.mem_range];exact⟨h1,h2⟩,rfl⟩
theorem Zfm {q:Qu}{f:Nat->Bool}:q.rising (yA f q.rs.length)=true:=by
 have hp:(yA f q.rs.length).Pairwise (·<·):=by
  unfold yA;rw[List.pairwise_map];exact(List.pairwise_lt_range.filter _).imp fun h=>by simpa using h
 unfold Qu.rising;rw[rM];intro i hi;rw[List.mem_range]at hi;have hx:(yA f q.rs.length)[i]?=some (yA f q.rs.length)[i]:=bC hi;obtain⟨r,e,hr,_⟩:=ZkX.1 (A2 hi);unfold Qu.TS;rw[hx,sE];simp only[dK,sD,decide_eq_true_eq];refine⟨⟨by omega,by omega⟩,?_⟩;by_cases h0:i=0
 .exact .inl h0
 .right;have hy:(yA f q.rs.length)[i-1]?=some ((yA f q.rs.length)[i-1]'(by omega)):=bC (by omega);rw[hy,sE];exact R3.1 hp (i-1) i (by omega) hi (by omega)
abbrev Row (q:Qu)(h:Nat)(l:List Int):Prop:=Mt q h (fun r=>r<q.rs.length) 0 l
structure LP (q:Qu)(p:List (List Int)):Prop where
 rows:∀(h:Nat) (l:List Int),p[h]?=some l->Row q h l
 len:p.length<=40
theorem LP.pw {q:Qu}{p:List (List Int)}(hp:LP q p):PW q p:=by
 refine⟨fun l hl=>?_,fun l hl x hx=>?_,hp.len⟩
 .obtain⟨h,hh⟩:=iO.1 hl;exact(hp.rows h l hh).len
 .obtain⟨h,hh⟩:=iO.1 hl;have R:=hp.rows h l hh;rcases R.ok x hx with h1|h1
  .exact .inl h1
  .obtain⟨m,hm⟩:=iO.1 hx;obtain⟨r,rfl⟩:∃r:Nat,x=r:=⟨x.toNat,by omega⟩
   have:r<q.rs.length:=(R.on m r hm).2.2.1
   right;omega
theorem Gy {p:List (List Int)}{h m r:Nat}(hw:gJ p h m=(r:Int)):∃l,p[h]?=some l/\l[m]?=some (r:Int):=by
 unfold gJ at hw;cases h1:p[h]? with
 |none=>rw[h1]at hw;simp at hw
 |some l=>
  rw[h1]at hw;simp only[sE]at hw;refine⟨l,rfl,?_⟩;cases h2:l[m]? with
  |none=>rw[h2]at hw;simp at hw
  |some x=>rw[h2]at hw;simp at hw;rw[hw]
theorem Mf {p:List (List Int)}{h m:Nat}{l:List Int}{x:Int}(hl:p[h]?=some l)(hm:l[m]?=some x):gJ p h m=x:=by
 unfold gJ;rw[hl,sE,hm];rfl
theorem Zjd {p:List (List Int)}{h m:Nat}{l:List Int}{x:Int}(hl:p[h]?=some l)(hm:m<l.length)(h' m':Nat):gJ (gA p h m x) h' m'=if h'=h/\m'=m then x else gJ p h' m':=by
 have hh:=(cD.1 hl).1;unfold gJ gA;rw[hl,sE];by_cases e:h'=h
 .subst e;rw[O6 hh,sE,hl,sE];by_cases e2:m'=m
  .subst e2;rw[O6 hm,if_pos ⟨rfl,rfl⟩];rfl
  .rw[List.getElem?_set_ne (fun e'=>e2 e'.symm),if_neg (fun h=>e2 h.2)]
 .rw[List.getElem?_set_ne (fun e'=>e e'.symm),if_neg (fun h=>e h.1)]
theorem ZrH {p:List (List Int)}{r h:Nat}(ho:xK p r h = -1)(m:Nat):gJ p h m≠(r:Int):=fun hw=>by
 obtain⟨l,h1,h2⟩:=Gy hw;unfold xK HS at ho;rw[h1,sE]at ho;cases hf:l.findIdx? (fun x=>decide ((r:Int)=x))with
 |none=>
  rw[List.findIdx?_eq_none_iff]at hf
  have:=hf _ (dL h2)
  simp at this
 |some i=>rw[hf]at ho;simp only at ho;omega
theorem zL {q:Qu}{p:List (List Int)}{r:Nat}{x:Nd}:x∈nx q p (.ru r)↔∃h,h<p.length/\xK p r h = -1/\x=.rh r h:=by
 simp only[nx,XT,V9,iN,iZ,decide_eq_true_eq];rw[fQ (by simp)];constructor
 .rintro⟨h,⟨h1,h2⟩,h3⟩;exact⟨h,by simpa using h1,h2,h3.symm⟩
 .rintro⟨h,h1,h2,h3⟩;exact⟨h,⟨by simpa using h1,h2⟩,h3.symm⟩
theorem vU {q:Qu}{p:List (List Int)}{r h:Nat}{x:Nd}:x∈nx q p (.rh r h)↔(∃m,m<q.ms.length/\q.may r m h=true/\gJ p h m≠(r:Int)/\x=.mh m h)\/(xK p r h≠-1/\x=.ru r):=by
 simp only[nx,KM,jM,sS,iN,iZ];constructor
 .rintro(⟨m,⟨h1,h2⟩,h3⟩|h1)
  .obtain⟨a,b⟩:=YA.1 h1;exact .inl ⟨m,a,b,by simpa using h2,h3.symm⟩
  .split at h1
   .cases h1
   .rename_i ho;exact .inr ⟨ho,by simpa using h1⟩
 .rintro(⟨m,h1,h2,h3,h4⟩|⟨h1,h2⟩)
  .exact .inl ⟨m,⟨YA.2 ⟨h1,h2⟩,by simpa using h3⟩,h4.symm⟩
  .right;rw[if_neg h1];simpa using h2
theorem K1 {q:Qu}{p:List (List Int)}{m h:Nat}{x:Nd}:x∈nx q p (.mh m h)↔x=.rh (gJ p h m).toNat h:=by simp[nx]
abbrev keys (bR:By):List Nd:=bR.map (·.1)
theorem ZpR {bR:By}{n:Nd}(h:(par bR n).isSome=true):n∈keys bR:=by
 unfold par at h;rw[Option.isSome_map,List.find?_isSome]at h;obtain⟨e,he,h2⟩:=h;simp only[decide_eq_true_eq]at h2;exact iN.2 ⟨e,he,h2.symm⟩
structure Grow (s s':By×List Nd):Prop where
 k:∀x∈keys s.1,x∈keys s'.1
 t:∀x∈s.2,x∈s'.2
 n:∀x∈keys s'.1,x∈keys s.1\/x∈s'.2
 i:∀(i:Nat) (e:Nd×Nd),s.1[i]?=some e->s'.1[i]?=some e
theorem Grow.refl (s:By×List Nd):Grow s s:=⟨fun _ h=>h,fun _ h=>h,fun _ h=>.inl h,fun _ _ h=>h⟩
theorem Grow.trans {s s' Jv:By×List Nd}(h:Grow s s')(h':Grow s' Jv):Grow s Jv:=
 ⟨fun x hx=>h'.k x (h.k x hx),fun x hx=>h'.t x (h.t x hx),fun x hx=>by
  rcases h'.n x hx with h1|h1
  .rcases h.n x h1 with h2|h2
   .exact .inl h2
   .exact .inr (h'.t x h2)
  .exact .inr h1,fun i e hi=>h'.i i e (h.i i e hi)⟩
def AA (q:Qu)(p:List (List Int))(run:Nat)(bR:By):Prop:=∀(i:Nat) (e:Nd×Nd),bR[i]?=some e->(i=0/\e=(.ru run,.ru run))\/∃(j:Nat) (b:Nd),j<i/\bR[j]?=some (e.2,b)/\e.1∈nx q p e.2/\tV p e.2=false
theorem Zog {q:Qu}{p:List (List Int)}{run:Nat}{n x:Nd}{s:By×List Nd}(hc:AA q p run s.1)(hn:∃(i:Nat) (b:Nd),s.1[i]?=some (n,b))(hx:x∈nx q p n)(hf:tV p n=false):Grow s (cO n s x)/\AA q p run (cO n s x).1/\x∈keys (cO n s x).1:=by
 unfold cO;split
 .rename_i h1;exact⟨Grow.refl s,hc,ZpR h1⟩
 .have old:∀(j:Nat) (e:Nd×Nd),s.1[j]?=some e->(s.1++[(x,n)])[j]?=some e:=fun j e hj=>by
   rw[List.getElem?_append_left (cD.1 hj).1];exact hj
  refine⟨⟨fun y hy=>?_,fun y hy=>by simp[hy],fun y hy=>?_,old⟩,fun i e hi=>?_,by simp[keys]⟩
  .simp only[keys,mL,sS];exact .inl hy
  .simp only[keys,mL,sS]at hy;rcases hy with hy|hy
   .exact .inl hy
   .simp at hy;subst hy;simp
  .rw[zB]at hi;split at hi
   .rcases hc i e hi with h1|⟨j,b,h1,h2,h3⟩
    .exact .inl h1
    .exact .inr ⟨j,b,h1,old j _ h2,h3⟩
   .rename_i hl;have h0:i-s.1.length=0:=by
     have:=(cD.1 hi).1
     simp at this;omega
    rw[h0]at hi;simp at hi;subst hi;obtain⟨j,b,hj⟩:=hn;exact .inr ⟨j,b,by have:=(cD.1 hj).1;omega,old j _ hj,hx,hf⟩
theorem Zf7 {q:Qu}{p:List (List Int)}{run:Nat}{n:Nd}(hf:tV p n=false):∀(l:List Nd) {s:By×List Nd},AA q p run s.1->(∃(i:Nat) (b:Nd),s.1[i]?=some (n,b))->(∀x∈l,x∈nx q p n)->Grow s (l.foldl (cO n) s)/\AA q p run (l.foldl (cO n) s).1/\∀x∈l,x∈keys (l.foldl (cO n) s).1
 |[],s,hc,_,_=>⟨Grow.refl s,hc,fun x hx=>by cases hx⟩
 |x::l,s,hc,hn,hl=>by
  obtain⟨g1,c1,k1⟩:=Zog hc hn (hl x (by simp)) hf;obtain⟨i,b,hi⟩:=hn;obtain⟨g2,c2,k2⟩:=Zf7 hf l (s:=cO n s x) c1 ⟨i,b,g1.i i _ hi⟩ (fun y hy=>hl y (by simp[hy]));rw[List.foldl_cons];exact⟨g1.trans g2,c2,fun y hy=>by
   rcases jT.1 hy with e|e
   .subst e;exact g2.k _ k1
   .exact k2 y e⟩
structure BX (q:Qu)(p:List (List Int))(run:Nat)(s:By×List Nd):Prop where
 b:BW q p s
 c:AA q p run s.1
 r:.ru run∈keys s.1
 cl:∀n∈keys s.1,n∈s.2\/(tV p n=false/\∀x∈nx q p n,x∈keys s.1)
theorem BX.start {q:Qu}{p:List (List Int)}{run:Nat}(hr:run<q.rs.length):BX q p run ([(.ru run,.ru run)],[.ru run]):=
 ⟨BW.start hr,fun i e hi=>by
  cases i with
  |zero=>simp at hi;subst hi;exact .inl ⟨rfl,rfl⟩
  |succ i=>simp at hi,by simp[keys],fun n hn=>by simp[keys]at hn;subst hn;left;simp⟩
theorem BX.step {q:Qu}(hq:q.ok){p:List (List Int)}(hp:PW q p){run:Nat}{bR:By}{n:Nd}{rest:List Nd}(h:BX q p run (bR,n::rest))(hf:tV p n=false):
  BX q p run ((nx q p n).foldl (cO n) (bR,rest))/\((nx q p n).foldl (cO n) (bR,rest)).2.length+bR.length=rest.length+((nx q p n).foldl (cO n) (bR,rest)).1.length:=by
 obtain⟨i0,b0,H5⟩:=h.b.t n (by simp);have vT:=(h.b.b.ok _ (dL H5)).1;obtain⟨w1,_,w3,_⟩:=BW.Lv (nx q p n) h.b.tail ⟨i0,b0,H5⟩ (CF hq hp vT hf);obtain⟨g,c,k⟩:=Zf7 (run:=run) hf (nx q p n) (s:=(bR,rest)) h.c ⟨i0,b0,H5⟩ (fun x hx=>hx);refine⟨⟨w1,c,g.k _ h.r,fun x hx=>?_⟩,w3⟩;rcases g.n x hx with h1|h1
 .rcases h.cl x h1 with h2|⟨h2,h3⟩
  .rcases jT.1 h2 with e|e
   .subst e;exact .inr ⟨hf,k⟩
   .exact .inl (g.t x e)
  .exact .inr ⟨h2,fun y hy=>g.k y (h3 y hy)⟩
 .exact .inl h1
theorem ZhY {q:Qu}(hq:q.ok){p:List (List Int)}(hp:PW q p){run:Nat}:∀(f:Nat) (bR:By) (todo:List Nd),BX q p run (bR,todo)->todo.length+407<f+bR.length->
  (∃(EF:By) (BP:List Nd) (n:Nd) (i:Nat) (b:Nd),BX q p run (EF,BP)/\EF[i]?=some (n,b)/\tV p n=true/\JT q p f bR todo=some (wW EF EF.length n p))\/(JT q p f bR todo=none/\∃EF:By,BX q p run (EF,[]))
 |0,bR,todo,hB,hF=>by
  have:=hB.b.len hq hp
  simp only at this;omega
 |f+1,bR,[],hB,hF=>.inr ⟨rfl,bR,hB⟩
 |f+1,bR,n::rest,hB,hF=>by
  obtain⟨i0,b0,H5⟩:=hB.b.t n (by simp);rw[JT];by_cases hf:tV p n=true
  .rw[if_pos hf];exact .inl ⟨bR,n::rest,n,i0,b0,hB,H5,hf,rfl⟩
  .rw[if_neg hf];have DN:tV p n=false:=by simpa using hf
   obtain⟨h1,h2⟩:=hB.step hq hp DN;refine ZhY hq hp f _ _ h1 ?_;simp only[pI]at hF;omega
theorem ZjT {p:List (List Int)}{h:Nat}{l l':List Int}(hl:p[h]?=some l)(r:Nat):kR (p.set h l') r+l.count (r:Int)=kR p r+l'.count (r:Int):=by
 induction p generalizing h with
 |nil=>simp at hl
 |cons a p ih=>
  cases h with
  |zero=>simp at hl;subst hl;simp[kR];omega
  |succ h=>
   have h1:=ih (h:=h) (by simpa using hl);simp[kR]at h1 ⊢;omega
theorem XR {p:List (List Int)}{h m:Nat}{l:List Int}{x:Int}(hl:p[h]?=some l):gA p h m x=p.set h (l.set m x):=by unfold gA;rw[hl];rfl
theorem Ou {p:List (List Int)}{h m:Nat}{l:List Int}{x y:Int}(hl:p[h]?=some l)(hm:l[m]?=some y)(r:Nat):kR (gA p h m x) r+(if y=(r:Int)then 1 else 0)=kR p r+(if x=(r:Int)then 1 else 0):=by
 have h1:=ZjT (l':=l.set m x) hl r;have h2:=(Hq (y:=x) hm).count_eq (r:Int);rw[List.count_cons,List.count_cons]at h2;rw[XR hl];simp only[beq_iff_eq]at h2;omega
theorem LP.setRow {q:Qu}{p:List (List Int)}(hp:LP q p){h:Nat}{l':List Int}(hl:h<p.length)(hr:Row q h l'):LP q (p.set h l'):=by
 refine⟨fun k l e=>?_,by simpa using hp.len⟩;rw[List.getElem?_set]at e;split at e
 .rename_i e1;subst e1;first
   |(cases e;exact hr)
   |(rw[if_pos hl]at e;cases e;exact hr)
 .exact hp.rows k l e
theorem Mt.Zya {q:Qu}{h:Int}{P:Nat->Prop}{j:Nat}{w:List Int}(hw:Mt q h P j w){r:Nat}(hr:∀m:Nat,w[m]?≠some (r:Int)):Mt q h (fun x=>P x/\x≠r) j w:=
 ⟨hw.len,hw.ok,fun m x e=>⟨(hw.on m x e).1,(hw.on m x e).2.1,⟨(hw.on m x e).2.2.1,fun e'=>hr m (e'▸e)⟩,(hw.on m x e).2.2.2⟩,hw.one⟩
theorem LP.cut {q:Qu}{p:List (List Int)}(hp:LP q p){h m r:Nat}(hw:gJ p h m=(r:Int)):LP q (gA p h m (-1)):=by
 obtain⟨l,h1,h2⟩:=Gy hw;rw[XR h1];exact hp.setRow (cD.1 h1).1 (((hp.rows h l h1).cut h2).mono fun _ h=>h.1)
theorem LP.put {q:Qu}{p:List (List Int)}(hp:LP q p){h m r:Nat}(hh:h<p.length)(hm:m<q.ms.length)(hr:r<q.rs.length)(hx:q.may r m h=true)(mP:∀m',gJ p h m'≠(r:Int)):LP q (gA p h m r):=by
 have h1:p[h]?=some p[h]:=bC hh;rw[XR h1];refine hp.setRow hh (((hp.rows h _ h1).Zya (r:=r) fun m' e=>mP m' (Mf h1 e)).put (gW _) hm hx hr fun x hx=>⟨hx.1,hx.2⟩)
theorem LP.move {q:Qu}{p:List (List Int)}(hp:LP q p){h m m' r:Nat}(hw:gJ p h m'=(r:Int))(FU:m≠m')(hm:m<q.ms.length)(hx:q.may r m h=true):LP q (gA (gA p h m r) h m' (-1)):=by
 obtain⟨l,h1,h2⟩:=Gy hw;have hh:=(cD.1 h1).1;have e:gA (gA p h m r) h m' (-1)=p.set h ((l.set m' (-1)).set m r):=by
  rw[XR h1,XR (l:=l.set m r) (by rw[O6 hh]),List.set_set,List.set_comm _ _ FU]
 rw[e];have R:=hp.rows h l h1;refine hp.setRow hh ((R.cut h2).put (gW _) hm hx (R.on m' r h2).2.2.1 fun x hx=>⟨hx.1,hx.2⟩)
def CurS (p:List (List Int))(cur:List (List Int)):Nd->Prop
 |.ru r=>∀x,kR cur x=kR p x+(if r=x then 1 else 0)
 |.mh m h=>gJ cur h m = -1/\∀x,kR cur x=kR p x
 |.rh _ _=>False
structure Cur (q:Qu)(p:List (List Int))(bR:By)(i:Nat)(n:Nd)(cur:List (List Int)):Prop where
 lp:LP q cur
 len:cur.length=p.length
 c1:∀h m,gJ cur h m=gJ p h m\/∃k b,i<=k/\bR[k]?=some (Nd.mh m h,b)
 c2:∀h m (r:Nat),gJ cur h m=(r:Int)->gJ p h m=(r:Int)\/∃k b,i<=k/\bR[k]?=some (Nd.rh r h,b)
 st:CurS p cur n
theorem Zl {bR:By}(hn:(bR.map (·.1)).Nodup){i k:Nat}{n b b':Nd}(hi:bR[i]?=some (n,b))(hk:bR[k]?=some (n,b')):i=k:=by
 refine(List.getElem?_inj (l:=bR.map (·.1)) ?_ hn).1 ?_
 .rw[fZ];exact(cD.1 hi).1
 .rw[bY,bY,hi,hk];rfl
theorem Oj {bR:By}{f:Nat}{n b:Nd}{p:List (List Int)}(hp:par bR n=some b)(dA:n≠b):wW bR (f+1) n p=wW bR f b (qZ n b p):=by
 rw[wW,hp];simp only;rw[if_neg dA]
theorem ZqS {bR:By}{f:Nat}{n:Nd}{p:List (List Int)}(hp:par bR n=some n):wW bR f n p=p:=by
 cases f with
 |zero=>rfl
 |succ f=>rw[wW,hp];simp
theorem ZoK {q:Qu}(hq:q.ok){p:List (List Int)}(hp:LP q p){run:Nat}{bR:By}(hB:LN q p bR)(hC:AA q p run bR):∀(i f:Nat) (n b:Nd) (cur:List (List Int)),bR[i]?=some (n,b)->i<=f->Cur q p bR i n cur->
  LP q (wW bR f n cur)/\(wW bR f n cur).length=p.length/\∀x,kR (wW bR f n cur) x=kR p x+(if run=x then 1 else 0):=by
 intro i;induction i using Nat.strongRecOn with
 |_ i ih=>
  intro f n b cur hi hf hc;have lR:=Mi hB.nd hi;simp only at lR;cases n with
  |rh r h=>exact hc.st.elim
  |ru r=>
   rcases hC i _ hi with⟨h0,he⟩|⟨j,b1,hj,DX,iI,E9⟩
   .simp only[Prod.mk.injEq]at he;obtain⟨e1,e2⟩:=he;have e3:r=run:=by injection e1
    subst e3 e2;rw[ZqS lR];exact⟨hc.lp,hc.len,hc.st⟩
   .simp only at DX iI E9;obtain⟨h,rfl,ho⟩:∃h,b=.rh r h/\xK p r h≠-1:=by
     cases b with
     |ru r'=>obtain⟨_,_,_,e⟩:=zL.1 iI;cases e
     |mh m' h'=>cases K1.1 iI
     |rh r' h'=>
      rcases vU.1 iI with⟨_,_,_,_,e⟩|⟨e1,e2⟩
      .cases e
      .injection e2 with e3;subst e3;exact⟨h',rfl,e1⟩
    have M4:=Mi hB.nd DX;simp only at M4;rcases hC j _ DX with⟨_,he⟩|⟨j2,b2,DH,wN,rZ,U3⟩
    .simp at he
    .simp only at wN rZ U3;obtain⟨m,rfl,QG⟩:∃m,b1=.mh m h/\gJ p h m=(r:Int):=by
      cases b1 with
      |ru r'=>obtain⟨h',_,e1,e2⟩:=zL.1 rZ;injection e2 with e3 e4;subst e3 e4;exact absurd e1 ho
      |rh r' h'=>
       rcases vU.1 rZ with⟨_,_,_,_,e⟩|⟨_,e⟩
       .cases e
       .cases e
      |mh m' h'=>
       have e:=K1.1 rZ;injection e with e1 e2;subst e2;have h1:¬gJ p h m' = -1:=by simpa[tV]using U3
       have:=hp.pw.gJ h m'
       exact⟨m',rfl,by omega⟩
     obtain⟨f2,rfl⟩:∃f2,f=f2+1+1:=⟨f-2,by omega⟩;rw[Oj lR (by simp),Oj M4 (by simp)];have okm:=(hB.ok _ (dL wN)).1;have sB:gJ cur h m=(r:Int):=by
      rcases hc.c1 h m with h1|⟨k,b',iC,sP⟩
      .rw[h1];exact QG
      .have:=Zl hB.nd wN sP;omega
     obtain⟨l,pG,rJ⟩:=Gy sB;have T8:=(cD.1 rJ).1;have CR:=Zjd (x:=-1) pG T8;refine ih j2 (by omega) f2 _ b2 _ wN (by omega) ⟨hc.lp.cut sB,by rw[<-hc.len];exact PE,fun h' m'=>?_,fun h' m' r' e=>?_,?_,fun x=>?_⟩
     .show gJ (gA cur h m (-1)) h' m'=_\/_;rw[CR];split
      .rename_i e;obtain⟨rfl,rfl⟩:=e;exact .inr ⟨j2,b2,fH _,wN⟩
      .rcases hc.c1 h' m' with h1|⟨k,b',iC,sP⟩
       .exact .inl h1
       .exact .inr ⟨k,b',by omega,sP⟩
     .have e:gJ (gA cur h m (-1)) h' m'=(r':Int):=e;rw[CR]at e;split at e
      .omega
      .rcases hc.c2 h' m' r' e with h1|⟨k,b',iC,sP⟩
       .exact .inl h1
       .exact .inr ⟨k,b',by omega,sP⟩
     .show gJ (gA cur h m (-1)) h m = -1;rw[CR,if_pos ⟨rfl,rfl⟩]
     .show kR (gA cur h m (-1)) x=kR p x;have h1:=Ou (x:=-1) pG rJ x;have h2:kR cur x=kR p x+(if r=x then 1 else 0):=hc.st x;rw[if_neg (by omega:¬(-1:Int)=(x:Int))]at h1;by_cases e:r=x
      .rw[if_pos e]at h2;rw[if_pos (by omega)]at h1;omega
      .rw[if_neg e]at h2;rw[if_neg (by omega)]at h1;omega
  |mh m h=>
   obtain⟨Cu,DU⟩:gJ cur h m = -1/\∀x,kR cur x=kR p x:=hc.st;rcases hC i _ hi with⟨_,he⟩|⟨j,b1,hj,DX,iI,E9⟩
   .simp at he
   .simp only at DX iI E9;obtain⟨r,rfl,hmN,r9,Sz⟩:∃r,b=.rh r h/\m<q.ms.length/\q.may r m h=true/\gJ p h m≠(r:Int):=by
     cases b with
     |ru r'=>obtain⟨_,_,_,e⟩:=zL.1 iI;cases e
     |mh m' h'=>cases K1.1 iI
     |rh r' h'=>
      rcases vU.1 iI with⟨m',a1,a2,a3,e⟩|⟨_,e2⟩
      .injection e with e3 e4;subst e3 e4;exact⟨r',rfl,a1,a2,a3⟩
      .cases e2
    have Rl:r<q.rs.length/\h<p.length:=(hB.ok _ (dL DX)).1;have M4:=Mi hB.nd DX;simp only at M4;have hh:h<cur.length:=by rw[hc.len];exact Rl.2
    have pG:cur[h]?=some cur[h]:=bC hh;have R:=hc.lp.rows h _ pG;have yQ:m<cur[h].length:=by rw[R.len];have:=hq.m;omega
    have rJ:cur[h][m]?=some (-1):=by
     have e:cur[h][m]?=some cur[h][m]:=bC yQ
     have:=Mf pG e
     rw[Cu]at this;rw[e,<-this]
    have CR:=Zjd (x:=(r:Int)) pG yQ;have mO:∀m':Nat,gJ cur h m'=(r:Int)->gJ p h m'=(r:Int):=fun m' e=>by
     rcases hc.c2 h m' r e with h1|⟨k,b',iC,sP⟩
     .exact h1
     .have:=Zl hB.nd DX sP;omega
    rcases hC j _ DX with⟨_,he⟩|⟨j2,b2,DH,wN,rZ,U3⟩
    .simp at he
    .simp only at wN rZ U3;obtain⟨f2,rfl⟩:∃f2,f=f2+1+1:=⟨f-2,by omega⟩;rw[Oj lR (by simp),Oj M4 (by intro e;cases b1<;>cases e<;>(first|(obtain⟨_,_,_,e⟩:=zL.1 rZ;cases e)|(rcases vU.1 rZ with⟨_,_,_,_,e⟩|⟨_,e⟩<;>cases e)|skip))];cases b1 with
     |rh r' h'=>
      rcases vU.1 rZ with⟨_,_,_,_,e⟩|⟨_,e⟩
      .cases e
      .cases e
     |ru r'=>
      obtain⟨h',_,e1,e2⟩:=zL.1 rZ;injection e2 with e3 e4;subst e3 e4;have mP:∀m',gJ cur h m'≠(r:Int):=fun m' e=>ZrH e1 m' (mO m' e)
      refine ih j2 (by omega) f2 _ b2 _ wN (by omega) ⟨hc.lp.put hh hmN Rl.1 r9 mP,by rw[<-hc.len];exact PE,fun h' m'=>?_,fun h' m' r' e=>?_,fun x=>?_⟩
      .show gJ (gA cur h m r) h' m'=_\/_;rw[CR];split
       .rename_i e;obtain⟨rfl,rfl⟩:=e;exact .inr ⟨i,_,by omega,hi⟩
       .rcases hc.c1 h' m' with h1|⟨k,b',iC,sP⟩
        .exact .inl h1
        .exact .inr ⟨k,b',by omega,sP⟩
      .have e:gJ (gA cur h m r) h' m'=(r':Int):=e;rw[CR]at e;split at e
       .rename_i e';obtain⟨rfl,rfl⟩:=e'
        have:r=r':=by omega
        subst this;exact .inr ⟨j,_,by omega,DX⟩
       .rcases hc.c2 h' m' r' e with h1|⟨k,b',iC,sP⟩
        .exact .inl h1
        .exact .inr ⟨k,b',by omega,sP⟩
      .show kR (gA cur h m r) x=_;have h1:=Ou (x:=(r:Int)) pG rJ x;have h2:=DU x;rw[if_neg (by omega:¬(-1:Int)=(x:Int))]at h1;by_cases e:r=x
       .rw[if_pos e];rw[if_pos (by omega)]at h1;omega
       .rw[if_neg e];rw[if_neg (by omega)]at h1;omega
     |mh m' h'=>
      have e:=K1.1 rZ;injection e with e1 e2;subst e2;have jE:gJ p h m'=(r:Int):=by
       have h1:¬gJ p h m' = -1:=by simpa[tV]using U3
       have:=hp.pw.gJ h m'
       omega
      have sB:gJ cur h m'=(r:Int):=by
       rcases hc.c1 h m' with h1|⟨k,b',iC,sP⟩
       .rw[h1];exact jE
       .have:=Zl hB.nd wN sP;omega
      have FU:m≠m':=fun e=>by subst e;exact Sz jE
      obtain⟨l,k1,k2⟩:=Gy sB;rw[pG]at k1;cases k1;have NC:(gA cur h m r)[h]?=some (cur[h].set m r):=by rw[XR pG,O6 hh]
      have k3:(cur[h].set m (r:Int))[m']?=some (r:Int):=by rw[List.getElem?_set_ne FU];exact k2
      have QF:=Zjd (x:=-1) NC (cD.1 k3).1;refine ih j2 (by omega) f2 _ b2 _ wN (by omega) ⟨hc.lp.move sB FU hmN r9,by rw[<-hc.len];exact PE.trans PE,fun h' m2=>?_,fun h' m2 r' e=>?_,?_,fun x=>?_⟩
      .show gJ (gA (gA cur h m r) h m' (-1)) h' m2=_\/_;rw[QF];split
       .rename_i e;obtain⟨rfl,rfl⟩:=e;exact .inr ⟨j2,_,by omega,wN⟩
       .rw[CR];split
        .rename_i e;obtain⟨rfl,rfl⟩:=e;exact .inr ⟨i,_,by omega,hi⟩
        .rcases hc.c1 h' m2 with h1|⟨k,b',iC,sP⟩
         .exact .inl h1
         .exact .inr ⟨k,b',by omega,sP⟩
      .have e:gJ (gA (gA cur h m r) h m' (-1)) h' m2=(r':Int):=e;rw[QF]at e;split at e
       .omega
       .rw[CR]at e;split at e
        .rename_i e';obtain⟨rfl,rfl⟩:=e'
         have:r=r':=by omega
         subst this;exact .inr ⟨j,_,by omega,DX⟩
        .rcases hc.c2 h' m2 r' e with h1|⟨k,b',iC,sP⟩
         .exact .inl h1
         .exact .inr ⟨k,b',by omega,sP⟩
      .show gJ (gA (gA cur h m r) h m' (-1)) h m' = -1;rw[QF,if_pos ⟨rfl,rfl⟩]
      .show kR (gA (gA cur h m r) h m' (-1)) x=kR p x;have h1:=Ou (x:=(r:Int)) pG rJ x;have h2:=DU x;have h3:=Ou (x:=-1) NC k3 x;rw[if_neg (by omega:¬(-1:Int)=(x:Int))]at h1 h3;omega
theorem Zl6 {F:Nat}(hF:407<F){q:Qu}(hq:q.ok){p p':List (List Int)}(hp:LP q p){run:Nat}(hr:run<q.rs.length)(h:fS F q p run=some p'):LP q p'/\p'.length=p.length/\∀x,kR p' x=kR p x+(if run=x then 1 else 0):=by
 rcases ZhY hq hp.pw F _ _ (BX.start (q:=q) (p:=p) hr) (by simp;omega)with⟨EF,BP,n,i,b,hB,hi,hf,he⟩|⟨he,_⟩
 .unfold fS at h;rw[he]at h;cases h;have yR:=(cD.1 hi).1;cases n with
  |ru r=>cases hf
  |rh r h=>cases hf
  |mh m h=>
   refine ZoK hq hp hB.b.b hB.c i EF.length _ b p hi (by omega) ⟨hp,rfl,fun _ _=>.inl rfl,fun _ _ _ e=>.inl e,by simpa[tV]using hf,fun _=>rfl⟩
 .unfold fS at h;rw[he]at h;cases h
theorem ZnT {l:List Nat}:∀{l':List Nat},l.Nodup->(∀x∈l,x∈l')->l.length<=l'.length:=by
 induction l with
 |nil=>exact fun _ _=>gW _
 |cons a l ih=>
  intro l' hn hs;rw[List.nodup_cons]at hn;have ha:=hs a (by simp);have h1:=ih (l':=l'.erase a) hn.2 fun x hx=>by
   have dA:x≠a:=fun e=>hn.1 (e▸hx)
   exact(List.mem_erase_of_ne dA).2 (hs x (by simp[hx]))
  rw[List.length_erase_of_mem ha]at h1
  have:=List.length_pos_of_mem ha
  rw[pI];omega
theorem ZnU {l l':List Nat}{f:Nat->Nat}(hn:l.Nodup)(hi:∀x∈l,∀y∈l,f x=f y->x=y)(hs:∀x∈l,f x∈l'):l.length<=l'.length:=by
 have h1:(l.map f).Nodup:=by
  rw[EO,List.pairwise_map];refine List.Pairwise.imp_of_mem ?_ (EO.1 hn);exact fun{a b} ha hb dA e=>dA (hi a ha b hb e)
 have:=ZnT (l':=l') h1 (fun x hx=>by
  obtain⟨y,hy,rfl⟩:=iN.1 hx;exact hs y hy)
 simpa using this
theorem Zno (w:List Int):(List.range w.length).map (fun m=>(w[m]?).getD (-1))=w:=by
 apply List.ext_getElem?;intro i;rw[bY];by_cases hi:i<w.length
 .rw[List.getElem?_range hi,bC hi];simp[bC hi]
 .rw[List.getElem?_eq_none (by simp;omega),List.getElem?_eq_none (by omega)];rfl
theorem ZiV (P:Int->Bool)(w:List Int):w.countP P=((List.range w.length).filter fun m=>P ((w[m]?).getD (-1))).length:=by
 conv=>lhs;rw[<-Zno w,List.countP_map,List.countP_eq_length_filter]
 rfl
def busy (x:Int):Bool:=decide (x≠-1)
theorem Zg1 (w:List Int):w.count (-1)+w.countP busy=w.length:=by
 induction w with
 |nil=>rfl
 |cons a w ih=>
  rw[List.count_cons,List.countP_cons,pI];by_cases h:a = -1
  .simp[h,busy]at ih ⊢;omega
  .simp[h,busy]at ih ⊢;omega
def S9 (R:List Int)(l:List Int):Nat:=l.countP fun x=>R.contains x
def O0 (q:Qu)(bR:By):List Int:=yA (fun r=>decide (Nd.ru r∈keys bR)) q.rs.length
theorem He {q:Qu}{bR:By}{r:Nat}:(r:Int)∈O0 q bR↔r<q.rs.length/\Nd.ru r∈keys bR:=by
 unfold O0;rw[ZkX];constructor
 .rintro⟨x,e,h1,h2⟩
  have:r=x:=by omega
  subst this;exact⟨h1,by simpa using h2⟩
 .rintro⟨h1,h2⟩;exact⟨r,rfl,h1,by simpa using h2⟩
theorem Zpz {q:Qu}(hq:q.ok){p:List (List Int)}(hp:LP q p){run:Nat}{bR:By}(hB:BX q p run (bR,[])){h:Nat}{l:List Int}(hl:p[h]?=some l):q.EM h (O0 q bR)<=S9 (O0 q bR) l:=by
 have hh:=(cD.1 hl).1;have Rw:=hp.rows h l hl;have Bs:nO q (O0 q bR):=nO.KH Zfm;obtain⟨M,hM,hM4⟩:=Zr2 hq (h:=h) Bs;have gP:∀n∈keys bR,tV p n=false/\∀x∈nx q p n,x∈keys bR:=fun n hn=>by
  rcases hB.cl n hn with h1|h1
  .cases h1
  .exact h1
 have Rl:∀n∈keys bR,n.ok q p:=fun n hn=>by
  obtain⟨e,he,rfl⟩:=iN.1 hn;exact(hB.b.b.ok e he).1
 have fa:∀r:Nat,Nd.ru r∈keys bR->xK p r h = -1->Nd.rh r h∈keys bR:=fun r hr ho=>(gP _ hr).2 _ (zL.2 ⟨h,hh,ho,rfl⟩)
 have fb:∀r m:Nat,Nd.rh r h∈keys bR->m<q.ms.length->q.may r m h=true->gJ p h m≠(r:Int)->Nd.mh m h∈keys bR:=fun r m hr h1 h2 h3=>(gP _ hr).2 _ (vU.2 (.inl ⟨m,h1,h2,h3,rfl⟩))
 have fc:∀r:Nat,Nd.rh r h∈keys bR->xK p r h≠-1->Nd.ru r∈keys bR:=fun r hr h1=>(gP _ hr).2 _ (vU.2 (.inr ⟨h1,rfl⟩))
 have fd:∀m:Nat,Nd.mh m h∈keys bR->∃r:Nat,gJ p h m=(r:Int)/\Nd.rh r h∈keys bR/\(r:Int)∈O0 q bR:=fun m hm=>by
  obtain⟨f1,f2⟩:=gP _ hm;have h1:¬gJ p h m = -1:=by simpa[tV]using f1
  have h2:=hp.pw.gJ h m;obtain⟨r,hr⟩:∃r:Nat,gJ p h m=r:=⟨(gJ p h m).toNat,by omega⟩;have h3:=f2 _ (K1.2 rfl);rw[hr,A1]at h3;exact⟨r,hr,h3,He.2 ⟨by omega,fc r h3 fun ho=>ZrH ho m hr⟩⟩
 have hcM:=Zg1 M;rw[hM.len]at hcM;have hA:q.EM h (O0 q bR)=M.countP busy:=by omega
 rw[hA,S9,ZiV,ZiV,hM.len,Rw.len];have oX:∀m:Nat,m∈(List.range 4).filter (fun m=>busy ((M[m]?).getD (-1)))->∃r:Nat,M[m]?=some (r:Int)/\m<q.ms.length/\q.may r m h=true/\Nd.ru r∈keys bR/\r<q.rs.length:=fun m hm=>by
  rw[iZ,List.mem_range]at hm;have yQ:m<M.length:=by rw[hM.len];exact hm.1
  have e:M[m]?=some M[m]:=bC yQ;have h1:M[m]≠-1:=by have:=hm.2;rw[e]at this;simpa[busy]using this
  have h2:=hM.ok _ (A2 yQ);obtain⟨r,hr⟩:∃r:Nat,M[m]=r:=⟨M[m].toNat,by omega⟩;rw[hr]at e;obtain⟨_,o2,o3,o4⟩:=hM.on m r e;obtain⟨o5,o6⟩:=He.1 o3;exact⟨r,e,o2,o4,o6,o5⟩
 have tB:∀r:Nat,Nd.ru r∈keys bR->Nd.rh r h∉keys bR->∃i:Nat,(xK p r h).toNat=i/\l[i]?=some (r:Int):=fun r h1 h2=>by
  have ho:xK p r h≠-1:=fun e=>h2 (fa r h1 e)
  unfold xK at ho ⊢;rw[hl,sE]at ho ⊢;rcases ZuN (l:=l) (v:=(r:Int))with e|⟨i,e1,_,e2⟩
  .exact absurd e ho
  .exact⟨i,by rw[e1,A1],e2⟩
 refine ZnU (f:=fun m=>if Nd.rh ((M[m]?).getD (-1)).toNat h∈keys bR then m else(xK p ((M[m]?).getD (-1)).toNat h).toNat) (List.nodup_range.filter _) (fun m1 zQ m2 nK e=>?_) (fun m hm=>?_)
 .obtain⟨r1,a1,a2,a3,a4,_⟩:=oX m1 zQ;obtain⟨r2,b1,b2,b3,b4,_⟩:=oX m2 nK;simp only[a1,b1,sE,A1]at e;have key:∀(m1 m2 r1 r2:Nat),M[m1]?=some (r1:Int)->m1<q.ms.length->q.may r1 m1 h=true->Nd.ru r2∈keys bR->Nd.rh r1 h∈keys bR->Nd.rh r2 h∉keys bR->m1=(xK p r2 h).toNat->False:=fun m1 m2 r1 r2 a1 a2 a3 b4 c1 c2 e=>by
   obtain⟨i,e1,e2⟩:=tB r2 b4 c2;rw[e1]at e;subst e;have hw:=Mf hl e2;by_cases Bs:r2=r1
   .subst Bs;exact c2 c1
   .have:=fb r1 m1 c1 a2 a3 (by rw[hw];omega)
    obtain⟨r3,d1,d2,_⟩:=fd m1 this;rw[hw]at d1
    have:r2=r3:=by omega
    subst this;exact c2 d2
  by_cases c1:Nd.rh r1 h∈keys bR<;>by_cases c2:Nd.rh r2 h∈keys bR
  .rw[if_pos c1,if_pos c2]at e;exact e
  .rw[if_pos c1,if_neg c2]at e;exact(key m1 m2 r1 r2 a1 a2 a3 b4 c1 c2 e).elim
  .rw[if_neg c1,if_pos c2]at e;exact(key m2 m1 r2 r1 b1 b2 b3 a4 c2 c1 e.symm).elim
  .rw[if_neg c1,if_neg c2]at e;obtain⟨i,e1,e2⟩:=tB r1 a4 c1;obtain⟨j,f1,f2⟩:=tB r2 b4 c2;rw[e1,f1]at e;subst e;rw[e2]at f2
   have:r1=r2:=by have:=Option.some.inj f2;omega
   subst this;exact hM.one _ _ _ a1 b1
 .obtain⟨r,a1,a2,a3,a4,a5⟩:=oX m hm;rw[iZ,List.mem_range]at hm ⊢;simp only[a1,sE,A1];split
  .rename_i c1;refine⟨hm.1,?_⟩;have T8:m<l.length:=by rw[Rw.len];exact hm.1
   have e:l[m]?=some l[m]:=bC T8;have hw:=Mf hl e;rw[e,sE,<-hw,jI];by_cases FP:gJ p h m=(r:Int)
   .rw[FP];exact He.2 ⟨a5,a4⟩
   .obtain⟨r3,d1,_,d3⟩:=fd m (fb r m c1 a2 a3 FP);rw[d1];exact d3
  .rename_i c1;obtain⟨i,e1,e2⟩:=tB r a4 c1;rw[e1,e2,sE,jI];refine⟨by rw[<-Rw.len];exact(cD.1 e2).1,He.2 ⟨a5,a4⟩⟩
def J3 (R:List Int)(p:List (List Int)):Nat:=(p.map (S9 R)).sum
theorem nO.nodup {q:Qu}{R:List Int}(h:nO q R):R.Nodup:=by
 rw[EO,R3];intro i j hi hj RP e;have hx:=h.D0 R[i] (A2 hi);obtain⟨r,hr⟩:∃r:Nat,R[i]=r:=⟨R[i].toNat,by omega⟩
 have:=h.one i j r (by rw[bC hi,hr]) (by rw[bC hj,<-e,hr])
 omega
theorem Zqp {a:Int}{R:List Int}(ha:a∉R)(l:List Int):S9 (a::R) l=l.count a+S9 R l:=by
 unfold S9;induction l with
 |nil=>rfl
 |cons x l ih=>
  rw[List.countP_cons,List.countP_cons,List.count_cons,ih];by_cases e:x=a
  .subst e;have h1:R.contains x=false:=by
    rw[Bool.eq_false_iff];intro h;exact ha (jI.1 h)
   simp[ha];omega
  .have h1:(a::R).contains x=R.contains x:=by
    rw[List.contains_cons]
    have:(x==a)=false:=by simpa using e
    rw[this,Bool.false_or]
   have h2:(x==a)=false:=by simpa using e
   rw[h1,h2];simp only[Bool.false_eq_true,if_false];omega
theorem ZtD {R:List Int}(hn:R.Nodup)(l:List Int):S9 R l=(R.map fun x=>l.count x).sum:=by
 induction R with
 |nil=>unfold S9;simp
 |cons a R ih=>
  rw[List.nodup_cons]at hn;rw[Zqp hn.1,iS,List.sum_cons,ih hn.2]
theorem ZmD (R:List Int)(f g:Int->Nat):(R.map fun x=>f x+g x).sum=(R.map f).sum+(R.map g).sum:=by
 induction R with
 |nil=>rfl
 |cons a R ih=>simp only[iS,List.sum_cons,ih];omega
theorem Gx {R:List Int}(hn:R.Nodup)(h0:∀x∈R,0<=x):∀p:List (List Int),J3 R p=(R.map fun x=>kR p x.toNat).sum
 |[]=>by
  have:∀R:List Int,(R.map fun x=>kR [] x.toNat).sum=0:=fun R=>by
   induction R with
   |nil=>rfl
   |cons a R ih=>rw[iS,List.sum_cons,ih];rfl
  rw[this];rfl
 |l::p=>by
  have h1:J3 R (l::p)=S9 R l+J3 R p:=by unfold J3;rw[iS,List.sum_cons]
  have h2:(R.map fun x=>kR (l::p) x.toNat)=R.map fun x=>l.count x+kR p x.toNat:=by
   refine List.map_congr_left fun x hx=>?_
   have:=h0 x hx
   unfold kR;rw[iS,List.sum_cons,Int.toNat_of_nonneg this]
  rw[h1,h2,ZmD,Gx hn h0 p,ZtD hn]
theorem ZkF {q:Qu}{R:List Int}{p:List (List Int)}(h:∀(k:Nat) (l:List Int),p[k]?=some l->q.EM k R<=S9 R l):∀k,k<=p.length->q.BA R k<=J3 R (p.take k)
 |0,_=>gW _
 |k+1,hk=>by
  have e:p[k]?=some p[k]:=bC (by omega);have h1:=ZkF h k (by omega);have h2:=h k _ e;have h3:J3 R (p.take (k+1))=J3 R (p.take k)+S9 R p[k]:=by unfold J3;rw[OY e,mL,List.sum_append];simp
  show q.BA R k+q.EM k R<=_;omega
theorem Zkl {q:Qu}{R:List Int}{p:List (List Int)}(h:∀(k:Nat) (l:List Int),p[k]?=some l->S9 R l<=q.EM k R):∀k,k<=p.length->J3 R (p.take k)<=q.BA R k
 |0,_=>by simp[J3]
 |k+1,hk=>by
  have e:p[k]?=some p[k]:=bC (by omega);have h1:=Zkl h k (by omega);have h2:=h k _ e;have h3:J3 R (p.take (k+1))=J3 R (p.take k)+S9 R p[k]:=by unfold J3;rw[OY e,mL,List.sum_append];simp
  show _<=q.BA R k+q.EM k R;omega
theorem LP.ZxT {q:Qu}(hq:q.ok){p:List (List Int)}(hp:LP q p){R:List Int}(hR:nO q R):J3 R p<=q.BA R p.length:=by
 have:=Zkl (q:=q) (R:=R) (p:=p) (fun k l hl=>by
  have Rw:=hp.rows k l hl;have hg:∀(m:Nat) (x:Int),(l.map fun x=>if R.contains x=true then x else -1)[m]?=some x->∃y,l[m]?=some y/\((R.contains y=true/\x=y)\/(R.contains y=false/\x = -1)):=fun m x e=>by
   rw[bY,eB]at e;obtain⟨y,h1,h2⟩:=e;refine⟨y,h1,?_⟩;split at h2
   .rename_i hc;exact .inl ⟨hc,h2.symm⟩
   .rename_i hc;exact .inr ⟨by simpa using hc,h2.symm⟩
  have hM:Mt q k (fun r=>(r:Int)∈R) 0 (l.map fun x=>if R.contains x=true then x else -1):=by
   refine⟨by simpa using Rw.len,fun x hx=>?_,fun m r e=>?_,fun m m' r e e'=>?_⟩
   .obtain⟨m,hm⟩:=iO.1 hx;obtain⟨y,h1,h2⟩:=hg m x hm;rcases h2 with⟨_,rfl⟩|⟨_,rfl⟩
    .exact Rw.ok _ (dL h1)
    .exact .inl rfl
   .obtain⟨y,h1,h2⟩:=hg m r e;rcases h2 with⟨h2,rfl⟩|⟨_,h2⟩
    .obtain⟨o1,o2,o3,o4⟩:=Rw.on m r h1;exact⟨o1,o2,jI.1 h2,o4⟩
    .omega
   .obtain⟨y,h1,h2⟩:=hg m r e;obtain⟨y',I0,uK⟩:=hg m' r e';rcases h2 with⟨_,rfl⟩|⟨_,h2⟩
    .rcases uK with⟨_,rfl⟩|⟨_,uK⟩
     .exact Rw.one _ _ _ h1 I0
     .omega
    .omega
  have h1:=Zr3 hq hR hM;have h2:=Zg1 (l.map fun x=>if R.contains x=true then x else -1);rw[hM.len,List.countP_map]at h2;have h3:l.countP (busy∘fun x=>if R.contains x=true then x else -1)=S9 R l:=by
   unfold S9;refine List.countP_congr fun x _=>?_
   simp only[Function.comp,busy];rw[decide_eq_true_eq];by_cases hc:R.contains x=true
   .have:=hR.D0 x (jI.1 hc)
    simp only[hc,iff_true,if_true];omega
   .simp only[hc];simp
  rw[h3]at h2
  omega) p.length (fH _)
 rwa [nD]at this
def xH (q:Qu)(p:List (List Int))(r:Nat):Prop:=∃R,q.rising R=true/\(r:Int)∈R/\q.BA R p.length<=J3 R p
theorem Zl7 {F:Nat}(hF:407<F){q:Qu}(hq:q.ok){p:List (List Int)}(hp:LP q p){run:Nat}(hr:run<q.rs.length)(h:fS F q p run=none):xH q p run:=by
 rcases ZhY hq hp.pw F _ _ (BX.start (q:=q) (p:=p) hr) (by simp;omega)with⟨EF,BP,n,i,b,hB,hi,hf,he⟩|⟨_,EF,hB⟩
 .unfold fS at h;rw[he]at h;cases h
 .refine⟨O0 q EF,Zfm,He.2 ⟨hr,hB.r⟩,?_⟩
  have:=ZkF (fun k l hl=>Zpz hq hp hB hl) p.length (fH _)
  rwa [nD]at this
theorem Zpb {R:List Int}(hn:R.Nodup)(h0:∀x∈R,0<=x){p p':List (List Int)}(h:∀x,kR p x<=kR p' x):J3 R p<=J3 R p':=by
 rw[Gx hn h0,Gx hn h0];clear hn h0;induction R with
 |nil=>exact fH _
 |cons a R ih=>simp only[iS,List.sum_cons];have:=h a.toNat;omega
theorem xH.mono {q:Qu}{p p':List (List Int)}{r:Nat}(h:xH q p r)(hl:p'.length=p.length)(hc:∀x,kR p x<=kR p' x):xH q p' r:=by
 obtain⟨R,h1,h2,h3⟩:=h;have hR:=nO.KH h1;exact⟨R,h1,h2,by rw[hl];exact lM h3 (Zpb hR.nodup (fun x hx=>(hR.D0 x hx).1) hc)⟩
theorem Zgg {F:Nat}(hF:407<F){q:Qu}(hq:q.ok):∀(l:List Nat) (p:List (List Int)),LP q p->(∀r∈l,r<q.rs.length)->
  LP q (fG F q p l).1/\(fG F q p l).1.length=p.length/\(∀x,kR (fG F q p l).1 x+(fG F q p l).2.count x=kR p x+l.count x)/\(∀x,kR p x<=kR (fG F q p l).1 x)/\(∀r∈(fG F q p l).2,r∈l/\xH q (fG F q p l).1 r)
 |[],p,hp,_=>⟨hp,rfl,fun _=>rfl,fun _=>fH _,fun r hr=>by cases hr⟩
 |r::l,p,hp,hl=>by
  have lL:∀x∈l,x<q.rs.length:=fun x hx=>hl x (by simp[hx])
  have hr:=hl r (by simp);unfold fG;cases hg:fS F q p r with
  |some p'=>
   obtain⟨g1,g2,g3⟩:=Zl6 hF hq hp hr hg;obtain⟨k1,k2,k3,k4,k5⟩:=Zgg hF hq l p' g1 lL;refine⟨k1,k2.trans g2,fun x=>?_,fun x=>lM (by rw[g3];omega) (k4 x),fun y hy=>⟨by simp[(k5 y hy).1],(k5 y hy).2⟩⟩;simp only;rw[k3,g3,List.count_cons];by_cases e:r=x
   .simp[e];omega
   .simp[e]
  |none=>
   have bS:=Zl7 hF hq hp hr hg;obtain⟨k1,k2,k3,k4,k5⟩:=Zgg hF hq l p hp lL;refine⟨k1,k2,fun x=>?_,k4,fun y hy=>?_⟩
   .simp only;rw[List.count_cons,List.count_cons,<-Nat.add_assoc,k3,Nat.add_assoc]
   .simp only at hy ⊢;rcases jT.1 hy with e|e
    .subst e;exact⟨by simp,bS.mono k2 k4⟩
    .exact⟨by simp[(k5 y e).1],(k5 y e).2⟩
def tJ (q:Qu)(T:Nat):Prop:=∃R,q.rising R=true/\(q.BA R T:Int)<q.sU R
def UT (q:Qu)(p:List (List Int)):Prop:=∀x,x<q.rs.length->(kR p x:Int)=(q.run x).hours
theorem Zix {q:Qu}{R:List Int}(h0:∀x∈R,0<=x/\x<q.rs.length){f:Nat->Nat}(hf:∀x,x<q.rs.length->(f x:Int)=(q.run x).hours):q.sU R=((R.map fun x=>f x.toNat).sum:Nat):=by
 unfold Qu.sU;induction R with
 |nil=>rfl
 |cons a R ih=>
  rw[iS,List.sum_cons,iS,List.sum_cons,ih fun x hx=>h0 x (by simp[hx])];have ha:=h0 a (by simp);have h1:=hf a.toNat (by omega);have h2:q.uF a=(q.run a.toNat).hours:=by unfold Qu.uF Qu.run;cases q.rs[a.toNat]?<;>rfl
  rw[h2,<-h1];omega
theorem ZlQ {q:Qu}{p:List (List Int)}{l:List Nat}{r:Nat}(hs:xH q p r)(hr:r∈l)(hc:∀x,x<q.rs.length->((kR p x+l.count x:Nat):Int)=(q.run x).hours):tJ q p.length:=by
 obtain⟨R,h1,h2,h3⟩:=hs;have hR:=nO.KH h1;refine⟨R,h1,?_⟩;rw[Zix hR.D0 hc,ZmD R (fun x=>kR p x.toNat) (fun x=>l.count x.toNat),<-Gx hR.nodup fun x hx=>(hR.D0 x hx).1];have h4:1<=(R.map fun x=>l.count x.toNat).sum:=by
  clear h1 h3 hR hc;induction R with
  |nil=>cases h2
  |cons a R ih=>
   rw[iS,List.sum_cons];rcases jT.1 h2 with e|e
   .subst e
    have:1<=l.count r:=List.count_pos_iff.2 hr
    rw[A1];omega
   .have:=ih e;omega
 omega
theorem LP.nil {q:Qu}:LP q []:=⟨fun h l e=>by simp at e,by simp⟩
theorem LP.more {q:Qu}{p:List (List Int)}(hp:LP q p)(hl:p.length<40):LP q (p++[fD]):=by
 refine⟨fun h l e=>?_,by simp;omega⟩;rw[zB]at e;split at e
 .exact hp.rows h l e
 .have h0:h-p.length=0:=by
   have:=(cD.1 e).1
   simp at this;omega
  rw[h0]at e;simp at e;subst e;exact Mt.idle
theorem ZqL {p:List (List Int)}{x:Nat}:kR (p++[fD]) x=kR p x:=by
 rw[Mz,Zt0]
 have:fD.count (x:Int)=0:=List.count_eq_zero.2 fun h=>by simp[fD]at h
 rw[this];rfl
theorem ZiC {F:Nat}(hF:407<F){q:Qu}(hq:q.ok):∀(n:Nat) (p:List (List Int)) (l:List Nat),LP q p->(∀r∈l,r<q.rs.length)->(∀x,x<q.rs.length->((kR p x+l.count x:Nat):Int)=(q.run x).hours)->(∀r∈l,xH q p r)->(p.length=0\/tJ q (p.length-1))->p.length+n=41->
  (∃p',uD F q n p l=some p'/\LP q p'/\UT q p'/\(p'.length=0\/tJ q (p'.length-1)))\/(uD F q n p l=none/\tJ q 40)
 |n,p,[],hp,_,hc,_,hL,_=>.inl ⟨p,by cases n<;>rfl,hp,fun x hx=>by have:=hc x hx;simpa using this,hL⟩
 |0,p,r::l,hp,_,_,_,_,hn=>by have:=hp.len;omega
 |n+1,p,r::l,hp,hl,hc,hs,hL,hn=>by
  have hk:=ZlQ (hs r (by simp)) (by simp) hc;unfold uD;split
  .rename_i SS;rw[SS]at hk;exact .inr ⟨rfl,hk⟩
  .rename_i SS;have h1:=hp.len;obtain⟨k1,k2,k3,_,k5⟩:=Zgg hF hq (r::l) _ (hp.more (by omega)) hl;have e:(p++[fD]).length=p.length+1:=by simp
   rw[e]at k2;refine ZiC hF hq n _ _ k1 (fun x hx=>hl x (k5 x hx).1) (fun x hx=>?_) (fun x hx=>(k5 x hx).2) (.inr ?_) (by omega)
   .rw[k3,ZqL];exact hc x hx
   .rw[k2,Nat.add_sub_cancel];exact hk
theorem Zfd {q:Qu}{x:Nat}:∀k,((List.range k).flatMap fun i=>List.replicate (q.run i).hours.toNat i).count x=if x<k then(q.run x).hours.toNat else 0
 |0=>rfl
 |k+1=>by
  rw[List.range_succ,List.flatMap_append,List.count_append,Zfd k];simp only[List.flatMap_cons,List.flatMap_nil,xC,List.count_replicate];by_cases e:k=x
  .subst e;simp
  .have:(k==x)=false:=by simpa using e
   rw[this];by_cases h:x<k
   .have h':x<k+1:=by omega
    simp[h,h']
   .have h':¬x<k+1:=fun h'=>h (by omega)
    simp[h,h']
theorem K3 {F:Nat}(hF:407<F){q:Qu}(hq:q.ok):(∃p,q.EV F=some p/\LP q p/\UT q p/\(p.length=0\/tJ q (p.length-1)))\/(q.EV F=none/\tJ q 40):=by
 refine ZiC hF hq 41 [] q.KE LP.nil oJ (fun x hx=>?_) (fun r hr=>?_) (.inl rfl) rfl
 .have h1:q.KE.count x=_:=Zfd (q:=q) (x:=x) q.rs.length;rw[h1,if_pos hx];have h2:kR [] x=0:=rfl;have rX:q.rs[x]?=some q.rs[x]:=bC hx;have h3:=(hq.h _ (A2 hx)).1;have h4:q.run x=q.rs[x]:=by unfold Qu.run;rw[rX];rfl
  rw[h2,h4];omega
 .have wI:=oJ r hr;refine⟨[(r:Int)],?_,by simp,gW _⟩;simp[Qu.rising,Qu.TS];omega
theorem tJ.no {q:Qu}(hq:q.ok){p:List (List Int)}(hp:LP q p)(hd:UT q p):¬tJ q p.length:=by
 rintro⟨R,h1,h2⟩;have hR:=nO.KH h1;have h3:=hp.ZxT hq hR;rw[Gx hR.nodup fun x hx=>(hR.D0 x hx).1]at h3;rw[Zix hR.D0 hd]at h2;omega

def fC (rec:Nat->List (List Int)):Nat->Nat->List (List Int)
 |0,_=>[]
 |f+1,k=>rec k++fC rec f (k+1)
def vG (n:Nat):Nat->List Int->Nat->List (List Int)
 |0,B,_=>[B]
 |m+1,B,next=>fC (fun k=>vG n m (B++[(k:Int)]) (k+1)) (n-next) next
def yX (n:Nat):List (List Int):=fC (fun k=>vG n k [] 0) n 1
def LL (n:Nat):Nat->List Int->Prop
 |_,[]=>True
 |next,y::s=>∃k:Nat,y=(k:Int)/\next<=k/\k<n/\LL n (k+1) s
theorem ZfD {rec:Nat->List (List Int)}{x:List Int}:∀(f k:Nat),x∈fC rec f k↔∃i,k<=i/\i<k+f/\x∈rec i
 |0,k=>by
  constructor
  .intro h;cases h
  .rintro⟨i,h1,h2,_⟩;omega
 |f+1,k=>by
  unfold fC;rw[sS,ZfD f (k+1)];constructor
  .rintro(h|⟨i,h1,h2,h3⟩)
   .exact⟨k,fH _,by omega,h⟩
   .exact⟨i,by omega,by omega,h3⟩
  .rintro⟨i,h1,h2,h3⟩;by_cases e:i=k
   .subst e;exact .inl h3
   .exact .inr ⟨i,by omega,by omega,h3⟩
theorem Pw {n:Nat}{x:List Int}:∀(m:Nat) (B:List Int) (next:Nat),x∈vG n m B next↔∃s,x=B++s/\s.length=m/\LL n next s
 |0,B,next=>by
  show x∈[B]↔_;rw[sG];constructor
  .rintro rfl;exact⟨[],by simp,rfl,trivial⟩
  .rintro⟨s,h1,h2,_⟩;rw[List.length_eq_zero_iff.1 h2]at h1;simpa using h1
 |m+1,B,next=>by
  show x∈fC _ _ _↔_;rw[ZfD];constructor
  .rintro⟨k,h1,h2,h3⟩;obtain⟨s,e1,e2,e3⟩:=(Pw m _ _).1 h3;exact⟨(k:Int)::s,by rw[e1];simp,by simp[e2],k,rfl,h1,by omega,e3⟩
  .rintro⟨s,e1,e2,e3⟩;cases s with
   |nil=>cases e2
   |cons y s=>
    obtain⟨k,rfl,k1,k2,k3⟩:=e3;exact⟨k,k1,by omega,(Pw m _ _).2 ⟨s,by rw[e1];simp,by simpa using e2,k3⟩⟩
theorem LL.inc {n:Nat}:∀{next:Nat} {s:List Int},LL n next s->s.Pairwise (·<·)/\∀x∈s,(next:Int)<=x/\x<n
 |next,[],_=>⟨List.Pairwise.nil,fun x hx=>by cases hx⟩
 |next,y::s,⟨k,e,h1,h2,h3⟩=>by
  subst e;obtain⟨a,b⟩:=LL.inc h3;refine⟨I1.2 ⟨fun x hx=>by have:=b x hx;omega,a⟩,fun x hx=>?_⟩;rcases jT.1 hx with e|e
  .subst e;omega
  .have:=b x e;omega
theorem LL.of {n:Nat}:∀{next:Nat} {s:List Int},s.Pairwise (·<·)->(∀x∈s,(next:Int)<=x/\x<n)->LL n next s
 |next,[],_,_=>trivial
 |next,y::s,h1,h2=>by
  rw[I1]at h1;have hy:=h2 y (by simp);refine⟨y.toNat,by omega,by omega,by omega,LL.of h1.2 fun x hx=>?_⟩
  have:=h1.1 x hx
  have:=h2 x (by simp[hx])
  omega
theorem Zng {q:Qu}{l:List Int}(hp:l.Pairwise (·<·))(gB:∀x∈l,0<=x/\x<q.rs.length):q.rising l=true:=by
 unfold Qu.rising;rw[rM];intro i hi;rw[List.mem_range]at hi;have hx:l[i]?=some l[i]:=bC hi;have hr:=gB _ (A2 hi);unfold Qu.TS;rw[hx,sE];simp only[dK,sD,decide_eq_true_eq];refine⟨⟨by omega,by omega⟩,?_⟩;by_cases h0:i=0
 .exact .inl h0
 .right;have hy:l[i-1]?=some (l[i-1]'(by omega)):=bC (by omega);rw[hy,sE];exact R3.1 hp (i-1) i (by omega) hi (by omega)
theorem qQ {q:Qu}{l:List Int}(h:q.rising l=true):l.Pairwise (·<·):=by
 have hs:∀i:Nat,i+1<l.length->∀x y:Int,l[i]?=some x->l[i+1]?=some y->x<y:=fun i hi x y hx hy=>by
  simp only[Qu.rising,rM,List.mem_range]at h
  have:=h (i+1) hi
  simp only[Qu.TS,hx,hy,sE,dK,sD,decide_eq_true_eq,Nat.add_sub_cancel]at this;omega
 have hm:∀d i:Nat,∀x y:Int,l[i]?=some x->l[i+d+1]?=some y->x<y:=by
  intro d;induction d with
  |zero=>exact fun i x y hx hy=>hs i (cD.1 hy).1 x y hx hy
  |succ d ih=>
    intro i x y hx hy;have hl:=(cD.1 hy).1;have hz:l[i+d+1]?=some l[i+d+1]:=bC (by omega);have h1:=ih i x _ hx hz;have h2:=hs (i+d+1) (by omega) _ y hz (by rw[<-hy];congr 1);omega
 rw[R3];intro i j hi hj RP;obtain⟨d,rfl⟩:∃d,j=i+d+1:=⟨j-i-1,by omega⟩;exact hm d i _ _ (bC hi) (bC hj)
theorem vZ {q:Qu}{x:List Int}:x∈yX q.rs.length↔q.rising x=true/\x≠[]:=by
 unfold yX;rw[ZfD];constructor
 .rintro⟨k,h1,_,h3⟩;obtain⟨s,e1,e2,e3⟩:=(Pw k _ _).1 h3;rw[List.nil_append]at e1;subst e1;obtain⟨a,b⟩:=e3.inc;exact⟨Zng a fun y hy=>by have:=b y hy;omega,fun e=>by subst e;simp at e2;omega⟩
 .rintro⟨h1,h2⟩;have hl:x.length<=q.rs.length:=by
   have hR:=nO.KH h1
   have:=oO q.rs.length (x.map Int.toNat) (by
    rw[EO,List.pairwise_map];refine List.Pairwise.imp_of_mem ?_ (qQ h1);intro a b ha hb aI e
    have:=hR.D0 a ha
    have:=hR.D0 b hb
    omega) (fun y hy=>by
    obtain⟨z,hz,rfl⟩:=iN.1 hy
    have:=hR.D0 z hz
    omega)
   simpa using this
  have h0:0<x.length:=List.length_pos_iff.2 h2;exact⟨x.length,by omega,by omega,(Pw _ _ _).2 ⟨x,by simp,rfl,LL.of (qQ h1) fun y hy=>by have:=(nO.KH h1).D0 y hy;omega⟩⟩
theorem ZeB {rec:Nat->List (List Int)}:∀(f k:Nat),fC rec (f+1) k=fC rec f k++rec (k+f)
 |0,k=>by simp[fC]
 |f+1,k=>by
  have ih:=ZeB (rec:=rec) f (k+1);have e1:fC rec (f+1+1) k=rec k++fC rec (f+1) (k+1):=rfl;have e2:fC rec (f+1) k=rec k++fC rec f (k+1):=rfl;rw[e1,e2,ih,I3,show k+1+f=k+(f+1) by omega]
theorem ZfM {n:Nat}{rec:Nat->List (List Int)}(h:∀k,k<n->(rec k).length<=2^(n-(k+1))):∀(f k:Nat),k+f<=n->(fC rec f k).length+2^(n-(k+f))<=2^(n-k)
 |0,k,_=>by simp[fC]
 |f+1,k,hk=>by
  have ih:=ZfM h f (k+1) (by omega);have h1:=h k (by omega);have e1:fC rec (f+1) k=rec k++fC rec f (k+1):=rfl;rw[e1,gF];rw[show k+1+f=k+(f+1) by omega]at ih
  have:2^(n-k)=2^(n-(k+1))+2^(n-(k+1)):=by
   rw[show n-k=n-(k+1)+1 by omega,Nat.pow_succ];omega
  omega
theorem YG {n:Nat}:∀(m:Nat) (B:List Int) (next:Nat),next<=n->(vG n m B next).length<=2^(n-next)
 |0,B,next,_=>Nat.one_le_two_pow
 |m+1,B,next,hx=>by
  have:=ZfM (n:=n) (rec:=fun k=>vG n m (B++[(k:Int)]) (k+1)) (fun k hk=>YG m _ _ (by omega)) (n-next) next (by omega)
  exact lM (Nat.le_add_right _ _) this
def Ly (q:Qu)(m:Nat):Prop:=∀(B:List Int) (next:Nat),B.length+m<=1000->next<=q.rs.length->cU prog 161 ([q.pv,bT B,.i next,.i m].map .pv) [] (fun r Bx=>r=.pv (eH (vG q.rs.length m B next))/\Bx=[])
theorem Ztt (q:Qu):Ly q 0:=by
 intro B next hB _;refine cF [.loc 16 0] L161 ?_;have tE:B.length<=1000000:=by omega
 have htB:List.take B.length (List.map aO B)=List.map aO B:=fQ (by simp);simp[L161,Qu.pv,bT,eH,vG,aN,tE,htB]
def Kb (q:Qu)(m:Nat)(B:List Int)(k:Nat)(acc:List (List Int)):AS:=⟨[(1,.pv (bT B)),(3,.pv (.i (m+1:Nat))),(4,.ptr (.loc 4 0) 0),(9,.vec (.loc 38 0) 1 0 acc.length),(10,.pv (.i k))],[(.loc 38 0,.arr 32 1 (acc.map bT)),(.loc 4 0,.cells q.cells)]⟩
def lsJ (q:Qu)(m:Nat)(B:List Int)(k:Nat)(acc:List (List Int)):AS:=⟨[(25,.vec (.loc 38 0) 1 0 acc.length),(26,.pv q.pv),(32,.vec (.loc 32 0) 1 0 (B.length+1)),(34,.pv (.i (k+1:Nat))),(36,.pv (.i m)),(1,.pv (bT B)),(3,.pv (.i (m+1:Nat))),(4,.ptr (.loc 4 0) 0),(10,.pv (.i k))],
 [(.loc 32 0,.arr 3 1 ((B++[(k:Int)]).map aO)),(.loc 38 0,.arr 32 1 (acc.map bT)),(.loc 4 0,.cells q.cells)]⟩
theorem Zts (q:Qu)(hr:q.rs.length<=6)(m:Nat)(ih:Ly q m):Ly q (m+1):=by
 intro B next hB eK;refine Q6 [.loc 38 0] L161 ?_;intro R hR;have hm0:¬((m:Int)+1=0):=by omega
 have QG:IntKind.i64.wrap (m:Int)=(m:Int):=wrap64 (by omega);have htB:List.take B.length (List.map aO B)=List.map aO B:=fQ (by simp);simp[L161,Qu.pv,hm0];refine eP (fun n τ=>∃f:Nat,next+f<=q.rs.length/\n=q.rs.length-(next+f)/\τ=Kb q m B (next+f) (fC (fun k=>vG q.rs.length m (B++[(k:Int)]) (k+1)) f next))
  ⟨q.rs.length-(next+0),Kb q m B next [],Sub.trans' (Sub.mk (by simp[AS.cW]) (by simp[AS.cW,Qu.cells])) (cW 38 32 1 9 rfl (by decide)),0,by omega,rfl,rfl⟩ ?_
 rintro J hJ n τ ⟨f,hf,rfl,rfl⟩;obtain⟨k,hk⟩:∃k,next+f=k:=⟨_,rfl⟩;rw[hk];rw[hk]at hf;by_cases aI:k<q.rs.length
 .have aB:=hJ _ _ ⟨f+1,by omega,rfl,rfl⟩;rw[ZeB,show next+(f+1)=k+1 by omega,hk]at aB;have hw:=jK (k:=k) (by omega);have aH:q.rs.length-(k+1)<q.rs.length-k:=by omega
  have hC:=ih (B++[(k:Int)]) (k+1) (by simp;omega) (by omega);have hlen:=YG (n:=q.rs.length) (m+1) B next eK;have uI:=ZfM (n:=q.rs.length) (rec:=fun k=>vG q.rs.length m (B++[(k:Int)]) (k+1)) (fun k hk=>YG m _ _ (by omega)) f next (by omega);have hpow:2^(q.rs.length-next)<=2^6:=Nat.pow_le_pow_right (by decide) (by omega);have zS:=YG (n:=q.rs.length) m (B++[(k:Int)]) (k+1) (by omega);have hpow2:2^(q.rs.length-(k+1))<=2^6:=Nat.pow_le_pow_right (by decide) (by omega);have haccl:=lM (Nat.le_add_right _ _) uI;clear hJ hlen ih uI;generalize vG q.rs.length m (B++[(k:Int)]) (k+1)=new at *;generalize fC (fun k=>vG q.rs.length m (B++[(k:Int)]) (k+1)) f next=acc at *;have tE:B.length<=1000000:=by omega
  have nS:B.length+1<=1000000:=by omega
  have SC:B.length<=999999:=by omega
  have NR:acc.length+new.length<=1000000:=by omega
  simp[Kb,Qu.cells,aI,hw,QG];refine KP (lsJ q m B k acc) ?_ ?_
  .simp[gL,gS,aN,tE,nS,bT]
   repeat' (with_reducible refine And.intro ?_ ?_)
   all_goals
    refine Sub.mk ?_ ?_
    .simp[bT,Qu.pv]
    .simp[aO,Qu.cells]
  .have hTT:List.take (B.length+1) ((B++[(k:Int)]).map aO)=(B++[(k:Int)]).map aO:=fQ (by simp);have hTl:((B++[(k:Int)]).map aO).length=B.length+1:=by simp
   simp[-List.map_append,gL,gS,lsJ,Qu.cells];refine .inl (cP [.loc 32 0] [q.pv,bT (B++[(k:Int)]),.i (k+1:Nat),.i m] rfl ?_ hC ?_)
   .simp[-List.map_append,aL,bT,hTT]
   simp[-List.map_append,gL,gS,aL,eH,aN,NR,hw];refine⟨_,_,aH,Sub.mk ?_ ?_,aB⟩
   .simp
   .simp[Qu.cells]
 .have he:k=q.rs.length:=by omega
  have hf2:f=q.rs.length-next:=by omega
  subst hf2;clear hJ;have hV:vG q.rs.length (m+1) B next=fC (fun k=>vG q.rs.length m (B++[(k:Int)]) (k+1)) (q.rs.length-next) next:=rfl;rw[hV]at hR;generalize fC (fun k=>vG q.rs.length m (B++[(k:Int)]) (k+1)) (q.rs.length-next) next=acc at *;have Tf:List.take acc.length (acc.map bT)=acc.map bT:=fQ (by simp);rw[he];simp[Kb,Qu.cells,Tf];rw[<-hR];exact⟨rfl,rfl⟩
theorem Zn5 (q:Qu)(hr:q.rs.length<=6):∀m,Ly q m
 |0=>Ztt q
 |m+1=>Zts q hr m (Zn5 q hr m)
theorem wB {n:Nat}(hn:n<=6):∀(f k:Nat),(fC (fun k=>vG n k [] 0) f k).length<=64*f
 |0,k=>gW _
 |f+1,k=>by
  have ih:=wB hn f (k+1);have h1:=lM (YG (n:=n) k [] 0 (by omega)) (Nat.pow_le_pow_right (n:=2) (by decide) (show n-0<=6 by omega));have e1:fC (fun k=>vG n k [] 0) (f+1) k=vG n k [] 0++fC (fun k=>vG n k [] 0) f (k+1):=rfl;rw[e1,gF];omega
def Lj (q:Qu)(k:Nat)(acc:List (List Int)):AS:=⟨[(1,.ptr (.loc 1 0) 0),(3,.vec (.loc 16 0) 1 0 acc.length),(4,.pv (.i k))],[(.loc 16 0,.arr 32 1 (acc.map bT)),(.loc 1 0,.cells q.cells)]⟩
theorem BZ (q:Qu)(hr:q.rs.length<=6):cU prog 117 ([q.pv].map .pv) [] (fun r Bx=>r=.pv (eH (yX q.rs.length))/\Bx=[]):=by
 refine Q6 [.loc 16 0] L117 ?_;intro R hR;simp[L117,Qu.pv];refine eP (fun n τ=>∃f:Nat,f<=q.rs.length/\n=q.rs.length-f/\τ=Lj q (1+f) (fC (fun k=>vG q.rs.length k [] 0) f 1))
  ⟨q.rs.length,Lj q 1 [],Sub.trans' (Sub.mk (by simp[AS.cW]) (by simp[AS.cW,Qu.cells])) (cW 16 32 1 3 rfl (by decide)),0,by omega,rfl,rfl⟩ ?_
 rintro J hJ n τ ⟨f,hf,rfl,rfl⟩;by_cases aI:f<q.rs.length
 .have aB:=hJ _ _ ⟨f+1,by omega,rfl,rfl⟩;rw[ZeB]at aB;have hw:=jK (k:=1+f) (by omega);have aH:q.rs.length-(f+1)<q.rs.length-f:=by omega
  have hC:=Zn5 q hr (1+f) [] 0 (by simp;omega) (by omega);have hC':cU prog 161 ([q.pv,.emp (some true),.i (0:Nat),.i (1+f:Nat)].map .pv) [] (fun r Bx=>r=.pv (eH (vG q.rs.length (1+f) [] 0))/\Bx=[]):=hC.Yq rfl (fun j x y m v e1 e2 hd=>by
   match j with
   |0=>simp at e1 e2;subst e1 e2;exact hd
   |1=>simp at e1 e2;subst e1 e2;exact BF hd
   |2=>simp at e1 e2;subst e1 e2;exact hd
   |3=>simp at e1 e2;subst e1 e2;exact hd
   |j+4=>simp at e1)
  have uI:=wB (n:=q.rs.length) hr f 1;have zS:=lM (YG (n:=q.rs.length) (1+f) [] 0 (by omega)) (Nat.pow_le_pow_right (n:=2) (by decide) (show q.rs.length-0<=6 by omega));clear hJ hC;have hle:(1:Int)+(f:Int)<=(q.rs.length:Int):=by omega
  have hle2:1+f<=q.rs.length:=by omega
  rw[show 1+(f+1)=1+f+1 by omega]at aB;generalize vG q.rs.length (1+f) [] 0=new at *;generalize fC (fun k=>vG q.rs.length k [] 0) f 1=acc at *;have NR:acc.length+new.length<=1000000:=by omega
  simp[Lj,Qu.cells,hle];refine .inl (cP [] [q.pv,.emp (some true),.i (0:Nat),.i (1+f:Nat)] rfl ?_ hC' ?_)
  .simp[aL,Qu.pv]
  have IB:IntKind.i64.wrap ((1:Int)+(f:Int)+1)=((1+f+1:Nat):Int):=by rw[<-hw];congr 1
  simp[aL,eH,aN,NR,IB];refine⟨_,_,aH,Sub.mk ?_ ?_,aB⟩
  .simp
  .simp[Qu.cells]
 .have he:f=q.rs.length:=by omega
  subst he;clear hJ;have hV:yX q.rs.length=fC (fun k=>vG q.rs.length k [] 0) q.rs.length 1:=rfl;rw[hV]at hR;generalize fC (fun k=>vG q.rs.length k [] 0) q.rs.length 1=acc at *;have Tf:List.take acc.length (acc.map bT)=acc.map bT:=fQ (by simp);have RQ:¬(1:Int)+(q.rs.length:Int)<=(q.rs.length:Int):=by omega
  simp[Lj,Qu.cells,Tf,RQ];rw[<-hR];exact⟨rfl,rfl⟩
def fK (q:Qu)(h:Int)(l:List Int)(j:Nat)(rec:List Bool->Nat)(t:List Bool):Nat->Nat
 |0=>rec t
 |i+1=>if(t[((l[i]?).getD 0).toNat]?).getD true=true\/q.may ((l[i]?).getD 0).toNat j h=false then fK q h l j rec t i else max (fK q h l j rec t i) (1+rec (t.set ((l[i]?).getD 0).toNat true))
def Qu.tT (q:Qu)(h:Int)(l:List Int):Nat->List Bool->Nat
 |0,_=>0
 |k+1,t=>fK q h l (q.ms.length-(k+1)) (q.tT h l k) t l.length
theorem ZhC {q:Qu}{h:Int}{l:List Int}{j k:Nat}{rec:List Bool->Nat}{t:List Bool}(hr:∀t,rec t<=k):∀i,fK q h l j rec t i<=k+1
 |0=>by have:=hr t;unfold fK;omega
 |i+1=>by
  have h1:=ZhC (q:=q) (h:=h) (l:=l) (j:=j) (t:=t) hr i;have h2:=hr (t.set ((l[i]?).getD 0).toNat true);unfold fK
  split<;>omega
theorem ZhB {q:Qu}{h:Int}{l:List Int}:∀(k:Nat) (t:List Bool),q.tT h l k t<=k
 |0,_=>fH _
 |k+1,t=>ZhC (ZhB k) _
theorem Zi4 {t:List Bool}{i:Nat}{b:Bool}:(t.map PV.bool).set i (.bool b)=(t.set i b).map PV.bool:=by rw[List.map_set]
def PG (q:Qu)(h:Int)(l:List Int)(k:Nat):Prop:=∀t:List Bool,t.length=q.rs.length->cU prog 162 [.pv q.pv,.pv (bT l),.pv (.i h),.pv (.i ((q.ms.length-k:Nat):Int)),.vec (.par 0) 1 0 q.rs.length] [(.par 0,.arr 4 1 (t.map PV.bool))] (fun r B=>r=.pv (.i (q.tT h l k t))/\B=[(.par 0,.arr 4 1 (t.map PV.bool))])
def zN (q:Qu)(h:Int)(l:List Int)(j:Nat)(t:List Bool)(b i:Nat):AS:=⟨[(1,.pv (bT l)),(2,.pv (.i h)),(3,.pv (.i j)),(4,.vec (.par 0) 1 0 q.rs.length),(5,.ptr (.loc 5 0) 0),(11,.pv (.i b)),(12,.pv (.i i))],[(.par 0,.arr 4 1 (t.map PV.bool)),(.loc 5 0,.cells q.cells)]⟩
theorem Mh (q:Qu)(hq:q.ok)(h:Int)(l:List Int)(hl:l.length<=1000)(gB:∀x∈l,0<=x/\x<q.rs.length):∀k,k<=q.ms.length->PG q h l k
 |0,_=>fun t ht=>by
  refine cB [.par 0] L162 ?_;simp[L162,Qu.pv,Qu.tT]
 |k+1,hk=>fun t ht=>by
  have ih:=Mh q hq h l hl gB k (by omega);have yQ:=hq.m;have VY:=hq.r;have tE:=ZhB (q:=q) (h:=h) (l:=l) k;have nS:=ZhC (q:=q) (h:=h) (l:=l) (j:=q.ms.length-(k+1)) (t:=t) tE;have oA:q.tT h l (k+1) t=fK q h l (q.ms.length-(k+1)) (q.tT h l k) t l.length:=rfl;rw[oA];unfold PG at ih;obtain⟨j,hj⟩:∃j,q.ms.length-(k+1)=j:=⟨_,rfl⟩;have DI:q.ms.length-k=j+1:=by omega
  rw[hj]at nS ⊢;rw[DI]at ih;generalize hR:q.tT h l k=R at *;have hjm:¬(j:Int)=(q.ms.length:Int):=by omega
  have CS:=jK (k:=j) (by omega);refine cB [.par 0] L162 ?_;have hjm2:¬j=q.ms.length:=by omega
  have ih0:=ih t ht;simp[L162,Qu.pv,hjm,CS];refine xU (gG:=[.pv q.pv,.pv (bT l),.pv (.i h),.pv (.i ((j+1:Nat):Int)),.vec (.par 0) 1 0 q.rs.length]) (B:=[(.par 0,.arr 4 1 (t.map PV.bool))]) (fs:=[]) (cs:=[]) 24 [.par 0] ?_ rfl rfl ?_ ?_ ?_ ih0 ?_
  .rfl
  .simp
  .simp
  .simp[Qu.pv]
  rintro r0 B0 ⟨rfl,rfl⟩;refine⟨rfl,by simp,?_⟩;simp;refine eP (fun n τ=>∃i:Nat,i<=l.length/\n=l.length-i/\τ=zN q h l j t (fK q h l j R t i) i)
   ⟨l.length,zN q h l j t (fK q h l j R t 0) 0,Sub.mk (by simp[fK]) (by simp[Qu.cells]),0,gW _,rfl,rfl⟩ ?_
  rintro J hJ n τ ⟨i,hi,rfl,rfl⟩;by_cases aI:i<l.length
  .obtain⟨x,hx⟩:∃x,l[i]?=some x:=⟨l[i],bC aI⟩;obtain⟨CQ,Z1⟩:=gB x (dL hx);obtain⟨r,rfl⟩:∃r:Nat,x=r:=⟨x.toNat,by omega⟩;have r5:r<q.rs.length:=by omega
   have hg:(l.map aO)[i]?=some (.i r):=by rw[bY,hx];rfl
   have hw:=jK (k:=i) (by omega);have aH:l.length-(i+1)<l.length-i:=by omega
   have aB:=hJ _ _ ⟨i+1,aI,rfl,rfl⟩;obtain⟨b,hb⟩:∃b,t[r]?=some b:=⟨t[r],bC (by omega)⟩;have Q4:(t.map PV.bool)[r]?=some (.bool b):=by rw[bY,hb];rfl
   have r9:=ZuB q hq r j h r5 (by omega);have iI:fK q h l j R t (i+1)=if b=true\/q.may r j h=false then fK q h l j R t i else max (fK q h l j R t i) (1+R (t.set r true)):=by
    rw[fK,hx];simp only[sE,A1,hb]
   have hrt:r<t.length:=by omega
   rw[iI]at aB;have SC:=nS i;clear hJ iI oA;generalize fK q h l j R t i=E at *;cases b with
   |true=>
    rw[if_pos (.inl rfl)]at aB;simp[zN,bT,aI,↓hg,↓Q4,hw,r5,bV];refine⟨_,_,aH,Sub.mk ?_ ?_,aB⟩
    .simp[bT]
    .simp[Qu.cells]
   |false=>
    simp[zN,bT,aI,↓hg,↓Q4,r5,Qu.cells,bV];refine cG [q.pv,.i r,.i j,.i h] r9 ?_;cases hc:q.may r j h with
    |false=>
     rw[if_pos (.inr hc)]at aB;simp[hw];refine⟨_,_,aH,Sub.mk ?_ ?_,aB⟩
     .simp[bT]
     .simp[Qu.cells]
    |true=>
     rw[if_neg (by rw[hc];simp)]at aB;have CN:=ih (t.set r true) (by simpa using ht);have Ds:t.set r false=t:=by
      apply List.ext_getElem?;intro j';by_cases e:j'=r
      .subst e;rw[O6 hrt,hb]
      .rw[List.getElem?_set_ne (fun e'=>e e'.symm)]
     have Vn:((t.set r true).map PV.bool)[r]?=some (.bool true):=by rw[bY,O6 hrt];rfl
     have NR:=tE (t.set r true);have qD:IntKind.i64.wrap (1+(R (t.set r true):Int))=((1+R (t.set r true):Nat):Int):=by rw[wrap64 (by omega)];omega
     simp[-List.map_set,↓hg,↓Q4,CS,r5,setAt,Zi4,bV];refine xU (gG:=[.pv q.pv,.pv (bT l),.pv (.i h),.pv (.i ((j+1:Nat):Int)),.vec (.par 0) 1 0 q.rs.length]) (B:=[(.par 0,.arr 4 1 ((t.set r true).map PV.bool))]) (fs:=[]) (cs:=[]) 62 [.par 0] ?_ rfl rfl ?_ ?_ ?_ CN ?_
     .rfl
     .simp
     .simp
     .simp[Qu.pv,bT]
     rintro r0 B0 ⟨rfl,rfl⟩;refine⟨rfl,by simp,?_⟩;simp[-List.map_set,↓hg,↓Vn,hw,qD,r5,setAt,Zi4,bV,Ds];have RC:(if(E:Int)<1+(R (t.set r true):Int)then 1+(R (t.set r true):Int)else(E:Int))=((max E (1+R (t.set r true)):Nat):Int):=by split<;>omega
     refine⟨_,_,aH,Sub.mk ?_ ?_,aB⟩
     .simp[bT,RC]
     .simp[zN,Qu.cells]
  .have he:i=l.length:=by omega
   subst he;simp[zN,bT,Qu.cells]
theorem ZkV {q:Qu}{h:Int}{l:List Int}{j:Nat}{rec:List Bool->Nat}{t:List Bool}{n:Nat}:fK q h l j rec t n<=fK q h l j rec t (n+1):=by
 show _<=(if _ then _ else _);split
 .exact fH _
 .exact Nat.le_max_left _ _
theorem ZgL {q:Qu}{h:Int}{l:List Int}{j:Nat}{rec:List Bool->Nat}{t:List Bool}:∀n,rec t<=fK q h l j rec t n
 |0=>fH _
 |n+1=>lM (ZgL n) ZkV
theorem ZkW {q:Qu}{h:Int}{l:List Int}{j:Nat}{rec:List Bool->Nat}{t:List Bool}{i r:Nat}(hx:l[i]?=some (r:Int))(ht:t[r]?=some false)(hm:q.may r j h=true):∀n,i<n->1+rec (t.set r true)<=fK q h l j rec t n
 |n+1,hi=>by
  by_cases e:i=n
  .subst e;show _<=(if _ then _ else _);rw[hx];simp only[sE,A1,ht];rw[if_neg (by rw[hm];simp)];exact Nat.le_max_right _ _
  .exact lM (ZkW hx ht hm n (by omega)) ZkV
def LM (l:List Int)(t:List Bool)(r:Nat):Prop:=(r:Int)∈l/\t[r]?=some false
theorem ZhA {q:Qu}(hq:q.ok){h:Int}{l:List Int}:∀k,k<=q.ms.length->∀(t:List Bool) (w:List Int),Mt q h (LM l t) (q.ms.length-k) w->4<=q.tT h l k t+w.count (-1)
 |0,_,t,w,hw=>by
  have:=hw.none (fun m r _ h1 h2=>by omega)
  omega
 |k+1,hk,t,w,hw=>by
  have yQ:=hq.m;obtain⟨j,hj⟩:∃j,q.ms.length-(k+1)=j:=⟨_,rfl⟩;have DI:q.ms.length-k=j+1:=by omega
  have oA:q.tT h l (k+1) t=fK q h l j (q.tT h l k) t l.length:=by rw[<-hj];rfl
  rw[oA];rw[hj]at hw;have xP:j<w.length:=by rw[hw.len];omega
  have hx:w[j]?=some w[j]:=bC xP;rcases hw.ok _ (A2 xP)with h1|h1
  .rw[h1]at hx
   have:=ZhA hq (h:=h) (l:=l) k (by omega) t w (by rw[DI];exact hw.next hx)
   have:=ZgL (q:=q) (h:=h) (l:=l) (j:=j) (rec:=q.tT h l k) (t:=t) l.length
   omega
  .obtain⟨r,hr⟩:∃r:Nat,w[j]=r:=⟨w[j].toNat,by omega⟩;rw[hr]at hx;obtain⟨_,_,⟨o1,o2⟩,o3⟩:=hw.on j r hx;obtain⟨i,hi⟩:=iO.1 o1
   have:=ZkW (rec:=q.tT h l k) hi o2 o3 l.length (cD.1 hi).1
   have hc:=hw.cut hx;have h2:=ZhA hq (h:=h) (l:=l) k (by omega) (t.set r true) (w.set j (-1)) (by
    rw[DI];exact(hc.mono fun r' wI=>⟨wI.1.1,by rw[List.getElem?_set_ne (fun e=>wI.2 e.symm)];exact wI.1.2⟩).next (O6 xP))
   rw[ZoE hx]at h2;omega
theorem ZkU {q:Qu}(hq:q.ok){h:Int}{l:List Int}(gB:∀x∈l,0<=x/\x<q.rs.length):∀k,k<=q.ms.length->∀t:List Bool,∃w,Mt q h (LM l t) (q.ms.length-k) w/\q.tT h l k t+w.count (-1)=4
 |0,_,t=>⟨fD,Mt.idle,by show 0+_=_;decide⟩
 |k+1,hk,t=>by
  have yQ:=hq.m;obtain⟨j,hj⟩:∃j,q.ms.length-(k+1)=j:=⟨_,rfl⟩;have DI:q.ms.length-k=j+1:=by omega
  have oA:q.tT h l (k+1) t=fK q h l j (q.tT h l k) t l.length:=by rw[<-hj];rfl
  rw[oA,hj];have ih:=ZkU hq (h:=h) gB k (by omega);rw[DI]at ih;have step:∀n,n<=l.length->∃w,Mt q h (LM l t) j w/\fK q h l j (q.tT h l k) t n+w.count (-1)=4:=by
   intro n;induction n with
   |zero=>
     intro _;obtain⟨w,h1,h2⟩:=ih t;exact⟨w,h1.down,h2⟩
   |succ n ihn=>
     intro hn;obtain⟨w0,k1,k2⟩:=ihn (by omega);have hx:l[n]?=some l[n]:=bC (by omega);have FR:=gB _ (dL hx);obtain⟨r,hr⟩:∃r:Nat,l[n]=r:=⟨l[n].toNat,by omega⟩;rw[hr]at hx;have bS:fK q h l j (q.tT h l k) t (n+1)=if(t[r]?).getD true=true\/q.may r j h=false then fK q h l j (q.tT h l k) t n else max (fK q h l j (q.tT h l k) t n) (1+q.tT h l k (t.set r true)):=by
      rw[fK,hx];simp only[sE,A1]
     rw[bS];split
     .exact⟨w0,k1,k2⟩
     .rename_i hc;rw[not_or]at hc;have ht:t[r]?=some false:=by
       cases e:t[r]? with
       |none=>rw[e]at hc;exact absurd rfl hc.1
       |some b=>cases b;rfl;rw[e]at hc;exact absurd rfl hc.1
      have hm:q.may r j h=true:=by simpa using hc.2
      rcases Nat.le_total (1+q.tT h l k (t.set r true)) (fK q h l j (q.tT h l k) t n)with h1|h1
      .rw[Nat.max_eq_left h1];exact⟨w0,k1,k2⟩
      .rw[Nat.max_eq_right h1];obtain⟨w,a1,a2⟩:=ih (t.set r true);have xP:j<w.length:=by rw[a1.len];omega
       have CS:w[j]?=some (-1):=by
        rcases a1.ok _ (A2 xP)with h3|h3
        .rw[bC xP,h3]
        .obtain⟨r',wI⟩:∃r':Nat,w[j]=r':=⟨w[j].toNat,by omega⟩
         have:=(a1.on j r' (by rw[bC xP,wI])).1
         omega
       refine⟨w.set j r,a1.down.put (fH _) (by omega) hm ⟨dL hx,ht⟩ (fun r' wI=>?_),?_⟩
       .have dA:r'≠r:=fun e=>by
         have h4:=wI.2;rw[e,O6 (cD.1 ht).1]at h4;cases h4
        refine⟨⟨wI.1,?_⟩,dA⟩;have h4:=wI.2
        rwa [List.getElem?_set_ne (fun e=>dA e.symm)]at h4
       .have:=ZtZ (run:=r) CS
        omega
  exact step l.length (fH _)
def o8 (q:Qu):List Bool:=List.replicate q.rs.length false
theorem Zti {q:Qu}(hq:q.ok){h:Int}{l:List Int}(hl:nO q l):q.tT h l q.ms.length (o8 q)=q.EM h l:=by
 have hf:∀r:Nat,LM l (o8 q) r↔(r:Int)∈l:=fun r=>⟨fun h=>h.1,fun h=>⟨h,by
  have:=hl.D0 _ h
  unfold o8;rw[List.getElem?_replicate,if_pos (by omega)]⟩⟩
 obtain⟨w,h1,h2⟩:=ZkU hq (h:=h) hl.D0 q.ms.length (fH _) (o8 q);obtain⟨M,h3,h4⟩:=Zr2 hq (h:=h) hl;rw[Nat.sub_self]at h1;have h5:=Zr3 hq hl (h1.mono fun r hr=>(hf r).1 hr);have h6:=ZhA hq (h:=h) (l:=l) q.ms.length (fH _) (o8 q) M (by rw[Nat.sub_self];exact h3.mono fun r hr=>(hf r).2 hr);omega
def Qu.O8 (q:Qu)(l:List Int):Nat->Nat
 |0=>0
 |h+1=>q.O8 l h+q.tT h l q.ms.length (o8 q)
theorem vL {q:Qu}(hq:q.ok){l:List Int}(hl:nO q l):∀h,q.O8 l h=q.BA l h
 |0=>rfl
 |h+1=>by
  show q.O8 l h+_=q.BA l h+_;rw[vL hq hl h,Zti hq hl]
theorem ZkC {q:Qu}(hq:q.ok){l:List Int}:∀h,q.O8 l h<=4*h
 |0=>fH _
 |h+1=>by
  have h1:=ZkC hq (l:=l) h;have h2:=ZhB (q:=q) (h:=h) (l:=l) q.ms.length (o8 q)
  have:=hq.m
  show q.O8 l h+_<=_;omega
theorem HI (q:Qu)(hq:q.ok)(l:List Int)(hl:l.length<=1000)(gB:∀x∈l,0<=x/\x<q.rs.length)(u:Nat)(hu:u<=100):aC prog 119 [q.pv,bT l,.i u] (.i (q.O8 l u)):=by
 have hqr:=hq.r;refine cS L119 ?_;have hR6:q.rs.length<=1000000:=by omega
 simp[L119,Qu.pv];refine eP (fun n τ=>∃k:Nat,k<=u/\n=u-k/\τ=⟨[(1,.pv (bT l)),(2,.pv (.i u)),(3,.ptr (.loc 3 0) 0),(7,.pv (.i (q.O8 l k))),(8,.pv (.i k))],[(.loc 3 0,.cells q.cells)]⟩)
  ⟨u,⟨[(1,.pv (bT l)),(2,.pv (.i u)),(3,.ptr (.loc 3 0) 0),(7,.pv (.i 0)),(8,.pv (.i 0))],[(.loc 3 0,.cells q.cells)]⟩,Sub.mk (by simp) (by simp[Qu.cells]),0,gW _,rfl,rfl⟩ ?_
 rintro J hJ n τ ⟨k,hk,rfl,rfl⟩;by_cases aI:k<u
 .have hw:=jK (k:=k) (by omega);have aH:u-(k+1)<u-k:=by omega
  have aB:=hJ _ _ ⟨k+1,aI,rfl,rfl⟩;have Ul:=Mh q hq k l hl gB q.ms.length (fH _) (o8 q) (by simp[o8]);rw[Nat.sub_self]at Ul;have hb:=ZkC hq (l:=l) (k+1);have bS:q.O8 l (k+1)=q.O8 l k+q.tT k l q.ms.length (o8 q):=rfl;have mP:(o8 q).map PV.bool=List.replicate q.rs.length (.bool false):=by simp[o8]
  rw[mP]at Ul;clear hJ mP;generalize q.O8 l (k+1)=E2 at *;subst bS;generalize q.O8 l k=E at *;generalize q.tT k l q.ms.length (o8 q)=A at *;have sY:IntKind.i64.wrap ((E:Int)+(A:Int))=(E:Int)+(A:Int):=wrap64 (by omega);simp[Qu.cells,aI,aN,hR6];refine xU (gG:=[.pv q.pv,.pv (bT l),.pv (.i k),.pv (.i ((0:Nat):Int)),.vec (.par 0) 1 0 q.rs.length]) (B:=[(.par 0,.arr 4 1 (List.replicate q.rs.length (.bool false)))]) (fs:=[]) (cs:=[]) 22 [.loc 21 0] ?_ rfl rfl ?_ ?_ ?_ Ul ?_
  .rfl
  .simp
  .simp
  .simp[Qu.pv]
  rintro r0 B0 ⟨rfl,rfl⟩;refine⟨rfl,by simp,?_⟩;simp[hw,sY];refine⟨_,_,aH,Sub.mk ?_ ?_,aB⟩
  .simp
  .simp[Qu.cells]
 .have he:k=u:=by omega
  subst he;simp[Qu.cells]
end Go.Proofs.YthmbecacehfgfabGreatDoor.Qn
namespace Go.Proofs.YthmbecacehfgfabGreatDoor
open Go.RowKit
open Go.Proofs.Tryz Go.Proofs.YthmbecacehfgfabGreatDoor.Tryz
section
attribute [local irreducible] Qn.Qu.O8 Qn.Qu.sU Qn.yX
def pZ (q:Qn.Qu)(u:Nat):Bool:=(Qn.yX q.rs.length).all fun l=>decide (q.sU l<=(q.O8 l u:Int))
def HO (q:Qn.Qu)(u:Nat)(A:List (List Int))(k:Nat):AS:=⟨[(1,.pv (.i (u:Int))),(2,.ptr (.loc 2 0) 0),(5,.pv (Qn.eH A)),(6,.pv (.i (k:Int)))],[(.loc 2 0,.cells q.cells)]⟩
theorem Znf {q:Qn.Qu}(hq:q.ok){l:List Int}(h:l∈Qn.yX q.rs.length):l.length<=1000/\∀x∈l,0<=x/\x<q.rs.length:=by
 have h1:=(Qn.vZ.1 h).1;have hR:=Qn.nO.KH h1;refine⟨?_,hR.D0⟩
 have:=Qn.oO q.rs.length (l.map Int.toNat) (by
  rw[EO,List.pairwise_map];refine List.Pairwise.imp_of_mem ?_ (Qn.qQ h1);intro a b ha hb aI e
  have:=hR.D0 a ha
  have:=hR.D0 b hb
  omega) (fun y hy=>by
  obtain⟨z,hz,rfl⟩:=iN.1 hy
  have:=hR.D0 z hz
  omega)
 have h6:=hq.r;rw[fZ]at this;omega
theorem ZkE (q:Qn.Qu)(hq:q.ok)(u:Nat)(hu:u<=100):aC prog 71 [q.pv,.i (u:Int)] (.bool (pZ q u)):=by
 have VY:=hq.r;have Ut:=Qn.BZ q VY;have Z4:=fun l h=>Znf (l:=l) hq h
 have hal:(Qn.yX q.rs.length).length<=1000:=by have:=Qn.wB VY q.rs.length 1;unfold Qn.yX;omega
 obtain⟨V,hV⟩:∃V,V=pZ q u:=⟨_,rfl⟩;rw[<-hV];unfold pZ at hV;generalize Qn.yX q.rs.length=A at *;refine O1 L71 ?_;intro R hR;simp[L71,Qn.Qu.pv];refine .inl (cP [] [q.pv] rfl (by simp[Qn.Qu.pv]) Ut ?_);simp[aL];refine eP (fun m τ=>∃k:Nat,k<=A.length/\m=A.length-k/\V=(A.drop k).all (fun l=>decide (q.sU l<=(q.O8 l u:Int)))/\τ=HO q u A k)
  ⟨A.length,HO q u A 0,Sub.mk (by simp) (by simp[Qn.Qu.cells]),0,gW _,rfl,hV,rfl⟩ ?_
 rintro J hJ m τ ⟨k,hk,rfl,hv,rfl⟩;by_cases aI:k<A.length
 .obtain⟨l,hx⟩:∃l,A[k]?=some l:=⟨A[k],bC aI⟩;obtain⟨pG,rJ⟩:=Z4 l (dL hx);have hg:(A.map Qn.bT)[k]?=some (Qn.bT l):=by rw[bY,hx];rfl
  have hw:=bK (k:=k) (by omega);have aH:A.length-(k+1)<A.length-k:=by omega
  have AO:A.drop k=l::A.drop (k+1):=by
   obtain⟨hl,he⟩:=cD.1 hx;rw[AY hl,he]
  rw[AO,List.all_cons]at hv;have H4:=Qn.HU q l pG (by omega) hq.h rJ;have mO:=Qn.HI q hq l pG rJ u hu;have hip:Qn.bT l=.aF false 1 (l.map Qn.aO):=rfl;have Ts:q.pv=.agg [.aF false 1 (q.ms.map Qn.iA),.aF false 3 (q.rs.map Qn.Rq.pv)]:=rfl;rw[Ts,hip]at H4 mO;simp[HO,Qn.eH,Qn.Qu.cells,aI,↓hg,aN,hip];refine cQ [] [_,_] H4 ?_;simp[aL];refine cG [_,_,_] mO ?_;by_cases hc:q.sU l<=(q.O8 l u:Int)
  .have aB:=hJ _ _ ⟨k+1,aI,rfl,by rw[hv,decide_eq_true hc,Bool.true_and],rfl⟩;have tD:¬(q.O8 l u:Int)<q.sU l:=by omega
   simp[tD,hw];exact⟨_,_,aH,Sub.mk (by simp[Qn.eH]) (by simp[Qn.Qu.cells]),aB⟩
  .have tD:(q.O8 l u:Int)<q.sU l:=by omega
   have xM:V=false:=by rw[hv,decide_eq_false hc,Bool.false_and]
   subst xM;simp[tD];rw[<-hR];exact⟨rfl,rfl⟩
 have he:k=A.length:=by omega
 subst he;rw[List.drop_length]at hv;have xM:V=true:=hv;subst xM;simp[HO,Qn.eH,Qn.Qu.cells];rw[<-hR];exact⟨rfl,rfl⟩
theorem Zne {q:Qn.Qu}{R:List Int}{u:Nat}:∀d,q.BA R u<=q.BA R (u+d)
 |0=>fH _
 |d+1=>lM (Zne d) (Nat.le_add_right _ _)
theorem Qn.tJ.less {q:Qn.Qu}{T T':Nat}(h:Qn.tJ q T)(hl:T'<=T):Qn.tJ q T':=by
 obtain⟨R,h1,h2⟩:=h
 have:=Zne (q:=q) (R:=R) (u:=T') (T-T')
 rw[Nat.add_sub_cancel' hl]at this;exact⟨R,h1,by omega⟩
theorem Ny {q:Qn.Qu}(hq:q.ok){u:Nat}:pZ q u=true↔¬Qn.tJ q u:=by
 unfold pZ;rw[rM];refine⟨?_,fun h l hl=>?_⟩
 .rintro h ⟨R,h1,h2⟩;have dA:R≠[]:=fun e=>by subst e;have:q.sU []=0:=(by with_unfolding_all rfl);omega
  have h3:=of_decide_eq_true (h R (Qn.vZ.2 ⟨h1,dA⟩));rw[Qn.vL hq (Qn.nO.KH h1)]at h3;omega
 .refine decide_eq_true ?_;have h1:=(Qn.vZ.1 hl).1;rw[Qn.vL hq (Qn.nO.KH h1)];exact Int.not_lt.1 fun h2=>h ⟨l,h1,h2⟩
theorem Zou {q:Qn.Qu}(hc:q.check=0):decide (eL 408 q=0)=pZ q 40:=by
 have hq:=Qn.Qu.XC hc;unfold eL;rw[if_neg (by rw[hc];exact fun h=>h rfl)];rcases Qn.K3 (F:=408) (by decide) hq with⟨p,h1,h2,h3,_⟩|⟨h1,h2⟩
 .rw[h1];exact((Ny hq).2 fun h=>(h.less h2.len).no hq h2 h3).symm
 .rw[h1];exact(Bool.eq_false_iff.2 fun h=>(Ny hq).1 h h2).symm
theorem Zf4 (rs:List Qn.Rq)(hr:rs.length<=6)(Z8:∀r∈rs,∃h q o,r=pQ h q o/\1<=h/\h<=40/\0<=q/\q<=40/\1<=o/\o<=3):(rF rs).check=0:=by
 have h1:(rF rs).xR=false:=by
  unfold Qn.Qu.xR rF;simp;omega
 have h2:(rF rs).bad=false:=by
  unfold Qn.Qu.bad rF;simp;refine⟨by decide,fun r hr=>?_⟩;obtain⟨h,q,o,rfl,hh⟩:=Z8 r hr;have m1:Qn.kY h=true:=by unfold Qn.kY;rw[decide_eq_true (by omega),decide_eq_true (by omega)];rfl
  have m2:Qn.kY q=true:=by unfold Qn.kY;rw[decide_eq_true (by omega),decide_eq_true (by omega)];rfl
  show(Qn.kY h&&Qn.kY q&&true)=true;rw[m1,m2];rfl
 unfold Qn.Qu.check;rw[h1,h2];rfl
theorem Zpy (rs:List Qn.Rq)(hr:rs.length<=6)(Z8:∀r∈rs,∃h q o,r=pQ h q o/\1<=h/\h<=40/\0<=q/\q<=40/\1<=o/\o<=3):aC prog 71 [.agg [XK,.aF false 3 (rs.map Qn.Rq.pv)],.i 40] (.bool (decide (eL 408 (rF rs)=0))):=by
 have hc:=Zf4 rs hr Z8;rw[Zou hc];exact ZkE (rF rs) (Qn.Qu.XC hc) 40 (by decide)
end
section
attribute [local irreducible] Bk.rD eL Bk.contra Bk.held Bk.span Bk.nums Bk.iL Bk.qM stM nB qS Bk.fault
def rnJ (w:Wk)(x:PV):AS:=⟨[(2,.ptr (.loc 2 0) 0),(4,.ptr (.loc 4 0) 0),(6,.ptr (.loc 6 0) 0),(36,.vec (.loc 36 0) 3 0 w.runs.length),(53,.vec (.loc 53 0) 3 0 1)],
 [(.loc 53 0,.arr 273 3 [x]),(.loc 36 0,.arr 273 3 (w.runs.map Qn.Rq.pv)),(.loc 6 0,.cells w.cells),(.loc 4 0,.cells [pU,pU,pU,pU,pU]),(.loc 2 0,.cells w.cells)]⟩
theorem Zuz {k0:Nat}(w:Wk)(hI:sI k0 w)(a b c:Int):aC prog 112 [w.pv,.aF false 1 [.i a,.i b,.i c]] (sX w ((runM 408 w.runs a b c).map fun l=>{ w with runs:=l })):=by
 have VY:=hI.r6;have i1:=rR a 1 40;have i2:=rR b 0 40;have i3:=rR c 1 3;have jE:w.pv=.agg [.aF false 7 (w.aA.map Ct.pv),.aF false 1 (w.bad.map iP),.aF false 4 (w.aM.map Lt.pv),.aF false 4 (w.aG.map Tt.pv),.aF false 3 (w.runs.map Qn.Rq.pv)]:=rfl;refine cF [.loc 54 0] L112 ?_;obtain⟨V,hV⟩:∃V,V=sX w ((runM 408 w.runs a b c).map fun l=>{ w with runs:=l }):=⟨_,rfl⟩;rw[<-hV];generalize hR:(fun(r:AV) (B:List (Site×aJ))=>r=.pv V/\B=[])=R;have gE:¬((decide (1<=a)&&decide (a<=40))=true/\(decide (0<=b)&&decide (b<=40))=true/\(decide (1<=c)&&decide (c<=3))=true)->V=.bN [w.pv,.i 2]:=fun h=>by
  rw[hV];unfold runM;rw[if_neg h];rfl
 rw[jE]at gE ⊢;simp[L112];refine cG [_,_,_] i1 ?_;generalize tO:(decide (1<=a)&&decide (a<=40))=d1 at *;cases d1
 .have hv:=gE (by simp);subst hv;simp;rw[<-hR];exact⟨by simp,by simp⟩
 simp;refine cG [_,_,_] i2 ?_;generalize uZ:(decide (0<=b)&&decide (b<=40))=d2 at *;cases d2
 .have hv:=gE (by simp);subst hv;simp;rw[<-hR];exact⟨by simp,by simp⟩
 simp;refine cG [_,_,_] i3 ?_;generalize U5:(decide (1<=c)&&decide (c<=3))=d3 at *;cases d3
 .have hv:=gE (by simp);subst hv;simp;rw[<-hR];exact⟨by simp,by simp⟩
 clear gE;unfold runM at hV;rw[tO,uZ,U5,if_pos ⟨rfl,rfl,rfl⟩]at hV;by_cases h6:w.runs.length<6
 case neg=>
  have hv:V=.bN [w.pv,.i 3]:=by rw[hV,if_neg h6];rfl
  rw[jE]at hv;subst hv;have WN:(6:Int)<=(w.runs.length:Int):=by omega
  have Xg:6<=w.runs.length:=by omega
  simp[WN];rw[<-hR];exact⟨by simp,by simp⟩
 have WN:¬(6:Int)<=(w.runs.length:Int):=by omega
 have Xg:¬6<=w.runs.length:=by omega
 rw[if_pos h6]at hV;have g1:1<=a/\a<=40:=by rw[dK,decide_eq_true_eq,decide_eq_true_eq]at tO;exact tO
 have g2:0<=b/\b<=40:=by rw[dK,decide_eq_true_eq,decide_eq_true_eq]at uZ;exact uZ
 have g3:1<=c/\c<=3:=by rw[dK,decide_eq_true_eq,decide_eq_true_eq]at U5;exact U5
 have H2:=Zpy (w.runs++[pQ a b c]) (by rw[gF];simp;omega) (fun r hr=>(sS.1 hr).elim (hI.on r) fun h=>⟨a,b,c,sG.1 h,g1.1,g1.2,g2.1,g2.2,g3.1,g3.2⟩);have MV:=ZkD ((w.runs++[pQ a b c]).map Qn.Rq.pv);have hnp:Qn.Rq.pv (pQ a b c)=.agg [.i a,.i b,.aF false 1 [.bool (!decide (c=2)),.bool (!decide (c=1))]]:=rfl;have hm:(w.runs.map Qn.Rq.pv).take w.runs.length=w.runs.map Qn.Rq.pv:=fQ (by simp);have IU:w.runs.length<=1000000:=by omega
 have WD:w.runs.length+1<=1000000:=by omega
 rw[mL,iS,List.map_nil]at H2 MV;generalize hxx:Qn.Rq.pv (pQ a b c)=xx at *;have nK:(w.runs.map Qn.Rq.pv++[xx]).take (w.runs.length+1)=w.runs.map Qn.Rq.pv++[xx]:=fQ (by simp);simp[aN,WN];refine BK (fun τ=>τ=rnJ w xx) ?_ ?_
 .subst hnp;simp[gL,gS,aN,IU]
  repeat' apply And.intro
  all_goals exact Sub.mk (by simp) (by simp[pU,Wk.cells])
 rintro τ rfl;simp[rnJ,pU,Wk.cells,gL,gS,aN,WD];refine .inl<|cP [.loc 54 0] [.aF false 3 (w.runs.map Qn.Rq.pv++[xx])] (by simp) (by simp[nK]) MV ?_;simp[aL,nK];refine cG [_,_] H2 ?_;by_cases he:eL 408 (rF (w.runs++[pQ a b c]))=0
 case neg=>
  have hv:V=.bN [w.pv,.i 9]:=by rw[hV,if_neg he];rfl
  rw[jE]at hv;subst hv;simp[he];rw[<-hR];exact⟨by simp,by simp⟩
 have hv:V=.bN [.agg [.aF false 7 (w.aA.map Ct.pv),.aF false 1 (w.bad.map iP),.aF false 4 (w.aM.map Lt.pv),.aF false 4 (w.aG.map Tt.pv),.aF false 3 (w.runs.map Qn.Rq.pv++[xx])],.i 0]:=by
  rw[hV,if_pos he,<-hxx];show PV.bN [.agg [_,_,_,_,.aF false 3 ((w.runs++[pQ a b c]).map Qn.Rq.pv)],_]=_;rw[mL];rfl
 subst hv;simp[he];rw[<-hR];exact⟨by simp,by simp⟩
end
def Rn:Option Int->PV
 |some v=>.bN [.i v,.bool true]
 |none=>.bN [.i 0,.bool false]
theorem ZnQ (s:ByteArray):∃(neg:Bool) (a:Nat) (ds:List UInt8),((neg=true/\a=1/\BT s 0=some 45/\0<s.size)\/(neg=false/\a=0/\(s.size=0\/∃b,BT s 0=some b/\¬(b.toNat:Int)=45/\0<s.size)))/\s.data.toList.drop a=ds/\s.size=ds.length+a/\yH s=(uB s.size ds).map fun(n:Nat)=>if neg=true then -(n:Int)else(n:Int):=by
 have hz:s.size=s.data.toList.length:=by rw[vC];rfl
 unfold yH;cases hl:s.data.toList with
 |nil=>
  refine⟨false,0,[],.inr ⟨rfl,rfl,.inl (by rw[hz,hl];rfl)⟩,rfl,by rw[hz,hl];rfl,?_⟩;rw[hz,hl];rfl
 |cons b r=>
  have h0:BT s ((0:Nat):Int)=some b:=Zt (by rw[hl];rfl);have hp:0<s.size:=by rw[hz,hl];simp
  by_cases hb:b=45
  .subst hb;refine⟨true,1,r,.inl ⟨rfl,rfl,h0,hp⟩,rfl,by rw[hz,hl];rfl,?_⟩;rw[hz,hl];rfl
  .refine⟨false,0,b::r,.inr ⟨rfl,rfl,.inr ⟨b,h0,fun h=>hb (UInt8.toNat_inj.1 ?_),hp⟩⟩,rfl,by rw[hz,hl];rfl,?_⟩
   .have:(45:UInt8).toNat=45:=rfl
    omega
   .rw[hz,hl];split
    .rename_i r' e;exact absurd (List.cons.inj e).1 hb
    .rfl
theorem ZrV {b:UInt8}:(48<=b.toNat/\b.toNat<=57->Lib.digitVal b=some (b.toNat-48))/\(¬(48<=b.toNat/\b.toNat<=57)->Lib.digitVal b=none):=by
 constructor
 .rintro⟨h1,h2⟩;have h:=Zg (d:=b.toNat-48) (by omega);have e:UInt8.ofNat (48+(b.toNat-48))=b:=UInt8.toNat_inj.1 (by rw[UInt8.toNat_ofNat'];omega);rw[e]at h;exact h
 .intro h;cases hd:Lib.digitVal b with
  |none=>rfl
  |some d=>
   obtain⟨h1,rfl⟩:=ZrJ hd;rw[UInt8.toNat_ofNat']at h;omega
theorem Zoi {b:UInt8}{l r:List UInt8}(h:Lib.digitVal b=none){n:Nat}(hn:Lib.decFrom 0 l=some n):Lib.decFrom 0 (l++b::r)=none:=by
 have:∀(l:List UInt8) (acc n:Nat),Lib.decFrom acc l=some n->Lib.decFrom acc (l++b::r)=none:=by
  intro l;induction l with
  |nil=>intro acc n _;simp only[List.nil_append,Lib.decFrom,h]
  |cons x l ih=>
   intro acc n hh;simp only[List.cons_append,Lib.decFrom]at hh ⊢;cases hx:Lib.digitVal x with
   |none=>rfl
   |some d=>rw[hx]at hh;exact ih _ _ hh
 exact this l 0 n hn
def VF (s:ByteArray)(neg:Bool)(a k n:Nat):AS:=⟨[(0,.pv (.str s)),(4,.pv (.bool neg)),(5,.pv (.i ((k+a:Nat):Int))),(6,.pv (.i (n:Int)))],[]⟩
theorem Zp2 (s:ByteArray)(hs:s.size<=1000000):aC prog 154 [.str s] (Rn (yH s)):=by
 obtain⟨neg,a,ds,hc,RY,fI,qV⟩:=ZnQ s;obtain⟨V,hV⟩:∃V,V=yH s:=⟨_,rfl⟩;rw[<-hV]at qV ⊢;clear hV;have s9:∀k,k<ds.length->∃b,ds[k]?=some b/\BT s ((k+a:Nat):Int)=some b:=fun k hk=>by
  refine⟨ds[k],bC hk,Zt ?_⟩;rw[<-bC hk,<-RY,mW,Nat.add_comm]
 refine O1 L154 ?_;intro R hR;have hI:∀c:Nat,((c:Int)=48)=(c=48):=fun c=>propext ⟨fun h=>by omega,fun h=>by omega⟩
 obtain⟨ng,Ug⟩:∃z,z=neg:=⟨_,rfl⟩;obtain⟨a',ha'⟩:∃z,z=a:=⟨_,rfl⟩;have w1:IntKind.i64.wrap ((s.size:Int)-(a:Int))=(ds.length:Int):=by rw[wrap64 (by omega)];omega
 by_cases s7:ds.length=0
 .have hn:V=none:=by rw[qV];unfold uB;rw[if_pos (.inl s7)];rfl
  subst hn;rcases hc with⟨rfl,rfl,h0,hp⟩|⟨rfl,rfl,h0⟩
  .have f1:s.size=1:=by omega
   simp[L154,h0,f1];rw[<-hR];exact⟨rfl,rfl⟩
  .have f1:s.size=0:=by omega
   simp[L154,f1];rw[<-hR];exact⟨rfl,rfl⟩
 obtain⟨b,hb,Q0⟩:=s9 0 (by omega);have hh:ds.head?=some b:=by rw[List.head?_eq_getElem?];exact hb
 by_cases lS:9<ds.length\/(b=48/\1<s.size)
 .have hn:V=none:=by
   rw[qV];unfold uB;rcases lS with h|⟨h,h'⟩
   .rw[if_pos (.inr (.inl h))];rfl
   .rw[if_pos (.inr (.inr ⟨by rw[hh,h],h'⟩))];rfl
  subst hn;rcases hc with⟨rfl,rfl,h0,hp⟩|⟨rfl,rfl,h0⟩
  case' inl=>
   have Q0:BT s 1=some b:=Q0;have f1:¬s.size=1:=by omega
   have WO:¬(s.size:Int)=1:=by omega
   have w1:IntKind.i64.wrap ((s.size:Int)-1)=(ds.length:Int):=w1;have JH:=h0;have NQ:=h0
  case' inr=>
   obtain⟨b0,h0,JH,hp⟩:=h0.resolve_left (by omega);obtain rfl:b=b0:=Option.some.inj (Q0.symm.trans h0);have Q0:BT s 0=some b:=Q0;have NQ:¬b.toNat=45:=by omega
   have f1:¬s.size=0:=by omega
   have WO:¬(s.size:Int)=0:=by omega
   have w1:IntKind.i64.wrap (s.size:Int)=(ds.length:Int):=by rw[wrap64 (by omega)];omega
  all_goals
   by_cases h9:(9:Int)<(ds.length:Int)
   .simp[L154,h0,hp,JH,f1,WO,w1,h9];rw[<-hR];exact⟨rfl,rfl⟩
   .obtain⟨rfl,g1⟩:=lS.resolve_left (by omega);have g2:(1:Int)<(s.size:Int):=by omega
    simp[L154,h0,hp,f1,WO,w1,h9,Q0,g2];rw[<-hR];exact⟨rfl,rfl⟩
 have hn:V=(Lib.decFrom 0 ds).map fun(n:Nat)=>if neg=true then -(n:Int)else(n:Int):=by
  rw[qV];unfold uB;rw[if_neg];rintro(h|h|⟨h,h'⟩)
  .exact s7 h
  .exact lS (.inl h)
  .rw[hh]at h;exact lS (.inr ⟨Option.some.inj h,h'⟩)
 clear qV RY;have h9:¬(9:Int)<(ds.length:Int):=fun h=>lS (.inl (by omega))
 have q0:b.toNat=48->¬1<s.size:=fun e h=>lS (.inr ⟨UInt8.toNat_inj.1 (by have:(48:UInt8).toNat=48:=rfl;omega),h⟩)
 rw[<-Ug]at hn;rcases hc with⟨rfl,rfl,h0,hp⟩|⟨rfl,rfl,h0⟩
 case' inl=>
  have Q0:BT s 1=some b:=Q0;have f1:¬s.size=1:=by omega
  have WO:¬(s.size:Int)=1:=by omega
  have w1:IntKind.i64.wrap ((s.size:Int)-1)=(ds.length:Int):=w1;have q1:¬b.toNat=48:=fun e=>by have:=q0 e;omega
  simp[L154,h0,hp,WO,w1,h9,Q0,q1,hI]
 case' inr=>
  obtain⟨b0,h0,JH,hp⟩:=h0.resolve_left (by omega);obtain rfl:b=b0:=Option.some.inj (Q0.symm.trans h0);have NQ:¬b.toNat=45:=by omega
  have f1:¬s.size=0:=by omega
  have WO:¬(s.size:Int)=0:=by omega
  have w1:IntKind.i64.wrap (s.size:Int)=(ds.length:Int):=by rw[wrap64 (by omega)];omega
  by_cases q1:b.toNat=48
  case' pos=>
   have q2:=q0 q1;have q3:¬(1:Int)<(s.size:Int):=by omega
   simp[L154,h0,hp,f1,w1,h9,q1,q3]
  case' neg=>simp[L154,h0,hp,JH,f1,w1,h9,q1,hI]
 all_goals
  refine eP (fun m τ=>∃k n:Nat,k<=ds.length/\m=ds.length-k/\Lib.decFrom 0 (ds.take k)=some n/\n<10^k/\τ=VF s ng a' k n) ⟨ds.length,VF s ng a' 0 0,Sub.mk (by simp[Ug,ha']) (by simp),0,0,gW _,rfl,rfl,by decide,rfl⟩ ?_;rintro J hJ m τ ⟨k,n,hk,rfl,E9,IM,rfl⟩;by_cases aI:k<ds.length
  .obtain⟨x,hx,Kl⟩:=s9 k aI;rw[<-ha']at Kl;have hp9:(10:Nat)^k<=10^9:=Nat.pow_le_pow_right (by decide) (by omega);have jF:((k+a':Nat):Int)<(s.size:Int):=by omega
   have kN:k+a'<s.size:=by omega
   have w2:IntKind.i64.wrap (((k+a':Nat):Int)+1)=((k+1+a':Nat):Int):=by rw[wrap64 (by omega)];omega
   have hx8:=UInt8.toNat_lt x;have II:ds=ds.take k++x::ds.drop (k+1):=by
    obtain⟨l1,e1⟩:=cD.1 hx;rw[<-e1,<-AY l1,List.take_append_drop]
   by_cases c1:x.toNat<48\/57<x.toNat
   .have hv:V=none:=by
     rw[hn,II,Zoi (ZrV.2 (by omega)) E9];rfl
    subst hv;clear hJ;by_cases c2:x.toNat<48
    .have Fi:(x.toNat:Int)<48:=by omega
     simp[-Int.natCast_add,VF,Kl,jF,Fi];rw[<-hR];exact⟨rfl,rfl⟩
    .have Fi:¬(x.toNat:Int)<48:=by omega
     have c3:57<x.toNat:=by omega
     have Xt:(57:Int)<(x.toNat:Int):=by omega
     simp[-Int.natCast_add,VF,Kl,jF,Fi,Xt];rw[<-hR];exact⟨rfl,rfl⟩
   .have c2:¬x.toNat<48:=by omega
    have Fi:¬(x.toNat:Int)<48:=by omega
    have c3:¬57<x.toNat:=by omega
    have Xt:¬(57:Int)<(x.toNat:Int):=by omega
    have w3:IntKind.u8.wrap ((x.toNat:Int)-48)=((x.toNat-48:Nat):Int):=by
     rw[show IntKind.u8.wrap ((x.toNat:Int)-48)=((x.toNat:Int)-48)%256 from rfl];omega
    have w4:IntKind.i64.wrap ((x.toNat-48:Nat):Int)=((x.toNat-48:Nat):Int):=wrap64 (by omega);have w5:IntKind.i64.wrap (10*(n:Int))=((10*n:Nat):Int):=by rw[wrap64 (by omega)];omega
    have w6:IntKind.i64.wrap (((10*n:Nat):Int)+((x.toNat-48:Nat):Int))=((10*n+(x.toNat-48):Nat):Int):=by rw[wrap64 (by omega)];omega
    have U3:Lib.decFrom 0 (ds.take (k+1))=some (10*n+(x.toNat-48)):=by
     rw[mV,hx];show Lib.decFrom 0 (ds.take k++[x])=_;rw[Qf,E9,Option.bind_some,ZrV.1 (by omega),vB];congr 1;omega
    have Uf:10*n+(x.toNat-48)<10^(k+1):=by rw[Nat.pow_succ];omega
    have aB:=hJ _ _ ⟨k+1,_,aI,rfl,U3,Uf,rfl⟩;have aH:ds.length-(k+1)<ds.length-k:=by omega
    clear hJ;simp[-Int.natCast_add,-Int.natCast_mul,VF,Kl,jF,Fi,Xt,w2,w3,w4,w5,w6];exact⟨_,_,aH,Sub.mk (by simp) (by simp),aB⟩
  have he:k=ds.length:=by omega
  subst he;rw[nD]at E9;rw[E9]at hn;have jF:¬((ds.length+a':Nat):Int)<(s.size:Int):=by omega
  have kN:¬ds.length+a'<s.size:=by omega
  have hp9:(10:Nat)^ds.length<=10^9:=Nat.pow_le_pow_right (by decide) (by omega);have w7:IntKind.i64.wrap (-(n:Int)) = -(n:Int):=wrap64 (by omega);clear hJ;subst hn;subst Ug;simp[-Int.natCast_add,VF,jF,w7];rw[<-hR];exact⟨rfl,rfl⟩
def tZ (s:ByteArray):Nat->List ByteArray×Nat
 |0=>([],0)
 |i+1=>if i=s.size\/s.data.toList[i]?=some 32 then((tZ s i).1++[s.extract (tZ s i).2 i],i+1)else tZ s i
theorem Nu {s:ByteArray}{i:Nat}:tZ s (i+1)=if i=s.size\/s.data.toList[i]?=some 32 then((tZ s i).1++[s.extract (tZ s i).2 i],i+1)else tZ s i:=rfl
theorem Mj (s:ByteArray):∀i,(tZ s i).2<=i/\(tZ s i).1.length<=i
 |0=>⟨fH _,fH _⟩
 |i+1=>by
  obtain⟨h1,h2⟩:=Mj s i;rw[Nu];split
  .exact⟨fH _,by rw[gF];simp;omega⟩
  .exact⟨by omega,by omega⟩
theorem ZnF {l:List UInt8}{f i:Nat}(h:∀k,f<=k->k<i->l[k]?≠some 32):∀c∈(l.drop f).take (i-f),c≠32:=fun c hc e=>by
 obtain⟨k,hk⟩:=List.getElem?_of_mem hc;obtain⟨hl,_⟩:=cD.1 hk;rw[gM]at hl;rw[List.getElem?_take_of_lt (by omega),mW]at hk;exact h (f+k) (by omega) (by omega) (by rw[hk,e])
theorem ZrE (s:ByteArray):∀i,i<=s.size->(∀k,(tZ s i).2<=k->k<i->s.data.toList[k]?≠some 32)/\(tZ s i).1.map (·.data.toList)++I8 (s.data.toList.drop (tZ s i).2)=I8 s.data.toList
 |0,_=>⟨fun k _ h=>absurd h (Nat.not_lt_zero k),rfl⟩
 |i+1,hi=>by
  obtain⟨h1,h2⟩:=ZrE s i (by omega);obtain⟨h3,_⟩:=Mj s i;have hz:s.size=s.data.toList.length:=by rw[vC];rfl
  rw[Nu];by_cases hc:s.data.toList[i]?=some 32
  .rw[if_pos (.inr hc)];refine⟨fun k ha hb=>?_,?_⟩
   .have ha:i+1<=k:=ha;omega
   .show((tZ s i).1++[s.extract (tZ s i).2 i]).map (·.data.toList)++I8 (s.data.toList.drop (i+1))=_;rw[<-h2,mL,I3];congr 1;show(s.extract (tZ s i).2 i).data.toList::I8 (s.data.toList.drop (i+1))=_;rw[Lib.extract_data];generalize(tZ s i).2=f at h1 h3 ⊢;have hd:s.data.toList.drop f=(s.data.toList.drop f).take (i-f)++32::s.data.toList.drop (i+1):=by
     have e1:(s.data.toList.drop f).drop (i-f)=s.data.toList.drop i:=by rw[List.drop_drop];congr 1;omega
     have e2:s.data.toList.drop i=32::s.data.toList.drop (i+1):=by
      obtain⟨hl,he⟩:=cD.1 hc;rw[AY hl,he]
     rw[<-e2,<-e1,List.take_append_drop]
    conv=>rhs;rw[hd]
    rw[Zfk (ZnF h1)]
  .rw[if_neg (by rintro(h|h);omega;exact hc h)];refine⟨fun k ha hb=>?_,h2⟩;by_cases hk:k=i
   .rw[hk];exact hc
   .exact h1 k ha (by omega)
theorem Zs3 (s:ByteArray):(tZ s (s.size+1)).1=xX s blank:=by
 apply ZeR;rw[Zph,Nu,if_pos (.inl rfl)];obtain⟨h1,h2⟩:=ZrE s s.size (fH _);obtain⟨h3,_⟩:=Mj s s.size;have hz:s.size=s.data.toList.length:=by rw[vC];rfl
 rw[<-h2];show((tZ s s.size).1++[s.extract (tZ s s.size).2 s.size]).map (·.data.toList)=_;rw[mL];congr 1;show[(s.extract (tZ s s.size).2 s.size).data.toList]=_;rw[Lib.extract_data];generalize(tZ s s.size).2=f at h1 h3 ⊢;have hn:=ZnF h1;rw[fQ (by rw[uQ];omega)]at hn ⊢;rw[Zfl hn]
def HL (s:ByteArray):PV:=match xX s blank,P0 s with
 |w::_,some (_,l)=>.bN [.str w,.aF false 1 (l.map iP),.bool true]
 |_,_=>.bN [.str ⟨#[]⟩,.emp (some true),.bool false]
def iH (w:ByteArray):Int:=match gY w with
 |some (k,_)=>(k:Int)
 |none=>-1
theorem Ztl (w:ByteArray):iH w=if w=kD then 7 else if w=pL\/w=kC then 1 else if w=pK\/w=pJ then 3 else if w=kB then 4 else -1:=by
 by_cases h0:w=kD
 .subst h0;rfl
 by_cases h1:w=pL
 .subst h1;rfl
 by_cases h2:w=pK
 .subst h2;rfl
 by_cases h3:w=kB
 .subst h3;rfl
 by_cases h4:w=kC
 .subst h4;rfl
 by_cases h5:w=pJ
 .subst h5;rfl
 unfold iH gY;simp only[if_neg h0,if_neg h3,h1,h2,h4,h5,or_self,if_false]
def PZ (w:ByteArray)(c b p l r t:Prop):Prop:=(w=kD)=c/\(w=pL)=b/\(w=kC)=p/\(w=pK)=l/\(w=pJ)=r/\(w=kB)=t
theorem ZC (w:ByteArray):PZ w True False False False False False/\iH w=7\/PZ w False True False False False False/\iH w=1\/PZ w False False True False False False/\iH w=1\/PZ w False False False True False False/\iH w=3\/PZ w False False False False True False/\iH w=3\/PZ w False False False False False True/\iH w=4\/PZ w False False False False False False/\iH w = -1:=by
 by_cases h0:w=kD
 .subst h0;exact .inl ⟨⟨eq_self _,eq_false (by decide),eq_false (by decide),eq_false (by decide),eq_false (by decide),eq_false (by decide)⟩,rfl⟩
 by_cases h1:w=pL
 .subst h1;exact .inr (.inl ⟨⟨eq_false (by decide),eq_self _,eq_false (by decide),eq_false (by decide),eq_false (by decide),eq_false (by decide)⟩,rfl⟩)
 by_cases h2:w=kC
 .subst h2;exact .inr (.inr (.inl ⟨⟨eq_false (by decide),eq_false (by decide),eq_self _,eq_false (by decide),eq_false (by decide),eq_false (by decide)⟩,rfl⟩))
 by_cases h3:w=pK
 .subst h3;exact .inr (.inr (.inr (.inl ⟨⟨eq_false (by decide),eq_false (by decide),eq_false (by decide),eq_self _,eq_false (by decide),eq_false (by decide)⟩,rfl⟩)))
 by_cases h4:w=pJ
 .subst h4;exact .inr (.inr (.inr (.inr (.inl ⟨⟨eq_false (by decide),eq_false (by decide),eq_false (by decide),eq_false (by decide),eq_self _,eq_false (by decide)⟩,rfl⟩))))
 by_cases h5:w=kB
 .subst h5;exact .inr (.inr (.inr (.inr (.inr (.inl ⟨⟨eq_false (by decide),eq_false (by decide),eq_false (by decide),eq_false (by decide),eq_false (by decide),eq_self _⟩,rfl⟩)))))
 exact .inr (.inr (.inr (.inr (.inr (.inr ⟨⟨eq_false h0,eq_false h1,eq_false h2,eq_false h3,eq_false h4,eq_false h5⟩,by rw[Ztl];simp only[h0,h1,h2,h3,h4,h5,or_self,if_false]⟩)))))
theorem Ztm (w:ByteArray):-1<=iH w/\iH w<=7:=by
 unfold iH;cases hw:gY w with
 |none=>exact⟨by decide,by decide⟩
 |some p=>
  obtain⟨k,g⟩:=p
  have:=Zke hw
  dsimp only;omega
theorem ZpN {s w:ByteArray}{r:List ByteArray}(h:xX s blank=w::r)(hn:(r.length:Int)≠iH w\/mN r=none):HL s=.bN [.str ⟨#[]⟩,.emp (some true),.bool false]:=by
 have hp:P0 s=none:=by
  unfold P0;rw[h];dsimp only;unfold iH at hn;cases hw:gY w with
  |none=>rfl
  |some p=>
   obtain⟨k,g⟩:=p;rw[hw]at hn;dsimp only at hn ⊢;rcases hn with hn|hn
   .rw[if_neg (by omega)]
   .rw[hn];split<;>rfl
 unfold HL;rw[hp,h]
theorem ZpM {s w:ByteArray}{r:List ByteArray}{l:List Int}(h:xX s blank=w::r)(hm:(r.length:Int)=iH w)(hl:mN r=some l):HL s=.bN [.str w,.aF false 1 (l.map iP),.bool true]:=by
 unfold HL P0;rw[h];dsimp only;unfold iH at hm;cases hw:gY w with
 |none=>rw[hw]at hm;dsimp only at hm;omega
 |some p=>
  obtain⟨k,g⟩:=p;rw[hw]at hm;dsimp only at hm ⊢;rw[if_pos (by omega),hl];rfl
theorem ZnA (s:ByteArray):(P0 s=none/\HL s=.bN [.str ⟨#[]⟩,.emp (some true),.bool false])\/∃w k g nums,P0 s=some (g,nums)/\gY w=some (k,g)/\nums.length=k/\HL s=.bN [.str w,.aF false 1 (nums.map iP),.bool true]:=by
 cases hs:xX s blank with
 |nil=>
  have h:=Mc s;rw[hs]at h;cases h
 |cons w r=>
  cases hp:P0 s with
  |none=>
   refine .inl ⟨rfl,?_⟩;unfold HL;rw[hp,hs]
  |some q=>
   obtain⟨g,nums⟩:=q;have MY:=hp;unfold P0 at hp;rw[hs]at hp;dsimp only at hp;cases hw:gY w with
   |none=>rw[hw]at hp;cases hp
   |some p=>
    obtain⟨k,g'⟩:=p;rw[hw]at hp;dsimp only at hp;split at hp
    .rename_i hk;obtain⟨l,h1,h2⟩:=eB.1 hp;cases h2;refine .inr ⟨w,k,g,nums,rfl,hw,(Zhw h1).1.trans hk,?_⟩;unfold HL;rw[MY,hs]
    .cases hp
theorem UZ {w v:ByteArray}{l:List UInt8}(h:v.data.toList=l):(w.toList==l)=decide (w=v):=by rw[<-h,<-Lib.toList_data];exact A9 w v
theorem Ra (w:ByteArray):(w.toList==[99,101,114,116])=decide (w=kD):=UZ rfl
theorem Rb (w:ByteArray):(w.toList==[98,97,100])=decide (w=pL):=UZ rfl
theorem Qy (w:ByteArray):(w.toList==[112,97,115,115])=decide (w=kC):=UZ rfl
theorem Qz (w:ByteArray):(w.toList==[108,111,116])=decide (w=pK):=UZ rfl
theorem weR (w:ByteArray):(w.toList==[114,117,110])=decide (w=pJ):=UZ rfl
theorem Qx (w:ByteArray):(w.toList==[116,101,115,116])=decide (w=kB):=UZ rfl
section
def HK (s:ByteArray)(P:List ByteArray)(f i:Nat):AS:=⟨[(0,.pv (.str s)),(5,.vec (.loc 35 0) 1 0 P.length),(6,.pv (.i (f:Int))),(7,.pv (.i (i:Int)))],[(.loc 35 0,.arr 9 1 (P.map .str))]⟩
def Ac (P:List ByteArray)(l:List Int)(k:Nat):AS:=⟨[(5,.vec (.loc 35 0) 1 0 P.length),(9,.vec (.loc 75 0) 1 0 l.length),(10,.pv (.i (k:Int)))],[(.loc 75 0,.arr 3 1 (l.map iP)),(.loc 35 0,.arr 9 1 (P.map .str))]⟩
theorem Zs5 (s:ByteArray)(hs:s.size<=1000):aC prog 106 [.str s] (HL s):=by
 have hz:s.size=s.data.toList.length:=by rw[vC];rfl
 refine Q6 [.loc 75 0] L106 ?_;intro R hR;simp[L106];refine eP (fun m τ=>∃i:Nat,i<=s.size+1/\m=s.size+1-i/\τ=HK s (tZ s i).1 (tZ s i).2 i) ⟨s.size+1,HK s [] 0 0,Sub.trans' (Sub.mk (by simp[AS.cW]) (by simp[AS.cW])) (cW 35 9 1 5 rfl (by decide)),0,gW _,rfl,rfl⟩ ?_;rintro J hJ m τ ⟨i,hi,rfl,rfl⟩;obtain⟨hf,mJ⟩:=Mj s i;have iI:=Nu (s:=s) (i:=i);by_cases aI:i<=s.size
 .have aB:=hJ _ _ ⟨i+1,by omega,rfl,rfl⟩;have aH:s.size+1-(i+1)<s.size+1-i:=by omega
  have hw:=bK (k:=i) (by omega);have s5:(i:Int)<=(s.size:Int):=by omega
  rw[iI]at aB;clear hJ iI;generalize tZ s i=q at *;obtain⟨P,f⟩:=q;dsimp only at *;have hp6:P.length<=999999:=by omega
  have hp7:P.length+1<=1000000:=by omega
  have jX:List.take P.length (P.map PV.str)=P.map PV.str:=fQ (by rw[fZ];exact fH _);by_cases Vi:i=s.size
  .rw[if_pos (.inl Vi)]at aB;have hE1:((i:Int)=(s.size:Int))=True:=eq_true (by omega);have AR:(i=s.size)=True:=eq_true Vi;have Vr:(f:Int)<=(i:Int):=by omega
   simp[HK,aI,s5,hE1,hf,aN,hw,hp7];exact⟨_,_,aH,Sub.mk (by simp) (by simp),aB⟩
  .have Cs:¬(i:Int)=(s.size:Int):=by omega
   obtain⟨b,hb⟩:∃b,s.data.toList[i]?=some b:=⟨s.data.toList[i]'(by omega),bC _⟩;have hsa:=Zt hb;have kN:i<s.size:=by omega
   by_cases Lb:b=32
   .rw[if_pos (.inr (by rw[hb,Lb]))]at aB;subst Lb;have Vr:(f:Int)<=(i:Int):=by omega
    simp[HK,aI,s5,Cs,hsa,hf,aN,hw,hp7];exact⟨_,_,aH,Sub.mk (by simp) (by simp),aB⟩
   .rw[if_neg (by rintro(h|h);exact Vi h;rw[hb]at h;exact Lb (Option.some.inj h))]at aB;have SC:¬b.toNat=32:=fun h=>Lb (UInt8.toNat_inj.1 (by have:(32:UInt8).toNat=32:=rfl;omega))
    have NR:¬(b.toNat:Int)=32:=by omega
    simp[HK,s5,Cs,hsa,NR,hw];exact⟨_,_,aH,Sub.mk (by simp[HK]) (by simp[HK]),aB⟩
 have he:i=s.size+1:=by omega
 subst he;have s5:¬(s.size:Int)+1<=(s.size:Int):=by omega
 clear hJ aI iI;rw[Zs3]at *;have hpz:∀x∈xX s blank,x.size<=1000000:=fun x hx=>by
  have:=Zem blank _ s x hx
  omega
 generalize(tZ s (s.size+1)).2=f at *;cases jP:xX s blank with
 |nil=>
  have h:=Mc s;rw[jP]at h;cases h
 |cons w0 r=>
 rw[jP]at hpz mJ;have Up:=Ztm w0;have k8:IntKind.i64.wrap 8=8:=rfl;have hen:=ZpN jP;have lE:=fun l h1 h2=>ZpM (l:=l) jP h1 h2
 have r5:r.length<=1001:=by rw[pI]at mJ;omega
 have qV:=fun x hx=>Zp2 x (hpz x hx)
 clear mJ;rcases ZC w0 with h|h|h|h|h|h|h
 all_goals
  obtain⟨⟨e0,e1,e2,e3,e4,e5⟩,hm⟩:=h;by_cases hlen:(r.length:Int)=iH w0
  case neg=>
   have T7:=hen (.inl hlen);have oS:¬(r.length:Int)+1=iH w0+1:=by omega
   rw[hm]at oS;simp at oS;simp[HK,s5,bV,Ra,Rb,Qy,Qz,weR,Qx,Qw,Jn,Jm,Jl,k8,e0,e1,e2,e3,e4,e5,oS];rw[<-hR,T7];exact⟨rfl,rfl⟩
  have oS:(r.length:Int)+1=iH w0+1:=by omega
  rw[hm]at oS
  first|(exfalso;omega)|simp at oS
 all_goals
  replace oS:=eq_true oS;simp[HK,s5,bV,Ra,Rb,Qy,Qz,weR,Qx,Jn,Jm,Jl,k8,e0,e1,e2,e3,e4,e5,oS];clear oS;have lE:=fun l h=>lE l hlen h
  refine eP (fun m τ=>∃(k:Nat) (l:List Int),1<=k/\k<=r.length+1/\m=r.length+1-k/\mN (r.take (k-1))=some l/\l.length=k-1/\τ=Ac (w0::r) l k) ⟨r.length,Ac (w0::r) [] 1,Sub.trans' (Sub.mk (by simp[AS.cW]) (by simp[AS.cW])) (cW 75 3 1 9 rfl (by decide)),1,[],fH _,by omega,rfl,rfl,rfl,rfl⟩ ?_;rintro J hJ m τ ⟨k,l,iC,hk,rfl,pG,rJ,rfl⟩;have hPL:((w0::r).map PV.str).length=r.length+1:=by simp
  by_cases aI:k<r.length+1
  .obtain⟨x,hx⟩:∃x,r[k-1]?=some x:=⟨r[k-1],bC (by omega)⟩;have hg:((w0::r).map PV.str)[k]?=some (.str x):=by
    rw[bY,show k=k-1+1 by omega,List.getElem?_cons_succ,hx];rfl
   have hw:=bK (k:=k) (by omega);have iI:=qV x (List.mem_cons_of_mem _ (dL hx));have aH:r.length+1-(k+1)<r.length+1-k:=by omega
   have jF:(k:Int)<(r.length:Int)+1:=by omega
   have jX:r.take k=r.take (k-1)++[x]:=by rw[show k=k-1+1 by omega,mV,Nat.add_sub_cancel,hx];rfl
   rw[ZuO]at iI;cases T4:lO x with
   |none=>
    have T7:=hen (.inr (Zew T4 (dL hx)));rw[T4]at iI;clear hJ;unfold Ac;generalize(w0::r).map PV.str=PP at *;simp[aI,jF,↓hg,bV];refine .inl<|cQ [] [.str x] iI ?_;simp[Rn];rw[<-hR,T7];exact⟨rfl,by simp⟩
   |some v=>
    rw[T4]at iI;have aB:=hJ _ _ ⟨k+1,l++[v],by omega,by omega,rfl,by rw[Nat.add_sub_cancel,jX];exact Zev T4 pG,by rw[gF];simp;omega,rfl⟩;clear hJ;have IU:l.length+1<=1000000:=by omega
    have WD:l.length<=999999:=by omega
    have hlk:List.take l.length (l.map iP)=l.map iP:=fQ (by rw[fZ];exact fH _);unfold Ac at aB ⊢;generalize(w0::r).map PV.str=PP at *;simp[hPL,aI,jF,↓hg,bV,aN];refine .inl<|cQ [] [.str x] iI ?_;simp[Rn,IU,hw,aN];exact⟨_,_,aH,Sub.mk (by simp) (by simp[iP]),aB⟩
  .have he:k=r.length+1:=by omega
   subst he;rw[Nat.add_sub_cancel,nD]at pG;have T7:=lE l pG;have hlk:List.take l.length (l.map iP)=l.map iP:=fQ (by rw[fZ];exact fH _);have hg0:((w0::r).map PV.str)[0]?=some (.str w0):=rfl;clear hJ aI;unfold Ac;generalize(w0::r).map PV.str=PP at *;simp[↓hg0,hlk,bV];rw[<-hR,T7];exact⟨rfl,by simp⟩
attribute [local irreducible] Bk.rD eL Bk.contra Bk.held Bk.span Bk.nums Bk.iL Bk.qM stM nB qS Bk.fault
theorem ZpC (w:Wk)(r:Except Int Wk):sX w r=.bN [(w.next r).1.pv,.i (w.next r).2]:=by
 cases r<;>rfl
theorem Zr8 {w:ByteArray}{k:Nat}{g:FuncId}(h:gY w=some (k,g)):(w=kD/\k=7/\g=168)\/(w=pL/\k=1/\g=169)\/(w=pK/\k=3/\g=170)\/(w=kB/\k=4/\g=171)\/(w=kC/\k=1/\g=172)\/(w=pJ/\k=3/\g=173):=by
 unfold gY at h
 repeat' split at h
 all_goals first
  |(cases h;subst_vars;decide)
  |cases h
theorem Si:decide (pL=kD)=false:=by decide
theorem Sh:decide (pK=kD)=false:=by decide
theorem Sg:decide (pK=pL)=false:=by decide
theorem Sf:decide (kB=kD)=false:=by decide
theorem Se:decide (kB=pL)=false:=by decide
theorem Sd:decide (kB=pK)=false:=by decide
theorem Sc:decide (kC=kD)=false:=by decide
theorem Sb:decide (kC=pL)=false:=by decide
theorem Sa:decide (kC=pK)=false:=by decide
theorem Rz:decide (kC=kB)=false:=by decide
theorem Ry:decide (pJ=kD)=false:=by decide
theorem Rx:decide (pJ=pL)=false:=by decide
theorem Rv:decide (pJ=pK)=false:=by decide
theorem Ru:decide (pJ=kB)=false:=by decide
theorem Rt:decide (pJ=kC)=false:=by decide
theorem ZV {k0:Nat}(w:Wk)(hI:sI k0 w)(hq:k0<=100)(hJ:BM w)(s:ByteArray)(hs:s.size<=1000):aC prog 63 [w.pv,.str s] (.bN [(kQ 408 w s).1.pv,.i (kQ 408 w s).2]):=by
 have WA:=Zs5 s hs;refine cS L63 ?_;have jE:w.pv=.agg [.aF false 7 (w.aA.map Ct.pv),.aF false 1 (w.bad.map iP),.aF false 4 (w.aM.map Lt.pv),.aF false 4 (w.aG.map Tt.pv),.aF false 3 (w.runs.map Qn.Rq.pv)]:=rfl;rcases ZnA s with⟨Q1,T7⟩|⟨w0,k,g,nums,hp,H0,hn,T7⟩
 .have hd:kQ 408 w s=(w,4):=by unfold kQ qB;rw[Q1];rfl
  rw[hd];rw[T7]at WA;dsimp only;rw[jE];simp[L63];refine .inl<|cQ [] [_] WA ?_;simp[aL]
 have hd:kQ 408 w s=w.next (tQ 408 w g nums):=by unfold kQ qB;rw[hp]
 rw[T7]at WA;rw[hd];have VT:∀u:Wk,u.pv=.agg [.aF false 7 (u.aA.map Ct.pv),.aF false 1 (u.bad.map iP),.aF false 4 (u.aM.map Lt.pv),.aF false 4 (u.aG.map Tt.pv),.aF false 3 (u.runs.map Qn.Rq.pv)]:=fun _=>rfl
 rcases Zr8 H0 with⟨rfl,rfl,rfl⟩|⟨rfl,rfl,rfl⟩|⟨rfl,rfl,rfl⟩|⟨rfl,rfl,rfl⟩|⟨rfl,rfl,rfl⟩|⟨rfl,rfl,rfl⟩
 case' inr.inl=>
  obtain⟨a,b,c,d,e,f,h,rfl⟩:∃a b c d e f h,nums=[a,b,c,d,e,f,h]:=by
   match nums,hn with
   |[a,b,c,d,e,f,h],_=>exact⟨a,b,c,d,e,f,h,rfl⟩
  have hc:=ZsZ w hI hq ⟨a,b,c,d,e,⟨f,h⟩⟩;rw[show((mA w.aA w.bad ⟨a,b,c,d,e,⟨f,h⟩⟩).map fun l=>{ w with aA:=l })=tQ 408 w 168 [a,b,c,d,e,f,h] from rfl]at hc
 case' inr.inr.inl=>
  obtain⟨a,rfl⟩:∃a,nums=[a]:=List.length_eq_one_iff.1 hn;have hc:=ZuD w hI hq a;rw[show((pW w.aA w.bad a).map fun l=>{ w with bad:=l })=tQ 408 w 169 [a] from rfl]at hc
 case' inr.inr.inr.inl=>
  obtain⟨a,b,c,rfl⟩:∃a b c,nums=[a,b,c]:=by
   match nums,hn with
   |[a,b,c],_=>exact⟨a,b,c,rfl⟩
  have hc:=Znd w hI hq a b c;rw[show((pR w.aM ⟨a,b,c,false⟩).map fun l=>{ w with aM:=l })=tQ 408 w 170 [a,b,c] from rfl]at hc
 case' inr.inr.inr.inr.inl=>
  obtain⟨a,b,c,d,rfl⟩:∃a b c d,nums=[a,b,c,d]:=by
   match nums,hn with
   |[a,b,c,d],_=>exact⟨a,b,c,d,rfl⟩
  have hc:=Zm8 w hI hq hJ ⟨a,b,c,d⟩;rw[show((kU (stM w.aA w.bad) (bZ w.aA w.bad w.aG) w.aM w.aG ⟨a,b,c,d⟩).map fun l=>{ w with aG:=l })=tQ 408 w 171 [a,b,c,d] from rfl]at hc
 case' inr.inr.inr.inr.inr.inl=>
  obtain⟨a,rfl⟩:∃a,nums=[a]:=List.length_eq_one_iff.1 hn;have hc:=ZsQ w hI hq hJ a;rw[show((jN (bZ w.aA w.bad w.aG) w.aM a).map fun l=>{ w with aM:=l })=tQ 408 w 172 [a] from rfl]at hc
 case' inr.inr.inr.inr.inr.inr=>
  obtain⟨a,b,c,rfl⟩:∃a b c,nums=[a,b,c]:=by
   match nums,hn with
   |[a,b,c],_=>exact⟨a,b,c,rfl⟩
  have hc:=Zuz w hI a b c;rw[show((runM 408 w.runs a b c).map fun l=>{ w with runs:=l })=tQ 408 w 173 [a,b,c] from rfl]at hc
 all_goals
  rw[ZpC]at hc;clear hd hp H0 hn T7;generalize w.next (tQ 408 w _ _)=r at *;obtain⟨u,er⟩:=r;dsimp only at hc ⊢;rw[VT u]at hc ⊢;rw[jE]at hc ⊢;simp[L63];refine .inl<|cQ [] [_] WA ?_;simp[aL,Ra,Rb,Qy,Qz,Qx,iP,Si,Sh,Sg,Sf,Se,Sd,Sc,Sb,Sa,Rz,Ry,Rx,Rv,Ru,Rt];refine .inl<|cQ [] [_,_] hc ?_;simp[aL]
end
section
attribute [local irreducible] Bk.rD eL Bk.contra Bk.held Bk.span Bk.nums Bk.qM stM iD
end
section
attribute [local irreducible] Bk.rD eL Bk.contra Bk.held Bk.span Bk.nums Bk.iL Bk.qM stM nB qS Bk.fault kQ
def TA:List AV:=[.pv (.emp (some true)),.pv (.emp (some true)),.pv (.emp (some true)),.pv (.emp (some true)),.pv (.emp (some true))]
def HM (L:List ByteArray)(w:Wk)(es:List Int)(k:Nat):AS:=
 ⟨[(6,.pv (.i (k:Int))),(5,.vec (.loc 28 0) 1 0 es.length),(4,.ptr (.loc 4 0) 0),(2,.ptr (.loc 2 0) 0),(0,.pv (.aF false 1 (L.map .str)))],
  [(.loc 28 0,.arr 3 1 (es.map iP)),(.loc 4 0,.cells w.cells),(.loc 2 0,.cells TA)]⟩
def Ad (L:List ByteArray)(w u:Wk)(es:List Int)(e:Int)(k:Nat):AS:=
 ⟨[(6,.pv (.i (k:Int))),(5,.vec (.loc 28 0) 1 0 es.length),(4,.ptr (.loc 4 0) 0),(2,.ptr (.loc 2 0) 0),(0,.pv (.aF false 1 (L.map .str))),(7,.ptr (.loc 7 0) 0),(23,.pv (.i e))],
  [(.loc 28 0,.arr 3 1 (es.map iP)),(.loc 4 0,.cells w.cells),(.loc 2 0,.cells TA),(.loc 7 0,.cells u.cells)]⟩
theorem Znb (L:List ByteArray)(hl:L.length<=50)(hs:∀s∈L,s.size<=200):aC prog 27 [bO L] (.bN [(cR (kQ 408) kA L).1.pv,.aF false 1 ((cR (kQ 408) kA L).2.map iP)]):=by
 have hd:∀k,k<L.length->∀s,L[k]?=some s->aC prog 63 [(cR (kQ 408) kA (L.take k)).1.pv,.str s] (.bN [(kQ 408 (cR (kQ 408) kA (L.take k)).1 s).1.pv,.i (kQ 408 (cR (kQ 408) kA (L.take k)).1 s).2]):=fun k hk s hx=>
  ZV (k0:=0+(L.take k).length) _ (Gh tK W8).1 (by rw[gM];omega) (Gh (k:=0) tK W8).2 s (by have:=hs s (dL hx);omega)
 refine Q6 [.loc 28 0] L27 ?_;intro R hR;simp[L27,bO];refine eP (fun m τ=>∃k:Nat,k<=L.length/\m=L.length-k/\τ=HM L (cR (kQ 408) kA (L.take k)).1 (cR (kQ 408) kA (L.take k)).2 k) ⟨L.length,HM L kA [] 0,?_,0,gW _,rfl,rfl⟩ ?_
 .refine Sub.trans' ?_ (cW 28 3 1 5 rfl (by decide));refine Sub.trans' ?_ (Sub.aX (s:=.loc 4 0) (i:=0) _ rfl rfl (GP 7));refine Sub.trans' ?_ (Sub.aX (s:=.loc 4 0) (i:=1) _ rfl rfl (GP 1));refine Sub.trans' ?_ (Sub.aX (s:=.loc 4 0) (i:=2) _ rfl rfl (GP 4));refine Sub.trans' ?_ (Sub.aX (s:=.loc 4 0) (i:=3) _ rfl rfl (GP 4));refine Sub.trans' ?_ (Sub.aX (s:=.loc 4 0) (i:=4) _ rfl rfl (GP 3));exact Sub.mk (by simp[AS.cW]) (by simp[AS.cW,Wk.cells,kA,TA])
 rintro J hJ m τ ⟨k,hk,rfl,rfl⟩;have qI:=Qe (D:=kQ 408) (l:=L.take k) (st:=kA);rw[gM,Nat.min_eq_left hk]at qI;by_cases aI:k<L.length
 .obtain⟨s,hx⟩:∃s,L[k]?=some s:=⟨L[k],bC aI⟩;have hg:(L.map PV.str)[k]?=some (.str s):=by rw[bY,hx];rfl
  have jX:L.take (k+1)=L.take k++[s]:=by rw[mV,hx];rfl
  have hn:=hJ (L.length-(k+1)) _ ⟨k+1,aI,rfl,rfl⟩;rw[jX,ZeI]at hn;have hc:=hd k aI s hx;have hw:=bK (k:=k) (by omega);have aH:L.length-(k+1)<L.length-k:=by omega
  clear hd hJ jX;generalize cR (kQ 408) kA (L.take k)=q at hn hc qI ⊢;obtain⟨w,es⟩:=q;dsimp only at hn hc qI ⊢;generalize kQ 408 w s=q' at hn hc;obtain⟨u,e⟩:=q';dsimp only at hn hc;have h6:es.length<=999999:=by omega
  have h7:es.length+1<=1000000:=by omega
  have oQ:(es.map iP).take es.length=es.map iP:=fQ (by simp);have jE:w.pv=.agg [.aF false 7 (w.aA.map Ct.pv),.aF false 1 (w.bad.map iP),.aF false 4 (w.aM.map Lt.pv),.aF false 4 (w.aG.map Tt.pv),.aF false 3 (w.runs.map Qn.Rq.pv)]:=rfl;have VT:u.pv=.agg [.aF false 7 (u.aA.map Ct.pv),.aF false 1 (u.bad.map iP),.aF false 4 (u.aM.map Lt.pv),.aF false 4 (u.aG.map Tt.pv),.aF false 3 (u.runs.map Qn.Rq.pv)]:=rfl;rw[jE,VT]at hc;simp[HM,Wk.cells,aI,↓hg,aN];refine BK (fun τ=>τ=Ad L w u es e k) ?_ ?_
  .simp[gL,gS]
   repeat' apply And.intro
   all_goals
    refine .inl<|cQ [] [_,_] hc ?_;simp[aL,gL,gS];exact Sub.mk (by simp) (by simp[Wk.cells,TA])
  rintro τ rfl;simp[Ad,Wk.cells,aN,h7,hw,TA];exact⟨_,_,aH,Sub.mk (by simp) (by simp[Wk.cells,TA,iP]),hn⟩
 have he:k=L.length:=by omega
 subst he;rw[nD]at qI ⊢;generalize cR (kQ 408) kA L=q at *;obtain⟨w,es⟩:=q;dsimp only at *;have oQ:(es.map iP).take L.length=es.map iP:=fQ (by simp[qI]);simp[HM,Wk.cells,aN,qI,oQ,TA];rw[<-hR];exact⟨rfl,rfl⟩
end
section
attribute [local irreducible] Bk.rD eL Bk.contra Bk.held Bk.span Bk.nums Bk.iL Bk.qM stM nB qS Bk.fault
theorem Zji {n:Nat}(w:Wk)(hI:sI n w)(hn:n<=100)(hc:(eO w.aA w.bad).contra=false)(x:Lt):aC prog 31 [w.pv,x.pv] (.bool (isRec w x)):=by
 have mZ:=Ms w hI hn hc x;have e:(qS (stM w.aA w.bad) (nB w.aA w.bad x.limit) x.num w.aG []).1=bZ w.aA w.bad w.aG x:=XQ;have hi:isRec w x=(x.passed&&!decide (bZ w.aA w.bad w.aG x=1)):=rfl;rw[e]at mZ;rw[hi];generalize bZ w.aA w.bad w.aG x=v at *;generalize(((qS (stM w.aA w.bad) (nB w.aA w.bad x.limit) x.num w.aG []).2:Nat):Int)=z at *;have jE:w.pv=.agg [.aF false 7 (w.aA.map Ct.pv),.aF false 1 (w.bad.map iP),.aF false 4 (w.aM.map Lt.pv),.aF false 4 (w.aG.map Tt.pv),.aF false 3 (w.runs.map Qn.Rq.pv)]:=rfl;have Kg:x.pv=.agg [.i x.num,.i x.pieces,.i x.limit,.bool x.passed]:=rfl;rw[jE,Kg]at mZ ⊢;refine O1 L31 ?_;intro R hR;simp[L31];refine .inl<|cQ [] [_,_] mZ ?_;simp[aL];cases hp:x.passed<;>simp<;>rw[<-hR]<;>simp[hp]
end
theorem ZfX (n:Nat):oP (n:Int)=jH n:=by
 unfold oP jH;rw[Lib.itoa_nonneg]
def Jq (v:Int):ByteArray:=if v=1 then⟨#[32,97,99,99,101,112,116,101,100]⟩else if v=2 then⟨#[32,114,101,106,101,99,116,101,100]⟩else⟨#[32,111,112,101,110]⟩
def AE (A:ByteArray)(x:Lt)(many:Nat)(v:Int):ByteArray:=A++((⟨#[108,111,116,32]⟩++jH x.num.toNat)++⟨#[32,116,101,115,116,115,32]⟩++jH many++Jq v)
def MO (A:ByteArray)(x:Lt)(many:Nat)(v:Int):ByteArray:=if x.passed=true then AE A x many v++⟨#[32,112,97,115,115,101,100]⟩else AE A x many v
def Sj (A:ByteArray)(x:Lt)(many:Nat)(v:Int):ByteArray:=if(x.passed&&!decide (v=1))=true then MO A x many v++⟨#[32,114,101,99,97,108,108,101,100]⟩else MO A x many v
theorem Zr0 {a b:ByteArray}(h:a.data.toList=b.data.toList):a=b:=by
 apply ByteArray.ext;exact xS.1 h
theorem Ztq {w:Wk}{k:Nat}{x:Lt}(hx:w.aM[k]?=some x)(h0:0<=x.num)(hv:bZ w.aA w.bad w.aG x=1\/bZ w.aA w.bad w.aG x=2\/bZ w.aA w.bad w.aG x=3):
  bA (iG w (k+1))=Sj (bA (iG w k)) x (gO (stM w.aA w.bad) w.aG x.num) (bZ w.aA w.bad w.aG x)++⟨#[10]⟩:=by
 rw[Zfs hx];unfold rV;generalize bZ w.aA w.bad w.aG x=v at *;generalize gO (stM w.aA w.bad) w.aG x.num=m;generalize iG w k=l;obtain⟨n,hn⟩:∃n:Nat,x.num=n:=⟨x.num.toNat,by omega⟩;have e1:(oP x.num).data.toList=(jH x.num.toNat).data.toList:=by rw[hn,ZfX];rfl
 have e2:(oP (m:Int)).data.toList=(jH m).data.toList:=by rw[ZfX]
 refine Zr0 ?_;have hb:∀s:List UInt8,(bA s).data.toList=s:=fun s=>rfl
 have hs:Jq v=⟨#[32]⟩++vK v:=by
  rcases hv with rfl|rfl|rfl<;>rfl
 unfold Sj MO AE UD HX C6 dY rW;rw[hs];cases hp:x.passed<;>by_cases xM:v=1<;>simp[xM,bA,ByteArray.data_append,Wd.b,Lib.join_cons,Lib.joinTail,e1,e2,BQ,Ge,FB,OX,blank]
def SZ (F:Nat)(w:Wk):ByteArray:=
 (bA (iG w w.aM.length)++((⟨#[99,101,114,116,115,32]⟩++jH w.aA.length)++⟨#[32,104,101,108,100,32]⟩++jH (oV w)++⟨#[32,98,97,100,32]⟩++jH w.bad.length++⟨#[10]⟩))++⟨#[101,110,100,32]⟩++jH (nM F w).toNat++⟨#[10]⟩
theorem Zqz {F:Nat}{w:Wk}(h0:0<=nM F w):bA (vQ F w)=SZ F w:=by
 unfold vQ SZ;generalize iG w w.aM.length=l;obtain⟨n,hn⟩:∃n:Nat,nM F w=n:=⟨(nM F w).toNat,by omega⟩;rw[hn];refine Zr0 ?_;simp[bA,ByteArray.data_append,F5,dY,rW,Wd.b,Lib.join_cons,Lib.joinTail,Md,X1,HF,qP,blank,ZfX]
section
attribute [local irreducible] Bk.rD eL Bk.contra Bk.held Bk.span Bk.nums Bk.iL Bk.qM stM nB qS Bk.fault kQ
theorem rN3:jO 3=some 3:=rfl
attribute [local simp] rN3
theorem ZuC (q:Qn.Qu)(hq:q.ok)(e:Nat)(he:e<=40)(h1:∀u,u<e->pZ q u=false)(h2:pZ q e=true):aC prog 34 [q.pv] (.i (e:Int)):=by
 have hp:=fun u (h:u<=100)=>ZkE q hq u h
 have Ts:q.pv=.agg [.aF false 1 (q.ms.map Qn.iA),.aF false 3 (q.rs.map Qn.Rq.pv)]:=rfl;rw[Ts]at hp;refine O1 L34 ?_;intro R hR;simp[-getElem?_pos,L34,Qn.Qu.pv];refine eP (fun m τ=>∃k:Nat,k<=e/\m=e-k/\τ=⟨[(1,.ptr (.loc 1 0) 0),(3,.pv (.i (k:Int)))],[(.loc 1 0,.cells q.cells)]⟩)
  ⟨e,⟨[(1,.ptr (.loc 1 0) 0),(3,.pv (.i ((0:Nat):Int)))],[(.loc 1 0,.cells q.cells)]⟩,Sub.mk (by simp) (by simp[Qn.Qu.cells]),0,gW _,rfl,rfl⟩ ?_
 rintro J hJ m τ ⟨k,hk,rfl,rfl⟩;by_cases aI:k<40
 .have H2:=hp k (by omega);have Uq:(k:Int)<40:=by omega
  have hw:=bK (k:=k) (by omega);simp[-getElem?_pos,Uq,Qn.Qu.cells];refine cG [_,_] H2 ?_;by_cases AL:k<e
  .have hn:=hJ (e-(k+1)) _ ⟨k+1,AL,rfl,rfl⟩;rw[h1 k AL];simp[-getElem?_pos,hw];exact⟨_,_,(by omega:e-(k+1)<e-k),Sub.mk (by simp) (by simp[Qn.Qu.cells]),hn⟩
  .have Uy:k=e:=by omega
   subst Uy;rw[h2];simp[-getElem?_pos];rw[<-hR];exact⟨rfl,rfl⟩
 have AL:k=e:=by omega
 subst AL;have RX:k=40:=by omega
 subst RX;simp[-getElem?_pos];rw[<-hR];exact⟨rfl,rfl⟩
theorem Zvb {rs:List Qn.Rq}(hc:(rF rs).check=0)(h:eL 408 (rF rs)=0)(w:Wk)(hw:w.runs=rs):∃e:Nat,nM 408 w=e/\e<=40/\(∀u,u<e->pZ (rF rs) u=false)/\pZ (rF rs) e=true:=by
 have hq:=Qn.Qu.XC hc;unfold eL at h;rw[if_neg (by rw[hc];exact fun h=>h rfl)]at h;rcases Qn.K3 (F:=408) (by decide) hq with⟨p,h1,h2,h3,h4⟩|⟨h1,h2⟩
 .refine⟨p.length,?_,h2.len,fun u hu=>?_,(Ny hq).2 (Qn.tJ.no hq h2 h3)⟩
  .unfold nM Qn.Qu.GJ;rw[hw,if_neg (by rw[hc];exact fun h=>h rfl),h1]
  .rcases h4 with h4|h4
   .omega
   .exact Bool.eq_false_iff.2 fun h5=>(Ny hq).1 h5 (h4.less (by omega))
 .rw[h1]at h;cases h
def BU (l:List UInt8)(k:Nat):List (Nat×AV):=[(3,.ptr (.loc 3 0) 0),(5,.pv (.str (bA l))),(6,.pv (.i (k:Int)))]
def PM (w:Wk)(l:List UInt8)(k:Nat):AS:=⟨BU l k,[(.loc 3 0,.cells w.cells)]⟩
def uC (x:Lt):List AV:=[.pv (.i x.num),.pv (.i x.pieces),.pv (.i x.limit),.pv (.bool x.passed)]
def J7 (w:Wk)(x:Lt)(l:List UInt8)(k m j:Nat):AS:=⟨(9,.pv (.i (j:Int)))::(8,.pv (.i (m:Int)))::(7,.ptr (.loc 7 0) 0)::BU l k,[(.loc 7 0,.cells (uC x)),(.loc 3 0,.cells w.cells)]⟩
def ZT (w:Wk)(x:Lt)(A T V:ByteArray)(k:Nat):AS:=⟨[(62,.pv (.str A)),(70,.pv (.str T)),(74,.pv (.str V)),(7,.ptr (.loc 7 0) 0),(3,.ptr (.loc 3 0) 0),(6,.pv (.i (k:Int)))],[(.loc 7 0,.cells (uC x)),(.loc 3 0,.cells w.cells)]⟩
theorem Zna (L:List ByteArray)(hl:L.length<=50)(hs:∀s∈L,s.size<=200):aC prog 9 [bO L] (.str (bA (vQ 408 (cR (kQ 408) kA L).1))):=by
 have VW:=Znb L hl hs;have hI:=(Gh (l:=L) (k:=0) tK W8).1;have Ws:=(Gh (l:=L) (k:=0) tK W8).2;generalize cR (kQ 408) kA L=q at *;obtain⟨w,es⟩:=q;dsimp only at *;have dD:=Mg _ _ (show 0+L.length<=50 by omega) hI;have lD:=dD.l;have oQ:=hI.t;have IF:=Zfr w hI.bk (by have:=hI.c;omega) (by have:=hI.b;omega);have mZ:=fun x=>Ms w hI (show 0+L.length<=100 by omega) Ws.nc x
 have mO:=fun x=>Zji w hI (show 0+L.length<=100 by omega) Ws.nc x
 have jE:w.pv=.agg [.aF false 7 (w.aA.map Ct.pv),.aF false 1 (w.bad.map iP),.aF false 4 (w.aM.map Lt.pv),.aF false 4 (w.aG.map Tt.pv),.aF false 3 (w.runs.map Qn.Rq.pv)]:=rfl;rw[jE]at VW IF mZ mO;refine O1 L9 ?_;intro R hR;have hem:bA []=⟨#[]⟩:=rfl;simp[-getElem?_pos,L9];refine .inl (cQ [] [bO L] VW ?_);simp[-getElem?_pos,setAt];refine eP (fun m τ=>∃k:Nat,k<=w.aM.length/\m=w.aM.length-k/\τ=PM w (iG w k) k) ⟨w.aM.length,PM w (iG w 0) 0,Sub.mk (by simp[PM,BU,iG,hem]) (by simp[PM,Wk.cells]),0,gW _,rfl,rfl⟩ ?_;rintro J hJ m τ ⟨k,hk,rfl,rfl⟩;have r5:=Nv dD k;by_cases aI:k<w.aM.length
 .obtain⟨x,hx⟩:∃x,w.aM[k]?=some x:=⟨w.aM[k],bC aI⟩;have xL:=dD.lt x (dL hx);have hg:(w.aM.map Lt.pv)[k]?=some (.agg [.i x.num,.i x.pieces,.i x.limit,.bool x.passed]):=by rw[bY,hx];rfl
  have hw:=bK (k:=k) (by omega);have hn:=hJ (w.aM.length-(k+1)) _ ⟨k+1,aI,rfl,rfl⟩;have U9:=Ml (S:=stM w.aA w.bad) (G:=nB w.aA w.bad x.limit) (num:=x.num) (l:=w.aG) (rs:=[]) Zhv;have e:(qS (stM w.aA w.bad) (nB w.aA w.bad x.limit) x.num w.aG []).1=bZ w.aA w.bad w.aG x:=XQ;rw[e]at U9;unfold PM BU at hn;rw[Ztq hx (by have:=xL.1;omega) U9]at hn;have aH:w.aM.length-(k+1)<w.aM.length-k:=by omega
  have Tb:=mZ x;have QR:=mO x;have Kg:x.pv=.agg [.i x.num,.i x.pieces,.i x.limit,.bool x.passed]:=rfl;have hi:isRec w x=(x.passed&&!decide (bZ w.aA w.bad w.aG x=1)):=rfl;rw[e,Kg]at Tb;rw[Kg,hi]at QR;obtain⟨num,qV⟩:∃n:Nat,x.num=n:=⟨x.num.toNat,by have:=xL.1;omega⟩;have hmle:=Hn (S:=stM w.aA w.bad) (ts:=w.aG) (n:=x.num);have htx:=XG num (by have:=xL.2.1;omega);have VU:=XG (gO (stM w.aA w.bad) w.aG x.num) (by omega);have hAs:(bA (iG w k)).size<=100000:=by show(iG w k).length<=100000;omega
  clear hJ mO mZ VW;simp[-getElem?_pos,-List.getElem?_map,PM,BU,Wk.cells,aI,hg,bV,aN,setAt];refine eP (fun m τ=>∃j:Nat,j<=w.aG.length/\m=w.aG.length-j/\τ=J7 w x (iG w k) k (gO (stM w.aA w.bad) (w.aG.take j) x.num) j) ⟨w.aG.length,J7 w x (iG w k) k 0 0,Sub.mk (by simp[J7,BU]) (by simp[J7,uC,Wk.cells]),0,gW _,rfl,rfl⟩ ?_;rintro J2 sR m τ ⟨j,hj,rfl,rfl⟩;by_cases Kq:j<w.aG.length
  .obtain⟨t,AF⟩:∃t,w.aG[j]?=some t:=⟨w.aG[j],bC Kq⟩;have RQ:(w.aG.map Tt.pv)[j]?=some (.agg [.i t.fU,.i t.item,.i t.day,.i t.rd]):=by rw[bY,AF];rfl
   obtain⟨q1,q2,q3,q4,_⟩:=hI.tt t (dL AF);have bS:=IF t.fU t.item t.day t.rd (by omega) q2 q3 q4;have CS:=bK (k:=j) (by omega);have zQ:=Hn (S:=stM w.aA w.bad) (ts:=w.aG.take j) (n:=x.num);rw[gM]at zQ;have QG:=bK (k:=gO (stM w.aA w.bad) (w.aG.take j) x.num) (by omega);have Q2:=sR (w.aG.length-(j+1)) _ ⟨j+1,Kq,rfl,rfl⟩;unfold J7 BU at Q2;rw[ZgP AF]at Q2;have RB:w.aG.length-(j+1)<w.aG.length-j:=by omega
   clear sR;by_cases DE:t.fU=x.num
   case neg=>
    rw[decide_eq_false DE,Bool.false_and,if_neg (by simp),Nat.add_zero]at Q2;simp[-getElem?_pos,-List.getElem?_map,J7,BU,uC,Wk.cells,Kq,RQ,bV,aN,DE,CS];exact⟨_,_,RB,Sub.mk (by simp) (by simp[uC,Wk.cells]),Q2⟩
   simp[-getElem?_pos,-List.getElem?_map,J7,BU,uC,Wk.cells,Kq,RQ,bV,aN,DE];rw[DE]at bS;refine cG [_,_] bS ?_;rw[decide_eq_true DE,Bool.true_and]at Q2;cases Q0:stM w.aA w.bad t.item t.day with
   |false=>
    rw[Q0,if_neg (by simp),Nat.add_zero]at Q2;simp[-getElem?_pos,-List.getElem?_map,CS];exact⟨_,_,RB,Sub.mk (by simp) (by simp[uC,Wk.cells]),Q2⟩
   |true=>
    rw[Q0,if_pos rfl]at Q2;simp[-getElem?_pos,-List.getElem?_map,CS,QG];exact⟨_,_,RB,Sub.mk (by simp) (by simp[uC,Wk.cells]),Q2⟩
  have WH:j=w.aG.length:=by omega
  subst WH;rw[nD];clear sR IF;generalize gO (stM w.aA w.bad) w.aG x.num=mn at *;generalize bZ w.aA w.bad w.aG x=v at *;generalize hA:bA (iG w k)=A at *;have tO:=OU num 3 (by have:=xL.2.1;omega);have uZ:=OU mn 3 (by omega);unfold Sj MO AE at hn;rw[qV]at hn Tb QR hg;simp only[A1]at hn;generalize jH num=D1 at *;generalize jH mn=D2 at *;obtain⟨T,hT⟩:∃T,T=(⟨#[108,111,116,32]⟩:ByteArray)++D1++⟨#[32,116,101,115,116,115,32]⟩++D2:=⟨_,rfl⟩;obtain⟨V,hV⟩:∃V,V=Jq v:=⟨_,rfl⟩;rw[<-hT,<-hV]at hn;have z1:(⟨#[108,111,116,32]⟩:ByteArray).size=4:=rfl;have z2:(⟨#[32,116,101,115,116,115,32]⟩:ByteArray).size=7:=rfl;have z3:(⟨#[32,112,97,115,115,101,100]⟩:ByteArray).size=7:=rfl;have z4:(⟨#[32,114,101,99,97,108,108,101,100]⟩:ByteArray).size=9:=rfl;have z5:(⟨#[10]⟩:ByteArray).size=1:=rfl;have hTs:T.size<=30:=by rw[hT];simp only[ByteArray.size_append,z1,z2];omega
  have hVs:V.size<=9:=by rw[hV];rcases U9 with rfl|rfl|rfl<;>decide
  have s1:4+D1.size<=9223372036854775807:=by omega
  have s2:4+D1.size+7<=9223372036854775807:=by omega
  have s3:4+D1.size+7+D2.size<=9223372036854775807:=by omega
  simp[-getElem?_pos,-List.getElem?_map,J7,BU,uC,Wk.cells,bV,aN,qV,hA];refine .inl (cQ [] [_,_] Tb ?_);simp[-getElem?_pos,-List.getElem?_map,aL];refine BK (fun τ=>τ=ZT w x A T V k) ?_ ?_
  .rcases U9 with rfl|rfl|rfl
   all_goals
    simp[-getElem?_pos,-List.getElem?_map,gL,gS,bV,aN]
    repeat' (with_reducible refine And.intro ?_ ?_)
    all_goals
     first|refine cQ [] [.i (num:Int)] htx ?_|refine .inl (cQ [] [.i (num:Int)] htx ?_)
     simp[-getElem?_pos,-List.getElem?_map,gL,gS,bV,aN,ByteArray.size_append,z1,z2,s1,s2]
     repeat' (with_reducible refine And.intro ?_ ?_)
     all_goals
      first|refine cQ [] [.i (mn:Int)] VU ?_|refine .inl (cQ [] [.i (mn:Int)] VU ?_)
      simp[-getElem?_pos,-List.getElem?_map,gL,gS,bV,aN,ByteArray.size_append,z1,z2,s1,s2,s3];exact Sub.mk (by simp[ZT,hT,hV,Jq]) (by simp[ZT,uC,Wk.cells,qV])
  rintro τ rfl;have t1:T.size+V.size<=9223372036854775807:=by omega
  have t2:A.size+(T.size+V.size)<=9223372036854775807:=by omega
  have t3:A.size+(T.size+V.size)+7<=9223372036854775807:=by omega
  have t4:A.size+(T.size+V.size)+9<=9223372036854775807:=by omega
  have t5:A.size+(T.size+V.size)+7+9<=9223372036854775807:=by omega
  have t6:A.size+(T.size+V.size)+1<=9223372036854775807:=by omega
  have t7:A.size+(T.size+V.size)+7+1<=9223372036854775807:=by omega
  have t8:A.size+(T.size+V.size)+9+1<=9223372036854775807:=by omega
  have t9:A.size+(T.size+V.size)+7+9+1<=9223372036854775807:=by omega
  generalize nS:(x.passed&&!decide (v=1))=b2 at QR hn;cases hp:x.passed with
  |false=>
   rw[hp]at nS hn QR;rw[Bool.false_and]at nS;subst nS;rw[if_neg (by simp),if_neg (by simp)]at hn;simp[-getElem?_pos,-List.getElem?_map,ZT,uC,Wk.cells,bV,aN,ByteArray.size_append,t1,t2,hp,qV];refine .inl (cQ [] [_,_] QR ?_);simp[-getElem?_pos,-List.getElem?_map,aL,bV,aN,ByteArray.size_append,z5,t6,hw];exact⟨_,_,aH,Sub.mk (by simp) (by simp[Wk.cells]),hn⟩
  |true=>
   rw[hp]at nS hn QR;rw[if_pos rfl]at hn;simp[-getElem?_pos,-List.getElem?_map,ZT,uC,Wk.cells,bV,aN,ByteArray.size_append,t1,t2,t3,z3,hp,qV];refine .inl (cQ [] [_,_] QR ?_);cases b2 with
   |false=>
    rw[if_neg (by simp)]at hn;simp[-getElem?_pos,-List.getElem?_map,aL,bV,aN,ByteArray.size_append,z3,z5,t7,hw];exact⟨_,_,aH,Sub.mk (by simp) (by simp[Wk.cells]),hn⟩
   |true=>
    rw[if_pos rfl]at hn;simp[-getElem?_pos,-List.getElem?_map,aL,bV,aN,ByteArray.size_append,z3,z4,z5,t5,t9,hw];exact⟨_,_,aH,Sub.mk (by simp) (by simp[Wk.cells]),hn⟩
 .have AL:k=w.aM.length:=by omega
  subst AL;have DW:=hI.bk;have gP:=hI.c;have wM:=hI.b;have hwp':=jE;have Km:(eO w.aA w.bad).ok:=FA DW;have s8:=Mp w (by omega) (by omega);have NF:=Zhn (eO w.aA w.bad) Km;have sQ:(rF w.runs).check=0:=Zf4 w.runs hI.r6 hI.on;obtain⟨e,he,RX,q1,q2⟩:=Zvb sQ Ws.q w rfl;have NJ:=ZuC (rF w.runs) (Qn.Qu.XC sQ) e RX q1 q2;have MV:=ZkD (w.runs.map Qn.Rq.pv);have hhn:oV w=((eO w.aA w.bad).held []).length:=by
   unfold oV Bk.KF;rw[if_pos (Bk.R6.2 Km),if_pos (by decide)]
  have Ku:=XZ (b:=eO w.aA w.bad) (bad:=[]);have c1:=XG w.aA.length (by omega);have c2:=XG (oV w) (by omega);have c3:=XG w.bad.length (by omega);have c4:=XG e (by omega);rw[Zqz (by omega)]at hR;unfold SZ at hR;rw[he]at hR;simp only[A1]at hR;have d1:=OU w.aA.length 3 (by omega);have d2:=OU (oV w) 3 (by omega);have d3:=OU w.bad.length 3 (by omega);have d4:=OU e 3 (by omega);rw[hhn]at c2 d2 hR;have hAs:(bA (iG w w.aM.length)).size<=100000:=by show(iG w w.aM.length).length<=100000;omega
  clear hJ IF mZ mO VW;simp[-getElem?_pos,-List.getElem?_map,PM,BU,Wk.cells,bV,aN,setAt];generalize bA (iG w w.aM.length)=A at *;generalize jH w.aA.length=D1 at *;generalize jH ((eO w.aA w.bad).held []).length=D2 at *;generalize jH w.bad.length=D3 at *;generalize jH e=D4 at *;rw[jE]at s8;have Vl:aC prog 32 [(eO w.aA w.bad).pv,.emp (some true)] (.aF false 1 (((eO w.aA w.bad).held []).map aO)):=NF;have y1:(⟨#[99,101,114,116,115,32]⟩:ByteArray).size=6:=rfl;have y2:(⟨#[32,104,101,108,100,32]⟩:ByteArray).size=6:=rfl;have y3:(⟨#[32,98,97,100,32]⟩:ByteArray).size=5:=rfl;have y4:(⟨#[101,110,100,32]⟩:ByteArray).size=4:=rfl;have y5:(⟨#[10]⟩:ByteArray).size=1:=rfl;have p1:6+D1.size<=9223372036854775807:=by omega
  have p2:6+D1.size+6<=9223372036854775807:=by omega
  have p3:6+D1.size+6+D2.size<=9223372036854775807:=by omega
  have p4:6+D1.size+6+D2.size+5<=9223372036854775807:=by omega
  have p5:6+D1.size+6+D2.size+5+D3.size<=9223372036854775807:=by omega
  have p6:6+D1.size+6+D2.size+5+D3.size+1<=9223372036854775807:=by omega
  have p7:A.size+(6+D1.size+6+D2.size+5+D3.size+1)<=9223372036854775807:=by omega
  have p8:A.size+(6+D1.size+6+D2.size+5+D3.size+1)+4<=9223372036854775807:=by omega
  have p9:A.size+(6+D1.size+6+D2.size+5+D3.size+1)+4+D4.size<=9223372036854775807:=by omega
  have p0:A.size+(6+D1.size+6+D2.size+5+D3.size+1)+4+D4.size+1<=9223372036854775807:=by omega
  refine cQ [] [_] c1 ?_;simp[-getElem?_pos,-List.getElem?_map,aL,bV,aN,ByteArray.size_append,y1,y2,y3,y4,y5,p1,p2];refine cQ [] [_] s8 ?_;simp[-getElem?_pos,-List.getElem?_map,aL,bV,aN,ByteArray.size_append,y1,y2,y3,y4,y5,p2];refine cQ [] [_,_] Vl ?_;simp[-getElem?_pos,-List.getElem?_map,aL,bV,aN,ByteArray.size_append,y1,y2,y3,y4,y5,p2];refine cQ [] [_] c2 ?_;simp[-getElem?_pos,-List.getElem?_map,aL,bV,aN,ByteArray.size_append,y1,y2,y3,y4,y5,p3,p4];refine .inl (cQ [] [_] c3 ?_);simp[-getElem?_pos,-List.getElem?_map,aL,bV,aN,ByteArray.size_append,y1,y2,y3,y4,y5,p5,p6,p7,p8];refine .inl (cQ [] [_] MV ?_);simp[-getElem?_pos,-List.getElem?_map,aL,bV,aN,ByteArray.size_append,y1,y2,y3,y4,y5,p8];refine .inl (cQ [] [_] NJ ?_);simp[-getElem?_pos,-List.getElem?_map,aL,bV,aN,ByteArray.size_append,y1,y2,y3,y4,y5,p8];refine .inl (cQ [] [_] c4 ?_);simp[-getElem?_pos,-List.getElem?_map,aL,bV,aN,ByteArray.size_append,y1,y2,y3,y4,y5,p9,p0];rw[<-hR];exact⟨rfl,rfl⟩
end
theorem Zsa:BO (kQ 408) tI 1=.bN [.aF false 1 ([0,1].map iP),.i 0]:=by
 unfold BO;have h1:zF tI=0:=by decide +kernel
 have h2:kn (cR (kQ 408) kA tI).1 1=true:=by decide +kernel
 have h3:W9 (cR (kQ 408) kA tI).1 1 (cR (kQ 408) kA tI).1.aG.length=[0,1]:=by decide +kernel
 rw[if_pos h1,if_pos h2,h3]
theorem Zuq:BV 408 tI=.bN [.str Zjn,.i 0]:=by
 unfold BV;have h1:zF tI=0:=by decide +kernel
 have h2:vQ 408 (cR (kQ 408) kA tI).1=Zjn.data.toList:=by decide +kernel
 rw[if_pos h1,h2]
theorem ZF:HE [⟨#[97]⟩]=.bN [.aF false 1 (bP TW.data.toList),.i 0]:=by
 unfold HE;have h1:zF [⟨#[97]⟩]=0:=by decide +kernel
 have h2:kH [⟨#[97]⟩] 0=TW.data.toList:=by decide +kernel
 rw[if_pos h1,h2]
theorem Zje:aC prog 5 [] (.bool true):=by
 have hF:407<408:=by decide
 have c1:=Zvt hF (tI++tL) (by decide);rw[Zsb]at c1;have c2:=Zkd hF tI (by decide) 1;rw[Zsa]at c2;have c3:=ZlK hF tI (by decide);rw[Zuq]at c3;have c4:=Zup [⟨#[97]⟩] (by decide);rw[ZF]at c4;have c5:=Zt8 [0,1] [0,1] (by decide);generalize hw:(cR (kQ 408) kA (tI++tL)).1=w at c1;refine O1 L5 ?_;intro R hR;simp[L5];refine .inl (R8 [] (fs:=[]) (xs:=[]) (cs:=[]) (d:=11) rfl rfl ZjK ?_);rintro r B ⟨rfl,rfl⟩;refine⟨by simp,?_⟩;simp[tI,aN];refine .inl (cP [.loc 13 0] [bO (tI++tL)] (by simp) (by simp[bO,tI,tL]) c1 ?_);simp[Wk.pv];refine .inl (R8 [] (fs:=[]) (xs:=[]) (cs:=[]) (d:=19) rfl rfl ZjK ?_);rintro r B ⟨rfl,rfl⟩;refine⟨by simp,?_⟩;simp[tI];refine .inl (cP [.loc 19 0] [bO tI,.i 1] (by simp) (by simp[bO,tI]) c2 ?_);simp;refine .inl (R8 [] (fs:=[]) (xs:=[]) (cs:=[]) (d:=24) rfl rfl ZjK ?_);rintro r B ⟨rfl,rfl⟩;refine⟨by simp,?_⟩;simp[tI,aN];refine .inl (cP [.loc 24 0] [bO tI] (by simp) (by simp[bO,tI]) c3 ?_);simp;refine .inl (cP [.loc 29 0] [bO [⟨#[97]⟩]] (by simp) (by simp[bO]) c4 ?_);simp[iE,iP];refine .inl (cP [.loc 88 0] [.aF false 1 ([0,1].map iP),.aF false 1 ([0,1].map iP)] (by simp) (by simp[iP]) c5 ?_);have hs:BC (bP TW.data.toList)=some ((TW.data.toList).map fun b=>(b.toNat:Int)):=by decide +kernel
 have rI:KJ ((TW.data.toList).map fun b=>(b.toNat:Int))=TW:=by decide +kernel
 have hr:Zjn.toList=[108,111,116,32,55,32,116,101,115,116,115,32,50,32,111,112,101,110,10,99,101,114,116,115,32,49,32,104,101,108,100,32,49,32,98,97,100,32,48,10,101,110,100,32,48,10]:=by rw[Lib.toList_data];rfl
 have D8:TW.toList=[123,48,48,49,58,57,57,56,58,48,48,49,48,57,125,97,10]:=by rw[Lib.toList_data];rfl
 simp[hs,rI,hr,D8];rw[<-hR];exact⟨by simp,by simp⟩


section
attribute [local simp] Zf0 ZfZ ZfY Zdv Zfu Zfv Zer
attribute [local simp] AS.exp jY aJ.iX AV.map AV.iT rN dO Site.uS aJ.dC AV.dC AV.hZ aT cT AS.lX fB gI cA pD kF w9
end
section


theorem ZjY {L:List ByteArray}:zF L=KK L:=by
 have hf:JN L=L.all (fun s=>decide (s.size<=200)):=rfl;unfold zF KK y7;rw[hf];by_cases h1:L.length<=50
 .have I0:¬50<L.length:=by omega
  by_cases h2:L.all (fun s=>decide (s.size<=200))=true
  .simp only[h1,I0,h2];rfl
  .rw[Bool.not_eq_true]at h2;simp only[h1,I0,h2];rfl
 .have I0:50<L.length:=by omega
  simp[h1,I0]
attribute [local irreducible] Bk.rD eL Bk.contra Bk.held Bk.span Bk.nums Bk.iL Bk.qM stM nB qS Bk.fault kQ
theorem ZjO {L:List ByteArray}(h:KK L=0):y7 L=true:=by
 unfold KK at h;by_cases h':y7 L=true
 .exact h'
 .rw[if_neg h']at h;cases h
end
theorem Zni (L:List ByteArray)(hl:L.length<=9223372036854775807):aC prog 3 [bO L] (.bool true):=by
 have hth:=Zt4 L hl;refine O1 L3 ?_;intro R hR;simp[-getElem?_pos,L3];refine cG [bO L] hth ?_;cases ht:rO L with
 |false=>
  simp[-getElem?_pos];refine cG [] Zje ?_;simp[-getElem?_pos];rw[<-hR];exact⟨rfl,by simp⟩
 |true=>
 have Ks:L.length<=55:=by
  unfold rO at ht;rw[dK,decide_eq_true_eq]at ht;exact ht.2
 have Wb:=Zt5 L (by omega);have qI:=Zq7 L (by omega);have mJ:=ZlK (F:=408) (by decide) L (by omega);unfold BV at mJ;rw[ZjY]at mJ;simp[-getElem?_pos];refine .inl (cQ [] [bO L] Wb ?_);simp[-getElem?_pos];refine .inl (cQ [] [bO L] mJ ?_);by_cases hf:KK L=0
 case neg=>
  have h3:KK L=3:=by
   unfold KK at hf ⊢;by_cases h':y7 L=true
   .rw[if_pos h']at hf;exact absurd rfl hf
   .rw[if_neg h']
  rw[if_neg hf];rw[h3]at qI;simp[-getElem?_pos];refine cG [bO L] qI ?_;simp[-getElem?_pos];refine cG [] Zje ?_;simp[-getElem?_pos];rw[<-hR];exact⟨rfl,by simp⟩
 rw[if_pos hf];rw[hf]at qI;obtain⟨AJ,Bq⟩:=Zjk (ZjO hf);have VW:=Zna L AJ Bq;have e:(⟨(vQ 408 (cR (kQ 408) kA L).1).toArray⟩:ByteArray)=bA (vQ 408 (cR (kQ 408) kA L).1):=rfl;rw[e];generalize bA (vQ 408 (cR (kQ 408) kA L).1)=S at *;simp[-getElem?_pos];refine cG [bO L] qI ?_;simp[-getElem?_pos];refine cG [bO L] VW ?_;simp[-getElem?_pos];refine cG [] Zje ?_;simp[-getElem?_pos];rw[<-hR];exact⟨rfl,by simp⟩
section
open Go.ChangeShapes Go.WideShapes Go.ChangeAt Go.RowKit
theorem Zfc (v0:Value)(W:World){H:Type}{enc:TypeId×Value->H}{base:Nat}{sp:Nat->Bool}{hd:Bool}{d0:DataW H}{p0:List MemPlace}(hg:nP W.mem W)
  (k0:Value.okWide prog W .any base 22 v0) (h0:DataW.Trod enc prog W 0 sp hd 22 v0 d0 p0):
  Calls prog 3 #[v0] W fun e w'=>e=.returned (.bool true)/\cY [] W w':=by
 obtain⟨n0,h0⟩:=h0;obtain⟨s0,w0,r0⟩:=ZsY k0 h0;refine Zme (xs:=[bO s0]) (b:=true) ((Zni s0 w0).mono (fun _ _ h=>h.1)) rfl (fun j v x e1 e2=>?_) hg
 match j with
 |0=>simp at e1 e2;subst e1 e2;exact r0
 |j+1=>simp at e1
theorem ZeE (os:Os)(started:os.Started)(H:Type)(enc:TypeId×Value->H):
  ReturnsInHanded {} checked os 3 .any (fun w args=>(Rows.bookReportsSpec.pre enc prog f3 Rows.bookReportsRow.domain false w args/\laidMetH prog Rows.bookReportsRow.laid w)/\sizedMet enc prog f3 (OpenSpec.ofChange Rows.bookReportsSpec) false w args)
   (Rows.bookReportsSpec.post enc prog f3 false true false false):=by
 refine ZjH (C:=checked) (X:=fun w _=>laidMetH prog Rows.bookReportsRow.laid w) (fun _ _ _ hh h=>h.of_heap hh) own started (by kernel_rfl) func3
  (ChangeSpec.witness_shaped (enc:=enc) (C:=checked) (os:=os) (X:=fun w _=>laidMetH prog Rows.bookReportsRow.laid w) false (World.laidAll prog os Rows.bookReportsRow.laid) #[.slice none 0 0] 8 (World.laidAll_os _ _ _)
   (World.shaped_of_ZipB (by kernel_rfl) (by kernel_rfl)) (by kernel_rfl) (by kernel_rfl) (by kernel_rfl)
   (by rw[MakeChecks.laidMetH_plain _ _ _ (by kernel_rfl)];exact laidMet_laidAll _ (by kernel_rfl) (by kernel_rfl))) ?_
 intro W base args ds gs before Bh hW hL IJ;have oA:∀(j:Nat) t v,f3.params[j]?=some t->args[j]?=some v->Value.okWide prog W .any base t v:=Bh;rw[MakeChecks.laidMetH_plain _ _ _ (by kernel_rfl)]at hL;have hg:=ZtQ IJ (Lib.laidMet.reads hL (by simp[Rows.bookReportsRow])) (Lib.laidMet.reads hL (by simp[Rows.bookReportsRow])) (Lib.laidMet.reads hL (by simp[Rows.bookReportsRow]));have Wl:=hW;obtain⟨p,q,hA0,hV,rfl,hfz,qE⟩:=hW;have hA:DataW.TrodAll enc prog W 0 (fun _=>true) true f3.params.toList args.toList ds p:=hA0;rw[params3]at hA oA;obtain⟨v0,vs0,d0,Xn,p0,q0,fY,rfl,rfl,h0,r0⟩:=trodAll_cons hA;obtain⟨rfl,rfl,rfl⟩:=trodAll_nil r0;have SE:args=#[v0]:=by
  apply Array.ext';exact fY
 subst SE;have k0:=oA 0 _ v0 rfl rfl;obtain⟨rfl,rfl⟩:=trodVars_none hV;refine(Zfc v0 W hg k0 h0).mono fun e W' ⟨he,hk⟩=>?_
 subst he;exact⟨_,rfl,ZpO (tb:=4) MQ ZrD En (by decide +kernel) rfl rfl rfl underlying4 Wl hk⟩
end
theorem ZiE {P:Program}{f:FuncId}{fn:Func}{s:ChangeSpec}{c:OpenClaim}(k0:(c.wf (OpenSpec.ofChange s))=true)(k1:(laidOutB P)=true)(k2:(mapsRowed P)=true)(k3:(fn.params.all (P.readableRec ·))=true)(k4:(namedTie P c.named s.vars)=true)(k5:((c.stops==[]))=true)(k6:((P.stops==[]))=true)(k7:((c.knobs==[]))=true)(k8:((P.stopKnobs==[]))=true)(k9:((c.inPlace==P.inPlace f))=true)(Sn:((c.unfollowed==P.unfollowed f))=true)(Sm:((c.recurses==P.recurses f))=true)(k12:((c.named==P.varsNamed f))=true)(k13:((c.maps==(fn.params.toList++s.plain.varTypes P).any (P.mapsRec ·)))=true)(k14:((c.ifaces==(fn.params.toList++s.plain.varTypes P).any (P.ifacesRec ·)))=true)(k15:((c.mapsOut==P.mapsAmong fn.resultTypes.toList))=true)(k16:((c.loops==(fn.params.toList++s.plain.varTypes P).any (P.loopsFrom ·)))=true)(k17:((c.wideKeys==(fn.params.toList++s.plain.varTypes P++fn.resultTypes.toList).any (P.wideKeysFrom ·)))=true)(k18:(s.vars.all (P.varReadable ·))=true)(k19:(fn.resultTypes.all (fun t=>P.readableRec t&&decide (t<P.types.size)))=true)(k20:((c.ifacesOut==fn.resultTypes.toList.any (P.ifacesRec ·)))=true)(k21:((c.loopsOut==fn.resultTypes.toList.any (P.loopsFrom ·)))=true)(k22:((c.plainKeys==P.plainKeys))=true)(k23:(c.shortTexts.isNone)=true)(k24:(P.stopsHeard)=true)(k25:(P.mayEnter)=true)(k26:((c.lifted==P.liftsFinal))=true)(k27:((P.make==some c.make))=true)(k28:((c.kinds==(if c.domain.isEmpty then[]else fn.params.toList.map fun t=>match P.underlying t with|some (.int k)=>some k|_=>none)))=true)(k29:((c.pinned==c.pinnedBy))=true)(k30:((c.veiled==(fn.params.toList++s.plain.varTypes P++fn.resultTypes.toList).any (P.veiledRec ·)))=true)(k31:(c.veiledFits P fn.params.toList (fn.params.toList++s.plain.varTypes P++fn.resultTypes.toList))=true):joinedFacts P f fn s c=true:=by
 unfold joinedFacts;simp only[dK];exact⟨⟨⟨⟨⟨⟨⟨⟨⟨⟨⟨⟨⟨⟨⟨⟨⟨⟨⟨⟨⟨⟨⟨⟨⟨⟨⟨⟨⟨⟨⟨k0,k1⟩,k2⟩,k3⟩,k4⟩,k5⟩,k6⟩,k7⟩,k8⟩,k9⟩,Sn⟩,Sm⟩,k12⟩,k13⟩,k14⟩,k15⟩,k16⟩,k17⟩,k18⟩,k19⟩,k20⟩,k21⟩,k22⟩,k23⟩,k24⟩,k25⟩,k26⟩,k27⟩,k28⟩,k29⟩,k30⟩,k31⟩
theorem bX0:(Rows.bookReportsRow.wf (OpenSpec.ofChange Rows.bookReportsSpec))=true:=by kernel_rfl
theorem bX1:(laidOutB prog)=true:=MQ
theorem bX2:(mapsRowed prog)=true:=ZrD
theorem bX3:(f3.params.all (prog.readableRec ·))=true:=by kernel_rfl
theorem bX4:(namedTie prog Rows.bookReportsRow.named Rows.bookReportsSpec.vars)=true:=by kernel_rfl
theorem bX9:((Rows.bookReportsRow.inPlace==prog.inPlace 3))=true:=by kernel_rfl
theorem Ye:((Rows.bookReportsRow.unfollowed==prog.unfollowed 3))=true:=by kernel_rfl
theorem Yd:((Rows.bookReportsRow.recurses==prog.recurses 3))=true:=by kernel_rfl
theorem Yc:((Rows.bookReportsRow.named==prog.varsNamed 3))=true:=by kernel_rfl
theorem Yb:((Rows.bookReportsRow.plainKeys==prog.plainKeys))=true:=by kernel_rfl
theorem Ya:(prog.stopsHeard)=true:=by kernel_rfl
theorem Xz:(prog.mayEnter)=true:=by kernel_rfl
theorem Xy:((Rows.bookReportsRow.lifted==prog.liftsFinal))=true:=by kernel_rfl
theorem Xx:((prog.make==some Rows.bookReportsRow.make))=true:=by kernel_rfl
theorem Zrd:joinedFacts pinned.checked.prog 3 f3 Rows.bookReportsSpec Rows.bookReportsRow=true:=
 ZiE bX0 bX1 bX2 bX3 bX4 (by kernel_rfl) (by kernel_rfl) (by kernel_rfl) (by kernel_rfl) bX9 Ye Yd Yc (by kernel_rfl) (by kernel_rfl) (by kernel_rfl) (by kernel_rfl) (by kernel_rfl) (by kernel_rfl) (by kernel_rfl) (by kernel_rfl) (by kernel_rfl) Yb (by kernel_rfl) Ya Xz Xy Xx (by kernel_rfl) (by kernel_rfl) (by kernel_rfl) (by kernel_rfl)
section
open Go.ChangeShapes Go.WideShapes Go.ChangeAt Go.RowKit
theorem Zre (os:Os)(started:os.Started)(H:Type)(enc:TypeId×Value->H):ReturnsInHanded Rows.bookReportsRow.assume pinned.checked os 3 .any (Rows.bookReportsRow.pre enc pinned.checked.prog f3 (OpenSpec.ofChange Rows.bookReportsSpec)) (Rows.bookReportsSpec.post enc pinned.checked.prog f3 Rows.bookReportsRow.apart Rows.bookReportsRow.fresh Rows.bookReportsRow.handsOn Rows.bookReportsRow.again):=ZeE os started H enc
theorem Zfx:Rows.bookReportsRow.holds pinned (OpenSpec.ofChange Rows.bookReportsSpec):=
 OpenClaim.holds_of_wide 3 f3 rfl rfl rfl rfl rfl rfl rfl ⟨rfl,rfl,rfl,rfl,rfl⟩ rfl rfl rfl rfl rfl (by kernel_rfl) func3 Zrd
  (of_decide_eq_true (by kernel_rfl)) (by unfold Func.isWrapper;first|(rw[if_pos (by decide +kernel)];kernel_rfl)|(rw[if_neg (by decide +kernel)];exact⟨rfl,rfl⟩))
  (fun os started H enc _=>Zre os started H enc)
theorem Xv:Rows.bookReportsRow.wfByText (OpenSpec.ofChange Rows.bookReportsSpec)=true:=by kernel_rfl
theorem Zvm : pinned.checked.prog.mainIs = some (true, "9fb49b3d41716232f722c36343915613e147b2ba665bf48a831ee42e7b23da4c".toList) := by kernel_rfl
theorem Zub:true=pinned.checked.prog.looks []:=by kernel_rfl
theorem Xw:false=Rows.bookReportsRow.goesBy pinned.checked.prog:=by kernel_rfl
theorem Zua : prog.funcNamed "tensile/tensilelaw12.BookReports" = some 3 := by kernel_rfl
theorem Zt9:([22].all fun u=>!prog.wantsStandIn u)=true:=by kernel_rfl
theorem cardBookReports:Rows.BookReportsCardSaid:=
 Claim7.holds_tied_plain_at .later [] [.data, .data, .data, .data, .sentinel, .sentinel, .pinned] true (true, "9fb49b3d41716232f722c36343915613e147b2ba665bf48a831ee42e7b23da4c") true
  Zfx (fun _ h=>by cases h) Xv (fun _ h=>by cases h) bookReports_row_tie rfl ⟨rfl,rfl⟩ Zvm rfl
  (fun f fn hf qH=>by
   obtain rfl:f=3:=Option.some.inj (Zua.symm.trans hf) |>.symm;obtain rfl:fn=f3:=(Option.some.inj (func3.symm.trans qH)).symm;exact⟨Zub,fun j t ht=>by
    rw[params3]at ht;have hm:t∈([22]:List TypeId):=by simpa using Array.mem_of_getElem? ht
    exact(show prog.wantsStandIn t=false by simpa using rM.1 Zt9 t hm)⟩)
  Xw
end
end Go.Proofs.YthmbecacehfgfabGreatDoor
