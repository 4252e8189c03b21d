/- The registrar's book: what the statement needs, joined and shortened by program. -/
import Derived.Test.YtlllhbmbnjnoiaaGreatDoorP0
import Derived.Test.YtlllhbmbnjnoiaaGreatDoorP4
import Derived.Test.YtlllhbmbnjnoiaaGreatDoorP3
import Derived.Test.YtlllhbmbnjnoiaaGreatDoorP2
import Derived.JoinedOf
import Derived.Test.YtlllhbmbnjnoiaaGreatDoorCards
import Derived.Test.YtlllhbmbnjnoiaaGreatDoorTie
import Derived.SevenTiedAt
set_option linter.unusedSimpArgs false
set_option linter.unusedVariables false
set_option maxHeartbeats 32000000
set_option maxRecDepth 100000
namespace Go.Proofs.YtlllhbmbnjnoiaaGreatDoor
open Go.RowKit
open Go.Proofs.Tryz Go.Proofs.YtlllhbmbnjnoiaaGreatDoor.Tryz
section
theorem ZnU {ls:List Lt}{i:Nat}{x:Lt}(hs:(ls.map Lt.num).Pairwise (·<·))(hx:ls[i]?=some x):dJ (ls.map Lt.num) x.num=i:=by
 obtain⟨hl,he⟩:=cA.1 hx;have hm:(ls.map Lt.num)[i]?=some x.num:=by rw[bX,hx];rfl
 obtain⟨qY,he2⟩:=cA.1 hm;refine Ym hs (by rw[fZ];omega) (fun k y hk hy=>?_) (fun y hy=>by rw[hm]at hy;cases hy;exact Int.le_refl _);obtain⟨MI,he3⟩:=cA.1 hy
 have:=Q8.1 hs k i MI qY hk
 rw[he2,he3]at this;exact this
theorem Zkr {b a r:Int}:eD b a r=1\/eD b a r=2\/eD b a r=3:=by
 unfold eD;split
 .exact .inl rfl
 .split
  .exact .inr (.inl rfl)
  .exact .inr (.inr rfl)
theorem ZpJ {rs:List Bool}(h:(cY rs).2.2=0):(cY rs).1=1\/(cY rs).1=2\/(cY rs).1=3:=by
 unfold cY at *;split at h
 .rename_i h1;rw[if_pos h1];exact .inr (.inr rfl)
 .rename_i h1;rw[if_neg h1];split at h
  .rename_i h2;rw[if_pos h2];split at h
   .rename_i h3;rw[if_pos h3];exact .inr (.inr rfl)
   .rename_i h3;rw[if_neg h3];split at h
    .cases h
    .rename_i h4;rw[if_neg h4];exact Zkr
  .rename_i h2;rw[if_neg h2];split at h
   .cases h
   .rename_i h3;rw[if_neg h3];exact Zkr
theorem Yn {S:Int->Int->Bool}{G:Tt->Bool}{num:Int}:∀{l:List Tt} {rs:List Bool},lB rs->(rM S G num l rs).1=1\/(rM S G num l rs).1=2\/(rM S G num l rs).1=3
 |[],rs,_=>.inr (.inr rfl)
 |t::l,rs,h=>by
  rw[Zhx];split
  .split
   .rename_i h3;exact Yn ((h.step _).2 h3)
   .exact ZpJ (h.step _).1
  .exact Yn h
attribute [local irreducible] Bk.qG eR Bk.contra Bk.held Bk.span Bk.nums Bk.iA Bk.pU stM nV rM
theorem ZsI {q:Nat}(w:Wk)(hI:sI q w)(hq:q<=100)(hJ:AP w)(n:Int):aD prog 63 [w.pv,.i n] (sL w ((jI (cW w.aA w.bad w.aH) w.aN n).map fun l=>{ w with aN:=l })):=by
 have yN:=hI.l;have D9:=Zn w (by omega) n;have jN:w.pv=.agg [.aE false 7 (w.aA.map Ct.pv),.aE false 1 (w.bad.map iP),.aE false 4 (w.aN.map Lt.pv),.aE false 4 (w.aH.map Tt.pv),.aE false 3 (w.runs.map Qn.Rq.pv)]:=rfl;refine cF [.loc 44 0] L63 ?_;obtain⟨V,hV⟩:∃V,V=sL w ((jI (cW w.aA w.bad w.aH) w.aN n).map fun l=>{ w with aN:=l }):=⟨_,rfl⟩;rw[<-hV];generalize hR:(fun(r:AV) (B:List (Site×aK))=>r=.pv V/\B=[])=R;rw[jN]at D9 ⊢;simp[L63];refine cG [_,_] D9 ?_;rcases Z9 (n:=n) (l:=w.aN) (k:=0)with⟨mK,hf⟩|⟨i,x,hx,UT,hf⟩
 .have hv:V=.bM [w.pv,.i 7]:=by
   rw[hV];unfold jI;split
   .rename_i y hy;rw[if_neg (mK y (dL hy))];rfl
   .rfl
  rw[jN]at hv;subst hv;simp[hf];rw[<-hR];exact⟨by simp,by simp⟩
 rw[rV]at hf;subst UT;have yO:=(cA.1 hx).1;have hg:(w.aN.map Lt.pv)[i]?=some (.agg [.i x.num,.i x.pieces,.i x.limit,.bool x.passed]):=by rw[bX,hx];rfl
 have h0:¬(i:Int)<0:=by omega
 have hpm:jI (cW w.aA w.bad w.aH) w.aN x.num=if x.passed=true then .error 6 else if cW w.aA w.bad w.aH x=3 then .error 8 else if cW w.aA w.bad w.aH x=1 then .ok (w.aN.set i { x with passed:=true })else .error 11:=by
  unfold jI;rw[ZnU hI.s hx,hx];dsimp only;rw[if_pos rfl]
 rw[hpm]at hV;have qN:=ZmY w hI hq hJ.nc x;have Sg:(rM (stM w.aA w.bad) (nV w.aA w.bad x.limit) x.num w.aH []).1=cW w.aA w.bad w.aH x:=Lu;have Dm:=Yn (S:=stM w.aA w.bad) (G:=nV w.aA w.bad x.limit) (num:=x.num) (l:=w.aH) ZkH;rw[Sg]at qN Dm;rw[jN,show x.pv=.agg [.i x.num,.i x.pieces,.i x.limit,.bool x.passed] from rfl]at qN;generalize cW w.aA w.bad w.aH x=v at *;generalize(rM (stM w.aA w.bad) (nV w.aA w.bad x.limit) x.num w.aH []).2=many at qN;cases hp:x.passed with
 |true=>
  rw[if_pos hp]at hV;have hv:V=.bM [w.pv,.i 6]:=hV;rw[jN]at hv;subst hv;rw[hp]at hg;simp[hf,h0,↓hg,aP];rw[<-hR];exact⟨by simp,by simp⟩
 |false=>
 rw[if_neg (by rw[hp];decide)]at hV;rw[hp]at hg qN;simp[hf,h0,↓hg,aP];refine cG [_,_] qN ?_;rcases Dm with rfl|rfl|rfl
 .have hv:V=.bM [.agg [.aE false 7 (w.aA.map Ct.pv),.aE false 1 (w.bad.map iP),.aE false 4 ((w.aN.set i { x with passed:=true }).map Lt.pv),.aE false 4 (w.aH.map Tt.pv),.aE false 3 (w.runs.map Qn.Rq.pv)],.i 0]:=hV;have Tv:w.aN.length<=1000000:=by omega
  have X6:(w.aN.map Lt.pv).take w.aN.length=w.aN.map Lt.pv:=fP (by simp);rw[List.map_set]at hv;subst hv;simp[yO,↓hg,cU,aP,Tv];rw[<-hR,fP (by simp)];exact⟨rfl,rfl⟩
 .have hv:V=.bM [w.pv,.i 11]:=hV;rw[jN]at hv;subst hv;simp[hf,h0,yO,↓hg,cU,aP];rw[<-hR];exact⟨by simp,by simp⟩
 .have hv:V=.bM [w.pv,.i 8]:=hV;rw[jN]at hv;subst hv;simp[aP];rw[<-hR];exact⟨by simp,by simp⟩
end
section
attribute [local irreducible] Bk.qG eR Bk.contra Bk.held Bk.span Bk.nums Bk.iA Bk.pU stM nV rM
def pP:AV:=.pv (.emp (some true))
def KY (w:Wk)(q:Tt)(i c j:Nat):AS:=⟨[(1,.pv (.aE false 1 [.i q.fU,.i q.item,.i q.day,.i q.rd])),(2,.ptr (.loc 2 0) 0),(4,.ptr (.loc 4 0) 0),(6,.pv (.i (i:Int))),(9,.pv (.i (c:Int))),(10,.pv (.i (j:Int)))],
 [(.loc 2 0,.cells w.cells),(.loc 4 0,.cells [pP,pP,pP,pP,pP])]⟩
def tnJ (w:Wk)(q:Tt):AS:=⟨[(4,.ptr (.loc 4 0) 0),(12,.ptr (.loc 12 0) 0),(112,.vec (.loc 112 0) 4 0 w.aH.length),(114,.vec (.loc 114 0) 4 0 1)],
 [(.loc 114 0,.arr 53 4 [.agg [.i q.fU,.i q.item,.i q.day,.i q.rd]]),(.loc 112 0,.arr 53 4 (w.aH.map Tt.pv)),(.loc 12 0,.cells w.cells),(.loc 4 0,.cells [pP,pP,pP,pP,pP])]⟩
theorem Zm1 {k0:Nat}(w:Wk)(hI:sI k0 w)(hq:k0<=100)(hJ:AP w)(q:Tt):aD prog 62 [w.pv,.aE false 1 [.i q.fU,.i q.item,.i q.day,.i q.rd]] (sL w ((kO (stM w.aA w.bad) (cW w.aA w.bad w.aH) w.aN w.aH q).map fun l=>{ w with aH:=l })):=by
 have yN:=hI.l;have nT:=hI.t;have gO:=hI.c;have wL:=hI.b;have D9:=Zn w (by omega) q.fU;have i1:=rI q.item 2 5;have i2:=rI q.day 0 1000;have i3:=rI q.rd 0 2000;have jN:w.pv=.agg [.aE false 7 (w.aA.map Ct.pv),.aE false 1 (w.bad.map iP),.aE false 4 (w.aN.map Lt.pv),.aE false 4 (w.aH.map Tt.pv),.aE false 3 (w.runs.map Qn.Rq.pv)]:=rfl;refine cF [.loc 115 0] L62 ?_;obtain⟨V,hV⟩:∃V,V=sL w ((kO (stM w.aA w.bad) (cW w.aA w.bad w.aH) w.aN w.aH q).map fun l=>{ w with aH:=l }):=⟨_,rfl⟩;rw[<-hV];generalize hR:(fun(r:AV) (B:List (Site×aK))=>r=.pv V/\B=[])=R;have gE:¬((decide (2<=q.item)&&decide (q.item<=5))=true/\(decide (0<=q.day)&&decide (q.day<=1000))=true/\(decide (0<=q.rd)&&decide (q.rd<=2000))=true)->V=.bM [w.pv,.i 2]:=fun h=>by
  rw[hV];unfold kO;rw[if_neg h];rfl
 rw[jN]at D9 gE ⊢;simp[L62];refine cG [_,_,_] i1 ?_;generalize tV:(decide (2<=q.item)&&decide (q.item<=5))=d1 at *;cases d1
 .have hv:=gE (by simp);subst hv;simp;rw[<-hR];exact⟨by simp,by simp⟩
 simp;refine cG [_,_,_] i2 ?_;generalize wK:(decide (0<=q.day)&&decide (q.day<=1000))=d2 at *;cases d2
 .have hv:=gE (by simp);subst hv;simp;rw[<-hR];exact⟨by simp,by simp⟩
 simp;refine cG [_,_,_] i3 ?_;generalize T9:(decide (0<=q.rd)&&decide (q.rd<=2000))=d3 at *;cases d3
 .have hv:=gE (by simp);subst hv;simp;rw[<-hR];exact⟨by simp,by simp⟩
 clear gE;have QU:2<=q.item/\q.item<=5:=by rw[dK,decide_eq_true_eq,decide_eq_true_eq]at tV;exact tV
 have H3:0<=q.day/\q.day<=1000:=by rw[dK,decide_eq_true_eq,decide_eq_true_eq]at wK;exact wK
 unfold kO at hV;rw[tV,wK,T9,if_pos ⟨rfl,rfl,rfl⟩]at hV;simp;refine cG [_,_] D9 ?_;rcases Z9 (n:=q.fU) (l:=w.aN) (k:=0)with⟨mK,hf⟩|⟨i,x,hx,UT,hf⟩
 .have hv:V=.bM [w.pv,.i 7]:=by
   rw[hV];split
   .rename_i y hy;rw[if_neg (mK y (dL hy))];rfl
   .rfl
  rw[jN]at hv;subst hv;simp[hf];rw[<-hR];exact⟨by simp,by simp⟩
 rw[rV]at hf;rw[<-UT,ZnU hI.s hx,hx]at hV;dsimp only at hV;rw[if_pos rfl]at hV;have yO:=(cA.1 hx).1;have hg:(w.aN.map Lt.pv)[i]?=some (.agg [.i x.num,.i x.pieces,.i x.limit,.bool x.passed]):=by rw[bX,hx];rfl
 have h0:¬(i:Int)<0:=by omega
 have qN:=ZmY w hI hq hJ.nc x;have Sg:(rM (stM w.aA w.bad) (nV w.aA w.bad x.limit) x.num w.aH []).1=cW w.aA w.bad w.aH x:=Lu;rw[Sg]at qN;rw[jN,show x.pv=.agg [.i x.num,.i x.pieces,.i x.limit,.bool x.passed] from rfl]at qN;generalize cW w.aA w.bad w.aH x=v at *;generalize(rM (stM w.aA w.bad) (nV w.aA w.bad x.limit) x.num w.aH []).2=many at qN;simp[hf,h0,↓hg,aP];refine cG [_,_] qN ?_;by_cases bU:v=3/\x.passed=false
 case neg=>
  have hv:V=.bM [w.pv,.i 8]:=by
   rw[hV];cases hp:x.passed with
   |true=>rfl
   |false=>rw[if_neg (by decide),if_neg (fun h=>bU ⟨h,hp⟩)];rfl
  rw[jN]at hv;subst hv;by_cases h3:v=3
  .have hp:x.passed=true:=by
    cases hp:x.passed with
    |true=>rfl
    |false=>exact absurd ⟨h3,hp⟩ bU
   rw[hp]at hg;simp[↓hg,aP,h3];rw[<-hR];exact⟨by simp,by simp⟩
  .simp[aP,h3];rw[<-hR];exact⟨by simp,by simp⟩
 obtain⟨rfl,hp⟩:=bU;rw[hp,if_neg (by decide),if_pos rfl]at hV;rw[hp]at hg;simp[hf,h0,yO,↓hg,cU,aP];refine eP (fun m τ=>∃j:Nat,j<=w.aH.length/\m=w.aH.length-j/\τ=KY w q i (kR (w.aH.take j) q.fU) j) ⟨w.aH.length,KY w q i 0 0,Sub.mk (by simp) (by simp[pP,Wk.cells]),0,gY _,rfl,by simp[kR]⟩ ?_;rintro J hJ m τ ⟨j,hj,rfl,rfl⟩;by_cases aJ:j<w.aH.length
 .obtain⟨t,MA⟩:∃t,w.aH[j]?=some t:=⟨w.aH[j],bC aJ⟩;have Jz:(w.aH.map Tt.pv)[j]?=some (.agg [.i t.fU,.i t.item,.i t.day,.i t.rd]):=by rw[bX,MA];rfl
  have hw:=bN (k:=j) (by omega);have aG:w.aH.length-(j+1)<w.aH.length-j:=by omega
  have aB:=hJ _ _ ⟨j+1,aJ,rfl,rfl⟩;have T4:=ZkS (ts:=w.aH.take j) (n:=q.fU);rw[gN]at T4;have Ag:=bN (k:=kR (w.aH.take j) q.fU) (by omega);rw[ZgG MA]at aB;clear hJ;generalize kR (w.aH.take j) q.fU=c at *;by_cases lG:t.fU=q.fU
  .rw[if_pos lG]at aB;simp[KY,pP,Wk.cells,aJ,↓Jz,aP,hw,Ag,lG];exact⟨_,_,aG,Sub.mk (by simp) (by simp[pP,Wk.cells]),aB⟩
  .rw[if_neg lG]at aB;simp[KY,pP,Wk.cells,aJ,↓Jz,aP,hw,lG];exact⟨_,_,aG,Sub.mk (by simp[KY]) (by simp[KY,pP,Wk.cells]),aB⟩
 have he:j=w.aH.length:=by omega
 subst he;rw[mX];clear hJ aJ hj;rw[UT]at hV;generalize kR w.aH q.fU=c at *;by_cases FB:x.pieces<=(c:Int)
 .rw[if_neg (by omega)]at hV;have hv:V=.bM [w.pv,.i 3]:=hV;rw[jN]at hv;subst hv;simp[KY,pP,Wk.cells,↓hg,aP,FB];rw[<-hR];exact⟨by simp,by simp⟩
 rw[if_pos (by omega)]at hV;have wE:=Od w hI.bk (by omega) (by omega) q.fU q.item q.day q.rd (by omega) QU.2 H3.1 H3.2;rw[jN]at wE;simp[KY,pP,Wk.cells,↓hg,aP,FB];refine cG [_,_] wE ?_;cases hs:stM w.aA w.bad q.item q.day with
 |false=>
  rw[hs,if_neg (by decide)]at hV;have hv:V=.bM [w.pv,.i 10]:=hV;rw[jN]at hv;subst hv;simp;rw[<-hR];exact⟨by simp,by simp⟩
 |true=>
  rw[hs,if_pos rfl]at hV;have hv:V=.bM [.agg [.aE false 7 (w.aA.map Ct.pv),.aE false 1 (w.bad.map iP),.aE false 4 (w.aN.map Lt.pv),.aE false 4 ((w.aH++[q]).map Tt.pv),.aE false 3 (w.runs.map Qn.Rq.pv)],.i 0]:=hV;rw[mH]at hv;have hm:(w.aH.map Tt.pv).take w.aH.length=w.aH.map Tt.pv:=fP (by simp);have HW:w.aH.length<=1000000:=by omega
  have VH:w.aH.length+1<=1000000:=by omega
  simp[aP];refine ED (fun τ=>τ=tnJ w q) ?_ ?_
  .simp[gP,gZ,aP,HW]
   repeat' apply And.intro
   all_goals exact Sub.mk (by simp) (by simp[pP,Wk.cells])
  rintro τ rfl;subst hv;simp[tnJ,pP,Wk.cells,gP,gZ,aP,VH];rw[<-hR];exact⟨by simp;exact fP (by simp),by simp⟩
end
section
attribute [local irreducible] Bk.qG eR Bk.contra Bk.held Bk.span Bk.nums Bk.iA Bk.pU stM nV rM Bk.fault
def Ct.row (x:Ct):List PV:=[.i x.num,.i x.it,.i x.src,.i x.day,.i x.valid,.i x.diff.lo,.i x.diff.hi]
def crJ (w:Wk)(x:Ct):AS:=⟨[(2,.ptr (.loc 2 0) 0),(4,.ptr (.loc 4 0) 0),(6,.ptr (.loc 6 0) 0),(18,.vec (.loc 18 0) 7 0 w.aA.length),(42,.vec (.loc 42 0) 7 0 1)],
 [(.loc 42 0,.arr 82 7 [.agg x.row]),(.loc 18 0,.arr 82 7 (w.aA.map Ct.pv)),(.loc 6 0,.cells w.cells),(.loc 4 0,.cells [pP,pP,pP,pP,pP]),(.loc 2 0,.cells w.cells)]⟩
theorem ZsR {k0:Nat}(w:Wk)(hI:sI k0 w)(hq:k0<=100)(x:Ct):aD prog 59 [w.pv,.aE false 1 x.row] (sL w ((lX w.aA w.bad x).map fun l=>{ w with aA:=l })):=by
 have gO:=hI.c;have wL:=hI.b;have uS:=Zhd w (by omega) x.num;have IA:aD prog 77 [] (.aE false 4 JT):=Zky;have jN:w.pv=.agg [.aE false 7 (w.aA.map Ct.pv),.aE false 1 (w.bad.map iP),.aE false 4 (w.aN.map Lt.pv),.aE false 4 (w.aH.map Tt.pv),.aE false 3 (w.runs.map Qn.Rq.pv)]:=rfl;obtain⟨u,hu⟩:∃u:Wk,u={ w with aA:=w.aA++[x]}:=⟨_,rfl⟩;have Si:u.aA=w.aA++[x]:=by rw[hu]
 have hub:u.bad=w.bad:=by rw[hu]
 have T2:u.aA.length<=1000:=by rw[Si,gD];simp;omega
 have D9:=Zpu ⟨qV,u.aA⟩ (show qV.length<=1000 by decide) T2;have FC:=Zk u T2 (by rw[hub];omega);have mB:Bk.fault ⟨qV,u.aA⟩=0->aD prog 106 [(fD u.aA u.bad).pv] (.bool (fD u.aA u.bad).contra):=fun h=>Zne _ (GF (Bk.V3.1 h))
 have UX:u.pv=.agg [.aE false 7 (w.aA.map Ct.pv++[.agg x.row]),.aE false 1 (w.bad.map iP),.aE false 4 (w.aN.map Lt.pv),.aE false 4 (w.aH.map Tt.pv),.aE false 3 (w.runs.map Qn.Rq.pv)]:=by
  rw[hu];show PV.agg [.aE false 7 ((w.aA++[x]).map Ct.pv),_,_,_,_]=_;rw[mH];rfl
 have hfp:Bk.pv ⟨qV,u.aA⟩=.agg [.aE false 4 JT,.aE false 7 (w.aA.map Ct.pv++[.agg x.row])]:=by
  rw[Si];show PV.agg [_,.aE false 7 ((w.aA++[x]).map Ct.pv)]=_;rw[mH];rfl
 refine cF [.loc 43 0] L59 ?_;obtain⟨V,hV⟩:∃V,V=sL w ((lX w.aA w.bad x).map fun l=>{ w with aA:=l }):=⟨_,rfl⟩;rw[<-hV];generalize hR:(fun(r:AV) (B:List (Site×aK))=>r=.pv V/\B=[])=R;unfold lX at hV;rw[jN]at uS ⊢;simp[L59,Ct.row];refine cG [_,_] uS ?_;cases mA:kn w x.num with
 |true=>
  have hv:V=.bM [w.pv,.i 6]:=by
   rw[hV,if_pos (show(w.aA.any fun y=>decide (y.num=x.num))=true from mA)];rfl
  rw[jN]at hv;subst hv;simp;rw[<-hR];exact⟨by simp,by simp⟩
 |false=>
 rw[if_neg (show ¬(w.aA.any fun y=>decide (y.num=x.num))=true by unfold kn at mA;rw[mA];decide),<-Si,<-hub]at hV;have hm:(w.aA.map Ct.pv).take w.aA.length=w.aA.map Ct.pv:=fP (by simp);have HW:w.aA.length<=1000000:=by omega
 have VH:w.aA.length+1<=1000000:=by omega
 have nF:(w.aA.map Ct.pv++[PV.agg x.row]).take (w.aA.length+1)=w.aA.map Ct.pv++[PV.agg x.row]:=fP (by simp);rw[hfp]at D9;rw[UX]at FC;have Wc:(fD u.aA u.bad).pv=.agg [.aE false 4 JT,.aE false 7 ((fS u.aA u.bad).map Ct.pv)]:=rfl;rw[Wc]at FC mB;generalize(fS u.aA u.bad).map Ct.pv=GC at *;simp[aP];refine ED (fun τ=>τ=crJ w x) ?_ ?_
 .simp[gP,gZ,aP,HW]
  repeat' apply And.intro
  all_goals exact Sub.mk (by simp) (by simp[pP,Wk.cells,Ct.row])
 rintro τ rfl;simp[crJ,pP,Wk.cells,gP,gZ,aP,VH];refine cQ [.loc 43 0] [] IA ?_;simp[aM,nF];refine cG [_] D9 ?_;by_cases y7:Bk.fault ⟨qV,u.aA⟩=0
 case neg=>
  have hv:V=.bM [w.pv,.i (Bk.fault ⟨qV,u.aA⟩)]:=by rw[hV,if_neg y7];rfl
  rw[jN]at hv;subst hv;simp[y7];rw[<-hR];exact⟨by simp,by simp⟩
 have mB:=mB y7;rw[if_pos y7]at hV;simp[y7];refine .inl<|cQ [] [_] FC ?_;simp[aM];refine cG [_] mB ?_;have dD:=GF (bad:=u.bad) (Bk.V3.1 y7);cases Z6:(fD u.aA u.bad).contra with
 |true=>
  have hv:V=.bM [w.pv,.i 9]:=by
   rw[hV,if_neg (fun h=>by rw[Zff dD h]at Z6;cases Z6)];rfl
  rw[jN]at hv;subst hv;simp;rw[<-hR];exact⟨by simp,by simp⟩
 |false=>
  have hv:V=.bM [u.pv,.i 0]:=by
   rw[hV,Zsg dD Z6,if_pos rfl,hu];rfl
  rw[UX]at hv;subst hv;simp;rw[<-hR];exact⟨by simp,by simp⟩
end
end Go.Proofs.YtlllhbmbnjnoiaaGreatDoor
namespace Go.Proofs.YtlllhbmbnjnoiaaGreatDoor.Qn
open Go.RowKit
open Go.Proofs.Tryz Go.Proofs.YtlllhbmbnjnoiaaGreatDoor.Tryz
theorem Gw {w:List Int}{m:Nat}{x y:Int}(h:w[m]?=some x):(x::w.set m y).Perm (y::w):=by
 induction w generalizing m with
 |nil=>simp at h
 |cons a r ih=>
  cases m with
  |zero=>
   simp at h;subst h;simp only[List.set_cons_zero];exact List.Perm.swap y a r
  |succ m=>
   have h':r[m]?=some x:=by simpa using h
   simp only[List.set_cons_succ];exact(List.Perm.swap a x _).trans (((ih h').cons a).trans (List.Perm.swap y a r))
structure TT (q:Qu)(h:Int)(run:Nat)(ms:List Nat)(t:List Bool)(w:List Int)(g:GR):Prop where
 up:∀m:Nat,t[m]?=some true->g.1[m]?=some true
 same:∀m:Nat,t[m]?=some true->g.2.1[m]?=w[m]?
 yes:g.2.2=true->(-1::g.2.1).Perm ((run:Int)::w)
 no:g.2.2=false->g.2.1=w/\(∀m∈ms,g.1[m]?=some true)/\∀m:Nat,g.1[m]?=some true->t[m]?=some false->∃r:Nat,w[m]?=some (r:Int)/\∀m'∈q.F5 r h q.ms.length,g.1[m']?=some true
theorem Gx {t:List Bool}{m m':Nat}(h:t[m']?=some true):(t.set m true)[m']?=some true:=by
 by_cases e:m'=m
 .subst e;rw[O4 (cA.1 h).1]
 .rw[List.getElem?_set_ne (fun e'=>e e'.symm)];exact h
theorem Zfu {t:List Bool}{m m':Nat}(h:t[m]?=some false)(h':t[m']?=some true):m≠m':=fun e=>by subst e;rw[h]at h';cases h'
theorem ZeC {q:Qu}{h:Int}{rec:Nat->List Bool->List Int->GR}{n:Nat}
  (dD:∀run t w,run<q.rs.length->GW q t w->GW q (rec run t w).1 (rec run t w).2.1/\A5 (rec run t w).1<=A5 t)
  (nD:∀r t w,r<q.rs.length->GW q t w->A5 t<=n->TT q h r (q.F5 r h q.ms.length) t w (rec r t w)) {run:Nat} (hr:run<q.rs.length):
  ∀(l:List Nat),(∀m∈l,m<4)->∀(t:List Bool) (w:List Int),GW q t w->A5 t<=n+1->TT q h run l t w (nL rec run l t w)
 |[],_,t,w,_,_=>⟨fun _ h=>h,fun _ _=>rfl,fun h=>(by cases h),fun _=>⟨rfl,fun m hm=>(by cases hm),fun m h1 h2=>by rw[show(nL rec run [] t w).1=t from rfl,h2]at h1;cases h1⟩⟩
 |m::r,hl,t,w,hw,hu=>by
  obtain⟨b,x,h1,h2,h3⟩:=hw.at (hl m (by simp));have lH:∀m∈r,m<4:=fun m hm=>hl m (by simp[hm])
  unfold nL;rw[h1,h2];simp only[rU];cases b with
  |true=>
   rw[if_pos rfl];have S:=ZeC dD nD hr r lH t w hw hu;exact⟨S.up,S.same,S.yes,fun h0=>⟨(S.no h0).1,fun m' Q1=>by
    rcases jO.1 Q1 with e|e
    .subst e;exact S.up _ h1
    .exact(S.no h0).2.1 m' e,(S.no h0).2.2⟩⟩
  |false=>
   rw[if_neg (by simp)];have Al:=Zmp h1;have yM:m<t.length:=(cA.1 h1).1;have jK:(t.set m true)[m]?=some true:=O4 yM;split
   .rename_i hx;subst hx;exact⟨fun m' h'=>Gx h',fun m' h'=>by
     show(w.set m run)[m']?=_;rw[List.getElem?_set_ne (Zfu h1 h')],fun _=>Gw h2,fun h0=>by cases h0⟩
   .rename_i hx;obtain⟨i,rfl⟩:∃i:Nat,x=i:=⟨x.toNat,by rcases h3 with h3|h3;exact absurd h3 hx;omega⟩;have hi:i<q.rs.length:=by rcases h3 with h3|h3;exact absurd h3 hx;omega
    simp only[H9];have S:=nD i (t.set m true) w hi (hw.set m) (by omega);obtain⟨k1,k2⟩:=dD i (t.set m true) w hi (hw.set m);generalize rec i (t.set m true) w=g at *;obtain⟨t',w',b'⟩:=g;simp only at *;split
    .rename_i hb;subst hb;have X7:w'[m]?=some (i:Int):=(S.same m jK).trans h2;refine⟨fun m' h'=>S.up m' (Gx h'),fun m' h'=>?_,fun _=>?_,fun h0=>by cases h0⟩
     .show(w'.set m run)[m']?=_;rw[List.getElem?_set_ne (Zfu h1 h')];exact S.same m' (Gx h')
     .have p1:=Gw (y:=(run:Int)) X7;have p2:=S.yes rfl;show(-1::w'.set m run).Perm _;refine List.Perm.cons_inv (a:=(i:Int)) ?_;exact(List.Perm.swap _ _ _).trans ((p1.cons (-1)).trans ((List.Perm.swap _ _ _).trans ((p2.cons _).trans (List.Perm.swap _ _ _))))
    .rename_i hb;have nM:b'=false:=by cases b';rfl;exact absurd rfl hb
     subst nM;obtain⟨n1,n2,n3⟩:=S.no rfl;subst n1;have T:=ZeC dD nD hr r lH t' w' k1 (by omega);refine⟨fun m' h'=>T.up m' (S.up m' (Gx h')),fun m' h'=>T.same m' (S.up m' (Gx h')),T.yes,fun h0=>?_⟩;obtain⟨o1,o2,o3⟩:=T.no h0;refine⟨o1,fun m' Q1=>?_,fun m' H7 uA=>?_⟩
     .rcases jO.1 Q1 with e|e
      .subst e;exact T.up _ (S.up _ jK)
      .exact o2 m' e
     .have Q1:m'<t'.length:=by rw[k1.t4,<-hw.t4];exact(cA.1 uA).1
      cases ht':t'[m']with
      |false=>exact o3 m' H7 (by rw[bC Q1,ht'])
      |true=>
       have ht2:t'[m']?=some true:=by rw[bC Q1,ht']
       by_cases e:m'=m
       .subst e;exact⟨i,h2,fun m2 nF=>T.up _ (n2 m2 nF)⟩
       .obtain⟨r0,e1,e2⟩:=n3 m' ht2 (by rw[List.getElem?_set_ne (fun e'=>e e'.symm)];exact uA);exact⟨r0,e1,fun m2 nF=>T.up _ (e2 m2 nF)⟩
theorem Zr6 {t:List Bool}(h:A5 t=0){m:Nat}(hm:m<t.length):t[m]?=some true:=by
 have:∀b∈t,b≠false:=fun b hb e=>by
  subst e
  have:=List.count_pos_iff.2 hb
  unfold A5 at h;omega
 have h2:=this t[m] (zZ hm);rw[bC hm];cases hh:t[m]
 .rw[hh]at h2;exact absurd rfl h2
 .rfl
theorem ZgN {q:Qu}(hq:q.ok)(h:Int):∀(n run:Nat) (t:List Bool) (w:List Int),run<q.rs.length->GW q t w->A5 t<=n->TT q h run (q.F5 run h q.ms.length) t w (q.AE h n run t w)
 |0,run,t,w,_,hw,hu=>⟨fun _ h=>h,fun _ _=>rfl,fun h=>(by cases h),fun _=>⟨rfl,fun m hm=>Zr6 (t:=t) (Nat.le_zero.1 hu) (by have:=Lv hq m hm;have:=hq.m;rw[hw.t4];omega),fun m h1 h2=>by rw[show(q.AE h 0 run t w).1=t from rfl,h2]at h1;cases h1⟩⟩
 |n+1,run,t,w,hr,hw,hu=>ZeC (n:=n) (fun run t w hr hw=>Np hq h n run t w hr hw) (fun r t w hr hw hu=>ZgN hq h n r t w hr hw hu) hr _ (fun m hm=>by have:=Lv hq m hm;have:=hq.m;omega) t w hw hu
theorem XE {q:Qu}{i:Nat}{h:Int}{m:Nat}:m∈q.F5 i h q.ms.length↔m<q.ms.length/\q.may i m h=true:=by
 unfold Qu.F5;rw[fP (by simp)];simp[iV,List.mem_range]
structure Mt (q:Qu)(h:Int)(P:Nat->Prop)(j:Nat)(w:List Int):Prop where
 len:w.length=4
 ok:∀x∈w,x = -1\/0<=x
 on:∀m r:Nat,w[m]?=some (r:Int)->j<=m/\m<q.ms.length/\P r/\q.may r m h=true
 one:∀m m' r:Nat,w[m]?=some (r:Int)->w[m']?=some (r:Int)->m=m'
def F8 (q:Qu)(h:Int)(w:List Int):Prop:=∀m r:Nat,w[m]?=some (r:Int)->m∈q.F5 r h q.ms.length
theorem F8.set {q:Qu}{h:Int}{w:List Int}(hw:F8 q h w){m run:Nat}(hm:m∈q.F5 run h q.ms.length):F8 q h (w.set m run):=by
 intro m' r e;rw[List.getElem?_set]at e;split at e
 .rename_i e1;split at e
  .have h1:(run:Int)=r:=by simpa using e
   have h2:run=r:=by omega
   subst h2;subst e1;exact hm
  .cases e
 .exact hw m' r e
theorem Zhz {q:Qu}{h:Int}{rec:Nat->List Bool->List Int->GR}(nD:∀r t w,F8 q h w->F8 q h (rec r t w).2.1){run:Nat}:∀(l:List Nat),(∀m∈l,m∈q.F5 run h q.ms.length)->∀(t:List Bool) (w:List Int),F8 q h w->F8 q h (nL rec run l t w).2.1
 |[],_,t,w,hw=>hw
 |m::r,hl,t,w,hw=>by
  have hm:=hl m (by simp);have lH:∀m∈r,m∈q.F5 run h q.ms.length:=fun m hm=>hl m (by simp[hm])
  unfold nL;split
  .exact Zhz nD r lH t w hw
  .split
   .exact hw.set hm
   .split
    .exact(nD _ _ _ hw).set hm
    .exact Zhz nD r lH _ _ (nD _ _ _ hw)
theorem Zlb {q:Qu}{h:Int}:∀(n run:Nat) (t:List Bool) (w:List Int),F8 q h w->F8 q h (q.AE h n run t w).2.1
 |0,run,t,w,hw=>hw
 |n+1,run,t,w,hw=>Zhz (fun r t w hw=>Zlb n r t w hw) _ (fun m hm=>hm) t w hw
theorem Ej {l:List Int}{x:Int}:l.count x<=1↔∀m m':Nat,l[m]?=some x->l[m']?=some x->m=m':=by
 induction l with
 |nil=>simp
 |cons a l ih=>
  rw[List.count_cons];constructor
  .intro hc m m' e e';have hl:∀k:Nat,l[k]?=some x->1<=l.count x:=fun k hk=>List.count_pos_iff.2 (dL hk)
   cases m with
   |zero=>
    cases m' with
    |zero=>rfl
    |succ m'=>
     have ha:a=x:=by simpa using e
     have h2:=hl m' (by simpa using e');rw[if_pos (by simp[ha])]at hc;omega
   |succ m=>
    cases m' with
    |zero=>
     have ha:a=x:=by simpa using e'
     have h2:=hl m (by simpa using e);rw[if_pos (by simp[ha])]at hc;omega
    |succ m'=>
     have:=ih.1 (by omega) m m' (by simpa using e) (by simpa using e')
     omega
  .intro hi;have h1:=ih.2 fun m m' e e'=>by have:=hi (m+1) (m'+1) (by simpa using e) (by simpa using e');omega
   by_cases ha:a=x
   .have:l.count x=0:=by
     rcases Nat.eq_zero_or_pos (l.count x)with h0|h0
     .exact h0
     .obtain⟨k,hk⟩:=iK.1 (List.count_pos_iff.1 h0)
      have:=hi 0 (k+1) (by simpa using ha) (by simpa using hk)
      omega
    rw[this];split<;>omega
   .rw[if_neg (by simpa using ha)];omega
theorem ZqF {A B:List Int}(hl:A.length=B.length)(h:∀m:Nat,A[m]?=some (-1)->B[m]?=some (-1)):A.count (-1)<=B.count (-1):=by
 induction A generalizing B with
 |nil=>simp
 |cons a A ih=>
  cases B with
  |nil=>simp at hl
  |cons b B=>
   have h1:=ih (B:=B) (by simpa using hl) fun m e=>by have:=h (m+1) (by simpa using e);simpa using this
   rw[List.count_cons,List.count_cons];by_cases ha:a = -1
   .have hb:b = -1:=by have:=h 0 (by simpa using ha);simpa using this
    rw[if_pos (by simp[ha]),if_pos (by simp[hb])];omega
   .rw[if_neg (by simpa using ha)];omega
theorem Mt.mono {q:Qu}{h:Int}{P P':Nat->Prop}{j:Nat}{w:List Int}(hw:Mt q h P j w)(hP:∀r,P r->P' r):Mt q h P' j w:=
 ⟨hw.len,hw.ok,fun m r e=>⟨(hw.on m r e).1,(hw.on m r e).2.1,hP _ (hw.on m r e).2.2.1,(hw.on m r e).2.2.2⟩,hw.one⟩
theorem Mt.down {q:Qu}{h:Int}{P:Nat->Prop}{j:Nat}{w:List Int}(hw:Mt q h P (j+1) w):Mt q h P j w:=
 ⟨hw.len,hw.ok,fun m r e=>⟨by have:=(hw.on m r e).1;omega,(hw.on m r e).2⟩,hw.one⟩
theorem Mt.next {q:Qu}{h:Int}{P:Nat->Prop}{j:Nat}{w:List Int}(hw:Mt q h P j w)(hj:w[j]?=some (-1)):Mt q h P (j+1) w:=
 ⟨hw.len,hw.ok,fun m r e=>⟨by
  have:=(hw.on m r e).1
  have cZ:m≠j:=fun e'=>by subst e';rw[hj]at e;have:=Option.some.inj e;omega
  omega,(hw.on m r e).2⟩,hw.one⟩
theorem Mt.cut {q:Qu}{h:Int}{P:Nat->Prop}{j:Nat}{w:List Int}(hw:Mt q h P j w){m run:Nat}(hm:w[m]?=some (run:Int)):Mt q h (fun r=>P r/\r≠run) j (w.set m (-1)):=by
 have key:∀m' r:Nat,(w.set m (-1))[m']?=some (r:Int)->w[m']?=some (r:Int)/\m'≠m:=fun m' r e=>by
  rw[List.getElem?_set]at e;split at e
  .split at e
   .have:=Option.some.inj e;omega
   .cases e
  .rename_i cZ;exact⟨e,fun e'=>cZ e'.symm⟩
 refine⟨by simpa using hw.len,fun x hx=>?_,fun m' r e=>?_,fun m1 m2 r e1 e2=>hw.one m1 m2 r (key m1 r e1).1 (key m2 r e2).1⟩
 .rcases List.mem_or_eq_of_mem_set hx with hx|hx
  .exact hw.ok x hx
  .exact .inl hx
 .obtain⟨e1,e2⟩:=key m' r e;obtain⟨o1,o2,o3,o4⟩:=hw.on m' r e1;exact⟨o1,o2,⟨o3,fun e'=>by subst e';exact e2 (hw.one _ _ _ e1 hm)⟩,o4⟩
theorem Mt.put {q:Qu}{h:Int}{P P':Nat->Prop}{i j:Nat}{w:List Int}(hw:Mt q h P i w){x:Nat}(QS:i<=j)(hj:j<q.ms.length)(hx:q.may x j h=true)(hP:P' x)(Vs:∀r,P r->P' r/\r≠x):Mt q h P' i (w.set j x):=by
 have key:∀m' r:Nat,(w.set j x)[m']?=some (r:Int)->(m'=j/\r=x)\/(m'≠j/\w[m']?=some (r:Int)):=fun m' r e=>by
  rw[List.getElem?_set]at e;split at e
  .rename_i e1;split at e
   .have:=Option.some.inj e;exact .inl ⟨e1.symm,by omega⟩
   .cases e
  .rename_i cZ;exact .inr ⟨fun e'=>cZ e'.symm,e⟩
 refine⟨by simpa using hw.len,fun y hy=>?_,fun m' r e=>?_,fun m1 m2 r e1 e2=>?_⟩
 .rcases List.mem_or_eq_of_mem_set hy with hy|hy
  .exact hw.ok y hy
  .right;omega
 .rcases key m' r e with⟨rfl,rfl⟩|⟨_,e⟩
  .exact⟨QS,hj,hP,hx⟩
  .obtain⟨o1,o2,o3,o4⟩:=hw.on m' r e;exact⟨o1,o2,(Vs r o3).1,o4⟩
 .rcases key m1 r e1 with⟨a1,b1⟩|⟨a1,b1⟩<;>rcases key m2 r e2 with⟨a2,b2⟩|⟨a2,b2⟩
  .omega
  .exact absurd b1 (Vs r (hw.on _ _ b2).2.2.1).2
  .exact absurd b2 (Vs r (hw.on _ _ b1).2.2.1).2
  .exact hw.one _ _ _ b1 b2
theorem Mt.idle {q:Qu}{h:Int}{P:Nat->Prop}{j:Nat}:Mt q h P j fC:=by
 have key:∀x∈fC,x = -1:=fun x hx=>by simpa[fC]using hx
 refine⟨rfl,fun x hx=>.inl (key x hx),fun m r e=>?_,fun m m' r e=>?_⟩
 all_goals
  have:=key _ (dL e)
  omega
theorem Mt.none {q:Qu}{h:Int}{P:Nat->Prop}{j:Nat}{w:List Int}(hw:Mt q h P j w)(hP:∀m r:Nat,P r->j<=m->m<q.ms.length->False):w.count (-1)=4:=by
 rw[<-hw.len,List.count_eq_length];intro x hx;rcases hw.ok x hx with h1|h1
 .exact h1.symm
 .obtain⟨m,hm⟩:=iK.1 hx;obtain⟨r,rfl⟩:∃r:Nat,x=r:=⟨x.toNat,by omega⟩
  have:=hw.on m r hm
  exact(hP m r this.2.2.1 this.1 this.2.1).elim
theorem Zow {w:List Int}{m run:Nat}(h:w[m]?=some (run:Int)):(w.set m (-1)).count (-1)=w.count (-1)+1:=by
 have p:=(Gw (y:=-1) h).count_eq (-1);rw[List.count_cons,List.count_cons]at p;simp only[beq_iff_eq,if_neg (by omega:¬(run:Int) = -1),if_true]at p;omega
theorem ZtQ {w:List Int}{m run:Nat}(h:w[m]?=some (-1)):(w.set m run).count (-1)+1=w.count (-1):=by
 have p:=(Gw (y:=(run:Int)) h).count_eq (-1);rw[List.count_cons,List.count_cons]at p;simp only[beq_iff_eq,if_neg (by omega:¬(run:Int) = -1),if_true]at p;omega
def Pk (runs:List Int)(k r:Nat):Prop:=∃i:Nat,i<k/\runs[i]?=some (r:Int)
theorem Pk.next {runs:List Int}{k r:Nat}(h:Pk runs k r):Pk runs (k+1) r:=by
 obtain⟨i,h1,h2⟩:=h;exact⟨i,by omega,h2⟩
theorem Pk.split {runs:List Int}{k r run:Nat}(hx:runs[k]?=some (run:Int))(h:Pk runs (k+1) r)(cZ:r≠run):Pk runs k r:=by
 obtain⟨i,h1,h2⟩:=h;refine⟨i,?_,h2⟩
 have:i≠k:=fun e=>by subst e;rw[hx]at h2;have:=Option.some.inj h2;omega
 omega
def o7 (T:List Bool)(w M:List Int):List Int:=(List.range 4).map fun m=>if T[m]?=some true then(w[m]?).getD (-1)else(M[m]?).getD (-1)
theorem Gu {T:List Bool}{w M:List Int}(hw:w.length=4)(hM:M.length=4){m:Nat}{x:Int}(h:(o7 T w M)[m]?=some x):(T[m]?=some true/\w[m]?=some x)\/(T[m]?≠some true/\M[m]?=some x):=by
 have hm:m<4:=by have:=(cA.1 h).1;simpa[o7]using this
 have h2:(if T[m]?=some true then(w[m]?).getD (-1)else(M[m]?).getD (-1))=x:=by
  simpa[o7,bX,List.getElem?_range hm]using h
 split at h2
 .rename_i ht;refine .inl ⟨ht,?_⟩;rw[bC (by omega)]at h2 ⊢;simpa using h2
 .rename_i ht;refine .inr ⟨ht,?_⟩;rw[bC (by omega)]at h2 ⊢;simpa using h2
theorem ZhU {q:Qu}(hq:q.ok){h:Int}{runs:List Int}(fW:∀x∈runs,0<=x/\x<q.rs.length)(pZ:∀i j r:Nat,runs[i]?=some (r:Int)->runs[j]?=some (r:Int)->i=j):∀k,k<=runs.length->
  Mt q h (Pk runs k) 0 (q.yT h runs k).2/\(q.yT h runs k).1+(q.yT h runs k).2.count (-1)=4/\∀M,Mt q h (Pk runs k) 0 M->(q.yT h runs k).2.count (-1)<=M.count (-1)
 |0,_=>⟨Mt.idle,(show 0+fC.count (-1)=4 by decide),fun M hM=>by
   rw[hM.none (fun m r hP _ _=>by obtain⟨i,hi,_⟩:=hP;omega)];exact(show fC.count (-1)<=4 by decide)⟩
 |k+1,hk=>by
  obtain⟨A,B,C⟩:=ZhU hq (h:=h) fW pZ k (by omega);have G:=(Qu.Zxs hq (h:=h) fW k (by omega)).1;have hx:runs[k]?=some runs[k]:=bC (by omega);have hr:=fW _ (dL hx);obtain⟨run,dG⟩:∃run:Nat,runs[k]=run:=⟨runs[k].toNat,by omega⟩;rw[dG]at hx hr;have kA:q.yT h runs (k+1)=((q.yT h runs k).1+(if(q.AE h 5 run n9 (q.yT h runs k).2).2.2=true then 1 else 0),(q.AE h 5 run n9 (q.yT h runs k).2).2.1):=by simp[Qu.yT,hx]
  have S:=ZgN hq h 5 run n9 (q.yT h runs k).2 (by omega) G (by decide);have O:=(Np hq h 5 run n9 (q.yT h runs k).2 (by omega) G).1;have On:=Zlb (q:=q) (h:=h) 5 run n9 (q.yT h runs k).2 fun m r e=>XE.2 ⟨(A.on m r e).2.1,(A.on m r e).2.2.2⟩
  rw[kA];generalize q.yT h runs k=a at *;obtain⟨n,w⟩:=a;generalize q.AE h 5 run n9 (n,w).2=g at *;obtain⟨T,w',b⟩:=g;simp only at *;have yJ:∀m:Nat,w[m]?=some (run:Int)->False:=fun m e=>by
   obtain⟨i,h1,h2⟩:=(A.on m run e).2.2.1
   have:=pZ _ _ _ h2 hx
   omega
  cases b with
  |true=>
   have p:=S.yes rfl;have hc:w'.count (-1)+1=w.count (-1):=by
    have:=p.count_eq (-1)
    rw[List.count_cons,List.count_cons]at this;simp only[beq_iff_eq,if_neg (by omega:¬(run:Int) = -1),if_true]at this;omega
   refine⟨⟨O.w4,fun x rN=>by rcases O.ok x rN with h1|h1;exact .inl h1;exact .inr h1.1,fun m r e=>?_,fun m m' r e e'=>?_⟩,?_,fun M hM=>?_⟩
   .obtain⟨o1,o2⟩:=XE.1 (On m r e);refine⟨gY _,o1,?_,o2⟩;have gR:(r:Int)∈(run:Int)::w:=p.mem_iff.1 (List.mem_cons_of_mem _ (dL e));rcases jO.1 gR with e1|e1
    .have:r=run:=by omega
     subst this;exact⟨k,by omega,hx⟩
    .obtain⟨m2,nF⟩:=iK.1 e1;exact(A.on m2 r nF).2.2.1.next
   .refine Ej.1 ?_ m m' e e';have hp:=p.count_eq (r:Int);rw[List.count_cons,List.count_cons]at hp;simp only[beq_iff_eq,if_neg (by omega:¬(-1:Int)=(r:Int))]at hp;by_cases Au:r=run
    .subst Au
     have:w.count (r:Int)=0:=List.count_eq_zero.2 fun gR=>by
      obtain⟨m2,nF⟩:=iK.1 gR;exact yJ m2 nF
     rw[if_pos rfl]at hp;omega
    .have:=Ej.2 (fun m m' e e'=>A.one m m' r e e')
     rw[if_neg (by omega)]at hp;omega
   .rw[if_pos rfl];omega
   .by_cases hM1:∃m:Nat,M[m]?=some (run:Int)
    .obtain⟨m,hm⟩:=hM1;have h1:=C _ ((hM.cut hm).mono fun r wG=>Pk.split hx wG.1 wG.2);rw[Zow hm]at h1;omega
    .have h1:=C M ⟨hM.len,hM.ok,fun m r e=>⟨(hM.on m r e).1,(hM.on m r e).2.1,Pk.split hx (hM.on m r e).2.2.1 (fun e'=>hM1 ⟨m,by rw[<-e'];exact e⟩),(hM.on m r e).2.2.2⟩,hM.one⟩;omega
  |false=>
   obtain⟨n1,n2,n3⟩:=S.no rfl;subst n1;refine⟨A.mono fun r wG=>wG.next,by rw[if_neg (by simp)];exact B,fun M hM=>?_⟩;have hT:∀m:Nat,T[m]?=some true->∃r:Nat,w'[m]?=some (r:Int)/\∀m'∈q.F5 r h q.ms.length,T[m']?=some true:=fun m hm=>by
    have yM:m<4:=by rw[<-O.t4];exact(cA.1 hm).1
    exact n3 m hm (by
     have:∀m:Nat,m<4->n9[m]?=some false:=by decide
     exact this m yM)
   have Tq:Mt q h (Pk runs k) 0 (o7 T w' M):=by
    refine⟨by simp[o7],fun x rN=>?_,fun m r e=>?_,fun m m' r e e'=>?_⟩
    .obtain⟨m,hm⟩:=iK.1 rN;rcases Gu A.len hM.len hm with⟨_,h1⟩|⟨_,h1⟩
     .exact A.ok _ (dL h1)
     .exact hM.ok _ (dL h1)
    .rcases Gu A.len hM.len e with⟨_,h1⟩|⟨ht,h1⟩
     .exact A.on m r h1
     .obtain⟨o1,o2,o3,o4⟩:=hM.on m r h1;exact⟨o1,o2,Pk.split hx o3 (fun e'=>by subst e';exact ht (n2 m (XE.2 ⟨o2,o4⟩))),o4⟩
    .have mK:∀m m':Nat,T[m]?=some true->w'[m]?=some (r:Int)->T[m']?≠some true->M[m']?=some (r:Int)->False:=fun m m' t1 h1 t2 h2=>by
      obtain⟨r0,e1,e2⟩:=hT m t1;rw[h1]at e1
      have:r=r0:=by have:=Option.some.inj e1;omega
      subst this;exact t2 (e2 m' (XE.2 ⟨(hM.on m' r h2).2.1,(hM.on m' r h2).2.2.2⟩))
     rcases Gu A.len hM.len e with⟨t1,h1⟩|⟨t1,h1⟩<;>rcases Gu A.len hM.len e' with⟨t2,h2⟩|⟨t2,h2⟩
     .exact A.one _ _ _ h1 h2
     .exact(mK _ _ t1 h1 t2 h2).elim
     .exact(mK _ _ t2 h2 t1 h1).elim
     .exact hM.one _ _ _ h1 h2
   refine lJ (C _ Tq) (ZqF (by rw[hM.len];simp[o7]) fun m e=>?_);rcases Gu A.len hM.len e with⟨t1,h1⟩|⟨t1,h1⟩
   .obtain⟨r,e1,_⟩:=hT m t1;rw[h1]at e1
    have:=Option.some.inj e1;omega
   .exact h1
theorem Pk.all {runs:List Int}{r:Nat}:Pk runs runs.length r↔(r:Int)∈runs:=
 ⟨fun⟨i,_,h⟩=>dL h,fun h=>by
  obtain⟨i,hi⟩:=iK.1 h;exact⟨i,(cA.1 hi).1,hi⟩⟩
structure nI (q:Qu)(l:List Int):Prop where
 C7:∀x∈l,0<=x/\x<q.rs.length
 one:∀i j r:Nat,l[i]?=some (r:Int)->l[j]?=some (r:Int)->i=j
theorem ZrV {q:Qu}(hq:q.ok){h:Int}{l:List Int}(hl:nI q l){M:List Int}(hM:Mt q h (fun r=>(r:Int)∈l) 0 M):4<=q.DR h l+M.count (-1):=by
 obtain⟨_,B,C⟩:=ZhU hq (h:=h) hl.C7 hl.one l.length (fH _)
 have:=C M (hM.mono fun r hr=>Pk.all.2 hr)
 unfold Qu.DR;omega
theorem ZrU {q:Qu}(hq:q.ok){h:Int}{l:List Int}(hl:nI q l):∃M,Mt q h (fun r=>(r:Int)∈l) 0 M/\q.DR h l+M.count (-1)=4:=by
 obtain⟨A,B,_⟩:=ZhU hq (h:=h) hl.C7 hl.one l.length (fH _);exact⟨_,A.mono fun r hr=>Pk.all.1 hr,B⟩
theorem nI.JP {q:Qu}{l:List Int}(h:q.rising l=true):nI q l:=by
 refine⟨Qu.Zw7 h,?_⟩;have hs:∀i:Nat,i+1<l.length->∀x y:Int,l[i]?=some x->l[i+1]?=some y->x<y:=fun i hi x y hx hy=>by
  simp only[Qu.rising,rA,List.mem_range]at h
  have:=h (i+1) hi
  simp only[Qu.SQ,hx,hy,rU,dK,rT,decide_eq_true_eq,Nat.add_sub_cancel]at this;omega
 have hm:∀d i:Nat,∀x y:Int,l[i]?=some x->l[i+d+1]?=some y->x<y:=by
  intro d;induction d with
  |zero=>exact fun i x y hx hy=>hs i (cA.1 hy).1 x y hx hy
  |succ d ih=>
    intro i x y hx hy;have hl:=(cA.1 hy).1;have hz:l[i+d+1]?=some l[i+d+1]:=bC (by omega);have h1:=ih i x _ hx hz;have h2:=hs (i+d+1) (by omega) _ y hz (by rw[<-hy];congr 1);omega
 intro i j r hi hj;rcases Nat.lt_trichotomy i j with h1|h1|h1
 .obtain⟨d,rfl⟩:∃d,j=i+d+1:=⟨j-i-1,by omega⟩
  have:=hm d i _ _ hi hj
  omega
 .exact h1
 .obtain⟨d,rfl⟩:∃d,i=j+d+1:=⟨i-j-1,by omega⟩
  have:=hm d j _ _ hj hi
  omega
def xW (f:Nat->Bool)(k:Nat):List Int:=((List.range k).filter f).map Int.ofNat
theorem ZkQ {f:Nat->Bool}{k:Nat}{x:Int}:x∈xW f k↔∃r:Nat,x=r/\r<k/\f r=true:=by
 unfold xW;rw[iJ];constructor
 .rintro⟨r,h,rfl⟩;rw[iV,List.mem_range]at h;exact⟨r,rfl,h.1,h.2⟩
 .rintro⟨r,rfl,h1,h2⟩;exact⟨r,by rw[iV,List.mem_range];exact⟨h1,h2⟩,rfl⟩
theorem Zfj {q:Qu}{f:Nat->Bool}:q.rising (xW f q.rs.length)=true:=by
 have hp:(xW f q.rs.length).Pairwise (·<·):=by
  unfold xW;rw[List.pairwise_map];exact(List.pairwise_lt_range.filter _).imp fun h=>by simpa using h
 unfold Qu.rising;rw[rA];intro i hi;rw[List.mem_range]at hi;have hx:(xW f q.rs.length)[i]?=some (xW f q.rs.length)[i]:=bC hi;obtain⟨r,e,hr,_⟩:=ZkQ.1 (zZ hi);unfold Qu.SQ;rw[hx,rU];simp only[dK,rT,decide_eq_true_eq];refine⟨⟨by omega,by omega⟩,?_⟩;by_cases h0:i=0
 .exact .inl h0
 .right;have hy:(xW f q.rs.length)[i-1]?=some ((xW f q.rs.length)[i-1]'(by omega)):=bC (by omega);rw[hy,rU];exact Q8.1 hp (i-1) i (by omega) hi (by omega)
abbrev Row (q:Qu)(h:Nat)(l:List Int):Prop:=Mt q h (fun r=>r<q.rs.length) 0 l
structure LP (q:Qu)(p:List (List Int)):Prop where
 rows:∀(h:Nat) (l:List Int),p[h]?=some l->Row q h l
 len:p.length<=40
theorem LP.pw {q:Qu}{p:List (List Int)}(hp:LP q p):PW q p:=by
 refine⟨fun l hl=>?_,fun l hl x hx=>?_,hp.len⟩
 .obtain⟨h,hh⟩:=iK.1 hl;exact(hp.rows h l hh).len
 .obtain⟨h,hh⟩:=iK.1 hl;have R:=hp.rows h l hh;rcases R.ok x hx with h1|h1
  .exact .inl h1
  .obtain⟨m,hm⟩:=iK.1 hx;obtain⟨r,rfl⟩:∃r:Nat,x=r:=⟨x.toNat,by omega⟩
   have:r<q.rs.length:=(R.on m r hm).2.2.1
   right;omega
theorem Gn {p:List (List Int)}{h m r:Nat}(hw:gI p h m=(r:Int)):∃l,p[h]?=some l/\l[m]?=some (r:Int):=by
 unfold gI at hw;cases h1:p[h]? with
 |none=>rw[h1]at hw;simp at hw
 |some l=>
  rw[h1]at hw;simp only[rU]at hw;refine⟨l,rfl,?_⟩;cases h2:l[m]? with
  |none=>rw[h2]at hw;simp at hw
  |some x=>rw[h2]at hw;simp at hw;rw[hw]
theorem Lr {p:List (List Int)}{h m:Nat}{l:List Int}{x:Int}(hl:p[h]?=some l)(hm:l[m]?=some x):gI p h m=x:=by
 unfold gI;rw[hl,rU,hm];rfl
theorem Zi5 {p:List (List Int)}{h m:Nat}{l:List Int}{x:Int}(hl:p[h]?=some l)(hm:m<l.length)(h' m':Nat):gI (gA p h m x) h' m'=if h'=h/\m'=m then x else gI p h' m':=by
 have hh:=(cA.1 hl).1;unfold gI gA;rw[hl,rU];by_cases e:h'=h
 .subst e;rw[O4 hh,rU,hl,rU];by_cases e2:m'=m
  .subst e2;rw[O4 hm,if_pos ⟨rfl,rfl⟩];rfl
  .rw[List.getElem?_set_ne (fun e'=>e2 e'.symm),if_neg (fun h=>e2 h.2)]
 .rw[List.getElem?_set_ne (fun e'=>e e'.symm),if_neg (fun h=>e h.1)]
theorem ZrB {p:List (List Int)}{r h:Nat}(ho:xI p r h = -1)(m:Nat):gI p h m≠(r:Int):=fun hw=>by
 obtain⟨l,h1,h2⟩:=Gn hw;unfold xI HB at ho;rw[h1,rU]at ho;cases hf:l.findIdx? (fun x=>decide ((r:Int)=x))with
 |none=>
  rw[List.findIdx?_eq_none_iff]at hf
  have:=hf _ (dL h2)
  simp at this
 |some i=>rw[hf]at ho;simp only at ho;omega
theorem zK {q:Qu}{p:List (List Int)}{r:Nat}{x:Nd}:x∈nx q p (.ru r)↔∃h,h<p.length/\xI p r h = -1/\x=.rh r h:=by
 simp only[nx,WX,V5,iJ,iV,decide_eq_true_eq];rw[fP (by simp)];constructor
 .rintro⟨h,⟨h1,h2⟩,h3⟩;exact⟨h,by simpa using h1,h2,h3.symm⟩
 .rintro⟨h,h1,h2,h3⟩;exact⟨h,⟨by simpa using h1,h2⟩,h3.symm⟩
theorem vO {q:Qu}{p:List (List Int)}{r h:Nat}{x:Nd}:x∈nx q p (.rh r h)↔(∃m,m<q.ms.length/\q.may r m h=true/\gI p h m≠(r:Int)/\x=.mh m h)\/(xI p r h≠-1/\x=.ru r):=by
 simp only[nx,JU,jG,sG,iJ,iV];constructor
 .rintro(⟨m,⟨h1,h2⟩,h3⟩|h1)
  .obtain⟨a,b⟩:=XE.1 h1;exact .inl ⟨m,a,b,by simpa using h2,h3.symm⟩
  .split at h1
   .cases h1
   .rename_i ho;exact .inr ⟨ho,by simpa using h1⟩
 .rintro(⟨m,h1,h2,h3,h4⟩|⟨h1,h2⟩)
  .exact .inl ⟨m,⟨XE.2 ⟨h1,h2⟩,by simpa using h3⟩,h4.symm⟩
  .right;rw[if_neg h1];simpa using h2
theorem K0 {q:Qu}{p:List (List Int)}{m h:Nat}{x:Nd}:x∈nx q p (.mh m h)↔x=.rh (gI p h m).toNat h:=by simp[nx]
abbrev keys (bR:By):List Nd:=bR.map (·.1)
theorem ZpL {bR:By}{n:Nd}(h:(par bR n).isSome=true):n∈keys bR:=by
 unfold par at h;rw[Option.isSome_map,List.find?_isSome]at h;obtain⟨e,he,h2⟩:=h;simp only[decide_eq_true_eq]at h2;exact iJ.2 ⟨e,he,h2.symm⟩
structure Grow (s s':By×List Nd):Prop where
 k:∀x∈keys s.1,x∈keys s'.1
 t:∀x∈s.2,x∈s'.2
 n:∀x∈keys s'.1,x∈keys s.1\/x∈s'.2
 i:∀(i:Nat) (e:Nd×Nd),s.1[i]?=some e->s'.1[i]?=some e
theorem Grow.refl (s:By×List Nd):Grow s s:=⟨fun _ h=>h,fun _ h=>h,fun _ h=>.inl h,fun _ _ h=>h⟩
theorem Grow.trans {s s' Ja:By×List Nd}(h:Grow s s')(h':Grow s' Ja):Grow s Ja:=
 ⟨fun x hx=>h'.k x (h.k x hx),fun x hx=>h'.t x (h.t x hx),fun x hx=>by
  rcases h'.n x hx with h1|h1
  .rcases h.n x h1 with h2|h2
   .exact .inl h2
   .exact .inr (h'.t x h2)
  .exact .inr h1,fun i e hi=>h'.i i e (h.i i e hi)⟩
def x6 (q:Qu)(p:List (List Int))(run:Nat)(bR:By):Prop:=∀(i:Nat) (e:Nd×Nd),bR[i]?=some e->(i=0/\e=(.ru run,.ru run))\/∃(j:Nat) (b:Nd),j<i/\bR[j]?=some (e.2,b)/\e.1∈nx q p e.2/\tL p e.2=false
theorem Zn8 {q:Qu}{p:List (List Int)}{run:Nat}{n x:Nd}{s:By×List Nd}(hc:x6 q p run s.1)(hn:∃(i:Nat) (b:Nd),s.1[i]?=some (n,b))(hx:x∈nx q p n)(hf:tL p n=false):Grow s (cJ n s x)/\x6 q p run (cJ n s x).1/\x∈keys (cJ n s x).1:=by
 unfold cJ;split
 .rename_i h1;exact⟨Grow.refl s,hc,ZpL h1⟩
 .have old:∀(j:Nat) (e:Nd×Nd),s.1[j]?=some e->(s.1++[(x,n)])[j]?=some e:=fun j e hj=>by
   rw[List.getElem?_append_left (cA.1 hj).1];exact hj
  refine⟨⟨fun y hy=>?_,fun y hy=>by simp[hy],fun y hy=>?_,old⟩,fun i e hi=>?_,by simp[keys]⟩
  .simp only[keys,mH,sG];exact .inl hy
  .simp only[keys,mH,sG]at hy;rcases hy with hy|hy
   .exact .inl hy
   .simp at hy;subst hy;simp
  .rw[yX]at hi;split at hi
   .rcases hc i e hi with h1|⟨j,b,h1,h2,h3⟩
    .exact .inl h1
    .exact .inr ⟨j,b,h1,old j _ h2,h3⟩
   .rename_i hl;have h0:i-s.1.length=0:=by
     have:=(cA.1 hi).1
     simp at this;omega
    rw[h0]at hi;simp at hi;subst hi;obtain⟨j,b,hj⟩:=hn;exact .inr ⟨j,b,by have:=(cA.1 hj).1;omega,old j _ hj,hx,hf⟩
theorem ZfZ {q:Qu}{p:List (List Int)}{run:Nat}{n:Nd}(hf:tL p n=false):∀(l:List Nd) {s:By×List Nd},x6 q p run s.1->(∃(i:Nat) (b:Nd),s.1[i]?=some (n,b))->(∀x∈l,x∈nx q p n)->Grow s (l.foldl (cJ n) s)/\x6 q p run (l.foldl (cJ n) s).1/\∀x∈l,x∈keys (l.foldl (cJ n) s).1
 |[],s,hc,_,_=>⟨Grow.refl s,hc,fun x hx=>by cases hx⟩
 |x::l,s,hc,hn,hl=>by
  obtain⟨g1,c1,k1⟩:=Zn8 hc hn (hl x (by simp)) hf;obtain⟨i,b,hi⟩:=hn;obtain⟨g2,c2,k2⟩:=ZfZ hf l (s:=cJ n s x) c1 ⟨i,b,g1.i i _ hi⟩ (fun y hy=>hl y (by simp[hy]));rw[List.foldl_cons];exact⟨g1.trans g2,c2,fun y hy=>by
   rcases jO.1 hy with e|e
   .subst e;exact g2.k _ k1
   .exact k2 y e⟩
structure BX (q:Qu)(p:List (List Int))(run:Nat)(s:By×List Nd):Prop where
 b:BW q p s
 c:x6 q p run s.1
 r:.ru run∈keys s.1
 cl:∀n∈keys s.1,n∈s.2\/(tL p n=false/\∀x∈nx q p n,x∈keys s.1)
theorem BX.start {q:Qu}{p:List (List Int)}{run:Nat}(hr:run<q.rs.length):BX q p run ([(.ru run,.ru run)],[.ru run]):=
 ⟨BW.start hr,fun i e hi=>by
  cases i with
  |zero=>simp at hi;subst hi;exact .inl ⟨rfl,rfl⟩
  |succ i=>simp at hi,by simp[keys],fun n hn=>by simp[keys]at hn;subst hn;left;simp⟩
theorem BX.step {q:Qu}(hq:q.ok){p:List (List Int)}(hp:PW q p){run:Nat}{bR:By}{n:Nd}{rest:List Nd}(h:BX q p run (bR,n::rest))(hf:tL p n=false):
  BX q p run ((nx q p n).foldl (cJ n) (bR,rest))/\((nx q p n).foldl (cJ n) (bR,rest)).2.length+bR.length=rest.length+((nx q p n).foldl (cJ n) (bR,rest)).1.length:=by
 obtain⟨i0,b0,H2⟩:=h.b.t n (by simp);have vN:=(h.b.b.ok _ (dL H2)).1;obtain⟨w1,_,w3,_⟩:=BW.Ky (nx q p n) h.b.tail ⟨i0,b0,H2⟩ (BI hq hp vN hf);obtain⟨g,c,k⟩:=ZfZ (run:=run) hf (nx q p n) (s:=(bR,rest)) h.c ⟨i0,b0,H2⟩ (fun x hx=>hx);refine⟨⟨w1,c,g.k _ h.r,fun x hx=>?_⟩,w3⟩;rcases g.n x hx with h1|h1
 .rcases h.cl x h1 with h2|⟨h2,h3⟩
  .rcases jO.1 h2 with e|e
   .subst e;exact .inr ⟨hf,k⟩
   .exact .inl (g.t x e)
  .exact .inr ⟨h2,fun y hy=>g.k y (h3 y hy)⟩
 .exact .inl h1
theorem ZhQ {q:Qu}(hq:q.ok){p:List (List Int)}(hp:PW q p){run:Nat}:∀(f:Nat) (bR:By) (todo:List Nd),BX q p run (bR,todo)->todo.length+407<f+bR.length->
  (∃(DL:By) (AU:List Nd) (n:Nd) (i:Nat) (b:Nd),BX q p run (DL,AU)/\DL[i]?=some (n,b)/\tL p n=true/\JC q p f bR todo=some (wV DL DL.length n p))\/(JC q p f bR todo=none/\∃DL:By,BX q p run (DL,[]))
 |0,bR,todo,hB,hF=>by
  have:=hB.b.len hq hp
  simp only at this;omega
 |f+1,bR,[],hB,hF=>.inr ⟨rfl,bR,hB⟩
 |f+1,bR,n::rest,hB,hF=>by
  obtain⟨i0,b0,H2⟩:=hB.b.t n (by simp);rw[JC];by_cases hf:tL p n=true
  .rw[if_pos hf];exact .inl ⟨bR,n::rest,n,i0,b0,hB,H2,hf,rfl⟩
  .rw[if_neg hf];have CU:tL p n=false:=by simpa using hf
   obtain⟨h1,h2⟩:=hB.step hq hp CU;refine ZhQ hq hp f _ _ h1 ?_;simp only[pA]at hF;omega
theorem ZjM {p:List (List Int)}{h:Nat}{l l':List Int}(hl:p[h]?=some l)(r:Nat):kL (p.set h l') r+l.count (r:Int)=kL p r+l'.count (r:Int):=by
 induction p generalizing h with
 |nil=>simp at hl
 |cons a p ih=>
  cases h with
  |zero=>simp at hl;subst hl;simp[kL];omega
  |succ h=>
   have h1:=ih (h:=h) (by simpa using hl);simp[kL]at h1 ⊢;omega
theorem WV {p:List (List Int)}{h m:Nat}{l:List Int}{x:Int}(hl:p[h]?=some l):gA p h m x=p.set h (l.set m x):=by unfold gA;rw[hl];rfl
theorem Nl {p:List (List Int)}{h m:Nat}{l:List Int}{x y:Int}(hl:p[h]?=some l)(hm:l[m]?=some y)(r:Nat):kL (gA p h m x) r+(if y=(r:Int)then 1 else 0)=kL p r+(if x=(r:Int)then 1 else 0):=by
 have h1:=ZjM (l':=l.set m x) hl r;have h2:=(Gw (y:=x) hm).count_eq (r:Int);rw[List.count_cons,List.count_cons]at h2;rw[WV hl];simp only[beq_iff_eq]at h2;omega
theorem LP.setRow {q:Qu}{p:List (List Int)}(hp:LP q p){h:Nat}{l':List Int}(hl:h<p.length)(hr:Row q h l'):LP q (p.set h l'):=by
 refine⟨fun k l e=>?_,by simpa using hp.len⟩;rw[List.getElem?_set]at e;split at e
 .rename_i e1;subst e1;first
   |(cases e;exact hr)
   |(rw[if_pos hl]at e;cases e;exact hr)
 .exact hp.rows k l e
theorem Mt.ZxY {q:Qu}{h:Int}{P:Nat->Prop}{j:Nat}{w:List Int}(hw:Mt q h P j w){r:Nat}(hr:∀m:Nat,w[m]?≠some (r:Int)):Mt q h (fun x=>P x/\x≠r) j w:=
 ⟨hw.len,hw.ok,fun m x e=>⟨(hw.on m x e).1,(hw.on m x e).2.1,⟨(hw.on m x e).2.2.1,fun e'=>hr m (e'▸e)⟩,(hw.on m x e).2.2.2⟩,hw.one⟩
theorem LP.cut {q:Qu}{p:List (List Int)}(hp:LP q p){h m r:Nat}(hw:gI p h m=(r:Int)):LP q (gA p h m (-1)):=by
 obtain⟨l,h1,h2⟩:=Gn hw;rw[WV h1];exact hp.setRow (cA.1 h1).1 (((hp.rows h l h1).cut h2).mono fun _ h=>h.1)
theorem LP.put {q:Qu}{p:List (List Int)}(hp:LP q p){h m r:Nat}(hh:h<p.length)(hm:m<q.ms.length)(hr:r<q.rs.length)(hx:q.may r m h=true)(mK:∀m',gI p h m'≠(r:Int)):LP q (gA p h m r):=by
 have h1:p[h]?=some p[h]:=bC hh;rw[WV h1];refine hp.setRow hh (((hp.rows h _ h1).ZxY (r:=r) fun m' e=>mK m' (Lr h1 e)).put (gY _) hm hx hr fun x hx=>⟨hx.1,hx.2⟩)
theorem LP.move {q:Qu}{p:List (List Int)}(hp:LP q p){h m m' r:Nat}(hw:gI p h m'=(r:Int))(EX:m≠m')(hm:m<q.ms.length)(hx:q.may r m h=true):LP q (gA (gA p h m r) h m' (-1)):=by
 obtain⟨l,h1,h2⟩:=Gn hw;have hh:=(cA.1 h1).1;have e:gA (gA p h m r) h m' (-1)=p.set h ((l.set m' (-1)).set m r):=by
  rw[WV h1,WV (l:=l.set m r) (by rw[O4 hh]),List.set_set,List.set_comm _ _ EX]
 rw[e];have R:=hp.rows h l h1;refine hp.setRow hh ((R.cut h2).put (gY _) hm hx (R.on m' r h2).2.2.1 fun x hx=>⟨hx.1,hx.2⟩)
def CurS (p:List (List Int))(cur:List (List Int)):Nd->Prop
 |.ru r=>∀x,kL cur x=kL p x+(if r=x then 1 else 0)
 |.mh m h=>gI cur h m = -1/\∀x,kL cur x=kL p x
 |.rh _ _=>False
structure Cur (q:Qu)(p:List (List Int))(bR:By)(i:Nat)(n:Nd)(cur:List (List Int)):Prop where
 lp:LP q cur
 len:cur.length=p.length
 c1:∀h m,gI cur h m=gI p h m\/∃k b,i<=k/\bR[k]?=some (Nd.mh m h,b)
 c2:∀h m (r:Nat),gI cur h m=(r:Int)->gI p h m=(r:Int)\/∃k b,i<=k/\bR[k]?=some (Nd.rh r h,b)
 st:CurS p cur n
theorem Ys {bR:By}(hn:(bR.map (·.1)).Nodup){i k:Nat}{n b b':Nd}(hi:bR[i]?=some (n,b))(hk:bR[k]?=some (n,b')):i=k:=by
 refine(List.getElem?_inj (l:=bR.map (·.1)) ?_ hn).1 ?_
 .rw[fZ];exact(cA.1 hi).1
 .rw[bX,bX,hi,hk];rfl
theorem Nj {bR:By}{f:Nat}{n b:Nd}{p:List (List Int)}(hp:par bR n=some b)(cZ:n≠b):wV bR (f+1) n p=wV bR f b (qR n b p):=by
 rw[wV,hp];simp only;rw[if_neg cZ]
theorem ZqL {bR:By}{f:Nat}{n:Nd}{p:List (List Int)}(hp:par bR n=some n):wV bR f n p=p:=by
 cases f with
 |zero=>rfl
 |succ f=>rw[wV,hp];simp
theorem ZoC {q:Qu}(hq:q.ok){p:List (List Int)}(hp:LP q p){run:Nat}{bR:By}(hB:KR q p bR)(hC:x6 q p run bR):∀(i f:Nat) (n b:Nd) (cur:List (List Int)),bR[i]?=some (n,b)->i<=f->Cur q p bR i n cur->
  LP q (wV bR f n cur)/\(wV bR f n cur).length=p.length/\∀x,kL (wV bR f n cur) x=kL p x+(if run=x then 1 else 0):=by
 intro i;induction i using Nat.strongRecOn with
 |_ i ih=>
  intro f n b cur hi hf hc;have lO:=Lo hB.nd hi;simp only at lO;cases n with
  |rh r h=>exact hc.st.elim
  |ru r=>
   rcases hC i _ hi with⟨h0,he⟩|⟨j,b1,hj,DD,iG,D8⟩
   .simp only[Prod.mk.injEq]at he;obtain⟨e1,e2⟩:=he;have e3:r=run:=by injection e1
    subst e3 e2;rw[ZqL lO];exact⟨hc.lp,hc.len,hc.st⟩
   .simp only at DD iG D8;obtain⟨h,rfl,ho⟩:∃h,b=.rh r h/\xI p r h≠-1:=by
     cases b with
     |ru r'=>obtain⟨_,_,_,e⟩:=zK.1 iG;cases e
     |mh m' h'=>cases K0.1 iG
     |rh r' h'=>
      rcases vO.1 iG with⟨_,_,_,_,e⟩|⟨e1,e2⟩
      .cases e
      .injection e2 with e3;subst e3;exact⟨h',rfl,e1⟩
    have M3:=Lo hB.nd DD;simp only at M3;rcases hC j _ DD with⟨_,he⟩|⟨j2,b2,CO,wM,rP,T7⟩
    .simp at he
    .simp only at wM rP T7;obtain⟨m,rfl,Ag⟩:∃m,b1=.mh m h/\gI p h m=(r:Int):=by
      cases b1 with
      |ru r'=>obtain⟨h',_,e1,e2⟩:=zK.1 rP;injection e2 with e3 e4;subst e3 e4;exact absurd e1 ho
      |rh r' h'=>
       rcases vO.1 rP with⟨_,_,_,_,e⟩|⟨_,e⟩
       .cases e
       .cases e
      |mh m' h'=>
       have e:=K0.1 rP;injection e with e1 e2;subst e2;have h1:¬gI p h m' = -1:=by simpa[tL]using T7
       have:=hp.pw.gI h m'
       exact⟨m',rfl,by omega⟩
     obtain⟨f2,rfl⟩:∃f2,f=f2+1+1:=⟨f-2,by omega⟩;rw[Nj lO (by simp),Nj M3 (by simp)];have okm:=(hB.ok _ (dL wM)).1;have rR:gI cur h m=(r:Int):=by
      rcases hc.c1 h m with h1|⟨k,b',hZ,sF⟩
      .rw[h1];exact Ag
      .have:=Ys hB.nd wM sF;omega
     obtain⟨l,oY,qY⟩:=Gn rR;have T4:=(cA.1 qY).1;have BZ:=Zi5 (x:=-1) oY T4;refine ih j2 (by omega) f2 _ b2 _ wM (by omega) ⟨hc.lp.cut rR,by rw[<-hc.len];exact OJ,fun h' m'=>?_,fun h' m' r' e=>?_,?_,fun x=>?_⟩
     .show gI (gA cur h m (-1)) h' m'=_\/_;rw[BZ];split
      .rename_i e;obtain⟨rfl,rfl⟩:=e;exact .inr ⟨j2,b2,fH _,wM⟩
      .rcases hc.c1 h' m' with h1|⟨k,b',hZ,sF⟩
       .exact .inl h1
       .exact .inr ⟨k,b',by omega,sF⟩
     .have e:gI (gA cur h m (-1)) h' m'=(r':Int):=e;rw[BZ]at e;split at e
      .omega
      .rcases hc.c2 h' m' r' e with h1|⟨k,b',hZ,sF⟩
       .exact .inl h1
       .exact .inr ⟨k,b',by omega,sF⟩
     .show gI (gA cur h m (-1)) h m = -1;rw[BZ,if_pos ⟨rfl,rfl⟩]
     .show kL (gA cur h m (-1)) x=kL p x;have h1:=Nl (x:=-1) oY qY x;have h2:kL cur x=kL p x+(if r=x then 1 else 0):=hc.st x;rw[if_neg (by omega:¬(-1:Int)=(x:Int))]at h1;by_cases e:r=x
      .rw[if_pos e]at h2;rw[if_pos (by omega)]at h1;omega
      .rw[if_neg e]at h2;rw[if_neg (by omega)]at h1;omega
  |mh m h=>
   obtain⟨Bs,DB⟩:gI cur h m = -1/\∀x,kL cur x=kL p x:=hc.st;rcases hC i _ hi with⟨_,he⟩|⟨j,b1,hj,DD,iG,D8⟩
   .simp at he
   .simp only at DD iG D8;obtain⟨r,rfl,hmN,p6,Se⟩:∃r,b=.rh r h/\m<q.ms.length/\q.may r m h=true/\gI p h m≠(r:Int):=by
     cases b with
     |ru r'=>obtain⟨_,_,_,e⟩:=zK.1 iG;cases e
     |mh m' h'=>cases K0.1 iG
     |rh r' h'=>
      rcases vO.1 iG with⟨m',a1,a2,a3,e⟩|⟨_,e2⟩
      .injection e with e3 e4;subst e3 e4;exact⟨r',rfl,a1,a2,a3⟩
      .cases e2
    have Ql:r<q.rs.length/\h<p.length:=(hB.ok _ (dL DD)).1;have M3:=Lo hB.nd DD;simp only at M3;have hh:h<cur.length:=by rw[hc.len];exact Ql.2
    have oY:cur[h]?=some cur[h]:=bC hh;have R:=hc.lp.rows h _ oY;have yM:m<cur[h].length:=by rw[R.len];have:=hq.m;omega
    have qY:cur[h][m]?=some (-1):=by
     have e:cur[h][m]?=some cur[h][m]:=bC yM
     have:=Lr oY e
     rw[Bs]at this;rw[e,<-this]
    have BZ:=Zi5 (x:=(r:Int)) oY yM;have nY:∀m':Nat,gI cur h m'=(r:Int)->gI p h m'=(r:Int):=fun m' e=>by
     rcases hc.c2 h m' r e with h1|⟨k,b',hZ,sF⟩
     .exact h1
     .have:=Ys hB.nd DD sF;omega
    rcases hC j _ DD with⟨_,he⟩|⟨j2,b2,CO,wM,rP,T7⟩
    .simp at he
    .simp only at wM rP T7;obtain⟨f2,rfl⟩:∃f2,f=f2+1+1:=⟨f-2,by omega⟩;rw[Nj lO (by simp),Nj M3 (by intro e;cases b1<;>cases e<;>(first|(obtain⟨_,_,_,e⟩:=zK.1 rP;cases e)|(rcases vO.1 rP with⟨_,_,_,_,e⟩|⟨_,e⟩<;>cases e)|skip))];cases b1 with
     |rh r' h'=>
      rcases vO.1 rP with⟨_,_,_,_,e⟩|⟨_,e⟩
      .cases e
      .cases e
     |ru r'=>
      obtain⟨h',_,e1,e2⟩:=zK.1 rP;injection e2 with e3 e4;subst e3 e4;have mK:∀m',gI cur h m'≠(r:Int):=fun m' e=>ZrB e1 m' (nY m' e)
      refine ih j2 (by omega) f2 _ b2 _ wM (by omega) ⟨hc.lp.put hh hmN Ql.1 p6 mK,by rw[<-hc.len];exact OJ,fun h' m'=>?_,fun h' m' r' e=>?_,fun x=>?_⟩
      .show gI (gA cur h m r) h' m'=_\/_;rw[BZ];split
       .rename_i e;obtain⟨rfl,rfl⟩:=e;exact .inr ⟨i,_,by omega,hi⟩
       .rcases hc.c1 h' m' with h1|⟨k,b',hZ,sF⟩
        .exact .inl h1
        .exact .inr ⟨k,b',by omega,sF⟩
      .have e:gI (gA cur h m r) h' m'=(r':Int):=e;rw[BZ]at e;split at e
       .rename_i e';obtain⟨rfl,rfl⟩:=e'
        have:r=r':=by omega
        subst this;exact .inr ⟨j,_,by omega,DD⟩
       .rcases hc.c2 h' m' r' e with h1|⟨k,b',hZ,sF⟩
        .exact .inl h1
        .exact .inr ⟨k,b',by omega,sF⟩
      .show kL (gA cur h m r) x=_;have h1:=Nl (x:=(r:Int)) oY qY x;have h2:=DB x;rw[if_neg (by omega:¬(-1:Int)=(x:Int))]at h1;by_cases e:r=x
       .rw[if_pos e];rw[if_pos (by omega)]at h1;omega
       .rw[if_neg e];rw[if_neg (by omega)]at h1;omega
     |mh m' h'=>
      have e:=K0.1 rP;injection e with e1 e2;subst e2;have jN:gI p h m'=(r:Int):=by
       have h1:¬gI p h m' = -1:=by simpa[tL]using T7
       have:=hp.pw.gI h m'
       omega
      have rR:gI cur h m'=(r:Int):=by
       rcases hc.c1 h m' with h1|⟨k,b',hZ,sF⟩
       .rw[h1];exact jN
       .have:=Ys hB.nd wM sF;omega
      have EX:m≠m':=fun e=>by subst e;exact Se jN
      obtain⟨l,k1,k2⟩:=Gn rR;rw[oY]at k1;cases k1;have MI:(gA cur h m r)[h]?=some (cur[h].set m r):=by rw[WV oY,O4 hh]
      have k3:(cur[h].set m (r:Int))[m']?=some (r:Int):=by rw[List.getElem?_set_ne EX];exact k2
      have PI:=Zi5 (x:=-1) MI (cA.1 k3).1;refine ih j2 (by omega) f2 _ b2 _ wM (by omega) ⟨hc.lp.move rR EX hmN p6,by rw[<-hc.len];exact OJ.trans OJ,fun h' m2=>?_,fun h' m2 r' e=>?_,?_,fun x=>?_⟩
      .show gI (gA (gA cur h m r) h m' (-1)) h' m2=_\/_;rw[PI];split
       .rename_i e;obtain⟨rfl,rfl⟩:=e;exact .inr ⟨j2,_,by omega,wM⟩
       .rw[BZ];split
        .rename_i e;obtain⟨rfl,rfl⟩:=e;exact .inr ⟨i,_,by omega,hi⟩
        .rcases hc.c1 h' m2 with h1|⟨k,b',hZ,sF⟩
         .exact .inl h1
         .exact .inr ⟨k,b',by omega,sF⟩
      .have e:gI (gA (gA cur h m r) h m' (-1)) h' m2=(r':Int):=e;rw[PI]at e;split at e
       .omega
       .rw[BZ]at e;split at e
        .rename_i e';obtain⟨rfl,rfl⟩:=e'
         have:r=r':=by omega
         subst this;exact .inr ⟨j,_,by omega,DD⟩
        .rcases hc.c2 h' m2 r' e with h1|⟨k,b',hZ,sF⟩
         .exact .inl h1
         .exact .inr ⟨k,b',by omega,sF⟩
      .show gI (gA (gA cur h m r) h m' (-1)) h m' = -1;rw[PI,if_pos ⟨rfl,rfl⟩]
      .show kL (gA (gA cur h m r) h m' (-1)) x=kL p x;have h1:=Nl (x:=(r:Int)) oY qY x;have h2:=DB x;have h3:=Nl (x:=-1) MI k3 x;rw[if_neg (by omega:¬(-1:Int)=(x:Int))]at h1 h3;omega
theorem ZlY {F:Nat}(hF:407<F){q:Qu}(hq:q.ok){p p':List (List Int)}(hp:LP q p){run:Nat}(hr:run<q.rs.length)(h:fT F q p run=some p'):LP q p'/\p'.length=p.length/\∀x,kL p' x=kL p x+(if run=x then 1 else 0):=by
 rcases ZhQ hq hp.pw F _ _ (BX.start (q:=q) (p:=p) hr) (by simp;omega)with⟨DL,AU,n,i,b,hB,hi,hf,he⟩|⟨he,_⟩
 .unfold fT at h;rw[he]at h;cases h;have yO:=(cA.1 hi).1;cases n with
  |ru r=>cases hf
  |rh r h=>cases hf
  |mh m h=>
   refine ZoC hq hp hB.b.b hB.c i DL.length _ b p hi (by omega) ⟨hp,rfl,fun _ _=>.inl rfl,fun _ _ _ e=>.inl e,by simpa[tL]using hf,fun _=>rfl⟩
 .unfold fT at h;rw[he]at h;cases h
theorem ZnK {l:List Nat}:∀{l':List Nat},l.Nodup->(∀x∈l,x∈l')->l.length<=l'.length:=by
 induction l with
 |nil=>exact fun _ _=>gY _
 |cons a l ih=>
  intro l' hn hs;rw[List.nodup_cons]at hn;have ha:=hs a (by simp);have h1:=ih (l':=l'.erase a) hn.2 fun x hx=>by
   have cZ:x≠a:=fun e=>hn.1 (e▸hx)
   exact(List.mem_erase_of_ne cZ).2 (hs x (by simp[hx]))
  rw[List.length_erase_of_mem ha]at h1
  have:=List.length_pos_of_mem ha
  rw[pA];omega
theorem ZnL {l l':List Nat}{f:Nat->Nat}(hn:l.Nodup)(hi:∀x∈l,∀y∈l,f x=f y->x=y)(hs:∀x∈l,f x∈l'):l.length<=l'.length:=by
 have h1:(l.map f).Nodup:=by
  rw[DT,List.pairwise_map];refine List.Pairwise.imp_of_mem ?_ (DT.1 hn);exact fun{a b} ha hb cZ e=>cZ (hi a ha b hb e)
 have:=ZnK (l':=l') h1 (fun x hx=>by
  obtain⟨y,hy,rfl⟩:=iJ.1 hx;exact hs y hy)
 simpa using this
theorem Znf (w:List Int):(List.range w.length).map (fun m=>(w[m]?).getD (-1))=w:=by
 apply List.ext_getElem?;intro i;rw[bX];by_cases hi:i<w.length
 .rw[List.getElem?_range hi,bC hi];simp[bC hi]
 .rw[List.getElem?_eq_none (by simp;omega),List.getElem?_eq_none (by omega)];rfl
theorem ZiM (P:Int->Bool)(w:List Int):w.countP P=((List.range w.length).filter fun m=>P ((w[m]?).getD (-1))).length:=by
 conv=>lhs;rw[<-Znf w,List.countP_map,List.countP_eq_length_filter]
 rfl
def busy (x:Int):Bool:=decide (x≠-1)
theorem ZgS (w:List Int):w.count (-1)+w.countP busy=w.length:=by
 induction w with
 |nil=>rfl
 |cons a w ih=>
  rw[List.count_cons,List.countP_cons,pA];by_cases h:a = -1
  .simp[h,busy]at ih ⊢;omega
  .simp[h,busy]at ih ⊢;omega
def S5 (R:List Int)(l:List Int):Nat:=l.countP fun x=>R.contains x
def N8 (q:Qu)(bR:By):List Int:=xW (fun r=>decide (Nd.ru r∈keys bR)) q.rs.length
theorem Fz {q:Qu}{bR:By}{r:Nat}:(r:Int)∈N8 q bR↔r<q.rs.length/\Nd.ru r∈keys bR:=by
 unfold N8;rw[ZkQ];constructor
 .rintro⟨x,e,h1,h2⟩
  have:r=x:=by omega
  subst this;exact⟨h1,by simpa using h2⟩
 .rintro⟨h1,h2⟩;exact⟨r,rfl,h1,by simpa using h2⟩
theorem Zpt {q:Qu}(hq:q.ok){p:List (List Int)}(hp:LP q p){run:Nat}{bR:By}(hB:BX q p run (bR,[])){h:Nat}{l:List Int}(hl:p[h]?=some l):q.DR h (N8 q bR)<=S5 (N8 q bR) l:=by
 have hh:=(cA.1 hl).1;have Rw:=hp.rows h l hl;have Au:nI q (N8 q bR):=nI.JP Zfj;obtain⟨M,hM,hM4⟩:=ZrU hq (h:=h) Au;have gO:∀n∈keys bR,tL p n=false/\∀x∈nx q p n,x∈keys bR:=fun n hn=>by
  rcases hB.cl n hn with h1|h1
  .cases h1
  .exact h1
 have Ql:∀n∈keys bR,n.ok q p:=fun n hn=>by
  obtain⟨e,he,rfl⟩:=iJ.1 hn;exact(hB.b.b.ok e he).1
 have fa:∀r:Nat,Nd.ru r∈keys bR->xI p r h = -1->Nd.rh r h∈keys bR:=fun r hr ho=>(gO _ hr).2 _ (zK.2 ⟨h,hh,ho,rfl⟩)
 have fb:∀r m:Nat,Nd.rh r h∈keys bR->m<q.ms.length->q.may r m h=true->gI p h m≠(r:Int)->Nd.mh m h∈keys bR:=fun r m hr h1 h2 h3=>(gO _ hr).2 _ (vO.2 (.inl ⟨m,h1,h2,h3,rfl⟩))
 have fc:∀r:Nat,Nd.rh r h∈keys bR->xI p r h≠-1->Nd.ru r∈keys bR:=fun r hr h1=>(gO _ hr).2 _ (vO.2 (.inr ⟨h1,rfl⟩))
 have fd:∀m:Nat,Nd.mh m h∈keys bR->∃r:Nat,gI p h m=(r:Int)/\Nd.rh r h∈keys bR/\(r:Int)∈N8 q bR:=fun m hm=>by
  obtain⟨f1,f2⟩:=gO _ hm;have h1:¬gI p h m = -1:=by simpa[tL]using f1
  have h2:=hp.pw.gI h m;obtain⟨r,hr⟩:∃r:Nat,gI p h m=r:=⟨(gI p h m).toNat,by omega⟩;have h3:=f2 _ (K0.2 rfl);rw[hr,H9]at h3;exact⟨r,hr,h3,Fz.2 ⟨by omega,fc r h3 fun ho=>ZrB ho m hr⟩⟩
 have hcM:=ZgS M;rw[hM.len]at hcM;have hA:q.DR h (N8 q bR)=M.countP busy:=by omega
 rw[hA,S5,ZiM,ZiM,hM.len,Rw.len];have oQ:∀m:Nat,m∈(List.range 4).filter (fun m=>busy ((M[m]?).getD (-1)))->∃r:Nat,M[m]?=some (r:Int)/\m<q.ms.length/\q.may r m h=true/\Nd.ru r∈keys bR/\r<q.rs.length:=fun m hm=>by
  rw[iV,List.mem_range]at hm;have yM:m<M.length:=by rw[hM.len];exact hm.1
  have e:M[m]?=some M[m]:=bC yM;have h1:M[m]≠-1:=by have:=hm.2;rw[e]at this;simpa[busy]using this
  have h2:=hM.ok _ (zZ yM);obtain⟨r,hr⟩:∃r:Nat,M[m]=r:=⟨M[m].toNat,by omega⟩;rw[hr]at e;obtain⟨_,o2,o3,o4⟩:=hM.on m r e;obtain⟨o5,o6⟩:=Fz.1 o3;exact⟨r,e,o2,o4,o6,o5⟩
 have sQ:∀r:Nat,Nd.ru r∈keys bR->Nd.rh r h∉keys bR->∃i:Nat,(xI p r h).toNat=i/\l[i]?=some (r:Int):=fun r h1 h2=>by
  have ho:xI p r h≠-1:=fun e=>h2 (fa r h1 e)
  unfold xI at ho ⊢;rw[hl,rU]at ho ⊢;rcases ZuC (l:=l) (v:=(r:Int))with e|⟨i,e1,_,e2⟩
  .exact absurd e ho
  .exact⟨i,by rw[e1,H9],e2⟩
 refine ZnL (f:=fun m=>if Nd.rh ((M[m]?).getD (-1)).toNat h∈keys bR then m else(xI p ((M[m]?).getD (-1)).toNat h).toNat) (List.nodup_range.filter _) (fun m1 H0 m2 nF e=>?_) (fun m hm=>?_)
 .obtain⟨r1,a1,a2,a3,a4,_⟩:=oQ m1 H0;obtain⟨r2,b1,b2,b3,b4,_⟩:=oQ m2 nF;simp only[a1,b1,rU,H9]at e;have key:∀(m1 m2 r1 r2:Nat),M[m1]?=some (r1:Int)->m1<q.ms.length->q.may r1 m1 h=true->Nd.ru r2∈keys bR->Nd.rh r1 h∈keys bR->Nd.rh r2 h∉keys bR->m1=(xI p r2 h).toNat->False:=fun m1 m2 r1 r2 a1 a2 a3 b4 c1 c2 e=>by
   obtain⟨i,e1,e2⟩:=sQ r2 b4 c2;rw[e1]at e;subst e;have hw:=Lr hl e2;by_cases Au:r2=r1
   .subst Au;exact c2 c1
   .have:=fb r1 m1 c1 a2 a3 (by rw[hw];omega)
    obtain⟨r3,d1,d2,_⟩:=fd m1 this;rw[hw]at d1
    have:r2=r3:=by omega
    subst this;exact c2 d2
  by_cases c1:Nd.rh r1 h∈keys bR<;>by_cases c2:Nd.rh r2 h∈keys bR
  .rw[if_pos c1,if_pos c2]at e;exact e
  .rw[if_pos c1,if_neg c2]at e;exact(key m1 m2 r1 r2 a1 a2 a3 b4 c1 c2 e).elim
  .rw[if_neg c1,if_pos c2]at e;exact(key m2 m1 r2 r1 b1 b2 b3 a4 c2 c1 e.symm).elim
  .rw[if_neg c1,if_neg c2]at e;obtain⟨i,e1,e2⟩:=sQ r1 a4 c1;obtain⟨j,f1,f2⟩:=sQ r2 b4 c2;rw[e1,f1]at e;subst e;rw[e2]at f2
   have:r1=r2:=by have:=Option.some.inj f2;omega
   subst this;exact hM.one _ _ _ a1 b1
 .obtain⟨r,a1,a2,a3,a4,a5⟩:=oQ m hm;rw[iV,List.mem_range]at hm ⊢;simp only[a1,rU,H9];split
  .rename_i c1;refine⟨hm.1,?_⟩;have T4:m<l.length:=by rw[Rw.len];exact hm.1
   have e:l[m]?=some l[m]:=bC T4;have hw:=Lr hl e;rw[e,rU,<-hw,jC];by_cases EU:gI p h m=(r:Int)
   .rw[EU];exact Fz.2 ⟨a5,a4⟩
   .obtain⟨r3,d1,_,d3⟩:=fd m (fb r m c1 a2 a3 EU);rw[d1];exact d3
  .rename_i c1;obtain⟨i,e1,e2⟩:=sQ r a4 c1;rw[e1,e2,rU,jC];refine⟨by rw[<-Rw.len];exact(cA.1 e2).1,Fz.2 ⟨a5,a4⟩⟩
def J3 (R:List Int)(p:List (List Int)):Nat:=(p.map (S5 R)).sum
theorem nI.nodup {q:Qu}{R:List Int}(h:nI q R):R.Nodup:=by
 rw[DT,Q8];intro i j hi hj QS e;have hx:=h.C7 R[i] (zZ hi);obtain⟨r,hr⟩:∃r:Nat,R[i]=r:=⟨R[i].toNat,by omega⟩
 have:=h.one i j r (by rw[bC hi,hr]) (by rw[bC hj,<-e,hr])
 omega
theorem Zqj {a:Int}{R:List Int}(ha:a∉R)(l:List Int):S5 (a::R) l=l.count a+S5 R l:=by
 unfold S5;induction l with
 |nil=>rfl
 |cons x l ih=>
  rw[List.countP_cons,List.countP_cons,List.count_cons,ih];by_cases e:x=a
  .subst e;have h1:R.contains x=false:=by
    rw[Bool.eq_false_iff];intro h;exact ha (jC.1 h)
   simp[ha];omega
  .have h1:(a::R).contains x=R.contains x:=by
    rw[List.contains_cons]
    have:(x==a)=false:=by simpa using e
    rw[this,Bool.false_or]
   have h2:(x==a)=false:=by simpa using e
   rw[h1,h2];simp only[Bool.false_eq_true,if_false];omega
theorem Ztu {R:List Int}(hn:R.Nodup)(l:List Int):S5 R l=(R.map fun x=>l.count x).sum:=by
 induction R with
 |nil=>unfold S5;simp
 |cons a R ih=>
  rw[List.nodup_cons]at hn;rw[Zqj hn.1,iN,List.sum_cons,ih hn.2]
theorem Zmv (R:List Int)(f g:Int->Nat):(R.map fun x=>f x+g x).sum=(R.map f).sum+(R.map g).sum:=by
 induction R with
 |nil=>rfl
 |cons a R ih=>simp only[iN,List.sum_cons,ih];omega
theorem Gb {R:List Int}(hn:R.Nodup)(h0:∀x∈R,0<=x):∀p:List (List Int),J3 R p=(R.map fun x=>kL p x.toNat).sum
 |[]=>by
  have:∀R:List Int,(R.map fun x=>kL [] x.toNat).sum=0:=fun R=>by
   induction R with
   |nil=>rfl
   |cons a R ih=>rw[iN,List.sum_cons,ih];rfl
  rw[this];rfl
 |l::p=>by
  have h1:J3 R (l::p)=S5 R l+J3 R p:=by unfold J3;rw[iN,List.sum_cons]
  have h2:(R.map fun x=>kL (l::p) x.toNat)=R.map fun x=>l.count x+kL p x.toNat:=by
   refine List.map_congr_left fun x hx=>?_
   have:=h0 x hx
   unfold kL;rw[iN,List.sum_cons,Int.toNat_of_nonneg this]
  rw[h1,h2,Zmv,Gb hn h0 p,Ztu hn]
theorem Zkw {q:Qu}{R:List Int}{p:List (List Int)}(h:∀(k:Nat) (l:List Int),p[k]?=some l->q.DR k R<=S5 R l):∀k,k<=p.length->q.AF R k<=J3 R (p.take k)
 |0,_=>gY _
 |k+1,hk=>by
  have e:p[k]?=some p[k]:=bC (by omega);have h1:=Zkw h k (by omega);have h2:=h k _ e;have h3:J3 R (p.take (k+1))=J3 R (p.take k)+S5 R p[k]:=by unfold J3;rw[OD e,mH,List.sum_append];simp
  show q.AF R k+q.DR k R<=_;omega
theorem Zke {q:Qu}{R:List Int}{p:List (List Int)}(h:∀(k:Nat) (l:List Int),p[k]?=some l->S5 R l<=q.DR k R):∀k,k<=p.length->J3 R (p.take k)<=q.AF R k
 |0,_=>by simp[J3]
 |k+1,hk=>by
  have e:p[k]?=some p[k]:=bC (by omega);have h1:=Zke h k (by omega);have h2:=h k _ e;have h3:J3 R (p.take (k+1))=J3 R (p.take k)+S5 R p[k]:=by unfold J3;rw[OD e,mH,List.sum_append];simp
  show _<=q.AF R k+q.DR k R;omega
theorem LP.ZxH {q:Qu}(hq:q.ok){p:List (List Int)}(hp:LP q p){R:List Int}(hR:nI q R):J3 R p<=q.AF R p.length:=by
 have:=Zke (q:=q) (R:=R) (p:=p) (fun k l hl=>by
  have Rw:=hp.rows k l hl;have hg:∀(m:Nat) (x:Int),(l.map fun x=>if R.contains x=true then x else -1)[m]?=some x->∃y,l[m]?=some y/\((R.contains y=true/\x=y)\/(R.contains y=false/\x = -1)):=fun m x e=>by
   rw[bX,eA]at e;obtain⟨y,h1,h2⟩:=e;refine⟨y,h1,?_⟩;split at h2
   .rename_i hc;exact .inl ⟨hc,h2.symm⟩
   .rename_i hc;exact .inr ⟨by simpa using hc,h2.symm⟩
  have hM:Mt q k (fun r=>(r:Int)∈R) 0 (l.map fun x=>if R.contains x=true then x else -1):=by
   refine⟨by simpa using Rw.len,fun x hx=>?_,fun m r e=>?_,fun m m' r e e'=>?_⟩
   .obtain⟨m,hm⟩:=iK.1 hx;obtain⟨y,h1,h2⟩:=hg m x hm;rcases h2 with⟨_,rfl⟩|⟨_,rfl⟩
    .exact Rw.ok _ (dL h1)
    .exact .inl rfl
   .obtain⟨y,h1,h2⟩:=hg m r e;rcases h2 with⟨h2,rfl⟩|⟨_,h2⟩
    .obtain⟨o1,o2,o3,o4⟩:=Rw.on m r h1;exact⟨o1,o2,jC.1 h2,o4⟩
    .omega
   .obtain⟨y,h1,h2⟩:=hg m r e;obtain⟨y',H7,uA⟩:=hg m' r e';rcases h2 with⟨_,rfl⟩|⟨_,h2⟩
    .rcases uA with⟨_,rfl⟩|⟨_,uA⟩
     .exact Rw.one _ _ _ h1 H7
     .omega
    .omega
  have h1:=ZrV hq hR hM;have h2:=ZgS (l.map fun x=>if R.contains x=true then x else -1);rw[hM.len,List.countP_map]at h2;have h3:l.countP (busy∘fun x=>if R.contains x=true then x else -1)=S5 R l:=by
   unfold S5;refine List.countP_congr fun x _=>?_
   simp only[Function.comp,busy];rw[decide_eq_true_eq];by_cases hc:R.contains x=true
   .have:=hR.C7 x (jC.1 hc)
    simp only[hc,iff_true,if_true];omega
   .simp only[hc];simp
  rw[h3]at h2
  omega) p.length (fH _)
 rwa [mX]at this
def xF (q:Qu)(p:List (List Int))(r:Nat):Prop:=∃R,q.rising R=true/\(r:Int)∈R/\q.AF R p.length<=J3 R p
theorem ZlZ {F:Nat}(hF:407<F){q:Qu}(hq:q.ok){p:List (List Int)}(hp:LP q p){run:Nat}(hr:run<q.rs.length)(h:fT F q p run=none):xF q p run:=by
 rcases ZhQ hq hp.pw F _ _ (BX.start (q:=q) (p:=p) hr) (by simp;omega)with⟨DL,AU,n,i,b,hB,hi,hf,he⟩|⟨_,DL,hB⟩
 .unfold fT at h;rw[he]at h;cases h
 .refine⟨N8 q DL,Zfj,Fz.2 ⟨hr,hB.r⟩,?_⟩
  have:=Zkw (fun k l hl=>Zpt hq hp hB hl) p.length (fH _)
  rwa [mX]at this
theorem Zo3 {R:List Int}(hn:R.Nodup)(h0:∀x∈R,0<=x){p p':List (List Int)}(h:∀x,kL p x<=kL p' x):J3 R p<=J3 R p':=by
 rw[Gb hn h0,Gb hn h0];clear hn h0;induction R with
 |nil=>exact fH _
 |cons a R ih=>simp only[iN,List.sum_cons];have:=h a.toNat;omega
theorem xF.mono {q:Qu}{p p':List (List Int)}{r:Nat}(h:xF q p r)(hl:p'.length=p.length)(hc:∀x,kL p x<=kL p' x):xF q p' r:=by
 obtain⟨R,h1,h2,h3⟩:=h;have hR:=nI.JP h1;exact⟨R,h1,h2,by rw[hl];exact lJ h3 (Zo3 hR.nodup (fun x hx=>(hR.C7 x hx).1) hc)⟩
theorem Zf8 {F:Nat}(hF:407<F){q:Qu}(hq:q.ok):∀(l:List Nat) (p:List (List Int)),LP q p->(∀r∈l,r<q.rs.length)->
  LP q (fG F q p l).1/\(fG F q p l).1.length=p.length/\(∀x,kL (fG F q p l).1 x+(fG F q p l).2.count x=kL p x+l.count x)/\(∀x,kL p x<=kL (fG F q p l).1 x)/\(∀r∈(fG F q p l).2,r∈l/\xF q (fG F q p l).1 r)
 |[],p,hp,_=>⟨hp,rfl,fun _=>rfl,fun _=>fH _,fun r hr=>by cases hr⟩
 |r::l,p,hp,hl=>by
  have lH:∀x∈l,x<q.rs.length:=fun x hx=>hl x (by simp[hx])
  have hr:=hl r (by simp);unfold fG;cases hg:fT F q p r with
  |some p'=>
   obtain⟨g1,g2,g3⟩:=ZlY hF hq hp hr hg;obtain⟨k1,k2,k3,k4,k5⟩:=Zf8 hF hq l p' g1 lH;refine⟨k1,k2.trans g2,fun x=>?_,fun x=>lJ (by rw[g3];omega) (k4 x),fun y hy=>⟨by simp[(k5 y hy).1],(k5 y hy).2⟩⟩;simp only;rw[k3,g3,List.count_cons];by_cases e:r=x
   .simp[e];omega
   .simp[e]
  |none=>
   have bU:=ZlZ hF hq hp hr hg;obtain⟨k1,k2,k3,k4,k5⟩:=Zf8 hF hq l p hp lH;refine⟨k1,k2,fun x=>?_,k4,fun y hy=>?_⟩
   .simp only;rw[List.count_cons,List.count_cons,<-Nat.add_assoc,k3,Nat.add_assoc]
   .simp only at hy ⊢;rcases jO.1 hy with e|e
    .subst e;exact⟨by simp,bU.mono k2 k4⟩
    .exact⟨by simp[(k5 y e).1],(k5 y e).2⟩
def uO (q:Qu)(T:Nat):Prop:=∃R,q.rising R=true/\(q.AF R T:Int)<q.sH R
def TU (q:Qu)(p:List (List Int)):Prop:=∀x,x<q.rs.length->(kL p x:Int)=(q.run x).hours
theorem Zip {q:Qu}{R:List Int}(h0:∀x∈R,0<=x/\x<q.rs.length){f:Nat->Nat}(hf:∀x,x<q.rs.length->(f x:Int)=(q.run x).hours):q.sH R=((R.map fun x=>f x.toNat).sum:Nat):=by
 unfold Qu.sH;induction R with
 |nil=>rfl
 |cons a R ih=>
  rw[iN,List.sum_cons,iN,List.sum_cons,ih fun x hx=>h0 x (by simp[hx])];have ha:=h0 a (by simp);have h1:=hf a.toNat (by omega);have h2:q.tT a=(q.run a.toNat).hours:=by unfold Qu.tT Qu.run;cases q.rs[a.toNat]?<;>rfl
  rw[h2,<-h1];omega
theorem ZlH {q:Qu}{p:List (List Int)}{l:List Nat}{r:Nat}(hs:xF q p r)(hr:r∈l)(hc:∀x,x<q.rs.length->((kL p x+l.count x:Nat):Int)=(q.run x).hours):uO q p.length:=by
 obtain⟨R,h1,h2,h3⟩:=hs;have hR:=nI.JP h1;refine⟨R,h1,?_⟩;rw[Zip hR.C7 hc,Zmv R (fun x=>kL p x.toNat) (fun x=>l.count x.toNat),<-Gb hR.nodup fun x hx=>(hR.C7 x hx).1];have h4:1<=(R.map fun x=>l.count x.toNat).sum:=by
  clear h1 h3 hR hc;induction R with
  |nil=>cases h2
  |cons a R ih=>
   rw[iN,List.sum_cons];rcases jO.1 h2 with e|e
   .subst e
    have:1<=l.count r:=List.count_pos_iff.2 hr
    rw[H9];omega
   .have:=ih e;omega
 omega
theorem LP.nil {q:Qu}:LP q []:=⟨fun h l e=>by simp at e,by simp⟩
theorem LP.more {q:Qu}{p:List (List Int)}(hp:LP q p)(hl:p.length<40):LP q (p++[fC]):=by
 refine⟨fun h l e=>?_,by simp;omega⟩;rw[yX]at e;split at e
 .exact hp.rows h l e
 .have h0:h-p.length=0:=by
   have:=(cA.1 e).1
   simp at this;omega
  rw[h0]at e;simp at e;subst e;exact Mt.idle
theorem ZqE {p:List (List Int)}{x:Nat}:kL (p++[fC]) x=kL p x:=by
 rw[Mf,ZtR]
 have:fC.count (x:Int)=0:=List.count_eq_zero.2 fun h=>by simp[fC]at h
 rw[this];rfl
theorem Ziu {F:Nat}(hF:407<F){q:Qu}(hq:q.ok):∀(n:Nat) (p:List (List Int)) (l:List Nat),LP q p->(∀r∈l,r<q.rs.length)->(∀x,x<q.rs.length->((kL p x+l.count x:Nat):Int)=(q.run x).hours)->(∀r∈l,xF q p r)->(p.length=0\/uO q (p.length-1))->p.length+n=41->
  (∃p',tR F q n p l=some p'/\LP q p'/\TU q p'/\(p'.length=0\/uO q (p'.length-1)))\/(tR F q n p l=none/\uO q 40)
 |n,p,[],hp,_,hc,_,hL,_=>.inl ⟨p,by cases n<;>rfl,hp,fun x hx=>by have:=hc x hx;simpa using this,hL⟩
 |0,p,r::l,hp,_,_,_,_,hn=>by have:=hp.len;omega
 |n+1,p,r::l,hp,hl,hc,hs,hL,hn=>by
  have hk:=ZlH (hs r (by simp)) (by simp) hc;unfold tR;split
  .rename_i RV;rw[RV]at hk;exact .inr ⟨rfl,hk⟩
  .rename_i RV;have h1:=hp.len;obtain⟨k1,k2,k3,_,k5⟩:=Zf8 hF hq (r::l) _ (hp.more (by omega)) hl;have e:(p++[fC]).length=p.length+1:=by simp
   rw[e]at k2;refine Ziu hF hq n _ _ k1 (fun x hx=>hl x (k5 x hx).1) (fun x hx=>?_) (fun x hx=>(k5 x hx).2) (.inr ?_) (by omega)
   .rw[k3,ZqE];exact hc x hx
   .rw[k2,Nat.add_sub_cancel];exact hk
theorem Zfa {q:Qu}{x:Nat}:∀k,((List.range k).flatMap fun i=>List.replicate (q.run i).hours.toNat i).count x=if x<k then(q.run x).hours.toNat else 0
 |0=>rfl
 |k+1=>by
  rw[List.range_succ,List.flatMap_append,List.count_append,Zfa k];simp only[List.flatMap_cons,List.flatMap_nil,tG,List.count_replicate];by_cases e:k=x
  .subst e;simp
  .have:(k==x)=false:=by simpa using e
   rw[this];by_cases h:x<k
   .have h':x<k+1:=by omega
    simp[h,h']
   .have h':¬x<k+1:=fun h'=>h (by omega)
    simp[h,h']
theorem BP {F:Nat}(hF:407<F){q:Qu}(hq:q.ok):(∃p,q.DX F=some p/\LP q p/\TU q p/\(p.length=0\/uO q (p.length-1)))\/(q.DX F=none/\uO q 40):=by
 refine Ziu hF hq 41 [] q.JL LP.nil oE (fun x hx=>?_) (fun r hr=>?_) (.inl rfl) rfl
 .have h1:q.JL.count x=_:=Zfa (q:=q) (x:=x) q.rs.length;rw[h1,if_pos hx];have h2:kL [] x=0:=rfl;have rN:q.rs[x]?=some q.rs[x]:=bC hx;have h3:=(hq.h _ (zZ hx)).1;have h4:q.run x=q.rs[x]:=by unfold Qu.run;rw[rN];rfl
  rw[h2,h4];omega
 .have wG:=oE r hr;refine⟨[(r:Int)],?_,by simp,gY _⟩;simp[Qu.rising,Qu.SQ];omega
theorem uO.no {q:Qu}(hq:q.ok){p:List (List Int)}(hp:LP q p)(hd:TU q p):¬uO q p.length:=by
 rintro⟨R,h1,h2⟩;have hR:=nI.JP h1;have h3:=hp.ZxH hq hR;rw[Gb hR.nodup fun x hx=>(hR.C7 x hx).1]at h3;rw[Zip hR.C7 hd]at h2;omega

def fB (rec:Nat->List (List Int)):Nat->Nat->List (List Int)
 |0,_=>[]
 |f+1,k=>rec k++fB rec f (k+1)
def vB (n:Nat):Nat->List Int->Nat->List (List Int)
 |0,B,_=>[B]
 |m+1,B,next=>fB (fun k=>vB n m (B++[(k:Int)]) (k+1)) (n-next) next
def yU (n:Nat):List (List Int):=fB (fun k=>vB n k [] 0) n 1
def KP (n:Nat):Nat->List Int->Prop
 |_,[]=>True
 |next,y::s=>∃k:Nat,y=(k:Int)/\next<=k/\k<n/\KP n (k+1) s
theorem Zfx {rec:Nat->List (List Int)}{x:List Int}:∀(f k:Nat),x∈fB rec f k↔∃i,k<=i/\i<k+f/\x∈rec i
 |0,k=>by
  constructor
  .intro h;cases h
  .rintro⟨i,h1,h2,_⟩;omega
 |f+1,k=>by
  unfold fB;rw[sG,Zfx f (k+1)];constructor
  .rintro(h|⟨i,h1,h2,h3⟩)
   .exact⟨k,fH _,by omega,h⟩
   .exact⟨i,by omega,by omega,h3⟩
  .rintro⟨i,h1,h2,h3⟩;by_cases e:i=k
   .subst e;exact .inl h3
   .exact .inr ⟨i,by omega,by omega,h3⟩
theorem Nw {n:Nat}{x:List Int}:∀(m:Nat) (B:List Int) (next:Nat),x∈vB n m B next↔∃s,x=B++s/\s.length=m/\KP n next s
 |0,B,next=>by
  show x∈[B]↔_;rw[rW];constructor
  .rintro rfl;exact⟨[],by simp,rfl,trivial⟩
  .rintro⟨s,h1,h2,_⟩;rw[List.length_eq_zero_iff.1 h2]at h1;simpa using h1
 |m+1,B,next=>by
  show x∈fB _ _ _↔_;rw[Zfx];constructor
  .rintro⟨k,h1,h2,h3⟩;obtain⟨s,e1,e2,e3⟩:=(Nw m _ _).1 h3;exact⟨(k:Int)::s,by rw[e1];simp,by simp[e2],k,rfl,h1,by omega,e3⟩
  .rintro⟨s,e1,e2,e3⟩;cases s with
   |nil=>cases e2
   |cons y s=>
    obtain⟨k,rfl,k1,k2,k3⟩:=e3;exact⟨k,k1,by omega,(Nw m _ _).2 ⟨s,by rw[e1];simp,by simpa using e2,k3⟩⟩
theorem KP.inc {n:Nat}:∀{next:Nat} {s:List Int},KP n next s->s.Pairwise (·<·)/\∀x∈s,(next:Int)<=x/\x<n
 |next,[],_=>⟨List.Pairwise.nil,fun x hx=>by cases hx⟩
 |next,y::s,⟨k,e,h1,h2,h3⟩=>by
  subst e;obtain⟨a,b⟩:=KP.inc h3;refine⟨I0.2 ⟨fun x hx=>by have:=b x hx;omega,a⟩,fun x hx=>?_⟩;rcases jO.1 hx with e|e
  .subst e;omega
  .have:=b x e;omega
theorem KP.of {n:Nat}:∀{next:Nat} {s:List Int},s.Pairwise (·<·)->(∀x∈s,(next:Int)<=x/\x<n)->KP n next s
 |next,[],_,_=>trivial
 |next,y::s,h1,h2=>by
  rw[I0]at h1;have hy:=h2 y (by simp);refine⟨y.toNat,by omega,by omega,by omega,KP.of h1.2 fun x hx=>?_⟩
  have:=h1.1 x hx
  have:=h2 x (by simp[hx])
  omega
theorem Zm8 {q:Qu}{l:List Int}(hp:l.Pairwise (·<·))(fW:∀x∈l,0<=x/\x<q.rs.length):q.rising l=true:=by
 unfold Qu.rising;rw[rA];intro i hi;rw[List.mem_range]at hi;have hx:l[i]?=some l[i]:=bC hi;have hr:=fW _ (zZ hi);unfold Qu.SQ;rw[hx,rU];simp only[dK,rT,decide_eq_true_eq];refine⟨⟨by omega,by omega⟩,?_⟩;by_cases h0:i=0
 .exact .inl h0
 .right;have hy:l[i-1]?=some (l[i-1]'(by omega)):=bC (by omega);rw[hy,rU];exact Q8.1 hp (i-1) i (by omega) hi (by omega)
theorem qJ {q:Qu}{l:List Int}(h:q.rising l=true):l.Pairwise (·<·):=by
 have hs:∀i:Nat,i+1<l.length->∀x y:Int,l[i]?=some x->l[i+1]?=some y->x<y:=fun i hi x y hx hy=>by
  simp only[Qu.rising,rA,List.mem_range]at h
  have:=h (i+1) hi
  simp only[Qu.SQ,hx,hy,rU,dK,rT,decide_eq_true_eq,Nat.add_sub_cancel]at this;omega
 have hm:∀d i:Nat,∀x y:Int,l[i]?=some x->l[i+d+1]?=some y->x<y:=by
  intro d;induction d with
  |zero=>exact fun i x y hx hy=>hs i (cA.1 hy).1 x y hx hy
  |succ d ih=>
    intro i x y hx hy;have hl:=(cA.1 hy).1;have hz:l[i+d+1]?=some l[i+d+1]:=bC (by omega);have h1:=ih i x _ hx hz;have h2:=hs (i+d+1) (by omega) _ y hz (by rw[<-hy];congr 1);omega
 rw[Q8];intro i j hi hj QS;obtain⟨d,rfl⟩:∃d,j=i+d+1:=⟨j-i-1,by omega⟩;exact hm d i _ _ (bC hi) (bC hj)
theorem vT {q:Qu}{x:List Int}:x∈yU q.rs.length↔q.rising x=true/\x≠[]:=by
 unfold yU;rw[Zfx];constructor
 .rintro⟨k,h1,_,h3⟩;obtain⟨s,e1,e2,e3⟩:=(Nw k _ _).1 h3;rw[List.nil_append]at e1;subst e1;obtain⟨a,b⟩:=e3.inc;exact⟨Zm8 a fun y hy=>by have:=b y hy;omega,fun e=>by subst e;simp at e2;omega⟩
 .rintro⟨h1,h2⟩;have hl:x.length<=q.rs.length:=by
   have hR:=nI.JP h1
   have:=oJ q.rs.length (x.map Int.toNat) (by
    rw[DT,List.pairwise_map];refine List.Pairwise.imp_of_mem ?_ (qJ h1);intro a b ha hb aJ e
    have:=hR.C7 a ha
    have:=hR.C7 b hb
    omega) (fun y hy=>by
    obtain⟨z,hz,rfl⟩:=iJ.1 hy
    have:=hR.C7 z hz
    omega)
   simpa using this
  have h0:0<x.length:=List.length_pos_iff.2 h2;exact⟨x.length,by omega,by omega,(Nw _ _ _).2 ⟨x,by simp,rfl,KP.of (qJ h1) fun y hy=>by have:=(nI.JP h1).C7 y hy;omega⟩⟩
theorem ZeB {rec:Nat->List (List Int)}:∀(f k:Nat),fB rec (f+1) k=fB rec f k++rec (k+f)
 |0,k=>by simp[fB]
 |f+1,k=>by
  have ih:=ZeB (rec:=rec) f (k+1);have e1:fB rec (f+1+1) k=rec k++fB rec (f+1) (k+1):=rfl;have e2:fB rec (f+1) k=rec k++fB rec f (k+1):=rfl;rw[e1,e2,ih,I2,show k+1+f=k+(f+1) by omega]
theorem ZfG {n:Nat}{rec:Nat->List (List Int)}(h:∀k,k<n->(rec k).length<=2^(n-(k+1))):∀(f k:Nat),k+f<=n->(fB rec f k).length+2^(n-(k+f))<=2^(n-k)
 |0,k,_=>by simp[fB]
 |f+1,k,hk=>by
  have ih:=ZfG h f (k+1) (by omega);have h1:=h k (by omega);have e1:fB rec (f+1) k=rec k++fB rec f (k+1):=rfl;rw[e1,gD];rw[show k+1+f=k+(f+1) by omega]at ih
  have:2^(n-k)=2^(n-(k+1))+2^(n-(k+1)):=by
   rw[show n-k=n-(k+1)+1 by omega,Nat.pow_succ];omega
  omega
theorem XJ {n:Nat}:∀(m:Nat) (B:List Int) (next:Nat),next<=n->(vB n m B next).length<=2^(n-next)
 |0,B,next,_=>Nat.one_le_two_pow
 |m+1,B,next,hx=>by
  have:=ZfG (n:=n) (rec:=fun k=>vB n m (B++[(k:Int)]) (k+1)) (fun k hk=>XJ m _ _ (by omega)) (n-next) next (by omega)
  exact lJ (Nat.le_add_right _ _) this
def Li (q:Qu)(m:Nat):Prop:=∀(B:List Int) (next:Nat),B.length+m<=1000->next<=q.rs.length->cN prog 182 ([q.pv,bS B,.i next,.i m].map .pv) [] (fun r Bx=>r=.pv (eG (vB q.rs.length m B next))/\Bx=[])
theorem Ztk (q:Qu):Li q 0:=by
 intro B next hB _;refine cF [.loc 16 0] L182 ?_;have sU:B.length<=1000000:=by omega
 have htB:List.take B.length (List.map aO B)=List.map aO B:=fP (by simp);simp[L182,Qu.pv,bS,eG,vB,aP,sU,htB]
def Jg (q:Qu)(m:Nat)(B:List Int)(k:Nat)(acc:List (List Int)):AS:=⟨[(1,.pv (bS B)),(3,.pv (.i (m+1:Nat))),(4,.ptr (.loc 4 0) 0),(9,.vec (.loc 38 0) 1 0 acc.length),(10,.pv (.i k))],[(.loc 38 0,.arr 26 1 (acc.map bS)),(.loc 4 0,.cells q.cells)]⟩
def lsJ (q:Qu)(m:Nat)(B:List Int)(k:Nat)(acc:List (List Int)):AS:=⟨[(25,.vec (.loc 38 0) 1 0 acc.length),(26,.pv q.pv),(32,.vec (.loc 32 0) 1 0 (B.length+1)),(34,.pv (.i (k+1:Nat))),(36,.pv (.i m)),(1,.pv (bS B)),(3,.pv (.i (m+1:Nat))),(4,.ptr (.loc 4 0) 0),(10,.pv (.i k))],
 [(.loc 32 0,.arr 3 1 ((B++[(k:Int)]).map aO)),(.loc 38 0,.arr 26 1 (acc.map bS)),(.loc 4 0,.cells q.cells)]⟩
theorem Ztj (q:Qu)(hr:q.rs.length<=6)(m:Nat)(ih:Li q m):Li q (m+1):=by
 intro B next hB eK;refine Q4 [.loc 38 0] L182 ?_;intro R hR;have hm0:¬((m:Int)+1=0):=by omega
 have Ag:IntKind.i64.wrap (m:Int)=(m:Int):=wrap64 (by omega);have htB:List.take B.length (List.map aO B)=List.map aO B:=fP (by simp);simp[L182,Qu.pv,hm0];refine eP (fun n τ=>∃f:Nat,next+f<=q.rs.length/\n=q.rs.length-(next+f)/\τ=Jg q m B (next+f) (fB (fun k=>vB q.rs.length m (B++[(k:Int)]) (k+1)) f next))
  ⟨q.rs.length-(next+0),Jg q m B next [],Sub.trans' (Sub.mk (by simp[AS.cR]) (by simp[AS.cR,Qu.cells])) (cR 38 26 1 9 rfl (by decide)),0,by omega,rfl,rfl⟩ ?_
 rintro J hJ n τ ⟨f,hf,rfl,rfl⟩;obtain⟨k,hk⟩:∃k,next+f=k:=⟨_,rfl⟩;rw[hk];rw[hk]at hf;by_cases aJ:k<q.rs.length
 .have aB:=hJ _ _ ⟨f+1,by omega,rfl,rfl⟩;rw[ZeB,show next+(f+1)=k+1 by omega,hk]at aB;have hw:=jE (k:=k) (by omega);have aG:q.rs.length-(k+1)<q.rs.length-k:=by omega
  have hC:=ih (B++[(k:Int)]) (k+1) (by simp;omega) (by omega);have hlen:=XJ (n:=q.rs.length) (m+1) B next eK;have tY:=ZfG (n:=q.rs.length) (rec:=fun k=>vB q.rs.length m (B++[(k:Int)]) (k+1)) (fun k hk=>XJ m _ _ (by omega)) f next (by omega);have hpow:2^(q.rs.length-next)<=2^6:=Nat.pow_le_pow_right (by decide) (by omega);have yN:=XJ (n:=q.rs.length) m (B++[(k:Int)]) (k+1) (by omega);have hpow2:2^(q.rs.length-(k+1))<=2^6:=Nat.pow_le_pow_right (by decide) (by omega);have haccl:=lJ (Nat.le_add_right _ _) tY;clear hJ hlen ih tY;generalize vB q.rs.length m (B++[(k:Int)]) (k+1)=new at *;generalize fB (fun k=>vB q.rs.length m (B++[(k:Int)]) (k+1)) f next=acc at *;have sU:B.length<=1000000:=by omega
  have pO:B.length+1<=1000000:=by omega
  have RB:B.length<=999999:=by omega
  have MU:acc.length+new.length<=1000000:=by omega
  simp[Jg,Qu.cells,aJ,hw,Ag];refine JX (lsJ q m B k acc) ?_ ?_
  .simp[gP,gZ,aP,sU,pO,bS]
   repeat' (with_reducible refine And.intro ?_ ?_)
   all_goals
    refine Sub.mk ?_ ?_
    .simp[bS,Qu.pv]
    .simp[aO,Qu.cells]
  .have hTT:List.take (B.length+1) ((B++[(k:Int)]).map aO)=(B++[(k:Int)]).map aO:=fP (by simp);have hTl:((B++[(k:Int)]).map aO).length=B.length+1:=by simp
   simp[-List.map_append,gP,gZ,lsJ,Qu.cells];refine .inl (cP [.loc 32 0] [q.pv,bS (B++[(k:Int)]),.i (k+1:Nat),.i m] rfl ?_ hC ?_)
   .simp[-List.map_append,aM,bS,hTT]
   simp[-List.map_append,gP,gZ,aM,eG,aP,MU,hw];refine⟨_,_,aG,Sub.mk ?_ ?_,aB⟩
   .simp
   .simp[Qu.cells]
 .have he:k=q.rs.length:=by omega
  have hf2:f=q.rs.length-next:=by omega
  subst hf2;clear hJ;have hV:vB q.rs.length (m+1) B next=fB (fun k=>vB q.rs.length m (B++[(k:Int)]) (k+1)) (q.rs.length-next) next:=rfl;rw[hV]at hR;generalize fB (fun k=>vB q.rs.length m (B++[(k:Int)]) (k+1)) (q.rs.length-next) next=acc at *;have Sk:List.take acc.length (acc.map bS)=acc.map bS:=fP (by simp);rw[he];simp[Jg,Qu.cells,Sk];rw[<-hR];exact⟨rfl,rfl⟩
theorem ZnX (q:Qu)(hr:q.rs.length<=6):∀m,Li q m
 |0=>Ztk q
 |m+1=>Ztj q hr m (ZnX q hr m)
theorem vV {n:Nat}(hn:n<=6):∀(f k:Nat),(fB (fun k=>vB n k [] 0) f k).length<=64*f
 |0,k=>gY _
 |f+1,k=>by
  have ih:=vV hn f (k+1);have h1:=lJ (XJ (n:=n) k [] 0 (by omega)) (Nat.pow_le_pow_right (n:=2) (by decide) (show n-0<=6 by omega));have e1:fB (fun k=>vB n k [] 0) (f+1) k=vB n k [] 0++fB (fun k=>vB n k [] 0) f (k+1):=rfl;rw[e1,gD];omega
def Kn (q:Qu)(k:Nat)(acc:List (List Int)):AS:=⟨[(1,.ptr (.loc 1 0) 0),(3,.vec (.loc 16 0) 1 0 acc.length),(4,.pv (.i k))],[(.loc 16 0,.arr 26 1 (acc.map bS)),(.loc 1 0,.cells q.cells)]⟩
theorem BB (q:Qu)(hr:q.rs.length<=6):cN prog 141 ([q.pv].map .pv) [] (fun r Bx=>r=.pv (eG (yU q.rs.length))/\Bx=[]):=by
 refine Q4 [.loc 16 0] L141 ?_;intro R hR;simp[L141,Qu.pv];refine eP (fun n τ=>∃f:Nat,f<=q.rs.length/\n=q.rs.length-f/\τ=Kn q (1+f) (fB (fun k=>vB q.rs.length k [] 0) f 1))
  ⟨q.rs.length,Kn q 1 [],Sub.trans' (Sub.mk (by simp[AS.cR]) (by simp[AS.cR,Qu.cells])) (cR 16 26 1 3 rfl (by decide)),0,by omega,rfl,rfl⟩ ?_
 rintro J hJ n τ ⟨f,hf,rfl,rfl⟩;by_cases aJ:f<q.rs.length
 .have aB:=hJ _ _ ⟨f+1,by omega,rfl,rfl⟩;rw[ZeB]at aB;have hw:=jE (k:=1+f) (by omega);have aG:q.rs.length-(f+1)<q.rs.length-f:=by omega
  have hC:=ZnX q hr (1+f) [] 0 (by simp;omega) (by omega);have hC':cN prog 182 ([q.pv,.emp (some true),.i (0:Nat),.i (1+f:Nat)].map .pv) [] (fun r Bx=>r=.pv (eG (vB q.rs.length (1+f) [] 0))/\Bx=[]):=hC.Xs rfl (fun j x y m v e1 e2 hd=>by
   match j with
   |0=>simp at e1 e2;subst e1 e2;exact hd
   |1=>simp at e1 e2;subst e1 e2;exact AK hd
   |2=>simp at e1 e2;subst e1 e2;exact hd
   |3=>simp at e1 e2;subst e1 e2;exact hd
   |j+4=>simp at e1)
  have tY:=vV (n:=q.rs.length) hr f 1;have yN:=lJ (XJ (n:=q.rs.length) (1+f) [] 0 (by omega)) (Nat.pow_le_pow_right (n:=2) (by decide) (show q.rs.length-0<=6 by omega));clear hJ hC;have hle:(1:Int)+(f:Int)<=(q.rs.length:Int):=by omega
  have hle2:1+f<=q.rs.length:=by omega
  rw[show 1+(f+1)=1+f+1 by omega]at aB;generalize vB q.rs.length (1+f) [] 0=new at *;generalize fB (fun k=>vB q.rs.length k [] 0) f 1=acc at *;have MU:acc.length+new.length<=1000000:=by omega
  simp[Kn,Qu.cells,hle];refine .inl (cP [] [q.pv,.emp (some true),.i (0:Nat),.i (1+f:Nat)] rfl ?_ hC' ?_)
  .simp[aM,Qu.pv]
  have HK:IntKind.i64.wrap ((1:Int)+(f:Int)+1)=((1+f+1:Nat):Int):=by rw[<-hw];congr 1
  simp[aM,eG,aP,MU,HK];refine⟨_,_,aG,Sub.mk ?_ ?_,aB⟩
  .simp
  .simp[Qu.cells]
 .have he:f=q.rs.length:=by omega
  subst he;clear hJ;have hV:yU q.rs.length=fB (fun k=>vB q.rs.length k [] 0) q.rs.length 1:=rfl;rw[hV]at hR;generalize fB (fun k=>vB q.rs.length k [] 0) q.rs.length 1=acc at *;have Sk:List.take acc.length (acc.map bS)=acc.map bS:=fP (by simp);have Jz:¬(1:Int)+(q.rs.length:Int)<=(q.rs.length:Int):=by omega
  simp[Kn,Qu.cells,Sk,Jz];rw[<-hR];exact⟨rfl,rfl⟩
def fK (q:Qu)(h:Int)(l:List Int)(j:Nat)(rec:List Bool->Nat)(t:List Bool):Nat->Nat
 |0=>rec t
 |i+1=>if(t[((l[i]?).getD 0).toNat]?).getD true=true\/q.may ((l[i]?).getD 0).toNat j h=false then fK q h l j rec t i else max (fK q h l j rec t i) (1+rec (t.set ((l[i]?).getD 0).toNat true))
def Qu.tK (q:Qu)(h:Int)(l:List Int):Nat->List Bool->Nat
 |0,_=>0
 |k+1,t=>fK q h l (q.ms.length-(k+1)) (q.tK h l k) t l.length
theorem Zhs {q:Qu}{h:Int}{l:List Int}{j k:Nat}{rec:List Bool->Nat}{t:List Bool}(hr:∀t,rec t<=k):∀i,fK q h l j rec t i<=k+1
 |0=>by have:=hr t;unfold fK;omega
 |i+1=>by
  have h1:=Zhs (q:=q) (h:=h) (l:=l) (j:=j) (t:=t) hr i;have h2:=hr (t.set ((l[i]?).getD 0).toNat true);unfold fK
  split<;>omega
theorem Zhr {q:Qu}{h:Int}{l:List Int}:∀(k:Nat) (t:List Bool),q.tK h l k t<=k
 |0,_=>fH _
 |k+1,t=>Zhs (Zhr k) _
theorem ZiV {t:List Bool}{i:Nat}{b:Bool}:(t.map PV.bool).set i (.bool b)=(t.set i b).map PV.bool:=by rw[List.map_set]
def OL (q:Qu)(h:Int)(l:List Int)(k:Nat):Prop:=∀t:List Bool,t.length=q.rs.length->cN prog 183 [.pv q.pv,.pv (bS l),.pv (.i h),.pv (.i ((q.ms.length-k:Nat):Int)),.vec (.par 0) 1 0 q.rs.length] [(.par 0,.arr 4 1 (t.map PV.bool))] (fun r B=>r=.pv (.i (q.tK h l k t))/\B=[(.par 0,.arr 4 1 (t.map PV.bool))])
def zM (q:Qu)(h:Int)(l:List Int)(j:Nat)(t:List Bool)(b i:Nat):AS:=⟨[(1,.pv (bS l)),(2,.pv (.i h)),(3,.pv (.i j)),(4,.vec (.par 0) 1 0 q.rs.length),(5,.ptr (.loc 5 0) 0),(11,.pv (.i b)),(12,.pv (.i i))],[(.par 0,.arr 4 1 (t.map PV.bool)),(.loc 5 0,.cells q.cells)]⟩
theorem Ln (q:Qu)(hq:q.ok)(h:Int)(l:List Int)(hl:l.length<=1000)(fW:∀x∈l,0<=x/\x<q.rs.length):∀k,k<=q.ms.length->OL q h l k
 |0,_=>fun t ht=>by
  refine cB [.par 0] L183 ?_;simp[L183,Qu.pv,Qu.tK]
 |k+1,hk=>fun t ht=>by
  have ih:=Ln q hq h l hl fW k (by omega);have yM:=hq.m;have VA:=hq.r;have sU:=Zhr (q:=q) (h:=h) (l:=l) k;have pO:=Zhs (q:=q) (h:=h) (l:=l) (j:=q.ms.length-(k+1)) (t:=t) sU;have nC:q.tK h l (k+1) t=fK q h l (q.ms.length-(k+1)) (q.tK h l k) t l.length:=rfl;rw[nC];unfold OL at ih;obtain⟨j,hj⟩:∃j,q.ms.length-(k+1)=j:=⟨_,rfl⟩;have CP:q.ms.length-k=j+1:=by omega
  rw[hj]at pO ⊢;rw[CP]at ih;generalize hR:q.tK h l k=R at *;have hjm:¬(j:Int)=(q.ms.length:Int):=by omega
  have PJ:=jE (k:=j) (by omega);refine cB [.par 0] L183 ?_;have hjm2:¬j=q.ms.length:=by omega
  have ih0:=ih t ht;simp[L183,Qu.pv,hjm,PJ];refine xQ (gF:=[.pv q.pv,.pv (bS l),.pv (.i h),.pv (.i ((j+1:Nat):Int)),.vec (.par 0) 1 0 q.rs.length]) (B:=[(.par 0,.arr 4 1 (t.map PV.bool))]) (fs:=[]) (cs:=[]) 24 [.par 0] ?_ rfl rfl ?_ ?_ ?_ ih0 ?_
  .rfl
  .simp
  .simp
  .simp[Qu.pv]
  rintro r0 B0 ⟨rfl,rfl⟩;refine⟨rfl,by simp,?_⟩;simp;refine eP (fun n τ=>∃i:Nat,i<=l.length/\n=l.length-i/\τ=zM q h l j t (fK q h l j R t i) i)
   ⟨l.length,zM q h l j t (fK q h l j R t 0) 0,Sub.mk (by simp[fK]) (by simp[Qu.cells]),0,gY _,rfl,rfl⟩ ?_
  rintro J hJ n τ ⟨i,hi,rfl,rfl⟩;by_cases aJ:i<l.length
  .obtain⟨x,hx⟩:∃x,l[i]?=some x:=⟨l[i],bC aJ⟩;obtain⟨BV,X4⟩:=fW x (dL hx);obtain⟨r,rfl⟩:∃r:Nat,x=r:=⟨x.toNat,by omega⟩;have y2:r<q.rs.length:=by omega
   have hg:(l.map aO)[i]?=some (.i r):=by rw[bX,hx];rfl
   have hw:=jE (k:=i) (by omega);have aG:l.length-(i+1)<l.length-i:=by omega
   have aB:=hJ _ _ ⟨i+1,aJ,rfl,rfl⟩;obtain⟨b,hb⟩:∃b,t[r]?=some b:=⟨t[r],bC (by omega)⟩;have Q2:(t.map PV.bool)[r]?=some (.bool b):=by rw[bX,hb];rfl
   have p6:=Zur q hq r j h y2 (by omega);have iG:fK q h l j R t (i+1)=if b=true\/q.may r j h=false then fK q h l j R t i else max (fK q h l j R t i) (1+R (t.set r true)):=by
    rw[fK,hx];simp only[rU,H9,hb]
   have hrt:r<t.length:=by omega
   rw[iG]at aB;have RB:=pO i;clear hJ iG nC;generalize fK q h l j R t i=E at *;cases b with
   |true=>
    rw[if_pos (.inl rfl)]at aB;simp[zM,bS,aJ,↓hg,↓Q2,hw,y2,cU];refine⟨_,_,aG,Sub.mk ?_ ?_,aB⟩
    .simp[bS]
    .simp[Qu.cells]
   |false=>
    simp[zM,bS,aJ,↓hg,↓Q2,y2,Qu.cells,cU];refine cG [q.pv,.i r,.i j,.i h] p6 ?_;cases hc:q.may r j h with
    |false=>
     rw[if_pos (.inr hc)]at aB;simp[hw];refine⟨_,_,aG,Sub.mk ?_ ?_,aB⟩
     .simp[bS]
     .simp[Qu.cells]
    |true=>
     rw[if_neg (by rw[hc];simp)]at aB;have BS:=ih (t.set r true) (by simpa using ht);have Cw:t.set r false=t:=by
      apply List.ext_getElem?;intro j';by_cases e:j'=r
      .subst e;rw[O4 hrt,hb]
      .rw[List.getElem?_set_ne (fun e'=>e e'.symm)]
     have Uq:((t.set r true).map PV.bool)[r]?=some (.bool true):=by rw[bX,O4 hrt];rfl
     have MU:=sU (t.set r true);have pY:IntKind.i64.wrap (1+(R (t.set r true):Int))=((1+R (t.set r true):Nat):Int):=by rw[wrap64 (by omega)];omega
     simp[-List.map_set,↓hg,↓Q2,PJ,y2,setAt,ZiV,cU];refine xQ (gF:=[.pv q.pv,.pv (bS l),.pv (.i h),.pv (.i ((j+1:Nat):Int)),.vec (.par 0) 1 0 q.rs.length]) (B:=[(.par 0,.arr 4 1 ((t.set r true).map PV.bool))]) (fs:=[]) (cs:=[]) 62 [.par 0] ?_ rfl rfl ?_ ?_ ?_ BS ?_
     .rfl
     .simp
     .simp
     .simp[Qu.pv,bS]
     rintro r0 B0 ⟨rfl,rfl⟩;refine⟨rfl,by simp,?_⟩;simp[-List.map_set,↓hg,↓Uq,hw,pY,y2,setAt,ZiV,cU,Cw];have QF:(if(E:Int)<1+(R (t.set r true):Int)then 1+(R (t.set r true):Int)else(E:Int))=((max E (1+R (t.set r true)):Nat):Int):=by split<;>omega
     refine⟨_,_,aG,Sub.mk ?_ ?_,aB⟩
     .simp[bS,QF]
     .simp[zM,Qu.cells]
  .have he:i=l.length:=by omega
   subst he;simp[zM,bS,Qu.cells]
theorem ZkO {q:Qu}{h:Int}{l:List Int}{j:Nat}{rec:List Bool->Nat}{t:List Bool}{n:Nat}:fK q h l j rec t n<=fK q h l j rec t (n+1):=by
 show _<=(if _ then _ else _);split
 .exact fH _
 .exact Nat.le_max_left _ _
theorem ZgD {q:Qu}{h:Int}{l:List Int}{j:Nat}{rec:List Bool->Nat}{t:List Bool}:∀n,rec t<=fK q h l j rec t n
 |0=>fH _
 |n+1=>lJ (ZgD n) ZkO
theorem ZkP {q:Qu}{h:Int}{l:List Int}{j:Nat}{rec:List Bool->Nat}{t:List Bool}{i r:Nat}(hx:l[i]?=some (r:Int))(ht:t[r]?=some false)(hm:q.may r j h=true):∀n,i<n->1+rec (t.set r true)<=fK q h l j rec t n
 |n+1,hi=>by
  by_cases e:i=n
  .subst e;show _<=(if _ then _ else _);rw[hx];simp only[rU,H9,ht];rw[if_neg (by rw[hm];simp)];exact Nat.le_max_right _ _
  .exact lJ (ZkP hx ht hm n (by omega)) ZkO
def KQ (l:List Int)(t:List Bool)(r:Nat):Prop:=(r:Int)∈l/\t[r]?=some false
theorem Zhq {q:Qu}(hq:q.ok){h:Int}{l:List Int}:∀k,k<=q.ms.length->∀(t:List Bool) (w:List Int),Mt q h (KQ l t) (q.ms.length-k) w->4<=q.tK h l k t+w.count (-1)
 |0,_,t,w,hw=>by
  have:=hw.none (fun m r _ h1 h2=>by omega)
  omega
 |k+1,hk,t,w,hw=>by
  have yM:=hq.m;obtain⟨j,hj⟩:∃j,q.ms.length-(k+1)=j:=⟨_,rfl⟩;have CP:q.ms.length-k=j+1:=by omega
  have nC:q.tK h l (k+1) t=fK q h l j (q.tK h l k) t l.length:=by rw[<-hj];rfl
  rw[nC];rw[hj]at hw;have xL:j<w.length:=by rw[hw.len];omega
  have hx:w[j]?=some w[j]:=bC xL;rcases hw.ok _ (zZ xL)with h1|h1
  .rw[h1]at hx
   have:=Zhq hq (h:=h) (l:=l) k (by omega) t w (by rw[CP];exact hw.next hx)
   have:=ZgD (q:=q) (h:=h) (l:=l) (j:=j) (rec:=q.tK h l k) (t:=t) l.length
   omega
  .obtain⟨r,hr⟩:∃r:Nat,w[j]=r:=⟨w[j].toNat,by omega⟩;rw[hr]at hx;obtain⟨_,_,⟨o1,o2⟩,o3⟩:=hw.on j r hx;obtain⟨i,hi⟩:=iK.1 o1
   have:=ZkP (rec:=q.tK h l k) hi o2 o3 l.length (cA.1 hi).1
   have hc:=hw.cut hx;have h2:=Zhq hq (h:=h) (l:=l) k (by omega) (t.set r true) (w.set j (-1)) (by
    rw[CP];exact(hc.mono fun r' wG=>⟨wG.1.1,by rw[List.getElem?_set_ne (fun e=>wG.2 e.symm)];exact wG.1.2⟩).next (O4 xL))
   rw[Zow hx]at h2;omega
theorem ZkN {q:Qu}(hq:q.ok){h:Int}{l:List Int}(fW:∀x∈l,0<=x/\x<q.rs.length):∀k,k<=q.ms.length->∀t:List Bool,∃w,Mt q h (KQ l t) (q.ms.length-k) w/\q.tK h l k t+w.count (-1)=4
 |0,_,t=>⟨fC,Mt.idle,by show 0+_=_;decide⟩
 |k+1,hk,t=>by
  have yM:=hq.m;obtain⟨j,hj⟩:∃j,q.ms.length-(k+1)=j:=⟨_,rfl⟩;have CP:q.ms.length-k=j+1:=by omega
  have nC:q.tK h l (k+1) t=fK q h l j (q.tK h l k) t l.length:=by rw[<-hj];rfl
  rw[nC,hj];have ih:=ZkN hq (h:=h) fW k (by omega);rw[CP]at ih;have step:∀n,n<=l.length->∃w,Mt q h (KQ l t) j w/\fK q h l j (q.tK h l k) t n+w.count (-1)=4:=by
   intro n;induction n with
   |zero=>
     intro _;obtain⟨w,h1,h2⟩:=ih t;exact⟨w,h1.down,h2⟩
   |succ n ihn=>
     intro hn;obtain⟨w0,k1,k2⟩:=ihn (by omega);have hx:l[n]?=some l[n]:=bC (by omega);have EV:=fW _ (dL hx);obtain⟨r,hr⟩:∃r:Nat,l[n]=r:=⟨l[n].toNat,by omega⟩;rw[hr]at hx;have bU:fK q h l j (q.tK h l k) t (n+1)=if(t[r]?).getD true=true\/q.may r j h=false then fK q h l j (q.tK h l k) t n else max (fK q h l j (q.tK h l k) t n) (1+q.tK h l k (t.set r true)):=by
      rw[fK,hx];simp only[rU,H9]
     rw[bU];split
     .exact⟨w0,k1,k2⟩
     .rename_i hc;rw[not_or]at hc;have ht:t[r]?=some false:=by
       cases e:t[r]? with
       |none=>rw[e]at hc;exact absurd rfl hc.1
       |some b=>cases b;rfl;rw[e]at hc;exact absurd rfl hc.1
      have hm:q.may r j h=true:=by simpa using hc.2
      rcases Nat.le_total (1+q.tK h l k (t.set r true)) (fK q h l j (q.tK h l k) t n)with h1|h1
      .rw[Nat.max_eq_left h1];exact⟨w0,k1,k2⟩
      .rw[Nat.max_eq_right h1];obtain⟨w,a1,a2⟩:=ih (t.set r true);have xL:j<w.length:=by rw[a1.len];omega
       have PJ:w[j]?=some (-1):=by
        rcases a1.ok _ (zZ xL)with h3|h3
        .rw[bC xL,h3]
        .obtain⟨r',wG⟩:∃r':Nat,w[j]=r':=⟨w[j].toNat,by omega⟩
         have:=(a1.on j r' (by rw[bC xL,wG])).1
         omega
       refine⟨w.set j r,a1.down.put (fH _) (by omega) hm ⟨dL hx,ht⟩ (fun r' wG=>?_),?_⟩
       .have cZ:r'≠r:=fun e=>by
         have h4:=wG.2;rw[e,O4 (cA.1 ht).1]at h4;cases h4
        refine⟨⟨wG.1,?_⟩,cZ⟩;have h4:=wG.2
        rwa [List.getElem?_set_ne (fun e=>cZ e.symm)]at h4
       .have:=ZtQ (run:=r) PJ
        omega
  exact step l.length (fH _)
def n8 (q:Qu):List Bool:=List.replicate q.rs.length false
theorem Zta {q:Qu}(hq:q.ok){h:Int}{l:List Int}(hl:nI q l):q.tK h l q.ms.length (n8 q)=q.DR h l:=by
 have hf:∀r:Nat,KQ l (n8 q) r↔(r:Int)∈l:=fun r=>⟨fun h=>h.1,fun h=>⟨h,by
  have:=hl.C7 _ h
  unfold n8;rw[List.getElem?_replicate,if_pos (by omega)]⟩⟩
 obtain⟨w,h1,h2⟩:=ZkN hq (h:=h) hl.C7 q.ms.length (fH _) (n8 q);obtain⟨M,h3,h4⟩:=ZrU hq (h:=h) hl;rw[Nat.sub_self]at h1;have h5:=ZrV hq hl (h1.mono fun r hr=>(hf r).1 hr);have h6:=Zhq hq (h:=h) (l:=l) q.ms.length (fH _) (n8 q) M (by rw[Nat.sub_self];exact h3.mono fun r hr=>(hf r).2 hr);omega
def Qu.O7 (q:Qu)(l:List Int):Nat->Nat
 |0=>0
 |h+1=>q.O7 l h+q.tK h l q.ms.length (n8 q)
theorem vG {q:Qu}(hq:q.ok){l:List Int}(hl:nI q l):∀h,q.O7 l h=q.AF l h
 |0=>rfl
 |h+1=>by
  show q.O7 l h+_=q.AF l h+_;rw[vG hq hl h,Zta hq hl]
theorem Zkv {q:Qu}(hq:q.ok){l:List Int}:∀h,q.O7 l h<=4*h
 |0=>fH _
 |h+1=>by
  have h1:=Zkv hq (l:=l) h;have h2:=Zhr (q:=q) (h:=h) (l:=l) q.ms.length (n8 q)
  have:=hq.m
  show q.O7 l h+_<=_;omega
theorem GN (q:Qu)(hq:q.ok)(l:List Int)(hl:l.length<=1000)(fW:∀x∈l,0<=x/\x<q.rs.length)(u:Nat)(hu:u<=100):aD prog 143 [q.pv,bS l,.i u] (.i (q.O7 l u)):=by
 have hqr:=hq.r;refine cS L143 ?_;have hR6:q.rs.length<=1000000:=by omega
 simp[L143,Qu.pv];refine eP (fun n τ=>∃k:Nat,k<=u/\n=u-k/\τ=⟨[(1,.pv (bS l)),(2,.pv (.i u)),(3,.ptr (.loc 3 0) 0),(7,.pv (.i (q.O7 l k))),(8,.pv (.i k))],[(.loc 3 0,.cells q.cells)]⟩)
  ⟨u,⟨[(1,.pv (bS l)),(2,.pv (.i u)),(3,.ptr (.loc 3 0) 0),(7,.pv (.i 0)),(8,.pv (.i 0))],[(.loc 3 0,.cells q.cells)]⟩,Sub.mk (by simp) (by simp[Qu.cells]),0,gY _,rfl,rfl⟩ ?_
 rintro J hJ n τ ⟨k,hk,rfl,rfl⟩;by_cases aJ:k<u
 .have hw:=jE (k:=k) (by omega);have aG:u-(k+1)<u-k:=by omega
  have aB:=hJ _ _ ⟨k+1,aJ,rfl,rfl⟩;have Tp:=Ln q hq k l hl fW q.ms.length (fH _) (n8 q) (by simp[n8]);rw[Nat.sub_self]at Tp;have hb:=Zkv hq (l:=l) (k+1);have bU:q.O7 l (k+1)=q.O7 l k+q.tK k l q.ms.length (n8 q):=rfl;have mK:(n8 q).map PV.bool=List.replicate q.rs.length (.bool false):=by simp[n8]
  rw[mK]at Tp;clear hJ mK;generalize q.O7 l (k+1)=E2 at *;subst bU;generalize q.O7 l k=E at *;generalize q.tK k l q.ms.length (n8 q)=A at *;have sN:IntKind.i64.wrap ((E:Int)+(A:Int))=(E:Int)+(A:Int):=wrap64 (by omega);simp[Qu.cells,aJ,aP,hR6];refine xQ (gF:=[.pv q.pv,.pv (bS l),.pv (.i k),.pv (.i ((0:Nat):Int)),.vec (.par 0) 1 0 q.rs.length]) (B:=[(.par 0,.arr 4 1 (List.replicate q.rs.length (.bool false)))]) (fs:=[]) (cs:=[]) 22 [.loc 21 0] ?_ rfl rfl ?_ ?_ ?_ Tp ?_
  .rfl
  .simp
  .simp
  .simp[Qu.pv]
  rintro r0 B0 ⟨rfl,rfl⟩;refine⟨rfl,by simp,?_⟩;simp[hw,sN];refine⟨_,_,aG,Sub.mk ?_ ?_,aB⟩
  .simp
  .simp[Qu.cells]
 .have he:k=u:=by omega
  subst he;simp[Qu.cells]
end Go.Proofs.YtlllhbmbnjnoiaaGreatDoor.Qn
namespace Go.Proofs.YtlllhbmbnjnoiaaGreatDoor
open Go.RowKit
open Go.Proofs.Tryz Go.Proofs.YtlllhbmbnjnoiaaGreatDoor.Tryz
section
attribute [local irreducible] Qn.Qu.O7 Qn.Qu.sH Qn.yU
def zJ (q:Qn.Qu)(u:Nat):Bool:=(Qn.yU q.rs.length).all fun l=>decide (q.sH l<=(q.O7 l u:Int))
def GX (q:Qn.Qu)(u:Nat)(A:List (List Int))(k:Nat):AS:=⟨[(1,.pv (.i (u:Int))),(2,.ptr (.loc 2 0) 0),(5,.pv (Qn.eG A)),(6,.pv (.i (k:Int)))],[(.loc 2 0,.cells q.cells)]⟩
theorem Zm7 {q:Qn.Qu}(hq:q.ok){l:List Int}(h:l∈Qn.yU q.rs.length):l.length<=1000/\∀x∈l,0<=x/\x<q.rs.length:=by
 have h1:=(Qn.vT.1 h).1;have hR:=Qn.nI.JP h1;refine⟨?_,hR.C7⟩
 have:=Qn.oJ q.rs.length (l.map Int.toNat) (by
  rw[DT,List.pairwise_map];refine List.Pairwise.imp_of_mem ?_ (Qn.qJ h1);intro a b ha hb aJ e
  have:=hR.C7 a ha
  have:=hR.C7 b hb
  omega) (fun y hy=>by
  obtain⟨z,hz,rfl⟩:=iJ.1 hy
  have:=hR.C7 z hz
  omega)
 have h6:=hq.r;rw[fZ]at this;omega
theorem Zpr (q:Qn.Qu)(hq:q.ok)(u:Nat)(hu:u<=100):aD prog 98 [q.pv,.i (u:Int)] (.bool (zJ q u)):=by
 have VA:=hq.r;have Tx:=Qn.BB q VA;have X7:=fun l h=>Zm7 (l:=l) hq h
 have hal:(Qn.yU q.rs.length).length<=1000:=by have:=Qn.vV VA q.rs.length 1;unfold Qn.yU;omega
 obtain⟨V,hV⟩:∃V,V=zJ q u:=⟨_,rfl⟩;rw[<-hV];unfold zJ at hV;generalize Qn.yU q.rs.length=A at *;refine b8 L98 ?_;intro R hR;simp[L98,Qn.Qu.pv];refine .inl (cP [] [q.pv] rfl (by simp[Qn.Qu.pv]) Tx ?_);simp[aM];refine eP (fun m τ=>∃k:Nat,k<=A.length/\m=A.length-k/\V=(A.drop k).all (fun l=>decide (q.sH l<=(q.O7 l u:Int)))/\τ=GX q u A k)
  ⟨A.length,GX q u A 0,Sub.mk (by simp) (by simp[Qn.Qu.cells]),0,gY _,rfl,hV,rfl⟩ ?_
 rintro J hJ m τ ⟨k,hk,rfl,hv,rfl⟩;by_cases aJ:k<A.length
 .obtain⟨l,hx⟩:∃l,A[k]?=some l:=⟨A[k],bC aJ⟩;obtain⟨oY,qY⟩:=X7 l (dL hx);have hg:(A.map Qn.bS)[k]?=some (Qn.bS l):=by rw[bX,hx];rfl
  have hw:=bN (k:=k) (by omega);have aG:A.length-(k+1)<A.length-k:=by omega
  have y8:A.drop k=l::A.drop (k+1):=by
   obtain⟨hl,he⟩:=cA.1 hx;rw[AD hl,he]
  rw[y8,List.all_cons]at hv;have G9:=Qn.HD q l oY (by omega) hq.h qY;have nY:=Qn.GN q hq l oY qY u hu;have hip:Qn.bS l=.aE false 1 (l.map Qn.aO):=rfl;have hqp:q.pv=.agg [.aE false 1 (q.ms.map Qn.iD),.aE false 3 (q.rs.map Qn.Rq.pv)]:=rfl;rw[hqp,hip]at G9 nY;simp[GX,Qn.eG,Qn.Qu.cells,aJ,↓hg,aP,hip];refine cQ [] [_,_] G9 ?_;simp[aM];refine cG [_,_,_] nY ?_;by_cases hc:q.sH l<=(q.O7 l u:Int)
  .have aB:=hJ _ _ ⟨k+1,aJ,rfl,by rw[hv,decide_eq_true hc,Bool.true_and],rfl⟩;have sS:¬(q.O7 l u:Int)<q.sH l:=by omega
   simp[sS,hw];exact⟨_,_,aG,Sub.mk (by simp[Qn.eG]) (by simp[Qn.Qu.cells]),aB⟩
  .have sS:(q.O7 l u:Int)<q.sH l:=by omega
   have wD:V=false:=by rw[hv,decide_eq_false hc,Bool.false_and]
   subst wD;simp[sS];rw[<-hR];exact⟨rfl,rfl⟩
 have he:k=A.length:=by omega
 subst he;rw[List.drop_length]at hv;have wD:V=true:=hv;subst wD;simp[GX,Qn.eG,Qn.Qu.cells];rw[<-hR];exact⟨rfl,rfl⟩
theorem Zm6 {q:Qn.Qu}{R:List Int}{u:Nat}:∀d,q.AF R u<=q.AF R (u+d)
 |0=>fH _
 |d+1=>lJ (Zm6 d) (Nat.le_add_right _ _)
theorem Qn.uO.less {q:Qn.Qu}{T T':Nat}(h:Qn.uO q T)(hl:T'<=T):Qn.uO q T':=by
 obtain⟨R,h1,h2⟩:=h
 have:=Zm6 (q:=q) (R:=R) (u:=T') (T-T')
 rw[Nat.add_sub_cancel' hl]at this;exact⟨R,h1,by omega⟩
theorem Zkx {q:Qn.Qu}(hq:q.ok){u:Nat}:zJ q u=true↔¬Qn.uO q u:=by
 unfold zJ;rw[rA];refine⟨?_,fun h l hl=>?_⟩
 .rintro h ⟨R,h1,h2⟩;have cZ:R≠[]:=fun e=>by subst e;have:q.sH []=0:=(by with_unfolding_all rfl);omega
  have h3:=of_decide_eq_true (h R (Qn.vT.2 ⟨h1,cZ⟩));rw[Qn.vG hq (Qn.nI.JP h1)]at h3;omega
 .refine decide_eq_true ?_;have h1:=(Qn.vT.1 hl).1;rw[Qn.vG hq (Qn.nI.JP h1)];exact Int.not_lt.1 fun h2=>h ⟨l,h1,h2⟩
theorem Zom {q:Qn.Qu}(hc:q.check=0):decide (eR 408 q=0)=zJ q 40:=by
 have hq:=Qn.Qu.Kv hc;unfold eR;rw[if_neg (by rw[hc];exact fun h=>h rfl)];rcases Qn.BP (F:=408) (by decide) hq with⟨p,h1,h2,h3,_⟩|⟨h1,h2⟩
 .rw[h1];exact((Zkx hq).2 fun h=>(h.less h2.len).no hq h2 h3).symm
 .rw[h1];exact(Bool.eq_false_iff.2 fun h=>(Zkx hq).1 h h2).symm
theorem Zjw (rs:List Qn.Rq)(hr:rs.length<=6)(Z2:∀r∈rs,∃h q o,r=pJ h q o/\1<=h/\h<=40/\0<=q/\q<=40/\1<=o/\o<=3):(uK rs).check=0:=by
 have h1:(uK rs).xN=false:=by
  unfold Qn.Qu.xN uK;simp;omega
 have h2:(uK rs).bad=false:=by
  unfold Qn.Qu.bad uK;simp;refine⟨by decide,fun r hr=>?_⟩;obtain⟨h,q,o,rfl,hh⟩:=Z2 r hr;have m1:Qn.kT h=true:=by unfold Qn.kT;rw[decide_eq_true (by omega),decide_eq_true (by omega)];rfl
  have m2:Qn.kT q=true:=by unfold Qn.kT;rw[decide_eq_true (by omega),decide_eq_true (by omega)];rfl
  show(Qn.kT h&&Qn.kT q&&true)=true;rw[m1,m2];rfl
 unfold Qn.Qu.check;rw[h1,h2];rfl
theorem Zps (rs:List Qn.Rq)(hr:rs.length<=6)(Z2:∀r∈rs,∃h q o,r=pJ h q o/\1<=h/\h<=40/\0<=q/\q<=40/\1<=o/\o<=3):aD prog 98 [.agg [WR,.aE false 3 (rs.map Qn.Rq.pv)],.i 40] (.bool (decide (eR 408 (uK rs)=0))):=by
 have hc:=Zjw rs hr Z2;rw[Zom hc];exact Zpr (uK rs) (Qn.Qu.Kv hc) 40 (by decide)
end
section
attribute [local irreducible] Bk.qG eR Bk.contra Bk.held Bk.span Bk.nums Bk.iA Bk.pU stM nV rM Bk.fault
def rnJ (w:Wk)(x:PV):AS:=⟨[(2,.ptr (.loc 2 0) 0),(4,.ptr (.loc 4 0) 0),(6,.ptr (.loc 6 0) 0),(36,.vec (.loc 36 0) 3 0 w.runs.length),(53,.vec (.loc 53 0) 3 0 1)],
 [(.loc 53 0,.arr 85 3 [x]),(.loc 36 0,.arr 85 3 (w.runs.map Qn.Rq.pv)),(.loc 6 0,.cells w.cells),(.loc 4 0,.cells [pP,pP,pP,pP,pP]),(.loc 2 0,.cells w.cells)]⟩
theorem Zup {k0:Nat}(w:Wk)(hI:sI k0 w)(a b c:Int):aD prog 64 [w.pv,.aE false 1 [.i a,.i b,.i c]] (sL w ((runM 408 w.runs a b c).map fun l=>{ w with runs:=l })):=by
 have VA:=hI.r6;have i1:=rI a 1 40;have i2:=rI b 0 40;have i3:=rI c 1 3;have jN:w.pv=.agg [.aE false 7 (w.aA.map Ct.pv),.aE false 1 (w.bad.map iP),.aE false 4 (w.aN.map Lt.pv),.aE false 4 (w.aH.map Tt.pv),.aE false 3 (w.runs.map Qn.Rq.pv)]:=rfl;refine cF [.loc 54 0] L64 ?_;obtain⟨V,hV⟩:∃V,V=sL w ((runM 408 w.runs a b c).map fun l=>{ w with runs:=l }):=⟨_,rfl⟩;rw[<-hV];generalize hR:(fun(r:AV) (B:List (Site×aK))=>r=.pv V/\B=[])=R;have gE:¬((decide (1<=a)&&decide (a<=40))=true/\(decide (0<=b)&&decide (b<=40))=true/\(decide (1<=c)&&decide (c<=3))=true)->V=.bM [w.pv,.i 2]:=fun h=>by
  rw[hV];unfold runM;rw[if_neg h];rfl
 rw[jN]at gE ⊢;simp[L64];refine cG [_,_,_] i1 ?_;generalize tV:(decide (1<=a)&&decide (a<=40))=d1 at *;cases d1
 .have hv:=gE (by simp);subst hv;simp;rw[<-hR];exact⟨by simp,by simp⟩
 simp;refine cG [_,_,_] i2 ?_;generalize wK:(decide (0<=b)&&decide (b<=40))=d2 at *;cases d2
 .have hv:=gE (by simp);subst hv;simp;rw[<-hR];exact⟨by simp,by simp⟩
 simp;refine cG [_,_,_] i3 ?_;generalize T9:(decide (1<=c)&&decide (c<=3))=d3 at *;cases d3
 .have hv:=gE (by simp);subst hv;simp;rw[<-hR];exact⟨by simp,by simp⟩
 clear gE;unfold runM at hV;rw[tV,wK,T9,if_pos ⟨rfl,rfl,rfl⟩]at hV;by_cases h6:w.runs.length<6
 case neg=>
  have hv:V=.bM [w.pv,.i 3]:=by rw[hV,if_neg h6];rfl
  rw[jN]at hv;subst hv;have VS:(6:Int)<=(w.runs.length:Int):=by omega
  have Wh:6<=w.runs.length:=by omega
  simp[VS];rw[<-hR];exact⟨by simp,by simp⟩
 have VS:¬(6:Int)<=(w.runs.length:Int):=by omega
 have Wh:¬6<=w.runs.length:=by omega
 rw[if_pos h6]at hV;have g1:1<=a/\a<=40:=by rw[dK,decide_eq_true_eq,decide_eq_true_eq]at tV;exact tV
 have g2:0<=b/\b<=40:=by rw[dK,decide_eq_true_eq,decide_eq_true_eq]at wK;exact wK
 have g3:1<=c/\c<=3:=by rw[dK,decide_eq_true_eq,decide_eq_true_eq]at T9;exact T9
 have P9:=Zps (w.runs++[pJ a b c]) (by rw[gD];simp;omega) (fun r hr=>(sG.1 hr).elim (hI.on r) fun h=>⟨a,b,c,rW.1 h,g1.1,g1.2,g2.1,g2.2,g3.1,g3.2⟩);have VB:=Zpq ((w.runs++[pJ a b c]).map Qn.Rq.pv);have hnp:Qn.Rq.pv (pJ a b c)=.agg [.i a,.i b,.aE false 1 [.bool (!decide (c=2)),.bool (!decide (c=1))]]:=rfl;have hm:(w.runs.map Qn.Rq.pv).take w.runs.length=w.runs.map Qn.Rq.pv:=fP (by simp);have HW:w.runs.length<=1000000:=by omega
 have VH:w.runs.length+1<=1000000:=by omega
 rw[mH,iN,List.map_nil]at P9 VB;generalize hxx:Qn.Rq.pv (pJ a b c)=xx at *;have nF:(w.runs.map Qn.Rq.pv++[xx]).take (w.runs.length+1)=w.runs.map Qn.Rq.pv++[xx]:=fP (by simp);simp[aP,VS];refine ED (fun τ=>τ=rnJ w xx) ?_ ?_
 .subst hnp;simp[gP,gZ,aP,HW]
  repeat' apply And.intro
  all_goals exact Sub.mk (by simp) (by simp[pP,Wk.cells])
 rintro τ rfl;simp[rnJ,pP,Wk.cells,gP,gZ,aP,VH];refine .inl<|cP [.loc 54 0] [.aE false 3 (w.runs.map Qn.Rq.pv++[xx])] (by simp) (by simp[nF]) VB ?_;simp[aM,nF];refine cG [_,_] P9 ?_;by_cases he:eR 408 (uK (w.runs++[pJ a b c]))=0
 case neg=>
  have hv:V=.bM [w.pv,.i 9]:=by rw[hV,if_neg he];rfl
  rw[jN]at hv;subst hv;simp[he];rw[<-hR];exact⟨by simp,by simp⟩
 have hv:V=.bM [.agg [.aE false 7 (w.aA.map Ct.pv),.aE false 1 (w.bad.map iP),.aE false 4 (w.aN.map Lt.pv),.aE false 4 (w.aH.map Tt.pv),.aE false 3 (w.runs.map Qn.Rq.pv++[xx])],.i 0]:=by
  rw[hV,if_pos he,<-hxx];show PV.bM [.agg [_,_,_,_,.aE false 3 ((w.runs++[pJ a b c]).map Qn.Rq.pv)],_]=_;rw[mH];rfl
 subst hv;simp[he];rw[<-hR];exact⟨by simp,by simp⟩
end
def Qo:Option Int->PV
 |some v=>.bM [.i v,.bool true]
 |none=>.bM [.i 0,.bool false]
theorem ZnH (s:ByteArray):∃(neg:Bool) (a:Nat) (ds:List UInt8),((neg=true/\a=1/\BA s 0=some 45/\0<s.size)\/(neg=false/\a=0/\(s.size=0\/∃b,BA s 0=some b/\¬(b.toNat:Int)=45/\0<s.size)))/\s.data.toList.drop a=ds/\s.size=ds.length+a/\yD s=(tQ s.size ds).map fun(n:Nat)=>if neg=true then -(n:Int)else(n:Int):=by
 have hz:s.size=s.data.toList.length:=by rw[uX];rfl
 unfold yD;cases hl:s.data.toList with
 |nil=>
  refine⟨false,0,[],.inr ⟨rfl,rfl,.inl (by rw[hz,hl];rfl)⟩,rfl,by rw[hz,hl];rfl,?_⟩;rw[hz,hl];rfl
 |cons b r=>
  have h0:BA s ((0:Nat):Int)=some b:=Yy (by rw[hl];rfl);have hp:0<s.size:=by rw[hz,hl];simp
  by_cases hb:b=45
  .subst hb;refine⟨true,1,r,.inl ⟨rfl,rfl,h0,hp⟩,rfl,by rw[hz,hl];rfl,?_⟩;rw[hz,hl];rfl
  .refine⟨false,0,b::r,.inr ⟨rfl,rfl,.inr ⟨b,h0,fun h=>hb (UInt8.toNat_inj.1 ?_),hp⟩⟩,rfl,by rw[hz,hl];rfl,?_⟩
   .have:(45:UInt8).toNat=45:=rfl
    omega
   .rw[hz,hl];split
    .rename_i r' e;exact absurd (List.cons.inj e).1 hb
    .rfl
theorem ZrP {b:UInt8}:(48<=b.toNat/\b.toNat<=57->Lib.digitVal b=some (b.toNat-48))/\(¬(48<=b.toNat/\b.toNat<=57)->Lib.digitVal b=none):=by
 constructor
 .rintro⟨h1,h2⟩;have h:=Yg (d:=b.toNat-48) (by omega);have e:UInt8.ofNat (48+(b.toNat-48))=b:=UInt8.toNat_inj.1 (by rw[UInt8.toNat_ofNat'];omega);rw[e]at h;exact h
 .intro h;cases hd:Lib.digitVal b with
  |none=>rfl
  |some d=>
   obtain⟨h1,rfl⟩:=ZrD hd;rw[UInt8.toNat_ofNat']at h;omega
theorem Zoa {b:UInt8}{l r:List UInt8}(h:Lib.digitVal b=none){n:Nat}(hn:Lib.decFrom 0 l=some n):Lib.decFrom 0 (l++b::r)=none:=by
 have:∀(l:List UInt8) (acc n:Nat),Lib.decFrom acc l=some n->Lib.decFrom acc (l++b::r)=none:=by
  intro l;induction l with
  |nil=>intro acc n _;simp only[List.nil_append,Lib.decFrom,h]
  |cons x l ih=>
   intro acc n hh;simp only[List.cons_append,Lib.decFrom]at hh ⊢;cases hx:Lib.digitVal x with
   |none=>rfl
   |some d=>rw[hx]at hh;exact ih _ _ hh
 exact this l 0 n hn
def UI (s:ByteArray)(neg:Bool)(a k n:Nat):AS:=⟨[(0,.pv (.str s)),(4,.pv (.bool neg)),(5,.pv (.i ((k+a:Nat):Int))),(6,.pv (.i (n:Int)))],[]⟩
theorem ZpW (s:ByteArray)(hs:s.size<=1000000):aD prog 104 [.str s] (Qo (yD s)):=by
 obtain⟨neg,a,ds,hc,QX,fI,D4⟩:=ZnH s;obtain⟨V,hV⟩:∃V,V=yD s:=⟨_,rfl⟩;rw[<-hV]at D4 ⊢;clear hV;have q9:∀k,k<ds.length->∃b,ds[k]?=some b/\BA s ((k+a:Nat):Int)=some b:=fun k hk=>by
  refine⟨ds[k],bC hk,Yy ?_⟩;rw[<-bC hk,<-QX,mS,Nat.add_comm]
 refine b8 L104 ?_;intro R hR;have hI:∀c:Nat,((c:Int)=48)=(c=48):=fun c=>propext ⟨fun h=>by omega,fun h=>by omega⟩
 obtain⟨ng,Tk⟩:∃z,z=neg:=⟨_,rfl⟩;obtain⟨a',ha'⟩:∃z,z=a:=⟨_,rfl⟩;have w1:IntKind.i64.wrap ((s.size:Int)-(a:Int))=(ds.length:Int):=by rw[wrap64 (by omega)];omega
 by_cases q8:ds.length=0
 .have hn:V=none:=by rw[D4];unfold tQ;rw[if_pos (.inl q8)];rfl
  subst hn;rcases hc with⟨rfl,rfl,h0,hp⟩|⟨rfl,rfl,h0⟩
  .have f1:s.size=1:=by omega
   simp[L104,h0,f1];rw[<-hR];exact⟨rfl,rfl⟩
  .have f1:s.size=0:=by omega
   simp[L104,f1];rw[<-hR];exact⟨rfl,rfl⟩
 obtain⟨b,hb,o9⟩:=q9 0 (by omega);have hh:ds.head?=some b:=by rw[List.head?_eq_getElem?];exact hb
 by_cases lP:9<ds.length\/(b=48/\1<s.size)
 .have hn:V=none:=by
   rw[D4];unfold tQ;rcases lP with h|⟨h,h'⟩
   .rw[if_pos (.inr (.inl h))];rfl
   .rw[if_pos (.inr (.inr ⟨by rw[hh,h],h'⟩))];rfl
  subst hn;rcases hc with⟨rfl,rfl,h0,hp⟩|⟨rfl,rfl,h0⟩
  case' inl=>
   have o9:BA s 1=some b:=o9;have f1:¬s.size=1:=by omega
   have VT:¬(s.size:Int)=1:=by omega
   have w1:IntKind.i64.wrap ((s.size:Int)-1)=(ds.length:Int):=w1;have IL:=h0;have MT:=h0
  case' inr=>
   obtain⟨b0,h0,IL,hp⟩:=h0.resolve_left (by omega);obtain rfl:b=b0:=Option.some.inj (o9.symm.trans h0);have o9:BA s 0=some b:=o9;have MT:¬b.toNat=45:=by omega
   have f1:¬s.size=0:=by omega
   have VT:¬(s.size:Int)=0:=by omega
   have w1:IntKind.i64.wrap (s.size:Int)=(ds.length:Int):=by rw[wrap64 (by omega)];omega
  all_goals
   by_cases h9:(9:Int)<(ds.length:Int)
   .simp[L104,h0,hp,IL,f1,VT,w1,h9];rw[<-hR];exact⟨rfl,rfl⟩
   .obtain⟨rfl,g1⟩:=lP.resolve_left (by omega);have g2:(1:Int)<(s.size:Int):=by omega
    simp[L104,h0,hp,f1,VT,w1,h9,o9,g2];rw[<-hR];exact⟨rfl,rfl⟩
 have hn:V=(Lib.decFrom 0 ds).map fun(n:Nat)=>if neg=true then -(n:Int)else(n:Int):=by
  rw[D4];unfold tQ;rw[if_neg];rintro(h|h|⟨h,h'⟩)
  .exact q8 h
  .exact lP (.inl h)
  .rw[hh]at h;exact lP (.inr ⟨Option.some.inj h,h'⟩)
 clear D4 QX;have h9:¬(9:Int)<(ds.length:Int):=fun h=>lP (.inl (by omega))
 have q0:b.toNat=48->¬1<s.size:=fun e h=>lP (.inr ⟨UInt8.toNat_inj.1 (by have:(48:UInt8).toNat=48:=rfl;omega),h⟩)
 rw[<-Tk]at hn;rcases hc with⟨rfl,rfl,h0,hp⟩|⟨rfl,rfl,h0⟩
 case' inl=>
  have o9:BA s 1=some b:=o9;have f1:¬s.size=1:=by omega
  have VT:¬(s.size:Int)=1:=by omega
  have w1:IntKind.i64.wrap ((s.size:Int)-1)=(ds.length:Int):=w1;have q1:¬b.toNat=48:=fun e=>by have:=q0 e;omega
  simp[L104,h0,hp,VT,w1,h9,o9,q1,hI]
 case' inr=>
  obtain⟨b0,h0,IL,hp⟩:=h0.resolve_left (by omega);obtain rfl:b=b0:=Option.some.inj (o9.symm.trans h0);have MT:¬b.toNat=45:=by omega
  have f1:¬s.size=0:=by omega
  have VT:¬(s.size:Int)=0:=by omega
  have w1:IntKind.i64.wrap (s.size:Int)=(ds.length:Int):=by rw[wrap64 (by omega)];omega
  by_cases q1:b.toNat=48
  case' pos=>
   have q2:=q0 q1;have q3:¬(1:Int)<(s.size:Int):=by omega
   simp[L104,h0,hp,f1,w1,h9,q1,q3]
  case' neg=>simp[L104,h0,hp,IL,f1,w1,h9,q1,hI]
 all_goals
  refine eP (fun m τ=>∃k n:Nat,k<=ds.length/\m=ds.length-k/\Lib.decFrom 0 (ds.take k)=some n/\n<10^k/\τ=UI s ng a' k n) ⟨ds.length,UI s ng a' 0 0,Sub.mk (by simp[Tk,ha']) (by simp),0,0,gY _,rfl,rfl,by decide,rfl⟩ ?_;rintro J hJ m τ ⟨k,n,hk,rfl,D8,HT,rfl⟩;by_cases aJ:k<ds.length
  .obtain⟨x,hx,Jq⟩:=q9 k aJ;rw[<-ha']at Jq;have hp9:(10:Nat)^k<=10^9:=Nat.pow_le_pow_right (by decide) (by omega);have jA:((k+a':Nat):Int)<(s.size:Int):=by omega
   have kH:k+a'<s.size:=by omega
   have w2:IntKind.i64.wrap (((k+a':Nat):Int)+1)=((k+1+a':Nat):Int):=by rw[wrap64 (by omega)];omega
   have hx8:=UInt8.toNat_lt x;have HP:ds=ds.take k++x::ds.drop (k+1):=by
    obtain⟨l1,e1⟩:=cA.1 hx;rw[<-e1,<-AD l1,List.take_append_drop]
   by_cases c1:x.toNat<48\/57<x.toNat
   .have hv:V=none:=by
     rw[hn,HP,Zoa (ZrP.2 (by omega)) D8];rfl
    subst hv;clear hJ;by_cases c2:x.toNat<48
    .have El:(x.toNat:Int)<48:=by omega
     simp[-Int.natCast_add,UI,Jq,jA,El];rw[<-hR];exact⟨rfl,rfl⟩
    .have El:¬(x.toNat:Int)<48:=by omega
     have c3:57<x.toNat:=by omega
     have Ww:(57:Int)<(x.toNat:Int):=by omega
     simp[-Int.natCast_add,UI,Jq,jA,El,Ww];rw[<-hR];exact⟨rfl,rfl⟩
   .have c2:¬x.toNat<48:=by omega
    have El:¬(x.toNat:Int)<48:=by omega
    have c3:¬57<x.toNat:=by omega
    have Ww:¬(57:Int)<(x.toNat:Int):=by omega
    have w3:IntKind.u8.wrap ((x.toNat:Int)-48)=((x.toNat-48:Nat):Int):=by
     rw[show IntKind.u8.wrap ((x.toNat:Int)-48)=((x.toNat:Int)-48)%256 from rfl];omega
    have w4:IntKind.i64.wrap ((x.toNat-48:Nat):Int)=((x.toNat-48:Nat):Int):=wrap64 (by omega);have w5:IntKind.i64.wrap (10*(n:Int))=((10*n:Nat):Int):=by rw[wrap64 (by omega)];omega
    have w6:IntKind.i64.wrap (((10*n:Nat):Int)+((x.toNat-48:Nat):Int))=((10*n+(x.toNat-48):Nat):Int):=by rw[wrap64 (by omega)];omega
    have T7:Lib.decFrom 0 (ds.take (k+1))=some (10*n+(x.toNat-48)):=by
     rw[mR,hx];show Lib.decFrom 0 (ds.take k++[x])=_;rw[Oq,D8,Option.bind_some,ZrP.1 (by omega),uW];congr 1;omega
    have Tj:10*n+(x.toNat-48)<10^(k+1):=by rw[Nat.pow_succ];omega
    have aB:=hJ _ _ ⟨k+1,_,aJ,rfl,T7,Tj,rfl⟩;have aG:ds.length-(k+1)<ds.length-k:=by omega
    clear hJ;simp[-Int.natCast_add,-Int.natCast_mul,UI,Jq,jA,El,Ww,w2,w3,w4,w5,w6];exact⟨_,_,aG,Sub.mk (by simp) (by simp),aB⟩
  have he:k=ds.length:=by omega
  subst he;rw[mX]at D8;rw[D8]at hn;have jA:¬((ds.length+a':Nat):Int)<(s.size:Int):=by omega
  have kH:¬ds.length+a'<s.size:=by omega
  have hp9:(10:Nat)^ds.length<=10^9:=Nat.pow_le_pow_right (by decide) (by omega);have w7:IntKind.i64.wrap (-(n:Int)) = -(n:Int):=wrap64 (by omega);clear hJ;subst hn;subst Tk;simp[-Int.natCast_add,UI,jA,w7];rw[<-hR];exact⟨rfl,rfl⟩
def tO (s:ByteArray):Nat->List ByteArray×Nat
 |0=>([],0)
 |i+1=>if i=s.size\/s.data.toList[i]?=some 32 then((tO s i).1++[s.extract (tO s i).2 i],i+1)else tO s i
theorem Mx {s:ByteArray}{i:Nat}:tO s (i+1)=if i=s.size\/s.data.toList[i]?=some 32 then((tO s i).1++[s.extract (tO s i).2 i],i+1)else tO s i:=rfl
theorem Lp (s:ByteArray):∀i,(tO s i).2<=i/\(tO s i).1.length<=i
 |0=>⟨fH _,fH _⟩
 |i+1=>by
  obtain⟨h1,h2⟩:=Lp s i;rw[Mx];split
  .exact⟨fH _,by rw[gD];simp;omega⟩
  .exact⟨by omega,by omega⟩
theorem Znw {l:List UInt8}{f i:Nat}(h:∀k,f<=k->k<i->l[k]?≠some 32):∀c∈(l.drop f).take (i-f),c≠32:=fun c hc e=>by
 obtain⟨k,hk⟩:=List.getElem?_of_mem hc;obtain⟨hl,_⟩:=cA.1 hk;rw[gN]at hl;rw[List.getElem?_take_of_lt (by omega),mS]at hk;exact h (f+k) (by omega) (by omega) (by rw[hk,e])
theorem Zry (s:ByteArray):∀i,i<=s.size->(∀k,(tO s i).2<=k->k<i->s.data.toList[k]?≠some 32)/\(tO s i).1.map (·.data.toList)++I7 (s.data.toList.drop (tO s i).2)=I7 s.data.toList
 |0,_=>⟨fun k _ h=>absurd h (Nat.not_lt_zero k),rfl⟩
 |i+1,hi=>by
  obtain⟨h1,h2⟩:=Zry s i (by omega);obtain⟨h3,_⟩:=Lp s i;have hz:s.size=s.data.toList.length:=by rw[uX];rfl
  rw[Mx];by_cases hc:s.data.toList[i]?=some 32
  .rw[if_pos (.inr hc)];refine⟨fun k ha hb=>?_,?_⟩
   .have ha:i+1<=k:=ha;omega
   .show((tO s i).1++[s.extract (tO s i).2 i]).map (·.data.toList)++I7 (s.data.toList.drop (i+1))=_;rw[<-h2,mH,I2];congr 1;show(s.extract (tO s i).2 i).data.toList::I7 (s.data.toList.drop (i+1))=_;rw[Lib.extract_data];generalize(tO s i).2=f at h1 h3 ⊢;have hd:s.data.toList.drop f=(s.data.toList.drop f).take (i-f)++32::s.data.toList.drop (i+1):=by
     have e1:(s.data.toList.drop f).drop (i-f)=s.data.toList.drop i:=by rw[List.drop_drop];congr 1;omega
     have e2:s.data.toList.drop i=32::s.data.toList.drop (i+1):=by
      obtain⟨hl,he⟩:=cA.1 hc;rw[AD hl,he]
     rw[<-e2,<-e1,List.take_append_drop]
    conv=>rhs;rw[hd]
    rw[Zfh (Znw h1)]
  .rw[if_neg (by rintro(h|h);omega;exact hc h)];refine⟨fun k ha hb=>?_,h2⟩;by_cases hk:k=i
   .rw[hk];exact hc
   .exact h1 k ha (by omega)
theorem ZsV (s:ByteArray):(tO s (s.size+1)).1=xT s blank:=by
 apply ZeQ;rw[Zo9,Mx,if_pos (.inl rfl)];obtain⟨h1,h2⟩:=Zry s s.size (fH _);obtain⟨h3,_⟩:=Lp s s.size;have hz:s.size=s.data.toList.length:=by rw[uX];rfl
 rw[<-h2];show((tO s s.size).1++[s.extract (tO s s.size).2 s.size]).map (·.data.toList)=_;rw[mH];congr 1;show[(s.extract (tO s s.size).2 s.size).data.toList]=_;rw[Lib.extract_data];generalize(tO s s.size).2=f at h1 h3 ⊢;have hn:=Znw h1;rw[fP (by rw[uG];omega)]at hn ⊢;rw[Zfi hn]
def GS (s:ByteArray):PV:=match xT s blank,O8 s with
 |w::_,some (_,l)=>.bM [.str w,.aE false 1 (l.map iP),.bool true]
 |_,_=>.bM [.str ⟨#[]⟩,.emp (some true),.bool false]
def iF (w:ByteArray):Int:=match gU w with
 |some (k,_)=>(k:Int)
 |none=>-1
theorem Ztd (w:ByteArray):iF w=if w=jX then 7 else if w=pD\/w=jW then 1 else if w=pC\/w=pB then 3 else if w=jV then 4 else -1:=by
 by_cases h0:w=jX
 .subst h0;rfl
 by_cases h1:w=pD
 .subst h1;rfl
 by_cases h2:w=pC
 .subst h2;rfl
 by_cases h3:w=jV
 .subst h3;rfl
 by_cases h4:w=jW
 .subst h4;rfl
 by_cases h5:w=pB
 .subst h5;rfl
 unfold iF gU;simp only[if_neg h0,if_neg h3,h1,h2,h4,h5,or_self,if_false]
def PC (w:ByteArray)(c b p l r t:Prop):Prop:=(w=jX)=c/\(w=pD)=b/\(w=jW)=p/\(w=pC)=l/\(w=pB)=r/\(w=jV)=t
theorem YF (w:ByteArray):PC w True False False False False False/\iF w=7\/PC w False True False False False False/\iF w=1\/PC w False False True False False False/\iF w=1\/PC w False False False True False False/\iF w=3\/PC w False False False False True False/\iF w=3\/PC w False False False False False True/\iF w=4\/PC w False False False False False False/\iF w = -1:=by
 by_cases h0:w=jX
 .subst h0;exact .inl ⟨⟨eq_self _,eq_false (by decide),eq_false (by decide),eq_false (by decide),eq_false (by decide),eq_false (by decide)⟩,rfl⟩
 by_cases h1:w=pD
 .subst h1;exact .inr (.inl ⟨⟨eq_false (by decide),eq_self _,eq_false (by decide),eq_false (by decide),eq_false (by decide),eq_false (by decide)⟩,rfl⟩)
 by_cases h2:w=jW
 .subst h2;exact .inr (.inr (.inl ⟨⟨eq_false (by decide),eq_false (by decide),eq_self _,eq_false (by decide),eq_false (by decide),eq_false (by decide)⟩,rfl⟩))
 by_cases h3:w=pC
 .subst h3;exact .inr (.inr (.inr (.inl ⟨⟨eq_false (by decide),eq_false (by decide),eq_false (by decide),eq_self _,eq_false (by decide),eq_false (by decide)⟩,rfl⟩)))
 by_cases h4:w=pB
 .subst h4;exact .inr (.inr (.inr (.inr (.inl ⟨⟨eq_false (by decide),eq_false (by decide),eq_false (by decide),eq_false (by decide),eq_self _,eq_false (by decide)⟩,rfl⟩))))
 by_cases h5:w=jV
 .subst h5;exact .inr (.inr (.inr (.inr (.inr (.inl ⟨⟨eq_false (by decide),eq_false (by decide),eq_false (by decide),eq_false (by decide),eq_false (by decide),eq_self _⟩,rfl⟩)))))
 exact .inr (.inr (.inr (.inr (.inr (.inr ⟨⟨eq_false h0,eq_false h1,eq_false h2,eq_false h3,eq_false h4,eq_false h5⟩,by rw[Ztd];simp only[h0,h1,h2,h3,h4,h5,or_self,if_false]⟩)))))
theorem Zte (w:ByteArray):-1<=iF w/\iF w<=7:=by
 unfold iF;cases hw:gU w with
 |none=>exact⟨by decide,by decide⟩
 |some p=>
  obtain⟨k,g⟩:=p
  have:=Zj6 hw
  dsimp only;omega
theorem ZpH {s w:ByteArray}{r:List ByteArray}(h:xT s blank=w::r)(hn:(r.length:Int)≠iF w\/mJ r=none):GS s=.bM [.str ⟨#[]⟩,.emp (some true),.bool false]:=by
 have hp:O8 s=none:=by
  unfold O8;rw[h];dsimp only;unfold iF at hn;cases hw:gU w with
  |none=>rfl
  |some p=>
   obtain⟨k,g⟩:=p;rw[hw]at hn;dsimp only at hn ⊢;rcases hn with hn|hn
   .rw[if_neg (by omega)]
   .rw[hn];split<;>rfl
 unfold GS;rw[hp,h]
theorem ZpG {s w:ByteArray}{r:List ByteArray}{l:List Int}(h:xT s blank=w::r)(hm:(r.length:Int)=iF w)(hl:mJ r=some l):GS s=.bM [.str w,.aE false 1 (l.map iP),.bool true]:=by
 unfold GS O8;rw[h];dsimp only;unfold iF at hm;cases hw:gU w with
 |none=>rw[hw]at hm;dsimp only at hm;omega
 |some p=>
  obtain⟨k,g⟩:=p;rw[hw]at hm;dsimp only at hm ⊢;rw[if_pos (by omega),hl];rfl
theorem Znr (s:ByteArray):(O8 s=none/\GS s=.bM [.str ⟨#[]⟩,.emp (some true),.bool false])\/∃w k g nums,O8 s=some (g,nums)/\gU w=some (k,g)/\nums.length=k/\GS s=.bM [.str w,.aE false 1 (nums.map iP),.bool true]:=by
 cases hs:xT s blank with
 |nil=>
  have h:=Lk s;rw[hs]at h;cases h
 |cons w r=>
  cases hp:O8 s with
  |none=>
   refine .inl ⟨rfl,?_⟩;unfold GS;rw[hp,hs]
  |some q=>
   obtain⟨g,nums⟩:=q;have ME:=hp;unfold O8 at hp;rw[hs]at hp;dsimp only at hp;cases hw:gU w with
   |none=>rw[hw]at hp;cases hp
   |some p=>
    obtain⟨k,g'⟩:=p;rw[hw]at hp;dsimp only at hp;split at hp
    .rename_i hk;obtain⟨l,h1,h2⟩:=eA.1 hp;cases h2;refine .inr ⟨w,k,g,nums,rfl,hw,(Zhm h1).1.trans hk,?_⟩;unfold GS;rw[ME,hs]
    .cases hp
theorem UB {w v:ByteArray}{l:List UInt8}(h:v.data.toList=l):(w.toList==l)=decide (w=v):=by rw[<-h,<-Lib.toList_data];exact A7 w v
theorem Qc (w:ByteArray):(w.toList==[99,101,114,116])=decide (w=jX):=UB rfl
theorem Qd (w:ByteArray):(w.toList==[98,97,100])=decide (w=pD):=UB rfl
theorem Qa (w:ByteArray):(w.toList==[112,97,115,115])=decide (w=jW):=UB rfl
theorem Qb (w:ByteArray):(w.toList==[108,111,116])=decide (w=pC):=UB rfl
theorem weR (w:ByteArray):(w.toList==[114,117,110])=decide (w=pB):=UB rfl
theorem Px (w:ByteArray):(w.toList==[116,101,115,116])=decide (w=jV):=UB rfl
section
def GQ (s:ByteArray)(P:List ByteArray)(f i:Nat):AS:=⟨[(0,.pv (.str s)),(5,.vec (.loc 35 0) 1 0 P.length),(6,.pv (.i (f:Int))),(7,.pv (.i (i:Int)))],[(.loc 35 0,.arr 9 1 (P.map .str))]⟩
def ZF (P:List ByteArray)(l:List Int)(k:Nat):AS:=⟨[(5,.vec (.loc 35 0) 1 0 P.length),(9,.vec (.loc 75 0) 1 0 l.length),(10,.pv (.i (k:Int)))],[(.loc 75 0,.arr 3 1 (l.map iP)),(.loc 35 0,.arr 9 1 (P.map .str))]⟩
theorem ZsX (s:ByteArray)(hs:s.size<=1000):aD prog 58 [.str s] (GS s):=by
 have hz:s.size=s.data.toList.length:=by rw[uX];rfl
 refine Q4 [.loc 75 0] L58 ?_;intro R hR;simp[L58];refine eP (fun m τ=>∃i:Nat,i<=s.size+1/\m=s.size+1-i/\τ=GQ s (tO s i).1 (tO s i).2 i) ⟨s.size+1,GQ s [] 0 0,Sub.trans' (Sub.mk (by simp[AS.cR]) (by simp[AS.cR])) (cR 35 9 1 5 rfl (by decide)),0,gY _,rfl,rfl⟩ ?_;rintro J hJ m τ ⟨i,hi,rfl,rfl⟩;obtain⟨hf,lZ⟩:=Lp s i;have iG:=Mx (s:=s) (i:=i);by_cases aJ:i<=s.size
 .have aB:=hJ _ _ ⟨i+1,by omega,rfl,rfl⟩;have aG:s.size+1-(i+1)<s.size+1-i:=by omega
  have hw:=bN (k:=i) (by omega);have p8:(i:Int)<=(s.size:Int):=by omega
  rw[iG]at aB;clear hJ iG;generalize tO s i=q at *;obtain⟨P,f⟩:=q;dsimp only at *;have hp6:P.length<=999999:=by omega
  have hp7:P.length+1<=1000000:=by omega
  have jT:List.take P.length (P.map PV.str)=P.map PV.str:=fP (by rw[fZ];exact fH _);by_cases Ul:i=s.size
  .rw[if_pos (.inl Ul)]at aB;have hE1:((i:Int)=(s.size:Int))=True:=eq_true (by omega);have z7:(i=s.size)=True:=eq_true Ul;have Uu:(f:Int)<=(i:Int):=by omega
   simp[GQ,aJ,p8,hE1,hf,aP,hw,hp7];exact⟨_,_,aG,Sub.mk (by simp) (by simp),aB⟩
  .have Br:¬(i:Int)=(s.size:Int):=by omega
   obtain⟨b,hb⟩:∃b,s.data.toList[i]?=some b:=⟨s.data.toList[i]'(by omega),bC _⟩;have hsa:=Yy hb;have kH:i<s.size:=by omega
   by_cases Kg:b=32
   .rw[if_pos (.inr (by rw[hb,Kg]))]at aB;subst Kg;have Uu:(f:Int)<=(i:Int):=by omega
    simp[GQ,aJ,p8,Br,hsa,hf,aP,hw,hp7];exact⟨_,_,aG,Sub.mk (by simp) (by simp),aB⟩
   .rw[if_neg (by rintro(h|h);exact Ul h;rw[hb]at h;exact Kg (Option.some.inj h))]at aB;have RB:¬b.toNat=32:=fun h=>Kg (UInt8.toNat_inj.1 (by have:(32:UInt8).toNat=32:=rfl;omega))
    have MU:¬(b.toNat:Int)=32:=by omega
    simp[GQ,p8,Br,hsa,MU,hw];exact⟨_,_,aG,Sub.mk (by simp[GQ]) (by simp[GQ]),aB⟩
 have he:i=s.size+1:=by omega
 subst he;have p8:¬(s.size:Int)+1<=(s.size:Int):=by omega
 clear hJ aJ iG;rw[ZsV]at *;have hpz:∀x∈xT s blank,x.size<=1000000:=fun x hx=>by
  have:=Zem blank _ s x hx
  omega
 generalize(tO s (s.size+1)).2=f at *;cases jJ:xT s blank with
 |nil=>
  have h:=Lk s;rw[jJ]at h;cases h
 |cons w0 r=>
 rw[jJ]at hpz lZ;have Tu:=Zte w0;have k8:IntKind.i64.wrap 8=8:=rfl;have hen:=ZpH jJ;have kY:=fun l h1 h2=>ZpG (l:=l) jJ h1 h2
 have y2:r.length<=1001:=by rw[pA]at lZ;omega
 have D4:=fun x hx=>ZpW x (hpz x hx)
 clear lZ;rcases YF w0 with h|h|h|h|h|h|h
 all_goals
  obtain⟨⟨e0,e1,e2,e3,e4,e5⟩,hm⟩:=h;by_cases hlen:(r.length:Int)=iF w0
  case neg=>
   have T3:=hen (.inl hlen);have oM:¬(r.length:Int)+1=iF w0+1:=by omega
   rw[hm]at oM;simp at oM;simp[GQ,p8,cU,Qc,Qd,Qa,Qb,weR,Px,Pw,Ir,Iq,Ip,k8,e0,e1,e2,e3,e4,e5,oM];rw[<-hR,T3];exact⟨rfl,rfl⟩
  have oM:(r.length:Int)+1=iF w0+1:=by omega
  rw[hm]at oM
  first|(exfalso;omega)|simp at oM
 all_goals
  replace oM:=eq_true oM;simp[GQ,p8,cU,Qc,Qd,Qa,Qb,weR,Px,Ir,Iq,Ip,k8,e0,e1,e2,e3,e4,e5,oM];clear oM;have kY:=fun l h=>kY l hlen h
  refine eP (fun m τ=>∃(k:Nat) (l:List Int),1<=k/\k<=r.length+1/\m=r.length+1-k/\mJ (r.take (k-1))=some l/\l.length=k-1/\τ=ZF (w0::r) l k) ⟨r.length,ZF (w0::r) [] 1,Sub.trans' (Sub.mk (by simp[AS.cR]) (by simp[AS.cR])) (cR 75 3 1 9 rfl (by decide)),1,[],fH _,by omega,rfl,rfl,rfl,rfl⟩ ?_;rintro J hJ m τ ⟨k,l,hZ,hk,rfl,oY,qY,rfl⟩;have hPL:((w0::r).map PV.str).length=r.length+1:=by simp
  by_cases aJ:k<r.length+1
  .obtain⟨x,hx⟩:∃x,r[k-1]?=some x:=⟨r[k-1],bC (by omega)⟩;have hg:((w0::r).map PV.str)[k]?=some (.str x):=by
    rw[bX,show k=k-1+1 by omega,List.getElem?_cons_succ,hx];rfl
   have hw:=bN (k:=k) (by omega);have iG:=D4 x (List.mem_cons_of_mem _ (dL hx));have aG:r.length+1-(k+1)<r.length+1-k:=by omega
   have jA:(k:Int)<(r.length:Int)+1:=by omega
   have jT:r.take k=r.take (k-1)++[x]:=by rw[show k=k-1+1 by omega,mR,Nat.add_sub_cancel,hx];rfl
   rw[ZuD]at iG;cases T0:lL x with
   |none=>
    have T3:=hen (.inr (Zex T0 (dL hx)));rw[T0]at iG;clear hJ;unfold ZF;generalize(w0::r).map PV.str=PP at *;simp[aJ,jA,↓hg,cU];refine .inl<|cQ [] [.str x] iG ?_;simp[Qo];rw[<-hR,T3];exact⟨rfl,by simp⟩
   |some v=>
    rw[T0]at iG;have aB:=hJ _ _ ⟨k+1,l++[v],by omega,by omega,rfl,by rw[Nat.add_sub_cancel,jT];exact Zew T0 oY,by rw[gD];simp;omega,rfl⟩;clear hJ;have HW:l.length+1<=1000000:=by omega
    have VH:l.length<=999999:=by omega
    have hlk:List.take l.length (l.map iP)=l.map iP:=fP (by rw[fZ];exact fH _);unfold ZF at aB ⊢;generalize(w0::r).map PV.str=PP at *;simp[hPL,aJ,jA,↓hg,cU,aP];refine .inl<|cQ [] [.str x] iG ?_;simp[Qo,HW,hw,aP];exact⟨_,_,aG,Sub.mk (by simp) (by simp[iP]),aB⟩
  .have he:k=r.length+1:=by omega
   subst he;rw[Nat.add_sub_cancel,mX]at oY;have T3:=kY l oY;have hlk:List.take l.length (l.map iP)=l.map iP:=fP (by rw[fZ];exact fH _);have hg0:((w0::r).map PV.str)[0]?=some (.str w0):=rfl;clear hJ aJ;unfold ZF;generalize(w0::r).map PV.str=PP at *;simp[↓hg0,hlk,cU];rw[<-hR,T3];exact⟨rfl,by simp⟩
attribute [local irreducible] Bk.qG eR Bk.contra Bk.held Bk.span Bk.nums Bk.iA Bk.pU stM nV rM Bk.fault
theorem Zpw (w:Wk)(r:Except Int Wk):sL w r=.bM [(w.next r).1.pv,.i (w.next r).2]:=by
 cases r<;>rfl
theorem Zr0 {w:ByteArray}{k:Nat}{g:FuncId}(h:gU w=some (k,g)):(w=jX/\k=7/\g=187)\/(w=pD/\k=1/\g=188)\/(w=pC/\k=3/\g=189)\/(w=jV/\k=4/\g=190)\/(w=jW/\k=1/\g=191)\/(w=pB/\k=3/\g=192):=by
 unfold gU at h
 repeat' split at h
 all_goals first
  |(cases h;subst_vars;decide)
  |cases h
theorem Rk:decide (pD=jX)=false:=by decide
theorem Rj:decide (pC=jX)=false:=by decide
theorem Ri:decide (pC=pD)=false:=by decide
theorem Rh:decide (jV=jX)=false:=by decide
theorem Rf:decide (jV=pD)=false:=by decide
theorem Re:decide (jV=pC)=false:=by decide
theorem Rc:decide (jW=jX)=false:=by decide
theorem Rb:decide (jW=pD)=false:=by decide
theorem Ra:decide (jW=pC)=false:=by decide
theorem Qz:decide (jW=jV)=false:=by decide
theorem Qy:decide (pB=jX)=false:=by decide
theorem Qx:decide (pB=pD)=false:=by decide
theorem Qw:decide (pB=pC)=false:=by decide
theorem Qv:decide (pB=jV)=false:=by decide
theorem Qt:decide (pB=jW)=false:=by decide
theorem YY {k0:Nat}(w:Wk)(hI:sI k0 w)(hq:k0<=100)(hJ:AP w)(s:ByteArray)(hs:s.size<=1000):aD prog 26 [w.pv,.str s] (.bM [(lI 408 w s).1.pv,.i (lI 408 w s).2]):=by
 have VD:=ZsX s hs;refine cS L26 ?_;have jN:w.pv=.agg [.aE false 7 (w.aA.map Ct.pv),.aE false 1 (w.bad.map iP),.aE false 4 (w.aN.map Lt.pv),.aE false 4 (w.aH.map Tt.pv),.aE false 3 (w.runs.map Qn.Rq.pv)]:=rfl;rcases Znr s with⟨P8,T3⟩|⟨w0,k,g,nums,hp,G6,hn,T3⟩
 .have hd:lI 408 w s=(w,4):=by unfold lI pW;rw[P8];rfl
  rw[hd];rw[T3]at VD;dsimp only;rw[jN];simp[L26];refine .inl<|cQ [] [_] VD ?_;simp[aM]
 have hd:lI 408 w s=w.next (tF 408 w g nums):=by unfold lI pW;rw[hp]
 rw[T3]at VD;rw[hd];have UX:∀u:Wk,u.pv=.agg [.aE false 7 (u.aA.map Ct.pv),.aE false 1 (u.bad.map iP),.aE false 4 (u.aN.map Lt.pv),.aE false 4 (u.aH.map Tt.pv),.aE false 3 (u.runs.map Qn.Rq.pv)]:=fun _=>rfl
 rcases Zr0 G6 with⟨rfl,rfl,rfl⟩|⟨rfl,rfl,rfl⟩|⟨rfl,rfl,rfl⟩|⟨rfl,rfl,rfl⟩|⟨rfl,rfl,rfl⟩|⟨rfl,rfl,rfl⟩
 case' inr.inl=>
  obtain⟨a,b,c,d,e,f,h,rfl⟩:∃a b c d e f h,nums=[a,b,c,d,e,f,h]:=by
   match nums,hn with
   |[a,b,c,d,e,f,h],_=>exact⟨a,b,c,d,e,f,h,rfl⟩
  have hc:=ZsR w hI hq ⟨a,b,c,d,e,⟨f,h⟩⟩;rw[show((lX w.aA w.bad ⟨a,b,c,d,e,⟨f,h⟩⟩).map fun l=>{ w with aA:=l })=tF 408 w 187 [a,b,c,d,e,f,h] from rfl]at hc
 case' inr.inr.inl=>
  obtain⟨a,rfl⟩:∃a,nums=[a]:=List.length_eq_one_iff.1 hn;have hc:=Zus w hI hq a;rw[show((pR w.aA w.bad a).map fun l=>{ w with bad:=l })=tF 408 w 188 [a] from rfl]at hc
 case' inr.inr.inr.inl=>
  obtain⟨a,b,c,rfl⟩:∃a b c,nums=[a,b,c]:=by
   match nums,hn with
   |[a,b,c],_=>exact⟨a,b,c,rfl⟩
  have hc:=Zm5 w hI hq a b c;rw[show((pK w.aN ⟨a,b,c,false⟩).map fun l=>{ w with aN:=l })=tF 408 w 189 [a,b,c] from rfl]at hc
 case' inr.inr.inr.inr.inl=>
  obtain⟨a,b,c,d,rfl⟩:∃a b c d,nums=[a,b,c,d]:=by
   match nums,hn with
   |[a,b,c,d],_=>exact⟨a,b,c,d,rfl⟩
  have hc:=Zm1 w hI hq hJ ⟨a,b,c,d⟩;rw[show((kO (stM w.aA w.bad) (cW w.aA w.bad w.aH) w.aN w.aH ⟨a,b,c,d⟩).map fun l=>{ w with aH:=l })=tF 408 w 190 [a,b,c,d] from rfl]at hc
 case' inr.inr.inr.inr.inr.inl=>
  obtain⟨a,rfl⟩:∃a,nums=[a]:=List.length_eq_one_iff.1 hn;have hc:=ZsI w hI hq hJ a;rw[show((jI (cW w.aA w.bad w.aH) w.aN a).map fun l=>{ w with aN:=l })=tF 408 w 191 [a] from rfl]at hc
 case' inr.inr.inr.inr.inr.inr=>
  obtain⟨a,b,c,rfl⟩:∃a b c,nums=[a,b,c]:=by
   match nums,hn with
   |[a,b,c],_=>exact⟨a,b,c,rfl⟩
  have hc:=Zup w hI a b c;rw[show((runM 408 w.runs a b c).map fun l=>{ w with runs:=l })=tF 408 w 192 [a,b,c] from rfl]at hc
 all_goals
  rw[Zpw]at hc;clear hd hp G6 hn T3;generalize w.next (tF 408 w _ _)=r at *;obtain⟨u,er⟩:=r;dsimp only at hc ⊢;rw[UX u]at hc ⊢;rw[jN]at hc ⊢;simp[L26];refine .inl<|cQ [] [_] VD ?_;simp[aM,Qc,Qd,Qa,Qb,Px,iP,Rk,Rj,Ri,Rh,Rf,Re,Rc,Rb,Ra,Qz,Qy,Qx,Qw,Qv,Qt];refine .inl<|cQ [] [_,_] hc ?_;simp[aM]
end
section
attribute [local irreducible] Bk.qG eR Bk.contra Bk.held Bk.span Bk.nums Bk.pU stM iB
end
section
attribute [local irreducible] Bk.qG eR Bk.contra Bk.held Bk.span Bk.nums Bk.iA Bk.pU stM nV rM Bk.fault lI
def SC:List AV:=[.pv (.emp (some true)),.pv (.emp (some true)),.pv (.emp (some true)),.pv (.emp (some true)),.pv (.emp (some true))]
def GU (L:List ByteArray)(w:Wk)(es:List Int)(k:Nat):AS:=
 ⟨[(6,.pv (.i (k:Int))),(5,.vec (.loc 28 0) 1 0 es.length),(4,.ptr (.loc 4 0) 0),(2,.ptr (.loc 2 0) 0),(0,.pv (.aE false 1 (L.map .str)))],
  [(.loc 28 0,.arr 3 1 (es.map iP)),(.loc 4 0,.cells w.cells),(.loc 2 0,.cells SC)]⟩
def ZG (L:List ByteArray)(w u:Wk)(es:List Int)(e:Int)(k:Nat):AS:=
 ⟨[(6,.pv (.i (k:Int))),(5,.vec (.loc 28 0) 1 0 es.length),(4,.ptr (.loc 4 0) 0),(2,.ptr (.loc 2 0) 0),(0,.pv (.aE false 1 (L.map .str))),(7,.ptr (.loc 7 0) 0),(23,.pv (.i e))],
  [(.loc 28 0,.arr 3 1 (es.map iP)),(.loc 4 0,.cells w.cells),(.loc 2 0,.cells SC),(.loc 7 0,.cells u.cells)]⟩
theorem Zm3 (L:List ByteArray)(hl:L.length<=50)(hs:∀s∈L,s.size<=200):aD prog 15 [bO L] (.bM [(dA (lI 408) lD L).1.pv,.aE false 1 ((dA (lI 408) lD L).2.map iP)]):=by
 have hd:∀k,k<L.length->∀s,L[k]?=some s->aD prog 26 [(dA (lI 408) lD (L.take k)).1.pv,.str s] (.bM [(lI 408 (dA (lI 408) lD (L.take k)).1 s).1.pv,.i (lI 408 (dA (lI 408) lD (L.take k)).1 s).2]):=fun k hk s hx=>
  YY (k0:=0+(L.take k).length) _ (Lh vD AR).1 (by rw[gN];omega) (Lh (k:=0) vD AR).2 s (by have:=hs s (dL hx);omega)
 refine Q4 [.loc 28 0] L15 ?_;intro R hR;simp[L15,bO];refine eP (fun m τ=>∃k:Nat,k<=L.length/\m=L.length-k/\τ=GU L (dA (lI 408) lD (L.take k)).1 (dA (lI 408) lD (L.take k)).2 k) ⟨L.length,GU L lD [] 0,?_,0,gY _,rfl,rfl⟩ ?_
 .refine Sub.trans' ?_ (cR 28 3 1 5 rfl (by decide));refine Sub.trans' ?_ (Sub.aX (s:=.loc 4 0) (i:=0) _ rfl rfl (FT 7));refine Sub.trans' ?_ (Sub.aX (s:=.loc 4 0) (i:=1) _ rfl rfl (FT 1));refine Sub.trans' ?_ (Sub.aX (s:=.loc 4 0) (i:=2) _ rfl rfl (FT 4));refine Sub.trans' ?_ (Sub.aX (s:=.loc 4 0) (i:=3) _ rfl rfl (FT 4));refine Sub.trans' ?_ (Sub.aX (s:=.loc 4 0) (i:=4) _ rfl rfl (FT 3));exact Sub.mk (by simp[AS.cR]) (by simp[AS.cR,Wk.cells,lD,SC])
 rintro J hJ m τ ⟨k,hk,rfl,rfl⟩;have pN:=Oj (D:=lI 408) (l:=L.take k) (st:=lD);rw[gN,Nat.min_eq_left hk]at pN;by_cases aJ:k<L.length
 .obtain⟨s,hx⟩:∃s,L[k]?=some s:=⟨L[k],bC aJ⟩;have hg:(L.map PV.str)[k]?=some (.str s):=by rw[bX,hx];rfl
  have jT:L.take (k+1)=L.take k++[s]:=by rw[mR,hx];rfl
  have hn:=hJ (L.length-(k+1)) _ ⟨k+1,aJ,rfl,rfl⟩;rw[jT,ZeH]at hn;have hc:=hd k aJ s hx;have hw:=bN (k:=k) (by omega);have aG:L.length-(k+1)<L.length-k:=by omega
  clear hd hJ jT;generalize dA (lI 408) lD (L.take k)=q at hn hc pN ⊢;obtain⟨w,es⟩:=q;dsimp only at hn hc pN ⊢;generalize lI 408 w s=q' at hn hc;obtain⟨u,e⟩:=q';dsimp only at hn hc;have h6:es.length<=999999:=by omega
  have h7:es.length+1<=1000000:=by omega
  have nT:(es.map iP).take es.length=es.map iP:=fP (by simp);have jN:w.pv=.agg [.aE false 7 (w.aA.map Ct.pv),.aE false 1 (w.bad.map iP),.aE false 4 (w.aN.map Lt.pv),.aE false 4 (w.aH.map Tt.pv),.aE false 3 (w.runs.map Qn.Rq.pv)]:=rfl;have UX:u.pv=.agg [.aE false 7 (u.aA.map Ct.pv),.aE false 1 (u.bad.map iP),.aE false 4 (u.aN.map Lt.pv),.aE false 4 (u.aH.map Tt.pv),.aE false 3 (u.runs.map Qn.Rq.pv)]:=rfl;rw[jN,UX]at hc;simp[GU,Wk.cells,aJ,↓hg,aP];refine ED (fun τ=>τ=ZG L w u es e k) ?_ ?_
  .simp[gP,gZ]
   repeat' apply And.intro
   all_goals
    refine .inl<|cQ [] [_,_] hc ?_;simp[aM,gP,gZ];exact Sub.mk (by simp) (by simp[Wk.cells,SC])
  rintro τ rfl;simp[ZG,Wk.cells,aP,h7,hw,SC];exact⟨_,_,aG,Sub.mk (by simp) (by simp[Wk.cells,SC,iP]),hn⟩
 have he:k=L.length:=by omega
 subst he;rw[mX]at pN ⊢;generalize dA (lI 408) lD L=q at *;obtain⟨w,es⟩:=q;dsimp only at *;have nT:(es.map iP).take L.length=es.map iP:=fP (by simp[pN]);simp[GU,Wk.cells,aP,pN,nT,SC];rw[<-hR];exact⟨rfl,rfl⟩
end
theorem Zr2:j7 (lI 408) sZ 1=.bM [.aE false 1 ([0,1].map iP),.i 0]:=by
 unfold j7;have h1:zC sZ=0:=by decide +kernel
 have h2:kn (dA (lI 408) lD sZ).1 1=true:=by decide +kernel
 have h3:J1 (dA (lI 408) lD sZ).1 1 (dA (lI 408) lD sZ).1.aH.length=[0,1]:=by decide +kernel
 rw[if_pos h1,if_pos h2,h3]
theorem Zug:GO 408 sZ=.bM [.str Zl,.i 0]:=by
 unfold GO;have h1:zC sZ=0:=by decide +kernel
 have h2:BD 408 (dA (lI 408) lD sZ).1=Zl.data.toList:=by decide +kernel
 rw[if_pos h1,h2]
theorem YI:GJ [⟨#[97]⟩]=.bM [.aE false 1 (bP SW.data.toList),.i 0]:=by
 unfold GJ;have h1:zC [⟨#[97]⟩]=0:=by decide +kernel
 have h2:kB [⟨#[97]⟩] 0=SW.data.toList:=by decide +kernel
 rw[if_pos h1,h2]
theorem Mo:aD prog 9 [] (.bool true):=by
 have hF:407<408:=by decide
 have c1:=Zvh hF (sZ++tA) (by decide);rw[Zr3]at c1;have c2:=Zgi hF sZ (by decide) 1;rw[Zr2]at c2;have c3:=Zrp hF sZ (by decide);rw[Zug]at c3;have c4:=Zuf [⟨#[97]⟩] (by decide);rw[YI]at c4;have c5:=ZoJ [0,1] [0,1] (by decide);generalize hw:(dA (lI 408) lD (sZ++tA)).1=w at c1;refine b8 L9 ?_;intro R hR;simp[L9];refine .inl (R4 [] (fs:=[]) (xs:=[]) (cs:=[]) (d:=11) rfl rfl Zy ?_);rintro r B ⟨rfl,rfl⟩;refine⟨by simp,?_⟩;simp[sZ,aP];refine .inl (cP [.loc 13 0] [bO (sZ++tA)] (by simp) (by simp[bO,sZ,tA]) c1 ?_);simp[Wk.pv];refine .inl (R4 [] (fs:=[]) (xs:=[]) (cs:=[]) (d:=19) rfl rfl Zy ?_);rintro r B ⟨rfl,rfl⟩;refine⟨by simp,?_⟩;simp[sZ];refine .inl (cP [.loc 19 0] [bO sZ,.i 1] (by simp) (by simp[bO,sZ]) c2 ?_);simp;refine .inl (R4 [] (fs:=[]) (xs:=[]) (cs:=[]) (d:=24) rfl rfl Zy ?_);rintro r B ⟨rfl,rfl⟩;refine⟨by simp,?_⟩;simp[sZ,aP];refine .inl (cP [.loc 24 0] [bO sZ] (by simp) (by simp[bO,sZ]) c3 ?_);simp;refine .inl (cP [.loc 29 0] [bO [⟨#[97]⟩]] (by simp) (by simp[bO]) c4 ?_);simp[iE,iP];refine .inl (cP [.loc 88 0] [.aE false 1 ([0,1].map iP),.aE false 1 ([0,1].map iP)] (by simp) (by simp[iP]) c5 ?_);have hs:EC (bP SW.data.toList)=some ((SW.data.toList).map fun b=>(b.toNat:Int)):=by decide +kernel
 have oK:NW ((SW.data.toList).map fun b=>(b.toNat:Int))=SW:=by decide +kernel
 have hr:Zl.toList=[108,111,116,32,55,32,116,101,115,116,115,32,50,32,111,112,101,110,10,99,101,114,116,115,32,49,32,104,101,108,100,32,49,32,98,97,100,32,48,10,101,110,100,32,48,10]:=by rw[Lib.toList_data];rfl
 have D0:SW.toList=[123,48,48,49,58,57,57,56,58,48,48,49,48,57,125,97,10]:=by rw[Lib.toList_data];rfl
 simp[hs,oK,hr,D0];rw[<-hR];exact⟨by simp,by simp⟩


section
attribute [local simp] ZfT ZfS ZfR Zds Zfp Zfq Zer
attribute [local simp] AS.exp jU aK.iT AV.map AV.iO rC dO Site.uI aK.dC AV.dC AV.gW aU cK AS.lU fA gH bY oW jZ s4
end
section


theorem ZjR {L:List ByteArray}:zC L=JS L:=by
 have hf:IW L=L.all (fun s=>decide (s.size<=200)):=rfl;unfold zC JS v8;rw[hf];by_cases h1:L.length<=50
 .have H7:¬50<L.length:=by omega
  by_cases h2:L.all (fun s=>decide (s.size<=200))=true
  .simp only[h1,H7,h2];rfl
  .rw[Bool.not_eq_true]at h2;simp only[h1,H7,h2];rfl
 .have H7:50<L.length:=by omega
  simp[h1,H7]
attribute [local irreducible] Bk.qG eR Bk.contra Bk.held Bk.span Bk.nums Bk.iA Bk.pU stM nV rM Bk.fault lI
theorem ZjH {L:List ByteArray}(h:JS L=0):v8 L=true:=by
 unfold JS at h;by_cases h':v8 L=true
 .exact h'
 .rw[if_neg h']at h;cases h
end
section
attribute [local irreducible] Bk.qG eR Bk.contra Bk.held Bk.span Bk.nums Bk.iA Bk.pU stM nV rM Bk.fault
end
section
attribute [local irreducible] Bk.qG eR Bk.contra Bk.held Bk.span Bk.nums Bk.iA Bk.pU stM nV rM Bk.fault lI
end
section
attribute [local irreducible] Bk.qG eR Bk.contra Bk.held Bk.span Bk.nums Bk.iA Bk.pU stM nV rM Bk.fault lI
def BK (w:Wk)(n:Int)(b:Bool):aK:=.cells [.pv (.aE false 7 (w.aA.map Ct.pv)),(if b then .pv (.aE false 1 ((w.bad++[n]).map iP))else .vec (.loc 44 0) 1 0 (w.bad.length+1)),.pv (.aE false 4 (w.aN.map Lt.pv)),.pv (.aE false 4 (w.aH.map Tt.pv)),.pv (.aE false 3 (w.runs.map Qn.Rq.pv))]
def EP (w:Wk)(n:Int)(Y l:List Int)(b:Bool)(k:Nat):AS:=
 ⟨[(4,.pv (.bool false)),(5,.pv (.aE false 1 (Y.map iP))),(6,.pv (.i 0)),(7,.pv (.i 0)),(8,.vec (.loc 77 0) 1 0 l.length),(9,.ptr (.loc 9 0) 0),(11,.ptr (.loc 11 0) 0),(12,.pv (.i (k:Int)))],[(.loc 77 0,.arr 3 1 (l.map iP)),(.loc 9 0,.cells w.cells),(.loc 11 0,BK w n b)]++(if b then[]else[(.loc 44 0,.arr 3 1 ((w.bad++[n]).map iP))])⟩
theorem Zi4 (L:List ByteArray)(hl:L.length<=9223372036854775807)(n:Int):aD prog 4 [bO L,.i n] (.bool true):=by
 have hth:=ZtV L hl;refine b8 L4 ?_;intro R hR;simp[L4];refine cG [bO L] hth ?_;cases ht:rD L with
 |false=>
  simp;refine cG [] Mo ?_;simp;rw[<-hR];exact⟨rfl,by simp⟩
 |true=>
 have Jw:L.length<=55:=by
  unfold rD at ht;rw[dK,decide_eq_true_eq]at ht;exact ht.2
 have Vf:=ZtW L (by omega);have pN:=Zq0 L (by omega);have lZ:=Zgi (F:=408) (by decide) L (by omega) n;unfold j7 at lZ;rw[ZjR]at lZ;simp;refine .inl (cQ [] [bO L] Vf ?_);simp;refine .inl (cQ [] [bO L,_] lZ ?_);by_cases hf:JS L=0
 case neg=>
  have h3:JS L=3:=by
   unfold JS at hf ⊢;by_cases h':v8 L=true
   .rw[if_pos h']at hf;exact absurd rfl hf
   .rw[if_neg h']
  rw[if_neg hf];rw[h3]at pN;simp;refine cG [bO L] pN ?_;simp;refine cG [] Mo ?_;simp;rw[<-hR];exact⟨rfl,by simp⟩
 rw[if_pos hf];rw[hf]at pN;obtain⟨y4,Aq⟩:=Zjb (ZjH hf);have Jr:=Zm3 L y4 Aq;have hI:=(Lh (l:=L) (k:=0) vD AR).1;generalize dA (lI 408) lD L=q at *;obtain⟨w,es⟩:=q;dsimp only at *;have dD:=Ls _ _ (show 0+L.length<=50 by omega) hI;have uS:=Zhd w dD.c n;have jN:w.pv=.agg [.aE false 7 (w.aA.map Ct.pv),.aE false 1 (w.bad.map iP),.aE false 4 (w.aN.map Lt.pv),.aE false 4 (w.aH.map Tt.pv),.aE false 3 (w.runs.map Qn.Rq.pv)]:=rfl;rw[jN]at uS Jr;have hb6:w.bad.length<=999999:=by have:=dD.b;omega
 have VO:w.bad.length<=1000000:=by omega
 have hb7:w.bad.length+1<=1000000:=by omega
 have Vd:(w.bad.map iP).take w.bad.length=w.bad.map iP:=fP (by simp);obtain⟨Y,hY⟩:∃Y,Y=J1 w n w.aH.length:=⟨_,rfl⟩;rw[<-hY];cases hk:kn w n with
 |false=>
  rw[hk]at uS;simp;refine cG [bO L] pN ?_;simp;refine .inl (cQ [] [bO L] Jr ?_);simp;refine cG [_,_] uS ?_;simp[aP,VO,hb7];refine eP (fun m τ=>τ=⟨[(4,.pv (.bool false)),(5,.pv (.aE false 1 [])),(6,.pv (.i 7)),(7,.pv (.i 7)),(9,.ptr (.loc 9 0) 0),(12,.pv (.i 0))],[(.loc 9 0,.cells w.cells)]⟩) ⟨0,_,Sub.mk (by simp) (by simp[Wk.cells]),rfl⟩ ?_;rintro J hJ m τ rfl;by_cases h0:0<w.aH.length<;>simp[Wk.cells,h0]
  all_goals
   refine cG [] Mo ?_;simp;rw[<-hR];exact⟨rfl,by simp⟩
 |true=>
  rw[hk]at uS;simp;refine cG [bO L] pN ?_;simp;refine .inl (cQ [] [bO L] Jr ?_);simp;refine cG [_,_] uS ?_;simp[cU,aP,VO,hb6,hb7,Vd,setAt];refine eP (fun m τ=>∃(k:Nat) (b:Bool),k<=w.aH.length/\m=w.aH.length-k/\τ=EP w n Y (J1 w n k) b k) ⟨w.aH.length,EP w n Y [] false 0,Sub.trans' (Sub.mk (by simp[AS.cR]) (by simp[BK,AS.cR,Wk.cells,iP])) (cR 77 3 1 8 rfl (by decide)),0,false,gY _,rfl,rfl⟩ ?_;rintro J hJ m τ ⟨k,b,hk,rfl,rfl⟩;have yN:=Zi6 (w:=w) (n:=n) (k:=k);have hto:=dD.t;by_cases aJ:k<w.aH.length
  .obtain⟨t,hx⟩:∃t,w.aH[k]?=some t:=⟨w.aH[k],bC aJ⟩;have hg:(w.aH.map Tt.pv)[k]?=some (.agg [.i t.fU,.i t.item,.i t.day,.i t.rd]):=by rw[bX,hx];rfl
   have hw:=bN (k:=k) (by omega);obtain⟨t1,t2,t3,t4,-⟩:=hI.tt t (dL hx);have wL:=hI.b;have G7:=Od w hI.bk dD.c dD.b t.fU t.item t.day t.rd (by omega) t2 t3 t4;have oK:=Od { w with bad:=w.bad++[n]} hI.bk dD.c (by show(w.bad++[n]).length<=1000;rw[gD];simp;omega) t.fU t.item t.day t.rd (by omega) t2 t3 t4;have hn:=fun b'=>hJ (w.aH.length-(k+1)) _ ⟨k+1,b',aJ,rfl,rfl⟩
   rw[Zka hx]at hn;have aG:w.aH.length-(k+1)<w.aH.length-k:=by omega
   have Sd:({ w with bad:=w.bad++[n]}:Wk).pv=.agg [.aE false 7 (w.aA.map Ct.pv),.aE false 1 ((w.bad++[n]).map iP),.aE false 4 (w.aN.map Lt.pv),.aE false 4 (w.aH.map Tt.pv),.aE false 3 (w.runs.map Qn.Rq.pv)]:=rfl;rw[jN]at G7;rw[Sd]at oK;dsimp only at oK;have QN:HG w n t=(stM w.aA w.bad t.item t.day&&!stM w.aA (w.bad++[n]) t.item t.day):=rfl;clear hJ Jr lZ uS;generalize J1 w n k=l at *;have h6:l.length<=999999:=by omega
   have h7:l.length+1<=1000000:=by omega
   have nT:(l.map iP).take l.length=l.map iP:=fP (by simp);generalize stM w.aA w.bad t.item t.day=v1 at *;generalize stM w.aA (w.bad++[n]) t.item t.day=v2 at *;generalize r5:(w.bad++[n]).map iP=B1 at *;have RR:w.bad.length+1=B1.length:=by rw[<-r5];simp
   have RQ:B1.take B1.length=B1:=mX ..;cases wD:v1 with
   |false=>
    rw[wD]at G7 QN;rw[QN,if_neg (by simp),tG]at hn;cases b<;>simp[EP,BK,Wk.cells,aJ,↓hg,aP]
    .refine cQ [] [_,_] G7 ?_;simp[aM,hw];exact⟨_,_,aG,Sub.mk (by simp) (by simp[BK,Wk.cells]),hn false⟩
    .refine cQ [] [_,_] G7 ?_;simp[aM,hw];exact⟨_,_,aG,Sub.mk (by simp) (by simp[BK,Wk.cells]),hn true⟩
   |true=>
   rw[wD]at G7 QN;cases b with
   |false=>
    simp[EP,BK,Wk.cells,aJ,↓hg,aP,r5];refine cQ [] [_,_] G7 ?_;simp[aM,↓hg,aP];refine .inl (cP [.loc 44 0] [_,_] (by simp) (by simp[aM,RR,RQ]) oK ?_);cases v2 with
    |true=>
     rw[QN,if_neg (by simp),tG]at hn;simp[aM,hw,RR,RQ];exact⟨_,_,aG,Sub.mk (by simp) (by simp[BK,Wk.cells,r5]),hn true⟩
    |false=>
     rw[QN,if_pos (by rfl)]at hn;simp[aM,hw,h7,aP,RR,RQ];exact⟨_,_,aG,Sub.mk (by simp) (by simp[BK,Wk.cells,r5,iP]),hn true⟩
   |true=>
    simp[EP,BK,Wk.cells,aJ,↓hg,cU,aP,r5];refine cQ [] [_,_] G7 ?_;simp[aM,aJ,↓hg,cU,aP];refine .inl (cQ [] [_,_] oK ?_);cases v2 with
    |true=>
     rw[QN,if_neg (by simp),tG]at hn;simp[aM,hw];exact⟨_,_,aG,Sub.mk (by simp[EP]) (by simp[EP,BK,Wk.cells,r5]),hn true⟩
    |false=>
     rw[QN,if_pos (by rfl)]at hn;simp[aM,hw,h7,aP];exact⟨_,_,aG,Sub.mk (by simp[EP]) (by simp[EP,BK,Wk.cells,r5,iP]),hn true⟩
  have he:k=w.aH.length:=by omega
  subst he;have fW:=ZoJ Y Y (by rw[hY];omega);have nT:(Y.map iP).take Y.length=Y.map iP:=fP (by simp);rw[<-hY];simp[EP,Wk.cells];refine .inl (cP [.loc 77 0] [.aE false 1 (Y.map iP),.aE false 1 (Y.map iP)] (by simp) (by simp[nT]) fW ?_);simp[aM];refine cG [] Mo ?_;simp;rw[<-hR];exact⟨rfl,by simp⟩
end
section
open Go.ChangeShapes Go.WideShapes Go.ChangeAt Go.RowKit
theorem Zek (v0 v1:Value)(W:World){H:Type}{enc:TypeId×Value->H}{base:Nat}{sp:Nat->Bool}{hd:Bool}{d0 d1:DataW H}{p0 p1:List MemPlace}(hg:nJ W.mem W)
  (k0:Value.okWide prog W .any base 22 v0) (h0:DataW.Trod enc prog W 0 sp hd 22 v0 d0 p0)
  (k1:Value.okWide prog W .any base 3 v1) (h1:DataW.Trod enc prog W 0 sp hd 3 v1 d1 p1):
  Calls prog 4 #[v0,v1] W fun e w'=>e=.returned (.bool true)/\cV [] W w':=by
 obtain⟨n0,h0⟩:=h0;obtain⟨s0,w0,r0⟩:=ZsQ k0 h0;obtain⟨z1,rfl,rfl,rfl,y1⟩:=open_int underlying3 k1 h1;refine Zl6 (xs:=[bO s0,.i z1]) (b:=true) ((Zi4 s0 w0 z1).mono (fun _ _ h=>h.1)) rfl (fun j v x e1 e2=>?_) hg
 match j with
 |0=>simp at e1 e2;subst e1 e2;exact r0
 |1=>simp at e1 e2;subst e1 e2;exact .int .i64 z1
 |j+2=>simp at e1
theorem Zdw (os:Os)(started:os.Started)(H:Type)(enc:TypeId×Value->H):
  ReturnsInHanded {} checked os 4 .any (fun w args=>(Rows.bookWithdrawsSpec.pre enc prog f4 Rows.bookWithdrawsRow.domain false w args/\laidMetH prog Rows.bookWithdrawsRow.laid w)/\sizedMet enc prog f4 (OpenSpec.ofChange Rows.bookWithdrawsSpec) false w args)
   (Rows.bookWithdrawsSpec.post enc prog f4 false true false false):=by
 refine ZjA (C:=checked) (X:=fun w _=>laidMetH prog Rows.bookWithdrawsRow.laid w) (fun _ _ _ hh h=>h.of_heap hh) own started (by kernel_rfl) func4
  (ChangeSpec.witness_shaped (enc:=enc) (C:=checked) (os:=os) (X:=fun w _=>laidMetH prog Rows.bookWithdrawsRow.laid w) false (World.laidAll prog os Rows.bookWithdrawsRow.laid) #[.slice none 0 0,.i 0] 8 (World.laidAll_os _ _ _)
   (World.shaped_of_ZipB (by kernel_rfl) (by kernel_rfl)) (by kernel_rfl) (by kernel_rfl) (by kernel_rfl)
   (by rw[MakeChecks.laidMetH_plain _ _ _ (by kernel_rfl)];exact laidMet_laidAll _ (by kernel_rfl) (by kernel_rfl))) ?_
 intro W base args ds gs before Ai hW hL HQ;have nC:∀(j:Nat) t v,f4.params[j]?=some t->args[j]?=some v->Value.okWide prog W .any base t v:=Ai;rw[MakeChecks.laidMetH_plain _ _ _ (by kernel_rfl)]at hL;have hg:=ZtH HQ (Lib.laidMet.reads hL (by simp[Rows.bookWithdrawsRow])) (Lib.laidMet.reads hL (by simp[Rows.bookWithdrawsRow])) (Lib.laidMet.reads hL (by simp[Rows.bookWithdrawsRow]));have Vm:=hW;obtain⟨p,q,hA0,hV,rfl,hfz,pZ⟩:=hW;have hA:DataW.TrodAll enc prog W 0 (fun _=>true) true f4.params.toList args.toList ds p:=hA0;rw[params4]at hA nC;obtain⟨v0,vs0,d0,Wq,p0,q0,fY,rfl,rfl,h0,r0⟩:=trodAll_cons hA;obtain⟨v1,vs1,d1,ds1,p1,q1,rfl,rfl,rfl,h1,r1⟩:=trodAll_cons r0;obtain⟨rfl,rfl,rfl⟩:=trodAll_nil r1;have RD:args=#[v0,v1]:=by
  apply Array.ext';exact fY
 subst RD;have k0:=nC 0 _ v0 rfl rfl;have k1:=nC 1 _ v1 rfl rfl;obtain⟨rfl,rfl⟩:=trodVars_none hV;refine(Zek v0 v1 W hg k0 h0 k1 h1).mono fun e W' ⟨he,hk⟩=>?_
 subst he;exact⟨_,rfl,ZpI (tb:=4) LW Zrx Ds (by decide +kernel) rfl rfl rfl underlying4 Vm hk⟩
end
theorem Ziw {P:Program}{f:FuncId}{fn:Func}{s:ChangeSpec}{c:OpenClaim}(k0:(c.wf (OpenSpec.ofChange s))=true)(k1:(laidOutB P)=true)(k2:(mapsRowed P)=true)(k3:(fn.params.all (P.readableRec ·))=true)(k4:(namedTie P c.named s.vars)=true)(k5:((c.stops==[]))=true)(k6:((P.stops==[]))=true)(k7:((c.knobs==[]))=true)(k8:((P.stopKnobs==[]))=true)(k9:((c.inPlace==P.inPlace f))=true)(Rr:((c.unfollowed==P.unfollowed f))=true)(Ro:((c.recurses==P.recurses f))=true)(k12:((c.named==P.varsNamed f))=true)(k13:((c.maps==(fn.params.toList++s.plain.varTypes P).any (P.mapsRec ·)))=true)(k14:((c.ifaces==(fn.params.toList++s.plain.varTypes P).any (P.ifacesRec ·)))=true)(k15:((c.mapsOut==P.mapsAmong fn.resultTypes.toList))=true)(k16:((c.loops==(fn.params.toList++s.plain.varTypes P).any (P.loopsFrom ·)))=true)(k17:((c.wideKeys==(fn.params.toList++s.plain.varTypes P++fn.resultTypes.toList).any (P.wideKeysFrom ·)))=true)(k18:(s.vars.all (P.varReadable ·))=true)(k19:(fn.resultTypes.all (fun t=>P.readableRec t&&decide (t<P.types.size)))=true)(k20:((c.ifacesOut==fn.resultTypes.toList.any (P.ifacesRec ·)))=true)(k21:((c.loopsOut==fn.resultTypes.toList.any (P.loopsFrom ·)))=true)(k22:((c.plainKeys==P.plainKeys))=true)(k23:(c.shortTexts.isNone)=true)(k24:(P.stopsHeard)=true)(k25:(P.mayEnter)=true)(k26:((c.lifted==P.liftsFinal))=true)(k27:((P.make==some c.make))=true)(k28:((c.kinds==(if c.domain.isEmpty then[]else fn.params.toList.map fun t=>match P.underlying t with|some (.int k)=>some k|_=>none)))=true)(k29:((c.pinned==c.pinnedBy))=true)(k30:((c.veiled==(fn.params.toList++s.plain.varTypes P++fn.resultTypes.toList).any (P.veiledRec ·)))=true)(k31:(c.veiledFits P fn.params.toList (fn.params.toList++s.plain.varTypes P++fn.resultTypes.toList))=true):joinedFacts P f fn s c=true:=by
 unfold joinedFacts;simp only[dK];exact⟨⟨⟨⟨⟨⟨⟨⟨⟨⟨⟨⟨⟨⟨⟨⟨⟨⟨⟨⟨⟨⟨⟨⟨⟨⟨⟨⟨⟨⟨⟨k0,k1⟩,k2⟩,k3⟩,k4⟩,k5⟩,k6⟩,k7⟩,k8⟩,k9⟩,Rr⟩,Ro⟩,k12⟩,k13⟩,k14⟩,k15⟩,k16⟩,k17⟩,k18⟩,k19⟩,k20⟩,k21⟩,k22⟩,k23⟩,k24⟩,k25⟩,k26⟩,k27⟩,k28⟩,k29⟩,k30⟩,k31⟩
theorem bR0:(Rows.bookWithdrawsRow.wf (OpenSpec.ofChange Rows.bookWithdrawsSpec))=true:=by kernel_rfl
theorem bR1:(laidOutB prog)=true:=LW
theorem bR2:(mapsRowed prog)=true:=Zrx
theorem bR3:(f4.params.all (prog.readableRec ·))=true:=by kernel_rfl
theorem bR4:(namedTie prog Rows.bookWithdrawsRow.named Rows.bookWithdrawsSpec.vars)=true:=by kernel_rfl
theorem bR9:((Rows.bookWithdrawsRow.inPlace==prog.inPlace 4))=true:=by kernel_rfl
theorem Xh:((Rows.bookWithdrawsRow.unfollowed==prog.unfollowed 4))=true:=by kernel_rfl
theorem Xg:((Rows.bookWithdrawsRow.recurses==prog.recurses 4))=true:=by kernel_rfl
theorem Xf:((Rows.bookWithdrawsRow.named==prog.varsNamed 4))=true:=by kernel_rfl
theorem Xe:((Rows.bookWithdrawsRow.plainKeys==prog.plainKeys))=true:=by kernel_rfl
theorem Xd:(prog.stopsHeard)=true:=by kernel_rfl
theorem Xc:(prog.mayEnter)=true:=by kernel_rfl
theorem Xb:((Rows.bookWithdrawsRow.lifted==prog.liftsFinal))=true:=by kernel_rfl
theorem Xa:((prog.make==some Rows.bookWithdrawsRow.make))=true:=by kernel_rfl
theorem Zq6:joinedFacts pinned.checked.prog 4 f4 Rows.bookWithdrawsSpec Rows.bookWithdrawsRow=true:=
 Ziw bR0 bR1 bR2 bR3 bR4 (by kernel_rfl) (by kernel_rfl) (by kernel_rfl) (by kernel_rfl) bR9 Xh Xg Xf (by kernel_rfl) (by kernel_rfl) (by kernel_rfl) (by kernel_rfl) (by kernel_rfl) (by kernel_rfl) (by kernel_rfl) (by kernel_rfl) (by kernel_rfl) Xe (by kernel_rfl) Xd Xc Xb Xa (by kernel_rfl) (by kernel_rfl) (by kernel_rfl) (by kernel_rfl)
section
open Go.ChangeShapes Go.WideShapes Go.ChangeAt Go.RowKit
theorem Zq7 (os:Os)(started:os.Started)(H:Type)(enc:TypeId×Value->H):ReturnsInHanded Rows.bookWithdrawsRow.assume pinned.checked os 4 .any (Rows.bookWithdrawsRow.pre enc pinned.checked.prog f4 (OpenSpec.ofChange Rows.bookWithdrawsSpec)) (Rows.bookWithdrawsSpec.post enc pinned.checked.prog f4 Rows.bookWithdrawsRow.apart Rows.bookWithdrawsRow.fresh Rows.bookWithdrawsRow.handsOn Rows.bookWithdrawsRow.again):=Zdw os started H enc
theorem Zet:Rows.bookWithdrawsRow.holds pinned (OpenSpec.ofChange Rows.bookWithdrawsSpec):=
 OpenClaim.holds_of_wide 4 f4 rfl rfl rfl rfl rfl rfl rfl ⟨rfl,rfl,rfl,rfl,rfl⟩ rfl rfl rfl rfl rfl (by kernel_rfl) func4 Zq6
  (of_decide_eq_true (by kernel_rfl)) (by unfold Func.isWrapper;first|(rw[if_pos (by decide +kernel)];kernel_rfl)|(rw[if_neg (by decide +kernel)];exact⟨rfl,rfl⟩))
  (fun os started H enc _=>Zq7 os started H enc)
theorem Wy:Rows.bookWithdrawsRow.wfByText (OpenSpec.ofChange Rows.bookWithdrawsSpec)=true:=by kernel_rfl
theorem Zva : pinned.checked.prog.mainIs = some (true, "fcce57d82b88c4b3015b95ddefccdbf550aa66b3a632443fa05c47b6881cad25".toList) := by kernel_rfl
theorem Zt1:true=pinned.checked.prog.looks []:=by kernel_rfl
theorem Wz:false=Rows.bookWithdrawsRow.goesBy pinned.checked.prog:=by kernel_rfl
theorem Zt0 : prog.funcNamed "tensile/tensilelaw12.BookWithdraws" = some 4 := by kernel_rfl
theorem ZtZ:([22,3].all fun u=>!prog.wantsStandIn u)=true:=by kernel_rfl
theorem cardBookWithdraws:Rows.BookWithdrawsCardSaid:=
 Claim7.holds_tied_plain_at .later [] [.data, .data, .data, .data, .sentinel, .sentinel, .pinned] true (true, "fcce57d82b88c4b3015b95ddefccdbf550aa66b3a632443fa05c47b6881cad25") true
  Zet (fun _ h=>by cases h) Wy (fun _ h=>by cases h) bookWithdraws_row_tie rfl ⟨rfl,rfl⟩ Zva rfl
  (fun f fn hf qC=>by
   obtain rfl:f=4:=Option.some.inj (Zt0.symm.trans hf) |>.symm;obtain rfl:fn=f4:=(Option.some.inj (func4.symm.trans qC)).symm;exact⟨Zt1,fun j t ht=>by
    rw[params4]at ht;have hm:t∈([22,3]:List TypeId):=by simpa using Array.mem_of_getElem? ht
    exact(show prog.wantsStandIn t=false by simpa using rA.1 ZtZ t hm)⟩)
  Wz
end
end Go.Proofs.YtlllhbmbnjnoiaaGreatDoor
