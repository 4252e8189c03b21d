import Derived.Test.YthmbecacehfgfaaGreatDoorP0
import Derived.Test.YthmbecacehfgfaaGreatDoorP4
import Derived.Test.YthmbecacehfgfaaGreatDoorP3
import Derived.Test.YthmbecacehfgfaaGreatDoorP2
import Derived.JoinedOf
import Derived.Test.YthmbecacehfgfaaGreatDoorCards
import Derived.Test.YthmbecacehfgfaaGreatDoorTie
import Derived.SevenTiedAt
set_option linter.unusedSimpArgs false
set_option linter.unusedVariables false
set_option maxHeartbeats 32000000
set_option maxRecDepth 100000
namespace Go.Proofs.YthmbecacehfgfaaGreatDoor
open Go.RowKit
open Go.Proofs.Tryz Go.Proofs.YthmbecacehfgfaaGreatDoor.Tryz
section
def sJ (w:Wk)(r:Except Int Wk):PV:=match r with
 |.ok u=>.bM [u.pv,.i 0]
 |.error e=>.bM [w.pv,.i e]
theorem Yb {l:List Int}{n:Int}{i:Nat}(hs:l.Pairwise (·<·))(hi:i<=l.length)(h1:∀(k:Nat) (y:Int),k<i->l[k]?=some y->y<n)(h2:∀y,l[i]?=some y->n<=y):dJ l n=i:=by
 refine Cut.is ⟨fE _,hi,h1,fun k y hk hy=>?_⟩;obtain⟨l1,e1⟩:=bZ.1 hy;have yI:i<l.length:=by omega
 have h3:=h2 l[i] (aX yI);by_cases he:i=k
 .subst he;rw[e1]at h3;exact h3
 .have:=R0.1 hs i k yI l1 (by omega)
  omega
def Ki (w:Wk)(n:Int)(k:Nat):AS:=⟨[(1,.pv (.i n)),(2,.ptr (.loc 2 0) 0),(4,.ptr (.loc 4 0) 0),(6,.ptr (.loc 6 0) 0),(7,.pv (.i (k:Int)))],
 [(.loc 44 0,.arr 3 1 ((w.bad.take k).map iP)),(.loc 6 0,.cells [.pv (.aE false 7 (w.aA.map Ct.pv)),.vec (.loc 44 0) 1 0 k,.pv (.aE false 4 (w.aJ.map Lt.pv)),.pv (.aE false 4 (w.aG.map Tt.pv)),.pv (.aE false 3 (w.runs.map Qn.Rq.pv))]),(.loc 2 0,.cells w.cells),(.loc 4 0,.cells [.pv (.emp (some true)),.pv (.emp (some true)),.pv (.emp (some true)),.pv (.emp (some true)),.pv (.emp (some true))])]⟩
theorem Zuv {q:Nat}(w:Wk)(hI:sG q w)(hq:q<=100)(n:Int):aD prog 45 [w.pv,.i n] (sJ w ((pQ w.aA w.bad n).map fun l=>{ w with bad:=l })):=by
 have gS:=hI.c;have xJ:=hI.b;have N4:=Zku w (by omega) n;have VE:aD prog 81 [.aE false 1 (w.bad.map iP),.i n] (.bool (decide (n∈w.bad))):=by
  have h:=wI w.bad n (by omega);have e:w.bad.contains n=decide (n∈w.bad):=by
   rw[qQ,jF,decide_eq_true_eq]
  rw[e]at h;exact h
 have jL:w.pv=.agg [.aE false 7 (w.aA.map Ct.pv),.aE false 1 (w.bad.map iP),.aE false 4 (w.aJ.map Lt.pv),.aE false 4 (w.aG.map Tt.pv),.aE false 3 (w.runs.map Qn.Rq.pv)]:=rfl;refine cF [.loc 61 0] L45 ?_;obtain⟨V,hV⟩:∃V,V=sJ w ((pQ w.aA w.bad n).map fun l=>{ w with bad:=l }):=⟨_,rfl⟩;rw[<-hV];generalize hR:(fun(r:AV) (B:List (Site×aL))=>r=.pv V/\B=[])=R;rw[jL]at N4 ⊢;simp[L45];refine cG [_,_] N4 ?_;cases mC:kn w n with
 |false=>
  have hv:V=.bM [w.pv,.i 7]:=by
   rw[hV];unfold pQ;rw[if_neg (by unfold kn at mC;rw[mC];decide)];rfl
  subst hv;simp;rw[<-hR];exact⟨by simp[jL],by simp⟩
 |true=>
 simp;refine cG [_,_] VE ?_;by_cases hb:n∈w.bad
 .have hv:V=.bM [w.pv,.i 6]:=by
   rw[hV];unfold pQ;rw[if_pos (by unfold kn at mC;exact mC),if_pos hb];rfl
  subst hv;simp[hb];rw[<-hR];exact⟨by simp[jL],by simp⟩
 have hv:V=.bM [.agg [.aE false 7 (w.aA.map Ct.pv),.aE false 1 ((w.bad.take (dJ w.bad n)++n::w.bad.drop (dJ w.bad n)).map iP),.aE false 4 (w.aJ.map Lt.pv),.aE false 4 (w.aG.map Tt.pv),.aE false 3 (w.runs.map Qn.Rq.pv)],.i 0]:=by
  rw[hV];unfold pQ;rw[if_pos (by unfold kn at mC;exact mC),if_neg hb];rfl
 clear hV;simp[hb];refine dY (fun m τ=>∃k:Nat,k<=w.bad.length/\m=w.bad.length-k/\(∀(j:Nat) (y:Int),j<k->w.bad[j]?=some y->y<n)/\τ=Ki w n k) ⟨w.bad.length,Ki w n 0,Sub.trans' (Sub.mk (by simp[AS.gL]) (by simp[AS.gL,Wk.cells])) (gL 44 3 1 (s:=.loc 6 0) (cs:=[.pv (.aE false 7 (w.aA.map Ct.pv)),.pv (.emp (some true)),.pv (.aE false 4 (w.aJ.map Lt.pv)),.pv (.aE false 4 (w.aG.map Tt.pv)),.pv (.aE false 3 (w.runs.map Qn.Rq.pv))]) 1 rfl rfl (by decide)),0,fT _,rfl,(fun j y h=>absurd h (Nat.not_lt_zero j)),rfl⟩ ?_;rintro J hJ m τ ⟨k,hk,rfl,lG,rfl⟩;have Bc:¬(k<w.bad.length/\∃y,w.bad[k]?=some y/\y<n)->dJ w.bad n=k:=fun h=>Yb hI.bs hk lG fun y hy=>by
  have xG:=(bZ.1 hy).1;by_cases T0:y<n
  .exact absurd ⟨xG,y,hy,T0⟩ h
  .omega
 by_cases pY:k<w.bad.length/\∃y,w.bad[k]?=some y/\y<n
 .obtain⟨aI,y,hy,T0⟩:=pY;have hg:(w.bad.map iP)[k]?=some (.i y):=by rw[bR,hy];rfl
  have hw:=bA (k:=k) (by omega);have aB:=hJ _ _ ⟨k+1,aI,rfl,(fun j z hj hz=>by
   by_cases he:j=k
   .subst he;rw[hy]at hz;cases hz;exact T0
   .exact lG j z (by omega) hz),rfl⟩
  have aH:w.bad.length-(k+1)<w.bad.length-k:=by omega
  have iH:(w.bad.take (k+1)).map iP=(w.bad.take k).map iP++[.i y]:=by rw[lX,hy,lI];rfl
  have mI:((w.bad.take k).map iP).length=k:=by rw[fQ,gI];omega
  have sQ:k+1<=1000000:=by omega
  unfold Ki at aB ⊢;rw[iH]at aB;clear hJ;generalize D9:(w.bad.take k).map iP=TL at *;have U7:TL.take k=TL:=fH (by omega);simp[Wk.cells,aI,↓hg,T0,aP,hw,sQ,mI];exact⟨_,_,aH,Sub.mk (by simp) (by simp[Wk.cells]),aB⟩
 have wF:=Bc pY;clear hJ Bc;rw[wF]at hv;have mI:((w.bad.take k).map iP).length=k:=by rw[fQ,gI];omega
 have CS:(w.bad.take k++n::w.bad.drop k).map iP=(w.bad.take k).map iP++[.i n]++(w.bad.map iP).drop k:=by
  rw[lI,iQ,List.map_drop,I0];rfl
 rw[CS]at hv;subst hv;have sQ:k+1<=1000000:=by omega
 have pV:IntKind.i64.wrap (k:Int)=(k:Int):=wrap64 (by omega);have Z3:(w.bad.map iP).take w.bad.length=w.bad.map iP:=fH (by simp);have nI:((w.bad.map iP).drop k).length=w.bad.length-k:=by rw[uG,fQ]
 have VB:k+1+(w.bad.length-k)<=1000000:=by omega
 unfold Ki;generalize D9:(w.bad.take k).map iP=TL at *;have U7:TL.take k=TL:=fH (by omega);have hT3:(TL++[PV.i n]).take (k+1)=TL++[PV.i n]:=fH (by rw[gE];simp;omega);have Cc:k+1+(w.bad.length-k)<=k+(w.bad.length-k+1):=by omega
 have RB:(TL++PV.i n::(w.bad.map iP).drop k).take (k+1+(w.bad.length-k))=TL++PV.i n::(w.bad.map iP).drop k:=fH (by rw[gE,pA,mI,nI];omega);by_cases aI:k<w.bad.length
 .obtain⟨y,hy⟩:∃y,w.bad[k]?=some y:=⟨w.bad[k],aX aI⟩;have hg:(w.bad.map iP)[k]?=some (.i y):=by rw[bR,hy];rfl
  have T0:¬y<n:=fun h=>pY ⟨aI,y,hy,h⟩
  simp[-List.map_drop,Wk.cells,aI,↓hg,T0,aP,sQ,VB,mI,pV,nI,hk,Z3,Cc,RB];rw[<-hR];exact⟨by simp[-List.map_drop,I0],by simp⟩
 .simp[-List.map_drop,Wk.cells,aI,aP,sQ,VB,mI,pV,nI,hk,Z3,Cc,RB];rw[<-hR];exact⟨by simp[-List.map_drop,I0],by simp⟩
theorem rH (n lo hi:Int):aD prog 82 [.i n,.i lo,.i hi] (.bool (decide (lo<=n)&&decide (n<=hi))):=by
 refine cS L82 ?_;cases h1:decide (lo<=n)<;>cases h2:decide (n<=hi)<;>simp[-decide_eq_true_eq,-decide_eq_false_iff_not,L82,h1,h2]
theorem c7 {n:Int}:∀{l:List Lt} {k:Nat},(∀x∈l,x.num≠n)/\NF l n k = -1\/∃i x,l[i]?=some x/\x.num=n/\NF l n k=((k+i:Nat):Int)
 |[],k=>.inl ⟨(fun x h=>absurd h (List.not_mem_nil)),rfl⟩
 |x::l,k=>by
  unfold NF;by_cases h:x.num=n
  .rw[if_pos h];exact .inr ⟨0,x,rfl,h,rfl⟩
  .rw[if_neg h];rcases c7 (n:=n) (l:=l) (k:=k+1)with⟨h1,h2⟩|⟨i,y,h1,h2,h3⟩
   .exact .inl ⟨fun y hy=>(jQ.1 hy).elim (fun e=>e▸h) (h1 y),h2⟩
   .exact .inr ⟨i+1,y,h1,h2,by rw[h3];congr 1;omega⟩
def Ja (w:Wk)(a b c:Int)(k:Nat):AS:=⟨[(1,.pv (.aE false 1 [.i a,.i b,.i c])),(2,.ptr (.loc 2 0) 0),(4,.ptr (.loc 4 0) 0),(6,.ptr (.loc 6 0) 0),(7,.pv (.i (k:Int)))],
 [(.loc 64 0,.arr 68 4 ((w.aJ.take k).map Lt.pv)),(.loc 6 0,.cells [.pv (.aE false 7 (w.aA.map Ct.pv)),.pv (.aE false 1 (w.bad.map iP)),.vec (.loc 64 0) 4 0 k,.pv (.aE false 4 (w.aG.map Tt.pv)),.pv (.aE false 3 (w.runs.map Qn.Rq.pv))]),(.loc 2 0,.cells w.cells),(.loc 4 0,.cells [.pv (.emp (some true)),.pv (.emp (some true)),.pv (.emp (some true)),.pv (.emp (some true)),.pv (.emp (some true))])]⟩
theorem Zm3 {q:Nat}(w:Wk)(hI:sG q w)(hq:q<=100)(a b c:Int):aD prog 46 [w.pv,.aE false 1 [.i a,.i b,.i c]] (sJ w ((pK w.aJ ⟨a,b,c,false⟩).map fun l=>{ w with aJ:=l })):=by
 have zL:=hI.l;have D6:=Zr w (by omega) a;have i1:=rH a 1 99;have i2:=rH b 4 30;have i3:=rH c 0 1000;have jL:w.pv=.agg [.aE false 7 (w.aA.map Ct.pv),.aE false 1 (w.bad.map iP),.aE false 4 (w.aJ.map Lt.pv),.aE false 4 (w.aG.map Tt.pv),.aE false 3 (w.runs.map Qn.Rq.pv)]:=rfl;refine cF [.loc 90 0] L46 ?_;obtain⟨V,hV⟩:∃V,V=sJ w ((pK w.aJ ⟨a,b,c,false⟩).map fun l=>{ w with aJ:=l }):=⟨_,rfl⟩;rw[<-hV];generalize hR:(fun(r:AV) (B:List (Site×aL))=>r=.pv V/\B=[])=R;have gD:¬((decide (1<=a)&&decide (a<=99))=true/\(decide (4<=b)&&decide (b<=30))=true/\(decide (0<=c)&&decide (c<=1000))=true)->V=.bM [w.pv,.i 2]:=fun h=>by
  rw[hV];unfold pK;rw[if_neg h];rfl
 rw[jL]at D6 gD ⊢;simp[L46];refine cG [_,_,_] i1 ?_;generalize tV:(decide (1<=a)&&decide (a<=99))=d1 at *;cases d1
 .have hv:=gD (by simp);subst hv;simp;rw[<-hR];exact⟨by simp,by simp⟩
 simp;refine cG [_,_,_] i2 ?_;generalize wG:(decide (4<=b)&&decide (b<=30))=d2 at *;cases d2
 .have hv:=gD (by simp);subst hv;simp;rw[<-hR];exact⟨by simp,by simp⟩
 simp;refine cG [_,_,_] i3 ?_;generalize U5:(decide (0<=c)&&decide (c<=1000))=d3 at *;cases d3
 .have hv:=gD (by simp);subst hv;simp;rw[<-hR];exact⟨by simp,by simp⟩
 clear gD;have hlm:pK w.aJ ⟨a,b,c,false⟩=if a∈w.aJ.map Lt.num then .error 6 else .ok (w.aJ.take (dJ (w.aJ.map Lt.num) a)++⟨a,b,c,false⟩::w.aJ.drop (dJ (w.aJ.map Lt.num) a)):=by
  unfold pK;rw[if_pos ⟨tV,wG,U5⟩]
 rw[hlm]at hV;simp;refine cG [_,_] D6 ?_;rcases c7 (n:=a) (l:=w.aJ) (k:=0)with⟨mP,hf⟩|⟨i,x,hx,UM,hf⟩
 case inr=>
  have hv:V=.bM [w.pv,.i 6]:=by
   rw[hV,if_pos (iL.2 ⟨x,dL hx,UM⟩)];rfl
  rw[jL]at hv;subst hv;have h0:(0:Int)<=((0+i:Nat):Int):=Int.natCast_nonneg _;simp[-Int.natCast_add,hf];rw[<-hR];exact⟨by simp,by simp⟩
 have Au:a∉w.aJ.map Lt.num:=fun h=>by
  obtain⟨x,h1,h2⟩:=iL.1 h;exact mP x h1 h2
 rw[if_neg Au]at hV;have hv:V=.bM [.agg [.aE false 7 (w.aA.map Ct.pv),.aE false 1 (w.bad.map iP),.aE false 4 ((w.aJ.take (dJ (w.aJ.map Lt.num) a)++⟨a,b,c,false⟩::w.aJ.drop (dJ (w.aJ.map Lt.num) a)).map Lt.pv),.aE false 4 (w.aG.map Tt.pv),.aE false 3 (w.runs.map Qn.Rq.pv)],.i 0]:=hV;clear hV hlm;simp[hf];refine dY (fun m τ=>∃k:Nat,k<=w.aJ.length/\m=w.aJ.length-k/\(∀(j:Nat) (y:Lt),j<k->w.aJ[j]?=some y->y.num<a)/\τ=Ja w a b c k) ⟨w.aJ.length,Ja w a b c 0,Sub.trans' (Sub.mk (by simp[AS.gL]) (by simp[AS.gL,Wk.cells])) (gL 64 68 4 (s:=.loc 6 0) (cs:=[.pv (.aE false 7 (w.aA.map Ct.pv)),.pv (.aE false 1 (w.bad.map iP)),.pv (.emp (some true)),.pv (.aE false 4 (w.aG.map Tt.pv)),.pv (.aE false 3 (w.runs.map Qn.Rq.pv))]) 2 rfl rfl (by decide)),0,fT _,rfl,(fun j y h=>absurd h (Nat.not_lt_zero j)),rfl⟩ ?_;rintro J hJ m τ ⟨k,hk,rfl,lG,rfl⟩;have Bc:¬(k<w.aJ.length/\∃y,w.aJ[k]?=some y/\y.num<a)->dJ (w.aJ.map Lt.num) a=k:=fun h=>Yb hI.s (by rw[fQ];exact hk) (fun j z hj hz=>by
   rw[bR]at hz;obtain⟨y,hy,rfl⟩:=eA.1 hz;exact lG j y hj hy) fun z hz=>by
  rw[bR]at hz;obtain⟨y,hy,rfl⟩:=eA.1 hz;have xG:=(bZ.1 hy).1;by_cases T0:y.num<a
  .exact absurd ⟨xG,y,hy,T0⟩ h
  .omega
 by_cases pY:k<w.aJ.length/\∃y,w.aJ[k]?=some y/\y.num<a
 .obtain⟨aI,y,hy,T0⟩:=pY;have hg:(w.aJ.map Lt.pv)[k]?=some (.agg [.i y.num,.i y.pieces,.i y.limit,.bool y.passed]):=by rw[bR,hy];rfl
  have hw:=bA (k:=k) (by omega);have aB:=hJ _ _ ⟨k+1,aI,rfl,(fun j z hj hz=>by
   by_cases he:j=k
   .subst he;rw[hy]at hz;cases hz;exact T0
   .exact lG j z (by omega) hz),rfl⟩
  have aH:w.aJ.length-(k+1)<w.aJ.length-k:=by omega
  have iH:(w.aJ.take (k+1)).map Lt.pv=(w.aJ.take k).map Lt.pv++[.agg [.i y.num,.i y.pieces,.i y.limit,.bool y.passed]]:=by rw[lX,hy,lI];rfl
  have mI:((w.aJ.take k).map Lt.pv).length=k:=by rw[fQ,gI];omega
  have sQ:k+1<=1000000:=by omega
  unfold Ja at aB ⊢;rw[iH]at aB;clear hJ;generalize D9:(w.aJ.take k).map Lt.pv=TL at *;have U7:TL.take k=TL:=fH (by omega);simp[Wk.cells,aI,↓hg,T0,aP,hw,sQ,mI];exact⟨_,_,aH,Sub.mk (by simp) (by simp[Wk.cells]),aB⟩
 have wF:=Bc pY;clear hJ Bc;rw[wF]at hv;have mI:((w.aJ.take k).map Lt.pv).length=k:=by rw[fQ,gI];omega
 have CS:(w.aJ.take k++⟨a,b,c,false⟩::w.aJ.drop k).map Lt.pv=(w.aJ.take k).map Lt.pv++[.agg [.i a,.i b,.i c,.bool false]]++(w.aJ.map Lt.pv).drop k:=by
  rw[lI,iQ,List.map_drop,I0];rfl
 rw[CS]at hv;subst hv;have sQ:k+1<=1000000:=by omega
 have pV:IntKind.i64.wrap (k:Int)=(k:Int):=wrap64 (by omega);have Z3:(w.aJ.map Lt.pv).take w.aJ.length=w.aJ.map Lt.pv:=fH (by simp);have nI:((w.aJ.map Lt.pv).drop k).length=w.aJ.length-k:=by rw[uG,fQ]
 have VB:k+1+(w.aJ.length-k)<=1000000:=by omega
 unfold Ja;generalize D9:(w.aJ.take k).map Lt.pv=TL at *;have U7:TL.take k=TL:=fH (by omega);have hT3:(TL++[PV.agg [.i a,.i b,.i c,.bool false]]).take (k+1)=TL++[PV.agg [.i a,.i b,.i c,.bool false]]:=fH (by rw[gE];simp;omega);have Cc:k+1+(w.aJ.length-k)<=k+(w.aJ.length-k+1):=by omega
 have RB:(TL++PV.agg [.i a,.i b,.i c,.bool false]::(w.aJ.map Lt.pv).drop k).take (k+1+(w.aJ.length-k))=TL++PV.agg [.i a,.i b,.i c,.bool false]::(w.aJ.map Lt.pv).drop k:=fH (by rw[gE,pA,mI,nI];omega);by_cases aI:k<w.aJ.length
 .obtain⟨y,hy⟩:∃y,w.aJ[k]?=some y:=⟨w.aJ[k],aX aI⟩;have hg:(w.aJ.map Lt.pv)[k]?=some (.agg [.i y.num,.i y.pieces,.i y.limit,.bool y.passed]):=by rw[bR,hy];rfl
  have T0:¬y.num<a:=fun h=>pY ⟨aI,y,hy,h⟩
  simp[-List.map_drop,Wk.cells,aI,↓hg,T0,aP,sQ,VB,mI,pV,nI,hk,Z3,Cc,RB];rw[<-hR];exact⟨by simp[-List.map_drop,I0],by simp⟩
 .simp[-List.map_drop,Wk.cells,aI,aP,sQ,VB,mI,pV,nI,hk,Z3,Cc,RB];rw[<-hR];exact⟨by simp[-List.map_drop,I0],by simp⟩
theorem ZnS {ls:List Lt}{i:Nat}{x:Lt}(hs:(ls.map Lt.num).Pairwise (·<·))(hx:ls[i]?=some x):dJ (ls.map Lt.num) x.num=i:=by
 obtain⟨hl,he⟩:=bZ.1 hx;have hm:(ls.map Lt.num)[i]?=some x.num:=by rw[bR,hx];rfl
 obtain⟨qW,he2⟩:=bZ.1 hm;refine Yb hs (by rw[fQ];omega) (fun k y hk hy=>?_) (fun y hy=>by rw[hm]at hy;cases hy;exact Int.le_refl _);obtain⟨MK,he3⟩:=bZ.1 hy
 have:=R0.1 hs k i MK qW hk
 rw[he2,he3]at this;exact this
theorem Zkn {b a r:Int}:eD b a r=1\/eD b a r=2\/eD b a r=3:=by
 unfold eD;split
 .exact .inl rfl
 .split
  .exact .inr (.inl rfl)
  .exact .inr (.inr rfl)
theorem ZpJ {rs:List Bool}(h:(cY rs).2.2=0):(cY rs).1=1\/(cY rs).1=2\/(cY rs).1=3:=by
 unfold cY at *;split at h
 .rename_i h1;rw[if_pos h1];exact .inr (.inr rfl)
 .rename_i h1;rw[if_neg h1];split at h
  .rename_i h2;rw[if_pos h2];split at h
   .rename_i h3;rw[if_pos h3];exact .inr (.inr rfl)
   .rename_i h3;rw[if_neg h3];split at h
    .cases h
    .rename_i h4;rw[if_neg h4];exact Zkn
  .rename_i h2;rw[if_neg h2];split at h
   .cases h
   .rename_i h3;rw[if_neg h3];exact Zkn
theorem Yc {S:Int->Int->Bool}{G:Tt->Bool}{num:Int}:∀{l:List Tt} {rs:List Bool},lC rs->(tA S G num l rs).1=1\/(tA S G num l rs).1=2\/(tA S G num l rs).1=3
 |[],rs,_=>.inr (.inr rfl)
 |t::l,rs,h=>by
  rw[Zht];split
  .split
   .rename_i h3;exact Yc ((h.step _).2 h3)
   .exact ZpJ (h.step _).1
  .exact Yc h
attribute [local irreducible] Bk.rV fK Bk.contra Bk.held Bk.span Bk.nums Bk.iS Bk.rA stM oY tA
theorem ZsK {q:Nat}(w:Wk)(hI:sG q w)(hq:q<=100)(hJ:AR w)(n:Int):aD prog 48 [w.pv,.i n] (sJ w ((jK (cW w.aA w.bad w.aG) w.aJ n).map fun l=>{ w with aJ:=l })):=by
 have zL:=hI.l;have D6:=Zr w (by omega) n;have jL:w.pv=.agg [.aE false 7 (w.aA.map Ct.pv),.aE false 1 (w.bad.map iP),.aE false 4 (w.aJ.map Lt.pv),.aE false 4 (w.aG.map Tt.pv),.aE false 3 (w.runs.map Qn.Rq.pv)]:=rfl;refine cF [.loc 44 0] L48 ?_;obtain⟨V,hV⟩:∃V,V=sJ w ((jK (cW w.aA w.bad w.aG) w.aJ n).map fun l=>{ w with aJ:=l }):=⟨_,rfl⟩;rw[<-hV];generalize hR:(fun(r:AV) (B:List (Site×aL))=>r=.pv V/\B=[])=R;rw[jL]at D6 ⊢;simp[L48];refine cG [_,_] D6 ?_;rcases c7 (n:=n) (l:=w.aJ) (k:=0)with⟨mP,hf⟩|⟨i,x,hx,UM,hf⟩
 .have hv:V=.bM [w.pv,.i 7]:=by
   rw[hV];unfold jK;split
   .rename_i y hy;rw[if_neg (mP y (dL hy))];rfl
   .rfl
  rw[jL]at hv;subst hv;simp[hf];rw[<-hR];exact⟨by simp,by simp⟩
 rw[rT]at hf;subst UM;have yI:=(bZ.1 hx).1;have hg:(w.aJ.map Lt.pv)[i]?=some (.agg [.i x.num,.i x.pieces,.i x.limit,.bool x.passed]):=by rw[bR,hx];rfl
 have h0:¬(i:Int)<0:=by omega
 have hpm:jK (cW w.aA w.bad w.aG) w.aJ x.num=if x.passed=true then .error 6 else if cW w.aA w.bad w.aG x=3 then .error 8 else if cW w.aA w.bad w.aG x=1 then .ok (w.aJ.set i { x with passed:=true })else .error 11:=by
  unfold jK;rw[ZnS hI.s hx,hx];dsimp only;rw[if_pos rfl]
 rw[hpm]at hV;have qK:=ZmW w hI hq hJ.nc x;have Rz:(tA (stM w.aA w.bad) (oY w.aA w.bad x.limit) x.num w.aG []).1=cW w.aA w.bad w.aG x:=Lr;have Dg:=Yc (S:=stM w.aA w.bad) (G:=oY w.aA w.bad x.limit) (num:=x.num) (l:=w.aG) ZkE;rw[Rz]at qK Dg;rw[jL,show x.pv=.agg [.i x.num,.i x.pieces,.i x.limit,.bool x.passed] from rfl]at qK;generalize cW w.aA w.bad w.aG x=v at *;generalize(tA (stM w.aA w.bad) (oY w.aA w.bad x.limit) x.num w.aG []).2=many at qK;cases hp:x.passed with
 |true=>
  rw[if_pos hp]at hV;have hv:V=.bM [w.pv,.i 6]:=hV;rw[jL]at hv;subst hv;rw[hp]at hg;simp[hf,h0,↓hg,aP];rw[<-hR];exact⟨by simp,by simp⟩
 |false=>
 rw[if_neg (by rw[hp];decide)]at hV;rw[hp]at hg qK;simp[hf,h0,↓hg,aP];refine cG [_,_] qK ?_;rcases Dg with rfl|rfl|rfl
 .have hv:V=.bM [.agg [.aE false 7 (w.aA.map Ct.pv),.aE false 1 (w.bad.map iP),.aE false 4 ((w.aJ.set i { x with passed:=true }).map Lt.pv),.aE false 4 (w.aG.map Tt.pv),.aE false 3 (w.runs.map Qn.Rq.pv)],.i 0]:=hV;have Tn:w.aJ.length<=1000000:=by omega
  have Z3:(w.aJ.map Lt.pv).take w.aJ.length=w.aJ.map Lt.pv:=fH (by simp);rw[List.map_set]at hv;subst hv;simp[yI,↓hg,cO,aP,Tn];rw[<-hR,fH (by simp)];exact⟨rfl,rfl⟩
 .have hv:V=.bM [w.pv,.i 11]:=hV;rw[jL]at hv;subst hv;simp[hf,h0,yI,↓hg,cO,aP];rw[<-hR];exact⟨by simp,by simp⟩
 .have hv:V=.bM [w.pv,.i 8]:=hV;rw[jL]at hv;subst hv;simp[aP];rw[<-hR];exact⟨by simp,by simp⟩
end
section
attribute [local irreducible] Bk.rV fK Bk.contra Bk.held Bk.span Bk.nums Bk.iS Bk.rA stM oY tA
def pO:AV:=.pv (.emp (some true))
def KY (w:Wk)(q:Tt)(i c j:Nat):AS:=⟨[(1,.pv (.aE false 1 [.i q.fU,.i q.item,.i q.day,.i q.rd])),(2,.ptr (.loc 2 0) 0),(4,.ptr (.loc 4 0) 0),(6,.pv (.i (i:Int))),(9,.pv (.i (c:Int))),(10,.pv (.i (j:Int)))],
 [(.loc 2 0,.cells w.cells),(.loc 4 0,.cells [pO,pO,pO,pO,pO])]⟩
def tnJ (w:Wk)(q:Tt):AS:=⟨[(4,.ptr (.loc 4 0) 0),(12,.ptr (.loc 12 0) 0),(112,.vec (.loc 112 0) 4 0 w.aG.length),(114,.vec (.loc 114 0) 4 0 1)],
 [(.loc 114 0,.arr 70 4 [.agg [.i q.fU,.i q.item,.i q.day,.i q.rd]]),(.loc 112 0,.arr 70 4 (w.aG.map Tt.pv)),(.loc 12 0,.cells w.cells),(.loc 4 0,.cells [pO,pO,pO,pO,pO])]⟩
theorem ZmZ {k0:Nat}(w:Wk)(hI:sG k0 w)(hq:k0<=100)(hJ:AR w)(q:Tt):aD prog 47 [w.pv,.aE false 1 [.i q.fU,.i q.item,.i q.day,.i q.rd]] (sJ w ((kP (stM w.aA w.bad) (cW w.aA w.bad w.aG) w.aJ w.aG q).map fun l=>{ w with aG:=l })):=by
 have zL:=hI.l;have mI:=hI.t;have gS:=hI.c;have xJ:=hI.b;have D6:=Zr w (by omega) q.fU;have i1:=rH q.item 2 5;have i2:=rH q.day 0 1000;have i3:=rH q.rd 0 2000;have jL:w.pv=.agg [.aE false 7 (w.aA.map Ct.pv),.aE false 1 (w.bad.map iP),.aE false 4 (w.aJ.map Lt.pv),.aE false 4 (w.aG.map Tt.pv),.aE false 3 (w.runs.map Qn.Rq.pv)]:=rfl;refine cF [.loc 115 0] L47 ?_;obtain⟨V,hV⟩:∃V,V=sJ w ((kP (stM w.aA w.bad) (cW w.aA w.bad w.aG) w.aJ w.aG q).map fun l=>{ w with aG:=l }):=⟨_,rfl⟩;rw[<-hV];generalize hR:(fun(r:AV) (B:List (Site×aL))=>r=.pv V/\B=[])=R;have gD:¬((decide (2<=q.item)&&decide (q.item<=5))=true/\(decide (0<=q.day)&&decide (q.day<=1000))=true/\(decide (0<=q.rd)&&decide (q.rd<=2000))=true)->V=.bM [w.pv,.i 2]:=fun h=>by
  rw[hV];unfold kP;rw[if_neg h];rfl
 rw[jL]at D6 gD ⊢;simp[L47];refine cG [_,_,_] i1 ?_;generalize tV:(decide (2<=q.item)&&decide (q.item<=5))=d1 at *;cases d1
 .have hv:=gD (by simp);subst hv;simp;rw[<-hR];exact⟨by simp,by simp⟩
 simp;refine cG [_,_,_] i2 ?_;generalize wG:(decide (0<=q.day)&&decide (q.day<=1000))=d2 at *;cases d2
 .have hv:=gD (by simp);subst hv;simp;rw[<-hR];exact⟨by simp,by simp⟩
 simp;refine cG [_,_,_] i3 ?_;generalize U5:(decide (0<=q.rd)&&decide (q.rd<=2000))=d3 at *;cases d3
 .have hv:=gD (by simp);subst hv;simp;rw[<-hR];exact⟨by simp,by simp⟩
 clear gD;have QQ:2<=q.item/\q.item<=5:=by rw[dK,decide_eq_true_eq,decide_eq_true_eq]at tV;exact tV
 have G9:0<=q.day/\q.day<=1000:=by rw[dK,decide_eq_true_eq,decide_eq_true_eq]at wG;exact wG
 unfold kP at hV;rw[tV,wG,U5,if_pos ⟨rfl,rfl,rfl⟩]at hV;simp;refine cG [_,_] D6 ?_;rcases c7 (n:=q.fU) (l:=w.aJ) (k:=0)with⟨mP,hf⟩|⟨i,x,hx,UM,hf⟩
 .have hv:V=.bM [w.pv,.i 7]:=by
   rw[hV];split
   .rename_i y hy;rw[if_neg (mP y (dL hy))];rfl
   .rfl
  rw[jL]at hv;subst hv;simp[hf];rw[<-hR];exact⟨by simp,by simp⟩
 rw[rT]at hf;rw[<-UM,ZnS hI.s hx,hx]at hV;dsimp only at hV;rw[if_pos rfl]at hV;have yI:=(bZ.1 hx).1;have hg:(w.aJ.map Lt.pv)[i]?=some (.agg [.i x.num,.i x.pieces,.i x.limit,.bool x.passed]):=by rw[bR,hx];rfl
 have h0:¬(i:Int)<0:=by omega
 have qK:=ZmW w hI hq hJ.nc x;have Rz:(tA (stM w.aA w.bad) (oY w.aA w.bad x.limit) x.num w.aG []).1=cW w.aA w.bad w.aG x:=Lr;rw[Rz]at qK;rw[jL,show x.pv=.agg [.i x.num,.i x.pieces,.i x.limit,.bool x.passed] from rfl]at qK;generalize cW w.aA w.bad w.aG x=v at *;generalize(tA (stM w.aA w.bad) (oY w.aA w.bad x.limit) x.num w.aG []).2=many at qK;simp[hf,h0,↓hg,aP];refine cG [_,_] qK ?_;by_cases bQ:v=3/\x.passed=false
 case neg=>
  have hv:V=.bM [w.pv,.i 8]:=by
   rw[hV];cases hp:x.passed with
   |true=>rfl
   |false=>rw[if_neg (by decide),if_neg (fun h=>bQ ⟨h,hp⟩)];rfl
  rw[jL]at hv;subst hv;by_cases h3:v=3
  .have hp:x.passed=true:=by
    cases hp:x.passed with
    |true=>rfl
    |false=>exact absurd ⟨h3,hp⟩ bQ
   rw[hp]at hg;simp[↓hg,aP,h3];rw[<-hR];exact⟨by simp,by simp⟩
  .simp[aP,h3];rw[<-hR];exact⟨by simp,by simp⟩
 obtain⟨rfl,hp⟩:=bQ;rw[hp,if_neg (by decide),if_pos rfl]at hV;rw[hp]at hg;simp[hf,h0,yI,↓hg,cO,aP];refine dY (fun m τ=>∃j:Nat,j<=w.aG.length/\m=w.aG.length-j/\τ=KY w q i (kS (w.aG.take j) q.fU) j) ⟨w.aG.length,KY w q i 0 0,Sub.mk (by simp) (by simp[pO,Wk.cells]),0,fT _,rfl,by simp[kS]⟩ ?_;rintro J hJ m τ ⟨j,hj,rfl,rfl⟩;by_cases aI:j<w.aG.length
 .obtain⟨t,MB⟩:∃t,w.aG[j]?=some t:=⟨w.aG[j],aX aI⟩;have Jv:(w.aG.map Tt.pv)[j]?=some (.agg [.i t.fU,.i t.item,.i t.day,.i t.rd]):=by rw[bR,MB];rfl
  have hw:=bA (k:=j) (by omega);have aH:w.aG.length-(j+1)<w.aG.length-j:=by omega
  have aB:=hJ _ _ ⟨j+1,aI,rfl,rfl⟩;have T8:=ZkP (ts:=w.aG.take j) (n:=q.fU);rw[gI]at T8;have ZW:=bA (k:=kS (w.aG.take j) q.fU) (by omega);rw[ZgC MB]at aB;clear hJ;generalize kS (w.aG.take j) q.fU=c at *;by_cases lG:t.fU=q.fU
  .rw[if_pos lG]at aB;simp[KY,pO,Wk.cells,aI,↓Jv,aP,hw,ZW,lG];exact⟨_,_,aH,Sub.mk (by simp) (by simp[pO,Wk.cells]),aB⟩
  .rw[if_neg lG]at aB;simp[KY,pO,Wk.cells,aI,↓Jv,aP,hw,lG];exact⟨_,_,aH,Sub.mk (by simp[KY]) (by simp[KY,pO,Wk.cells]),aB⟩
 have he:j=w.aG.length:=by omega
 subst he;rw[nC];clear hJ aI hj;rw[UM]at hV;generalize kS w.aG q.fU=c at *;by_cases FA:x.pieces<=(c:Int)
 .rw[if_neg (by omega)]at hV;have hv:V=.bM [w.pv,.i 3]:=hV;rw[jL]at hv;subst hv;simp[KY,pO,Wk.cells,↓hg,aP,FA];rw[<-hR];exact⟨by simp,by simp⟩
 rw[if_pos (by omega)]at hV;have wA:=Zh8 w hI.bk (by omega) (by omega) q.fU q.item q.day q.rd (by omega) QQ.2 G9.1 G9.2;rw[jL]at wA;simp[KY,pO,Wk.cells,↓hg,aP,FA];refine cG [_,_] wA ?_;cases hs:stM w.aA w.bad q.item q.day with
 |false=>
  rw[hs,if_neg (by decide)]at hV;have hv:V=.bM [w.pv,.i 10]:=hV;rw[jL]at hv;subst hv;simp;rw[<-hR];exact⟨by simp,by simp⟩
 |true=>
  rw[hs,if_pos rfl]at hV;have hv:V=.bM [.agg [.aE false 7 (w.aA.map Ct.pv),.aE false 1 (w.bad.map iP),.aE false 4 (w.aJ.map Lt.pv),.aE false 4 ((w.aG++[q]).map Tt.pv),.aE false 3 (w.runs.map Qn.Rq.pv)],.i 0]:=hV;rw[lI]at hv;have hm:(w.aG.map Tt.pv).take w.aG.length=w.aG.map Tt.pv:=fH (by simp);have HX:w.aG.length<=1000000:=by omega
  have VA:w.aG.length+1<=1000000:=by omega
  simp[aP];refine EC (fun τ=>τ=tnJ w q) ?_ ?_
  .simp[gN,gW,aP,HX]
   repeat' apply And.intro
   all_goals exact Sub.mk (by simp) (by simp[pO,Wk.cells])
  rintro τ rfl;subst hv;simp[tnJ,pO,Wk.cells,gN,gW,aP,VA];rw[<-hR];exact⟨by simp;exact fH (by simp),by simp⟩
end
section
attribute [local irreducible] Bk.rV fK Bk.contra Bk.held Bk.span Bk.nums Bk.iS Bk.rA stM oY tA Bk.fault
def Ct.row (x:Ct):List PV:=[.i x.num,.i x.it,.i x.src,.i x.day,.i x.valid,.i x.diff.lo,.i x.diff.hi]
def crJ (w:Wk)(x:Ct):AS:=⟨[(2,.ptr (.loc 2 0) 0),(4,.ptr (.loc 4 0) 0),(6,.ptr (.loc 6 0) 0),(18,.vec (.loc 18 0) 7 0 w.aA.length),(42,.vec (.loc 42 0) 7 0 1)],
 [(.loc 42 0,.arr 66 7 [.agg x.row]),(.loc 18 0,.arr 66 7 (w.aA.map Ct.pv)),(.loc 6 0,.cells w.cells),(.loc 4 0,.cells [pO,pO,pO,pO,pO]),(.loc 2 0,.cells w.cells)]⟩
theorem ZsT {k0:Nat}(w:Wk)(hI:sG k0 w)(hq:k0<=100)(x:Ct):aD prog 44 [w.pv,.aE false 1 x.row] (sJ w ((mB w.aA w.bad x).map fun l=>{ w with aA:=l })):=by
 have gS:=hI.c;have xJ:=hI.b;have N4:=Zku w (by omega) x.num;have IB:aD prog 78 [] (.aE false 4 JU):=Zkv;have jL:w.pv=.agg [.aE false 7 (w.aA.map Ct.pv),.aE false 1 (w.bad.map iP),.aE false 4 (w.aJ.map Lt.pv),.aE false 4 (w.aG.map Tt.pv),.aE false 3 (w.runs.map Qn.Rq.pv)]:=rfl;obtain⟨u,hu⟩:∃u:Wk,u={ w with aA:=w.aA++[x]}:=⟨_,rfl⟩;have Sb:u.aA=w.aA++[x]:=by rw[hu]
 have hub:u.bad=w.bad:=by rw[hu]
 have T5:u.aA.length<=1000:=by rw[Sb,gE];simp;omega
 have D6:=Zpu ⟨qS,u.aA⟩ (show qS.length<=1000 by decide) T5;have FB:=Zb u T5 (by rw[hub];omega);have mD:Bk.fault ⟨qS,u.aA⟩=0->aD prog 79 [(fB u.aA u.bad).pv] (.bool (fB u.aA u.bad).contra):=fun h=>Znc _ (GF (Bk.V7.1 h))
 have UP:u.pv=.agg [.aE false 7 (w.aA.map Ct.pv++[.agg x.row]),.aE false 1 (w.bad.map iP),.aE false 4 (w.aJ.map Lt.pv),.aE false 4 (w.aG.map Tt.pv),.aE false 3 (w.runs.map Qn.Rq.pv)]:=by
  rw[hu];show PV.agg [.aE false 7 ((w.aA++[x]).map Ct.pv),_,_,_,_]=_;rw[lI];rfl
 have hfp:Bk.pv ⟨qS,u.aA⟩=.agg [.aE false 4 JU,.aE false 7 (w.aA.map Ct.pv++[.agg x.row])]:=by
  rw[Sb];show PV.agg [_,.aE false 7 ((w.aA++[x]).map Ct.pv)]=_;rw[lI];rfl
 refine cF [.loc 43 0] L44 ?_;obtain⟨V,hV⟩:∃V,V=sJ w ((mB w.aA w.bad x).map fun l=>{ w with aA:=l }):=⟨_,rfl⟩;rw[<-hV];generalize hR:(fun(r:AV) (B:List (Site×aL))=>r=.pv V/\B=[])=R;unfold mB at hV;rw[jL]at N4 ⊢;simp[L44,Ct.row];refine cG [_,_] N4 ?_;cases mC:kn w x.num with
 |true=>
  have hv:V=.bM [w.pv,.i 6]:=by
   rw[hV,if_pos (show(w.aA.any fun y=>decide (y.num=x.num))=true from mC)];rfl
  rw[jL]at hv;subst hv;simp;rw[<-hR];exact⟨by simp,by simp⟩
 |false=>
 rw[if_neg (show ¬(w.aA.any fun y=>decide (y.num=x.num))=true by unfold kn at mC;rw[mC];decide),<-Sb,<-hub]at hV;have hm:(w.aA.map Ct.pv).take w.aA.length=w.aA.map Ct.pv:=fH (by simp);have HX:w.aA.length<=1000000:=by omega
 have VA:w.aA.length+1<=1000000:=by omega
 have mK:(w.aA.map Ct.pv++[PV.agg x.row]).take (w.aA.length+1)=w.aA.map Ct.pv++[PV.agg x.row]:=fH (by simp);rw[hfp]at D6;rw[UP]at FB;have Vu:(fB u.aA u.bad).pv=.agg [.aE false 4 JU,.aE false 7 ((fR u.aA u.bad).map Ct.pv)]:=rfl;rw[Vu]at FB mD;generalize(fR u.aA u.bad).map Ct.pv=GC at *;simp[aP];refine EC (fun τ=>τ=crJ w x) ?_ ?_
 .simp[gN,gW,aP,HX]
  repeat' apply And.intro
  all_goals exact Sub.mk (by simp) (by simp[pO,Wk.cells,Ct.row])
 rintro τ rfl;simp[crJ,pO,Wk.cells,gN,gW,aP,VA];refine cQ [.loc 43 0] [] IB ?_;simp[aM,mK];refine cG [_] D6 ?_;by_cases y9:Bk.fault ⟨qS,u.aA⟩=0
 case neg=>
  have hv:V=.bM [w.pv,.i (Bk.fault ⟨qS,u.aA⟩)]:=by rw[hV,if_neg y9];rfl
  rw[jL]at hv;subst hv;simp[y9];rw[<-hR];exact⟨by simp,by simp⟩
 have mD:=mD y9;rw[if_pos y9]at hV;simp[y9];refine .inl<|cQ [] [_] FB ?_;simp[aM];refine cG [_] mD ?_;have cU:=GF (bad:=u.bad) (Bk.V7.1 y9);cases b8:(fB u.aA u.bad).contra with
 |true=>
  have hv:V=.bM [w.pv,.i 9]:=by
   rw[hV,if_neg (fun h=>by rw[Zfb cU h]at b8;cases b8)];rfl
  rw[jL]at hv;subst hv;simp;rw[<-hR];exact⟨by simp,by simp⟩
 |false=>
  have hv:V=.bM [u.pv,.i 0]:=by
   rw[hV,Zsi cU b8,if_pos rfl,hu];rfl
  rw[UP]at hv;subst hv;simp;rw[<-hR];exact⟨by simp,by simp⟩
end
end Go.Proofs.YthmbecacehfgfaaGreatDoor
namespace Go.Proofs.YthmbecacehfgfaaGreatDoor.Qn
open Go.RowKit
open Go.Proofs.Tryz Go.Proofs.YthmbecacehfgfaaGreatDoor.Tryz
theorem Gq {w:List Int}{m:Nat}{x y:Int}(h:w[m]?=some x):(x::w.set m y).Perm (y::w):=by
 induction w generalizing m with
 |nil=>simp at h
 |cons a r ih=>
  cases m with
  |zero=>
   simp at h;subst h;simp only[List.set_cons_zero];exact List.Perm.swap y a r
  |succ m=>
   have h':r[m]?=some x:=by simpa using h
   simp only[List.set_cons_succ];exact(List.Perm.swap a x _).trans (((ih h').cons a).trans (List.Perm.swap y a r))
structure TM (q:Qu)(h:Int)(run:Nat)(ms:List Nat)(t:List Bool)(w:List Int)(g:GR):Prop where
 up:∀m:Nat,t[m]?=some true->g.1[m]?=some true
 same:∀m:Nat,t[m]?=some true->g.2.1[m]?=w[m]?
 yes:g.2.2=true->(-1::g.2.1).Perm ((run:Int)::w)
 no:g.2.2=false->g.2.1=w/\(∀m∈ms,g.1[m]?=some true)/\∀m:Nat,g.1[m]?=some true->t[m]?=some false->∃r:Nat,w[m]?=some (r:Int)/\∀m'∈q.F3 r h q.ms.length,g.1[m']?=some true
theorem Gr {t:List Bool}{m m':Nat}(h:t[m']?=some true):(t.set m true)[m']?=some true:=by
 by_cases e:m'=m
 .subst e;rw[O6 (bZ.1 h).1]
 .rw[List.getElem?_set_ne (fun e'=>e e'.symm)];exact h
theorem Zfq {t:List Bool}{m m':Nat}(h:t[m]?=some false)(h':t[m']?=some true):m≠m':=fun e=>by subst e;rw[h]at h';cases h'
theorem Zey {q:Qu}{h:Int}{rec:Nat->List Bool->List Int->GR}{n:Nat}
  (cU:∀run t w,run<q.rs.length->GW q t w->GW q (rec run t w).1 (rec run t w).2.1/\A2 (rec run t w).1<=A2 t)
  (nG:∀r t w,r<q.rs.length->GW q t w->A2 t<=n->TM q h r (q.F3 r h q.ms.length) t w (rec r t w)) {run:Nat} (hr:run<q.rs.length):
  ∀(l:List Nat),(∀m∈l,m<4)->∀(t:List Bool) (w:List Int),GW q t w->A2 t<=n+1->TM q h run l t w (nN rec run l t w)
 |[],_,t,w,_,_=>⟨fun _ h=>h,fun _ _=>rfl,fun h=>(by cases h),fun _=>⟨rfl,fun m hm=>(by cases hm),fun m h1 h2=>by rw[show(nN rec run [] t w).1=t from rfl,h2]at h1;cases h1⟩⟩
 |m::r,hl,t,w,hw,hu=>by
  obtain⟨b,x,h1,h2,h3⟩:=hw.at (hl m (by simp));have lH:∀m∈r,m<4:=fun m hm=>hl m (by simp[hm])
  unfold nN;rw[h1,h2];simp only[rS];cases b with
  |true=>
   rw[if_pos rfl];have S:=Zey cU nG hr r lH t w hw hu;exact⟨S.up,S.same,S.yes,fun h0=>⟨(S.no h0).1,fun m' Q3=>by
    rcases jQ.1 Q3 with e|e
    .subst e;exact S.up _ h1
    .exact(S.no h0).2.1 m' e,(S.no h0).2.2⟩⟩
  |false=>
   rw[if_neg (by simp)];have Ab:=Zmn h1;have uR:m<t.length:=(bZ.1 h1).1;have jN:(t.set m true)[m]?=some true:=O6 uR;split
   .rename_i hx;subst hx;exact⟨fun m' h'=>Gr h',fun m' h'=>by
     show(w.set m run)[m']?=_;rw[List.getElem?_set_ne (Zfq h1 h')],fun _=>Gq h2,fun h0=>by cases h0⟩
   .rename_i hx;obtain⟨i,rfl⟩:∃i:Nat,x=i:=⟨x.toNat,by rcases h3 with h3|h3;exact absurd h3 hx;omega⟩;have hi:i<q.rs.length:=by rcases h3 with h3|h3;exact absurd h3 hx;omega
    simp only[H7];have S:=nG i (t.set m true) w hi (hw.set m) (by omega);obtain⟨k1,k2⟩:=cU i (t.set m true) w hi (hw.set m);generalize rec i (t.set m true) w=g at *;obtain⟨t',w',b'⟩:=g;simp only at *;split
    .rename_i hb;subst hb;have C6:w'[m]?=some (i:Int):=(S.same m jN).trans h2;refine⟨fun m' h'=>S.up m' (Gr h'),fun m' h'=>?_,fun _=>?_,fun h0=>by cases h0⟩
     .show(w'.set m run)[m']?=_;rw[List.getElem?_set_ne (Zfq h1 h')];exact S.same m' (Gr h')
     .have p1:=Gq (y:=(run:Int)) C6;have p2:=S.yes rfl;show(-1::w'.set m run).Perm _;refine List.Perm.cons_inv (a:=(i:Int)) ?_;exact(List.Perm.swap _ _ _).trans ((p1.cons (-1)).trans ((List.Perm.swap _ _ _).trans ((p2.cons _).trans (List.Perm.swap _ _ _))))
    .rename_i hb;have nO:b'=false:=by cases b';rfl;exact absurd rfl hb
     subst nO;obtain⟨n1,n2,n3⟩:=S.no rfl;subst n1;have T:=Zey cU nG hr r lH t' w' k1 (by omega);refine⟨fun m' h'=>T.up m' (S.up m' (Gr h')),fun m' h'=>T.same m' (S.up m' (Gr h')),T.yes,fun h0=>?_⟩;obtain⟨o1,o2,o3⟩:=T.no h0;refine⟨o1,fun m' Q3=>?_,fun m' H4 uA=>?_⟩
     .rcases jQ.1 Q3 with e|e
      .subst e;exact T.up _ (S.up _ jN)
      .exact o2 m' e
     .have Q3:m'<t'.length:=by rw[k1.t4,<-hw.t4];exact(bZ.1 uA).1
      cases ht':t'[m']with
      |false=>exact o3 m' H4 (by rw[aX Q3,ht'])
      |true=>
       have ht2:t'[m']?=some true:=by rw[aX Q3,ht']
       by_cases e:m'=m
       .subst e;exact⟨i,h2,fun m2 mK=>T.up _ (n2 m2 mK)⟩
       .obtain⟨r0,e1,e2⟩:=n3 m' ht2 (by rw[List.getElem?_set_ne (fun e'=>e e'.symm)];exact uA);exact⟨r0,e1,fun m2 mK=>T.up _ (e2 m2 mK)⟩
theorem Zr8 {t:List Bool}(h:A2 t=0){m:Nat}(hm:m<t.length):t[m]?=some true:=by
 have:∀b∈t,b≠false:=fun b hb e=>by
  subst e
  have:=List.count_pos_iff.2 hb
  unfold A2 at h;omega
 have h2:=this t[m] (zX hm);rw[aX hm];cases hh:t[m]
 .rw[hh]at h2;exact absurd rfl h2
 .rfl
theorem ZgJ {q:Qu}(hq:q.ok)(h:Int):∀(n run:Nat) (t:List Bool) (w:List Int),run<q.rs.length->GW q t w->A2 t<=n->TM q h run (q.F3 run h q.ms.length) t w (q.AG h n run t w)
 |0,run,t,w,_,hw,hu=>⟨fun _ h=>h,fun _ _=>rfl,fun h=>(by cases h),fun _=>⟨rfl,fun m hm=>Zr8 (t:=t) (Nat.le_zero.1 hu) (by have:=Ls hq m hm;have:=hq.m;rw[hw.t4];omega),fun m h1 h2=>by rw[show(q.AG h 0 run t w).1=t from rfl,h2]at h1;cases h1⟩⟩
 |n+1,run,t,w,hr,hw,hu=>Zey (n:=n) (fun run t w hr hw=>Mu hq h n run t w hr hw) (fun r t w hr hw hu=>ZgJ hq h n r t w hr hw hu) hr _ (fun m hm=>by have:=Ls hq m hm;have:=hq.m;omega) t w hw hu
theorem WW {q:Qu}{i:Nat}{h:Int}{m:Nat}:m∈q.F3 i h q.ms.length↔m<q.ms.length/\q.may i m h=true:=by
 unfold Qu.F3;rw[fH (by simp)];simp[iY,List.mem_range]
structure Mt (q:Qu)(h:Int)(P:Nat->Prop)(j:Nat)(w:List Int):Prop where
 len:w.length=4
 ok:∀x∈w,x = -1\/0<=x
 on:∀m r:Nat,w[m]?=some (r:Int)->j<=m/\m<q.ms.length/\P r/\q.may r m h=true
 one:∀m m' r:Nat,w[m]?=some (r:Int)->w[m']?=some (r:Int)->m=m'
def F6 (q:Qu)(h:Int)(w:List Int):Prop:=∀m r:Nat,w[m]?=some (r:Int)->m∈q.F3 r h q.ms.length
theorem F6.set {q:Qu}{h:Int}{w:List Int}(hw:F6 q h w){m run:Nat}(hm:m∈q.F3 run h q.ms.length):F6 q h (w.set m run):=by
 intro m' r e;rw[List.getElem?_set]at e;split at e
 .rename_i e1;split at e
  .have h1:(run:Int)=r:=by simpa using e
   have h2:run=r:=by omega
   subst h2;subst e1;exact hm
  .cases e
 .exact hw m' r e
theorem Zhv {q:Qu}{h:Int}{rec:Nat->List Bool->List Int->GR}(nG:∀r t w,F6 q h w->F6 q h (rec r t w).2.1){run:Nat}:∀(l:List Nat),(∀m∈l,m∈q.F3 run h q.ms.length)->∀(t:List Bool) (w:List Int),F6 q h w->F6 q h (nN rec run l t w).2.1
 |[],_,t,w,hw=>hw
 |m::r,hl,t,w,hw=>by
  have hm:=hl m (by simp);have lH:∀m∈r,m∈q.F3 run h q.ms.length:=fun m hm=>hl m (by simp[hm])
  unfold nN;split
  .exact Zhv nG r lH t w hw
  .split
   .exact hw.set hm
   .split
    .exact(nG _ _ _ hw).set hm
    .exact Zhv nG r lH _ _ (nG _ _ _ hw)
theorem Zk8 {q:Qu}{h:Int}:∀(n run:Nat) (t:List Bool) (w:List Int),F6 q h w->F6 q h (q.AG h n run t w).2.1
 |0,run,t,w,hw=>hw
 |n+1,run,t,w,hw=>Zhv (fun r t w hw=>Zk8 n r t w hw) _ (fun m hm=>hm) t w hw
theorem Ed {l:List Int}{x:Int}:l.count x<=1↔∀m m':Nat,l[m]?=some x->l[m']?=some x->m=m':=by
 induction l with
 |nil=>simp
 |cons a l ih=>
  rw[List.count_cons];constructor
  .intro hc m m' e e';have hl:∀k:Nat,l[k]?=some x->1<=l.count x:=fun k hk=>List.count_pos_iff.2 (dL hk)
   cases m with
   |zero=>
    cases m' with
    |zero=>rfl
    |succ m'=>
     have ha:a=x:=by simpa using e
     have h2:=hl m' (by simpa using e');rw[if_pos (by simp[ha])]at hc;omega
   |succ m=>
    cases m' with
    |zero=>
     have ha:a=x:=by simpa using e'
     have h2:=hl m (by simpa using e);rw[if_pos (by simp[ha])]at hc;omega
    |succ m'=>
     have:=ih.1 (by omega) m m' (by simpa using e) (by simpa using e')
     omega
  .intro hi;have h1:=ih.2 fun m m' e e'=>by have:=hi (m+1) (m'+1) (by simpa using e) (by simpa using e');omega
   by_cases ha:a=x
   .have:l.count x=0:=by
     rcases Nat.eq_zero_or_pos (l.count x)with h0|h0
     .exact h0
     .obtain⟨k,hk⟩:=iM.1 (List.count_pos_iff.1 h0)
      have:=hi 0 (k+1) (by simpa using ha) (by simpa using hk)
      omega
    rw[this];split<;>omega
   .rw[if_neg (by simpa using ha)];omega
theorem ZqF {A B:List Int}(hl:A.length=B.length)(h:∀m:Nat,A[m]?=some (-1)->B[m]?=some (-1)):A.count (-1)<=B.count (-1):=by
 induction A generalizing B with
 |nil=>simp
 |cons a A ih=>
  cases B with
  |nil=>simp at hl
  |cons b B=>
   have h1:=ih (B:=B) (by simpa using hl) fun m e=>by have:=h (m+1) (by simpa using e);simpa using this
   rw[List.count_cons,List.count_cons];by_cases ha:a = -1
   .have hb:b = -1:=by have:=h 0 (by simpa using ha);simpa using this
    rw[if_pos (by simp[ha]),if_pos (by simp[hb])];omega
   .rw[if_neg (by simpa using ha)];omega
theorem Mt.mono {q:Qu}{h:Int}{P P':Nat->Prop}{j:Nat}{w:List Int}(hw:Mt q h P j w)(hP:∀r,P r->P' r):Mt q h P' j w:=
 ⟨hw.len,hw.ok,fun m r e=>⟨(hw.on m r e).1,(hw.on m r e).2.1,hP _ (hw.on m r e).2.2.1,(hw.on m r e).2.2.2⟩,hw.one⟩
theorem Mt.down {q:Qu}{h:Int}{P:Nat->Prop}{j:Nat}{w:List Int}(hw:Mt q h P (j+1) w):Mt q h P j w:=
 ⟨hw.len,hw.ok,fun m r e=>⟨by have:=(hw.on m r e).1;omega,(hw.on m r e).2⟩,hw.one⟩
theorem Mt.next {q:Qu}{h:Int}{P:Nat->Prop}{j:Nat}{w:List Int}(hw:Mt q h P j w)(hj:w[j]?=some (-1)):Mt q h P (j+1) w:=
 ⟨hw.len,hw.ok,fun m r e=>⟨by
  have:=(hw.on m r e).1
  have cZ:m≠j:=fun e'=>by subst e';rw[hj]at e;have:=Option.some.inj e;omega
  omega,(hw.on m r e).2⟩,hw.one⟩
theorem Mt.cut {q:Qu}{h:Int}{P:Nat->Prop}{j:Nat}{w:List Int}(hw:Mt q h P j w){m run:Nat}(hm:w[m]?=some (run:Int)):Mt q h (fun r=>P r/\r≠run) j (w.set m (-1)):=by
 have key:∀m' r:Nat,(w.set m (-1))[m']?=some (r:Int)->w[m']?=some (r:Int)/\m'≠m:=fun m' r e=>by
  rw[List.getElem?_set]at e;split at e
  .split at e
   .have:=Option.some.inj e;omega
   .cases e
  .rename_i cZ;exact⟨e,fun e'=>cZ e'.symm⟩
 refine⟨by simpa using hw.len,fun x hx=>?_,fun m' r e=>?_,fun m1 m2 r e1 e2=>hw.one m1 m2 r (key m1 r e1).1 (key m2 r e2).1⟩
 .rcases List.mem_or_eq_of_mem_set hx with hx|hx
  .exact hw.ok x hx
  .exact .inl hx
 .obtain⟨e1,e2⟩:=key m' r e;obtain⟨o1,o2,o3,o4⟩:=hw.on m' r e1;exact⟨o1,o2,⟨o3,fun e'=>by subst e';exact e2 (hw.one _ _ _ e1 hm)⟩,o4⟩
theorem Mt.put {q:Qu}{h:Int}{P P':Nat->Prop}{i j:Nat}{w:List Int}(hw:Mt q h P i w){x:Nat}(QO:i<=j)(hj:j<q.ms.length)(hx:q.may x j h=true)(hP:P' x)(Vk:∀r,P r->P' r/\r≠x):Mt q h P' i (w.set j x):=by
 have key:∀m' r:Nat,(w.set j x)[m']?=some (r:Int)->(m'=j/\r=x)\/(m'≠j/\w[m']?=some (r:Int)):=fun m' r e=>by
  rw[List.getElem?_set]at e;split at e
  .rename_i e1;split at e
   .have:=Option.some.inj e;exact .inl ⟨e1.symm,by omega⟩
   .cases e
  .rename_i cZ;exact .inr ⟨fun e'=>cZ e'.symm,e⟩
 refine⟨by simpa using hw.len,fun y hy=>?_,fun m' r e=>?_,fun m1 m2 r e1 e2=>?_⟩
 .rcases List.mem_or_eq_of_mem_set hy with hy|hy
  .exact hw.ok y hy
  .right;omega
 .rcases key m' r e with⟨rfl,rfl⟩|⟨_,e⟩
  .exact⟨QO,hj,hP,hx⟩
  .obtain⟨o1,o2,o3,o4⟩:=hw.on m' r e;exact⟨o1,o2,(Vk r o3).1,o4⟩
 .rcases key m1 r e1 with⟨a1,b1⟩|⟨a1,b1⟩<;>rcases key m2 r e2 with⟨a2,b2⟩|⟨a2,b2⟩
  .omega
  .exact absurd b1 (Vk r (hw.on _ _ b2).2.2.1).2
  .exact absurd b2 (Vk r (hw.on _ _ b1).2.2.1).2
  .exact hw.one _ _ _ b1 b2
theorem Mt.idle {q:Qu}{h:Int}{P:Nat->Prop}{j:Nat}:Mt q h P j fA:=by
 have key:∀x∈fA,x = -1:=fun x hx=>by simpa[fA]using hx
 refine⟨rfl,fun x hx=>.inl (key x hx),fun m r e=>?_,fun m m' r e=>?_⟩
 all_goals
  have:=key _ (dL e)
  omega
theorem Mt.none {q:Qu}{h:Int}{P:Nat->Prop}{j:Nat}{w:List Int}(hw:Mt q h P j w)(hP:∀m r:Nat,P r->j<=m->m<q.ms.length->False):w.count (-1)=4:=by
 rw[<-hw.len,List.count_eq_length];intro x hx;rcases hw.ok x hx with h1|h1
 .exact h1.symm
 .obtain⟨m,hm⟩:=iM.1 hx;obtain⟨r,rfl⟩:∃r:Nat,x=r:=⟨x.toNat,by omega⟩
  have:=hw.on m r hm
  exact(hP m r this.2.2.1 this.1 this.2.1).elim
theorem Zou {w:List Int}{m run:Nat}(h:w[m]?=some (run:Int)):(w.set m (-1)).count (-1)=w.count (-1)+1:=by
 have p:=(Gq (y:=-1) h).count_eq (-1);rw[List.count_cons,List.count_cons]at p;simp only[beq_iff_eq,if_neg (by omega:¬(run:Int) = -1),if_true]at p;omega
theorem ZtT {w:List Int}{m run:Nat}(h:w[m]?=some (-1)):(w.set m run).count (-1)+1=w.count (-1):=by
 have p:=(Gq (y:=(run:Int)) h).count_eq (-1);rw[List.count_cons,List.count_cons]at p;simp only[beq_iff_eq,if_neg (by omega:¬(run:Int) = -1),if_true]at p;omega
def Pk (runs:List Int)(k r:Nat):Prop:=∃i:Nat,i<k/\runs[i]?=some (r:Int)
theorem Pk.next {runs:List Int}{k r:Nat}(h:Pk runs k r):Pk runs (k+1) r:=by
 obtain⟨i,h1,h2⟩:=h;exact⟨i,by omega,h2⟩
theorem Pk.split {runs:List Int}{k r run:Nat}(hx:runs[k]?=some (run:Int))(h:Pk runs (k+1) r)(cZ:r≠run):Pk runs k r:=by
 obtain⟨i,h1,h2⟩:=h;refine⟨i,?_,h2⟩
 have:i≠k:=fun e=>by subst e;rw[hx]at h2;have:=Option.some.inj h2;omega
 omega
def o9 (T:List Bool)(w M:List Int):List Int:=(List.range 4).map fun m=>if T[m]?=some true then(w[m]?).getD (-1)else(M[m]?).getD (-1)
theorem Gn {T:List Bool}{w M:List Int}(hw:w.length=4)(hM:M.length=4){m:Nat}{x:Int}(h:(o9 T w M)[m]?=some x):(T[m]?=some true/\w[m]?=some x)\/(T[m]?≠some true/\M[m]?=some x):=by
 have hm:m<4:=by have:=(bZ.1 h).1;simpa[o9]using this
 have h2:(if T[m]?=some true then(w[m]?).getD (-1)else(M[m]?).getD (-1))=x:=by
  simpa[o9,bR,List.getElem?_range hm]using h
 split at h2
 .rename_i ht;refine .inl ⟨ht,?_⟩;rw[aX (by omega)]at h2 ⊢;simpa using h2
 .rename_i ht;refine .inr ⟨ht,?_⟩;rw[aX (by omega)]at h2 ⊢;simpa using h2
theorem ZhQ {q:Qu}(hq:q.ok){h:Int}{runs:List Int}(gA:∀x∈runs,0<=x/\x<q.rs.length)(pW:∀i j r:Nat,runs[i]?=some (r:Int)->runs[j]?=some (r:Int)->i=j):∀k,k<=runs.length->
  Mt q h (Pk runs k) 0 (q.yN h runs k).2/\(q.yN h runs k).1+(q.yN h runs k).2.count (-1)=4/\∀M,Mt q h (Pk runs k) 0 M->(q.yN h runs k).2.count (-1)<=M.count (-1)
 |0,_=>⟨Mt.idle,(show 0+fA.count (-1)=4 by decide),fun M hM=>by
   rw[hM.none (fun m r hP _ _=>by obtain⟨i,hi,_⟩:=hP;omega)];exact(show fA.count (-1)<=4 by decide)⟩
 |k+1,hk=>by
  obtain⟨A,B,C⟩:=ZhQ hq (h:=h) gA pW k (by omega);have G:=(Qu.Zxu hq (h:=h) gA k (by omega)).1;have hx:runs[k]?=some runs[k]:=aX (by omega);have hr:=gA _ (dL hx);obtain⟨run,dF⟩:∃run:Nat,runs[k]=run:=⟨runs[k].toNat,by omega⟩;rw[dF]at hx hr;have kC:q.yN h runs (k+1)=((q.yN h runs k).1+(if(q.AG h 5 run o7 (q.yN h runs k).2).2.2=true then 1 else 0),(q.AG h 5 run o7 (q.yN h runs k).2).2.1):=by simp[Qu.yN,hx]
  have S:=ZgJ hq h 5 run o7 (q.yN h runs k).2 (by omega) G (by decide);have O:=(Mu hq h 5 run o7 (q.yN h runs k).2 (by omega) G).1;have On:=Zk8 (q:=q) (h:=h) 5 run o7 (q.yN h runs k).2 fun m r e=>WW.2 ⟨(A.on m r e).2.1,(A.on m r e).2.2.2⟩
  rw[kC];generalize q.yN h runs k=a at *;obtain⟨n,w⟩:=a;generalize q.AG h 5 run o7 (n,w).2=g at *;obtain⟨T,w',b⟩:=g;simp only at *;have yF:∀m:Nat,w[m]?=some (run:Int)->False:=fun m e=>by
   obtain⟨i,h1,h2⟩:=(A.on m run e).2.2.1
   have:=pW _ _ _ h2 hx
   omega
  cases b with
  |true=>
   have p:=S.yes rfl;have hc:w'.count (-1)+1=w.count (-1):=by
    have:=p.count_eq (-1)
    rw[List.count_cons,List.count_cons]at this;simp only[beq_iff_eq,if_neg (by omega:¬(run:Int) = -1),if_true]at this;omega
   refine⟨⟨O.w4,fun x rL=>by rcases O.ok x rL with h1|h1;exact .inl h1;exact .inr h1.1,fun m r e=>?_,fun m m' r e e'=>?_⟩,?_,fun M hM=>?_⟩
   .obtain⟨o1,o2⟩:=WW.1 (On m r e);refine⟨fT _,o1,?_,o2⟩;have gU:(r:Int)∈(run:Int)::w:=p.mem_iff.1 (List.mem_cons_of_mem _ (dL e));rcases jQ.1 gU with e1|e1
    .have:r=run:=by omega
     subst this;exact⟨k,by omega,hx⟩
    .obtain⟨m2,mK⟩:=iM.1 e1;exact(A.on m2 r mK).2.2.1.next
   .refine Ed.1 ?_ m m' e e';have hp:=p.count_eq (r:Int);rw[List.count_cons,List.count_cons]at hp;simp only[beq_iff_eq,if_neg (by omega:¬(-1:Int)=(r:Int))]at hp;by_cases Aj:r=run
    .subst Aj
     have:w.count (r:Int)=0:=List.count_eq_zero.2 fun gU=>by
      obtain⟨m2,mK⟩:=iM.1 gU;exact yF m2 mK
     rw[if_pos rfl]at hp;omega
    .have:=Ed.2 (fun m m' e e'=>A.one m m' r e e')
     rw[if_neg (by omega)]at hp;omega
   .rw[if_pos rfl];omega
   .by_cases hM1:∃m:Nat,M[m]?=some (run:Int)
    .obtain⟨m,hm⟩:=hM1;have h1:=C _ ((hM.cut hm).mono fun r wC=>Pk.split hx wC.1 wC.2);rw[Zou hm]at h1;omega
    .have h1:=C M ⟨hM.len,hM.ok,fun m r e=>⟨(hM.on m r e).1,(hM.on m r e).2.1,Pk.split hx (hM.on m r e).2.2.1 (fun e'=>hM1 ⟨m,by rw[<-e'];exact e⟩),(hM.on m r e).2.2.2⟩,hM.one⟩;omega
  |false=>
   obtain⟨n1,n2,n3⟩:=S.no rfl;subst n1;refine⟨A.mono fun r wC=>wC.next,by rw[if_neg (by simp)];exact B,fun M hM=>?_⟩;have hT:∀m:Nat,T[m]?=some true->∃r:Nat,w'[m]?=some (r:Int)/\∀m'∈q.F3 r h q.ms.length,T[m']?=some true:=fun m hm=>by
    have uR:m<4:=by rw[<-O.t4];exact(bZ.1 hm).1
    exact n3 m hm (by
     have:∀m:Nat,m<4->o7[m]?=some false:=by decide
     exact this m uR)
   have Tj:Mt q h (Pk runs k) 0 (o9 T w' M):=by
    refine⟨by simp[o9],fun x rL=>?_,fun m r e=>?_,fun m m' r e e'=>?_⟩
    .obtain⟨m,hm⟩:=iM.1 rL;rcases Gn A.len hM.len hm with⟨_,h1⟩|⟨_,h1⟩
     .exact A.ok _ (dL h1)
     .exact hM.ok _ (dL h1)
    .rcases Gn A.len hM.len e with⟨_,h1⟩|⟨ht,h1⟩
     .exact A.on m r h1
     .obtain⟨o1,o2,o3,o4⟩:=hM.on m r h1;exact⟨o1,o2,Pk.split hx o3 (fun e'=>by subst e';exact ht (n2 m (WW.2 ⟨o2,o4⟩))),o4⟩
    .have mP:∀m m':Nat,T[m]?=some true->w'[m]?=some (r:Int)->T[m']?≠some true->M[m']?=some (r:Int)->False:=fun m m' t1 h1 t2 h2=>by
      obtain⟨r0,e1,e2⟩:=hT m t1;rw[h1]at e1
      have:r=r0:=by have:=Option.some.inj e1;omega
      subst this;exact t2 (e2 m' (WW.2 ⟨(hM.on m' r h2).2.1,(hM.on m' r h2).2.2.2⟩))
     rcases Gn A.len hM.len e with⟨t1,h1⟩|⟨t1,h1⟩<;>rcases Gn A.len hM.len e' with⟨t2,h2⟩|⟨t2,h2⟩
     .exact A.one _ _ _ h1 h2
     .exact(mP _ _ t1 h1 t2 h2).elim
     .exact(mP _ _ t2 h2 t1 h1).elim
     .exact hM.one _ _ _ h1 h2
   refine lJ (C _ Tj) (ZqF (by rw[hM.len];simp[o9]) fun m e=>?_);rcases Gn A.len hM.len e with⟨t1,h1⟩|⟨t1,h1⟩
   .obtain⟨r,e1,_⟩:=hT m t1;rw[h1]at e1
    have:=Option.some.inj e1;omega
   .exact h1
theorem Pk.all {runs:List Int}{r:Nat}:Pk runs runs.length r↔(r:Int)∈runs:=
 ⟨fun⟨i,_,h⟩=>dL h,fun h=>by
  obtain⟨i,hi⟩:=iM.1 h;exact⟨i,(bZ.1 hi).1,hi⟩⟩
structure nK (q:Qu)(l:List Int):Prop where
 C4:∀x∈l,0<=x/\x<q.rs.length
 one:∀i j r:Nat,l[i]?=some (r:Int)->l[j]?=some (r:Int)->i=j
theorem ZrW {q:Qu}(hq:q.ok){h:Int}{l:List Int}(hl:nK q l){M:List Int}(hM:Mt q h (fun r=>(r:Int)∈l) 0 M):4<=q.DQ h l+M.count (-1):=by
 obtain⟨_,B,C⟩:=ZhQ hq (h:=h) hl.C4 hl.one l.length (fE _)
 have:=C M (hM.mono fun r hr=>Pk.all.2 hr)
 unfold Qu.DQ;omega
theorem ZrV {q:Qu}(hq:q.ok){h:Int}{l:List Int}(hl:nK q l):∃M,Mt q h (fun r=>(r:Int)∈l) 0 M/\q.DQ h l+M.count (-1)=4:=by
 obtain⟨A,B,_⟩:=ZhQ hq (h:=h) hl.C4 hl.one l.length (fE _);exact⟨_,A.mono fun r hr=>Pk.all.1 hr,B⟩
theorem nK.JS {q:Qu}{l:List Int}(h:q.rising l=true):nK q l:=by
 refine⟨Qu.Zw9 h,?_⟩;have hs:∀i:Nat,i+1<l.length->∀x y:Int,l[i]?=some x->l[i+1]?=some y->x<y:=fun i hi x y hx hy=>by
  simp only[Qu.rising,qZ,List.mem_range]at h
  have:=h (i+1) hi
  simp only[Qu.SJ,hx,hy,rS,dK,rR,decide_eq_true_eq,Nat.add_sub_cancel]at this;omega
 have hm:∀d i:Nat,∀x y:Int,l[i]?=some x->l[i+d+1]?=some y->x<y:=by
  intro d;induction d with
  |zero=>exact fun i x y hx hy=>hs i (bZ.1 hy).1 x y hx hy
  |succ d ih=>
    intro i x y hx hy;have hl:=(bZ.1 hy).1;have hz:l[i+d+1]?=some l[i+d+1]:=aX (by omega);have h1:=ih i x _ hx hz;have h2:=hs (i+d+1) (by omega) _ y hz (by rw[<-hy];congr 1);omega
 intro i j r hi hj;rcases Nat.lt_trichotomy i j with h1|h1|h1
 .obtain⟨d,rfl⟩:∃d,j=i+d+1:=⟨j-i-1,by omega⟩
  have:=hm d i _ _ hi hj
  omega
 .exact h1
 .obtain⟨d,rfl⟩:∃d,i=j+d+1:=⟨i-j-1,by omega⟩
  have:=hm d j _ _ hj hi
  omega
def xS (f:Nat->Bool)(k:Nat):List Int:=((List.range k).filter f).map Int.ofNat
theorem ZkN {f:Nat->Bool}{k:Nat}{x:Int}:x∈xS f k↔∃r:Nat,x=r/\r<k/\f r=true:=by
 unfold xS;rw[iL];constructor
 .rintro⟨r,h,rfl⟩;rw[iY,List.mem_range]at h;exact⟨r,rfl,h.1,h.2⟩
 .rintro⟨r,rfl,h1,h2⟩;exact⟨r,by rw[iY,List.mem_range];exact⟨h1,h2⟩,rfl⟩
theorem Zff {q:Qu}{f:Nat->Bool}:q.rising (xS f q.rs.length)=true:=by
 have hp:(xS f q.rs.length).Pairwise (·<·):=by
  unfold xS;rw[List.pairwise_map];exact(List.pairwise_lt_range.filter _).imp fun h=>by simpa using h
 unfold Qu.rising;rw[qZ];intro i hi;rw[List.mem_range]at hi;have hx:(xS f q.rs.length)[i]?=some (xS f q.rs.length)[i]:=aX hi;obtain⟨r,e,hr,_⟩:=ZkN.1 (zX hi);unfold Qu.SJ;rw[hx,rS];simp only[dK,rR,decide_eq_true_eq];refine⟨⟨by omega,by omega⟩,?_⟩;by_cases h0:i=0
 .exact .inl h0
 .right;have hy:(xS f q.rs.length)[i-1]?=some ((xS f q.rs.length)[i-1]'(by omega)):=aX (by omega);rw[hy,rS];exact R0.1 hp (i-1) i (by omega) hi (by omega)
abbrev Row (q:Qu)(h:Nat)(l:List Int):Prop:=Mt q h (fun r=>r<q.rs.length) 0 l
structure LP (q:Qu)(p:List (List Int)):Prop where
 rows:∀(h:Nat) (l:List Int),p[h]?=some l->Row q h l
 len:p.length<=40
theorem LP.pw {q:Qu}{p:List (List Int)}(hp:LP q p):PW q p:=by
 refine⟨fun l hl=>?_,fun l hl x hx=>?_,hp.len⟩
 .obtain⟨h,hh⟩:=iM.1 hl;exact(hp.rows h l hh).len
 .obtain⟨h,hh⟩:=iM.1 hl;have R:=hp.rows h l hh;rcases R.ok x hx with h1|h1
  .exact .inl h1
  .obtain⟨m,hm⟩:=iM.1 hx;obtain⟨r,rfl⟩:∃r:Nat,x=r:=⟨x.toNat,by omega⟩
   have:r<q.rs.length:=(R.on m r hm).2.2.1
   right;omega
theorem Gg {p:List (List Int)}{h m r:Nat}(hw:gJ p h m=(r:Int)):∃l,p[h]?=some l/\l[m]?=some (r:Int):=by
 unfold gJ at hw;cases h1:p[h]? with
 |none=>rw[h1]at hw;simp at hw
 |some l=>
  rw[h1]at hw;simp only[rS]at hw;refine⟨l,rfl,?_⟩;cases h2:l[m]? with
  |none=>rw[h2]at hw;simp at hw
  |some x=>rw[h2]at hw;simp at hw;rw[hw]
theorem Lp {p:List (List Int)}{h m:Nat}{l:List Int}{x:Int}(hl:p[h]?=some l)(hm:l[m]?=some x):gJ p h m=x:=by
 unfold gJ;rw[hl,rS,hm];rfl
theorem Zv {p:List (List Int)}{h m:Nat}{l:List Int}{x:Int}(hl:p[h]?=some l)(hm:m<l.length)(h' m':Nat):gJ (fZ p h m x) h' m'=if h'=h/\m'=m then x else gJ p h' m':=by
 have hh:=(bZ.1 hl).1;unfold gJ fZ;rw[hl,rS];by_cases e:h'=h
 .subst e;rw[O6 hh,rS,hl,rS];by_cases e2:m'=m
  .subst e2;rw[O6 hm,if_pos ⟨rfl,rfl⟩];rfl
  .rw[List.getElem?_set_ne (fun e'=>e2 e'.symm),if_neg (fun h=>e2 h.2)]
 .rw[List.getElem?_set_ne (fun e'=>e e'.symm),if_neg (fun h=>e h.1)]
theorem ZrC {p:List (List Int)}{r h:Nat}(ho:xE p r h = -1)(m:Nat):gJ p h m≠(r:Int):=fun hw=>by
 obtain⟨l,h1,h2⟩:=Gg hw;unfold xE HD at ho;rw[h1,rS]at ho;cases hf:l.findIdx? (fun x=>decide ((r:Int)=x))with
 |none=>
  rw[List.findIdx?_eq_none_iff]at hf
  have:=hf _ (dL h2)
  simp at this
 |some i=>rw[hf]at ho;simp only at ho;omega
theorem zF {q:Qu}{p:List (List Int)}{r:Nat}{x:Nd}:x∈nx q p (.ru r)↔∃h,h<p.length/\xE p r h = -1/\x=.rh r h:=by
 simp only[nx,WQ,W0,iL,iY,decide_eq_true_eq];rw[fH (by simp)];constructor
 .rintro⟨h,⟨h1,h2⟩,h3⟩;exact⟨h,by simpa using h1,h2,h3.symm⟩
 .rintro⟨h,h1,h2,h3⟩;exact⟨h,⟨by simpa using h1,h2⟩,h3.symm⟩
theorem vM {q:Qu}{p:List (List Int)}{r h:Nat}{x:Nd}:x∈nx q p (.rh r h)↔(∃m,m<q.ms.length/\q.may r m h=true/\gJ p h m≠(r:Int)/\x=.mh m h)\/(xE p r h≠-1/\x=.ru r):=by
 simp only[nx,JV,jJ,sE,iL,iY];constructor
 .rintro(⟨m,⟨h1,h2⟩,h3⟩|h1)
  .obtain⟨a,b⟩:=WW.1 h1;exact .inl ⟨m,a,b,by simpa using h2,h3.symm⟩
  .split at h1
   .cases h1
   .rename_i ho;exact .inr ⟨ho,by simpa using h1⟩
 .rintro(⟨m,h1,h2,h3,h4⟩|⟨h1,h2⟩)
  .exact .inl ⟨m,⟨WW.2 ⟨h1,h2⟩,by simpa using h3⟩,h4.symm⟩
  .right;rw[if_neg h1];simpa using h2
theorem K1 {q:Qu}{p:List (List Int)}{m h:Nat}{x:Nd}:x∈nx q p (.mh m h)↔x=.rh (gJ p h m).toNat h:=by simp[nx]
abbrev keys (bO:By):List Nd:=bO.map (·.1)
theorem ZpL {bO:By}{n:Nd}(h:(par bO n).isSome=true):n∈keys bO:=by
 unfold par at h;rw[Option.isSome_map,List.find?_isSome]at h;obtain⟨e,he,h2⟩:=h;simp only[decide_eq_true_eq]at h2;exact iL.2 ⟨e,he,h2.symm⟩
structure Grow (s s':By×List Nd):Prop where
 k:∀x∈keys s.1,x∈keys s'.1
 t:∀x∈s.2,x∈s'.2
 n:∀x∈keys s'.1,x∈keys s.1\/x∈s'.2
 i:∀(i:Nat) (e:Nd×Nd),s.1[i]?=some e->s'.1[i]?=some e
theorem Grow.refl (s:By×List Nd):Grow s s:=⟨fun _ h=>h,fun _ h=>h,fun _ h=>.inl h,fun _ _ h=>h⟩
theorem Grow.trans {s s' Iw:By×List Nd}(h:Grow s s')(h':Grow s' Iw):Grow s Iw:=
 ⟨fun x hx=>h'.k x (h.k x hx),fun x hx=>h'.t x (h.t x hx),fun x hx=>by
  rcases h'.n x hx with h1|h1
  .rcases h.n x h1 with h2|h2
   .exact .inl h2
   .exact .inr (h'.t x h2)
  .exact .inr h1,fun i e hi=>h'.i i e (h.i i e hi)⟩
def x8 (q:Qu)(p:List (List Int))(run:Nat)(bO:By):Prop:=∀(i:Nat) (e:Nd×Nd),bO[i]?=some e->(i=0/\e=(.ru run,.ru run))\/∃(j:Nat) (b:Nd),j<i/\bO[j]?=some (e.2,b)/\e.1∈nx q p e.2/\tK p e.2=false
theorem Zn6 {q:Qu}{p:List (List Int)}{run:Nat}{n x:Nd}{s:By×List Nd}(hc:x8 q p run s.1)(hn:∃(i:Nat) (b:Nd),s.1[i]?=some (n,b))(hx:x∈nx q p n)(hf:tK p n=false):Grow s (cJ n s x)/\x8 q p run (cJ n s x).1/\x∈keys (cJ n s x).1:=by
 unfold cJ;split
 .rename_i h1;exact⟨Grow.refl s,hc,ZpL h1⟩
 .have old:∀(j:Nat) (e:Nd×Nd),s.1[j]?=some e->(s.1++[(x,n)])[j]?=some e:=fun j e hj=>by
   rw[List.getElem?_append_left (bZ.1 hj).1];exact hj
  refine⟨⟨fun y hy=>?_,fun y hy=>by simp[hy],fun y hy=>?_,old⟩,fun i e hi=>?_,by simp[keys]⟩
  .simp only[keys,lI,sE];exact .inl hy
  .simp only[keys,lI,sE]at hy;rcases hy with hy|hy
   .exact .inl hy
   .simp at hy;subst hy;simp
  .rw[yS]at hi;split at hi
   .rcases hc i e hi with h1|⟨j,b,h1,h2,h3⟩
    .exact .inl h1
    .exact .inr ⟨j,b,h1,old j _ h2,h3⟩
   .rename_i hl;have h0:i-s.1.length=0:=by
     have:=(bZ.1 hi).1
     simp at this;omega
    rw[h0]at hi;simp at hi;subst hi;obtain⟨j,b,hj⟩:=hn;exact .inr ⟨j,b,by have:=(bZ.1 hj).1;omega,old j _ hj,hx,hf⟩
theorem ZfW {q:Qu}{p:List (List Int)}{run:Nat}{n:Nd}(hf:tK p n=false):∀(l:List Nd) {s:By×List Nd},x8 q p run s.1->(∃(i:Nat) (b:Nd),s.1[i]?=some (n,b))->(∀x∈l,x∈nx q p n)->Grow s (l.foldl (cJ n) s)/\x8 q p run (l.foldl (cJ n) s).1/\∀x∈l,x∈keys (l.foldl (cJ n) s).1
 |[],s,hc,_,_=>⟨Grow.refl s,hc,fun x hx=>by cases hx⟩
 |x::l,s,hc,hn,hl=>by
  obtain⟨g1,c1,k1⟩:=Zn6 hc hn (hl x (by simp)) hf;obtain⟨i,b,hi⟩:=hn;obtain⟨g2,c2,k2⟩:=ZfW hf l (s:=cJ n s x) c1 ⟨i,b,g1.i i _ hi⟩ (fun y hy=>hl y (by simp[hy]));rw[List.foldl_cons];exact⟨g1.trans g2,c2,fun y hy=>by
   rcases jQ.1 hy with e|e
   .subst e;exact g2.k _ k1
   .exact k2 y e⟩
structure BX (q:Qu)(p:List (List Int))(run:Nat)(s:By×List Nd):Prop where
 b:BW q p s
 c:x8 q p run s.1
 r:.ru run∈keys s.1
 cl:∀n∈keys s.1,n∈s.2\/(tK p n=false/\∀x∈nx q p n,x∈keys s.1)
theorem BX.start {q:Qu}{p:List (List Int)}{run:Nat}(hr:run<q.rs.length):BX q p run ([(.ru run,.ru run)],[.ru run]):=
 ⟨BW.start hr,fun i e hi=>by
  cases i with
  |zero=>simp at hi;subst hi;exact .inl ⟨rfl,rfl⟩
  |succ i=>simp at hi,by simp[keys],fun n hn=>by simp[keys]at hn;subst hn;left;simp⟩
theorem BX.step {q:Qu}(hq:q.ok){p:List (List Int)}(hp:PW q p){run:Nat}{bO:By}{n:Nd}{rest:List Nd}(h:BX q p run (bO,n::rest))(hf:tK p n=false):
  BX q p run ((nx q p n).foldl (cJ n) (bO,rest))/\((nx q p n).foldl (cJ n) (bO,rest)).2.length+bO.length=rest.length+((nx q p n).foldl (cJ n) (bO,rest)).1.length:=by
 obtain⟨i0,b0,G8⟩:=h.b.t n (by simp);have vL:=(h.b.b.ok _ (dL G8)).1;obtain⟨w1,_,w3,_⟩:=BW.Kw (nx q p n) h.b.tail ⟨i0,b0,G8⟩ (BJ hq hp vL hf);obtain⟨g,c,k⟩:=ZfW (run:=run) hf (nx q p n) (s:=(bO,rest)) h.c ⟨i0,b0,G8⟩ (fun x hx=>hx);refine⟨⟨w1,c,g.k _ h.r,fun x hx=>?_⟩,w3⟩;rcases g.n x hx with h1|h1
 .rcases h.cl x h1 with h2|⟨h2,h3⟩
  .rcases jQ.1 h2 with e|e
   .subst e;exact .inr ⟨hf,k⟩
   .exact .inl (g.t x e)
  .exact .inr ⟨h2,fun y hy=>g.k y (h3 y hy)⟩
 .exact .inl h1
theorem ZhM {q:Qu}(hq:q.ok){p:List (List Int)}(hp:PW q p){run:Nat}:∀(f:Nat) (bO:By) (todo:List Nd),BX q p run (bO,todo)->todo.length+407<f+bO.length->
  (∃(DK:By) (AY:List Nd) (n:Nd) (i:Nat) (b:Nd),BX q p run (DK,AY)/\DK[i]?=some (n,b)/\tK p n=true/\JD q p f bO todo=some (wQ DK DK.length n p))\/(JD q p f bO todo=none/\∃DK:By,BX q p run (DK,[]))
 |0,bO,todo,hB,hF=>by
  have:=hB.b.len hq hp
  simp only at this;omega
 |f+1,bO,[],hB,hF=>.inr ⟨rfl,bO,hB⟩
 |f+1,bO,n::rest,hB,hF=>by
  obtain⟨i0,b0,G8⟩:=hB.b.t n (by simp);rw[JD];by_cases hf:tK p n=true
  .rw[if_pos hf];exact .inl ⟨bO,n::rest,n,i0,b0,hB,G8,hf,rfl⟩
  .rw[if_neg hf];have CT:tK p n=false:=by simpa using hf
   obtain⟨h1,h2⟩:=hB.step hq hp CT;refine ZhM hq hp f _ _ h1 ?_;simp only[pA]at hF;omega
theorem ZjI {p:List (List Int)}{h:Nat}{l l':List Int}(hl:p[h]?=some l)(r:Nat):kM (p.set h l') r+l.count (r:Int)=kM p r+l'.count (r:Int):=by
 induction p generalizing h with
 |nil=>simp at hl
 |cons a p ih=>
  cases h with
  |zero=>simp at hl;subst hl;simp[kM];omega
  |succ h=>
   have h1:=ih (h:=h) (by simpa using hl);simp[kM]at h1 ⊢;omega
theorem WN {p:List (List Int)}{h m:Nat}{l:List Int}{x:Int}(hl:p[h]?=some l):fZ p h m x=p.set h (l.set m x):=by unfold fZ;rw[hl];rfl
theorem Mr {p:List (List Int)}{h m:Nat}{l:List Int}{x y:Int}(hl:p[h]?=some l)(hm:l[m]?=some y)(r:Nat):kM (fZ p h m x) r+(if y=(r:Int)then 1 else 0)=kM p r+(if x=(r:Int)then 1 else 0):=by
 have h1:=ZjI (l':=l.set m x) hl r;have h2:=(Gq (y:=x) hm).count_eq (r:Int);rw[List.count_cons,List.count_cons]at h2;rw[WN hl];simp only[beq_iff_eq]at h2;omega
theorem LP.setRow {q:Qu}{p:List (List Int)}(hp:LP q p){h:Nat}{l':List Int}(hl:h<p.length)(hr:Row q h l'):LP q (p.set h l'):=by
 refine⟨fun k l e=>?_,by simpa using hp.len⟩;rw[List.getElem?_set]at e;split at e
 .rename_i e1;subst e1;first
   |(cases e;exact hr)
   |(rw[if_pos hl]at e;cases e;exact hr)
 .exact hp.rows k l e
theorem Mt.Zx0 {q:Qu}{h:Int}{P:Nat->Prop}{j:Nat}{w:List Int}(hw:Mt q h P j w){r:Nat}(hr:∀m:Nat,w[m]?≠some (r:Int)):Mt q h (fun x=>P x/\x≠r) j w:=
 ⟨hw.len,hw.ok,fun m x e=>⟨(hw.on m x e).1,(hw.on m x e).2.1,⟨(hw.on m x e).2.2.1,fun e'=>hr m (e'▸e)⟩,(hw.on m x e).2.2.2⟩,hw.one⟩
theorem LP.cut {q:Qu}{p:List (List Int)}(hp:LP q p){h m r:Nat}(hw:gJ p h m=(r:Int)):LP q (fZ p h m (-1)):=by
 obtain⟨l,h1,h2⟩:=Gg hw;rw[WN h1];exact hp.setRow (bZ.1 h1).1 (((hp.rows h l h1).cut h2).mono fun _ h=>h.1)
theorem LP.put {q:Qu}{p:List (List Int)}(hp:LP q p){h m r:Nat}(hh:h<p.length)(hm:m<q.ms.length)(hr:r<q.rs.length)(hx:q.may r m h=true)(mP:∀m',gJ p h m'≠(r:Int)):LP q (fZ p h m r):=by
 have h1:p[h]?=some p[h]:=aX hh;rw[WN h1];refine hp.setRow hh (((hp.rows h _ h1).Zx0 (r:=r) fun m' e=>mP m' (Lp h1 e)).put (fT _) hm hx hr fun x hx=>⟨hx.1,hx.2⟩)
theorem LP.move {q:Qu}{p:List (List Int)}(hp:LP q p){h m m' r:Nat}(hw:gJ p h m'=(r:Int))(EW:m≠m')(hm:m<q.ms.length)(hx:q.may r m h=true):LP q (fZ (fZ p h m r) h m' (-1)):=by
 obtain⟨l,h1,h2⟩:=Gg hw;have hh:=(bZ.1 h1).1;have e:fZ (fZ p h m r) h m' (-1)=p.set h ((l.set m' (-1)).set m r):=by
  rw[WN h1,WN (l:=l.set m r) (by rw[O6 hh]),List.set_set,List.set_comm _ _ EW]
 rw[e];have R:=hp.rows h l h1;refine hp.setRow hh ((R.cut h2).put (fT _) hm hx (R.on m' r h2).2.2.1 fun x hx=>⟨hx.1,hx.2⟩)
def CurS (p:List (List Int))(cur:List (List Int)):Nd->Prop
 |.ru r=>∀x,kM cur x=kM p x+(if r=x then 1 else 0)
 |.mh m h=>gJ cur h m = -1/\∀x,kM cur x=kM p x
 |.rh _ _=>False
structure Cur (q:Qu)(p:List (List Int))(bO:By)(i:Nat)(n:Nd)(cur:List (List Int)):Prop where
 lp:LP q cur
 len:cur.length=p.length
 c1:∀h m,gJ cur h m=gJ p h m\/∃k b,i<=k/\bO[k]?=some (Nd.mh m h,b)
 c2:∀h m (r:Nat),gJ cur h m=(r:Int)->gJ p h m=(r:Int)\/∃k b,i<=k/\bO[k]?=some (Nd.rh r h,b)
 st:CurS p cur n
theorem Xz {bO:By}(hn:(bO.map (·.1)).Nodup){i k:Nat}{n b b':Nd}(hi:bO[i]?=some (n,b))(hk:bO[k]?=some (n,b')):i=k:=by
 refine(List.getElem?_inj (l:=bO.map (·.1)) ?_ hn).1 ?_
 .rw[fQ];exact(bZ.1 hi).1
 .rw[bR,bR,hi,hk];rfl
theorem Nk {bO:By}{f:Nat}{n b:Nd}{p:List (List Int)}(hp:par bO n=some b)(cZ:n≠b):wQ bO (f+1) n p=wQ bO f b (qO n b p):=by
 rw[wQ,hp];simp only;rw[if_neg cZ]
theorem ZqL {bO:By}{f:Nat}{n:Nd}{p:List (List Int)}(hp:par bO n=some n):wQ bO f n p=p:=by
 cases f with
 |zero=>rfl
 |succ f=>rw[wQ,hp];simp
theorem ZoA {q:Qu}(hq:q.ok){p:List (List Int)}(hp:LP q p){run:Nat}{bO:By}(hB:KR q p bO)(hC:x8 q p run bO):∀(i f:Nat) (n b:Nd) (cur:List (List Int)),bO[i]?=some (n,b)->i<=f->Cur q p bO i n cur->
  LP q (wQ bO f n cur)/\(wQ bO f n cur).length=p.length/\∀x,kM (wQ bO f n cur) x=kM p x+(if run=x then 1 else 0):=by
 intro i;induction i using Nat.strongRecOn with
 |_ i ih=>
  intro f n b cur hi hf hc;have lP:=Lm hB.nd hi;simp only at lP;cases n with
  |rh r h=>exact hc.st.elim
  |ru r=>
   rcases hC i _ hi with⟨h0,he⟩|⟨j,b1,hj,DC,iI,D4⟩
   .simp only[Prod.mk.injEq]at he;obtain⟨e1,e2⟩:=he;have e3:r=run:=by injection e1
    subst e3 e2;rw[ZqL lP];exact⟨hc.lp,hc.len,hc.st⟩
   .simp only at DC iI D4;obtain⟨h,rfl,ho⟩:∃h,b=.rh r h/\xE p r h≠-1:=by
     cases b with
     |ru r'=>obtain⟨_,_,_,e⟩:=zF.1 iI;cases e
     |mh m' h'=>cases K1.1 iI
     |rh r' h'=>
      rcases vM.1 iI with⟨_,_,_,_,e⟩|⟨e1,e2⟩
      .cases e
      .injection e2 with e3;subst e3;exact⟨h',rfl,e1⟩
    have M4:=Lm hB.nd DC;simp only at M4;rcases hC j _ DC with⟨_,he⟩|⟨j2,b2,CN,wH,rN,U3⟩
    .simp at he
    .simp only at wH rN U3;obtain⟨m,rfl,ZW⟩:∃m,b1=.mh m h/\gJ p h m=(r:Int):=by
      cases b1 with
      |ru r'=>obtain⟨h',_,e1,e2⟩:=zF.1 rN;injection e2 with e3 e4;subst e3 e4;exact absurd e1 ho
      |rh r' h'=>
       rcases vM.1 rN with⟨_,_,_,_,e⟩|⟨_,e⟩
       .cases e
       .cases e
      |mh m' h'=>
       have e:=K1.1 rN;injection e with e1 e2;subst e2;have h1:¬gJ p h m' = -1:=by simpa[tK]using U3
       have:=hp.pw.gJ h m'
       exact⟨m',rfl,by omega⟩
     obtain⟨f2,rfl⟩:∃f2,f=f2+1+1:=⟨f-2,by omega⟩;rw[Nk lP (by simp),Nk M4 (by simp)];have okm:=(hB.ok _ (dL wH)).1;have rP:gJ cur h m=(r:Int):=by
      rcases hc.c1 h m with h1|⟨k,b',iB,sD⟩
      .rw[h1];exact ZW
      .have:=Xz hB.nd wH sD;omega
     obtain⟨l,oX,qW⟩:=Gg rP;have T8:=(bZ.1 qW).1;have BZ:=Zv (x:=-1) oX T8;refine ih j2 (by omega) f2 _ b2 _ wH (by omega) ⟨hc.lp.cut rP,by rw[<-hc.len];exact OH,fun h' m'=>?_,fun h' m' r' e=>?_,?_,fun x=>?_⟩
     .show gJ (fZ cur h m (-1)) h' m'=_\/_;rw[BZ];split
      .rename_i e;obtain⟨rfl,rfl⟩:=e;exact .inr ⟨j2,b2,fE _,wH⟩
      .rcases hc.c1 h' m' with h1|⟨k,b',iB,sD⟩
       .exact .inl h1
       .exact .inr ⟨k,b',by omega,sD⟩
     .have e:gJ (fZ cur h m (-1)) h' m'=(r':Int):=e;rw[BZ]at e;split at e
      .omega
      .rcases hc.c2 h' m' r' e with h1|⟨k,b',iB,sD⟩
       .exact .inl h1
       .exact .inr ⟨k,b',by omega,sD⟩
     .show gJ (fZ cur h m (-1)) h m = -1;rw[BZ,if_pos ⟨rfl,rfl⟩]
     .show kM (fZ cur h m (-1)) x=kM p x;have h1:=Mr (x:=-1) oX qW x;have h2:kM cur x=kM p x+(if r=x then 1 else 0):=hc.st x;rw[if_neg (by omega:¬(-1:Int)=(x:Int))]at h1;by_cases e:r=x
      .rw[if_pos e]at h2;rw[if_pos (by omega)]at h1;omega
      .rw[if_neg e]at h2;rw[if_neg (by omega)]at h1;omega
  |mh m h=>
   obtain⟨Bi,DA⟩:gJ cur h m = -1/\∀x,kM cur x=kM p x:=hc.st;rcases hC i _ hi with⟨_,he⟩|⟨j,b1,hj,DC,iI,D4⟩
   .simp at he
   .simp only at DC iI D4;obtain⟨r,rfl,hmN,p9,Rx⟩:∃r,b=.rh r h/\m<q.ms.length/\q.may r m h=true/\gJ p h m≠(r:Int):=by
     cases b with
     |ru r'=>obtain⟨_,_,_,e⟩:=zF.1 iI;cases e
     |mh m' h'=>cases K1.1 iI
     |rh r' h'=>
      rcases vM.1 iI with⟨m',a1,a2,a3,e⟩|⟨_,e2⟩
      .injection e with e3 e4;subst e3 e4;exact⟨r',rfl,a1,a2,a3⟩
      .cases e2
    have Qf:r<q.rs.length/\h<p.length:=(hB.ok _ (dL DC)).1;have M4:=Lm hB.nd DC;simp only at M4;have hh:h<cur.length:=by rw[hc.len];exact Qf.2
    have oX:cur[h]?=some cur[h]:=aX hh;have R:=hc.lp.rows h _ oX;have uR:m<cur[h].length:=by rw[R.len];have:=hq.m;omega
    have qW:cur[h][m]?=some (-1):=by
     have e:cur[h][m]?=some cur[h][m]:=aX uR
     have:=Lp oX e
     rw[Bi]at this;rw[e,<-this]
    have BZ:=Zv (x:=(r:Int)) oX uR;have oB:∀m':Nat,gJ cur h m'=(r:Int)->gJ p h m'=(r:Int):=fun m' e=>by
     rcases hc.c2 h m' r e with h1|⟨k,b',iB,sD⟩
     .exact h1
     .have:=Xz hB.nd DC sD;omega
    rcases hC j _ DC with⟨_,he⟩|⟨j2,b2,CN,wH,rN,U3⟩
    .simp at he
    .simp only at wH rN U3;obtain⟨f2,rfl⟩:∃f2,f=f2+1+1:=⟨f-2,by omega⟩;rw[Nk lP (by simp),Nk M4 (by intro e;cases b1<;>cases e<;>(first|(obtain⟨_,_,_,e⟩:=zF.1 rN;cases e)|(rcases vM.1 rN with⟨_,_,_,_,e⟩|⟨_,e⟩<;>cases e)|skip))];cases b1 with
     |rh r' h'=>
      rcases vM.1 rN with⟨_,_,_,_,e⟩|⟨_,e⟩
      .cases e
      .cases e
     |ru r'=>
      obtain⟨h',_,e1,e2⟩:=zF.1 rN;injection e2 with e3 e4;subst e3 e4;have mP:∀m',gJ cur h m'≠(r:Int):=fun m' e=>ZrC e1 m' (oB m' e)
      refine ih j2 (by omega) f2 _ b2 _ wH (by omega) ⟨hc.lp.put hh hmN Qf.1 p9 mP,by rw[<-hc.len];exact OH,fun h' m'=>?_,fun h' m' r' e=>?_,fun x=>?_⟩
      .show gJ (fZ cur h m r) h' m'=_\/_;rw[BZ];split
       .rename_i e;obtain⟨rfl,rfl⟩:=e;exact .inr ⟨i,_,by omega,hi⟩
       .rcases hc.c1 h' m' with h1|⟨k,b',iB,sD⟩
        .exact .inl h1
        .exact .inr ⟨k,b',by omega,sD⟩
      .have e:gJ (fZ cur h m r) h' m'=(r':Int):=e;rw[BZ]at e;split at e
       .rename_i e';obtain⟨rfl,rfl⟩:=e'
        have:r=r':=by omega
        subst this;exact .inr ⟨j,_,by omega,DC⟩
       .rcases hc.c2 h' m' r' e with h1|⟨k,b',iB,sD⟩
        .exact .inl h1
        .exact .inr ⟨k,b',by omega,sD⟩
      .show kM (fZ cur h m r) x=_;have h1:=Mr (x:=(r:Int)) oX qW x;have h2:=DA x;rw[if_neg (by omega:¬(-1:Int)=(x:Int))]at h1;by_cases e:r=x
       .rw[if_pos e];rw[if_pos (by omega)]at h1;omega
       .rw[if_neg e];rw[if_neg (by omega)]at h1;omega
     |mh m' h'=>
      have e:=K1.1 rN;injection e with e1 e2;subst e2;have jL:gJ p h m'=(r:Int):=by
       have h1:¬gJ p h m' = -1:=by simpa[tK]using U3
       have:=hp.pw.gJ h m'
       omega
      have rP:gJ cur h m'=(r:Int):=by
       rcases hc.c1 h m' with h1|⟨k,b',iB,sD⟩
       .rw[h1];exact jL
       .have:=Xz hB.nd wH sD;omega
      have EW:m≠m':=fun e=>by subst e;exact Rx jL
      obtain⟨l,k1,k2⟩:=Gg rP;rw[oX]at k1;cases k1;have MK:(fZ cur h m r)[h]?=some (cur[h].set m r):=by rw[WN oX,O6 hh]
      have k3:(cur[h].set m (r:Int))[m']?=some (r:Int):=by rw[List.getElem?_set_ne EW];exact k2
      have PG:=Zv (x:=-1) MK (bZ.1 k3).1;refine ih j2 (by omega) f2 _ b2 _ wH (by omega) ⟨hc.lp.move rP EW hmN p9,by rw[<-hc.len];exact OH.trans OH,fun h' m2=>?_,fun h' m2 r' e=>?_,?_,fun x=>?_⟩
      .show gJ (fZ (fZ cur h m r) h m' (-1)) h' m2=_\/_;rw[PG];split
       .rename_i e;obtain⟨rfl,rfl⟩:=e;exact .inr ⟨j2,_,by omega,wH⟩
       .rw[BZ];split
        .rename_i e;obtain⟨rfl,rfl⟩:=e;exact .inr ⟨i,_,by omega,hi⟩
        .rcases hc.c1 h' m2 with h1|⟨k,b',iB,sD⟩
         .exact .inl h1
         .exact .inr ⟨k,b',by omega,sD⟩
      .have e:gJ (fZ (fZ cur h m r) h m' (-1)) h' m2=(r':Int):=e;rw[PG]at e;split at e
       .omega
       .rw[BZ]at e;split at e
        .rename_i e';obtain⟨rfl,rfl⟩:=e'
         have:r=r':=by omega
         subst this;exact .inr ⟨j,_,by omega,DC⟩
        .rcases hc.c2 h' m2 r' e with h1|⟨k,b',iB,sD⟩
         .exact .inl h1
         .exact .inr ⟨k,b',by omega,sD⟩
      .show gJ (fZ (fZ cur h m r) h m' (-1)) h m' = -1;rw[PG,if_pos ⟨rfl,rfl⟩]
      .show kM (fZ (fZ cur h m r) h m' (-1)) x=kM p x;have h1:=Mr (x:=(r:Int)) oX qW x;have h2:=DA x;have h3:=Mr (x:=-1) MK k3 x;rw[if_neg (by omega:¬(-1:Int)=(x:Int))]at h1 h3;omega
theorem ZlV {F:Nat}(hF:407<F){q:Qu}(hq:q.ok){p p':List (List Int)}(hp:LP q p){run:Nat}(hr:run<q.rs.length)(h:fS F q p run=some p'):LP q p'/\p'.length=p.length/\∀x,kM p' x=kM p x+(if run=x then 1 else 0):=by
 rcases ZhM hq hp.pw F _ _ (BX.start (q:=q) (p:=p) hr) (by simp;omega)with⟨DK,AY,n,i,b,hB,hi,hf,he⟩|⟨he,_⟩
 .unfold fS at h;rw[he]at h;cases h;have yI:=(bZ.1 hi).1;cases n with
  |ru r=>cases hf
  |rh r h=>cases hf
  |mh m h=>
   refine ZoA hq hp hB.b.b hB.c i DK.length _ b p hi (by omega) ⟨hp,rfl,fun _ _=>.inl rfl,fun _ _ _ e=>.inl e,by simpa[tK]using hf,fun _=>rfl⟩
 .unfold fS at h;rw[he]at h;cases h
theorem ZnI {l:List Nat}:∀{l':List Nat},l.Nodup->(∀x∈l,x∈l')->l.length<=l'.length:=by
 induction l with
 |nil=>exact fun _ _=>fT _
 |cons a l ih=>
  intro l' hn hs;rw[List.nodup_cons]at hn;have ha:=hs a (by simp);have h1:=ih (l':=l'.erase a) hn.2 fun x hx=>by
   have cZ:x≠a:=fun e=>hn.1 (e▸hx)
   exact(List.mem_erase_of_ne cZ).2 (hs x (by simp[hx]))
  rw[List.length_erase_of_mem ha]at h1
  have:=List.length_pos_of_mem ha
  rw[pA];omega
theorem ZnJ {l l':List Nat}{f:Nat->Nat}(hn:l.Nodup)(hi:∀x∈l,∀y∈l,f x=f y->x=y)(hs:∀x∈l,f x∈l'):l.length<=l'.length:=by
 have h1:(l.map f).Nodup:=by
  rw[DS,List.pairwise_map];refine List.Pairwise.imp_of_mem ?_ (DS.1 hn);exact fun{a b} ha hb cZ e=>cZ (hi a ha b hb e)
 have:=ZnI (l':=l') h1 (fun x hx=>by
  obtain⟨y,hy,rfl⟩:=iL.1 hx;exact hs y hy)
 simpa using this
theorem Znd (w:List Int):(List.range w.length).map (fun m=>(w[m]?).getD (-1))=w:=by
 apply List.ext_getElem?;intro i;rw[bR];by_cases hi:i<w.length
 .rw[List.getElem?_range hi,aX hi];simp[aX hi]
 .rw[List.getElem?_eq_none (by simp;omega),List.getElem?_eq_none (by omega)];rfl
theorem ZiJ (P:Int->Bool)(w:List Int):w.countP P=((List.range w.length).filter fun m=>P ((w[m]?).getD (-1))).length:=by
 conv=>lhs;rw[<-Znd w,List.countP_map,List.countP_eq_length_filter]
 rfl
def busy (x:Int):Bool:=decide (x≠-1)
theorem ZgO (w:List Int):w.count (-1)+w.countP busy=w.length:=by
 induction w with
 |nil=>rfl
 |cons a w ih=>
  rw[List.count_cons,List.countP_cons,pA];by_cases h:a = -1
  .simp[h,busy]at ih ⊢;omega
  .simp[h,busy]at ih ⊢;omega
def S8 (R:List Int)(l:List Int):Nat:=l.countP fun x=>R.contains x
def O0 (q:Qu)(bO:By):List Int:=xS (fun r=>decide (Nd.ru r∈keys bO)) q.rs.length
theorem Fq {q:Qu}{bO:By}{r:Nat}:(r:Int)∈O0 q bO↔r<q.rs.length/\Nd.ru r∈keys bO:=by
 unfold O0;rw[ZkN];constructor
 .rintro⟨x,e,h1,h2⟩
  have:r=x:=by omega
  subst this;exact⟨h1,by simpa using h2⟩
 .rintro⟨h1,h2⟩;exact⟨r,rfl,h1,by simpa using h2⟩
theorem Zpt {q:Qu}(hq:q.ok){p:List (List Int)}(hp:LP q p){run:Nat}{bO:By}(hB:BX q p run (bO,[])){h:Nat}{l:List Int}(hl:p[h]?=some l):q.DQ h (O0 q bO)<=S8 (O0 q bO) l:=by
 have hh:=(bZ.1 hl).1;have Rw:=hp.rows h l hl;have Aj:nK q (O0 q bO):=nK.JS Zff;obtain⟨M,hM,hM4⟩:=ZrV hq (h:=h) Aj;have gS:∀n∈keys bO,tK p n=false/\∀x∈nx q p n,x∈keys bO:=fun n hn=>by
  rcases hB.cl n hn with h1|h1
  .cases h1
  .exact h1
 have Qf:∀n∈keys bO,n.ok q p:=fun n hn=>by
  obtain⟨e,he,rfl⟩:=iL.1 hn;exact(hB.b.b.ok e he).1
 have fa:∀r:Nat,Nd.ru r∈keys bO->xE p r h = -1->Nd.rh r h∈keys bO:=fun r hr ho=>(gS _ hr).2 _ (zF.2 ⟨h,hh,ho,rfl⟩)
 have fb:∀r m:Nat,Nd.rh r h∈keys bO->m<q.ms.length->q.may r m h=true->gJ p h m≠(r:Int)->Nd.mh m h∈keys bO:=fun r m hr h1 h2 h3=>(gS _ hr).2 _ (vM.2 (.inl ⟨m,h1,h2,h3,rfl⟩))
 have fc:∀r:Nat,Nd.rh r h∈keys bO->xE p r h≠-1->Nd.ru r∈keys bO:=fun r hr h1=>(gS _ hr).2 _ (vM.2 (.inr ⟨h1,rfl⟩))
 have fd:∀m:Nat,Nd.mh m h∈keys bO->∃r:Nat,gJ p h m=(r:Int)/\Nd.rh r h∈keys bO/\(r:Int)∈O0 q bO:=fun m hm=>by
  obtain⟨f1,f2⟩:=gS _ hm;have h1:¬gJ p h m = -1:=by simpa[tK]using f1
  have h2:=hp.pw.gJ h m;obtain⟨r,hr⟩:∃r:Nat,gJ p h m=r:=⟨(gJ p h m).toNat,by omega⟩;have h3:=f2 _ (K1.2 rfl);rw[hr,H7]at h3;exact⟨r,hr,h3,Fq.2 ⟨by omega,fc r h3 fun ho=>ZrC ho m hr⟩⟩
 have hcM:=ZgO M;rw[hM.len]at hcM;have hA:q.DQ h (O0 q bO)=M.countP busy:=by omega
 rw[hA,S8,ZiJ,ZiJ,hM.len,Rw.len];have oP:∀m:Nat,m∈(List.range 4).filter (fun m=>busy ((M[m]?).getD (-1)))->∃r:Nat,M[m]?=some (r:Int)/\m<q.ms.length/\q.may r m h=true/\Nd.ru r∈keys bO/\r<q.rs.length:=fun m hm=>by
  rw[iY,List.mem_range]at hm;have uR:m<M.length:=by rw[hM.len];exact hm.1
  have e:M[m]?=some M[m]:=aX uR;have h1:M[m]≠-1:=by have:=hm.2;rw[e]at this;simpa[busy]using this
  have h2:=hM.ok _ (zX uR);obtain⟨r,hr⟩:∃r:Nat,M[m]=r:=⟨M[m].toNat,by omega⟩;rw[hr]at e;obtain⟨_,o2,o3,o4⟩:=hM.on m r e;obtain⟨o5,o6⟩:=Fq.1 o3;exact⟨r,e,o2,o4,o6,o5⟩
 have sO:∀r:Nat,Nd.ru r∈keys bO->Nd.rh r h∉keys bO->∃i:Nat,(xE p r h).toNat=i/\l[i]?=some (r:Int):=fun r h1 h2=>by
  have ho:xE p r h≠-1:=fun e=>h2 (fa r h1 e)
  unfold xE at ho ⊢;rw[hl,rS]at ho ⊢;rcases ZuF (l:=l) (v:=(r:Int))with e|⟨i,e1,_,e2⟩
  .exact absurd e ho
  .exact⟨i,by rw[e1,H7],e2⟩
 refine ZnJ (f:=fun m=>if Nd.rh ((M[m]?).getD (-1)).toNat h∈keys bO then m else(xE p ((M[m]?).getD (-1)).toNat h).toNat) (List.nodup_range.filter _) (fun m1 G7 m2 mK e=>?_) (fun m hm=>?_)
 .obtain⟨r1,a1,a2,a3,a4,_⟩:=oP m1 G7;obtain⟨r2,b1,b2,b3,b4,_⟩:=oP m2 mK;simp only[a1,b1,rS,H7]at e;have key:∀(m1 m2 r1 r2:Nat),M[m1]?=some (r1:Int)->m1<q.ms.length->q.may r1 m1 h=true->Nd.ru r2∈keys bO->Nd.rh r1 h∈keys bO->Nd.rh r2 h∉keys bO->m1=(xE p r2 h).toNat->False:=fun m1 m2 r1 r2 a1 a2 a3 b4 c1 c2 e=>by
   obtain⟨i,e1,e2⟩:=sO r2 b4 c2;rw[e1]at e;subst e;have hw:=Lp hl e2;by_cases Aj:r2=r1
   .subst Aj;exact c2 c1
   .have:=fb r1 m1 c1 a2 a3 (by rw[hw];omega)
    obtain⟨r3,d1,d2,_⟩:=fd m1 this;rw[hw]at d1
    have:r2=r3:=by omega
    subst this;exact c2 d2
  by_cases c1:Nd.rh r1 h∈keys bO<;>by_cases c2:Nd.rh r2 h∈keys bO
  .rw[if_pos c1,if_pos c2]at e;exact e
  .rw[if_pos c1,if_neg c2]at e;exact(key m1 m2 r1 r2 a1 a2 a3 b4 c1 c2 e).elim
  .rw[if_neg c1,if_pos c2]at e;exact(key m2 m1 r2 r1 b1 b2 b3 a4 c2 c1 e.symm).elim
  .rw[if_neg c1,if_neg c2]at e;obtain⟨i,e1,e2⟩:=sO r1 a4 c1;obtain⟨j,f1,f2⟩:=sO r2 b4 c2;rw[e1,f1]at e;subst e;rw[e2]at f2
   have:r1=r2:=by have:=Option.some.inj f2;omega
   subst this;exact hM.one _ _ _ a1 b1
 .obtain⟨r,a1,a2,a3,a4,a5⟩:=oP m hm;rw[iY,List.mem_range]at hm ⊢;simp only[a1,rS,H7];split
  .rename_i c1;refine⟨hm.1,?_⟩;have T8:m<l.length:=by rw[Rw.len];exact hm.1
   have e:l[m]?=some l[m]:=aX T8;have hw:=Lp hl e;rw[e,rS,<-hw,jF];by_cases ES:gJ p h m=(r:Int)
   .rw[ES];exact Fq.2 ⟨a5,a4⟩
   .obtain⟨r3,d1,_,d3⟩:=fd m (fb r m c1 a2 a3 ES);rw[d1];exact d3
  .rename_i c1;obtain⟨i,e1,e2⟩:=sO r a4 c1;rw[e1,e2,rS,jF];refine⟨by rw[<-Rw.len];exact(bZ.1 e2).1,Fq.2 ⟨a5,a4⟩⟩
def I9 (R:List Int)(p:List (List Int)):Nat:=(p.map (S8 R)).sum
theorem nK.nodup {q:Qu}{R:List Int}(h:nK q R):R.Nodup:=by
 rw[DS,R0];intro i j hi hj QO e;have hx:=h.C4 R[i] (zX hi);obtain⟨r,hr⟩:∃r:Nat,R[i]=r:=⟨R[i].toNat,by omega⟩
 have:=h.one i j r (by rw[aX hi,hr]) (by rw[aX hj,<-e,hr])
 omega
theorem Zqj {a:Int}{R:List Int}(ha:a∉R)(l:List Int):S8 (a::R) l=l.count a+S8 R l:=by
 unfold S8;induction l with
 |nil=>rfl
 |cons x l ih=>
  rw[List.countP_cons,List.countP_cons,List.count_cons,ih];by_cases e:x=a
  .subst e;have h1:R.contains x=false:=by
    rw[Bool.eq_false_iff];intro h;exact ha (jF.1 h)
   simp[ha];omega
  .have h1:(a::R).contains x=R.contains x:=by
    rw[List.contains_cons]
    have:(x==a)=false:=by simpa using e
    rw[this,Bool.false_or]
   have h2:(x==a)=false:=by simpa using e
   rw[h1,h2];simp only[Bool.false_eq_true,if_false];omega
theorem Ztx {R:List Int}(hn:R.Nodup)(l:List Int):S8 R l=(R.map fun x=>l.count x).sum:=by
 induction R with
 |nil=>unfold S8;simp
 |cons a R ih=>
  rw[List.nodup_cons]at hn;rw[Zqj hn.1,iQ,List.sum_cons,ih hn.2]
theorem Zmt (R:List Int)(f g:Int->Nat):(R.map fun x=>f x+g x).sum=(R.map f).sum+(R.map g).sum:=by
 induction R with
 |nil=>rfl
 |cons a R ih=>simp only[iQ,List.sum_cons,ih];omega
theorem Ge {R:List Int}(hn:R.Nodup)(h0:∀x∈R,0<=x):∀p:List (List Int),I9 R p=(R.map fun x=>kM p x.toNat).sum
 |[]=>by
  have:∀R:List Int,(R.map fun x=>kM [] x.toNat).sum=0:=fun R=>by
   induction R with
   |nil=>rfl
   |cons a R ih=>rw[iQ,List.sum_cons,ih];rfl
  rw[this];rfl
 |l::p=>by
  have h1:I9 R (l::p)=S8 R l+I9 R p:=by unfold I9;rw[iQ,List.sum_cons]
  have h2:(R.map fun x=>kM (l::p) x.toNat)=R.map fun x=>l.count x+kM p x.toNat:=by
   refine List.map_congr_left fun x hx=>?_
   have:=h0 x hx
   unfold kM;rw[iQ,List.sum_cons,Int.toNat_of_nonneg this]
  rw[h1,h2,Zmt,Ge hn h0 p,Ztx hn]
theorem Zks {q:Qu}{R:List Int}{p:List (List Int)}(h:∀(k:Nat) (l:List Int),p[k]?=some l->q.DQ k R<=S8 R l):∀k,k<=p.length->q.AH R k<=I9 R (p.take k)
 |0,_=>fT _
 |k+1,hk=>by
  have e:p[k]?=some p[k]:=aX (by omega);have h1:=Zks h k (by omega);have h2:=h k _ e;have h3:I9 R (p.take (k+1))=I9 R (p.take k)+S8 R p[k]:=by unfold I9;rw[OA e,lI,List.sum_append];simp
  show q.AH R k+q.DQ k R<=_;omega
theorem Zka {q:Qu}{R:List Int}{p:List (List Int)}(h:∀(k:Nat) (l:List Int),p[k]?=some l->S8 R l<=q.DQ k R):∀k,k<=p.length->I9 R (p.take k)<=q.AH R k
 |0,_=>by simp[I9]
 |k+1,hk=>by
  have e:p[k]?=some p[k]:=aX (by omega);have h1:=Zka h k (by omega);have h2:=h k _ e;have h3:I9 R (p.take (k+1))=I9 R (p.take k)+S8 R p[k]:=by unfold I9;rw[OA e,lI,List.sum_append];simp
  show _<=q.AH R k+q.DQ k R;omega
theorem LP.ZxJ {q:Qu}(hq:q.ok){p:List (List Int)}(hp:LP q p){R:List Int}(hR:nK q R):I9 R p<=q.AH R p.length:=by
 have:=Zka (q:=q) (R:=R) (p:=p) (fun k l hl=>by
  have Rw:=hp.rows k l hl;have hg:∀(m:Nat) (x:Int),(l.map fun x=>if R.contains x=true then x else -1)[m]?=some x->∃y,l[m]?=some y/\((R.contains y=true/\x=y)\/(R.contains y=false/\x = -1)):=fun m x e=>by
   rw[bR,eA]at e;obtain⟨y,h1,h2⟩:=e;refine⟨y,h1,?_⟩;split at h2
   .rename_i hc;exact .inl ⟨hc,h2.symm⟩
   .rename_i hc;exact .inr ⟨by simpa using hc,h2.symm⟩
  have hM:Mt q k (fun r=>(r:Int)∈R) 0 (l.map fun x=>if R.contains x=true then x else -1):=by
   refine⟨by simpa using Rw.len,fun x hx=>?_,fun m r e=>?_,fun m m' r e e'=>?_⟩
   .obtain⟨m,hm⟩:=iM.1 hx;obtain⟨y,h1,h2⟩:=hg m x hm;rcases h2 with⟨_,rfl⟩|⟨_,rfl⟩
    .exact Rw.ok _ (dL h1)
    .exact .inl rfl
   .obtain⟨y,h1,h2⟩:=hg m r e;rcases h2 with⟨h2,rfl⟩|⟨_,h2⟩
    .obtain⟨o1,o2,o3,o4⟩:=Rw.on m r h1;exact⟨o1,o2,jF.1 h2,o4⟩
    .omega
   .obtain⟨y,h1,h2⟩:=hg m r e;obtain⟨y',H4,uA⟩:=hg m' r e';rcases h2 with⟨_,rfl⟩|⟨_,h2⟩
    .rcases uA with⟨_,rfl⟩|⟨_,uA⟩
     .exact Rw.one _ _ _ h1 H4
     .omega
    .omega
  have h1:=ZrW hq hR hM;have h2:=ZgO (l.map fun x=>if R.contains x=true then x else -1);rw[hM.len,List.countP_map]at h2;have h3:l.countP (busy∘fun x=>if R.contains x=true then x else -1)=S8 R l:=by
   unfold S8;refine List.countP_congr fun x _=>?_
   simp only[Function.comp,busy];rw[decide_eq_true_eq];by_cases hc:R.contains x=true
   .have:=hR.C4 x (jF.1 hc)
    simp only[hc,iff_true,if_true];omega
   .simp only[hc];simp
  rw[h3]at h2
  omega) p.length (fE _)
 rwa [nC]at this
def xB (q:Qu)(p:List (List Int))(r:Nat):Prop:=∃R,q.rising R=true/\(r:Int)∈R/\q.AH R p.length<=I9 R p
theorem ZlW {F:Nat}(hF:407<F){q:Qu}(hq:q.ok){p:List (List Int)}(hp:LP q p){run:Nat}(hr:run<q.rs.length)(h:fS F q p run=none):xB q p run:=by
 rcases ZhM hq hp.pw F _ _ (BX.start (q:=q) (p:=p) hr) (by simp;omega)with⟨DK,AY,n,i,b,hB,hi,hf,he⟩|⟨_,DK,hB⟩
 .unfold fS at h;rw[he]at h;cases h
 .refine⟨O0 q DK,Zff,Fq.2 ⟨hr,hB.r⟩,?_⟩
  have:=Zks (fun k l hl=>Zpt hq hp hB hl) p.length (fE _)
  rwa [nC]at this
theorem Zo3 {R:List Int}(hn:R.Nodup)(h0:∀x∈R,0<=x){p p':List (List Int)}(h:∀x,kM p x<=kM p' x):I9 R p<=I9 R p':=by
 rw[Ge hn h0,Ge hn h0];clear hn h0;induction R with
 |nil=>exact fE _
 |cons a R ih=>simp only[iQ,List.sum_cons];have:=h a.toNat;omega
theorem xB.mono {q:Qu}{p p':List (List Int)}{r:Nat}(h:xB q p r)(hl:p'.length=p.length)(hc:∀x,kM p x<=kM p' x):xB q p' r:=by
 obtain⟨R,h1,h2,h3⟩:=h;have hR:=nK.JS h1;exact⟨R,h1,h2,by rw[hl];exact lJ h3 (Zo3 hR.nodup (fun x hx=>(hR.C4 x hx).1) hc)⟩
theorem Zf5 {F:Nat}(hF:407<F){q:Qu}(hq:q.ok):∀(l:List Nat) (p:List (List Int)),LP q p->(∀r∈l,r<q.rs.length)->
  LP q (fD F q p l).1/\(fD F q p l).1.length=p.length/\(∀x,kM (fD F q p l).1 x+(fD F q p l).2.count x=kM p x+l.count x)/\(∀x,kM p x<=kM (fD F q p l).1 x)/\(∀r∈(fD F q p l).2,r∈l/\xB q (fD F q p l).1 r)
 |[],p,hp,_=>⟨hp,rfl,fun _=>rfl,fun _=>fE _,fun r hr=>by cases hr⟩
 |r::l,p,hp,hl=>by
  have lH:∀x∈l,x<q.rs.length:=fun x hx=>hl x (by simp[hx])
  have hr:=hl r (by simp);unfold fD;cases hg:fS F q p r with
  |some p'=>
   obtain⟨g1,g2,g3⟩:=ZlV hF hq hp hr hg;obtain⟨k1,k2,k3,k4,k5⟩:=Zf5 hF hq l p' g1 lH;refine⟨k1,k2.trans g2,fun x=>?_,fun x=>lJ (by rw[g3];omega) (k4 x),fun y hy=>⟨by simp[(k5 y hy).1],(k5 y hy).2⟩⟩;simp only;rw[k3,g3,List.count_cons];by_cases e:r=x
   .simp[e];omega
   .simp[e]
  |none=>
   have bQ:=ZlW hF hq hp hr hg;obtain⟨k1,k2,k3,k4,k5⟩:=Zf5 hF hq l p hp lH;refine⟨k1,k2,fun x=>?_,k4,fun y hy=>?_⟩
   .simp only;rw[List.count_cons,List.count_cons,<-Nat.add_assoc,k3,Nat.add_assoc]
   .simp only at hy ⊢;rcases jQ.1 hy with e|e
    .subst e;exact⟨by simp,bQ.mono k2 k4⟩
    .exact⟨by simp[(k5 y e).1],(k5 y e).2⟩
def uN (q:Qu)(T:Nat):Prop:=∃R,q.rising R=true/\(q.AH R T:Int)<q.sF R
def TN (q:Qu)(p:List (List Int)):Prop:=∀x,x<q.rs.length->(kM p x:Int)=(q.run x).hours
theorem Zim {q:Qu}{R:List Int}(h0:∀x∈R,0<=x/\x<q.rs.length){f:Nat->Nat}(hf:∀x,x<q.rs.length->(f x:Int)=(q.run x).hours):q.sF R=((R.map fun x=>f x.toNat).sum:Nat):=by
 unfold Qu.sF;induction R with
 |nil=>rfl
 |cons a R ih=>
  rw[iQ,List.sum_cons,iQ,List.sum_cons,ih fun x hx=>h0 x (by simp[hx])];have ha:=h0 a (by simp);have h1:=hf a.toNat (by omega);have h2:q.tT a=(q.run a.toNat).hours:=by unfold Qu.tT Qu.run;cases q.rs[a.toNat]?<;>rfl
  rw[h2,<-h1];omega
theorem ZlE {q:Qu}{p:List (List Int)}{l:List Nat}{r:Nat}(hs:xB q p r)(hr:r∈l)(hc:∀x,x<q.rs.length->((kM p x+l.count x:Nat):Int)=(q.run x).hours):uN q p.length:=by
 obtain⟨R,h1,h2,h3⟩:=hs;have hR:=nK.JS h1;refine⟨R,h1,?_⟩;rw[Zim hR.C4 hc,Zmt R (fun x=>kM p x.toNat) (fun x=>l.count x.toNat),<-Ge hR.nodup fun x hx=>(hR.C4 x hx).1];have h4:1<=(R.map fun x=>l.count x.toNat).sum:=by
  clear h1 h3 hR hc;induction R with
  |nil=>cases h2
  |cons a R ih=>
   rw[iQ,List.sum_cons];rcases jQ.1 h2 with e|e
   .subst e
    have:1<=l.count r:=List.count_pos_iff.2 hr
    rw[H7];omega
   .have:=ih e;omega
 omega
theorem LP.nil {q:Qu}:LP q []:=⟨fun h l e=>by simp at e,by simp⟩
theorem LP.more {q:Qu}{p:List (List Int)}(hp:LP q p)(hl:p.length<40):LP q (p++[fA]):=by
 refine⟨fun h l e=>?_,by simp;omega⟩;rw[yS]at e;split at e
 .exact hp.rows h l e
 .have h0:h-p.length=0:=by
   have:=(bZ.1 e).1
   simp at this;omega
  rw[h0]at e;simp at e;subst e;exact Mt.idle
theorem ZqE {p:List (List Int)}{x:Nat}:kM (p++[fA]) x=kM p x:=by
 rw[Ma,ZtU]
 have:fA.count (x:Int)=0:=List.count_eq_zero.2 fun h=>by simp[fA]at h
 rw[this];rfl
theorem Zir {F:Nat}(hF:407<F){q:Qu}(hq:q.ok):∀(n:Nat) (p:List (List Int)) (l:List Nat),LP q p->(∀r∈l,r<q.rs.length)->(∀x,x<q.rs.length->((kM p x+l.count x:Nat):Int)=(q.run x).hours)->(∀r∈l,xB q p r)->(p.length=0\/uN q (p.length-1))->p.length+n=41->
  (∃p',tR F q n p l=some p'/\LP q p'/\TN q p'/\(p'.length=0\/uN q (p'.length-1)))\/(tR F q n p l=none/\uN q 40)
 |n,p,[],hp,_,hc,_,hL,_=>.inl ⟨p,by cases n<;>rfl,hp,fun x hx=>by have:=hc x hx;simpa using this,hL⟩
 |0,p,r::l,hp,_,_,_,_,hn=>by have:=hp.len;omega
 |n+1,p,r::l,hp,hl,hc,hs,hL,hn=>by
  have hk:=ZlE (hs r (by simp)) (by simp) hc;unfold tR;split
  .rename_i RN;rw[RN]at hk;exact .inr ⟨rfl,hk⟩
  .rename_i RN;have h1:=hp.len;obtain⟨k1,k2,k3,_,k5⟩:=Zf5 hF hq (r::l) _ (hp.more (by omega)) hl;have e:(p++[fA]).length=p.length+1:=by simp
   rw[e]at k2;refine Zir hF hq n _ _ k1 (fun x hx=>hl x (k5 x hx).1) (fun x hx=>?_) (fun x hx=>(k5 x hx).2) (.inr ?_) (by omega)
   .rw[k3,ZqE];exact hc x hx
   .rw[k2,Nat.add_sub_cancel];exact hk
theorem Ze6 {q:Qu}{x:Nat}:∀k,((List.range k).flatMap fun i=>List.replicate (q.run i).hours.toNat i).count x=if x<k then(q.run x).hours.toNat else 0
 |0=>rfl
 |k+1=>by
  rw[List.range_succ,List.flatMap_append,List.count_append,Ze6 k];simp only[List.flatMap_cons,List.flatMap_nil,wW,List.count_replicate];by_cases e:k=x
  .subst e;simp
  .have:(k==x)=false:=by simpa using e
   rw[this];by_cases h:x<k
   .have h':x<k+1:=by omega
    simp[h,h']
   .have h':¬x<k+1:=fun h'=>h (by omega)
    simp[h,h']
theorem BP {F:Nat}(hF:407<F){q:Qu}(hq:q.ok):(∃p,q.DW F=some p/\LP q p/\TN q p/\(p.length=0\/uN q (p.length-1)))\/(q.DW F=none/\uN q 40):=by
 refine Zir hF hq 41 [] q.JQ LP.nil oF (fun x hx=>?_) (fun r hr=>?_) (.inl rfl) rfl
 .have h1:q.JQ.count x=_:=Ze6 (q:=q) (x:=x) q.rs.length;rw[h1,if_pos hx];have h2:kM [] x=0:=rfl;have rL:q.rs[x]?=some q.rs[x]:=aX hx;have h3:=(hq.h _ (zX hx)).1;have h4:q.run x=q.rs[x]:=by unfold Qu.run;rw[rL];rfl
  rw[h2,h4];omega
 .have wC:=oF r hr;refine⟨[(r:Int)],?_,by simp,fT _⟩;simp[Qu.rising,Qu.SJ];omega
theorem uN.no {q:Qu}(hq:q.ok){p:List (List Int)}(hp:LP q p)(hd:TN q p):¬uN q p.length:=by
 rintro⟨R,h1,h2⟩;have hR:=nK.JS h1;have h3:=hp.ZxJ hq hR;rw[Ge hR.nodup fun x hx=>(hR.C4 x hx).1]at h3;rw[Zim hR.C4 hd]at h2;omega

def eZ (rec:Nat->List (List Int)):Nat->Nat->List (List Int)
 |0,_=>[]
 |f+1,k=>rec k++eZ rec f (k+1)
def uZ (n:Nat):Nat->List Int->Nat->List (List Int)
 |0,B,_=>[B]
 |m+1,B,next=>eZ (fun k=>uZ n m (B++[(k:Int)]) (k+1)) (n-next) next
def yO (n:Nat):List (List Int):=eZ (fun k=>uZ n k [] 0) n 1
def KP (n:Nat):Nat->List Int->Prop
 |_,[]=>True
 |next,y::s=>∃k:Nat,y=(k:Int)/\next<=k/\k<n/\KP n (k+1) s
theorem Zft {rec:Nat->List (List Int)}{x:List Int}:∀(f k:Nat),x∈eZ rec f k↔∃i,k<=i/\i<k+f/\x∈rec i
 |0,k=>by
  constructor
  .intro h;cases h
  .rintro⟨i,h1,h2,_⟩;omega
 |f+1,k=>by
  unfold eZ;rw[sE,Zft f (k+1)];constructor
  .rintro(h|⟨i,h1,h2,h3⟩)
   .exact⟨k,fE _,by omega,h⟩
   .exact⟨i,by omega,by omega,h3⟩
  .rintro⟨i,h1,h2,h3⟩;by_cases e:i=k
   .subst e;exact .inl h3
   .exact .inr ⟨i,by omega,by omega,h3⟩
theorem Nu {n:Nat}{x:List Int}:∀(m:Nat) (B:List Int) (next:Nat),x∈uZ n m B next↔∃s,x=B++s/\s.length=m/\KP n next s
 |0,B,next=>by
  show x∈[B]↔_;rw[rU];constructor
  .rintro rfl;exact⟨[],by simp,rfl,trivial⟩
  .rintro⟨s,h1,h2,_⟩;rw[List.length_eq_zero_iff.1 h2]at h1;simpa using h1
 |m+1,B,next=>by
  show x∈eZ _ _ _↔_;rw[Zft];constructor
  .rintro⟨k,h1,h2,h3⟩;obtain⟨s,e1,e2,e3⟩:=(Nu m _ _).1 h3;exact⟨(k:Int)::s,by rw[e1];simp,by simp[e2],k,rfl,h1,by omega,e3⟩
  .rintro⟨s,e1,e2,e3⟩;cases s with
   |nil=>cases e2
   |cons y s=>
    obtain⟨k,rfl,k1,k2,k3⟩:=e3;exact⟨k,k1,by omega,(Nu m _ _).2 ⟨s,by rw[e1];simp,by simpa using e2,k3⟩⟩
theorem KP.inc {n:Nat}:∀{next:Nat} {s:List Int},KP n next s->s.Pairwise (·<·)/\∀x∈s,(next:Int)<=x/\x<n
 |next,[],_=>⟨List.Pairwise.nil,fun x hx=>by cases hx⟩
 |next,y::s,⟨k,e,h1,h2,h3⟩=>by
  subst e;obtain⟨a,b⟩:=KP.inc h3;refine⟨H8.2 ⟨fun x hx=>by have:=b x hx;omega,a⟩,fun x hx=>?_⟩;rcases jQ.1 hx with e|e
  .subst e;omega
  .have:=b x e;omega
theorem KP.of {n:Nat}:∀{next:Nat} {s:List Int},s.Pairwise (·<·)->(∀x∈s,(next:Int)<=x/\x<n)->KP n next s
 |next,[],_,_=>trivial
 |next,y::s,h1,h2=>by
  rw[H8]at h1;have hy:=h2 y (by simp);refine⟨y.toNat,by omega,by omega,by omega,KP.of h1.2 fun x hx=>?_⟩
  have:=h1.1 x hx
  have:=h2 x (by simp[hx])
  omega
theorem Zm6 {q:Qu}{l:List Int}(hp:l.Pairwise (·<·))(gA:∀x∈l,0<=x/\x<q.rs.length):q.rising l=true:=by
 unfold Qu.rising;rw[qZ];intro i hi;rw[List.mem_range]at hi;have hx:l[i]?=some l[i]:=aX hi;have hr:=gA _ (zX hi);unfold Qu.SJ;rw[hx,rS];simp only[dK,rR,decide_eq_true_eq];refine⟨⟨by omega,by omega⟩,?_⟩;by_cases h0:i=0
 .exact .inl h0
 .right;have hy:l[i-1]?=some (l[i-1]'(by omega)):=aX (by omega);rw[hy,rS];exact R0.1 hp (i-1) i (by omega) hi (by omega)
theorem qG {q:Qu}{l:List Int}(h:q.rising l=true):l.Pairwise (·<·):=by
 have hs:∀i:Nat,i+1<l.length->∀x y:Int,l[i]?=some x->l[i+1]?=some y->x<y:=fun i hi x y hx hy=>by
  simp only[Qu.rising,qZ,List.mem_range]at h
  have:=h (i+1) hi
  simp only[Qu.SJ,hx,hy,rS,dK,rR,decide_eq_true_eq,Nat.add_sub_cancel]at this;omega
 have hm:∀d i:Nat,∀x y:Int,l[i]?=some x->l[i+d+1]?=some y->x<y:=by
  intro d;induction d with
  |zero=>exact fun i x y hx hy=>hs i (bZ.1 hy).1 x y hx hy
  |succ d ih=>
    intro i x y hx hy;have hl:=(bZ.1 hy).1;have hz:l[i+d+1]?=some l[i+d+1]:=aX (by omega);have h1:=ih i x _ hx hz;have h2:=hs (i+d+1) (by omega) _ y hz (by rw[<-hy];congr 1);omega
 rw[R0];intro i j hi hj QO;obtain⟨d,rfl⟩:∃d,j=i+d+1:=⟨j-i-1,by omega⟩;exact hm d i _ _ (aX hi) (aX hj)
theorem vR {q:Qu}{x:List Int}:x∈yO q.rs.length↔q.rising x=true/\x≠[]:=by
 unfold yO;rw[Zft];constructor
 .rintro⟨k,h1,_,h3⟩;obtain⟨s,e1,e2,e3⟩:=(Nu k _ _).1 h3;rw[List.nil_append]at e1;subst e1;obtain⟨a,b⟩:=e3.inc;exact⟨Zm6 a fun y hy=>by have:=b y hy;omega,fun e=>by subst e;simp at e2;omega⟩
 .rintro⟨h1,h2⟩;have hl:x.length<=q.rs.length:=by
   have hR:=nK.JS h1
   have:=oK q.rs.length (x.map Int.toNat) (by
    rw[DS,List.pairwise_map];refine List.Pairwise.imp_of_mem ?_ (qG h1);intro a b ha hb aI e
    have:=hR.C4 a ha
    have:=hR.C4 b hb
    omega) (fun y hy=>by
    obtain⟨z,hz,rfl⟩:=iL.1 hy
    have:=hR.C4 z hz
    omega)
   simpa using this
  have h0:0<x.length:=List.length_pos_iff.2 h2;exact⟨x.length,by omega,by omega,(Nu _ _ _).2 ⟨x,by simp,rfl,KP.of (qG h1) fun y hy=>by have:=(nK.JS h1).C4 y hy;omega⟩⟩
theorem Zex {rec:Nat->List (List Int)}:∀(f k:Nat),eZ rec (f+1) k=eZ rec f k++rec (k+f)
 |0,k=>by simp[eZ]
 |f+1,k=>by
  have ih:=Zex (rec:=rec) f (k+1);have e1:eZ rec (f+1+1) k=rec k++eZ rec (f+1) (k+1):=rfl;have e2:eZ rec (f+1) k=rec k++eZ rec f (k+1):=rfl;rw[e1,e2,ih,I0,show k+1+f=k+(f+1) by omega]
theorem ZfC {n:Nat}{rec:Nat->List (List Int)}(h:∀k,k<n->(rec k).length<=2^(n-(k+1))):∀(f k:Nat),k+f<=n->(eZ rec f k).length+2^(n-(k+f))<=2^(n-k)
 |0,k,_=>by simp[eZ]
 |f+1,k,hk=>by
  have ih:=ZfC h f (k+1) (by omega);have h1:=h k (by omega);have e1:eZ rec (f+1) k=rec k++eZ rec f (k+1):=rfl;rw[e1,gE];rw[show k+1+f=k+(f+1) by omega]at ih
  have:2^(n-k)=2^(n-(k+1))+2^(n-(k+1)):=by
   rw[show n-k=n-(k+1)+1 by omega,Nat.pow_succ];omega
  omega
theorem XB {n:Nat}:∀(m:Nat) (B:List Int) (next:Nat),next<=n->(uZ n m B next).length<=2^(n-next)
 |0,B,next,_=>Nat.one_le_two_pow
 |m+1,B,next,hx=>by
  have:=ZfC (n:=n) (rec:=fun k=>uZ n m (B++[(k:Int)]) (k+1)) (fun k hk=>XB m _ _ (by omega)) (n-next) next (by omega)
  exact lJ (Nat.le_add_right _ _) this
def Lc (q:Qu)(m:Nat):Prop:=∀(B:List Int) (next:Nat),B.length+m<=1000->next<=q.rs.length->cN prog 171 ([q.pv,bT B,.i next,.i m].map .pv) [] (fun r Bx=>r=.pv (eG (uZ q.rs.length m B next))/\Bx=[])
theorem Ztn (q:Qu):Lc q 0:=by
 intro B next hB _;refine cF [.loc 16 0] L171 ?_;have sS:B.length<=1000000:=by omega
 have htB:List.take B.length (List.map aN B)=List.map aN B:=fH (by simp);simp[L171,Qu.pv,bT,eG,uZ,aP,sS,htB]
def Jc (q:Qu)(m:Nat)(B:List Int)(k:Nat)(acc:List (List Int)):AS:=⟨[(1,.pv (bT B)),(3,.pv (.i (m+1:Nat))),(4,.ptr (.loc 4 0) 0),(9,.vec (.loc 38 0) 1 0 acc.length),(10,.pv (.i k))],[(.loc 38 0,.arr 26 1 (acc.map bT)),(.loc 4 0,.cells q.cells)]⟩
def lsJ (q:Qu)(m:Nat)(B:List Int)(k:Nat)(acc:List (List Int)):AS:=⟨[(25,.vec (.loc 38 0) 1 0 acc.length),(26,.pv q.pv),(32,.vec (.loc 32 0) 1 0 (B.length+1)),(34,.pv (.i (k+1:Nat))),(36,.pv (.i m)),(1,.pv (bT B)),(3,.pv (.i (m+1:Nat))),(4,.ptr (.loc 4 0) 0),(10,.pv (.i k))],
 [(.loc 32 0,.arr 3 1 ((B++[(k:Int)]).map aN)),(.loc 38 0,.arr 26 1 (acc.map bT)),(.loc 4 0,.cells q.cells)]⟩
theorem Ztm (q:Qu)(hr:q.rs.length<=6)(m:Nat)(ih:Lc q m):Lc q (m+1):=by
 intro B next hB eK;refine O1 [.loc 38 0] L171 ?_;intro R hR;have Jp:¬((m:Int)+1=0):=by omega
 have ZW:IntKind.i64.wrap (m:Int)=(m:Int):=wrap64 (by omega);have htB:List.take B.length (List.map aN B)=List.map aN B:=fH (by simp);simp[L171,Qu.pv,Jp];refine dY (fun n τ=>∃f:Nat,next+f<=q.rs.length/\n=q.rs.length-(next+f)/\τ=Jc q m B (next+f) (eZ (fun k=>uZ q.rs.length m (B++[(k:Int)]) (k+1)) f next))
  ⟨q.rs.length-(next+0),Jc q m B next [],Sub.trans' (Sub.mk (by simp[AS.cT]) (by simp[AS.cT,Qu.cells])) (cT 38 26 1 9 rfl (by decide)),0,by omega,rfl,rfl⟩ ?_
 rintro J hJ n τ ⟨f,hf,rfl,rfl⟩;obtain⟨k,hk⟩:∃k,next+f=k:=⟨_,rfl⟩;rw[hk];rw[hk]at hf;by_cases aI:k<q.rs.length
 .have aB:=hJ _ _ ⟨f+1,by omega,rfl,rfl⟩;rw[Zex,show next+(f+1)=k+1 by omega,hk]at aB;have hw:=jH (k:=k) (by omega);have aH:q.rs.length-(k+1)<q.rs.length-k:=by omega
  have hC:=ih (B++[(k:Int)]) (k+1) (by simp;omega) (by omega);have hlen:=XB (n:=q.rs.length) (m+1) B next eK;have tY:=ZfC (n:=q.rs.length) (rec:=fun k=>uZ q.rs.length m (B++[(k:Int)]) (k+1)) (fun k hk=>XB m _ _ (by omega)) f next (by omega);have hpow:2^(q.rs.length-next)<=2^6:=Nat.pow_le_pow_right (by decide) (by omega);have zL:=XB (n:=q.rs.length) m (B++[(k:Int)]) (k+1) (by omega);have hpow2:2^(q.rs.length-(k+1))<=2^6:=Nat.pow_le_pow_right (by decide) (by omega);have haccl:=lJ (Nat.le_add_right _ _) tY;clear hJ hlen ih tY;generalize uZ q.rs.length m (B++[(k:Int)]) (k+1)=new at *;generalize eZ (fun k=>uZ q.rs.length m (B++[(k:Int)]) (k+1)) f next=acc at *;have sS:B.length<=1000000:=by omega
  have pN:B.length+1<=1000000:=by omega
  have QX:B.length<=999999:=by omega
  have MW:acc.length+new.length<=1000000:=by omega
  simp[Jc,Qu.cells,aI,hw,ZW];refine FV (lsJ q m B k acc) ?_ ?_
  .simp[gN,gW,aP,sS,pN,bT]
   repeat' (with_reducible refine And.intro ?_ ?_)
   all_goals
    refine Sub.mk ?_ ?_
    .simp[bT,Qu.pv]
    .simp[aN,Qu.cells]
  .have hTT:List.take (B.length+1) ((B++[(k:Int)]).map aN)=(B++[(k:Int)]).map aN:=fH (by simp);have hTl:((B++[(k:Int)]).map aN).length=B.length+1:=by simp
   simp[-List.map_append,gN,gW,lsJ,Qu.cells];refine .inl (cP [.loc 32 0] [q.pv,bT (B++[(k:Int)]),.i (k+1:Nat),.i m] rfl ?_ hC ?_)
   .simp[-List.map_append,aM,bT,hTT]
   simp[-List.map_append,gN,gW,aM,eG,aP,MW,hw];refine⟨_,_,aH,Sub.mk ?_ ?_,aB⟩
   .simp
   .simp[Qu.cells]
 .have he:k=q.rs.length:=by omega
  have hf2:f=q.rs.length-next:=by omega
  subst hf2;clear hJ;have hV:uZ q.rs.length (m+1) B next=eZ (fun k=>uZ q.rs.length m (B++[(k:Int)]) (k+1)) (q.rs.length-next) next:=rfl;rw[hV]at hR;generalize eZ (fun k=>uZ q.rs.length m (B++[(k:Int)]) (k+1)) (q.rs.length-next) next=acc at *;have Sd:List.take acc.length (acc.map bT)=acc.map bT:=fH (by simp);rw[he];simp[Jc,Qu.cells,Sd];rw[<-hR];exact⟨rfl,rfl⟩
theorem ZnV (q:Qu)(hr:q.rs.length<=6):∀m,Lc q m
 |0=>Ztn q
 |m+1=>Ztm q hr m (ZnV q hr m)
theorem vT {n:Nat}(hn:n<=6):∀(f k:Nat),(eZ (fun k=>uZ n k [] 0) f k).length<=64*f
 |0,k=>fT _
 |f+1,k=>by
  have ih:=vT hn f (k+1);have h1:=lJ (XB (n:=n) k [] 0 (by omega)) (Nat.pow_le_pow_right (n:=2) (by decide) (show n-0<=6 by omega));have e1:eZ (fun k=>uZ n k [] 0) (f+1) k=uZ n k [] 0++eZ (fun k=>uZ n k [] 0) f (k+1):=rfl;rw[e1,gE];omega
def Kj (q:Qu)(k:Nat)(acc:List (List Int)):AS:=⟨[(1,.ptr (.loc 1 0) 0),(3,.vec (.loc 16 0) 1 0 acc.length),(4,.pv (.i k))],[(.loc 16 0,.arr 26 1 (acc.map bT)),(.loc 1 0,.cells q.cells)]⟩
theorem BD (q:Qu)(hr:q.rs.length<=6):cN prog 128 ([q.pv].map .pv) [] (fun r Bx=>r=.pv (eG (yO q.rs.length))/\Bx=[]):=by
 refine O1 [.loc 16 0] L128 ?_;intro R hR;simp[L128,Qu.pv];refine dY (fun n τ=>∃f:Nat,f<=q.rs.length/\n=q.rs.length-f/\τ=Kj q (1+f) (eZ (fun k=>uZ q.rs.length k [] 0) f 1))
  ⟨q.rs.length,Kj q 1 [],Sub.trans' (Sub.mk (by simp[AS.cT]) (by simp[AS.cT,Qu.cells])) (cT 16 26 1 3 rfl (by decide)),0,by omega,rfl,rfl⟩ ?_
 rintro J hJ n τ ⟨f,hf,rfl,rfl⟩;by_cases aI:f<q.rs.length
 .have aB:=hJ _ _ ⟨f+1,by omega,rfl,rfl⟩;rw[Zex]at aB;have hw:=jH (k:=1+f) (by omega);have aH:q.rs.length-(f+1)<q.rs.length-f:=by omega
  have hC:=ZnV q hr (1+f) [] 0 (by simp;omega) (by omega);have hC':cN prog 171 ([q.pv,.emp (some true),.i (0:Nat),.i (1+f:Nat)].map .pv) [] (fun r Bx=>r=.pv (eG (uZ q.rs.length (1+f) [] 0))/\Bx=[]):=hC.Ku rfl (fun j x y m v e1 e2 hd=>by
   match j with
   |0=>simp at e1 e2;subst e1 e2;exact hd
   |1=>simp at e1 e2;subst e1 e2;exact AM hd
   |2=>simp at e1 e2;subst e1 e2;exact hd
   |3=>simp at e1 e2;subst e1 e2;exact hd
   |j+4=>simp at e1)
  have tY:=vT (n:=q.rs.length) hr f 1;have zL:=lJ (XB (n:=q.rs.length) (1+f) [] 0 (by omega)) (Nat.pow_le_pow_right (n:=2) (by decide) (show q.rs.length-0<=6 by omega));clear hJ hC;have hle:(1:Int)+(f:Int)<=(q.rs.length:Int):=by omega
  have hle2:1+f<=q.rs.length:=by omega
  rw[show 1+(f+1)=1+f+1 by omega]at aB;generalize uZ q.rs.length (1+f) [] 0=new at *;generalize eZ (fun k=>uZ q.rs.length k [] 0) f 1=acc at *;have MW:acc.length+new.length<=1000000:=by omega
  simp[Kj,Qu.cells,hle];refine .inl (cP [] [q.pv,.emp (some true),.i (0:Nat),.i (1+f:Nat)] rfl ?_ hC' ?_)
  .simp[aM,Qu.pv]
  have HL:IntKind.i64.wrap ((1:Int)+(f:Int)+1)=((1+f+1:Nat):Int):=by rw[<-hw];congr 1
  simp[aM,eG,aP,MW,HL];refine⟨_,_,aH,Sub.mk ?_ ?_,aB⟩
  .simp
  .simp[Qu.cells]
 .have he:f=q.rs.length:=by omega
  subst he;clear hJ;have hV:yO q.rs.length=eZ (fun k=>uZ q.rs.length k [] 0) q.rs.length 1:=rfl;rw[hV]at hR;generalize eZ (fun k=>uZ q.rs.length k [] 0) q.rs.length 1=acc at *;have Sd:List.take acc.length (acc.map bT)=acc.map bT:=fH (by simp);have Jv:¬(1:Int)+(q.rs.length:Int)<=(q.rs.length:Int):=by omega
  simp[Kj,Qu.cells,Sd,Jv];rw[<-hR];exact⟨rfl,rfl⟩
def fJ (q:Qu)(h:Int)(l:List Int)(j:Nat)(rec:List Bool->Nat)(t:List Bool):Nat->Nat
 |0=>rec t
 |i+1=>if(t[((l[i]?).getD 0).toNat]?).getD true=true\/q.may ((l[i]?).getD 0).toNat j h=false then fJ q h l j rec t i else max (fJ q h l j rec t i) (1+rec (t.set ((l[i]?).getD 0).toNat true))
def Qu.tJ (q:Qu)(h:Int)(l:List Int):Nat->List Bool->Nat
 |0,_=>0
 |k+1,t=>fJ q h l (q.ms.length-(k+1)) (q.tJ h l k) t l.length
theorem Zho {q:Qu}{h:Int}{l:List Int}{j k:Nat}{rec:List Bool->Nat}{t:List Bool}(hr:∀t,rec t<=k):∀i,fJ q h l j rec t i<=k+1
 |0=>by have:=hr t;unfold fJ;omega
 |i+1=>by
  have h1:=Zho (q:=q) (h:=h) (l:=l) (j:=j) (t:=t) hr i;have h2:=hr (t.set ((l[i]?).getD 0).toNat true);unfold fJ
  split<;>omega
theorem Zhn {q:Qu}{h:Int}{l:List Int}:∀(k:Nat) (t:List Bool),q.tJ h l k t<=k
 |0,_=>fE _
 |k+1,t=>Zho (Zhn k) _
theorem ZiS {t:List Bool}{i:Nat}{b:Bool}:(t.map PV.bool).set i (.bool b)=(t.set i b).map PV.bool:=by rw[List.map_set]
def OK (q:Qu)(h:Int)(l:List Int)(k:Nat):Prop:=∀t:List Bool,t.length=q.rs.length->cN prog 172 [.pv q.pv,.pv (bT l),.pv (.i h),.pv (.i ((q.ms.length-k:Nat):Int)),.vec (.par 0) 1 0 q.rs.length] [(.par 0,.arr 4 1 (t.map PV.bool))] (fun r B=>r=.pv (.i (q.tJ h l k t))/\B=[(.par 0,.arr 4 1 (t.map PV.bool))])
def zH (q:Qu)(h:Int)(l:List Int)(j:Nat)(t:List Bool)(b i:Nat):AS:=⟨[(1,.pv (bT l)),(2,.pv (.i h)),(3,.pv (.i j)),(4,.vec (.par 0) 1 0 q.rs.length),(5,.ptr (.loc 5 0) 0),(11,.pv (.i b)),(12,.pv (.i i))],[(.par 0,.arr 4 1 (t.map PV.bool)),(.loc 5 0,.cells q.cells)]⟩
theorem Ll (q:Qu)(hq:q.ok)(h:Int)(l:List Int)(hl:l.length<=1000)(gA:∀x∈l,0<=x/\x<q.rs.length):∀k,k<=q.ms.length->OK q h l k
 |0,_=>fun t ht=>by
  refine cB [.par 0] L172 ?_;simp[L172,Qu.pv,Qu.tJ]
 |k+1,hk=>fun t ht=>by
  have ih:=Ll q hq h l hl gA k (by omega);have uR:=hq.m;have US:=hq.r;have sS:=Zhn (q:=q) (h:=h) (l:=l) k;have pN:=Zho (q:=q) (h:=h) (l:=l) (j:=q.ms.length-(k+1)) (t:=t) sS;have nW:q.tJ h l (k+1) t=fJ q h l (q.ms.length-(k+1)) (q.tJ h l k) t l.length:=rfl;rw[nW];unfold OK at ih;obtain⟨j,hj⟩:∃j,q.ms.length-(k+1)=j:=⟨_,rfl⟩;have CO:q.ms.length-k=j+1:=by omega
  rw[hj]at pN ⊢;rw[CO]at ih;generalize hR:q.tJ h l k=R at *;have hjm:¬(j:Int)=(q.ms.length:Int):=by omega
  have PH:=jH (k:=j) (by omega);refine cB [.par 0] L172 ?_;have hjm2:¬j=q.ms.length:=by omega
  have ih0:=ih t ht;simp[L172,Qu.pv,hjm,PH];refine xM (gF:=[.pv q.pv,.pv (bT l),.pv (.i h),.pv (.i ((j+1:Nat):Int)),.vec (.par 0) 1 0 q.rs.length]) (B:=[(.par 0,.arr 4 1 (t.map PV.bool))]) (fs:=[]) (cs:=[]) 24 [.par 0] ?_ rfl rfl ?_ ?_ ?_ ih0 ?_
  .rfl
  .simp
  .simp
  .simp[Qu.pv]
  rintro r0 B0 ⟨rfl,rfl⟩;refine⟨rfl,by simp,?_⟩;simp;refine dY (fun n τ=>∃i:Nat,i<=l.length/\n=l.length-i/\τ=zH q h l j t (fJ q h l j R t i) i)
   ⟨l.length,zH q h l j t (fJ q h l j R t 0) 0,Sub.mk (by simp[fJ]) (by simp[Qu.cells]),0,fT _,rfl,rfl⟩ ?_
  rintro J hJ n τ ⟨i,hi,rfl,rfl⟩;by_cases aI:i<l.length
  .obtain⟨x,hx⟩:∃x,l[i]?=some x:=⟨l[i],aX aI⟩;obtain⟨BV,Z1⟩:=gA x (dL hx);obtain⟨r,rfl⟩:∃r:Nat,x=r:=⟨x.toNat,by omega⟩;have p7:r<q.rs.length:=by omega
   have hg:(l.map aN)[i]?=some (.i r):=by rw[bR,hx];rfl
   have hw:=jH (k:=i) (by omega);have aH:l.length-(i+1)<l.length-i:=by omega
   have aB:=hJ _ _ ⟨i+1,aI,rfl,rfl⟩;obtain⟨b,hb⟩:∃b,t[r]?=some b:=⟨t[r],aX (by omega)⟩;have Q4:(t.map PV.bool)[r]?=some (.bool b):=by rw[bR,hb];rfl
   have p9:=Zuu q hq r j h p7 (by omega);have iI:fJ q h l j R t (i+1)=if b=true\/q.may r j h=false then fJ q h l j R t i else max (fJ q h l j R t i) (1+R (t.set r true)):=by
    rw[fJ,hx];simp only[rS,H7,hb]
   have hrt:r<t.length:=by omega
   rw[iI]at aB;have QX:=pN i;clear hJ iI nW;generalize fJ q h l j R t i=E at *;cases b with
   |true=>
    rw[if_pos (.inl rfl)]at aB;simp[zH,bT,aI,↓hg,↓Q4,hw,p7,cO];refine⟨_,_,aH,Sub.mk ?_ ?_,aB⟩
    .simp[bT]
    .simp[Qu.cells]
   |false=>
    simp[zH,bT,aI,↓hg,↓Q4,p7,Qu.cells,cO];refine cG [q.pv,.i r,.i j,.i h] p9 ?_;cases hc:q.may r j h with
    |false=>
     rw[if_pos (.inr hc)]at aB;simp[hw];refine⟨_,_,aH,Sub.mk ?_ ?_,aB⟩
     .simp[bT]
     .simp[Qu.cells]
    |true=>
     rw[if_neg (by rw[hc];simp)]at aB;have BS:=ih (t.set r true) (by simpa using ht);have Cn:t.set r false=t:=by
      apply List.ext_getElem?;intro j';by_cases e:j'=r
      .subst e;rw[O6 hrt,hb]
      .rw[List.getElem?_set_ne (fun e'=>e e'.symm)]
     have Uj:((t.set r true).map PV.bool)[r]?=some (.bool true):=by rw[bR,O6 hrt];rfl
     have MW:=sS (t.set r true);have pV:IntKind.i64.wrap (1+(R (t.set r true):Int))=((1+R (t.set r true):Nat):Int):=by rw[wrap64 (by omega)];omega
     simp[-List.map_set,↓hg,↓Q4,PH,p7,setAt,ZiS,cO];refine xM (gF:=[.pv q.pv,.pv (bT l),.pv (.i h),.pv (.i ((j+1:Nat):Int)),.vec (.par 0) 1 0 q.rs.length]) (B:=[(.par 0,.arr 4 1 ((t.set r true).map PV.bool))]) (fs:=[]) (cs:=[]) 62 [.par 0] ?_ rfl rfl ?_ ?_ ?_ BS ?_
     .rfl
     .simp
     .simp
     .simp[Qu.pv,bT]
     rintro r0 B0 ⟨rfl,rfl⟩;refine⟨rfl,by simp,?_⟩;simp[-List.map_set,↓hg,↓Uj,hw,pV,p7,setAt,ZiS,cO,Cn];have QC:(if(E:Int)<1+(R (t.set r true):Int)then 1+(R (t.set r true):Int)else(E:Int))=((max E (1+R (t.set r true)):Nat):Int):=by split<;>omega
     refine⟨_,_,aH,Sub.mk ?_ ?_,aB⟩
     .simp[bT,QC]
     .simp[zH,Qu.cells]
  .have he:i=l.length:=by omega
   subst he;simp[zH,bT,Qu.cells]
theorem ZkL {q:Qu}{h:Int}{l:List Int}{j:Nat}{rec:List Bool->Nat}{t:List Bool}{n:Nat}:fJ q h l j rec t n<=fJ q h l j rec t (n+1):=by
 show _<=(if _ then _ else _);split
 .exact fE _
 .exact Nat.le_max_left _ _
theorem Zgz {q:Qu}{h:Int}{l:List Int}{j:Nat}{rec:List Bool->Nat}{t:List Bool}:∀n,rec t<=fJ q h l j rec t n
 |0=>fE _
 |n+1=>lJ (Zgz n) ZkL
theorem ZkM {q:Qu}{h:Int}{l:List Int}{j:Nat}{rec:List Bool->Nat}{t:List Bool}{i r:Nat}(hx:l[i]?=some (r:Int))(ht:t[r]?=some false)(hm:q.may r j h=true):∀n,i<n->1+rec (t.set r true)<=fJ q h l j rec t n
 |n+1,hi=>by
  by_cases e:i=n
  .subst e;show _<=(if _ then _ else _);rw[hx];simp only[rS,H7,ht];rw[if_neg (by rw[hm];simp)];exact Nat.le_max_right _ _
  .exact lJ (ZkM hx ht hm n (by omega)) ZkL
def KQ (l:List Int)(t:List Bool)(r:Nat):Prop:=(r:Int)∈l/\t[r]?=some false
theorem Zhm {q:Qu}(hq:q.ok){h:Int}{l:List Int}:∀k,k<=q.ms.length->∀(t:List Bool) (w:List Int),Mt q h (KQ l t) (q.ms.length-k) w->4<=q.tJ h l k t+w.count (-1)
 |0,_,t,w,hw=>by
  have:=hw.none (fun m r _ h1 h2=>by omega)
  omega
 |k+1,hk,t,w,hw=>by
  have uR:=hq.m;obtain⟨j,hj⟩:∃j,q.ms.length-(k+1)=j:=⟨_,rfl⟩;have CO:q.ms.length-k=j+1:=by omega
  have nW:q.tJ h l (k+1) t=fJ q h l j (q.tJ h l k) t l.length:=by rw[<-hj];rfl
  rw[nW];rw[hj]at hw;have xH:j<w.length:=by rw[hw.len];omega
  have hx:w[j]?=some w[j]:=aX xH;rcases hw.ok _ (zX xH)with h1|h1
  .rw[h1]at hx
   have:=Zhm hq (h:=h) (l:=l) k (by omega) t w (by rw[CO];exact hw.next hx)
   have:=Zgz (q:=q) (h:=h) (l:=l) (j:=j) (rec:=q.tJ h l k) (t:=t) l.length
   omega
  .obtain⟨r,hr⟩:∃r:Nat,w[j]=r:=⟨w[j].toNat,by omega⟩;rw[hr]at hx;obtain⟨_,_,⟨o1,o2⟩,o3⟩:=hw.on j r hx;obtain⟨i,hi⟩:=iM.1 o1
   have:=ZkM (rec:=q.tJ h l k) hi o2 o3 l.length (bZ.1 hi).1
   have hc:=hw.cut hx;have h2:=Zhm hq (h:=h) (l:=l) k (by omega) (t.set r true) (w.set j (-1)) (by
    rw[CO];exact(hc.mono fun r' wC=>⟨wC.1.1,by rw[List.getElem?_set_ne (fun e=>wC.2 e.symm)];exact wC.1.2⟩).next (O6 xH))
   rw[Zou hx]at h2;omega
theorem ZkK {q:Qu}(hq:q.ok){h:Int}{l:List Int}(gA:∀x∈l,0<=x/\x<q.rs.length):∀k,k<=q.ms.length->∀t:List Bool,∃w,Mt q h (KQ l t) (q.ms.length-k) w/\q.tJ h l k t+w.count (-1)=4
 |0,_,t=>⟨fA,Mt.idle,by show 0+_=_;decide⟩
 |k+1,hk,t=>by
  have uR:=hq.m;obtain⟨j,hj⟩:∃j,q.ms.length-(k+1)=j:=⟨_,rfl⟩;have CO:q.ms.length-k=j+1:=by omega
  have nW:q.tJ h l (k+1) t=fJ q h l j (q.tJ h l k) t l.length:=by rw[<-hj];rfl
  rw[nW,hj];have ih:=ZkK hq (h:=h) gA k (by omega);rw[CO]at ih;have step:∀n,n<=l.length->∃w,Mt q h (KQ l t) j w/\fJ q h l j (q.tJ h l k) t n+w.count (-1)=4:=by
   intro n;induction n with
   |zero=>
     intro _;obtain⟨w,h1,h2⟩:=ih t;exact⟨w,h1.down,h2⟩
   |succ n ihn=>
     intro hn;obtain⟨w0,k1,k2⟩:=ihn (by omega);have hx:l[n]?=some l[n]:=aX (by omega);have EU:=gA _ (dL hx);obtain⟨r,hr⟩:∃r:Nat,l[n]=r:=⟨l[n].toNat,by omega⟩;rw[hr]at hx;have bQ:fJ q h l j (q.tJ h l k) t (n+1)=if(t[r]?).getD true=true\/q.may r j h=false then fJ q h l j (q.tJ h l k) t n else max (fJ q h l j (q.tJ h l k) t n) (1+q.tJ h l k (t.set r true)):=by
      rw[fJ,hx];simp only[rS,H7]
     rw[bQ];split
     .exact⟨w0,k1,k2⟩
     .rename_i hc;rw[not_or]at hc;have ht:t[r]?=some false:=by
       cases e:t[r]? with
       |none=>rw[e]at hc;exact absurd rfl hc.1
       |some b=>cases b;rfl;rw[e]at hc;exact absurd rfl hc.1
      have hm:q.may r j h=true:=by simpa using hc.2
      rcases Nat.le_total (1+q.tJ h l k (t.set r true)) (fJ q h l j (q.tJ h l k) t n)with h1|h1
      .rw[Nat.max_eq_left h1];exact⟨w0,k1,k2⟩
      .rw[Nat.max_eq_right h1];obtain⟨w,a1,a2⟩:=ih (t.set r true);have xH:j<w.length:=by rw[a1.len];omega
       have PH:w[j]?=some (-1):=by
        rcases a1.ok _ (zX xH)with h3|h3
        .rw[aX xH,h3]
        .obtain⟨r',wC⟩:∃r':Nat,w[j]=r':=⟨w[j].toNat,by omega⟩
         have:=(a1.on j r' (by rw[aX xH,wC])).1
         omega
       refine⟨w.set j r,a1.down.put (fE _) (by omega) hm ⟨dL hx,ht⟩ (fun r' wC=>?_),?_⟩
       .have cZ:r'≠r:=fun e=>by
         have h4:=wC.2;rw[e,O6 (bZ.1 ht).1]at h4;cases h4
        refine⟨⟨wC.1,?_⟩,cZ⟩;have h4:=wC.2
        rwa [List.getElem?_set_ne (fun e=>cZ e.symm)]at h4
       .have:=ZtT (run:=r) PH
        omega
  exact step l.length (fE _)
def o0 (q:Qu):List Bool:=List.replicate q.rs.length false
theorem Ztd {q:Qu}(hq:q.ok){h:Int}{l:List Int}(hl:nK q l):q.tJ h l q.ms.length (o0 q)=q.DQ h l:=by
 have hf:∀r:Nat,KQ l (o0 q) r↔(r:Int)∈l:=fun r=>⟨fun h=>h.1,fun h=>⟨h,by
  have:=hl.C4 _ h
  unfold o0;rw[List.getElem?_replicate,if_pos (by omega)]⟩⟩
 obtain⟨w,h1,h2⟩:=ZkK hq (h:=h) hl.C4 q.ms.length (fE _) (o0 q);obtain⟨M,h3,h4⟩:=ZrV hq (h:=h) hl;rw[Nat.sub_self]at h1;have h5:=ZrW hq hl (h1.mono fun r hr=>(hf r).1 hr);have h6:=Zhm hq (h:=h) (l:=l) q.ms.length (fE _) (o0 q) M (by rw[Nat.sub_self];exact h3.mono fun r hr=>(hf r).2 hr);omega
def Qu.O9 (q:Qu)(l:List Int):Nat->Nat
 |0=>0
 |h+1=>q.O9 l h+q.tJ h l q.ms.length (o0 q)
theorem vE {q:Qu}(hq:q.ok){l:List Int}(hl:nK q l):∀h,q.O9 l h=q.AH l h
 |0=>rfl
 |h+1=>by
  show q.O9 l h+_=q.AH l h+_;rw[vE hq hl h,Ztd hq hl]
theorem Zkr {q:Qu}(hq:q.ok){l:List Int}:∀h,q.O9 l h<=4*h
 |0=>fE _
 |h+1=>by
  have h1:=Zkr hq (l:=l) h;have h2:=Zhn (q:=q) (h:=h) (l:=l) q.ms.length (o0 q)
  have:=hq.m
  show q.O9 l h+_<=_;omega
theorem GO (q:Qu)(hq:q.ok)(l:List Int)(hl:l.length<=1000)(gA:∀x∈l,0<=x/\x<q.rs.length)(u:Nat)(hu:u<=100):aD prog 130 [q.pv,bT l,.i u] (.i (q.O9 l u)):=by
 have hqr:=hq.r;refine cS L130 ?_;have hR6:q.rs.length<=1000000:=by omega
 simp[L130,Qu.pv];refine dY (fun n τ=>∃k:Nat,k<=u/\n=u-k/\τ=⟨[(1,.pv (bT l)),(2,.pv (.i u)),(3,.ptr (.loc 3 0) 0),(7,.pv (.i (q.O9 l k))),(8,.pv (.i k))],[(.loc 3 0,.cells q.cells)]⟩)
  ⟨u,⟨[(1,.pv (bT l)),(2,.pv (.i u)),(3,.ptr (.loc 3 0) 0),(7,.pv (.i 0)),(8,.pv (.i 0))],[(.loc 3 0,.cells q.cells)]⟩,Sub.mk (by simp) (by simp[Qu.cells]),0,fT _,rfl,rfl⟩ ?_
 rintro J hJ n τ ⟨k,hk,rfl,rfl⟩;by_cases aI:k<u
 .have hw:=jH (k:=k) (by omega);have aH:u-(k+1)<u-k:=by omega
  have aB:=hJ _ _ ⟨k+1,aI,rfl,rfl⟩;have Ti:=Ll q hq k l hl gA q.ms.length (fE _) (o0 q) (by simp[o0]);rw[Nat.sub_self]at Ti;have hb:=Zkr hq (l:=l) (k+1);have bQ:q.O9 l (k+1)=q.O9 l k+q.tJ k l q.ms.length (o0 q):=rfl;have mP:(o0 q).map PV.bool=List.replicate q.rs.length (.bool false):=by simp[o0]
  rw[mP]at Ti;clear hJ mP;generalize q.O9 l (k+1)=E2 at *;subst bQ;generalize q.O9 l k=E at *;generalize q.tJ k l q.ms.length (o0 q)=A at *;have sL:IntKind.i64.wrap ((E:Int)+(A:Int))=(E:Int)+(A:Int):=wrap64 (by omega);simp[Qu.cells,aI,aP,hR6];refine xM (gF:=[.pv q.pv,.pv (bT l),.pv (.i k),.pv (.i ((0:Nat):Int)),.vec (.par 0) 1 0 q.rs.length]) (B:=[(.par 0,.arr 4 1 (List.replicate q.rs.length (.bool false)))]) (fs:=[]) (cs:=[]) 22 [.loc 21 0] ?_ rfl rfl ?_ ?_ ?_ Ti ?_
  .rfl
  .simp
  .simp
  .simp[Qu.pv]
  rintro r0 B0 ⟨rfl,rfl⟩;refine⟨rfl,by simp,?_⟩;simp[hw,sL];refine⟨_,_,aH,Sub.mk ?_ ?_,aB⟩
  .simp
  .simp[Qu.cells]
 .have he:k=u:=by omega
  subst he;simp[Qu.cells]
end Go.Proofs.YthmbecacehfgfaaGreatDoor.Qn
namespace Go.Proofs.YthmbecacehfgfaaGreatDoor
open Go.RowKit
open Go.Proofs.Tryz Go.Proofs.YthmbecacehfgfaaGreatDoor.Tryz
section
attribute [local irreducible] Qn.Qu.O9 Qn.Qu.sF Qn.yO
def zE (q:Qn.Qu)(u:Nat):Bool:=(Qn.yO q.rs.length).all fun l=>decide (q.sF l<=(q.O9 l u:Int))
def GZ (q:Qn.Qu)(u:Nat)(A:List (List Int))(k:Nat):AS:=⟨[(1,.pv (.i (u:Int))),(2,.ptr (.loc 2 0) 0),(5,.pv (Qn.eG A)),(6,.pv (.i (k:Int)))],[(.loc 2 0,.cells q.cells)]⟩
theorem Zm5 {q:Qn.Qu}(hq:q.ok){l:List Int}(h:l∈Qn.yO q.rs.length):l.length<=1000/\∀x∈l,0<=x/\x<q.rs.length:=by
 have h1:=(Qn.vR.1 h).1;have hR:=Qn.nK.JS h1;refine⟨?_,hR.C4⟩
 have:=Qn.oK q.rs.length (l.map Int.toNat) (by
  rw[DS,List.pairwise_map];refine List.Pairwise.imp_of_mem ?_ (Qn.qG h1);intro a b ha hb aI e
  have:=hR.C4 a ha
  have:=hR.C4 b hb
  omega) (fun y hy=>by
  obtain⟨z,hz,rfl⟩:=iL.1 hy
  have:=hR.C4 z hz
  omega)
 have h6:=hq.r;rw[fQ]at this;omega
theorem Zpr (q:Qn.Qu)(hq:q.ok)(u:Nat)(hu:u<=100):aD prog 86 [q.pv,.i (u:Int)] (.bool (zE q u)):=by
 have US:=hq.r;have Tp:=Qn.BD q US;have C6:=fun l h=>Zm5 (l:=l) hq h
 have hal:(Qn.yO q.rs.length).length<=1000:=by have:=Qn.vT US q.rs.length 1;unfold Qn.yO;omega
 obtain⟨V,hV⟩:∃V,V=zE q u:=⟨_,rfl⟩;rw[<-hV];unfold zE at hV;generalize Qn.yO q.rs.length=A at *;refine V1 L86 ?_;intro R hR;simp[L86,Qn.Qu.pv];refine .inl (cP [] [q.pv] rfl (by simp[Qn.Qu.pv]) Tp ?_);simp[aM];refine dY (fun m τ=>∃k:Nat,k<=A.length/\m=A.length-k/\V=(A.drop k).all (fun l=>decide (q.sF l<=(q.O9 l u:Int)))/\τ=GZ q u A k)
  ⟨A.length,GZ q u A 0,Sub.mk (by simp) (by simp[Qn.Qu.cells]),0,fT _,rfl,hV,rfl⟩ ?_
 rintro J hJ m τ ⟨k,hk,rfl,hv,rfl⟩;by_cases aI:k<A.length
 .obtain⟨l,hx⟩:∃l,A[k]?=some l:=⟨A[k],aX aI⟩;obtain⟨oX,qW⟩:=C6 l (dL hx);have hg:(A.map Qn.bT)[k]?=some (Qn.bT l):=by rw[bR,hx];rfl
  have hw:=bA (k:=k) (by omega);have aH:A.length-(k+1)<A.length-k:=by omega
  have z6:A.drop k=l::A.drop (k+1):=by
   obtain⟨hl,he⟩:=bZ.1 hx;rw[AF hl,he]
  rw[z6,List.all_cons]at hv;have G6:=Qn.HF q l oX (by omega) hq.h qW;have oB:=Qn.GO q hq l oX qW u hu;have hip:Qn.bT l=.aE false 1 (l.map Qn.aN):=rfl;have hqp:q.pv=.agg [.aE false 1 (q.ms.map Qn.iF),.aE false 3 (q.rs.map Qn.Rq.pv)]:=rfl;rw[hqp,hip]at G6 oB;simp[GZ,Qn.eG,Qn.Qu.cells,aI,↓hg,aP,hip];refine cQ [] [_,_] G6 ?_;simp[aM];refine cG [_,_,_] oB ?_;by_cases hc:q.sF l<=(q.O9 l u:Int)
  .have aB:=hJ _ _ ⟨k+1,aI,rfl,by rw[hv,decide_eq_true hc,Bool.true_and],rfl⟩;have sR:¬(q.O9 l u:Int)<q.sF l:=by omega
   simp[sR,hw];exact⟨_,_,aH,Sub.mk (by simp[Qn.eG]) (by simp[Qn.Qu.cells]),aB⟩
  .have sR:(q.O9 l u:Int)<q.sF l:=by omega
   have zJ:V=false:=by rw[hv,decide_eq_false hc,Bool.false_and]
   subst zJ;simp[sR];rw[<-hR];exact⟨rfl,rfl⟩
 have he:k=A.length:=by omega
 subst he;rw[List.drop_length]at hv;have zJ:V=true:=hv;subst zJ;simp[GZ,Qn.eG,Qn.Qu.cells];rw[<-hR];exact⟨rfl,rfl⟩
theorem Zm4 {q:Qn.Qu}{R:List Int}{u:Nat}:∀d,q.AH R u<=q.AH R (u+d)
 |0=>fE _
 |d+1=>lJ (Zm4 d) (Nat.le_add_right _ _)
theorem Qn.uN.less {q:Qn.Qu}{T T':Nat}(h:Qn.uN q T)(hl:T'<=T):Qn.uN q T':=by
 obtain⟨R,h1,h2⟩:=h
 have:=Zm4 (q:=q) (R:=R) (u:=T') (T-T')
 rw[Nat.add_sub_cancel' hl]at this;exact⟨R,h1,by omega⟩
theorem Zkt {q:Qn.Qu}(hq:q.ok){u:Nat}:zE q u=true↔¬Qn.uN q u:=by
 unfold zE;rw[qZ];refine⟨?_,fun h l hl=>?_⟩
 .rintro h ⟨R,h1,h2⟩;have cZ:R≠[]:=fun e=>by subst e;have:q.sF []=0:=(by with_unfolding_all rfl);omega
  have h3:=of_decide_eq_true (h R (Qn.vR.2 ⟨h1,cZ⟩));rw[Qn.vE hq (Qn.nK.JS h1)]at h3;omega
 .refine decide_eq_true ?_;have h1:=(Qn.vR.1 hl).1;rw[Qn.vE hq (Qn.nK.JS h1)];exact Int.not_lt.1 fun h2=>h ⟨l,h1,h2⟩
theorem Zok {q:Qn.Qu}(hc:q.check=0):decide (fK 408 q=0)=zE q 40:=by
 have hq:=Qn.Qu.Ks hc;unfold fK;rw[if_neg (by rw[hc];exact fun h=>h rfl)];rcases Qn.BP (F:=408) (by decide) hq with⟨p,h1,h2,h3,_⟩|⟨h1,h2⟩
 .rw[h1];exact((Zkt hq).2 fun h=>(h.less h2.len).no hq h2 h3).symm
 .rw[h1];exact(Bool.eq_false_iff.2 fun h=>(Zkt hq).1 h h2).symm
theorem Zjs (rs:List Qn.Rq)(hr:rs.length<=6)(Q2:∀r∈rs,∃h q o,r=pJ h q o/\1<=h/\h<=40/\0<=q/\q<=40/\1<=o/\o<=3):(uK rs).check=0:=by
 have h1:(uK rs).xK=false:=by
  unfold Qn.Qu.xK uK;simp;omega
 have h2:(uK rs).bad=false:=by
  unfold Qn.Qu.bad uK;simp;refine⟨by decide,fun r hr=>?_⟩;obtain⟨h,q,o,rfl,hh⟩:=Q2 r hr;have m1:Qn.kU h=true:=by unfold Qn.kU;rw[decide_eq_true (by omega),decide_eq_true (by omega)];rfl
  have m2:Qn.kU q=true:=by unfold Qn.kU;rw[decide_eq_true (by omega),decide_eq_true (by omega)];rfl
  show(Qn.kU h&&Qn.kU q&&true)=true;rw[m1,m2];rfl
 unfold Qn.Qu.check;rw[h1,h2];rfl
theorem Zps (rs:List Qn.Rq)(hr:rs.length<=6)(Q2:∀r∈rs,∃h q o,r=pJ h q o/\1<=h/\h<=40/\0<=q/\q<=40/\1<=o/\o<=3):aD prog 86 [.agg [WJ,.aE false 3 (rs.map Qn.Rq.pv)],.i 40] (.bool (decide (fK 408 (uK rs)=0))):=by
 have hc:=Zjs rs hr Q2;rw[Zok hc];exact Zpr (uK rs) (Qn.Qu.Ks hc) 40 (by decide)
end
section
attribute [local irreducible] Bk.rV fK Bk.contra Bk.held Bk.span Bk.nums Bk.iS Bk.rA stM oY tA Bk.fault
def rnJ (w:Wk)(x:PV):AS:=⟨[(2,.ptr (.loc 2 0) 0),(4,.ptr (.loc 4 0) 0),(6,.ptr (.loc 6 0) 0),(36,.vec (.loc 36 0) 3 0 w.runs.length),(53,.vec (.loc 53 0) 3 0 1)],
 [(.loc 53 0,.arr 73 3 [x]),(.loc 36 0,.arr 73 3 (w.runs.map Qn.Rq.pv)),(.loc 6 0,.cells w.cells),(.loc 4 0,.cells [pO,pO,pO,pO,pO]),(.loc 2 0,.cells w.cells)]⟩
theorem Zus {k0:Nat}(w:Wk)(hI:sG k0 w)(a b c:Int):aD prog 49 [w.pv,.aE false 1 [.i a,.i b,.i c]] (sJ w ((runM 408 w.runs a b c).map fun l=>{ w with runs:=l })):=by
 have US:=hI.r6;have i1:=rH a 1 40;have i2:=rH b 0 40;have i3:=rH c 1 3;have jL:w.pv=.agg [.aE false 7 (w.aA.map Ct.pv),.aE false 1 (w.bad.map iP),.aE false 4 (w.aJ.map Lt.pv),.aE false 4 (w.aG.map Tt.pv),.aE false 3 (w.runs.map Qn.Rq.pv)]:=rfl;refine cF [.loc 54 0] L49 ?_;obtain⟨V,hV⟩:∃V,V=sJ w ((runM 408 w.runs a b c).map fun l=>{ w with runs:=l }):=⟨_,rfl⟩;rw[<-hV];generalize hR:(fun(r:AV) (B:List (Site×aL))=>r=.pv V/\B=[])=R;have gD:¬((decide (1<=a)&&decide (a<=40))=true/\(decide (0<=b)&&decide (b<=40))=true/\(decide (1<=c)&&decide (c<=3))=true)->V=.bM [w.pv,.i 2]:=fun h=>by
  rw[hV];unfold runM;rw[if_neg h];rfl
 rw[jL]at gD ⊢;simp[L49];refine cG [_,_,_] i1 ?_;generalize tV:(decide (1<=a)&&decide (a<=40))=d1 at *;cases d1
 .have hv:=gD (by simp);subst hv;simp;rw[<-hR];exact⟨by simp,by simp⟩
 simp;refine cG [_,_,_] i2 ?_;generalize wG:(decide (0<=b)&&decide (b<=40))=d2 at *;cases d2
 .have hv:=gD (by simp);subst hv;simp;rw[<-hR];exact⟨by simp,by simp⟩
 simp;refine cG [_,_,_] i3 ?_;generalize U5:(decide (1<=c)&&decide (c<=3))=d3 at *;cases d3
 .have hv:=gD (by simp);subst hv;simp;rw[<-hR];exact⟨by simp,by simp⟩
 clear gD;unfold runM at hV;rw[tV,wG,U5,if_pos ⟨rfl,rfl,rfl⟩]at hV;by_cases h6:w.runs.length<6
 case neg=>
  have hv:V=.bM [w.pv,.i 3]:=by rw[hV,if_neg h6];rfl
  rw[jL]at hv;subst hv;have VK:(6:Int)<=(w.runs.length:Int):=by omega
  have Vy:6<=w.runs.length:=by omega
  simp[VK];rw[<-hR];exact⟨by simp,by simp⟩
 have VK:¬(6:Int)<=(w.runs.length:Int):=by omega
 have Vy:¬6<=w.runs.length:=by omega
 rw[if_pos h6]at hV;have g1:1<=a/\a<=40:=by rw[dK,decide_eq_true_eq,decide_eq_true_eq]at tV;exact tV
 have g2:0<=b/\b<=40:=by rw[dK,decide_eq_true_eq,decide_eq_true_eq]at wG;exact wG
 have g3:1<=c/\c<=3:=by rw[dK,decide_eq_true_eq,decide_eq_true_eq]at U5;exact U5
 have Q1:=Zps (w.runs++[pJ a b c]) (by rw[gE];simp;omega) (fun r hr=>(sE.1 hr).elim (hI.on r) fun h=>⟨a,b,c,rU.1 h,g1.1,g1.2,g2.1,g2.2,g3.1,g3.2⟩);have UT:=Zpq ((w.runs++[pJ a b c]).map Qn.Rq.pv);have hnp:Qn.Rq.pv (pJ a b c)=.agg [.i a,.i b,.aE false 1 [.bool (!decide (c=2)),.bool (!decide (c=1))]]:=rfl;have hm:(w.runs.map Qn.Rq.pv).take w.runs.length=w.runs.map Qn.Rq.pv:=fH (by simp);have HX:w.runs.length<=1000000:=by omega
 have VA:w.runs.length+1<=1000000:=by omega
 rw[lI,iQ,List.map_nil]at Q1 UT;generalize hxx:Qn.Rq.pv (pJ a b c)=xx at *;have mK:(w.runs.map Qn.Rq.pv++[xx]).take (w.runs.length+1)=w.runs.map Qn.Rq.pv++[xx]:=fH (by simp);simp[aP,VK];refine EC (fun τ=>τ=rnJ w xx) ?_ ?_
 .subst hnp;simp[gN,gW,aP,HX]
  repeat' apply And.intro
  all_goals exact Sub.mk (by simp) (by simp[pO,Wk.cells])
 rintro τ rfl;simp[rnJ,pO,Wk.cells,gN,gW,aP,VA];refine .inl<|cP [.loc 54 0] [.aE false 3 (w.runs.map Qn.Rq.pv++[xx])] (by simp) (by simp[mK]) UT ?_;simp[aM,mK];refine cG [_,_] Q1 ?_;by_cases he:fK 408 (uK (w.runs++[pJ a b c]))=0
 case neg=>
  have hv:V=.bM [w.pv,.i 9]:=by rw[hV,if_neg he];rfl
  rw[jL]at hv;subst hv;simp[he];rw[<-hR];exact⟨by simp,by simp⟩
 have hv:V=.bM [.agg [.aE false 7 (w.aA.map Ct.pv),.aE false 1 (w.bad.map iP),.aE false 4 (w.aJ.map Lt.pv),.aE false 4 (w.aG.map Tt.pv),.aE false 3 (w.runs.map Qn.Rq.pv++[xx])],.i 0]:=by
  rw[hV,if_pos he,<-hxx];show PV.bM [.agg [_,_,_,_,.aE false 3 ((w.runs++[pJ a b c]).map Qn.Rq.pv)],_]=_;rw[lI];rfl
 subst hv;simp[he];rw[<-hR];exact⟨by simp,by simp⟩
end
def Qh:Option Int->PV
 |some v=>.bM [.i v,.bool true]
 |none=>.bM [.i 0,.bool false]
theorem ZnF (s:ByteArray):∃(neg:Bool) (a:Nat) (ds:List UInt8),((neg=true/\a=1/\BC s 0=some 45/\0<s.size)\/(neg=false/\a=0/\(s.size=0\/∃b,BC s 0=some b/\¬(b.toNat:Int)=45/\0<s.size)))/\s.data.toList.drop a=ds/\s.size=ds.length+a/\xZ s=(tQ s.size ds).map fun(n:Nat)=>if neg=true then -(n:Int)else(n:Int):=by
 have hz:s.size=s.data.toList.length:=by rw[uV];rfl
 unfold xZ;cases hl:s.data.toList with
 |nil=>
  refine⟨false,0,[],.inr ⟨rfl,rfl,.inl (by rw[hz,hl];rfl)⟩,rfl,by rw[hz,hl];rfl,?_⟩;rw[hz,hl];rfl
 |cons b r=>
  have h0:BC s ((0:Nat):Int)=some b:=Ym (by rw[hl];rfl);have hp:0<s.size:=by rw[hz,hl];simp
  by_cases hb:b=45
  .subst hb;refine⟨true,1,r,.inl ⟨rfl,rfl,h0,hp⟩,rfl,by rw[hz,hl];rfl,?_⟩;rw[hz,hl];rfl
  .refine⟨false,0,b::r,.inr ⟨rfl,rfl,.inr ⟨b,h0,fun h=>hb (UInt8.toNat_inj.1 ?_),hp⟩⟩,rfl,by rw[hz,hl];rfl,?_⟩
   .have:(45:UInt8).toNat=45:=rfl
    omega
   .rw[hz,hl];split
    .rename_i r' e;exact absurd (List.cons.inj e).1 hb
    .rfl
theorem ZrQ {b:UInt8}:(48<=b.toNat/\b.toNat<=57->Lib.digitVal b=some (b.toNat-48))/\(¬(48<=b.toNat/\b.toNat<=57)->Lib.digitVal b=none):=by
 constructor
 .rintro⟨h1,h2⟩;have h:=Xu (d:=b.toNat-48) (by omega);have e:UInt8.ofNat (48+(b.toNat-48))=b:=UInt8.toNat_inj.1 (by rw[UInt8.toNat_ofNat'];omega);rw[e]at h;exact h
 .intro h;cases hd:Lib.digitVal b with
  |none=>rfl
  |some d=>
   obtain⟨h1,rfl⟩:=ZrE hd;rw[UInt8.toNat_ofNat']at h;omega
theorem Zn8 {b:UInt8}{l r:List UInt8}(h:Lib.digitVal b=none){n:Nat}(hn:Lib.decFrom 0 l=some n):Lib.decFrom 0 (l++b::r)=none:=by
 have:∀(l:List UInt8) (acc n:Nat),Lib.decFrom acc l=some n->Lib.decFrom acc (l++b::r)=none:=by
  intro l;induction l with
  |nil=>intro acc n _;simp only[List.nil_append,Lib.decFrom,h]
  |cons x l ih=>
   intro acc n hh;simp only[List.cons_append,Lib.decFrom]at hh ⊢;cases hx:Lib.digitVal x with
   |none=>rfl
   |some d=>rw[hx]at hh;exact ih _ _ hh
 exact this l 0 n hn
def UB (s:ByteArray)(neg:Bool)(a k n:Nat):AS:=⟨[(0,.pv (.str s)),(4,.pv (.bool neg)),(5,.pv (.i ((k+a:Nat):Int))),(6,.pv (.i (n:Int)))],[]⟩
theorem ZpW (s:ByteArray)(hs:s.size<=1000000):aD prog 75 [.str s] (Qh (xZ s)):=by
 obtain⟨neg,a,ds,hc,QT,fG,D0⟩:=ZnF s;obtain⟨V,hV⟩:∃V,V=xZ s:=⟨_,rfl⟩;rw[<-hV]at D0 ⊢;clear hV;have r7:∀k,k<ds.length->∃b,ds[k]?=some b/\BC s ((k+a:Nat):Int)=some b:=fun k hk=>by
  refine⟨ds[k],aX hk,Ym ?_⟩;rw[<-aX hk,<-QT,mW,Nat.add_comm]
 refine V1 L75 ?_;intro R hR;have hI:∀c:Nat,((c:Int)=48)=(c=48):=fun c=>propext ⟨fun h=>by omega,fun h=>by omega⟩
 obtain⟨ng,Td⟩:∃z,z=neg:=⟨_,rfl⟩;obtain⟨a',ha'⟩:∃z,z=a:=⟨_,rfl⟩;have w1:IntKind.i64.wrap ((s.size:Int)-(a:Int))=(ds.length:Int):=by rw[wrap64 (by omega)];omega
 by_cases r5:ds.length=0
 .have hn:V=none:=by rw[D0];unfold tQ;rw[if_pos (.inl r5)];rfl
  subst hn;rcases hc with⟨rfl,rfl,h0,hp⟩|⟨rfl,rfl,h0⟩
  .have f1:s.size=1:=by omega
   simp[L75,h0,f1];rw[<-hR];exact⟨rfl,rfl⟩
  .have f1:s.size=0:=by omega
   simp[L75,f1];rw[<-hR];exact⟨rfl,rfl⟩
 obtain⟨b,hb,p6⟩:=r7 0 (by omega);have hh:ds.head?=some b:=by rw[List.head?_eq_getElem?];exact hb
 by_cases lQ:9<ds.length\/(b=48/\1<s.size)
 .have hn:V=none:=by
   rw[D0];unfold tQ;rcases lQ with h|⟨h,h'⟩
   .rw[if_pos (.inr (.inl h))];rfl
   .rw[if_pos (.inr (.inr ⟨by rw[hh,h],h'⟩))];rfl
  subst hn;rcases hc with⟨rfl,rfl,h0,hp⟩|⟨rfl,rfl,h0⟩
  case' inl=>
   have p6:BC s 1=some b:=p6;have f1:¬s.size=1:=by omega
   have VL:¬(s.size:Int)=1:=by omega
   have w1:IntKind.i64.wrap ((s.size:Int)-1)=(ds.length:Int):=w1;have IM:=h0;have MV:=h0
  case' inr=>
   obtain⟨b0,h0,IM,hp⟩:=h0.resolve_left (by omega);obtain rfl:b=b0:=Option.some.inj (p6.symm.trans h0);have p6:BC s 0=some b:=p6;have MV:¬b.toNat=45:=by omega
   have f1:¬s.size=0:=by omega
   have VL:¬(s.size:Int)=0:=by omega
   have w1:IntKind.i64.wrap (s.size:Int)=(ds.length:Int):=by rw[wrap64 (by omega)];omega
  all_goals
   by_cases h9:(9:Int)<(ds.length:Int)
   .simp[L75,h0,hp,IM,f1,VL,w1,h9];rw[<-hR];exact⟨rfl,rfl⟩
   .obtain⟨rfl,g1⟩:=lQ.resolve_left (by omega);have g2:(1:Int)<(s.size:Int):=by omega
    simp[L75,h0,hp,f1,VL,w1,h9,p6,g2];rw[<-hR];exact⟨rfl,rfl⟩
 have hn:V=(Lib.decFrom 0 ds).map fun(n:Nat)=>if neg=true then -(n:Int)else(n:Int):=by
  rw[D0];unfold tQ;rw[if_neg];rintro(h|h|⟨h,h'⟩)
  .exact r5 h
  .exact lQ (.inl h)
  .rw[hh]at h;exact lQ (.inr ⟨Option.some.inj h,h'⟩)
 clear D0 QT;have h9:¬(9:Int)<(ds.length:Int):=fun h=>lQ (.inl (by omega))
 have q0:b.toNat=48->¬1<s.size:=fun e h=>lQ (.inr ⟨UInt8.toNat_inj.1 (by have:(48:UInt8).toNat=48:=rfl;omega),h⟩)
 rw[<-Td]at hn;rcases hc with⟨rfl,rfl,h0,hp⟩|⟨rfl,rfl,h0⟩
 case' inl=>
  have p6:BC s 1=some b:=p6;have f1:¬s.size=1:=by omega
  have VL:¬(s.size:Int)=1:=by omega
  have w1:IntKind.i64.wrap ((s.size:Int)-1)=(ds.length:Int):=w1;have q1:¬b.toNat=48:=fun e=>by have:=q0 e;omega
  simp[L75,h0,hp,VL,w1,h9,p6,q1,hI]
 case' inr=>
  obtain⟨b0,h0,IM,hp⟩:=h0.resolve_left (by omega);obtain rfl:b=b0:=Option.some.inj (p6.symm.trans h0);have MV:¬b.toNat=45:=by omega
  have f1:¬s.size=0:=by omega
  have VL:¬(s.size:Int)=0:=by omega
  have w1:IntKind.i64.wrap (s.size:Int)=(ds.length:Int):=by rw[wrap64 (by omega)];omega
  by_cases q1:b.toNat=48
  case' pos=>
   have q2:=q0 q1;have q3:¬(1:Int)<(s.size:Int):=by omega
   simp[L75,h0,hp,f1,w1,h9,q1,q3]
  case' neg=>simp[L75,h0,hp,IM,f1,w1,h9,q1,hI]
 all_goals
  refine dY (fun m τ=>∃k n:Nat,k<=ds.length/\m=ds.length-k/\Lib.decFrom 0 (ds.take k)=some n/\n<10^k/\τ=UB s ng a' k n) ⟨ds.length,UB s ng a' 0 0,Sub.mk (by simp[Td,ha']) (by simp),0,0,fT _,rfl,rfl,by decide,rfl⟩ ?_;rintro J hJ m τ ⟨k,n,hk,rfl,D4,HU,rfl⟩;by_cases aI:k<ds.length
  .obtain⟨x,hx,Jm⟩:=r7 k aI;rw[<-ha']at Jm;have hp9:(10:Nat)^k<=10^9:=Nat.pow_le_pow_right (by decide) (by omega);have jD:((k+a':Nat):Int)<(s.size:Int):=by omega
   have iO:k+a'<s.size:=by omega
   have w2:IntKind.i64.wrap (((k+a':Nat):Int)+1)=((k+1+a':Nat):Int):=by rw[wrap64 (by omega)];omega
   have hx8:=UInt8.toNat_lt x;have HQ:ds=ds.take k++x::ds.drop (k+1):=by
    obtain⟨l1,e1⟩:=bZ.1 hx;rw[<-e1,<-AF l1,List.take_append_drop]
   by_cases c1:x.toNat<48\/57<x.toNat
   .have hv:V=none:=by
     rw[hn,HQ,Zn8 (ZrQ.2 (by omega)) D4];rfl
    subst hv;clear hJ;by_cases c2:x.toNat<48
    .have Ef:(x.toNat:Int)<48:=by omega
     simp[-Int.natCast_add,UB,Jm,jD,Ef];rw[<-hR];exact⟨rfl,rfl⟩
    .have Ef:¬(x.toNat:Int)<48:=by omega
     have c3:57<x.toNat:=by omega
     have Wn:(57:Int)<(x.toNat:Int):=by omega
     simp[-Int.natCast_add,UB,Jm,jD,Ef,Wn];rw[<-hR];exact⟨rfl,rfl⟩
   .have c2:¬x.toNat<48:=by omega
    have Ef:¬(x.toNat:Int)<48:=by omega
    have c3:¬57<x.toNat:=by omega
    have Wn:¬(57:Int)<(x.toNat:Int):=by omega
    have w3:IntKind.u8.wrap ((x.toNat:Int)-48)=((x.toNat-48:Nat):Int):=by
     rw[show IntKind.u8.wrap ((x.toNat:Int)-48)=((x.toNat:Int)-48)%256 from rfl];omega
    have w4:IntKind.i64.wrap ((x.toNat-48:Nat):Int)=((x.toNat-48:Nat):Int):=wrap64 (by omega);have w5:IntKind.i64.wrap (10*(n:Int))=((10*n:Nat):Int):=by rw[wrap64 (by omega)];omega
    have w6:IntKind.i64.wrap (((10*n:Nat):Int)+((x.toNat-48:Nat):Int))=((10*n+(x.toNat-48):Nat):Int):=by rw[wrap64 (by omega)];omega
    have U3:Lib.decFrom 0 (ds.take (k+1))=some (10*n+(x.toNat-48)):=by
     rw[lX,hx];show Lib.decFrom 0 (ds.take k++[x])=_;rw[Od,D4,Option.bind_some,ZrQ.1 (by omega),uU];congr 1;omega
    have Tc:10*n+(x.toNat-48)<10^(k+1):=by rw[Nat.pow_succ];omega
    have aB:=hJ _ _ ⟨k+1,_,aI,rfl,U3,Tc,rfl⟩;have aH:ds.length-(k+1)<ds.length-k:=by omega
    clear hJ;simp[-Int.natCast_add,-Int.natCast_mul,UB,Jm,jD,Ef,Wn,w2,w3,w4,w5,w6];exact⟨_,_,aH,Sub.mk (by simp) (by simp),aB⟩
  have he:k=ds.length:=by omega
  subst he;rw[nC]at D4;rw[D4]at hn;have jD:¬((ds.length+a':Nat):Int)<(s.size:Int):=by omega
  have iO:¬ds.length+a'<s.size:=by omega
  have hp9:(10:Nat)^ds.length<=10^9:=Nat.pow_le_pow_right (by decide) (by omega);have w7:IntKind.i64.wrap (-(n:Int)) = -(n:Int):=wrap64 (by omega);clear hJ;subst hn;subst Td;simp[-Int.natCast_add,UB,jD,w7];rw[<-hR];exact⟨rfl,rfl⟩
def tO (s:ByteArray):Nat->List ByteArray×Nat
 |0=>([],0)
 |i+1=>if i=s.size\/s.data.toList[i]?=some 32 then((tO s i).1++[s.extract (tO s i).2 i],i+1)else tO s i
theorem My {s:ByteArray}{i:Nat}:tO s (i+1)=if i=s.size\/s.data.toList[i]?=some 32 then((tO s i).1++[s.extract (tO s i).2 i],i+1)else tO s i:=rfl
theorem Ln (s:ByteArray):∀i,(tO s i).2<=i/\(tO s i).1.length<=i
 |0=>⟨fE _,fE _⟩
 |i+1=>by
  obtain⟨h1,h2⟩:=Ln s i;rw[My];split
  .exact⟨fE _,by rw[gE];simp;omega⟩
  .exact⟨by omega,by omega⟩
theorem Znu {l:List UInt8}{f i:Nat}(h:∀k,f<=k->k<i->l[k]?≠some 32):∀c∈(l.drop f).take (i-f),c≠32:=fun c hc e=>by
 obtain⟨k,hk⟩:=List.getElem?_of_mem hc;obtain⟨hl,_⟩:=bZ.1 hk;rw[gI]at hl;rw[List.getElem?_take_of_lt (by omega),mW]at hk;exact h (f+k) (by omega) (by omega) (by rw[hk,e])
theorem Zrz (s:ByteArray):∀i,i<=s.size->(∀k,(tO s i).2<=k->k<i->s.data.toList[k]?≠some 32)/\(tO s i).1.map (·.data.toList)++I5 (s.data.toList.drop (tO s i).2)=I5 s.data.toList
 |0,_=>⟨fun k _ h=>absurd h (Nat.not_lt_zero k),rfl⟩
 |i+1,hi=>by
  obtain⟨h1,h2⟩:=Zrz s i (by omega);obtain⟨h3,_⟩:=Ln s i;have hz:s.size=s.data.toList.length:=by rw[uV];rfl
  rw[My];by_cases hc:s.data.toList[i]?=some 32
  .rw[if_pos (.inr hc)];refine⟨fun k ha hb=>?_,?_⟩
   .have ha:i+1<=k:=ha;omega
   .show((tO s i).1++[s.extract (tO s i).2 i]).map (·.data.toList)++I5 (s.data.toList.drop (i+1))=_;rw[<-h2,lI,I0];congr 1;show(s.extract (tO s i).2 i).data.toList::I5 (s.data.toList.drop (i+1))=_;rw[Lib.extract_data];generalize(tO s i).2=f at h1 h3 ⊢;have hd:s.data.toList.drop f=(s.data.toList.drop f).take (i-f)++32::s.data.toList.drop (i+1):=by
     have e1:(s.data.toList.drop f).drop (i-f)=s.data.toList.drop i:=by rw[List.drop_drop];congr 1;omega
     have e2:s.data.toList.drop i=32::s.data.toList.drop (i+1):=by
      obtain⟨hl,he⟩:=bZ.1 hc;rw[AF hl,he]
     rw[<-e2,<-e1,List.take_append_drop]
    conv=>rhs;rw[hd]
    rw[Zfd (Znu h1)]
  .rw[if_neg (by rintro(h|h);omega;exact hc h)];refine⟨fun k ha hb=>?_,h2⟩;by_cases hk:k=i
   .rw[hk];exact hc
   .exact h1 k ha (by omega)
theorem ZsX (s:ByteArray):(tO s (s.size+1)).1=xP s blank:=by
 apply ZeM;rw[Zo9,My,if_pos (.inl rfl)];obtain⟨h1,h2⟩:=Zrz s s.size (fE _);obtain⟨h3,_⟩:=Ln s s.size;have hz:s.size=s.data.toList.length:=by rw[uV];rfl
 rw[<-h2];show((tO s s.size).1++[s.extract (tO s s.size).2 s.size]).map (·.data.toList)=_;rw[lI];congr 1;show[(s.extract (tO s s.size).2 s.size).data.toList]=_;rw[Lib.extract_data];generalize(tO s s.size).2=f at h1 h3 ⊢;have hn:=Znu h1;rw[fH (by rw[uG];omega)]at hn ⊢;rw[Zfe hn]
def GV (s:ByteArray):PV:=match xP s blank,P0 s with
 |w::_,some (_,l)=>.bM [.str w,.aE false 1 (l.map iP),.bool true]
 |_,_=>.bM [.str ⟨#[]⟩,.emp (some true),.bool false]
def iG (w:ByteArray):Int:=match gY w with
 |some (k,_)=>(k:Int)
 |none=>-1
theorem Ztg (w:ByteArray):iG w=if w=jZ then 7 else if w=pD\/w=jY then 1 else if w=pC\/w=pB then 3 else if w=jX then 4 else -1:=by
 by_cases h0:w=jZ
 .subst h0;rfl
 by_cases h1:w=pD
 .subst h1;rfl
 by_cases h2:w=pC
 .subst h2;rfl
 by_cases h3:w=jX
 .subst h3;rfl
 by_cases h4:w=jY
 .subst h4;rfl
 by_cases h5:w=pB
 .subst h5;rfl
 unfold iG gY;simp only[if_neg h0,if_neg h3,h1,h2,h4,h5,or_self,if_false]
def PA (w:ByteArray)(c b p l r t:Prop):Prop:=(w=jZ)=c/\(w=pD)=b/\(w=jY)=p/\(w=pC)=l/\(w=pB)=r/\(w=jX)=t
theorem XW (w:ByteArray):PA w True False False False False False/\iG w=7\/PA w False True False False False False/\iG w=1\/PA w False False True False False False/\iG w=1\/PA w False False False True False False/\iG w=3\/PA w False False False False True False/\iG w=3\/PA w False False False False False True/\iG w=4\/PA w False False False False False False/\iG w = -1:=by
 by_cases h0:w=jZ
 .subst h0;exact .inl ⟨⟨eq_self _,eq_false (by decide),eq_false (by decide),eq_false (by decide),eq_false (by decide),eq_false (by decide)⟩,rfl⟩
 by_cases h1:w=pD
 .subst h1;exact .inr (.inl ⟨⟨eq_false (by decide),eq_self _,eq_false (by decide),eq_false (by decide),eq_false (by decide),eq_false (by decide)⟩,rfl⟩)
 by_cases h2:w=jY
 .subst h2;exact .inr (.inr (.inl ⟨⟨eq_false (by decide),eq_false (by decide),eq_self _,eq_false (by decide),eq_false (by decide),eq_false (by decide)⟩,rfl⟩))
 by_cases h3:w=pC
 .subst h3;exact .inr (.inr (.inr (.inl ⟨⟨eq_false (by decide),eq_false (by decide),eq_false (by decide),eq_self _,eq_false (by decide),eq_false (by decide)⟩,rfl⟩)))
 by_cases h4:w=pB
 .subst h4;exact .inr (.inr (.inr (.inr (.inl ⟨⟨eq_false (by decide),eq_false (by decide),eq_false (by decide),eq_false (by decide),eq_self _,eq_false (by decide)⟩,rfl⟩))))
 by_cases h5:w=jX
 .subst h5;exact .inr (.inr (.inr (.inr (.inr (.inl ⟨⟨eq_false (by decide),eq_false (by decide),eq_false (by decide),eq_false (by decide),eq_false (by decide),eq_self _⟩,rfl⟩)))))
 exact .inr (.inr (.inr (.inr (.inr (.inr ⟨⟨eq_false h0,eq_false h1,eq_false h2,eq_false h3,eq_false h4,eq_false h5⟩,by rw[Ztg];simp only[h0,h1,h2,h3,h4,h5,or_self,if_false]⟩)))))
theorem Zth (w:ByteArray):-1<=iG w/\iG w<=7:=by
 unfold iG;cases hw:gY w with
 |none=>exact⟨by decide,by decide⟩
 |some p=>
  obtain⟨k,g⟩:=p
  have:=Zj3 hw
  dsimp only;omega
theorem ZpH {s w:ByteArray}{r:List ByteArray}(h:xP s blank=w::r)(hn:(r.length:Int)≠iG w\/mO r=none):GV s=.bM [.str ⟨#[]⟩,.emp (some true),.bool false]:=by
 have hp:P0 s=none:=by
  unfold P0;rw[h];dsimp only;unfold iG at hn;cases hw:gY w with
  |none=>rfl
  |some p=>
   obtain⟨k,g⟩:=p;rw[hw]at hn;dsimp only at hn ⊢;rcases hn with hn|hn
   .rw[if_neg (by omega)]
   .rw[hn];split<;>rfl
 unfold GV;rw[hp,h]
theorem ZpG {s w:ByteArray}{r:List ByteArray}{l:List Int}(h:xP s blank=w::r)(hm:(r.length:Int)=iG w)(hl:mO r=some l):GV s=.bM [.str w,.aE false 1 (l.map iP),.bool true]:=by
 unfold GV P0;rw[h];dsimp only;unfold iG at hm;cases hw:gY w with
 |none=>rw[hw]at hm;dsimp only at hm;omega
 |some p=>
  obtain⟨k,g⟩:=p;rw[hw]at hm;dsimp only at hm ⊢;rw[if_pos (by omega),hl];rfl
theorem Znp (s:ByteArray):(P0 s=none/\GV s=.bM [.str ⟨#[]⟩,.emp (some true),.bool false])\/∃w k g nums,P0 s=some (g,nums)/\gY w=some (k,g)/\nums.length=k/\GV s=.bM [.str w,.aE false 1 (nums.map iP),.bool true]:=by
 cases hs:xP s blank with
 |nil=>
  have h:=Li s;rw[hs]at h;cases h
 |cons w r=>
  cases hp:P0 s with
  |none=>
   refine .inl ⟨rfl,?_⟩;unfold GV;rw[hp,hs]
  |some q=>
   obtain⟨g,nums⟩:=q;have MG:=hp;unfold P0 at hp;rw[hs]at hp;dsimp only at hp;cases hw:gY w with
   |none=>rw[hw]at hp;cases hp
   |some p=>
    obtain⟨k,g'⟩:=p;rw[hw]at hp;dsimp only at hp;split at hp
    .rename_i hk;obtain⟨l,h1,h2⟩:=eA.1 hp;cases h2;refine .inr ⟨w,k,g,nums,rfl,hw,(Zhi h1).1.trans hk,?_⟩;unfold GV;rw[MG,hs]
    .cases hp
theorem TS {w v:ByteArray}{l:List UInt8}(h:v.data.toList=l):(w.toList==l)=decide (w=v):=by rw[<-h,<-Lib.toList_data];exact A4 w v
theorem Pu (w:ByteArray):(w.toList==[99,101,114,116])=decide (w=jZ):=TS rfl
theorem Pv (w:ByteArray):(w.toList==[98,97,100])=decide (w=pD):=TS rfl
theorem Pr (w:ByteArray):(w.toList==[112,97,115,115])=decide (w=jY):=TS rfl
theorem Ps (w:ByteArray):(w.toList==[108,111,116])=decide (w=pC):=TS rfl
theorem weR (w:ByteArray):(w.toList==[114,117,110])=decide (w=pB):=TS rfl
theorem Po (w:ByteArray):(w.toList==[116,101,115,116])=decide (w=jX):=TS rfl
section
def GU (s:ByteArray)(P:List ByteArray)(f i:Nat):AS:=⟨[(0,.pv (.str s)),(5,.vec (.loc 35 0) 1 0 P.length),(6,.pv (.i (f:Int))),(7,.pv (.i (i:Int)))],[(.loc 35 0,.arr 9 1 (P.map .str))]⟩
def YV (P:List ByteArray)(l:List Int)(k:Nat):AS:=⟨[(5,.vec (.loc 35 0) 1 0 P.length),(9,.vec (.loc 75 0) 1 0 l.length),(10,.pv (.i (k:Int)))],[(.loc 75 0,.arr 3 1 (l.map iP)),(.loc 35 0,.arr 9 1 (P.map .str))]⟩
theorem Zs0 (s:ByteArray)(hs:s.size<=1000):aD prog 43 [.str s] (GV s):=by
 have hz:s.size=s.data.toList.length:=by rw[uV];rfl
 refine O1 [.loc 75 0] L43 ?_;intro R hR;simp[L43];refine dY (fun m τ=>∃i:Nat,i<=s.size+1/\m=s.size+1-i/\τ=GU s (tO s i).1 (tO s i).2 i) ⟨s.size+1,GU s [] 0 0,Sub.trans' (Sub.mk (by simp[AS.cT]) (by simp[AS.cT])) (cT 35 9 1 5 rfl (by decide)),0,fT _,rfl,rfl⟩ ?_;rintro J hJ m τ ⟨i,hi,rfl,rfl⟩;obtain⟨hf,mJ⟩:=Ln s i;have iI:=My (s:=s) (i:=i);by_cases aI:i<=s.size
 .have aB:=hJ _ _ ⟨i+1,by omega,rfl,rfl⟩;have aH:s.size+1-(i+1)<s.size+1-i:=by omega
  have hw:=bA (k:=i) (by omega);have q9:(i:Int)<=(s.size:Int):=by omega
  rw[iI]at aB;clear hJ iI;generalize tO s i=q at *;obtain⟨P,f⟩:=q;dsimp only at *;have hp6:P.length<=999999:=by omega
  have hp7:P.length+1<=1000000:=by omega
  have iH:List.take P.length (P.map PV.str)=P.map PV.str:=fH (by rw[fQ];exact fE _);by_cases Ue:i=s.size
  .rw[if_pos (.inl Ue)]at aB;have hE1:((i:Int)=(s.size:Int))=True:=eq_true (by omega);have AA:(i=s.size)=True:=eq_true Ue;have Um:(f:Int)<=(i:Int):=by omega
   simp[GU,aI,q9,hE1,hf,aP,hw,hp7];exact⟨_,_,aH,Sub.mk (by simp) (by simp),aB⟩
  .have Bh:¬(i:Int)=(s.size:Int):=by omega
   obtain⟨b,hb⟩:∃b,s.data.toList[i]?=some b:=⟨s.data.toList[i]'(by omega),aX _⟩;have hsa:=Ym hb;have iO:i<s.size:=by omega
   by_cases Kc:b=32
   .rw[if_pos (.inr (by rw[hb,Kc]))]at aB;subst Kc;have Um:(f:Int)<=(i:Int):=by omega
    simp[GU,aI,q9,Bh,hsa,hf,aP,hw,hp7];exact⟨_,_,aH,Sub.mk (by simp) (by simp),aB⟩
   .rw[if_neg (by rintro(h|h);exact Ue h;rw[hb]at h;exact Kc (Option.some.inj h))]at aB;have QX:¬b.toNat=32:=fun h=>Kc (UInt8.toNat_inj.1 (by have:(32:UInt8).toNat=32:=rfl;omega))
    have MW:¬(b.toNat:Int)=32:=by omega
    simp[GU,q9,Bh,hsa,MW,hw];exact⟨_,_,aH,Sub.mk (by simp[GU]) (by simp[GU]),aB⟩
 have he:i=s.size+1:=by omega
 subst he;have q9:¬(s.size:Int)+1<=(s.size:Int):=by omega
 clear hJ aI iI;rw[ZsX]at *;have hpz:∀x∈xP s blank,x.size<=1000000:=fun x hx=>by
  have:=Zej blank _ s x hx
  omega
 generalize(tO s (s.size+1)).2=f at *;cases jM:xP s blank with
 |nil=>
  have h:=Li s;rw[jM]at h;cases h
 |cons w0 r=>
 rw[jM]at hpz mJ;have Tm:=Zth w0;have k8:IntKind.i64.wrap 8=8:=rfl;have hen:=ZpH jM;have kZ:=fun l h1 h2=>ZpG (l:=l) jM h1 h2
 have p7:r.length<=1001:=by rw[pA]at mJ;omega
 have D0:=fun x hx=>ZpW x (hpz x hx)
 clear mJ;rcases XW w0 with h|h|h|h|h|h|h
 all_goals
  obtain⟨⟨e0,e1,e2,e3,e4,e5⟩,hm⟩:=h;by_cases hlen:(r.length:Int)=iG w0
  case neg=>
   have T6:=hen (.inl hlen);have oM:¬(r.length:Int)+1=iG w0+1:=by omega
   rw[hm]at oM;simp at oM;simp[GU,q9,cO,Pu,Pv,Pr,Ps,weR,Po,Pd,Il,Ik,Ij,k8,e0,e1,e2,e3,e4,e5,oM];rw[<-hR,T6];exact⟨rfl,rfl⟩
  have oM:(r.length:Int)+1=iG w0+1:=by omega
  rw[hm]at oM
  first|(exfalso;omega)|simp at oM
 all_goals
  replace oM:=eq_true oM;simp[GU,q9,cO,Pu,Pv,Pr,Ps,weR,Po,Il,Ik,Ij,k8,e0,e1,e2,e3,e4,e5,oM];clear oM;have kZ:=fun l h=>kZ l hlen h
  refine dY (fun m τ=>∃(k:Nat) (l:List Int),1<=k/\k<=r.length+1/\m=r.length+1-k/\mO (r.take (k-1))=some l/\l.length=k-1/\τ=YV (w0::r) l k) ⟨r.length,YV (w0::r) [] 1,Sub.trans' (Sub.mk (by simp[AS.cT]) (by simp[AS.cT])) (cT 75 3 1 9 rfl (by decide)),1,[],fE _,by omega,rfl,rfl,rfl,rfl⟩ ?_;rintro J hJ m τ ⟨k,l,iB,hk,rfl,oX,qW,rfl⟩;have hPL:((w0::r).map PV.str).length=r.length+1:=by simp
  by_cases aI:k<r.length+1
  .obtain⟨x,hx⟩:∃x,r[k-1]?=some x:=⟨r[k-1],aX (by omega)⟩;have hg:((w0::r).map PV.str)[k]?=some (.str x):=by
    rw[bR,show k=k-1+1 by omega,List.getElem?_cons_succ,hx];rfl
   have hw:=bA (k:=k) (by omega);have iI:=D0 x (List.mem_cons_of_mem _ (dL hx));have aH:r.length+1-(k+1)<r.length+1-k:=by omega
   have jD:(k:Int)<(r.length:Int)+1:=by omega
   have iH:r.take k=r.take (k-1)++[x]:=by rw[show k=k-1+1 by omega,lX,Nat.add_sub_cancel,hx];rfl
   rw[ZuG]at iI;cases T3:lM x with
   |none=>
    have T6:=hen (.inr (Zet T3 (dL hx)));rw[T3]at iI;clear hJ;unfold YV;generalize(w0::r).map PV.str=PP at *;simp[aI,jD,↓hg,cO];refine .inl<|cQ [] [.str x] iI ?_;simp[Qh];rw[<-hR,T6];exact⟨rfl,by simp⟩
   |some v=>
    rw[T3]at iI;have aB:=hJ _ _ ⟨k+1,l++[v],by omega,by omega,rfl,by rw[Nat.add_sub_cancel,iH];exact Zes T3 oX,by rw[gE];simp;omega,rfl⟩;clear hJ;have HX:l.length+1<=1000000:=by omega
    have VA:l.length<=999999:=by omega
    have hlk:List.take l.length (l.map iP)=l.map iP:=fH (by rw[fQ];exact fE _);unfold YV at aB ⊢;generalize(w0::r).map PV.str=PP at *;simp[hPL,aI,jD,↓hg,cO,aP];refine .inl<|cQ [] [.str x] iI ?_;simp[Qh,HX,hw,aP];exact⟨_,_,aH,Sub.mk (by simp) (by simp[iP]),aB⟩
  .have he:k=r.length+1:=by omega
   subst he;rw[Nat.add_sub_cancel,nC]at oX;have T6:=kZ l oX;have hlk:List.take l.length (l.map iP)=l.map iP:=fH (by rw[fQ];exact fE _);have hg0:((w0::r).map PV.str)[0]?=some (.str w0):=rfl;clear hJ aI;unfold YV;generalize(w0::r).map PV.str=PP at *;simp[↓hg0,hlk,cO];rw[<-hR,T6];exact⟨rfl,by simp⟩
attribute [local irreducible] Bk.rV fK Bk.contra Bk.held Bk.span Bk.nums Bk.iS Bk.rA stM oY tA Bk.fault
theorem Zpw (w:Wk)(r:Except Int Wk):sJ w r=.bM [(w.next r).1.pv,.i (w.next r).2]:=by
 cases r<;>rfl
theorem Zr2 {w:ByteArray}{k:Nat}{g:FuncId}(h:gY w=some (k,g)):(w=jZ/\k=7/\g=161)\/(w=pD/\k=1/\g=162)\/(w=pC/\k=3/\g=163)\/(w=jX/\k=4/\g=164)\/(w=jY/\k=1/\g=165)\/(w=pB/\k=3/\g=166):=by
 unfold gY at h
 repeat' split at h
 all_goals first
  |(cases h;subst_vars;decide)
  |cases h
theorem Rc:decide (pD=jZ)=false:=by decide
theorem Rb:decide (pC=jZ)=false:=by decide
theorem Ra:decide (pC=pD)=false:=by decide
theorem Qz:decide (jX=jZ)=false:=by decide
theorem Qy:decide (jX=pD)=false:=by decide
theorem Qx:decide (jX=pC)=false:=by decide
theorem Qw:decide (jY=jZ)=false:=by decide
theorem Qv:decide (jY=pD)=false:=by decide
theorem Qt:decide (jY=pC)=false:=by decide
theorem Qs:decide (jY=jX)=false:=by decide
theorem Qr:decide (pB=jZ)=false:=by decide
theorem Qq:decide (pB=pD)=false:=by decide
theorem Qo:decide (pB=pC)=false:=by decide
theorem Qm:decide (pB=jX)=false:=by decide
theorem Ql:decide (pB=jY)=false:=by decide
theorem YO {k0:Nat}(w:Wk)(hI:sG k0 w)(hq:k0<=100)(hJ:AR w)(s:ByteArray)(hs:s.size<=1000):aD prog 21 [w.pv,.str s] (.bM [(lS 408 w s).1.pv,.i (lS 408 w s).2]):=by
 have UW:=Zs0 s hs;refine cS L21 ?_;have jL:w.pv=.agg [.aE false 7 (w.aA.map Ct.pv),.aE false 1 (w.bad.map iP),.aE false 4 (w.aJ.map Lt.pv),.aE false 4 (w.aG.map Tt.pv),.aE false 3 (w.runs.map Qn.Rq.pv)]:=rfl;rcases Znp s with⟨Q0,T6⟩|⟨w0,k,g,nums,hp,G4,hn,T6⟩
 .have hd:lS 408 w s=(w,4):=by unfold lS pT;rw[Q0];rfl
  rw[hd];rw[T6]at UW;dsimp only;rw[jL];simp[L21];refine .inl<|cQ [] [_] UW ?_;simp[aM]
 have hd:lS 408 w s=w.next (tF 408 w g nums):=by unfold lS pT;rw[hp]
 rw[T6]at UW;rw[hd];have UP:∀u:Wk,u.pv=.agg [.aE false 7 (u.aA.map Ct.pv),.aE false 1 (u.bad.map iP),.aE false 4 (u.aJ.map Lt.pv),.aE false 4 (u.aG.map Tt.pv),.aE false 3 (u.runs.map Qn.Rq.pv)]:=fun _=>rfl
 rcases Zr2 G4 with⟨rfl,rfl,rfl⟩|⟨rfl,rfl,rfl⟩|⟨rfl,rfl,rfl⟩|⟨rfl,rfl,rfl⟩|⟨rfl,rfl,rfl⟩|⟨rfl,rfl,rfl⟩
 case' inr.inl=>
  obtain⟨a,b,c,d,e,f,h,rfl⟩:∃a b c d e f h,nums=[a,b,c,d,e,f,h]:=by
   match nums,hn with
   |[a,b,c,d,e,f,h],_=>exact⟨a,b,c,d,e,f,h,rfl⟩
  have hc:=ZsT w hI hq ⟨a,b,c,d,e,⟨f,h⟩⟩;rw[show((mB w.aA w.bad ⟨a,b,c,d,e,⟨f,h⟩⟩).map fun l=>{ w with aA:=l })=tF 408 w 161 [a,b,c,d,e,f,h] from rfl]at hc
 case' inr.inr.inl=>
  obtain⟨a,rfl⟩:∃a,nums=[a]:=List.length_eq_one_iff.1 hn;have hc:=Zuv w hI hq a;rw[show((pQ w.aA w.bad a).map fun l=>{ w with bad:=l })=tF 408 w 162 [a] from rfl]at hc
 case' inr.inr.inr.inl=>
  obtain⟨a,b,c,rfl⟩:∃a b c,nums=[a,b,c]:=by
   match nums,hn with
   |[a,b,c],_=>exact⟨a,b,c,rfl⟩
  have hc:=Zm3 w hI hq a b c;rw[show((pK w.aJ ⟨a,b,c,false⟩).map fun l=>{ w with aJ:=l })=tF 408 w 163 [a,b,c] from rfl]at hc
 case' inr.inr.inr.inr.inl=>
  obtain⟨a,b,c,d,rfl⟩:∃a b c d,nums=[a,b,c,d]:=by
   match nums,hn with
   |[a,b,c,d],_=>exact⟨a,b,c,d,rfl⟩
  have hc:=ZmZ w hI hq hJ ⟨a,b,c,d⟩;rw[show((kP (stM w.aA w.bad) (cW w.aA w.bad w.aG) w.aJ w.aG ⟨a,b,c,d⟩).map fun l=>{ w with aG:=l })=tF 408 w 164 [a,b,c,d] from rfl]at hc
 case' inr.inr.inr.inr.inr.inl=>
  obtain⟨a,rfl⟩:∃a,nums=[a]:=List.length_eq_one_iff.1 hn;have hc:=ZsK w hI hq hJ a;rw[show((jK (cW w.aA w.bad w.aG) w.aJ a).map fun l=>{ w with aJ:=l })=tF 408 w 165 [a] from rfl]at hc
 case' inr.inr.inr.inr.inr.inr=>
  obtain⟨a,b,c,rfl⟩:∃a b c,nums=[a,b,c]:=by
   match nums,hn with
   |[a,b,c],_=>exact⟨a,b,c,rfl⟩
  have hc:=Zus w hI a b c;rw[show((runM 408 w.runs a b c).map fun l=>{ w with runs:=l })=tF 408 w 166 [a,b,c] from rfl]at hc
 all_goals
  rw[Zpw]at hc;clear hd hp G4 hn T6;generalize w.next (tF 408 w _ _)=r at *;obtain⟨u,er⟩:=r;dsimp only at hc ⊢;rw[UP u]at hc ⊢;rw[jL]at hc ⊢;simp[L21];refine .inl<|cQ [] [_] UW ?_;simp[aM,Pu,Pv,Pr,Ps,Po,iP,Rc,Rb,Ra,Qz,Qy,Qx,Qw,Qv,Qt,Qs,Qr,Qq,Qo,Qm,Ql];refine .inl<|cQ [] [_,_] hc ?_;simp[aM]
end
section
attribute [local irreducible] Bk.rV fK Bk.contra Bk.held Bk.span Bk.nums Bk.rA stM iC
end
section
attribute [local irreducible] Bk.rV fK Bk.contra Bk.held Bk.span Bk.nums Bk.iS Bk.rA stM oY tA Bk.fault lS
def RU:List AV:=[.pv (.emp (some true)),.pv (.emp (some true)),.pv (.emp (some true)),.pv (.emp (some true)),.pv (.emp (some true))]
def GX (L:List ByteArray)(w:Wk)(es:List Int)(k:Nat):AS:=
 ⟨[(6,.pv (.i (k:Int))),(5,.vec (.loc 28 0) 1 0 es.length),(4,.ptr (.loc 4 0) 0),(2,.ptr (.loc 2 0) 0),(0,.pv (.aE false 1 (L.map .str)))],
  [(.loc 28 0,.arr 3 1 (es.map iP)),(.loc 4 0,.cells w.cells),(.loc 2 0,.cells RU)]⟩
def YW (L:List ByteArray)(w u:Wk)(es:List Int)(e:Int)(k:Nat):AS:=
 ⟨[(6,.pv (.i (k:Int))),(5,.vec (.loc 28 0) 1 0 es.length),(4,.ptr (.loc 4 0) 0),(2,.ptr (.loc 2 0) 0),(0,.pv (.aE false 1 (L.map .str))),(7,.ptr (.loc 7 0) 0),(23,.pv (.i e))],
  [(.loc 28 0,.arr 3 1 (es.map iP)),(.loc 4 0,.cells w.cells),(.loc 2 0,.cells RU),(.loc 7 0,.cells u.cells)]⟩
theorem Zm1 (L:List ByteArray)(hl:L.length<=50)(hs:∀s∈L,s.size<=200):aD prog 11 [bS L] (.bM [(dA (lS 408) jW L).1.pv,.aE false 1 ((dA (lS 408) jW L).2.map iP)]):=by
 have hd:∀k,k<L.length->∀s,L[k]?=some s->aD prog 21 [(dA (lS 408) jW (L.take k)).1.pv,.str s] (.bM [(lS 408 (dA (lS 408) jW (L.take k)).1 s).1.pv,.i (lS 408 (dA (lS 408) jW (L.take k)).1 s).2]):=fun k hk s hx=>
  YO (k0:=0+(L.take k).length) _ (Lh vB AW).1 (by rw[gI];omega) (Lh (k:=0) vB AW).2 s (by have:=hs s (dL hx);omega)
 refine O1 [.loc 28 0] L11 ?_;intro R hR;simp[L11,bS];refine dY (fun m τ=>∃k:Nat,k<=L.length/\m=L.length-k/\τ=GX L (dA (lS 408) jW (L.take k)).1 (dA (lS 408) jW (L.take k)).2 k) ⟨L.length,GX L jW [] 0,?_,0,fT _,rfl,rfl⟩ ?_
 .refine Sub.trans' ?_ (cT 28 3 1 5 rfl (by decide));refine Sub.trans' ?_ (Sub.aY (s:=.loc 4 0) (i:=0) _ rfl rfl (FR 7));refine Sub.trans' ?_ (Sub.aY (s:=.loc 4 0) (i:=1) _ rfl rfl (FR 1));refine Sub.trans' ?_ (Sub.aY (s:=.loc 4 0) (i:=2) _ rfl rfl (FR 4));refine Sub.trans' ?_ (Sub.aY (s:=.loc 4 0) (i:=3) _ rfl rfl (FR 4));refine Sub.trans' ?_ (Sub.aY (s:=.loc 4 0) (i:=4) _ rfl rfl (FR 3));exact Sub.mk (by simp[AS.cT]) (by simp[AS.cT,Wk.cells,jW,RU])
 rintro J hJ m τ ⟨k,hk,rfl,rfl⟩;have qA:=Hk (D:=lS 408) (l:=L.take k) (st:=jW);rw[gI,Nat.min_eq_left hk]at qA;by_cases aI:k<L.length
 .obtain⟨s,hx⟩:∃s,L[k]?=some s:=⟨L[k],aX aI⟩;have hg:(L.map PV.str)[k]?=some (.str s):=by rw[bR,hx];rfl
  have iH:L.take (k+1)=L.take k++[s]:=by rw[lX,hx];rfl
  have hn:=hJ (L.length-(k+1)) _ ⟨k+1,aI,rfl,rfl⟩;rw[iH,ZeD]at hn;have hc:=hd k aI s hx;have hw:=bA (k:=k) (by omega);have aH:L.length-(k+1)<L.length-k:=by omega
  clear hd hJ iH;generalize dA (lS 408) jW (L.take k)=q at hn hc qA ⊢;obtain⟨w,es⟩:=q;dsimp only at hn hc qA ⊢;generalize lS 408 w s=q' at hn hc;obtain⟨u,e⟩:=q';dsimp only at hn hc;have h6:es.length<=999999:=by omega
  have h7:es.length+1<=1000000:=by omega
  have mI:(es.map iP).take es.length=es.map iP:=fH (by simp);have jL:w.pv=.agg [.aE false 7 (w.aA.map Ct.pv),.aE false 1 (w.bad.map iP),.aE false 4 (w.aJ.map Lt.pv),.aE false 4 (w.aG.map Tt.pv),.aE false 3 (w.runs.map Qn.Rq.pv)]:=rfl;have UP:u.pv=.agg [.aE false 7 (u.aA.map Ct.pv),.aE false 1 (u.bad.map iP),.aE false 4 (u.aJ.map Lt.pv),.aE false 4 (u.aG.map Tt.pv),.aE false 3 (u.runs.map Qn.Rq.pv)]:=rfl;rw[jL,UP]at hc;simp[GX,Wk.cells,aI,↓hg,aP];refine EC (fun τ=>τ=YW L w u es e k) ?_ ?_
  .simp[gN,gW]
   repeat' apply And.intro
   all_goals
    refine .inl<|cQ [] [_,_] hc ?_;simp[aM,gN,gW];exact Sub.mk (by simp) (by simp[Wk.cells,RU])
  rintro τ rfl;simp[YW,Wk.cells,aP,h7,hw,RU];exact⟨_,_,aH,Sub.mk (by simp) (by simp[Wk.cells,RU,iP]),hn⟩
 have he:k=L.length:=by omega
 subst he;rw[nC]at qA ⊢;generalize dA (lS 408) jW L=q at *;obtain⟨w,es⟩:=q;dsimp only at *;have mI:(es.map iP).take L.length=es.map iP:=fH (by simp[qA]);simp[GX,Wk.cells,aP,qA,mI,RU];rw[<-hR];exact⟨rfl,rfl⟩
end
theorem Zr4:AX (lS 408) sY 1=.bM [.aE false 1 ([0,1].map iP),.i 0]:=by
 unfold AX;have h1:yX sY=0:=by decide +kernel
 have h2:kn (dA (lS 408) jW sY).1 1=true:=by decide +kernel
 have h3:W9 (dA (lS 408) jW sY).1 1 (dA (lS 408) jW sY).1.aG.length=[0,1]:=by decide +kernel
 rw[if_pos h1,if_pos h2,h3]
theorem Zuj:GQ 408 sY=.bM [.str Zc,.i 0]:=by
 unfold GQ;have h1:yX sY=0:=by decide +kernel
 have h2:BF 408 (dA (lS 408) jW sY).1=Zc.data.toList:=by decide +kernel
 rw[if_pos h1,h2]
theorem XZ:GK [⟨#[97]⟩]=.bM [.aE false 1 (bP SO.data.toList),.i 0]:=by
 unfold GK;have h1:yX [⟨#[97]⟩]=0:=by decide +kernel
 have h2:kD [⟨#[97]⟩] 0=SO.data.toList:=by decide +kernel
 rw[if_pos h1,h2]
theorem Zu:aD prog 5 [] (.bool true):=by
 have hF:407<408:=by decide
 have c1:=ZrZ hF (sY++sZ) (by decide);rw[Zr5]at c1;have c2:=Zj2 hF sY (by decide) 1;rw[Zr4]at c2;have c3:=Zrp hF sY (by decide);rw[Zuj]at c3;have c4:=Zui [⟨#[97]⟩] (by decide);rw[XZ]at c4;have c5:=ZoH [0,1] [0,1] (by decide);generalize hw:(dA (lS 408) jW (sY++sZ)).1=w at c1;refine V1 L5 ?_;intro R hR;simp[L5];refine .inl (R7 [] (fs:=[]) (xs:=[]) (cs:=[]) (d:=11) rfl rfl Yp ?_);rintro r B ⟨rfl,rfl⟩;refine⟨by simp,?_⟩;simp[sY,aP];refine .inl (cP [.loc 13 0] [bS (sY++sZ)] (by simp) (by simp[bS,sY,sZ]) c1 ?_);simp[Wk.pv];refine .inl (R7 [] (fs:=[]) (xs:=[]) (cs:=[]) (d:=19) rfl rfl Yp ?_);rintro r B ⟨rfl,rfl⟩;refine⟨by simp,?_⟩;simp[sY];refine .inl (cP [.loc 19 0] [bS sY,.i 1] (by simp) (by simp[bS,sY]) c2 ?_);simp;refine .inl (R7 [] (fs:=[]) (xs:=[]) (cs:=[]) (d:=24) rfl rfl Yp ?_);rintro r B ⟨rfl,rfl⟩;refine⟨by simp,?_⟩;simp[sY,aP];refine .inl (cP [.loc 24 0] [bS sY] (by simp) (by simp[bS,sY]) c3 ?_);simp;refine .inl (cP [.loc 29 0] [bS [⟨#[97]⟩]] (by simp) (by simp[bS]) c4 ?_);simp[iE,iP];refine .inl (cP [.loc 88 0] [.aE false 1 ([0,1].map iP),.aE false 1 ([0,1].map iP)] (by simp) (by simp[iP]) c5 ?_);have hs:EB (bP SO.data.toList)=some ((SO.data.toList).map fun b=>(b.toNat:Int)):=by decide +kernel
 have qV:NU ((SO.data.toList).map fun b=>(b.toNat:Int))=SO:=by decide +kernel
 have hr:Zc.toList=[108,111,116,32,55,32,116,101,115,116,115,32,50,32,111,112,101,110,10,99,101,114,116,115,32,49,32,104,101,108,100,32,49,32,98,97,100,32,48,10,101,110,100,32,48,10]:=by rw[Lib.toList_data];rfl
 have C8:SO.toList=[123,48,48,49,58,57,57,56,58,48,48,49,48,57,125,97,10]:=by rw[Lib.toList_data];rfl
 simp[hs,qV,hr,C8];rw[<-hR];exact⟨by simp,by simp⟩


section
attribute [local simp] ZfQ ZfP ZfO Zdt Zfl Zfm Zeo
attribute [local simp] AS.exp jV aL.iW AV.map AV.iR rB dO Site.uI aL.dC AV.dC AV.hZ aT cK AS.lY eY gH bX oV kB s6
end
section


theorem ZjN {L:List ByteArray}:yX L=JY L:=by
 have hf:IX L=L.all (fun s=>decide (s.size<=200)):=rfl;unfold yX JY w9;rw[hf];by_cases h1:L.length<=50
 .have H4:¬50<L.length:=by omega
  by_cases h2:L.all (fun s=>decide (s.size<=200))=true
  .simp only[h1,H4,h2];rfl
  .rw[Bool.not_eq_true]at h2;simp only[h1,H4,h2];rfl
 .have H4:50<L.length:=by omega
  simp[h1,H4]
attribute [local irreducible] Bk.rV fK Bk.contra Bk.held Bk.span Bk.nums Bk.iS Bk.rA stM oY tA Bk.fault lS
def Jd (L:List ByteArray)(w:Wk)(es:List Int)(k:Nat):AS:=
 ⟨[(2,.pv (.bool false)),(4,.pv (.aE false 1 (es.map iE))),(8,.pv (.aE false 1 (es.map iP))),(9,.pv (.i (k:Int)))],[]⟩
theorem ZjD {L:List ByteArray}(h:JY L=0):w9 L=true:=by
 unfold JY at h;by_cases h':w9 L=true
 .exact h'
 .rw[if_neg h']at h;cases h
theorem ZsY (L:List ByteArray)(hl:L.length<=9223372036854775807):aD prog 3 [bS L] (.bool true):=by
 have hth:=ZtY L hl;refine V1 L3 ?_;intro R hR;simp[L3];refine cG [bS L] hth ?_;cases ht:rC L with
 |false=>
  simp;refine cG [] Zu ?_;simp;rw[<-hR];exact⟨rfl,by simp⟩
 |true=>
 have Js:L.length<=55:=by
  unfold rC at ht;rw[dK,decide_eq_true_eq]at ht;exact ht.2
 have Ck:=ZtZ L (by omega);have qA:=Zq0 L (by omega);have mJ:=ZrZ (F:=408) (by decide) L (by omega);unfold n9 at mJ;rw[ZjN]at mJ;simp;refine .inl (cQ [] [bS L] Ck ?_);simp;refine .inl (cQ [] [bS L] mJ ?_);by_cases hf:JY L=0
 .rw[if_pos hf];rw[hf]at qA;obtain⟨y5,Ah⟩:=Zi7 (ZjD hf);have hrp:=Zm1 L y5 Ah;have hlen:=Hk (D:=lS 408) (l:=L) (st:=jW);have hI:=(Lh (l:=L) (k:=0) vB AW).1;generalize dA (lS 408) jW L=q at *;obtain⟨w,es⟩:=q;dsimp only at *;have cU:=Lq _ _ (show 0+L.length<=50 by omega) hI;have bQ:=Zo0 w cU.c cU.b (by have:=cU.l;omega) (by have:=cU.t;omega) cU.r cU.on;have C6:=Zrw w cU.c cU.b (by have:=cU.l;omega) (by have:=cU.t;omega) cU.r cU.on;have jL:w.pv=.agg [.aE false 7 (w.aA.map Ct.pv),.aE false 1 (w.bad.map iP),.aE false 4 (w.aJ.map Lt.pv),.aE false 4 (w.aG.map Tt.pv),.aE false 3 (w.runs.map Qn.Rq.pv)]:=rfl;rw[jL]at bQ C6 hrp ⊢;simp;refine cG [bS L] qA ?_;simp;refine .inl (cQ [] [bS L] hrp ?_);simp;refine cQ [] [_] bQ ?_;simp[aM,hlen];refine cG [_,_] C6 ?_;simp;refine dY (fun m τ=>∃k:Nat,k<=es.length/\m=es.length-k/\τ=Jd L w es k) ⟨es.length,Jd L w es 0,Sub.mk (by simp) (by simp),0,fT _,rfl,rfl⟩ ?_;rintro J hJ m τ ⟨k,hk,rfl,rfl⟩;by_cases aI:k<es.length
  .obtain⟨e,hx⟩:∃e,es[k]?=some e:=⟨es[k],aX aI⟩;have hg:(es.map iP)[k]?=some (.i e):=by rw[bR,hx];rfl
   have Bp:(es.map iE)[k]?=some (.i e):=by rw[bR,hx];rfl
   have hw:=bA (k:=k) (by omega);have hn:=hJ (es.length-(k+1)) _ ⟨k+1,aI,rfl,rfl⟩;have aH:es.length-(k+1)<es.length-k:=by omega
   simp[Jd,aI,↓hg,↓Bp,hw];exact⟨_,_,aH,Sub.mk (by simp) (by simp),hn⟩
  have he:k=es.length:=by omega
  subst he;simp[Jd];refine cG [] Zu ?_;simp;rw[<-hR];exact⟨rfl,by simp⟩
 .have h3:JY L=3:=by
   unfold JY at hf ⊢;by_cases h':w9 L=true
   .rw[if_pos h']at hf;exact absurd rfl hf
   .rw[if_neg h']
  rw[if_neg hf];rw[h3]at qA;have bQ:=Zo0 jW (fT _) (fT _) (fT _) (fT _) (fT _) (fun _ h=>by cases h);have Af:=Zrw jW (fT _) (fT _) (fT _) (fT _) (fT _) (fun _ h=>by cases h);have jL:jW.pv=.agg [.aE false 7 [],.aE false 1 [],.aE false 4 [],.aE false 4 [],.aE false 3 []]:=rfl;rw[jL]at bQ Af ⊢;have C6:aD prog 9 [.agg [.aE false 7 [],.aE false 1 [],.aE false 4 [],.aE false 4 [],.aE false 3 []],.agg [.emp (some true),.emp (some true),.emp (some true),.emp (some true),.emp (some true)]] (.bool true):=by
   refine cN.Ku (ys:=[.agg [.aE false 7 [],.aE false 1 [],.aE false 4 [],.aE false 4 [],.aE false 3 []],.agg [.aE false 7 [],.aE false 1 [],.aE false 4 [],.aE false 4 [],.aE false 3 []]]) Af rfl ?_;intro j x y m v hx hy h
   match j with
   |0=>cases hx;cases hy;exact h
   |1=>cases hx;cases hy;exact GH 5 _ _ rfl _ _ h
  simp;refine cG [bS L] qA ?_;simp;refine .inl (cQ [] [_] bQ ?_);simp[aM];refine cG [_,_] C6 ?_;simp;refine cG [] Zu ?_;simp;rw[<-hR];exact⟨rfl,by simp⟩
end
section
open Go.ChangeShapes Go.WideShapes Go.ChangeAt Go.RowKit
theorem Zg0 (v0:Value)(W:World){H:Type}{enc:TypeId×Value->H}{base:Nat}{sp:Nat->Bool}{hd:Bool}{d0:DataW H}{p0:List MemPlace}(hg:nL W.mem W)
  (k0:Value.okWide prog W .any base 22 v0) (h0:DataW.Trod enc prog W 0 sp hd 22 v0 d0 p0):
  Calls prog 3 #[v0] W fun e w'=>e=.returned (.bool true)/\cV [] W w':=by
 obtain⟨n0,h0⟩:=h0;obtain⟨s0,w0,r0⟩:=ZsS k0 h0;refine Zl3 (xs:=[bS s0]) (b:=true) ((ZsY s0 w0).mono (fun _ _ h=>h.1)) rfl (fun j v x e1 e2=>?_) hg
 match j with
 |0=>simp at e1 e2;subst e1 e2;exact r0
 |j+1=>simp at e1
theorem ZfI (os:Os)(started:os.Started)(H:Type)(enc:TypeId×Value->H):
  ReturnsInHanded {} checked os 3 .any (fun w args=>(Rows.bookPlaysSpec.pre enc prog f3 Rows.bookPlaysRow.domain false w args/\laidMetH prog Rows.bookPlaysRow.laid w)/\sizedMet enc prog f3 (OpenSpec.ofChange Rows.bookPlaysSpec) false w args)
   (Rows.bookPlaysSpec.post enc prog f3 false true false false):=by
 refine Zjw (C:=checked) (X:=fun w _=>laidMetH prog Rows.bookPlaysRow.laid w) (fun _ _ _ hh h=>h.of_heap hh) own started (by kernel_rfl) func3
  (ChangeSpec.witness_shaped (enc:=enc) (C:=checked) (os:=os) (X:=fun w _=>laidMetH prog Rows.bookPlaysRow.laid w) false (World.laidAll prog os Rows.bookPlaysRow.laid) #[.slice none 0 0] 8 (World.laidAll_os _ _ _)
   (World.shaped_of_ZipB (by kernel_rfl) (by kernel_rfl)) (by kernel_rfl) (by kernel_rfl) (by kernel_rfl)
   (by rw[MakeChecks.laidMetH_plain _ _ _ (by kernel_rfl)];exact laidMet_laidAll _ (by kernel_rfl) (by kernel_rfl))) ?_
 intro W base args ds gs before ZY hW hL HR;have nW:∀(j:Nat) t v,f3.params[j]?=some t->args[j]?=some v->Value.okWide prog W .any base t v:=ZY;rw[MakeChecks.laidMetH_plain _ _ _ (by kernel_rfl)]at hL;have hg:=ZtK HR (Lib.laidMet.reads hL (by simp[Rows.bookPlaysRow])) (Lib.laidMet.reads hL (by simp[Rows.bookPlaysRow])) (Lib.laidMet.reads hL (by simp[Rows.bookPlaysRow]));have Ve:=hW;obtain⟨p,q,hA0,hV,rfl,hfz,pW⟩:=hW;have hA:DataW.TrodAll enc prog W 0 (fun _=>true) true f3.params.toList args.toList ds p:=hA0;rw[params3]at hA nW;obtain⟨v0,vs0,d0,Wg,p0,q0,fY,rfl,rfl,h0,r0⟩:=trodAll_cons hA;obtain⟨rfl,rfl,rfl⟩:=trodAll_nil r0;have QZ:args=#[v0]:=by
  apply Array.ext';exact fY
 subst QZ;have k0:=nW 0 _ v0 rfl rfl;obtain⟨rfl,rfl⟩:=trodVars_none hV;refine(Zg0 v0 W hg k0 h0).mono fun e W' ⟨he,hk⟩=>?_
 subst he;exact⟨_,rfl,ZpI (tb:=4) LX Zry Dl (by decide +kernel) rfl rfl rfl underlying4 Ve hk⟩
end
theorem Zit {P:Program}{f:FuncId}{fn:Func}{s:ChangeSpec}{c:OpenClaim}(k0:(c.wf (OpenSpec.ofChange s))=true)(k1:(laidOutB P)=true)(k2:(mapsRowed P)=true)(k3:(fn.params.all (P.readableRec ·))=true)(k4:(namedTie P c.named s.vars)=true)(k5:((c.stops==[]))=true)(k6:((P.stops==[]))=true)(k7:((c.knobs==[]))=true)(k8:((P.stopKnobs==[]))=true)(k9:((c.inPlace==P.inPlace f))=true)(Rj:((c.unfollowed==P.unfollowed f))=true)(Ri:((c.recurses==P.recurses f))=true)(k12:((c.named==P.varsNamed f))=true)(k13:((c.maps==(fn.params.toList++s.plain.varTypes P).any (P.mapsRec ·)))=true)(k14:((c.ifaces==(fn.params.toList++s.plain.varTypes P).any (P.ifacesRec ·)))=true)(k15:((c.mapsOut==P.mapsAmong fn.resultTypes.toList))=true)(k16:((c.loops==(fn.params.toList++s.plain.varTypes P).any (P.loopsFrom ·)))=true)(k17:((c.wideKeys==(fn.params.toList++s.plain.varTypes P++fn.resultTypes.toList).any (P.wideKeysFrom ·)))=true)(k18:(s.vars.all (P.varReadable ·))=true)(k19:(fn.resultTypes.all (fun t=>P.readableRec t&&decide (t<P.types.size)))=true)(k20:((c.ifacesOut==fn.resultTypes.toList.any (P.ifacesRec ·)))=true)(k21:((c.loopsOut==fn.resultTypes.toList.any (P.loopsFrom ·)))=true)(k22:((c.plainKeys==P.plainKeys))=true)(k23:(c.shortTexts.isNone)=true)(k24:(P.stopsHeard)=true)(k25:(P.mayEnter)=true)(k26:((c.lifted==P.liftsFinal))=true)(k27:((P.make==some c.make))=true)(k28:((c.kinds==(if c.domain.isEmpty then[]else fn.params.toList.map fun t=>match P.underlying t with|some (.int k)=>some k|_=>none)))=true)(k29:((c.pinned==c.pinnedBy))=true)(k30:((c.veiled==(fn.params.toList++s.plain.varTypes P++fn.resultTypes.toList).any (P.veiledRec ·)))=true)(k31:(c.veiledFits P fn.params.toList (fn.params.toList++s.plain.varTypes P++fn.resultTypes.toList))=true):joinedFacts P f fn s c=true:=by
 unfold joinedFacts;simp only[dK];exact⟨⟨⟨⟨⟨⟨⟨⟨⟨⟨⟨⟨⟨⟨⟨⟨⟨⟨⟨⟨⟨⟨⟨⟨⟨⟨⟨⟨⟨⟨⟨k0,k1⟩,k2⟩,k3⟩,k4⟩,k5⟩,k6⟩,k7⟩,k8⟩,k9⟩,Rj⟩,Ri⟩,k12⟩,k13⟩,k14⟩,k15⟩,k16⟩,k17⟩,k18⟩,k19⟩,k20⟩,k21⟩,k22⟩,k23⟩,k24⟩,k25⟩,k26⟩,k27⟩,k28⟩,k29⟩,k30⟩,k31⟩
theorem bM0:(Rows.bookPlaysRow.wf (OpenSpec.ofChange Rows.bookPlaysSpec))=true:=by kernel_rfl
theorem bM1:(laidOutB prog)=true:=LX
theorem bM2:(mapsRowed prog)=true:=Zry
theorem bM3:(f3.params.all (prog.readableRec ·))=true:=by kernel_rfl
theorem bM4:(namedTie prog Rows.bookPlaysRow.named Rows.bookPlaysSpec.vars)=true:=by kernel_rfl
theorem bM9:((Rows.bookPlaysRow.inPlace==prog.inPlace 3))=true:=by kernel_rfl
theorem Wy:((Rows.bookPlaysRow.unfollowed==prog.unfollowed 3))=true:=by kernel_rfl
theorem Wx:((Rows.bookPlaysRow.recurses==prog.recurses 3))=true:=by kernel_rfl
theorem Ww:((Rows.bookPlaysRow.named==prog.varsNamed 3))=true:=by kernel_rfl
theorem Wv:((Rows.bookPlaysRow.plainKeys==prog.plainKeys))=true:=by kernel_rfl
theorem Wu:(prog.stopsHeard)=true:=by kernel_rfl
theorem Wt:(prog.mayEnter)=true:=by kernel_rfl
theorem Ws:((Rows.bookPlaysRow.lifted==prog.liftsFinal))=true:=by kernel_rfl
theorem Wr:((prog.make==some Rows.bookPlaysRow.make))=true:=by kernel_rfl
theorem Zq6:joinedFacts pinned.checked.prog 3 f3 Rows.bookPlaysSpec Rows.bookPlaysRow=true:=
 Zit bM0 bM1 bM2 bM3 bM4 (by kernel_rfl) (by kernel_rfl) (by kernel_rfl) (by kernel_rfl) bM9 Wy Wx Ww (by kernel_rfl) (by kernel_rfl) (by kernel_rfl) (by kernel_rfl) (by kernel_rfl) (by kernel_rfl) (by kernel_rfl) (by kernel_rfl) (by kernel_rfl) Wv (by kernel_rfl) Wu Wt Ws Wr (by kernel_rfl) (by kernel_rfl) (by kernel_rfl) (by kernel_rfl)
section
open Go.ChangeShapes Go.WideShapes Go.ChangeAt Go.RowKit
theorem Zq7 (os:Os)(started:os.Started)(H:Type)(enc:TypeId×Value->H):ReturnsInHanded Rows.bookPlaysRow.assume pinned.checked os 3 .any (Rows.bookPlaysRow.pre enc pinned.checked.prog f3 (OpenSpec.ofChange Rows.bookPlaysSpec)) (Rows.bookPlaysSpec.post enc pinned.checked.prog f3 Rows.bookPlaysRow.apart Rows.bookPlaysRow.fresh Rows.bookPlaysRow.handsOn Rows.bookPlaysRow.again):=ZfI os started H enc
theorem Zhf:Rows.bookPlaysRow.holds pinned (OpenSpec.ofChange Rows.bookPlaysSpec):=
 OpenClaim.holds_of_wide 3 f3 rfl rfl rfl rfl rfl rfl rfl ⟨rfl,rfl,rfl,rfl,rfl⟩ rfl rfl rfl rfl rfl (by kernel_rfl) func3 Zq6
  (of_decide_eq_true (by kernel_rfl)) (by unfold Func.isWrapper;first|(rw[if_pos (by decide +kernel)];kernel_rfl)|(rw[if_neg (by decide +kernel)];exact⟨rfl,rfl⟩))
  (fun os started H enc _=>Zq7 os started H enc)
theorem Wp:Rows.bookPlaysRow.wfByText (OpenSpec.ofChange Rows.bookPlaysSpec)=true:=by kernel_rfl
theorem Zve : pinned.checked.prog.mainIs = some (true, "6e22ed0afdf4fef16f6a01046d8c08be800e834c5ad05fb97f1c7ebea2db1dd2".toList) := by kernel_rfl
theorem Zt4:true=pinned.checked.prog.looks []:=by kernel_rfl
theorem Wq:false=Rows.bookPlaysRow.goesBy pinned.checked.prog:=by kernel_rfl
theorem Zt3 : prog.funcNamed "tensile/tensilelaw12.BookPlays" = some 3 := by kernel_rfl
theorem Zt2:([22].all fun u=>!prog.wantsStandIn u)=true:=by kernel_rfl
theorem cardBookPlays:Rows.BookPlaysCardSaid:=
 Claim7.holds_tied_plain_at .later [] [.data, .data, .data, .data, .sentinel, .sentinel, .pinned] true (true, "6e22ed0afdf4fef16f6a01046d8c08be800e834c5ad05fb97f1c7ebea2db1dd2") true
  Zhf (fun _ h=>by cases h) Wp (fun _ h=>by cases h) bookPlays_row_tie rfl ⟨rfl,rfl⟩ Zve rfl
  (fun f fn hf pZ=>by
   obtain rfl:f=3:=Option.some.inj (Zt3.symm.trans hf) |>.symm;obtain rfl:fn=f3:=(Option.some.inj (func3.symm.trans pZ)).symm;exact⟨Zt4,fun j t ht=>by
    rw[params3]at ht;have hm:t∈([22]:List TypeId):=by simpa using Array.mem_of_getElem? ht
    exact(show prog.wantsStandIn t=false by simpa using qZ.1 Zt2 t hm)⟩)
  Wq
end
end Go.Proofs.YthmbecacehfgfaaGreatDoor
