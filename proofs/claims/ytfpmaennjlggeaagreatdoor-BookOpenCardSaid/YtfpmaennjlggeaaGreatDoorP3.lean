/- The registrar's book: what the statement needs, joined and shortened by program. -/
import Derived.Test.YtfpmaennjlggeaaGreatDoorP0
import Derived.Test.YtfpmaennjlggeaaGreatDoorP2
import Derived.Test.YtfpmaennjlggeaaGreatDoorP1
import Derived.Test.YtfpmaennjlggeaaGreatDoorProg
set_option linter.unusedSimpArgs false
set_option linter.unusedVariables false
namespace Go.Proofs.YtfpmaennjlggeaaGreatDoor
section
open Go.RowKit
set_option maxRecDepth 10000
structure Cons (P:Program) where
 m:Nat
 S:Type
 X:S→List Box
 step:S→PV→S×Bool
 good:PV→Prop
 live:S→Prop
 m0:0<m
 len:∀s,(X s).length=m
 cl:∀s,ZcD m (X s)
 yields:∀s x,live s→good x→ZcT P 0 [.pv x] (laid 0 (X s)) (fun r B=>r=.pv (.bool (step s x).2)∧B=laid 0 (X (step s x).1))
 goes:∀s x,live s→good x→(step s x).2=true→live (step s x).1
def Cons.run {P:Program}(C:Cons P):C.S→List PV→C.S×Bool
 |s,[]=>(s,true)
 |s,x::r=>match(C.step s x).2 with
  |true=>C.run (C.step s x).1 r
  |false=>((C.step s x).1,false)
theorem Cons.run_app {P:Program}{C:Cons P}:∀(a b:List PV) (s:C.S),C.run s (a++b)=match(C.run s a).2 with
  |true=>C.run (C.run s a).1 b
  |false=>C.run s a
 |[],b,s=>rfl
 |x::a,b,s=>by
  rw[ZwI,Cons.run,Cons.run];split
  ·exact Cons.run_app a b _
  ·rfl
theorem Cons.run_one {P:Program}{C:Cons P}(s:C.S)(x:PV):C.run s [x]=C.step s x:=by
 rw[Cons.run];split
 ·rename_i h;rw[Cons.run];exact Prod.ext rfl h.symm
 ·rename_i h;exact Prod.ext rfl h.symm
theorem Zem {P:Program}{C:Cons P}{c:C.S}{k:Nat}:((laid 0 (C.X c)).filter fun p=>!p.1.isLoc k).map (fun p=>(p.1,p.2.purge k))=laid 0 (C.X c):=Zfu (C.cl c)
theorem ZgJ {P:Program}{C:Cons P}{c:C.S}:(laid 0 (C.X c)).filter (fun p=>!p.1.lt C.m)=[]:=ZiH (by rw[C.len];omega)
theorem ZbB {tm:List (Nat×AV)}{X:List Box}:sees ⟨tm,laid 0 X⟩ X:=by
 have:=Zcu (tm:=tm) (X:=X) (r:=[])
 rwa [Zwn]at this
def badZ (l:List Int):List AV:=(List.range 1000).map fun i:Nat=>.pv (.bool (l.contains (i:Int)))
theorem Zi0 {l:List Int}{n:Nat}(h:n<1000):(badZ l)[n]?=some (.pv (.bool (l.contains (n:Int)))):=by
 unfold badZ;rw[Zv0,List.getElem?_range h];rfl
theorem Zb0:bad0=badZ []:=by
 refine List.ext_getElem? (fun n=>?_);unfold bad0 badZ;rw[Zv0];by_cases h:n<1000
 ·rw[List.getElem?_range h,List.getElem?_replicate,if_pos h];rfl
 ·rw[List.getElem?_replicate,if_neg h,List.getElem?_eq_none (by rw[List.length_range];omega)];rfl
theorem ZrU {l:List Int}{n:Nat}(h:n<1000):(badZ l).set n (.pv (.bool true))=badZ (l++[(n:Int)]):=by
 refine List.ext_getElem? (fun k=>?_);by_cases hk:k<1000
 ·rw[List.getElem?_set,Zi0 hk,Zi0 hk];by_cases e:n=k
  ·subst e;rw[if_pos rfl,if_pos (by unfold badZ;rw[Zv6,List.length_range];exact h)];simp
  ·rw[if_neg e];congr 3;rw[ZwD,Zwk,Zwk,Zwv];constructor
   ·exact .inl
   ·rintro(h|h)
    ·exact h
    ·simp at h;omega
 ·rw[List.getElem?_eq_none (by unfold badZ;simp;omega),List.getElem?_eq_none (by unfold badZ;simp;omega)]
theorem ZiZ {l:List Int}:(badZ l).length=1000:=by unfold badZ;simp
theorem Zgv {α:Type}{f:α→PV}{d:Nat}:∀l:List α,AV.hasL d (l.map fun x=>.pv (f x))=false
 |[]=>rfl
 |x::l=>by rw[Zwd];simp only[AV.hasL,AV.has,Zgv l];rfl
theorem Zgw {α:Type}{f:α→PV}{q:Site→Bool}:∀l:List α,AV.allSL q (l.map fun x=>.pv (f x))=true
 |[]=>rfl
 |x::l=>by rw[Zwd];simp only[AV.allSL,AV.allS,Zgw l];rfl
theorem Zgt {α:Type}{f:α→PV}{d:Nat}(l:List α):(l.map fun x=>AV.pv (f x)).map (AV.purge d)=l.map fun x=>.pv (f x):=by
 rw[List.map_map];rfl
theorem Zgu {α:Type}{f:α→PV}{g:Site→Site}:∀l:List α,AV.mapL g (l.map fun x=>.pv (f x))=l.map fun x=>.pv (f x)
 |[]=>rfl
 |x::l=>by rw[Zwd];simp only[AV.mapL,AV.map,Zgu l]
theorem ZaC {l:List Int}(d:Nat):AV.hasL d (badZ l)=false:=Zgv _
theorem Zax {l:List Int}(q:Site→Bool):AV.allSL q (badZ l)=true:=Zgw _
theorem Zam {l:List Int}(d:Nat):(badZ l).map (AV.purge d)=badZ l:=Zgt _
theorem Zaz {l:List Int}(g:Site→Site):AV.mapL g (badZ l)=badZ l:=Zgu _
theorem Zty {fz outs:List Site}{rs:List LRes}{R:AV→List (Site×Box)→Prop}{σ:AS}(h:retB outs rs R (frzL fz σ)):retWp rs R σ:=by
 obtain⟨l,h1,h2,h3,h4,h5⟩:=h;exact⟨fz,outs,l,h1,h2,h3,fun s hs b hb=>Zfk h4 s hs b hb,h5⟩
theorem ZiX {P:Program}(fz outs:List Site){f:FuncId}{F:LFn}{args:List AV}{B:List (Site×Box)}{R:AV→List (Site×Box)→Prop}(hm:P.follows .mixedOrders=true)(hf:litF P f=some F)(hn:args.length≤F.nt)
  (h:awpS P F.code (finQ (fun σ=>retB outs F.res R (frzL fz σ))) ⟨initT 0 args,B⟩):Zak P f args B R:=Zbb hm hf hn (fun _ h=>Zty h) (Zbe h)
section
attribute [local simp] Box.purge Site.isLoc
attribute [local simp] retFz frzL AS.frz AV.frz AV.frzL Box.frz AS.tidy AS.frzC
theorem Zln (b:Bk)(hi:b.items.length≤1000)(hc:b.certs.length≤1000):Gives Tryz.prog 215 [b.pv] (.int .i64 b.fault):=by
 have hr:=Zjq b hi hc;refine cS L215 ?_;simp[-getElem?_pos,L215,Bk.pv];refine cL [.pv b.pv] [] 7 [] rfl hr ?_
 rintro r0 B0 (⟨h0,rfl,rfl⟩|⟨h0,es,hes,rfl,rfl⟩)
 ·refine⟨rfl,by simp,?_⟩;simp[-getElem?_pos,AV.map,AV.mapL,outG,AS.adds,renL,dropL]
 ·refine⟨rfl,by simp[outOk,wkC,Box.allS,AV.allS,AV.allSL,Zb0,Zax],?_⟩;simp[-getElem?_pos,AV.map,AV.mapL,outG,AS.adds,renL,dropL,Box.ren,wkC,Zb0,Zaz,h0]
structure WAt (b:Bk)(bad:List Int)(es:List (PV×PV))(X:List Box)(jw jm:Nat):Prop where
 w:X[jw]?=some (.cells (wkC b (.par jm) (badZ bad)))
 m:X[jm]?=some (.map es)
def ofF (s:Site)(item day below:Int):AV:=.fn 124 [] [.ptr s 0,.pv (.ref [.int .i64 below]),.pv (.ref [.int .i64 item]),.pv (.ref [.int .i64 day])]
attribute [local simp] AS.exp expG Box.ren AV.map AV.mapL noRet Site.isRet Box.allS AV.allS AV.allSL
theorem Za4 {l:List Int}{s:Site}{n:Nat}{xs:List PV}:AV.frzL s n xs (badZ l)=badZ l:=by
 have:∀k:List Nat,AV.frzL s n xs (k.map fun i:Nat=>.pv (.bool (l.contains (i:Int))))=k.map fun i:Nat=>.pv (.bool (l.contains (i:Int))):=fun k=>by
  induction k with
  |nil=>rfl
  |cons x k ih=>rw[Zwd];simp only[AV.frzL,AV.frz,ih]
 exact this _
def wkB (b:Bk)(bad:List Int)(es:List (PV×PV)):List Box:=[.cells (wkC b (.par 1) (badZ bad)),.map es]
theorem of_c (b:Bk)(bad:List Int)(es:List (PV×PV))(item day below:Int):Zak Tryz.prog 78 [.ptr (.par 0) 0,.pv (.int .i64 item),.pv (.int .i64 day),.pv (.int .i64 below)] (laid 0 (wkB b bad es)) (fun r B=>r=ofF (.ret 0) item day below∧B=(.ret 0,.cells [.ptr (.par 0) 0])::laid 0 (wkB b bad es)):=by
 refine ZiX [.loc 5 0,.loc 6 0,.loc 7 0] [.loc 4 0,.par 0,.par 1] mixed L78_ok (ZvY rfl) ?_;generalize hR:(fun(r:AV) (B:List (Site×Box))=>r=ofF (.ret 0) item day below∧B=(.ret 0,.cells [.ptr (.par 0) 0])::laid 0 (wkB b bad es))=R;simp[-getElem?_pos,L78,laid,wkB,wkC,unpvs,fnA,ZaC,Zam,Za4];simp[retB,Zaw,ZaC,Zam,Za4,Zax,Zaz,Zww];rw[←hR];refine⟨rfl,?_⟩;simp[laid,wkB,wkC]
end
attribute [local simp] ZjQ ZjP ZjO Zgj Zjt Zju Zhl Zem
attribute [local simp] AV.map AV.mapL noRet Site.isRet Box.allS AV.allS AV.allSL AS.adds
def ctsV (l:List Ct):List PV:=l.map Ct.pv
def Bk.ofK (b:Bk)(item day below:Int)(k:Nat):List Ct:=((b.nums.take k).map b.get).filter (Bk.ofB item day below)
theorem ZqK {b:Bk}{item day below:Int}{k:Nat}{n:Int}(h:b.nums[k]?=some n):b.ofK item day below (k+1)=b.ofK item day below k++(if Bk.ofB item day below (b.get n)=true then[b.get n]else[]):=by
 unfold Bk.ofK;rw[Zwf,h,Zwp,ZwM];congr 1;simp only[Option.toList,Zwd,List.map_nil,ZwJ,List.filter_nil]
theorem ZtL {b:Bk}{item day below:Int}(k:Nat):b.ofL item day below=b.ofK item day below k++((b.nums.drop k).map b.get).filter (Bk.ofB item day below):=by
 unfold Bk.ofK Bk.ofL;rw[←ZwM,←Zwp,ZwY]
theorem ZqL {b:Bk}{item day below:Int}:b.ofK item day below b.nums.length=b.ofL item day below:=by
 unfold Bk.ofK Bk.ofL;rw[Zwm]
theorem ZdX {b:Bk}:b.nums.length≤1000:=by
 unfold Bk.nums;rw[Zv6];exact Zwh (ZwN _ _) (by rw[List.length_range];exact Zv5 _)
theorem ZgK {X:List Box}{j:Nat}{b:Box}(h:X[j]?=some b):(laid 0 X).lookup (.par j)=some b:=by
 have:=ZiI X 0 j
 rw[ZwC]at this;rw[this,h]
set_option maxHeartbeats 8000000 in
theorem ZjM (C:Cons Tryz.prog)(b:Bk)(hb:b.ok)(bad:List Int)(es:List (PV×PV))(hes:CMap b es)(j0 jw jm:Nat)(hW:∀c,C.live c→WAt b bad es (C.X c) jw jm)(h0:∀c,C.live c→(C.X c)[j0]?=some (.cells [.ptr (.par jw) 0]))
  (item day below:Int) (c:C.S) (hc:C.live c) (hg:∀x∈b.ofL item day below,C.good x.pv):
  Zak Tryz.prog 124 [.yld (.par 0),.ptr (.par j0) 0,.pv (.ref [.int .i64 below]),.pv (.ref [.int .i64 item]),.pv (.ref [.int .i64 day])] (laid 0 (C.X c)) (fun r B=>r=.pv (.tup [])∧B=laid 0 (C.X (C.run c (ctsV (b.ofL item day below))).1)):=by
 have hlen:=ZdX (b:=b);refine Zaf (parsN C.m) mixed L124_ok (ZvY rfl) ?_;generalize hR:(fun(r:AV) (B:List (Site×Box))=>r=.pv (.tup [])∧B=laid 0 (C.X (C.run c (ctsV (b.ofL item day below))).1))=R;have k0:=ZgK (h0 c hc);have kw:=ZgK (hW c hc).w;simp[-getElem?_pos,L124,k0,kw,wkC];refine Zae (fun n τ=>∃(k:Nat) (c':C.S),k≤b.nums.length∧n=b.nums.length-k∧C.run c (ctsV (b.ofK item day below k))=(c',true)∧C.live c'∧τ=⟨[(0,.yld (.par 0)),(1,.ptr (.par j0) 0),(2,.pv (.ref [.int .i64 below])),(3,.pv (.ref [.int .i64 item])),(4,.pv (.ref [.int .i64 day])),(12,.pv (.lst false 1 (b.nums.map intP))),(13,.pv (.int .i64 b.nums.length)),(14,.pv (.int .i64 k))],laid 0 (C.X c')⟩)
  ⟨b.nums.length,⟨[(0,.yld (.par 0)),(1,.ptr (.par j0) 0),(2,.pv (.ref [.int .i64 below])),(3,.pv (.ref [.int .i64 item])),(4,.pv (.ref [.int .i64 day])),(12,.pv (.lst false 1 (b.nums.map intP))),(13,.pv (.int .i64 b.nums.length)),(14,.pv (.int .i64 0))],laid 0 (C.X c)⟩,Sub.mk (by simp) (Zds ZbB),0,c,Zwb _,rfl,by simp[Bk.ofK,ctsV,Cons.run],hc,rfl⟩ ?_
 rintro J hJ n τ ⟨k,c',hk,rfl,hrun,hlive,rfl⟩;have k0:=ZgK (h0 c' hlive);have kw:=ZgK (hW c' hlive).w;have km:=ZgK (hW c' hlive).m;unfold wkC at kw;by_cases hlt:k<b.nums.length
 ·obtain⟨x,hx⟩:∃x,b.nums[k]?=some x:=⟨b.nums[k],ZvZ hlt⟩;have hxm:=Zv3 hx;have hgx:(b.nums.map intP)[k]?=some (.int .i64 x):=by rw[Zv0,hx];rfl
  have hw:=wrapK (k:=k) (by omega);have hmeas:b.nums.length-(k+1)<b.nums.length-k:=by omega
  obtain⟨hcm,hcn⟩:=ZbA hb hxm;have hfx:=hes.f x;rw[if_pos hxm]at hfx;have hko:=hes.k;have hnx:=ZqK (item:=item) (day:=day) (below:=below) hx;have hbd:=Zbg hb hcm;have hon:=con_c (b.get x) day (by rw[wrap64 (by omega)]);have hin:Bk.ofB item day below (b.get x)=true→b.get x∈b.ofL item day below:=fun h=>(Zb9 hb).2 ⟨hcm,h⟩
  have hskip:Bk.ofB item day below (b.get x)=false→J (b.nums.length-(k+1)) ⟨[(0,.yld (.par 0)),(1,.ptr (.par j0) 0),(2,.pv (.ref [.int .i64 below])),(3,.pv (.ref [.int .i64 item])),(4,.pv (.ref [.int .i64 day])),(12,.pv (.lst false 1 (b.nums.map intP))),(13,.pv (.int .i64 b.nums.length)),(14,.pv (.int .i64 (k+1:Nat)))],laid 0 (C.X c')⟩:=fun h=>by
   rw[if_neg (by simp[h]),Zwn]at hnx;exact hJ _ _ ⟨k+1,c',hlt,rfl,by rw[hnx];exact hrun,hlive,rfl⟩
  have hB:Bk.ofB item day below (b.get x)=(decide (x<below)&&(decide ((b.get x).it=item)&&(b.get x).on day)):=by unfold Bk.ofB;rw[hcn]
  generalize b.get x=y at *;obtain⟨yn,yi,ys,yd,yv,⟨yl,yh⟩⟩:=y;simp only at hcn;subst hcn;unfold Ct.pv at hfx hon;simp only at hB;cases e1:decide (yn<below)
  ·rw[e1,Bool.false_and]at hB;simp[-getElem?_pos,-List.getElem?_map,-decide_eq_true_eq,-decide_eq_false_iff_not,hlt,hgx,k0,kw,km,hko,hfx,lookA,e1,hw];exact⟨_,_,hmeas,Sub.mk (by simp) (Zds (by repeat (first|exact ZbB|exact Zcu|refine Zc1 rfl ?_))),hskip hB⟩
  rw[e1,Bool.true_and]at hB;cases e2:decide (yi=item)
  ·rw[e2,Bool.false_and]at hB;simp[-getElem?_pos,-List.getElem?_map,-decide_eq_true_eq,-decide_eq_false_iff_not,hlt,hgx,k0,kw,km,hko,hfx,lookA,e1,e2,hw];exact⟨_,_,hmeas,Sub.mk (by simp) (Zds (by repeat (first|exact ZbB|exact Zcu|refine Zc1 rfl ?_))),hskip hB⟩
  rw[e2,Bool.true_and]at hB;simp[-getElem?_pos,-List.getElem?_map,-decide_eq_true_eq,-decide_eq_false_iff_not,hlt,hgx,k0,kw,km,hko,hfx,lookA,e1,e2,hw];refine cG [.agg [.int .i64 yn,.int .i64 yi,.int .i64 ys,.int .i64 yd,.int .i64 yv,.int .i64 yl,.int .i64 yh],.int .i64 day] hon ?_;cases e3:Ct.on ⟨yn,yi,ys,yd,yv,⟨yl,yh⟩⟩ day
  ·rw[e3]at hB;simp[-getElem?_pos,-List.getElem?_map,-decide_eq_true_eq,-decide_eq_false_iff_not,hw];exact⟨_,_,hmeas,Sub.mk (by simp) (Zds (by repeat (first|exact ZbB|exact Zcu|refine Zc1 rfl ?_))),hskip hB⟩
  rw[e3]at hB;have hgood:=hg _ (hin hB);rw[if_pos hB]at hnx;simp[-getElem?_pos,-List.getElem?_map,-decide_eq_true_eq,-decide_eq_false_iff_not];refine ZmK 41 C.m (C.X c') rfl C.m0 (C.len c') (by repeat (first|exact ZbB|exact Zcu|refine Zc1 rfl ?_)) (C.cl c') rfl (C.yields c' (Ct.pv ⟨yn,yi,ys,yd,yv,⟨yl,yh⟩⟩) hlive hgood) ?_;rintro r B ⟨rfl,rfl⟩;refine⟨C.X (C.step c' (Ct.pv ⟨yn,yi,ys,yd,yv,⟨yl,yh⟩⟩)).1,rfl,C.len _,C.cl _,rfl,?_⟩;have hstep:C.run c (ctsV (b.ofK item day below (k+1)))=C.step c' (Ct.pv ⟨yn,yi,ys,yd,yv,⟨yl,yh⟩⟩):=by
   rw[hnx,ctsV,Zwp,Cons.run_app];rw[show List.map Ct.pv (b.ofK item day below k)=ctsV (b.ofK item day below k) from rfl,hrun];exact Cons.run_one c' _
  cases hs:(C.step c' (Ct.pv ⟨yn,yi,ys,yd,yv,⟨yl,yh⟩⟩)).2
  ·simp[-getElem?_pos,-List.getElem?_map,ZgJ];refine Zjm (L:=C.X (C.step c' (Ct.pv ⟨yn,yi,ys,yd,yv,⟨yl,yh⟩⟩)).1) rfl rfl (C.len _) (by repeat (first|exact ZbB|exact Zcu|refine Zc1 rfl ?_)) (C.cl _) ?_;rw[←hR];refine⟨rfl,?_⟩;have hall:C.run c (ctsV (b.ofL item day below))=C.step c' (Ct.pv ⟨yn,yi,ys,yd,yv,⟨yl,yh⟩⟩):=by
    rw[ZtL (k+1),ctsV,Zwp,Cons.run_app];rw[show List.map Ct.pv (b.ofK item day below (k+1))=ctsV (b.ofK item day below (k+1)) from rfl,hstep,hs]
   rw[hall]
  ·have hround:=hJ _ _ ⟨k+1,(C.step c' (Ct.pv ⟨yn,yi,ys,yd,yv,⟨yl,yh⟩⟩)).1,hlt,rfl,by rw[hstep];exact Prod.ext rfl hs,C.goes _ _ hlive hgood hs,rfl⟩;simp[-getElem?_pos,-List.getElem?_map,ZgJ,hw];exact⟨_,_,hmeas,Sub.mk (by simp) (Zds (by repeat (first|exact ZbB|exact Zcu|refine Zc1 rfl ?_))),hround⟩
 ·have he:k=b.nums.length:=by omega
  subst he;simp[-getElem?_pos,-List.getElem?_map];refine Zjm (L:=C.X c') rfl rfl (C.len _) ZbB (C.cl _) ?_;rw[←hR];exact⟨rfl,by rw[ZqL]at hrun;rw[hrun]⟩
end
section
open Go.RowKit
set_option maxRecDepth 10000
theorem cok51:COk Tryz.prog (tyOf tys) L85.code:=ZgD L85_ok L85_tab
structure HMap (H:Int→Bool)(hs:List (PV×PV)):Prop where
 k:ZbD kI hs=true
 f:∀n:Int,(findV (.int .i64 n) hs).getD (.bool false)=.bool (H n)
def numOf:PV→Int
 |.agg (.int _ n::_)=>n
 |_=>0
def capB (s:Site):Box:=.cells [.ptr s 0]
noncomputable def hldX (b:Bk)(bad:List Int)(es hs:List (PV×PV))(is:Bool):List Box:=[.loop (rcode Tryz.prog 85 0) [42] 64 [(3,.ptr (.par 2) 0),(7,.ptr (.par 1) 0)] none,
 .cells [.pv (.bool is)],.cells [.mp (.par 3)],.map hs,capB (.par 5),.cells (wkC b (.par 6) (badZ bad)),.map es]
attribute [local simp] AS.exp expG Box.ren AV.map AV.mapL Zaw noRet Site.isRet Box.allS AV.allS AV.allSL retB dropL AS.adds renL outG outOk Zau inG fnOf lookA Zww
section
attribute [local simp] Box.purge Site.isLoc
set_option maxHeartbeats 8000000 in
noncomputable def hldC (b:Bk)(bad:List Int)(es hs:List (PV×PV))(H:Int→Bool)(hH:HMap H hs):Cons Tryz.prog where
 m:=7
 S:=Bool
 X:=hldX b bad es hs
 step is x:=(is||H (numOf x),true)
 good x:=∃c:Ct,x=c.pv
 live _:=True
 m0:=by omega
 len _:=rfl
 cl c:=by
  intro bx hb;simp only[hldX,Zwg,List.not_mem_nil,or_false]at hb;rcases hb with rfl|rfl|rfl|rfl|rfl|rfl|rfl
  ·rfl
  ·rfl
  ·rfl
  ·rfl
  ·rfl
  ·simp[wkC,Site.lt,Zax]
  ·rfl
 goes _ _ _ _ _:=trivial
 yields c x hc hx:=by
  obtain⟨y,rfl⟩:=hx;have hcok:COk Tryz.prog (tyOf tys) (.rng 64 (.t 41) (rcode Tryz.prog 85 0) Y85_0a Y85_0b [42]):=cok51.2.2.1.2.2.2.1.2.2.2.1.2;have hf:=hH.f y.num;have hk:=hH.k;refine Zbc mixed hcok.1 hcok.2.1 rfl rfl (by simp) rfl ?_;cases c
  all_goals
   simp[-getElem?_pos,Y85_0a,Y85_0b,hldX,laid,putL,Ct.pv,hk,hf,numOf,capB,wkC,Zam,ZaC];exact⟨[],[.par 1,.par 2,.par 3,.par 4,.par 5,.par 6],rfl,rfl,by simp[frzL,Zax],rfl,by simp[frzL,Zaz]⟩
end
theorem Zml {b:Bk}{bad:List Int}{es hs:List (PV×PV)}{H:Int→Bool}{hH:HMap H hs}:∀(l:List Ct) (c:Bool),(hldC b bad es hs H hH).run c (ctsV l)=(c||l.any (fun o=>H o.num),true)
 |[],c=>by
  show(c,true)=_;simp
 |x::l,c=>by
  show(hldC b bad es hs H hH).run (c||H x.num) (ctsV l)=_;rw[Zml l,List.any_cons,Bool.or_assoc]
theorem ZjX {b:Bk}(hb:b.ok){bad:List Int}{n:Int}(h:n∈b.held bad):n∈b.nums:=by
 obtain⟨c,hc,e,_⟩:=(ZcL hb).1 h;exact(Zbw hb).2 ⟨c,hc,e⟩
def hEnt (b:Bk)(bad:List Int)(k:Nat):List (PV×PV):=mapI id (fun n=>.bool ((b.held bad).contains n)) (b.nums.take k)
theorem ZgU {l:List Int}{n:Int}:(l.find? fun c=>decide (id c=n))=if n∈l then some n else none:=by
 induction l with
 |nil=>rfl
 |cons x l ih=>
  rw[List.find?_cons];by_cases h:x=n
  ·subst h;rw[show decide (id x=x)=true from by simp,if_pos (by simp)]
  ·rw[show decide (id x=n)=false from by simpa using h,ih];by_cases hm:n∈l
   ·rw[if_pos hm,if_pos (by simp[hm])]
   ·rw[if_neg hm,if_neg (by simp[hm];omega)]
theorem ZeU (b:Bk)(bad:List Int)(k:Nat):HMap (fun n=>(b.nums.take k).contains n&&(b.held bad).contains n) (hEnt b bad k):=by
 refine⟨Zb5,fun n=>?_⟩;unfold hEnt;rw[ZbK,ZgU];by_cases h:n∈b.nums.take k
 ·rw[if_pos h,Zwk.2 h,Bool.true_and];rfl
 ·rw[if_neg h];cases hc:(b.nums.take k).contains n
  ·rfl
  ·exact absurd (Zwk.1 hc) h
theorem ZcB {b:Bk}(hb:b.ok)(bad:List Int):HMap (fun n=>(b.held bad).contains n) (hEnt b bad b.nums.length):=by
 have h:=ZeU b bad b.nums.length;refine⟨h.k,fun n=>?_⟩;rw[h.f n,Zwm];cases hc:(b.held bad).contains n
 ·simp
 ·rw[Zwk.2 (ZjX hb (Zwk.1 hc))];rfl
theorem Zrd {b:Bk}{bad:List Int}{k:Nat}{n:Int}(h:b.nums[k]?=some n):putK (.int .i64 n) (.bool ((b.held bad).contains n)) (hEnt b bad k)=hEnt b bad (k+1):=by
 unfold hEnt;rw[ZeD (fun x hx=>?_),Zwf,h]
 ·unfold mapI;rw[Zwp];rfl
 ·obtain⟨i,hi⟩:=Zwa.1 hx;rw[Zwi]at hi;split at hi
  ·rename_i hik;obtain⟨h1,e1⟩:=Zv1.1 hi;obtain⟨h2,e2⟩:=Zv1.1 h
   have:=Zw3.1 (Zby (b:=b)) i k h1 h2 hik
   rw[e1,e2]at this;show x≠n;omega
  ·cases hi
theorem ZmH {b:Bk}(hb:b.ok){k:Nat}{n:Int}(h:b.nums[k]?=some n)(H:Int→Bool):((b.ofL (b.get n).src (b.get n).day n).any fun o=>(b.nums.take k).contains o.num&&H o.num)=(b.ofL (b.get n).src (b.get n).day n).any fun o=>H o.num:=by
 rw[ZwD,Zwq,Zwq];constructor
 ·rintro⟨o,ho,h1⟩;rw[Zv2]at h1;exact⟨o,ho,h1.2⟩
 ·rintro⟨o,ho,h1⟩;refine⟨o,ho,?_⟩;rw[h1,Bool.and_true,Zwk];obtain⟨h2,h3⟩:=(Zb9 hb).1 ho;unfold Bk.ofB at h3;simp only[Zv2,decide_eq_true_eq]at h3;obtain⟨i,hi⟩:=Zwa.1 ((Zbw hb).2 ⟨o,h2,rfl⟩);rw[Zwa];refine⟨i,?_⟩;obtain⟨q1,e1⟩:=Zv1.1 hi;obtain⟨q2,e2⟩:=Zv1.1 h;rw[Zwi,if_pos,hi];rcases Nat.lt_trichotomy i k with hik|hik|hik
  ·exact hik
  ·subst hik;rw[e1]at e2;omega
  ·have:=Zw3.1 (Zby (b:=b)) k i q2 q1 hik
   rw[e1,e2]at this;omega
theorem ZjU {b:Bk}(hb:b.ok){bad:List Int}{k:Nat}{n:Int}(h:b.nums[k]?=some n):(((b.item (b.get n).src).std||(b.ofL (b.get n).src (b.get n).day n).any fun o=>(b.nums.take k).contains o.num&&(b.held bad).contains o.num)&&!bad.contains n)=(b.held bad).contains n:=by
 rw[Zmk hb (Zv3 h),ZmH hb h]
theorem get4 {a b c d:AV}{Z:List AV}{n:Nat}:(a::b::c::d::Z)[4+n]?=Z[n]?:=by rw[Nat.add_comm];rfl
def hdK (b:Bk)(bad:List Int)(es:List (PV×PV))(k:Nat):AS:=⟨[(0,.ptr (.par 0) 0),(3,.ptr (.loc 3 0) 0),(13,.pv (.lst false 1 (b.nums.map intP))),(14,.pv (.int .i64 b.nums.length)),(15,.pv (.int .i64 k))],
 [(.loc 9 0,.map (hEnt b bad k)),(.loc 3 0,.cells [.mp (.loc 9 0)]),(.par 0,.cells (wkC b (.par 1) (badZ bad))),(.par 1,.map es)]⟩
section
attribute [local simp] Box.purge Site.isLoc
set_option maxHeartbeats 16000000 in
theorem Zpb (b:Bk)(hb:b.ok)(bad:List Int)(es:List (PV×PV))(hes:CMap b es):Zak Tryz.prog 85 [.ptr (.par 0) 0] (laid 0 (wkB b bad es)) (fun r B=>r=.mp (.ret 0)∧B=(.ret 0,.map (hEnt b bad b.nums.length))::laid 0 (wkB b bad es)):=by
 have hlen:=ZdX (b:=b);refine cBR [.loc 9 0,.par 0,.par 1] L85 ?_;intro R hR;simp[-getElem?_pos,L85,laid,wkB,wkC,Zam,ZaC];refine Zae (fun n τ=>∃k:Nat,k≤b.nums.length∧n=b.nums.length-k∧τ=hdK b bad es k) ⟨b.nums.length,hdK b bad es 0,Sub.mk (by simp[hdK]) (by simp[hdK,wkC,hEnt,mapI,Zam]),0,Zwb _,rfl,rfl⟩ ?_;rintro J hJ n τ ⟨k,hk,rfl,rfl⟩;by_cases hlt:k<b.nums.length
 ·obtain⟨x,hx⟩:∃x,b.nums[k]?=some x:=⟨b.nums[k],ZvZ hlt⟩;have hxm:=Zv3 hx;have hgx:(b.nums.map intP)[k]?=some (.int .i64 x):=by rw[Zv0,hx];rfl
  have hw:=wrapK (k:=k) (by omega);have hmeas:b.nums.length-(k+1)<b.nums.length-k:=by omega
  obtain⟨hcm,hcn⟩:=ZbA hb hxm;have hfx:=hes.f x;rw[if_pos hxm]at hfx;have hko:=hes.k;have hbd:=Zbg hb hcm;have hround:=hJ _ _ ⟨k+1,hlt,rfl,rfl⟩;have hput:=Zrd (bad:=bad) hx;have hst:=ZjU hb (bad:=bad) hx;have hkk:=(ZeU b bad k).k;have hany:=ZmH hb hx (fun n=>(b.held bad).contains n);have hrun:=fun is:Bool=>Zml (b:=b) (bad:=bad) (es:=es) (hH:=ZeU b bad k) (b.ofL (b.get x).src (b.get x).day x) is
  have hit:=fun is:Bool=>ZjM (hldC b bad es (hEnt b bad k) _ (ZeU b bad k)) b hb bad es hes 4 5 6 (fun c _=>⟨rfl,rfl⟩) (fun c _=>rfl) (b.get x).src (b.get x).day x is trivial (fun z hz=>⟨z,rfl⟩)
  simp only[hrun,hany]at hit;rw[ZjU hb hx]at hst;have hst2:=Zmk hb (bad:=bad) hxm;generalize hAN:((b.ofL (b.get x).src (b.get x).day x).any fun n=>(b.held bad).contains n.num)=an at *;generalize b.get x=y at *;obtain⟨yn,yi,ys,yd,yv,⟨yl,yh⟩⟩:=y;simp only at hcn hbd hit hst2;subst hcn;unfold Ct.pv at hfx;obtain⟨si,rfl⟩:∃si:Nat,ys=si:=⟨ys.toNat,by omega⟩;obtain⟨nn,rfl⟩:∃nn:Nat,yn=nn:=⟨yn.toNat,by omega⟩;have hsi:si<b.items.length:=by omega
  have hnn:nn<1000:=by omega
  obtain⟨z,hz⟩:∃z,b.items[si]?=some z:=⟨b.items[si],ZvZ hsi⟩;have hgz:(b.items.map It.pv)[si]?=some (.agg [.int .i64 z.drift,.bool z.std,.int .i64 z.val.lo,.int .i64 z.val.hi]):=by rw[Zv0,hz];rfl
  have hzi:b.item (si:Int)=z:=by unfold Bk.item;rw[ZwS,hz];rfl
  rw[hzi]at hst2;have hit':=hit z.std;clear hit;simp[-getElem?_pos,-List.getElem?_map,hdK,wkC,hlt,hgx,hko,hfx,itsP,hgz,hsi,Zam,ZaC,-retB];refine cM [.ptr (.par 0) 0,.pv (.int .i64 si),.pv (.int .i64 yd),.pv (.int .i64 nn)] (laid 0 (wkB b bad es)) 41 [.par 0,.par 1] (by simp[laid,wkB,wkC,itsP,Zaz,Zax]) (of_c b bad es si yd nn) (by simp[laid,wkB,wkC,Zax]) ?_;simp[-getElem?_pos,-List.getElem?_map,laid,wkB,wkC,Zam,ZaC,Zaz,ofF,-retB];refine ZdT [.loc 64 0,.loc 7 0,.loc 3 0,.loc 9 0,.loc 41 0,.par 0,.par 1] [(3,.ptr (.loc 3 0) 0),(7,.ptr (.loc 7 0) 0)] (gf:=124) (fs:=[]) (cs:=[.ptr (.loc 41 0) 0,.pv (.ref [.int .i64 nn]),.pv (.ref [.int .i64 si]),.pv (.ref [.int .i64 yd])]) ?_ ?_ rfl rfl ?_ ?_ ?_ hit' ?_
  ·rfl
  ·simp
  ·simp[hldC,hldX,laid,wkC,Zaz,Zax,Zam,ZaC,capB]
  ·rfl
  ·rfl
  rintro r B' ⟨rfl,rfl⟩;refine⟨rfl,?_,?_⟩
  ·exact fun p hp=>Zfv (n:=7) (L:=hldX b bad es (hEnt b bad k) (z.std||an)) (by simp[hldX]) ((hldC b bad es (hEnt b bad k) _ (ZeU b bad k)).cl (z.std||an)) p hp
  refine⟨_,_,_,_,_,rfl,?_⟩;have hfold:(z.std||an)=true→(b.held bad).contains (nn:Int)=!bad.contains (nn:Int):=fun h=>by rw[hst2,h,Bool.true_and]
  have hfold2:(z.std||an)=false→(b.held bad).contains (nn:Int)=false:=fun h=>by rw[hst2,h,Bool.false_and]
  generalize hIS:(z.std||an)=is at *;have hbz:=Zi0 (l:=bad) hnn;cases is
  ·rw[hfold2 rfl]at hput;simp[-getElem?_pos,-List.getElem?_map,hldC,hldX,laid,jumpQ,wkC,Zam,ZaC,Zaz,capB,-retB,hIS,hkk,hput,hw];exact⟨_,_,hmeas,Sub.mk (by simp[hdK]) (by simp[hdK,wkC,Zam]),hround⟩
  ·have hv:=hfold rfl;cases hbc:bad.contains (nn:Int)
   ·rw[hbc]at hv hbz;simp only[Bool.not_false,Bool.not_true]at hv;rw[hv]at hput;simp[-getElem?_pos,-List.getElem?_map,hldC,hldX,laid,jumpQ,wkC,Zam,ZaC,Zaz,capB,-retB,hIS,nblt,nble,hnn,get4,hbz,hkk,hput,hw];exact⟨_,_,hmeas,Sub.mk (by simp[hdK]) (by simp[hdK,wkC,Zam]),hround⟩
   ·rw[hbc]at hv hbz;simp only[Bool.not_false,Bool.not_true]at hv;rw[hv]at hput;simp[-getElem?_pos,-List.getElem?_map,hldC,hldX,laid,jumpQ,wkC,Zam,ZaC,Zaz,capB,-retB,hIS,nblt,nble,hnn,get4,hbz,hkk,hput,hw];exact⟨_,_,hmeas,Sub.mk (by simp[hdK]) (by simp[hdK,wkC,Zam]),hround⟩
 ·have he:k=b.nums.length:=by omega
  subst he;clear hJ;simp[-getElem?_pos,-List.getElem?_map,hdK,wkC,Zax,Zaz,Zaw];rw[←hR];exact⟨rfl,by simp[laid,wkB,wkC]⟩
end
end
section
open Go.RowKit
set_option maxRecDepth 10000
def okAt (l:List Int)(k:Nat):Bool:=match l[k]? with
 |some n=>inB n 1 999&&(decide (k=0)||decide ((l[k-1]?).getD 0<n))
 |none=>true
def areB (l:List Int):Bool:=(List.range l.length).all (okAt l)
theorem Zly {l:List Int}{k:Nat}(hk:k<l.length)(h:okAt l k=false):areB l=false:=by
 unfold areB;rw[List.all_eq_false];exact⟨k,List.mem_range.2 hk,by simp[h]⟩
theorem Zsc {l:List Int}(h:∀k,k<l.length→okAt l k=true):areB l=true:=by
 unfold areB;rw[Zwl];exact fun k hk=>h k (List.mem_range.1 hk)
def woR (b:Bk)(bad:List Int)(r:AV)(B:List (Site×Box)):Prop:=
 (b.fault≠0∧r=.pv (.tup [.nilp,.int .i64 b.fault])∧B=[])∨
 (b.fault=0∧areB bad=false∧r=.pv (.tup [.nilp,.int .i64 2])∧B=[])∨
 (b.fault=0∧areB bad=true∧∃es,CMap b es∧r=.tup [.ptr (.ret 0) 0,.pv (.int .i64 0)]∧B=[(.ret 0,.cells (wkC b (.ret 1) (badZ bad))),(.ret 1,.map es)])
def woK (b:Bk)(bad:List Int)(es:List (PV×PV))(k:Nat):AS:=⟨[(1,.pv (.lst false 1 (bad.map intP))),(6,.ptr (.loc 12 0) 0),(18,.pv (.lst false 1 (bad.map intP))),(19,.pv (.int .i64 bad.length)),(20,.pv (.int .i64 k))],
 [(.loc 12 0,.cells (wkC b (.loc 12 1) (badZ (bad.take k)))),(.loc 12 1,.map es)]⟩
theorem take4 {a b c d:AV}{Z:List AV}{n:Nat}:(a::b::c::d::Z).take (4+n)=a::b::c::d::Z.take n:=by rw[Nat.add_comm];rfl
theorem drop3 {b c d:AV}{Z:List AV}{n:Nat}:(b::c::d::Z).drop (4+n)=Z.drop (n+1):=by rw[Nat.add_comm];rfl
theorem Zn0 {Z:List AV}{n:Nat}{v:AV}(h:n<Z.length):Z.take n++v::Z.drop (n+1)=Z.set n v:=by rw[List.set_eq_take_append_cons_drop,if_pos h]
attribute [local simp] AS.exp expG Box.ren AV.map AV.mapL noRet Site.isRet Box.allS AV.allS AV.allSL dropL AS.adds renL outG outOk Zau inG fnOf lookA Zww
attribute [local simp] Box.purge Site.isLoc
set_option maxHeartbeats 16000000 in
theorem Znx (b:Bk)(hi:b.items.length≤1000)(hc:b.certs.length≤1000)(bad:List Int)(hbl:bad.length≤1000):Zak Tryz.prog 96 [.pv b.pv,.pv (.lst false 1 (bad.map intP))] [] (woR b bad):=by
 have hr:=Zjq b hi hc;refine cE L96 ?_;generalize hR:woR b bad=R;simp[-getElem?_pos,L96,Bk.pv];refine cL [.pv b.pv] [] 12 [] rfl hr ?_
 rintro r0 B0 (⟨h0,rfl,rfl⟩|⟨h0,es,hes,rfl,rfl⟩)
 ·refine⟨rfl,by simp,?_⟩;have hd:decide (b.fault=0)=false:=by simpa using h0
  simp[-getElem?_pos,-decide_eq_true_eq,-decide_eq_false_iff_not,hd];refine⟨[],?_⟩;simp[retB,Zaw];rw[←hR];exact .inl ⟨h0,rfl,rfl⟩
 refine⟨rfl,by simp[wkC,Zb0,Zax],?_⟩;simp[-getElem?_pos,-List.getElem?_map,wkC,Zb0,Zaz,Zam];refine Zae (fun n τ=>∃k:Nat,k≤bad.length∧n=bad.length-k∧(∀j,j<k→okAt bad j=true)∧τ=woK b bad es k) ⟨bad.length,woK b bad es 0,Sub.mk (by simp[woK]) (by simp[woK,wkC,Zam]),0,Zwb _,rfl,(fun j hj=>by omega),rfl⟩ ?_;rintro J hJ n τ ⟨k,hk,rfl,hinv,rfl⟩;by_cases hlt:k<bad.length
 ·obtain⟨x,hx⟩:∃x,bad[k]?=some x:=⟨bad[k],ZvZ hlt⟩;have hgx:(bad.map intP)[k]?=some (.int .i64 x):=by rw[Zv0,hx];rfl
  have hw:=wrapK (k:=k) (by omega);have hmeas:bad.length-(k+1)<bad.length-k:=by omega
  have hok:okAt bad k=(inB x 1 999&&(decide (k=0)||decide ((bad[k-1]?).getD 0<x))):=by unfold okAt;rw[hx]
  have herr:okAt bad k=false→∃outs,retB outs [.tm 4,.tm 5] R ⟨[(5,.pv (.int .i64 2)),(4,.pv .nilp)],[]⟩:=fun h=>⟨[],by
   simp[retB,Zaw];rw[←hR];exact .inr (.inl ⟨h0,Zly hlt h,rfl,rfl⟩)⟩
  have hnum:=Zl2 x;have hlt':decide ((k:Int)<(bad.length:Int))=true:=by simp;omega
  simp[-getElem?_pos,-List.getElem?_map,-decide_eq_true_eq,-decide_eq_false_iff_not,woK,wkC,hlt,hlt',hgx];refine cG [.int .i64 x] hnum ?_;cases e1:inB x 1 999
  ·rw[e1,Bool.false_and]at hok;simp[-getElem?_pos,-List.getElem?_map,-decide_eq_true_eq,-decide_eq_false_iff_not];refine⟨[],?_⟩;simp[retB,Zaw];rw[←hR];exact .inr (.inl ⟨h0,Zly hlt hok,rfl,rfl⟩)
  rw[e1,Bool.true_and]at hok;have hx1:1≤x∧x≤999:=by unfold inB at e1;simp only[Zv2,decide_eq_true_eq]at e1;exact e1
  obtain⟨nn,rfl⟩:∃nn:Nat,x=nn:=⟨x.toNat,by omega⟩;have hnn:nn<1000:=by omega
  have hset:=ZrU (l:=bad.take k) hnn;have htk:bad.take (k+1)=bad.take k++[(nn:Int)]:=by rw[Zwf,hx];rfl
  rw[←htk,←Zn0 (by rw[ZiZ];exact hnn)]at hset;have hle:4+nn≤1003:=by omega
  have hround:=fun h:okAt bad k=true=>hJ _ _ ⟨k+1,hlt,rfl,(fun j hj=>by
   rcases Zw1.1 hj with h'|h'
   ·exact hinv j h'
   ·subst h';exact h),rfl⟩
  by_cases hz:k=0
  ·have hround:=hround (by rw[hok,hz];rfl);subst hz;have hw0:IntKind.i64.wrap 1=1:=rfl;simp only[List.take_zero,ZwC]at hset;simp[hw0,-getElem?_pos,-List.getElem?_map,-decide_eq_true_eq,-decide_eq_false_iff_not,wkC,Zam,hw,nblt,nble,hnn,take4,drop3,hle,hset,ZiZ];exact⟨_,_,hmeas,Sub.mk (by simp[woK]) (by simp[woK,wkC,Zam]),hround⟩
  ·obtain⟨j,hj1⟩:∃j,j+1=k:=⟨k-1,by omega⟩;obtain⟨y,hy⟩:∃y,bad[j]?=some y:=⟨bad[j]'(by omega),ZvZ _⟩;have hgy:(bad.map intP)[j]?=some (.int .i64 y):=by rw[Zv0,hy];rfl
   have hw1:IntKind.i64.wrap ((k:Int)-1)=(j:Int):=by rw[wrap64 (by omega)];omega
   have hpos:decide ((0:Int)<(k:Int))=true:=by simp;omega
   have hpos2:0<k:=by omega
   have hjl:j<bad.length:=by omega
   have hok':okAt bad k=decide (y<(nn:Int)):=by
    rw[hok,show k-1=j by omega,hy,decide_eq_false hz,Bool.false_or];rfl
   cases e2:decide (y<(nn:Int))
   ·have e3:decide ((nn:Int)≤y)=true:=by simp at e2 ⊢;omega
    simp[-getElem?_pos,-List.getElem?_map,-decide_eq_true_eq,-decide_eq_false_iff_not,hpos,hpos2,hw1,hjl,hgy,e3];refine⟨[],?_⟩;simp[retB,Zaw];rw[←hR];exact .inr (.inl ⟨h0,Zly hlt (by rw[hok',e2]),rfl,rfl⟩)
   ·have e3:decide ((nn:Int)≤y)=false:=by simp at e2 ⊢;omega
    have hround:=hround (by rw[hok',e2]);simp[-getElem?_pos,-List.getElem?_map,-decide_eq_true_eq,-decide_eq_false_iff_not,hpos,hpos2,hw1,hjl,hgy,e3,wkC,Zam,hw,nblt,nble,hnn,take4,drop3,hle,hset,ZiZ];exact⟨_,_,hmeas,Sub.mk (by simp[woK]) (by simp[woK,wkC,Zam]),hround⟩
 ·have he:k=bad.length:=by omega
  subst he;clear hJ;simp[-getElem?_pos,-List.getElem?_map,woK,wkC];refine⟨[.loc 12 0,.loc 12 1],?_⟩;simp[retB,Zaw,Zax,Zaz];rw[←hR];refine .inr (.inr ⟨h0,Zsc hinv,es,hes,rfl,?_⟩);simp[wkC]
end
section
open Go.RowKit
set_option maxRecDepth 10000
section
attribute [local simp] Box.purge Site.isLoc
theorem Zlk (l:List Int)(h0:l≠[])(hl:l.length≤1000000):Zak Tryz.prog 29 [.pv (.lst false 1 (l.map intP))] [] (fun r B=>r=.vec (.ret 0) 1 0 l.length∧B=[(.ret 0,.arr 3 1 (l.map intP))]):=by
 refine cB [.loc 7 0] L29 ?_;cases l with
 |nil=>exact absurd rfl h0
 |cons a l=>
  have h1:l.length+1≤1000000:=by simpa using hl
  have hm:(l.map intP).take l.length=l.map intP:=Zv9 (by simp);simp[-getElem?_pos,L29,nilOf,nble,h1,hm,retB,Zaw,AS.exp,expG,Box.ren,AV.map,AV.mapL,noRet,Site.isRet,Box.allS,AV.allS,AV.allSL,Zww]
attribute [local simp] retFz frzL AS.frz AV.frz AV.frzL Box.frz AS.tidy AS.frzC
theorem ZrC:Gives Tryz.prog 29 [.lst false 1 []] (.lst false 1 []):=by
 refine Zak.weak2 ?_;refine cF [.loc 7 0] L29 ?_;simp[-getElem?_pos,L29,nilOf,ZaJ,nble,opWp,osel];exact fun m v h=>ZbM h
end
attribute [local simp] AS.exp expG Box.ren AV.map AV.mapL Zaw noRet Site.isRet Box.allS AV.allS AV.allSL retB dropL AS.adds renL outG outOk Zau inG fnOf lookA Zww
attribute [local simp] Box.purge Site.isLoc
theorem Zq5 {X:List Int}{w:Nat}{r:Int}:(X.map intP).set w (.int .i64 r)=(X.set w r).map intP:=by rw[List.map_set];rfl
theorem Zj2 {l:List Int}{k:Nat}{x:Int}{p:Int→Bool}(h:l[k]?=some x)(hp:p x=true)(hinv:∀(j:Nat) (y:Int),j<k→l[j]?=some y→p y=false):l.findIdx? p=some k:=by
 obtain⟨hlt,e⟩:=Zv1.1 h;rw[ZwU];refine⟨hlt,by rw[e];exact hp,fun j hj=>?_⟩
 have:=hinv j l[j] hj (ZvZ (by omega))
 simp[this]
theorem Zpg {l:List Int}{p:Int→Bool}(hinv:∀(j:Nat) (y:Int),j<l.length→l[j]?=some y→p y=false):l.findIdx? p=none:=by
 rw[ZwV];intro x hx;obtain⟨j,hj⟩:=Zwa.1 hx;exact hinv j x (Zv1.1 hj).1 hj
def ixI:Option Nat→Int
 |some i=>i
 |none=>-1
theorem Zpf {l:List Int}{p:Int→Bool}{i:Nat}(h:l.findIdx? p=some i):i<l.length∧l.take i=(l.take (i+1)).filter (fun n=>!p n):=by
 obtain⟨h1,h2,h3⟩:=ZwU.1 h;refine⟨h1,?_⟩;rw[Zwf,ZvZ h1,ZwM];have e:(Option.some l[i]).toList.filter (fun n=>!p n)=[]:=by simp[h2]
 rw[e,Zwn,List.filter_eq_self.2];intro x hx;obtain⟨j,hj⟩:=Zwa.1 hx;rw[Zwi]at hj;split at hj
 ·rename_i hji;obtain⟨q1,q2⟩:=Zv1.1 hj
  have:=h3 j hji
  rw[q2]at this;simpa using this
 ·cases hj
theorem Zlc {l:List Int}{p:Int→Bool}(h:l.findIdx? p=none):l.filter (fun n=>!p n)=l:=by
 rw[List.filter_eq_self];intro x hx
 have:=ZwV.1 h x hx
 simp[this]
def hdB (hs:List (PV×PV))(m:Nat):List Box:=[.cells [.mp (.par (m+1))],.map hs]
theorem predH (H:Int→Bool)(hs:List (PV×PV))(hH:HMap H hs)(n:Int)(_:True):Zak Tryz.prog 97 [.pv (.int .i64 n),.ptr (.par 0) 0] (laid 0 (hdB hs 0)) (fun r B=>r=.pv (.bool (!H n))∧B=laid 0 (hdB hs 0)):=by
 have hf:=hH.f n;have hk:=hH.k;refine cB [.par 0,.par 1] L97 ?_;simp[-getElem?_pos,L97,hdB,laid,hf,hk]
section
theorem ixH (H:Int→Bool)(hs:List (PV×PV))(hH:HMap H hs)(l:List Int)(hl:l.length≤1000)(hin:∀n∈l,True):
  Zak Tryz.prog 114 [.vec (.par 0) 1 0 l.length,(.fn 97 [] [.ptr (.par 1) 0])] (laid 0 (.arr 3 1 (l.map intP)::hdB hs 1)) (fun x B=>x=.pv (.int .i64 (ixI (l.findIdx? (fun n=>!H n))))∧B=laid 0 (.arr 3 1 (l.map intP)::hdB hs 1)):=by
 refine cBR [.par 0,.par 1,.par 2] L114 ?_;intro R hR;simp[-getElem?_pos,L114,hdB,laid];refine Zae (fun n τ=>∃k:Nat,k≤l.length∧n=l.length-k∧(∀(j:Nat) (y:Int),j<k→l[j]?=some y→(fun n=>!H n) y=false)∧τ=⟨[(0,.vec (.par 0) 1 0 l.length),(1,(.fn 97 [] [.ptr (.par 1) 0])),(7,.pv (.int .i64 l.length)),(8,.pv (.int .i64 k))],laid 0 (.arr 3 1 (l.map intP)::hdB hs 1)⟩)
  ⟨l.length,⟨[(0,.vec (.par 0) 1 0 l.length),(1,(.fn 97 [] [.ptr (.par 1) 0])),(7,.pv (.int .i64 l.length)),(8,.pv (.int .i64 0))],laid 0 (.arr 3 1 (l.map intP)::hdB hs 1)⟩,Sub.mk (by simp) (by simp[hdB,laid]),0,Zwb _,rfl,(fun j y hj=>by omega),rfl⟩ ?_
 rintro J hJ n τ ⟨k,hk,rfl,hinv,rfl⟩;by_cases hlt:k<l.length
 ·obtain⟨r,hx⟩:∃x,l[k]?=some x:=⟨l[k],ZvZ hlt⟩;have hg:(l.map intP)[k]?=some (.int .i64 r):=by rw[Zv0,hx];rfl
  have hw:=wrapK (k:=k) (by omega);have hmeas:l.length-(k+1)<l.length-k:=by omega
  have hC:=predH H hs hH r (hin r (Zv3 hx));have hnext:(fun n=>!H n) r=false→J (l.length-(k+1)) _:=fun hn=>hJ _ _ ⟨k+1,hlt,rfl,(fun j y hj hy=>by
   rcases Zw1.1 hj with h|h
   ·exact hinv j y h hy
   ·subst h;rw[hx]at hy;cases hy;exact hn),rfl⟩
  clear hJ;simp[-getElem?_pos,-List.getElem?_map,hdB,laid,hlt,hg,nblt,nble];refine cM [.pv (.int .i64 r),.ptr (.par 0) 0] (laid 0 (hdB hs 0)) 16 [.par 1,.par 2] (by simp[hdB,laid]) hC (by simp[hdB,laid]) ?_;cases hgv:(fun n=>!H n) r with
  |false=>
   have hround:=hnext hgv;have hgv':(!H r)=false:=hgv;simp[-getElem?_pos,-List.getElem?_map,hdB,laid,hw,hgv'];refine⟨_,_,hmeas,Sub.mk ?_ ?_,hround⟩
   ·simp
   ·simp[hdB,laid]
  |true=>
   have hf:=Zj2 hx hgv hinv;have hgv':(!H r)=true:=hgv;simp[-getElem?_pos,-List.getElem?_map,hdB,laid,hgv'];rw[←hR,hf];simp[hdB,laid,ixI]
 ·have he:k=l.length:=by omega
  subst he;have hf:=Zpg hinv;clear hJ;simp[-getElem?_pos,-List.getElem?_map,hdB,laid];rw[←hR,hf];simp[hdB,laid,ixI]
set_option maxHeartbeats 8000000 in
theorem delH (H:Int→Bool)(hs:List (PV×PV))(hH:HMap H hs)(l:List Int)(hl:l.length≤1000)(hin:∀n∈l,True):
  Zak Tryz.prog 66 [.vec (.par 0) 1 0 l.length,(.fn 97 [] [.ptr (.par 1) 0])] (laid 0 (.arr 3 1 (l.map intP)::hdB hs 1)) (fun x B=>x=.vec (.par 0) 1 0 (l.filter (fun n=>!(fun n=>!H n) n)).length∧∃X:List Int,X.take (l.filter (fun n=>!(fun n=>!H n) n)).length=l.filter (fun n=>!(fun n=>!H n) n)∧B=laid 0 (.arr 3 1 (X.map intP)::hdB hs 1)):=by
 have hC:=ixH H hs hH l hl hin;refine cBR [.par 0,.par 1,.par 2] L66 ?_;intro R hR;simp[-getElem?_pos,L66,hdB,laid];refine cM [.vec (.par 0) 1 0 l.length,(.fn 97 [] [.ptr (.par 1) 0])] (laid 0 (.arr 3 1 (l.map intP)::hdB hs 1)) 10 [.par 0,.par 1,.par 2] (by simp[hdB,laid]) hC (by simp[hdB,laid]) ?_;cases hx:l.findIdx? (fun n=>!H n)with
 |none=>
  have hfl:=Zlc hx;simp[-getElem?_pos,hdB,laid,ixI];rw[←hR,hfl];exact⟨rfl,l,by simp,by simp[hdB,laid]⟩
 |some i=>
  obtain⟨hi,hti⟩:=Zpf hx;have hw1:=wrapK (k:=i) (by omega);have hni:¬((i:Int) = -1):=by omega
  clear hC;simp[-getElem?_pos,hdB,laid,ixI,hw1,hni];refine Zae (fun n τ=>∃(j:Nat) (X K:List Int),j≤l.length∧n=l.length-j∧X.length=l.length∧K=(l.take j).filter (fun n=>!(fun n=>!H n) n)∧X.take K.length=K∧X.drop j=l.drop j∧K.length<j∧τ=⟨[(0,.vec (.par 0) 1 0 l.length),(1,(.fn 97 [] [.ptr (.par 1) 0])),(5,.pv (.int .i64 K.length)),(6,.pv (.int .i64 j))],laid 0 (.arr 3 1 (X.map intP)::hdB hs 1)⟩)
   ⟨l.length-(i+1),⟨[(0,.vec (.par 0) 1 0 l.length),(1,(.fn 97 [] [.ptr (.par 1) 0])),(5,.pv (.int .i64 i)),(6,.pv (.int .i64 (i+1:Nat)))],laid 0 (.arr 3 1 (l.map intP)::hdB hs 1)⟩,Sub.mk (by simp) (by simp[hdB,laid]),i+1,l,l.take i,by omega,rfl,rfl,hti,by simp,rfl,by rw[Zv8];omega,by rw[Zv8,Nat.min_eq_left (by omega)]⟩ ?_
  clear hx hw1 hni hti;rintro J hJ n τ ⟨j,X,K,hj,rfl,hXl,hKe,hXt,hXd,hKj,rfl⟩;by_cases hlt:j<l.length
  ·obtain⟨r,hxr⟩:∃x,l[j]?=some x:=⟨l[j],ZvZ hlt⟩;have hXr:X[j]?=some r:=by
    have h1:(X.drop j)[0]?=(l.drop j)[0]?:=by rw[hXd]
    rw[Zwj,Zwj,Nat.add_zero]at h1;rw[h1];exact hxr
   have hg:(X.map intP)[j]?=some (.int .i64 r):=by rw[Zv0,hXr];rfl
   have hw:=wrapK (k:=j) (by omega);have hw2:=wrapK (k:=K.length) (by omega);have hmeas:l.length-(j+1)<l.length-j:=by omega
   have hC:=predH H hs hH r (hin r (Zv3 hxr));have hdn:X.drop (j+1)=l.drop (j+1):=by
    have:=congrArg List.tail hXd
    simpa[List.tail_drop]using this
   have hKl:K.length<X.length:=by omega
   have htn:(l.take (j+1)).filter (fun n=>!(fun n=>!H n) n)=K++(if(!(fun n=>!H n) r)=true then[r]else[]):=by
    rw[Zwf,hxr,ZwM,←hKe];congr 1;simp only[Option.toList,ZwJ,List.filter_nil]
   have hset:∀Y,Y=X.set K.length r→(fun n=>!H n) r=false→J (l.length-(j+1)) ⟨[(0,.vec (.par 0) 1 0 l.length),(1,(.fn 97 [] [.ptr (.par 1) 0])),(5,.pv (.int .i64 (K.length+1:Nat))),(6,.pv (.int .i64 (j+1:Nat)))],laid 0 (.arr 3 1 (Y.map intP)::hdB hs 1)⟩:=fun Y hY hn=>hJ _ _ ⟨j+1,Y,K++[r],hlt,rfl,by rw[hY,List.length_set];exact hXl,by rw[htn,if_pos (by simp[hn])],by
    rw[hY,Zv7];show List.take (K.length+1) _=_;rw[Zwf,ZwX hKl,List.take_set_of_le (Zv5 _),hXt];rfl,by rw[hY,List.drop_set_of_lt (by omega)];exact hdn,by simp;omega,by simp⟩
   have hgot:(fun n=>!H n) r=true→J (l.length-(j+1)) ⟨[(0,.vec (.par 0) 1 0 l.length),(1,(.fn 97 [] [.ptr (.par 1) 0])),(5,.pv (.int .i64 K.length)),(6,.pv (.int .i64 (j+1:Nat)))],laid 0 (.arr 3 1 (X.map intP)::hdB hs 1)⟩:=fun hn=>hJ _ _ ⟨j+1,X,K,hlt,rfl,hXl,by rw[htn,if_neg (by simp[hn]),Zwn],hXt,hdn,by omega,rfl⟩
   clear hJ;have hKn:K.length<l.length:=by omega
   have hlt2:j<X.length:=by omega
   have hKx:(X.map intP)[K.length]?=some (.int .i64 X[K.length]):=by rw[Zv0,ZvZ hKl];rfl
   have hst:=Zq5 (X:=X) (w:=K.length) (r:=r);simp[-getElem?_pos,-List.getElem?_map,hdB,laid,hlt,hg,hXl,nblt,nble];refine cM [.pv (.int .i64 r),.ptr (.par 0) 0] (laid 0 (hdB hs 0)) 28 [.par 1,.par 2] (by simp[hdB,laid]) hC (by simp[hdB,laid]) ?_;cases hgv:(fun n=>!H n) r with
   |false=>
    have hround:=hset _ rfl hgv;have hgv':(!H r)=false:=hgv;simp[-getElem?_pos,-List.getElem?_map,hdB,laid,hgv',hw,hw2,hKn,hKx,hst,nblt,nble,setAt];refine⟨_,_,hmeas,Sub.mk ?_ ?_,hround⟩
    ·simp
    ·simp[hdB,laid]
   |true=>
    have hround:=hgot hgv;have hgv':(!H r)=true:=hgv;simp[-getElem?_pos,-List.getElem?_map,hdB,laid,hgv',hw];refine⟨_,_,hmeas,Sub.mk ?_ ?_,hround⟩
    ·simp
    ·simp[hdB,laid]
  ·have he:j=l.length:=by omega
   subst he;rw[Zwm]at hKe;clear hJ;have hK2:K.length≤l.length:=by omega
   have hKs:K.length+(l.length-K.length)=l.length:=by omega
   have hsp:splice (X.map intP) K.length (List.replicate (l.length-K.length) (PV.int .i64 0))=(K++List.replicate (l.length-K.length) 0).map intP:=by
    unfold splice;rw[List.length_replicate,hKs,List.drop_eq_nil_of_le (by simp;omega),Zwn,←List.map_take,hXt,Zwp,List.map_replicate];rfl
   simp[-getElem?_pos,-List.getElem?_map,-splice,hdB,laid,nblt,nble,hK2,hKs,hXl,hsp];rw[←hR,←hKe];exact⟨rfl,K++List.replicate (l.length-K.length) 0,by simp,by simp[hdB,laid]⟩
theorem del0H (hs:List (PV×PV)):Zak Tryz.prog 66 [.pv (.lst false 1 []),(.fn 97 [] [.ptr (.par 0) 0])] (laid 0 (hdB hs 0)) (fun x B=>x=.pv (.lst false 1 [])∧B=laid 0 (hdB hs 0)):=by
 have hC:Zak Tryz.prog 114 [.pv (.lst false 1 []),(.fn 97 [] [.ptr (.par 0) 0])] (laid 0 (hdB hs 0)) (fun x B=>x=.pv (.int .i64 (-1))∧B=laid 0 (hdB hs 0)):=by
  refine cB [.par 0,.par 1] L114 ?_;simp[-getElem?_pos,L114,hdB,laid];refine Zae (fun n τ=>n=0∧τ=⟨[(0,.pv (.lst false 1 [])),(1,(.fn 97 [] [.ptr (.par 0) 0])),(7,.pv (.int .i64 0)),(8,.pv (.int .i64 0))],laid 0 (hdB hs 0)⟩) ⟨0,⟨[(0,.pv (.lst false 1 [])),(1,(.fn 97 [] [.ptr (.par 0) 0])),(7,.pv (.int .i64 0)),(8,.pv (.int .i64 0))],laid 0 (hdB hs 0)⟩,Sub.mk (by simp) (by simp[hdB,laid]),rfl,rfl⟩ ?_;rintro J hJ n τ ⟨rfl,rfl⟩;simp[-getElem?_pos,hdB,laid]
 refine cB [.par 0,.par 1] L66 ?_;simp[-getElem?_pos,L66,hdB,laid];refine cM [.pv (.lst false 1 []),(.fn 97 [] [.ptr (.par 0) 0])] (laid 0 (hdB hs 0)) 10 [.par 0,.par 1] (by simp[hdB,laid]) hC (by simp[hdB,laid]) ?_;simp[-getElem?_pos,hdB,laid]
end
end
section
open Go.RowKit
set_option maxRecDepth 10000
section
attribute [local simp] Box.purge Site.isLoc
theorem Zq8 (l:List Int)(n:Int)(hl:l.length≤1000000):Gives Tryz.prog 147 [.lst false 1 (l.map iP),.int .i64 n] (.int .i64 (match l.findIdx? (fun y=>decide (n=y))with|some i=>i|none=>-1)):=by
 refine cS L147 ?_;simp[L147];refine Zae (fun m τ=>∃k:Nat,k≤l.length∧m=l.length-k∧(∀(j:Nat) (x:Int),j<k→l[j]?=some x→(fun y=>decide (n=y)) x=false)∧τ=⟨[(0,.pv (.lst false 1 (l.map iP))),(1,.pv (.int .i64 n)),(7,.pv (.int .i64 l.length)),(8,.pv (.int .i64 k))],[]⟩)
  ⟨l.length,_,Sub.mk (by simp) (by simp),0,by omega,rfl,(fun j x hj=>by omega),rfl⟩ ?_
 rintro J hJ m τ ⟨k,hk,rfl,hinv,rfl⟩;by_cases hlt:k<l.length
 ·obtain⟨z,hz⟩:∃x,l[k]?=some x:=⟨l[k],ZvZ hlt⟩;have hg:(l.map iP)[k]?=some (.int .i64 z):=by rw[Zv0,hz];rfl
  have hw:IntKind.i64.wrap ((k:Int)+1)=((k+1:Nat):Int):=by rw[wrap64 (by omega)];omega
  by_cases hb:n=z
  ·have hf:l.findIdx? (fun y=>decide (n=y))=some k:=Zj2 hz (by simpa using hb) hinv;simp[-getElem?_pos,-List.getElem?_map,hlt,hg,nblt,hb];rw[hb]at hf;rw[hf]
  ·simp[-getElem?_pos,-List.getElem?_map,hlt,hg,nblt,hb,hw];exact⟨_,_,(by omega:l.length-(k+1)<l.length-k),Sub.mk (by simp) (by simp),hJ _ _ ⟨k+1,by omega,rfl,fun j x hj hjx=>by
    rcases Zw1.1 hj with h|h
    ·exact hinv j x h hjx
    ·subst h;rw[hz]at hjx;cases hjx;simpa using hb,rfl⟩⟩
 ·have he:k=l.length:=by omega
  subst he;have hf:l.findIdx? (fun y=>decide (n=y))=none:=Zpg hinv;simp[-getElem?_pos,hf]
theorem Zuo (l:List Int)(n:Int)(hl:l.length≤1000000):Gives Tryz.prog 99 [.lst false 1 (l.map iP),.int .i64 n] (.bool (l.contains n)):=by
 refine cS L99 ?_;simp[-getElem?_pos,L99];refine cG [.lst false 1 (l.map iP),.int .i64 n] (Zq8 l n hl) ?_;cases h:l.findIdx? (fun y=>decide (n=y))with
 |none=>
  rw[ZwV]at h;have hn:n∉l:=fun hm=>by have:=h n hm;simp at this
  simp[-getElem?_pos,hn]
 |some i=>
  obtain⟨h1,h2,_⟩:=ZwU.1 h;have hm:n∈l:=by
   have:n=l[i]:=by simpa using h2
   rw[this];exact ZwA h1
  have h0:(0:Int)≤(i:Int):=by omega
  simp[-getElem?_pos,hm,h0]
end
attribute [local simp] AS.exp expG Box.ren AV.map AV.mapL Zaw noRet Site.isRet Box.allS AV.allS AV.allSL retB dropL AS.adds renL outG outOk Zau inG fnOf lookA Zww
attribute [local simp] Box.purge Site.isLoc
theorem Zun {X:List Ct}{w:Nat}{r:Ct}:(X.map Ct.pv).set w r.pv=(X.set w r).map Ct.pv:=by rw[List.map_set]
theorem Zne {α:Type}{l:List α}{k:Nat}{x:α}{p:α→Bool}(h:l[k]?=some x)(hp:p x=true)(hinv:∀(j:Nat) (y:α),j<k→l[j]?=some y→p y=false):l.findIdx? p=some k:=by
 obtain⟨hlt,e⟩:=Zv1.1 h;rw[ZwU];refine⟨hlt,by rw[e];exact hp,fun j hj=>?_⟩
 have:=hinv j l[j] hj (ZvZ (by omega))
 simp[this]
theorem Zrh {α:Type}{l:List α}{p:α→Bool}(hinv:∀(j:Nat) (y:α),j<l.length→l[j]?=some y→p y=false):l.findIdx? p=none:=by
 rw[ZwV];intro x hx;obtain⟨j,hj⟩:=Zwa.1 hx;exact hinv j x (Zv1.1 hj).1 hj
theorem Znd {α:Type}{l:List α}{p:α→Bool}{i:Nat}(h:l.findIdx? p=some i):i<l.length∧l.take i=(l.take (i+1)).filter (fun n=>!p n):=by
 obtain⟨h1,h2,h3⟩:=ZwU.1 h;refine⟨h1,?_⟩;rw[Zwf,ZvZ h1,ZwM];have e:(Option.some l[i]).toList.filter (fun n=>!p n)=[]:=by simp[h2]
 rw[e,Zwn,List.filter_eq_self.2];intro x hx;obtain⟨j,hj⟩:=Zwa.1 hx;rw[Zwi]at hj;split at hj
 ·rename_i hji;obtain⟨q1,q2⟩:=Zv1.1 hj
  have:=h3 j hji
  rw[q2]at this;simpa using this
 ·cases hj
theorem Zj4 {α:Type}{l:List α}{p:α→Bool}(h:l.findIdx? p=none):l.filter (fun n=>!p n)=l:=by
 rw[List.filter_eq_self];intro x hx
 have:=ZwV.1 h x hx
 simp[this]
def rgB (W:Box)(m:Nat):List Box:=[.cells [.ptr (.par (m+1)) 0],W]
def zCt:Ct:=⟨0,0,0,0,0,⟨0,0⟩⟩
def badP (bad:List Int)(x:Ct):Bool:=bad.contains x.num
theorem predR (a c d e:PV)(bad:List Int)(hb:bad.length≤1000)(x:Ct):Zak Tryz.prog 98 [.pv x.pv,.ptr (.par 0) 0] (laid 0 (rgB (wkX a (.lst false 1 (bad.map iP)) c d e) 0)) (fun r B=>r=.pv (.bool (badP bad x))∧B=laid 0 (rgB (wkX a (.lst false 1 (bad.map iP)) c d e) 0)):=by
 have hc:=Zuo bad x.num (by omega);refine cB [.par 0,.par 1] L98 ?_;simp[-getElem?_pos,L98,rgB,laid,wkX,Ct.pv];refine cG [.lst false 1 (bad.map iP),.int .i64 x.num] hc ?_;simp[-getElem?_pos,badP]
section
theorem ixC (a c d e:PV)(bad:List Int)(hb:bad.length≤1000)(l:List Ct)(hl:l.length≤1000):
  Zak Tryz.prog 90 [.vec (.par 0) 7 0 l.length,(.fn 98 [] [.ptr (.par 1) 0])] (laid 0 (.arr 47 7 (l.map Ct.pv)::rgB (wkX a (.lst false 1 (bad.map iP)) c d e) 1)) (fun x B=>x=.pv (.int .i64 (ixI (l.findIdx? (badP bad))))∧B=laid 0 (.arr 47 7 (l.map Ct.pv)::rgB (wkX a (.lst false 1 (bad.map iP)) c d e) 1)):=by
 refine cBR [.par 0,.par 1,.par 2] L90 ?_;intro R hR;simp[-getElem?_pos,L90,rgB,laid,wkX];refine Zae (fun n τ=>∃k:Nat,k≤l.length∧n=l.length-k∧(∀(j:Nat) (y:Ct),j<k→l[j]?=some y→(badP bad) y=false)∧τ=⟨[(0,.vec (.par 0) 7 0 l.length),(1,(.fn 98 [] [.ptr (.par 1) 0])),(7,.pv (.int .i64 l.length)),(8,.pv (.int .i64 k))],laid 0 (.arr 47 7 (l.map Ct.pv)::rgB (wkX a (.lst false 1 (bad.map iP)) c d e) 1)⟩)
  ⟨l.length,⟨[(0,.vec (.par 0) 7 0 l.length),(1,(.fn 98 [] [.ptr (.par 1) 0])),(7,.pv (.int .i64 l.length)),(8,.pv (.int .i64 0))],laid 0 (.arr 47 7 (l.map Ct.pv)::rgB (wkX a (.lst false 1 (bad.map iP)) c d e) 1)⟩,Sub.mk (by simp) (by simp[rgB,laid,wkX]),0,Zwb _,rfl,(fun j y hj=>by omega),rfl⟩ ?_
 rintro J hJ n τ ⟨k,hk,rfl,hinv,rfl⟩;by_cases hlt:k<l.length
 ·obtain⟨r,hx⟩:∃x,l[k]?=some x:=⟨l[k],ZvZ hlt⟩;have hg:(l.map Ct.pv)[k]?=some r.pv:=by rw[Zv0,hx];rfl
  simp only[Ct.pv]at hg;have hw:=wrapK (k:=k) (by omega);have hmeas:l.length-(k+1)<l.length-k:=by omega
  have hC:=predR a c d e bad hb r;have hnext:(badP bad) r=false→J (l.length-(k+1)) _:=fun hn=>hJ _ _ ⟨k+1,hlt,rfl,(fun j y hj hy=>by
   rcases Zw1.1 hj with h|h
   ·exact hinv j y h hy
   ·subst h;rw[hx]at hy;cases hy;exact hn),rfl⟩
  clear hJ;simp[-getElem?_pos,-List.getElem?_map,rgB,laid,wkX,hlt,hg,nblt,nble];refine cM [.pv r.pv,.ptr (.par 0) 0] (laid 0 (rgB (wkX a (.lst false 1 (bad.map iP)) c d e) 0)) 16 [.par 1,.par 2] (by simp[rgB,laid,wkX]) hC (by simp[rgB,laid,wkX]) ?_;cases hgv:(badP bad) r with
  |false=>
   have hround:=hnext hgv;have hgv':(badP bad r)=false:=hgv;simp[-getElem?_pos,-List.getElem?_map,rgB,laid,wkX,hw,hgv'];refine⟨_,_,hmeas,Sub.mk ?_ ?_,hround⟩
   ·simp
   ·simp[rgB,laid,wkX]
  |true=>
   have hf:=Zne hx hgv hinv;have hgv':(badP bad r)=true:=hgv;simp[-getElem?_pos,-List.getElem?_map,rgB,laid,wkX,hgv'];rw[←hR,hf];simp[rgB,laid,wkX,ixI]
 ·have he:k=l.length:=by omega
  subst he;have hf:=Zrh hinv;clear hJ;simp[-getElem?_pos,-List.getElem?_map,rgB,laid,wkX];rw[←hR,hf];simp[rgB,laid,wkX,ixI]
set_option maxHeartbeats 8000000 in
theorem delC (a c d e:PV)(bad:List Int)(hb:bad.length≤1000)(l:List Ct)(hl:l.length≤1000):
  Zak Tryz.prog 41 [.vec (.par 0) 7 0 l.length,(.fn 98 [] [.ptr (.par 1) 0])] (laid 0 (.arr 47 7 (l.map Ct.pv)::rgB (wkX a (.lst false 1 (bad.map iP)) c d e) 1)) (fun x B=>x=.vec (.par 0) 7 0 (l.filter (fun n=>!badP bad n)).length∧∃X:List Ct,X.take (l.filter (fun n=>!badP bad n)).length=l.filter (fun n=>!badP bad n)∧B=laid 0 (.arr 47 7 (X.map Ct.pv)::rgB (wkX a (.lst false 1 (bad.map iP)) c d e) 1)):=by
 have hC:=ixC a c d e bad hb l hl;refine cBR [.par 0,.par 1,.par 2] L41 ?_;intro R hR;simp[-getElem?_pos,L41,rgB,laid,wkX];refine cM [.vec (.par 0) 7 0 l.length,(.fn 98 [] [.ptr (.par 1) 0])] (laid 0 (.arr 47 7 (l.map Ct.pv)::rgB (wkX a (.lst false 1 (bad.map iP)) c d e) 1)) 10 [.par 0,.par 1,.par 2] (by simp[rgB,laid,wkX]) hC (by simp[rgB,laid,wkX]) ?_;cases hx:l.findIdx? (badP bad)with
 |none=>
  have hfl:=Zj4 hx;simp[-getElem?_pos,rgB,laid,wkX,ixI];rw[←hR,hfl];exact⟨rfl,l,by simp,by simp[rgB,laid,wkX]⟩
 |some i=>
  obtain⟨hi,hti⟩:=Znd hx;have hw1:=wrapK (k:=i) (by omega);have hni:¬((i:Int) = -1):=by omega
  clear hC;simp[-getElem?_pos,rgB,laid,wkX,ixI,hw1,hni];refine Zae (fun n τ=>∃(j:Nat) (X K:List Ct),j≤l.length∧n=l.length-j∧X.length=l.length∧K=(l.take j).filter (fun n=>!badP bad n)∧X.take K.length=K∧X.drop j=l.drop j∧K.length<j∧τ=⟨[(0,.vec (.par 0) 7 0 l.length),(1,(.fn 98 [] [.ptr (.par 1) 0])),(5,.pv (.int .i64 K.length)),(6,.pv (.int .i64 j))],laid 0 (.arr 47 7 (X.map Ct.pv)::rgB (wkX a (.lst false 1 (bad.map iP)) c d e) 1)⟩)
   ⟨l.length-(i+1),⟨[(0,.vec (.par 0) 7 0 l.length),(1,(.fn 98 [] [.ptr (.par 1) 0])),(5,.pv (.int .i64 i)),(6,.pv (.int .i64 (i+1:Nat)))],laid 0 (.arr 47 7 (l.map Ct.pv)::rgB (wkX a (.lst false 1 (bad.map iP)) c d e) 1)⟩,Sub.mk (by simp) (by simp[rgB,laid,wkX]),i+1,l,l.take i,by omega,rfl,rfl,hti,by simp,rfl,by rw[Zv8];omega,by rw[Zv8,Nat.min_eq_left (by omega)]⟩ ?_
  clear hx hw1 hni hti;rintro J hJ n τ ⟨j,X,K,hj,rfl,hXl,hKe,hXt,hXd,hKj,rfl⟩;by_cases hlt:j<l.length
  ·obtain⟨r,hxr⟩:∃x,l[j]?=some x:=⟨l[j],ZvZ hlt⟩;have hXr:X[j]?=some r:=by
    have h1:(X.drop j)[0]?=(l.drop j)[0]?:=by rw[hXd]
    rw[Zwj,Zwj,Nat.add_zero]at h1;rw[h1];exact hxr
   have hg:(X.map Ct.pv)[j]?=some r.pv:=by rw[Zv0,hXr];rfl
   simp only[Ct.pv]at hg;have hw:=wrapK (k:=j) (by omega);have hw2:=wrapK (k:=K.length) (by omega);have hmeas:l.length-(j+1)<l.length-j:=by omega
   have hC:=predR a c d e bad hb r;have hdn:X.drop (j+1)=l.drop (j+1):=by
    have:=congrArg List.tail hXd
    simpa[List.tail_drop]using this
   have hKl:K.length<X.length:=by omega
   have htn:(l.take (j+1)).filter (fun n=>!badP bad n)=K++(if(!(badP bad) r)=true then[r]else[]):=by
    rw[Zwf,hxr,ZwM,←hKe];congr 1;simp only[Option.toList,ZwJ,List.filter_nil]
   have hset:∀Y,Y=X.set K.length r→(badP bad) r=false→J (l.length-(j+1)) ⟨[(0,.vec (.par 0) 7 0 l.length),(1,(.fn 98 [] [.ptr (.par 1) 0])),(5,.pv (.int .i64 (K.length+1:Nat))),(6,.pv (.int .i64 (j+1:Nat)))],laid 0 (.arr 47 7 (Y.map Ct.pv)::rgB (wkX a (.lst false 1 (bad.map iP)) c d e) 1)⟩:=fun Y hY hn=>hJ _ _ ⟨j+1,Y,K++[r],hlt,rfl,by rw[hY,List.length_set];exact hXl,by rw[htn,if_pos (by simp[hn])],by
    rw[hY,Zv7];show List.take (K.length+1) _=_;rw[Zwf,ZwX hKl,List.take_set_of_le (Zv5 _),hXt];rfl,by rw[hY,List.drop_set_of_lt (by omega)];exact hdn,by simp;omega,by simp⟩
   have hgot:(badP bad) r=true→J (l.length-(j+1)) ⟨[(0,.vec (.par 0) 7 0 l.length),(1,(.fn 98 [] [.ptr (.par 1) 0])),(5,.pv (.int .i64 K.length)),(6,.pv (.int .i64 (j+1:Nat)))],laid 0 (.arr 47 7 (X.map Ct.pv)::rgB (wkX a (.lst false 1 (bad.map iP)) c d e) 1)⟩:=fun hn=>hJ _ _ ⟨j+1,X,K,hlt,rfl,hXl,by rw[htn,if_neg (by simp[hn]),Zwn],hXt,hdn,by omega,rfl⟩
   clear hJ;have hKn:K.length<l.length:=by omega
   have hlt2:j<X.length:=by omega
   have hKx:(X.map Ct.pv)[K.length]?=some X[K.length].pv:=by rw[Zv0,ZvZ hKl];rfl
   have hst:=Zun (X:=X) (w:=K.length) (r:=r);simp[-getElem?_pos,-List.getElem?_map,rgB,laid,wkX,hlt,hg,hXl,nblt,nble];refine cM [.pv r.pv,.ptr (.par 0) 0] (laid 0 (rgB (wkX a (.lst false 1 (bad.map iP)) c d e) 0)) 28 [.par 1,.par 2] (by simp[rgB,laid,wkX]) hC (by simp[rgB,laid,wkX]) ?_;cases hgv:(badP bad) r with
   |false=>
    have hround:=hset _ rfl hgv;have hgv':(badP bad r)=false:=hgv;simp[-getElem?_pos,-List.getElem?_map,rgB,laid,wkX,hgv',hw,hw2,hKn,hKx,hst,nblt,nble,setAt];refine⟨_,_,hmeas,Sub.mk ?_ ?_,hround⟩
    ·simp[hw,hw2]
    ·simp[rgB,laid,wkX,Ct.pv]
   |true=>
    have hround:=hgot hgv;have hgv':(badP bad r)=true:=hgv;simp[-getElem?_pos,-List.getElem?_map,rgB,laid,wkX,hgv',hw];refine⟨_,_,hmeas,Sub.mk ?_ ?_,hround⟩
    ·simp
    ·simp[rgB,laid,wkX]
  ·have he:j=l.length:=by omega
   subst he;rw[Zwm]at hKe;clear hJ;have hK2:K.length≤l.length:=by omega
   have hKs:K.length+(l.length-K.length)=l.length:=by omega
   have hsp:splice (X.map Ct.pv) K.length (List.replicate (l.length-K.length) zCt.pv)=(K++List.replicate (l.length-K.length) zCt).map Ct.pv:=by
    unfold splice;rw[List.length_replicate,hKs,List.drop_eq_nil_of_le (by simp;omega),Zwn,←List.map_take,hXt,Zwp,List.map_replicate]
   simp[-getElem?_pos,-List.getElem?_map,-splice,rgB,laid,wkX,nblt,nble,hK2,hKs,hXl,hsp];rw[←hR,←hKe];exact⟨rfl,K++List.replicate (l.length-K.length) zCt,by simp,by
    simp[rgB,laid,wkX];rw[←List.map_take,hXt,hKs,List.drop_eq_nil_of_le (by simp;omega)];simp[zCt,Ct.pv]⟩
theorem del0C (a b c d e:PV):Zak Tryz.prog 41 [.pv (.lst false 7 []),(.fn 98 [] [.ptr (.par 0) 0])] (laid 0 (rgB (wkX a b c d e) 0)) (fun x B=>x=.pv (.lst false 7 [])∧B=laid 0 (rgB (wkX a b c d e) 0)):=by
 have hC:Zak Tryz.prog 90 [.pv (.lst false 7 []),(.fn 98 [] [.ptr (.par 0) 0])] (laid 0 (rgB (wkX a b c d e) 0)) (fun x B=>x=.pv (.int .i64 (-1))∧B=laid 0 (rgB (wkX a b c d e) 0)):=by
  refine cB [.par 0,.par 1] L90 ?_;simp[-getElem?_pos,L90,rgB,laid,wkX];refine Zae (fun n τ=>n=0∧τ=⟨[(0,.pv (.lst false 7 [])),(1,(.fn 98 [] [.ptr (.par 0) 0])),(7,.pv (.int .i64 0)),(8,.pv (.int .i64 0))],laid 0 (rgB (wkX a b c d e) 0)⟩) ⟨0,⟨[(0,.pv (.lst false 7 [])),(1,(.fn 98 [] [.ptr (.par 0) 0])),(7,.pv (.int .i64 0)),(8,.pv (.int .i64 0))],laid 0 (rgB (wkX a b c d e) 0)⟩,Sub.mk (by simp) (by simp[rgB,laid,wkX]),rfl,rfl⟩ ?_;rintro J hJ n τ ⟨rfl,rfl⟩;simp[-getElem?_pos,rgB,laid,wkX]
 refine cB [.par 0,.par 1] L41 ?_;simp[-getElem?_pos,L41,rgB,laid,wkX];refine cM [.pv (.lst false 7 []),(.fn 98 [] [.ptr (.par 0) 0])] (laid 0 (rgB (wkX a b c d e) 0)) 10 [.par 0,.par 1] (by simp[rgB,laid,wkX]) hC (by simp[rgB,laid,wkX]) ?_;simp[-getElem?_pos,rgB,laid,wkX]
end
end
section
open Go.RowKit
def wkF:Nat→PV→PV→Bool
 |0,_,_=>false
 |n+1,x,y=>match x,y with
  |.emp _,.lst nn _ l=>!nn&&l.isEmpty
  |.agg a,.agg b=>decide (a.length=b.length)&&(a.zip b).all fun p=>wkF n p.1 p.2
  |.tup a,.tup b=>decide (a.length=b.length)&&(a.zip b).all fun p=>wkF n p.1 p.2
  |.lst nn k a,.lst nn' k' b=>decide (nn=nn')&&decide (k=k')&&decide (a.length=b.length)&&(b.all fun c=>decide (c.cells.length=k))&&(a.zip b).all fun p=>(p.1.cells.zip p.2.cells).all fun p=>wkF n p.1 p.2
  |x,y=>PV.beq x y
theorem ZhW {α:Type}{a b:List α}{j:Nat}{x y:α}(h1:a[j]?=some x)(h2:b[j]?=some y):(x,y)∈a.zip b:=by
 refine Zwa.2 ⟨j,?_⟩;rw[List.getElem?_zip_eq_some];exact⟨h1,h2⟩
theorem ZbW:∀(n:Nat) (x y:PV),wkF n x y=true→∀(m:Mem) (v:Value),RdP m v x→RdP m v y
 |0,_,_,h=>by cases h
 |n+1,x,y,h=>by
  intro m v hr;unfold wkF at h;split at h
  ·rename_i nl nn k l;simp only[Zv2,Bool.not_eq_true']at h;obtain⟨h1,h2⟩:=h;cases l with
   |nil=>subst h1;exact ZbM hr
   |cons a l=>cases h2
  ·rename_i a b;simp only[Zv2,decide_eq_true_eq,Zwl]at h;exact ZsN h.1 (fun j c c' d h1 h2 hd=>ZbW n c c' (h.2 _ (ZhW h1 h2)) m d hd) hr
  ·rename_i a b;simp only[Zv2,decide_eq_true_eq,Zwl]at h;exact ZnE h.1 (fun j c c' d h1 h2 hd=>ZbW n c c' (h.2 _ (ZhW h1 h2)) m d hd) hr
  ·rename_i nn k a nn' k' b;simp only[Zv2,decide_eq_true_eq,Zwl]at h;obtain⟨⟨⟨⟨rfl,rfl⟩,h1⟩,h2⟩,h3⟩:=h;exact Zvl h1 (fun j c hc=>h2 c (Zv3 hc)) (fun j c c' i d x x' k1 k2 k3 k4 hd=>ZbW n x x' (h3 _ (ZhW k1 k2) _ (ZhW k3 k4)) m d hd) hr
  ·rename_i x y _ _ _ _;rw[←PV.beq_eq _ _ h];exact hr
end
section
open Go.RowKit
set_option maxRecDepth 10000
attribute [local simp] AS.exp expG Box.ren AV.map AV.mapL Zaw noRet Site.isRet Box.allS AV.allS AV.allSL retB dropL AS.adds renL outG outOk Zau inG fnOf lookA Zww
attribute [local simp] Box.purge Site.isLoc
attribute [local simp] retFz frzL AS.frz AV.frz AV.frzL Box.frz AS.tidy AS.frzC frzsL retOk renB toLoc
def ZaE:List It:=[⟨0,true,⟨0,0⟩⟩,⟨0,true,⟨-2,2⟩⟩,⟨1,false,⟨0,0⟩⟩,⟨1,false,⟨0,0⟩⟩,⟨0,false,⟨0,0⟩⟩,⟨0,false,⟨0,0⟩⟩]
def ZhB:PV:=.lst false 1 [.lst false 2 [.agg [.int .i64 10,.int .i64 13]],.lst false 2 []]
theorem Zk3:Gives Tryz.prog 100 [] (itsP ZaE):=by
 refine cF [.loc 8 0] L100 ?_;simp[-getElem?_pos,L100,itsP,ZaE,It.pv,nble,setAt]
theorem Zfq:Gives Tryz.prog 103 [] ZhB:=by
 refine Zak.weak2 ?_;refine cF [.loc 3 0] L103 ?_;simp[-getElem?_pos,L103,nble];exact ZbW 5 _ _ rfl
theorem ZsV (l:List Ct)(b c d e:PV):Zak Tryz.prog 216 [.ptr (.par 0) 0] [(.par 0,wkX (ctsP l) b c d e)] (fun r B=>r=.pv (Bk.pv ⟨ZaE,l⟩)∧B=[(.par 0,wkX (ctsP l) b c d e)]):=by
 refine cB [.par 0] L216 ?_;simp[-getElem?_pos,L216,wkX,ctsP];refine cQ [] [] Zk3 ?_;simp[-getElem?_pos,Bk.pv,ctsP,itsP]
theorem Zoj (l:List PV)(a b c d:PV):Zak Tryz.prog 53 [.ptr (.par 0) 0] [(.par 0,wkX a b c d (.lst false 3 l))] (fun r B=>r=.pv (.agg [ZhB,.lst false 3 l])∧B=[(.par 0,wkX a b c d (.lst false 3 l))]):=by
 refine cB [.par 0] L53 ?_;simp[-getElem?_pos,L53,wkX];refine cQ [] [] Zfq ?_;simp[-getElem?_pos,ZhB]
end
section
open Go.RowKit
set_option maxRecDepth 10000
attribute [local simp] AS.exp expG Box.ren AV.map AV.mapL Zaw noRet Site.isRet Box.allS AV.allS AV.allSL retB dropL AS.adds renL outG outOk Zau inG fnOf lookA Zww
attribute [local simp] Box.purge Site.isLoc
attribute [local simp] ZaC Zax Zam Zaz
section
end
end
section
open Go.RowKit
set_option maxRecDepth 10000
theorem Zk6 {b:Bk}(hb:b.ok){bad:List Int}:b.nums.filter (fun n=>(b.held bad).contains n)=b.held bad:=by
 refine Zk4 (Zby.filter _) (ZfH 1000).1 (fun x=>?_);rw[Zwe,Zwk];exact⟨fun h=>h.2,fun h=>⟨ZjX hb h,h⟩⟩
attribute [local irreducible] Bk.held Bk.nums
def Bk.heldM (b:Bk)(bad:List Int):List Int×Int:=if b.fault=0 then(if areB bad=true then(b.held bad,0)else([],2))else([],b.fault)
def lstE (x:List Int×Int):PV:=.tup [.lst false 1 (x.1.map intP),.int .i64 x.2]
theorem Zfr {e:Int}{l:List Int×Int}(h:l=([],e)):∀m v,RdP m v (.tup [.emp (some true),.int .i64 e])→RdP m v (lstE l):=by
 subst h;intro m v hv;refine ZnE (cs:=[.emp (some true),.int .i64 e]) (cs':=[.lst false 1 [],.int .i64 e]) rfl ?_ hv;intro j c c' d h1 h2 hr
 match j with
 |0=>simp at h1 h2;subst h1 h2;exact ZbM hr
 |1=>simp at h1 h2;subst h1 h2;exact hr
 |j+2=>simp at h1
attribute [local simp] AS.exp expG Box.ren AV.map AV.mapL Zaw noRet Site.isRet Box.allS AV.allS AV.allSL retB dropL AS.adds renL outG outOk Zau inG fnOf lookA Zww
attribute [local simp] Box.purge Site.isLoc
attribute [local simp] ZaC Zax Zam Zaz Za4
attribute [local simp] retFz frzL AS.frz AV.frz AV.frzL Box.frz AS.tidy AS.frzC
set_option maxHeartbeats 16000000 in
theorem ZvX (b:Bk)(hi:b.items.length≤1000)(hc:b.certs.length≤1000)(bad:List Int)(hbl:bad.length≤1000):Zak Tryz.prog 50 [.pv b.pv,.pv (.lst false 1 (bad.map intP))] [] (fun r B=>r=.pv (lstE (b.heldM bad))∧B=[]):=by
 have hr:=Znx b hi hc bad hbl;refine Zak.weak2 ?_;refine cFR [.loc 24 0] L50 ?_;intro R hR;simp[-getElem?_pos,L50,Bk.pv];refine cL [.pv b.pv,.pv (.lst false 1 (bad.map intP))] [] 12 [] rfl hr ?_
 rintro r0 B0 (⟨h0,rfl,rfl⟩|⟨h0,h1,rfl,rfl⟩|⟨h0,h1,es,hes,rfl,rfl⟩)
 ·refine⟨rfl,by simp,?_⟩;have hd:decide (b.fault=0)=false:=by simpa using h0
  simp[-getElem?_pos,-decide_eq_true_eq,-decide_eq_false_iff_not,hd];rw[←hR];exact⟨_,rfl,rfl,Zfr (by unfold Bk.heldM;rw[if_neg h0])⟩
 ·refine⟨rfl,by simp,?_⟩;simp[-getElem?_pos];rw[←hR];exact⟨_,rfl,rfl,Zfr (by unfold Bk.heldM;rw[if_pos h0,if_neg (by simp[h1])])⟩
 have hb:b.ok:=Bk.ok_iff.1 h0;have hM:b.heldM bad=(b.held bad,0):=by unfold Bk.heldM;rw[if_pos h0,if_pos h1]
 refine⟨rfl,by simp[wkC],?_⟩;simp[-getElem?_pos,-List.getElem?_map,wkC];refine cM [.ptr (.par 0) 0] (laid 0 (wkB b bad es)) 19 [.loc 12 0,.loc 12 1] (by simp[laid,wkB,wkC]) (Zpb b hb bad es hes) (by simp[laid,wkB,wkC]) ?_;have hH:=ZcB hb bad;have hf:=Zk6 hb (bad:=bad);generalize hEnt b bad b.nums.length=hs at *;simp[-getElem?_pos,-List.getElem?_map,laid,wkB,wkC];by_cases hn:b.nums=[]
 ·have hhe:b.held bad=[]:=by rw[←hf,hn];rfl
  rw[hn];simp only[List.map_nil];refine .inl (cQ [] [.lst false 1 []] ZrC ?_);simp[-getElem?_pos,-List.getElem?_map,frzsL];refine cM [.pv (.lst false 1 []),.fn 97 [] [.ptr (.par 0) 0]] (laid 0 (hdB hs 0)) 26 [.loc 8 0,.loc 19 0] (by simp[laid,hdB]) (del0H hs) (by simp[laid,hdB]) ?_;simp[-getElem?_pos,-List.getElem?_map,laid,hdB];rw[←hR,hM,hhe];exact⟨_,rfl,rfl,fun m v h=>h⟩
 ·have hl:=ZdX (b:=b);refine cM [.pv (.lst false 1 (b.nums.map intP))] [] 24 [] rfl (Zlk b.nums hn (by omega)) (by simp) ?_;simp[-getElem?_pos,-List.getElem?_map];refine cL [.vec (.par 0) 1 0 b.nums.length,.fn 97 [] [.ptr (.par 1) 0]] (laid 0 (.arr 3 1 (b.nums.map intP)::hdB hs 1)) 26 [.loc 24 0,.loc 8 0,.loc 19 0] (by simp[laid,hdB]) (delH _ hs hH b.nums hl (fun _ _=>trivial)) ?_
  rintro r0 B0 ⟨rfl,X,hX,rfl⟩;have hff:(b.nums.filter fun n=>!(fun n=>!(b.held bad).contains n) n)=b.held bad:=by
   refine Eq.trans (List.filter_congr fun n _=>?_) hf;exact Bool.not_not _
  rw[hff]at hX;simp only[hff];refine⟨rfl,by simp[laid,hdB],?_⟩;have hXm:(X.map intP).take (b.held bad).length=(b.held bad).map intP:=by rw[←List.map_take,hX]
  have hXl:(b.held bad).length≤X.length:=by
   have:=congrArg List.length hX
   rw[Zv8]at this;omega
  simp[-getElem?_pos,-List.getElem?_map,laid,hdB,hXm,hXl];rw[←hR,hM];exact⟨_,rfl,rfl,fun m v h=>h⟩
end
section
open Go.RowKit
set_option maxRecDepth 10000
attribute [local irreducible] Bk.held Bk.nums
theorem Zgm {b:Bk}(hb:b.ok):∀n∈b.nums,1≤n∧n≤999:=fun n hn=>by
 obtain⟨c,hc,rfl⟩:=(Zbw hb).1 hn
 have:=Zbg hb hc
 omega
attribute [local simp] AS.exp expG Box.ren AV.map AV.mapL Zaw noRet Site.isRet Box.allS AV.allS AV.allSL retB dropL AS.adds renL outG outOk Zau inG fnOf lookA Zww
attribute [local simp] Box.purge Site.isLoc
attribute [local simp] ZaC Zax Zam Zaz Za4
attribute [local simp] retFz frzL AS.frz AV.frz AV.frzL Box.frz AS.tidy AS.frzC
end
section
open Go.RowKit
set_option maxRecDepth 10000
attribute [local irreducible] Bk.held Bk.nums
theorem cok58:COk Tryz.prog (tyOf tys) L76.code:=ZgD L76_ok L76_tab
noncomputable def askX (b:Bk)(bad:List Int)(es hs:List (PV×PV))(is:Bool):List Box:=[.loop (rcode Tryz.prog 76 0) [49] 61 [(11,.ptr (.par 2) 0),(12,.ptr (.par 1) 0)] none,
 .cells [.pv (.bool is)],.cells [.mp (.par 3)],.map hs,capB (.par 5),.cells (wkC b (.par 6) (badZ bad)),.map es]
attribute [local simp] AS.exp expG Box.ren AV.map AV.mapL Zaw noRet Site.isRet Box.allS AV.allS AV.allSL retB dropL AS.adds renL outG outOk Zau inG fnOf lookA Zww
section
attribute [local simp] Box.purge Site.isLoc
set_option maxHeartbeats 8000000 in
noncomputable def askC (b:Bk)(bad:List Int)(es hs:List (PV×PV))(H:Int→Bool)(hH:HMap H hs):Cons Tryz.prog where
 m:=7
 S:=Bool
 X:=askX b bad es hs
 step is x:=(is||H (numOf x),true)
 good x:=∃c:Ct,x=c.pv
 live _:=True
 m0:=by omega
 len _:=rfl
 cl c:=by
  intro bx hb;simp only[askX,Zwg,List.not_mem_nil,or_false]at hb;rcases hb with rfl|rfl|rfl|rfl|rfl|rfl|rfl
  ·rfl
  ·rfl
  ·rfl
  ·rfl
  ·rfl
  ·simp[wkC,Site.lt,Zax]
  ·rfl
 goes _ _ _ _ _:=trivial
 yields c x hc hx:=by
  obtain⟨y,rfl⟩:=hx;have hcok:COk Tryz.prog (tyOf tys) (.rng 61 (.t 48) (rcode Tryz.prog 76 0) Y76_0a Y76_0b [49]):=cok58.2.2.2.2.2.2.1.2;have hf:=hH.f y.num;have hk:=hH.k;refine Zbc mixed hcok.1 hcok.2.1 rfl rfl (by simp) rfl ?_;cases c
  all_goals
   simp[-getElem?_pos,Y76_0a,Y76_0b,askX,laid,putL,Ct.pv,hk,hf,numOf,capB,wkC,Zam,ZaC];exact⟨[],[.par 1,.par 2,.par 3,.par 4,.par 5,.par 6],rfl,rfl,by simp[frzL,Zax],rfl,by simp[frzL,Zaz]⟩
end
theorem ZmG {b:Bk}{bad:List Int}{es hs:List (PV×PV)}{H:Int→Bool}{hH:HMap H hs}:∀(l:List Ct) (c:Bool),(askC b bad es hs H hH).run c (ctsV l)=(c||l.any (fun o=>H o.num),true)
 |[],c=>by
  show(c,true)=_;simp
 |x::l,c=>by
  show(askC b bad es hs H hH).run (c||H x.num) (ctsV l)=_;rw[ZmG l,List.any_cons,Bool.or_assoc]
def Bk.isHeld (b:Bk)(item day:Int):Bool:=(b.item item).std||(b.ofL item day 1000).any fun o=>(b.held []).contains o.num
def Bk.askM (b:Bk)(item day:Int):Int:=if b.fault=0 then(if(b.hasItem item&&inB day 0 1000)=true then(if b.isHeld item day=true then 0 else 10)else 2)else b.fault
def askR (b:Bk)(item day:Int)(r:AV)(B:List (Site×Box)):Prop:=
 (b.askM item day≠0∧r=.pv (.tup [.nilp,.nilmap,.int .i64 (b.askM item day)])∧B=[])∨
 (b.askM item day=0∧b.fault=0∧b.hasItem item=true∧inB day 0 1000=true∧b.isHeld item day=true∧∃es,CMap b es∧r=.tup [.ptr (.ret 0) 0,.mp (.ret 2),.pv (.int .i64 0)]∧B=[(.ret 0,.cells (wkC b (.ret 1) (badZ []))),(.ret 1,.map es),(.ret 2,.map (hEnt b [] b.nums.length))])
attribute [local simp] Box.purge Site.isLoc
attribute [local simp] ZaC Zax Zam Zaz Za4
set_option maxHeartbeats 16000000 in
theorem Zp1 (b:Bk)(hi:b.items.length≤1000)(hc:b.certs.length≤1000)(item day:Int):Zak Tryz.prog 76 [.pv b.pv,.pv (.int .i64 item),.pv (.int .i64 day)] [] (askR b item day):=by
 have hr:=Zjq b hi hc;refine cE L76 ?_;generalize hR:askR b item day=R;have rerr:∀e,b.askM item day=e→e≠0→R (.pv (.tup [.nilp,.nilmap,.int .i64 e])) []:=fun e h h0=>by
  rw[←hR];exact .inl ⟨by rw[h];exact h0,by rw[h],rfl⟩
 simp[-getElem?_pos,L76,Bk.pv];refine cL [.pv b.pv] [] 16 [] rfl hr ?_
 rintro r0 B0 (⟨h0,rfl,rfl⟩|⟨h0,es,hes,rfl,rfl⟩)
 ·refine⟨rfl,by simp,?_⟩;have hd:decide (b.fault=0)=false:=by simpa using h0
  have h2:=rerr _ (by unfold Bk.askM;rw[if_neg h0]) h0;simp[-getElem?_pos,-decide_eq_true_eq,-decide_eq_false_iff_not,hd,-retB];exact⟨[],by simpa using h2⟩
 have hb:b.ok:=Bk.ok_iff.1 h0;refine⟨rfl,by simp[wkC,Zb0],?_⟩;simp[-getElem?_pos,-List.getElem?_map,wkC,Zb0,-retB];refine cG [b.pv,.int .i64 item] (ZoZ b item hi) ?_;cases e1:b.hasItem item
 ·have h2:=rerr 2 (by unfold Bk.askM;rw[if_pos h0,e1];rfl) (by omega);simp[-getElem?_pos,-List.getElem?_map,-retB];exact⟨[],by simpa using h2⟩
 simp[-getElem?_pos,-List.getElem?_map,-retB];refine cG [.int .i64 day] (day_c day) ?_;cases e2:inB day 0 1000
 ·have h2:=rerr 2 (by unfold Bk.askM;rw[if_pos h0,e1,e2];rfl) (by omega);simp[-getElem?_pos,-List.getElem?_map,-retB];exact⟨[],by simpa using h2⟩
 simp[-getElem?_pos,-List.getElem?_map,-retB];refine cM [.ptr (.par 0) 0] (laid 0 (wkB b [] es)) 35 [.loc 16 0,.loc 16 1] (by simp[laid,wkB,wkC]) (Zpb b hb [] es hes) (by simp[laid,wkB,wkC]) ?_;have hH:=ZcB hb [];have hrok:b.isHeld item day=true→R (.tup [.ptr (.ret 0) 0,.mp (.ret 2),.pv (.int .i64 0)]) [(.ret 0,.cells (wkC b (.ret 1) (badZ []))),(.ret 1,.map es),(.ret 2,.map (hEnt b [] b.nums.length))]:=fun h=>by
  rw[←hR];refine .inr ⟨?_,h0,e1,e2,h,es,hes,rfl,rfl⟩;unfold Bk.askM;rw[if_pos h0,e1,e2,if_pos (show(true&&true)=true from rfl),if_pos h]
 have hrno:b.isHeld item day=false→R (.pv (.tup [.nilp,.nilmap,.int .i64 10])) []:=fun h=>by
  refine rerr 10 ?_ (by omega);unfold Bk.askM;rw[if_pos h0,e1,e2,if_pos (show(true&&true)=true from rfl),if_neg (by simp[h])]
 generalize hEnt b [] b.nums.length=hs at *;have hii:0≤item∧item<b.items.length:=by
  unfold Bk.hasItem inB at e1;simp only[Zv2,decide_eq_true_eq]at e1;omega
 obtain⟨si,rfl⟩:∃si:Nat,item=si:=⟨item.toNat,by omega⟩;have hsi:si<b.items.length:=by omega
 obtain⟨z,hz⟩:∃z,b.items[si]?=some z:=⟨b.items[si],ZvZ hsi⟩;have hgz:(b.items.map It.pv)[si]?=some (.agg [.int .i64 z.drift,.bool z.std,.int .i64 z.val.lo,.int .i64 z.val.hi]):=by rw[Zv0,hz];rfl
 have hzi:b.item (si:Int)=z:=by unfold Bk.item;rw[ZwS,hz];rfl
 have hIH:b.isHeld si day=(z.std||(b.ofL si day 1000).any fun o=>(b.held []).contains o.num):=by unfold Bk.isHeld;rw[hzi]
 have hrun:=fun is:Bool=>ZmG (b:=b) (bad:=[]) (es:=es) (hH:=hH) (b.ofL si day 1000) is
 have hit:=fun is:Bool=>ZjM (askC b [] es hs _ hH) b hb [] es hes 4 5 6 (fun c _=>⟨rfl,rfl⟩) (fun c _=>rfl) si day 1000 is trivial (fun z hz=>⟨z,rfl⟩)
 simp only[hrun]at hit;generalize hAN:((b.ofL si day 1000).any fun n=>(b.held []).contains n.num)=an at *;have hit':=hit z.std;clear hit;simp[-getElem?_pos,-List.getElem?_map,laid,wkB,wkC,itsP,hgz,hsi,-retB];refine cM [.ptr (.par 0) 0,.pv (.int .i64 si),.pv (.int .i64 day),.pv (.int .i64 1000)] (laid 0 (wkB b [] es)) 48 [.loc 16 0,.loc 16 1] (by simp[laid,wkB,wkC,itsP]) (of_c b [] es si day 1000) (by simp[laid,wkB,wkC]) ?_;simp[-getElem?_pos,-List.getElem?_map,laid,wkB,wkC,ofF,-retB];refine ZdT [.loc 61 0,.loc 12 0,.loc 11 0,.loc 35 0,.loc 48 0,.loc 16 0,.loc 16 1] [(11,.ptr (.loc 11 0) 0),(12,.ptr (.loc 12 0) 0)] (gf:=124) (fs:=[]) (cs:=[.ptr (.loc 48 0) 0,.pv (.ref [.int .i64 1000]),.pv (.ref [.int .i64 si]),.pv (.ref [.int .i64 day])]) ?_ ?_ rfl rfl ?_ ?_ ?_ hit' ?_
 ·rfl
 ·simp
 ·simp[askC,askX,laid,wkC,capB]
 ·rfl
 ·rfl
 rintro r B' ⟨rfl,rfl⟩;refine⟨rfl,?_,?_⟩
 ·exact fun p hp=>Zfv (n:=7) (L:=askX b [] es hs (z.std||an)) (by simp[askX]) ((askC b [] es hs _ hH).cl (z.std||an)) p hp
 refine⟨_,_,_,_,_,rfl,?_⟩;cases hIS:(z.std||an)
 ·rw[hIS]at hIH;have h2:=hrno hIH;simp[-getElem?_pos,-List.getElem?_map,askC,askX,laid,jumpQ,wkC,capB,-retB,hIS];exact⟨[],by simpa using h2⟩
 ·rw[hIS]at hIH;have h2:=hrok hIH;simp[-getElem?_pos,-List.getElem?_map,askC,askX,laid,jumpQ,wkC,capB,-retB,hIS];refine⟨[.loc 16 0,.loc 16 1,.loc 35 0],?_⟩;simpa[wkC]using h2
end
section
open Go.RowKit
set_option maxRecDepth 10000
attribute [local irreducible] Bk.held Bk.nums
def spB (b:Bk)(es hs ss:List (PV×PV)):List Box:=[.cells [.ptr (.par 3) 0,.mp (.par 1),.mp (.par 2)],.map hs,.map ss,.cells (wkC b (.par 4) (badZ [])),.map es]
attribute [local simp] AS.exp expG Box.ren AV.map AV.mapL Zaw noRet Site.isRet Box.allS AV.allS AV.allSL retB dropL AS.adds renL outG outOk Zau inG fnOf lookA Zww
attribute [local simp] Box.purge Site.isLoc
attribute [local simp] ZaC Zax Zam Zaz Za4
theorem ZgQ (b:Bk)(es hs ss:List (PV×PV))(H:Int→Bool)(hH:HMap H hs)(c:Ct):Zak Tryz.prog 87 [.ptr (.par 0) 0,.pv c.pv] (laid 0 (spB b es hs ss)) (fun r B=>r=.pv (.bool (H c.num))∧B=laid 0 (spB b es hs ss)):=by
 have hf:=hH.f c.num;have hk:=hH.k;refine cB [.par 0,.par 1,.par 2,.par 3,.par 4] L87 ?_;simp[-getElem?_pos,L87,spB,laid,wkC,Ct.pv,hf,hk]
theorem cok61:COk Tryz.prog (tyOf tys) L88.code:=ZgD L88_ok L88_tab
noncomputable def spnX (b:Bk)(es hs ss:List (PV×PV))(item day:Int)(r:Cr):List Box:=[.loop (rcode Tryz.prog 88 0) [47] 79 [(4,.ptr (.par 2) 0),(5,.ptr (.par 3) 0),(6,.ptr (.par 4) 0),(9,.ptr (.par 5) 0),(10,.ptr (.par 1) 0)] none,
 .cells [.pv (.int .i64 r.lo),.pv (.int .i64 r.hi)],.cells [.ptr (.par 6) 0],.cells [.pv (.int .i64 item)],.cells [.pv (.int .i64 day)],.cells [.fn 87 [.ptr (.par 6) 0] []],
 .cells [.ptr (.par 9) 0,.mp (.par 7),.mp (.par 8)],.map hs,.map ss,.cells (wkC b (.par 10) (badZ [])),.map es,capB (.par 9)]
def ctOf:PV→Ct
 |.agg [.int _ n,.int _ i,.int _ s,.int _ d,.int _ v,.int _ lo,.int _ hi]=>⟨n,i,s,d,v,⟨lo,hi⟩⟩
 |_=>ct0
theorem ZgW (c:Ct):ctOf c.pv=c:=rfl
def zR:PV:=.agg [.int .i64 0,.int .i64 0]
structure SMap (b:Bk)(S:Int→Cr)(below:Int)(ss:List (PV×PV)):Prop where
 k:ZbD kI ss=true
 f:∀c∈b.certs,c.num<below→c.num∈b.held []→(findV (.int .i64 c.num) ss).getD zR=(S c.num).pv∧(S c.num).bdd 1000000000
def ZfD (b:Bk)(S:Int→Cr)(item day:Int)(r:Cr)(c:Ct):Cr:=match(b.held []).contains c.num with
 |true=>r.cut ((S c.num).wider ((b.item item).drift*(day-c.day)))
 |false=>r
section
set_option maxHeartbeats 16000000 in
noncomputable def spnC (b:Bk)(hb:b.ok)(es hs ss:List (PV×PV))(hH:HMap (fun n=>(b.held []).contains n) hs)(S:Int→Cr)(si:Nat)(hsi:si<b.items.length)(day below:Int)(hd:0≤day∧day≤1000)(hS:SMap b S below ss):Cons Tryz.prog where
 m:=12
 S:=Cr
 X:=spnX b es hs ss si day
 step r x:=(ZfD b S si day r (ctOf x),true)
 good x:=∃c∈b.ofL si day below,x=c.pv
 live _:=True
 m0:=by omega
 len _:=rfl
 cl c:=by
  intro bx hb;simp only[spnX,Zwg,List.not_mem_nil,or_false]at hb;rcases hb with rfl|rfl|rfl|rfl|rfl|rfl|rfl|rfl|rfl|rfl|rfl|rfl
  all_goals first|rfl|simp[wkC,Site.lt,Zax]
 goes _ _ _ _ _:=trivial
 yields r x hc hx:=by
  obtain⟨y,hy,rfl⟩:=hx;rw[ZgW];have hcok:COk Tryz.prog (tyOf tys) (.rng 79 (.t 46) (rcode Tryz.prog 88 0) Y88_0a Y88_0b [47]):=cok61.2.2.2.2.1.2;have hcall:=ZgQ b es hs ss _ hH y;obtain⟨hyc,hyo⟩:=(Zb9 hb).1 hy;unfold Bk.ofB at hyo;simp only[Zv2,decide_eq_true_eq]at hyo;have hfar:=ZsG hb hyc hyo.2.2;have hbd:=Zbg hb hyc;obtain⟨z,hz⟩:∃z,b.items[si]?=some z:=⟨b.items[si],ZvZ hsi⟩;have hgz:(b.items.map It.pv)[si]?=some (.agg [.int .i64 z.drift,.bool z.std,.int .i64 z.val.lo,.int .i64 z.val.hi]):=by rw[Zv0,hz];rfl
  have hzi:b.item (si:Int)=z:=by unfold Bk.item;rw[ZwS,hz];rfl
  rw[hyo.2.1,hzi]at hfar;have w1:IntKind.i64.wrap (day-y.day)=day-y.day:=wrap64 (by omega);have w2:IntKind.i64.wrap (z.drift*(day-y.day))=z.drift*(day-y.day):=wrap64 (by omega);have hk:=hS.k;have hstep:ZfD b S si day r y=match(b.held []).contains y.num with
   |true=>r.cut ((S y.num).wider (z.drift*(day-y.day)))
   |false=>r:=by unfold ZfD;rw[hzi]
  have hsf:=fun h:(b.held []).contains y.num=true=>hS.f y hyc hyo.1 (Zwk.1 h)
  rw[hstep];obtain⟨far,hfe⟩:∃far,z.drift*(day-y.day)=far:=⟨_,rfl⟩;rw[hfe]at hfar hstep;have w2':IntKind.i64.wrap (z.drift*(day-y.day))=far:=w2.trans hfe;rw[hfe];clear hstep w2 hfe;generalize hcv:(b.held []).contains y.num=v at *;refine Zbc mixed hcok.1 hcok.2.1 rfl rfl (by simp) rfl ?_;simp[-getElem?_pos,-List.getElem?_map,Y88_0a,Y88_0b,spnX,laid,putL,Ct.pv,capB,wkC];refine Zac (as':=[.ptr (.par 0) 0,.pv y.pv]) (B:=laid 0 (spB b es hs ss)) (fs:=[.ptr (.par 6) 0]) (cs:=[]) 50 [.par 6,.par 7,.par 8,.par 9,.par 10] ?_ rfl rfl ?_ ?_ ?_ hcall ?_
  ·rfl
  ·simp[laid,spB,wkC]
  ·rfl
  ·rfl
  rintro r0 B0 ⟨rfl,rfl⟩;refine⟨rfl,by simp[laid,spB,wkC],?_⟩;cases v
  ·simp[-getElem?_pos,-List.getElem?_map,laid,spB,wkC,-retB];exact⟨[],[.par 1,.par 2,.par 3,.par 4,.par 5,.par 6,.par 7,.par 8,.par 9,.par 10,.par 11],rfl,rfl,by simp[frzL],rfl,by simp[frzL,wkC]⟩
  ·obtain⟨hs1,hs2⟩:=hsf rfl;unfold Cr.bdd at hs2;have hwd:=ZsU (S y.num) far (wrap64 (by omega)) (wrap64 (by omega)) (wrap64 (by omega));have hct:=cut_c r ((S y.num).wider far);generalize S y.num=sy at *;unfold zR at hs1;unfold Cr.pv at hs1;simp[-getElem?_pos,-List.getElem?_map,laid,spB,wkC,-retB,hk,hs1,itsP,hgz,hsi,w1,w2'];refine cQ [] [sy.pv,.int .i64 far] hwd ?_;simp[-getElem?_pos,-List.getElem?_map,frzsL];refine .inl (cQ [] [r.pv,(sy.wider far).pv] hct ?_);simp[-getElem?_pos,-List.getElem?_map,frzsL,Cr.pv];exact⟨[],[.par 1,.par 2,.par 3,.par 4,.par 5,.par 6,.par 7,.par 8,.par 9,.par 10,.par 11],rfl,rfl,by simp[frzL],rfl,by simp[frzL,wkC,itsP]⟩
end
end
section
open Go.RowKit
set_option maxRecDepth 10000
attribute [local irreducible] Bk.held Bk.nums
theorem ZlJ {b:Bk}{hb:b.ok}{es hs ss:List (PV×PV)}{hH:HMap (fun n=>(b.held []).contains n) hs}{S:Int→Cr}{si:Nat}{hsi:si<b.items.length}{day below:Int}{hd:0≤day∧day≤1000}{hS:SMap b S below ss}:∀(l:List Ct) (r:Cr),(spnC b hb es hs ss hH S si hsi day below hd hS).run r (ctsV l)=(l.foldl (ZfD b S si day) r,true)
 |[],r=>rfl
 |x::l,r=>by
  show(spnC b hb es hs ss hH S si hsi day below hd hS).run (ZfD b S si day r x) (ctsV l)=_;rw[ZlJ l];rfl
theorem Zjf {b:Bk}{S:Int→Cr}{item day:Int}:∀(l:List Ct) (r:Cr),l.foldl (ZfD b S item day) r=(l.filter fun c=>(b.held []).contains c.num).foldl (fun r c=>r.cut ((S c.num).wider ((b.item item).drift*(day-c.day)))) r
 |[],r=>rfl
 |c::l,r=>by
  rw[List.foldl_cons,Zjf l,ZwJ];unfold ZfD;cases h:(b.held []).contains c.num
  ·rfl
  ·rfl
theorem Zpe {b:Bk}(hb:b.ok){S:Int→Cr}{item day below:Int}(h:(b.item item).std=false):(b.ofL item day below).foldl (ZfD b S item day) Zdb=b.itemSpan (b.held []) S item day below:=by
 rw[Zjf,Zck h];refine Zrs (fun c=>?_);rw[Zwe,Zwe,Zb9 hb,Zv2];exact⟨fun⟨⟨h1,h2⟩,h3⟩=>⟨h1,h2,h3⟩,fun⟨h1,h2,h3⟩=>⟨⟨h1,h2⟩,h3⟩⟩
attribute [local simp] AS.exp expG Box.ren AV.map AV.mapL Zaw noRet Site.isRet Box.allS AV.allS AV.allSL retB dropL AS.adds renL outG outOk Zau inG fnOf lookA Zww
attribute [local simp] Box.purge Site.isLoc
attribute [local simp] ZaC Zax Zam Zaz Za4
set_option maxHeartbeats 16000000 in
theorem ZnM (b:Bk)(hb:b.ok)(es hs ss:List (PV×PV))(hes:CMap b es)(hH:HMap (fun n=>(b.held []).contains n) hs)(S:Int→Cr)(si:Nat)(hsi:si<b.items.length)(day below:Int)(hd:0≤day∧day≤1000)(hS:SMap b S below ss):
  Zak Tryz.prog 88 [.ptr (.par 0) 0,.pv (.int .i64 si),.pv (.int .i64 day),.pv (.int .i64 below)] (laid 0 (spB b es hs ss)) (fun r B=>r=.pv (b.itemSpan (b.held []) S si day below).pv∧B=laid 0 (spB b es hs ss)):=by
 refine cBR [.par 0,.par 1,.par 2,.par 3,.par 4] L88 ?_;intro R hR;obtain⟨z,hz⟩:∃z,b.items[si]?=some z:=⟨b.items[si],ZvZ hsi⟩;have hgz:(b.items.map It.pv)[si]?=some (.agg [.int .i64 z.drift,.bool z.std,.int .i64 z.val.lo,.int .i64 z.val.hi]):=by rw[Zv0,hz];rfl
 have hzi:b.item (si:Int)=z:=by unfold Bk.item;rw[ZwS,hz];rfl
 rcases Bool.eq_false_or_eq_true z.std with hzs|hzs
 ·have hv:b.itemSpan (b.held []) S si day below=z.val:=by unfold Bk.itemSpan;rw[hzi,if_pos hzs]
  simp[-getElem?_pos,-List.getElem?_map,L88,laid,spB,wkC,itsP,hgz,hsi,hzs,-retB];rw[←hR,hv];simp[laid,spB,wkC,itsP,Cr.pv]
 have hv:=Zpe hb (S:=S) (item:=(si:Int)) (day:=day) (below:=below) (by rw[hzi];exact hzs);have hit:=ZjM (spnC b hb es hs ss hH S si hsi day below hd hS) b hb [] es hes 11 9 10 (fun c _=>⟨rfl,rfl⟩) (fun c _=>rfl) si day below Zdb trivial (fun z hz=>⟨z,hz,rfl⟩);rw[ZlJ,hv]at hit;have hcl:=(spnC b hb es hs ss hH S si hsi day below hd hS).cl (b.itemSpan (b.held []) S si day below);generalize b.itemSpan (b.held []) S si day below=RES at *;simp[-getElem?_pos,-List.getElem?_map,L88,laid,spB,wkC,itsP,hgz,hsi,hzs,-retB];refine .inl (cQ [] [] Zj9 ?_);simp[-getElem?_pos,-List.getElem?_map,frzsL,Zdb,Cr.pv];refine cM [.ptr (.par 0) 0,.pv (.int .i64 si),.pv (.int .i64 day),.pv (.int .i64 below)] (laid 0 (wkB b [] es)) 46 [.par 3,.par 4] (by simp[laid,wkB,wkC,itsP]) (of_c b [] es si day below) (by simp[laid,wkB,wkC]) ?_;simp[-getElem?_pos,-List.getElem?_map,laid,wkB,wkC,ofF,-retB];refine ZdT [.loc 79 0,.loc 10 0,.loc 4 0,.loc 5 0,.loc 6 0,.loc 9 0,.par 0,.par 1,.par 2,.par 3,.par 4,.loc 46 0] [(4,.ptr (.loc 4 0) 0),(5,.ptr (.loc 5 0) 0),(6,.ptr (.loc 6 0) 0),(9,.ptr (.loc 9 0) 0),(10,.ptr (.loc 10 0) 0)] (gf:=124) (fs:=[]) (cs:=[.ptr (.loc 46 0) 0,.pv (.ref [.int .i64 below]),.pv (.ref [.int .i64 si]),.pv (.ref [.int .i64 day])]) ?_ ?_ rfl rfl ?_ ?_ ?_ hit ?_
 ·rfl
 ·simp
 ·simp[spnC,spnX,laid,wkC,capB,Zdb]
 ·rfl
 ·rfl
 rintro r B' ⟨rfl,rfl⟩;refine⟨rfl,?_,?_⟩
 ·exact fun p hp=>Zfv (n:=12) (L:=spnX b es hs ss si day RES) (by simp[spnX]) hcl p hp
 refine⟨_,_,_,_,_,rfl,?_⟩;simp[-getElem?_pos,-List.getElem?_map,spnC,spnX,laid,jumpQ,wkC,capB,-retB];trace_state;simp[wkC];rw[←hR];simp[laid,spB,wkC,Cr.pv]
end
section
open Go.RowKit
set_option maxRecDepth 10000
attribute [local irreducible] Bk.held Bk.nums Bk.span
def sEnt (b:Bk)(k:Nat):List (PV×PV):=mapI id (fun n=>(b.span (b.held []) n).pv) ((b.nums.take k).filter fun n=>(b.held []).contains n)
theorem ZfM {b:Bk}{k:Nat}{n x:Int}(h:b.nums[k]?=some n):x∈b.nums.take k↔x∈b.nums∧x<n:=by
 obtain⟨h2,e2⟩:=Zv1.1 h;have hs:=Zw3.1 (Zby (b:=b));constructor
 ·intro hx;obtain⟨i,hi⟩:=Zwa.1 hx;rw[Zwi]at hi;split at hi
  ·rename_i hik;obtain⟨h1,e1⟩:=Zv1.1 hi
   have:=hs i k h1 h2 hik
   rw[e1,e2]at this;exact⟨Zv3 hi,this⟩
  ·cases hi
 ·rintro⟨hx,hlt⟩;obtain⟨i,hi⟩:=Zwa.1 hx;obtain⟨h1,e1⟩:=Zv1.1 hi;rw[Zwa];refine⟨i,?_⟩;rw[Zwi,if_pos,hi];rcases Nat.lt_trichotomy i k with hik|hik|hik
  ·exact hik
  ·subst hik;rw[e1]at e2;omega
  ·have:=hs k i h2 h1 hik
   rw[e1,e2]at this;omega
theorem Zqn {b:Bk}(hb:b.ok){k:Nat}{n:Int}(h:b.nums[k]?=some n):SMap b (b.span (b.held [])) n (sEnt b k):=by
 refine⟨Zb5,fun c hc hlt hx=>?_⟩;unfold sEnt;rw[ZbK,ZgU,if_pos]
 ·refine⟨rfl,?_⟩
  have:=ZfN hb c hc hx
  have hbd:=Zbg hb hc;unfold Cr.bdd at this ⊢;omega
 ·rw[Zwe,ZfM h];exact⟨⟨(Zbw hb).2 ⟨c,hc,rfl⟩,hlt⟩,Zwk.2 hx⟩
theorem Zge {b:Bk}(hb:b.ok)(below:Int):SMap b (b.span (b.held [])) below (sEnt b b.nums.length):=by
 refine⟨Zb5,fun c hc hlt hx=>?_⟩;unfold sEnt;rw[ZbK,ZgU,if_pos]
 ·refine⟨rfl,?_⟩
  have:=ZfN hb c hc hx
  have hbd:=Zbg hb hc;unfold Cr.bdd at this ⊢;omega
 ·rw[Zwe,Zwm];exact⟨(Zbw hb).2 ⟨c,hc,rfl⟩,Zwk.2 hx⟩
theorem Zn3 {b:Bk}{k:Nat}{n:Int}(h:b.nums[k]?=some n)(hx:(b.held []).contains n=false):sEnt b (k+1)=sEnt b k:=by
 unfold sEnt;rw[Zwf,h,ZwM]
 have:(Option.some n).toList.filter (fun n=>(b.held []).contains n)=[]:=by
  simp only[Option.toList,ZwJ,hx,List.filter_nil];rfl
 rw[this,Zwn]
theorem Zqm {b:Bk}{k:Nat}{n:Int}(h:b.nums[k]?=some n)(hx:(b.held []).contains n=true):putK (.int .i64 n) (b.span (b.held []) n).pv (sEnt b k)=sEnt b (k+1):=by
 unfold sEnt;rw[ZeD (fun x hm=>?_),Zwf,h,ZwM]
 ·have:(Option.some n).toList.filter (fun n=>(b.held []).contains n)=[n]:=by
   simp only[Option.toList,ZwJ,hx,List.filter_nil];rfl
  rw[this];unfold mapI;rw[Zwp];rfl
 ·have:=(ZfM h).1 (Zwe.1 hm).1
  show x≠n;omega
theorem Zqe {b:Bk}(hb:b.ok){n:Int}(hn:n∈b.nums)(hx:(b.held []).contains n=true):b.span (b.held []) n=(b.itemSpan (b.held []) (b.span (b.held [])) (b.get n).src (b.get n).day n).plus (b.get n).diff∧(b.itemSpan (b.held []) (b.span (b.held [])) (b.get n).src (b.get n).day n).bdd 2000000000:=by
 have h1:=Zgm hb n hn;obtain⟨nn,rfl⟩:∃nn:Nat,n=nn:=⟨n.toNat,by omega⟩;obtain⟨hcm,hcn⟩:=ZbA hb hn;have hbd:=Zbg hb hcm;refine⟨?_,?_⟩
 ·rw[Zh9 (by omega),if_pos hx]
 ·have hsr:=Zmm hb hcm (bad:=[]) (by rw[hcn];exact Zwk.1 hx);rw[hcn]at hsr
  have:=ZiJ hb (held:=b.held []) (S:=b.span (b.held [])) (day:=(b.get (nn:Int)).day) (below:=(nn:Int)) (A:=1000000000) hbd.2.2.2.2.2.1 hbd.2.2.2.2.2.2.1 (by omega) (by omega) hsr fun o ho hlt hox=>by
   have k1:=ZfN hb o ho hox;have k2:=Zbg hb ho;unfold Cr.bdd at k1 ⊢;omega
  unfold Cr.bdd at this ⊢;omega
def rcB (b:Bk)(es hs ss:List (PV×PV)):List Box:=[.cells [.ptr (.par 6) 0],.cells [.ptr (.par 3) 0],.cells [.fn 86 [] [.ptr (.par 0) 0,.ptr (.par 1) 0,.ptr (.par 2) 0]],
 .cells [.ptr (.par 6) 0,.mp (.par 4),.mp (.par 5)],.map hs,.map ss,.cells (wkC b (.par 7) (badZ [])),.map es]
end
section
open Go.RowKit
set_option maxRecDepth 10000
attribute [local irreducible] Bk.held Bk.nums Bk.span
attribute [local simp] AS.exp expG Box.ren AV.map AV.mapL Zaw noRet Site.isRet Box.allS AV.allS AV.allSL retB dropL AS.adds renL outG outOk Zau inG fnOf lookA Zww
attribute [local simp] Box.purge Site.isLoc
attribute [local simp] ZaC Zax Zam Zaz Za4
def rcJ (b:Bk)(es hs ss:List (PV×PV))(L:List PV)(n:Int)(R:Cr):AS:=⟨[(0,.pv (.lst false 1 L)),(1,.ptr (.par 0) 0),(2,.ptr (.par 1) 0),(3,.ptr (.par 2) 0),(23,.mp (.par 5)),(25,.pv (.int .i64 n)),(36,.pv (.agg [.int .i64 R.lo,.int .i64 R.hi]))],laid 0 (rcB b es hs ss)⟩
set_option maxHeartbeats 32000000 in
theorem rc_c (b:Bk)(hb:b.ok)(es hs:List (PV×PV))(hes:CMap b es)(hH:HMap (fun n=>(b.held []).contains n) hs):∀m k,m+k=b.nums.length→
  Zak Tryz.prog 86 [.pv (.lst false 1 ((b.nums.drop k).map intP)),.ptr (.par 0) 0,.ptr (.par 1) 0,.ptr (.par 2) 0] (laid 0 (rcB b es hs (sEnt b k))) (fun r B=>r=.pv (.tup [])∧B=laid 0 (rcB b es hs (sEnt b b.nums.length)))
 |0,k,hk=>by
  have hk':k=b.nums.length:=by omega
  subst hk';rw[List.drop_length];refine cB [.par 0,.par 1,.par 2,.par 3,.par 4,.par 5,.par 6,.par 7] L86 ?_;simp[-getElem?_pos,L86,rcB,laid,wkC]
 |m+1,k,hk=>by
  have ih:=rc_c b hb es hs hes hH m (k+1) (by omega);have hlt:k<b.nums.length:=by omega
  obtain⟨n,hn⟩:∃n,b.nums[k]?=some n:=⟨b.nums[k],ZvZ hlt⟩;have hdr:b.nums.drop k=n::b.nums.drop (k+1):=by
   rw[ZwZ hlt]
   have:b.nums[k]=n:=by rw[ZvZ hlt]at hn;exact Option.some.inj hn
   rw[this]
  have hnm:=Zv3 hn;obtain⟨hcm,hcn⟩:=ZbA hb hnm;have hbd:=Zbg hb hcm;have hfx:=hes.f n;rw[if_pos hnm]at hfx;have hko:=hes.k;have hsk:=Zn3 hn;have hsp:=Zqm hn;have hsg:=Zqe hb hnm;have hSM:=Zqn hb hn;have hkk:=hSM.k;have hhold:=ZgQ b es hs (sEnt b k) _ hH (b.get n);rw[hdr];generalize b.nums.drop (k+1)=rest at *;generalize sEnt b b.nums.length=SF at *;generalize sEnt b (k+1)=S2 at *;generalize hS1:sEnt b k=S1 at *;generalize b.get n=y at *;obtain⟨yn,yi,ys,yd,yv,⟨yl,yh⟩⟩:=y;simp only at hcn hbd hsg hhold;subst hcn;unfold Ct.pv at hfx;obtain⟨si,rfl⟩:∃si:Nat,ys=si:=⟨ys.toNat,by omega⟩;have hsi:si<b.items.length:=by omega
  have hspan:=ZnM b hb es hs S1 hes hH (b.span (b.held [])) si hsi yd yn (by omega) hSM;generalize b.itemSpan (b.held []) (b.span (b.held [])) si yd yn=R1 at *;generalize b.span (b.held []) yn=R2 at *;generalize hcv:(b.held []).contains yn=v at *;refine cBR [.par 0,.par 1,.par 2,.par 3,.par 4,.par 5,.par 6,.par 7] L86 ?_;intro R hR;have hl0:(0:Int)<(rest.length:Int)+1:=by omega
  have hlz:¬((rest.length:Int)+1=0):=by omega
  simp[-getElem?_pos,-List.getElem?_map,L86,rcB,laid,wkC,hl0,hlz,hko,hfx,-retB,intP];refine cM [.ptr (.par 0) 0,.pv (Ct.pv ⟨yn,yi,si,yd,yv,⟨yl,yh⟩⟩)] (laid 0 (spB b es hs S1)) 19 [.par 3,.par 4,.par 5,.par 6,.par 7] (by simp[laid,spB,wkC]) hhold (by simp[laid,spB,wkC]) ?_;have hl1:1≤rest.length+1:=by omega
  have htk:(rest.map intP).take rest.length=rest.map intP:=Zv9 (by rw[Zv6];exact Zv5 _);cases v
  ·rw[hsk rfl]at ih;simp[-getElem?_pos,-List.getElem?_map,laid,spB,wkC,-retB,nble,hl1,htk];refine cM [.pv (.lst false 1 (rest.map intP)),.ptr (.par 0) 0,.ptr (.par 1) 0,.ptr (.par 2) 0] (laid 0 (rcB b es hs S1)) 40 [.par 0,.par 1,.par 2,.par 3,.par 4,.par 5,.par 6,.par 7] (by simp[laid,rcB,wkC]) ih (by simp[laid,rcB,wkC]) ?_;simp[-getElem?_pos,laid,rcB,wkC];rw[←hR];simp[laid,rcB,wkC]
  ·obtain⟨hq1,hq2⟩:=hsg rfl;have hput:=hsp rfl;unfold Cr.pv at hput;unfold Cr.bdd at hq2;have hdf:=hbd.2.2.2.2.2.2.2.2.2.2.2.2.1;unfold Cr.bdd at hdf;simp only at hdf;have hplus:=Zst R1 ⟨yl,yh⟩ (wrap64 (by simp only;omega)) (wrap64 (by simp only;omega));rw[←hq1]at hplus;simp[-getElem?_pos,-List.getElem?_map,laid,spB,wkC,-retB,nble,hl1,htk];refine Zei (rcJ b es hs S1 (intP yn::rest.map intP) yn R2) ?_ ?_
   ·simp[-getElem?_pos,-List.getElem?_map,Zal,Zan,-retB]
    repeat' (with_reducible refine And.intro ?_ ?_)
    all_goals
     refine cM [.ptr (.par 0) 0,.pv (.int .i64 si),.pv (.int .i64 yd),.pv (.int .i64 yn)] (laid 0 (spB b es hs S1)) 33 [.par 3,.par 4,.par 5,.par 6,.par 7] (by simp[laid,spB,wkC]) hspan (by simp[laid,spB,wkC]) ?_;simp[-getElem?_pos,-List.getElem?_map,laid,spB,wkC,-retB,Zal,Zan,Cr.pv]
    all_goals
     refine cQ [] [R1.pv,Cr.pv ⟨yl,yh⟩] hplus ?_;simp[-getElem?_pos,-List.getElem?_map,frzsL,Zal,Zan,Cr.pv,-retB]
    all_goals
     refine Sub.mk ?_ ?_
     ·simp[rcJ,intP]
     ·simp[rcJ,laid,rcB,wkC]
   ·simp[-getElem?_pos,-List.getElem?_map,Zal,Zan,rcJ,laid,rcB,wkC,-retB,hkk,nble,hl1,htk,hput];refine cM [.pv (.lst false 1 (rest.map intP)),.ptr (.par 0) 0,.ptr (.par 1) 0,.ptr (.par 2) 0] (laid 0 (rcB b es hs S2)) 40 [.par 0,.par 1,.par 2,.par 3,.par 4,.par 5,.par 6,.par 7] (by simp[laid,rcB,wkC]) ih (by simp[laid,rcB,wkC]) ?_;simp[-getElem?_pos,laid,rcB,wkC];rw[←hR];simp[laid,rcB,wkC]
end
section
open Go.RowKit
set_option maxRecDepth 10000
attribute [local irreducible] Bk.held Bk.nums Bk.span
attribute [local simp] AS.exp expG Box.ren AV.map AV.mapL Zaw noRet Site.isRet Box.allS AV.allS AV.allSL retB dropL AS.adds renL outG outOk Zau inG fnOf lookA Zww
attribute [local simp] Box.purge Site.isLoc
attribute [local simp] ZaC Zax Zam Zaz Za4
def spsJ (b:Bk)(es hs:List (PV×PV)):AS:=⟨[(1,.ptr (.loc 1 0) 0),(3,.ptr (.loc 3 0) 0),(10,.ptr (.loc 10 0) 0)],
 [(.loc 10 0,.cells [.ptr (.par 0) 0,.mp (.loc 7 0),.mp (.loc 8 0)]),(.loc 7 0,.map hs),(.loc 8 0,.map []),(.loc 3 0,.cells [.pv .nilp]),(.loc 1 0,.cells [.ptr (.par 0) 0]),(.par 0,.cells (wkC b (.par 1) (badZ []))),(.par 1,.map es)]⟩
def spsR (b:Bk)(es:List (PV×PV))(r:AV)(B:List (Site×Box)):Prop:=r=.ptr (.ret 0) 0∧B=[(.ret 0,.cells [.ptr (.par 0) 0,.mp (.ret 1),.mp (.ret 2)]),(.ret 1,.map (hEnt b [] b.nums.length)),(.ret 2,.map (sEnt b b.nums.length)),(.par 0,.cells (wkC b (.par 1) (badZ []))),(.par 1,.map es)]
set_option maxHeartbeats 32000000 in
theorem ZkF (b:Bk)(hb:b.ok)(es:List (PV×PV))(hes:CMap b es):Zak Tryz.prog 39 [.ptr (.par 0) 0] (laid 0 (wkB b [] es)) (spsR b es):=by
 have hheld:=Zpb b hb [] es hes;have hrc:=rc_c b hb es _ hes (ZcB hb []) b.nums.length 0 (by omega);have hs0:sEnt b 0=[]:=by unfold sEnt;rw[List.take_zero];rfl
 rw[hs0,List.drop_zero]at hrc;refine cB [.loc 10 0,.loc 7 0,.loc 8 0,.par 0,.par 1] L39 ?_;generalize hR:spsR b es=R;have hRd:∀r B,R r B↔spsR b es r B:=fun r B=>by rw[hR]
 unfold spsR at hRd;generalize hEnt b [] b.nums.length=hs at *;generalize sEnt b b.nums.length=SF at *;clear hR;simp[-getElem?_pos,-List.getElem?_map,L39,laid,wkB,wkC,-retB];refine Zei (spsJ b es hs) ?_ ?_
 ·simp[-getElem?_pos,-List.getElem?_map,Zal,Zan,-retB]
  repeat' (with_reducible refine And.intro ?_ ?_)
  all_goals
   refine cM [.ptr (.par 0) 0] (laid 0 (wkB b [] es)) 7 [.par 0,.par 1] (by simp[laid,wkB,wkC]) hheld (by simp[laid,wkB,wkC]) ?_;simp[-getElem?_pos,-List.getElem?_map,laid,wkB,wkC,-retB,Zal,Zan]
  repeat' (with_reducible refine And.intro ?_ ?_)
  all_goals
   refine Sub.mk ?_ ?_
   ·simp[spsJ]
   ·simp[spsJ,wkC]
 ·simp[-getElem?_pos,-List.getElem?_map,Zal,Zan,spsJ,wkC,-retB];refine cM [.pv (.lst false 1 (b.nums.map intP)),.ptr (.par 0) 0,.ptr (.par 1) 0,.ptr (.par 2) 0] (laid 0 (rcB b es hs [])) 17 [.loc 1 0,.loc 3 0,.loc 4 0,.loc 10 0,.loc 7 0,.loc 8 0,.par 0,.par 1] (by simp[laid,rcB,wkC]) hrc (by simp[laid,rcB,wkC]) ?_;simp[-getElem?_pos,-List.getElem?_map,laid,rcB,wkC];rw[hRd];simp[wkC]
end
section
open Go.RowKit
set_option maxRecDepth 10000
attribute [local irreducible] Bk.held Bk.nums Bk.span
def Bk.contraAt (b:Bk)(n:Int):Bool:=(b.held []).contains n&&decide ((b.itemSpan (b.held []) (b.span (b.held [])) (b.get n).it (b.get n).day 1000).hi<(b.itemSpan (b.held []) (b.span (b.held [])) (b.get n).it (b.get n).day 1000).lo)
theorem Zlh {b:Bk}(hb:b.ok):b.contra=b.nums.any b.contraAt:=by
 rw[ZwD];unfold Bk.contra;rw[Zwq,Zwq];constructor
 ·rintro⟨c,hc,h⟩;refine⟨c.num,(Zbw hb).2 ⟨c,hc,rfl⟩,?_⟩;unfold Bk.contraAt;rw[Zdp hb hc];exact h
 ·rintro⟨n,hn,h⟩;obtain⟨h1,h2⟩:=ZbA hb hn;refine⟨b.get n,h1,?_⟩;unfold Bk.contraAt at h;rw[h2];exact h
attribute [local simp] AS.exp expG Box.ren AV.map AV.mapL Zaw noRet Site.isRet Box.allS AV.allS AV.allSL retB dropL AS.adds renL outG outOk Zau inG fnOf lookA Zww
attribute [local simp] Box.purge Site.isLoc
attribute [local simp] ZaC Zax Zam Zaz Za4
def ctrK (b:Bk)(es hs ss:List (PV×PV))(k:Nat):AS:=⟨[(0,.ptr (.par 0) 0),(13,.pv (.lst false 1 (b.nums.map intP))),(14,.pv (.int .i64 b.nums.length)),(15,.pv (.int .i64 k))],laid 0 (spB b es hs ss)⟩
set_option maxHeartbeats 16000000 in
theorem ZiW (b:Bk)(hb:b.ok)(es hs ss:List (PV×PV))(hes:CMap b es)(hH:HMap (fun n=>(b.held []).contains n) hs)(hS:SMap b (b.span (b.held [])) 1000 ss):
  Zak Tryz.prog 40 [.ptr (.par 0) 0] (laid 0 (spB b es hs ss)) (fun r B=>r=.pv (.bool b.contra)∧B=laid 0 (spB b es hs ss)):=by
 have hlen:=ZdX (b:=b);rw[Zlh hb];refine cBR [.par 0,.par 1,.par 2,.par 3,.par 4] L40 ?_;intro R hR;simp[-getElem?_pos,-List.getElem?_map,L40,laid,spB,wkC,-retB];refine Zae (fun n τ=>∃k:Nat,k≤b.nums.length∧n=b.nums.length-k∧(∀(j:Nat) (x:Int),j<k→b.nums[j]?=some x→b.contraAt x=false)∧τ=ctrK b es hs ss k) ⟨b.nums.length,ctrK b es hs ss 0,Sub.mk (by simp[ctrK]) (by simp[ctrK,laid,spB,wkC]),0,Zwb _,rfl,(fun j x hj=>by omega),rfl⟩ ?_;rintro J hJ n τ ⟨k,hk,rfl,hinv,rfl⟩;by_cases hlt:k<b.nums.length
 ·obtain⟨x,hx⟩:∃x,b.nums[k]?=some x:=⟨b.nums[k],ZvZ hlt⟩;have hxm:=Zv3 hx;have hgx:(b.nums.map intP)[k]?=some (.int .i64 x):=by rw[Zv0,hx];rfl
  have hw:=wrapK (k:=k) (by omega);have hmeas:b.nums.length-(k+1)<b.nums.length-k:=by omega
  obtain⟨hcm,hcn⟩:=ZbA hb hxm;have hbd:=Zbg hb hcm;have hfx:=hes.f x;rw[if_pos hxm]at hfx;have hko:=hes.k;have hhold:=ZgQ b es hs ss _ hH (b.get x);have hround:b.contraAt x=false→J (b.nums.length-(k+1)) (ctrK b es hs ss (k+1)):=fun h=>hJ _ _ ⟨k+1,hlt,rfl,(fun j y hj hy=>by
   rcases Zw1.1 hj with h'|h'
   ·exact hinv j y h' hy
   ·subst h';rw[hx]at hy;cases hy;exact h),rfl⟩
  have hend:b.contraAt x=true→b.nums.any b.contraAt=true:=fun h=>Zwq.2 ⟨x,hxm,h⟩
  have hca:b.contraAt x=((b.held []).contains x&&decide ((b.itemSpan (b.held []) (b.span (b.held [])) (b.get x).it (b.get x).day 1000).hi<(b.itemSpan (b.held []) (b.span (b.held [])) (b.get x).it (b.get x).day 1000).lo)):=rfl;generalize b.get x=y at *;obtain⟨yn,yi,ys,yd,yv,⟨yl,yh⟩⟩:=y;simp only at hcn hbd hhold hca;subst hcn;unfold Ct.pv at hfx;obtain⟨si,rfl⟩:∃si:Nat,yi=si:=⟨yi.toNat,by omega⟩;have hspan:=ZnM b hb es hs ss hes hH (b.span (b.held [])) si (by omega) yd 1000 (by omega) hS;generalize b.itemSpan (b.held []) (b.span (b.held [])) si yd 1000=R1 at *;have hlt':decide ((k:Int)<(b.nums.length:Int))=true:=by simp;omega
  simp[-getElem?_pos,-List.getElem?_map,-decide_eq_true_eq,-decide_eq_false_iff_not,ctrK,laid,spB,wkC,hlt,hlt',hgx,hko,hfx,-retB];refine cM [.ptr (.par 0) 0,.pv (.int .i64 si),.pv (.int .i64 yd),.pv (.int .i64 1000)] (laid 0 (spB b es hs ss)) 33 [.par 0,.par 1,.par 2,.par 3,.par 4] (by simp[laid,spB,wkC]) hspan (by simp[laid,spB,wkC]) ?_;simp[-getElem?_pos,-List.getElem?_map,-decide_eq_true_eq,-decide_eq_false_iff_not,laid,spB,wkC,-retB,Cr.pv];refine cM [.ptr (.par 0) 0,.pv (Ct.pv ⟨yn,si,ys,yd,yv,⟨yl,yh⟩⟩)] (laid 0 (spB b es hs ss)) 36 [.par 0,.par 1,.par 2,.par 3,.par 4] (by simp[laid,spB,wkC]) hhold (by simp[laid,spB,wkC]) ?_;generalize(b.held []).contains yn=v at *;cases v
  ·have hround:=hround hca;simp[-getElem?_pos,-List.getElem?_map,-decide_eq_true_eq,-decide_eq_false_iff_not,laid,spB,wkC,-retB,hw];exact⟨_,_,hmeas,Sub.mk (by simp[ctrK]) (by simp[ctrK,laid,spB,wkC]),hround⟩
  ·rw[Bool.true_and]at hca;cases hd:decide (R1.hi<R1.lo)
   ·have hround:=hround (by rw[hca,hd]);simp[-getElem?_pos,-List.getElem?_map,-decide_eq_true_eq,-decide_eq_false_iff_not,laid,spB,wkC,-retB,hw,hd];exact⟨_,_,hmeas,Sub.mk (by simp[ctrK]) (by simp[ctrK,laid,spB,wkC]),hround⟩
   ·have he:=hend (by rw[hca,hd]);simp[-getElem?_pos,-List.getElem?_map,-decide_eq_true_eq,-decide_eq_false_iff_not,laid,spB,wkC,hw,hd];rw[←hR,he];simp[laid,spB,wkC]
 ·have he:k=b.nums.length:=by omega
  subst he;clear hJ;have hno:b.nums.any b.contraAt=false:=by
   rw[List.any_eq_false];intro x hx;obtain⟨j,hj⟩:=Zwa.1 hx;simp[hinv j x (Zv1.1 hj).1 hj]
  simp[-getElem?_pos,-List.getElem?_map,ctrK,laid,spB,wkC];rw[←hR,hno];simp[laid,spB,wkC]
end
section
open Go.RowKit
set_option maxRecDepth 10000
attribute [local irreducible] Bk.held Bk.nums Bk.span
def Bk.spanM (b:Bk)(item day:Int):Cr×Int:=if b.askM item day=0 then(if b.contra=true then(⟨0,0⟩,9)else(b.itemSpan (b.held []) (b.span (b.held [])) item day 1000,0))else(⟨0,0⟩,b.askM item day)
def spanE (x:Cr×Int):PV:=.tup [x.1.pv,.int .i64 x.2]
attribute [local simp] AS.exp expG Box.ren AV.map AV.mapL Zaw noRet Site.isRet Box.allS AV.allS AV.allSL retB dropL AS.adds renL outG outOk Zau inG fnOf lookA Zww
attribute [local simp] Box.purge Site.isLoc
attribute [local simp] ZaC Zax Zam Zaz Za4
set_option maxHeartbeats 16000000 in
theorem Zp8 (b:Bk)(hi:b.items.length≤1000)(hc:b.certs.length≤1000)(item day:Int):Gives Tryz.prog 44 [b.pv,.int .i64 item,.int .i64 day] (spanE (b.spanM item day)):=by
 have hask:=Zp1 b hi hc item day;refine cSR L44 ?_;intro R hR;simp[-getElem?_pos,L44,Bk.pv];refine cL [.pv b.pv,.pv (.int .i64 item),.pv (.int .i64 day)] [] 16 [] rfl hask ?_
 rintro r0 B0 (⟨h0,rfl,rfl⟩|⟨h0,hf0,hit,hdy,hih,es,hes,rfl,rfl⟩)
 ·refine⟨rfl,by simp,?_⟩;have hd:decide (b.askM item day=0)=false:=by simpa using h0
  have hM:b.spanM item day=(⟨0,0⟩,b.askM item day):=by unfold Bk.spanM;rw[if_neg h0]
  simp[-getElem?_pos,-decide_eq_true_eq,-decide_eq_false_iff_not,hd];rw[←hR,hM];exact⟨rfl,rfl⟩
 have hb:b.ok:=Bk.ok_iff.1 hf0;refine⟨rfl,by simp[wkC],?_⟩;have hsp:=ZkF b hb es hes;have hH:=ZcB hb [];have hS:=Zge hb 1000;simp[-getElem?_pos,-List.getElem?_map,wkC];refine cM [.ptr (.par 0) 0] (laid 0 (wkB b [] es)) 25 [.loc 16 0,.loc 16 1] (by simp[laid,wkB,wkC]) hsp (by simp[wkC]) ?_;generalize hEnt b [] b.nums.length=hs at *;generalize sEnt b b.nums.length=ss at *;have hct:=ZiW b hb es hs ss hes hH hS;have hii:0≤item∧item<b.items.length:=by
  unfold Bk.hasItem inB at hit;simp only[Zv2,decide_eq_true_eq]at hit;omega
 have hdd:0≤day∧day≤1000:=by
  unfold inB at hdy;simp only[Zv2,decide_eq_true_eq]at hdy;omega
 obtain⟨si,rfl⟩:∃si:Nat,item=si:=⟨item.toNat,by omega⟩;have hspan:=ZnM b hb es hs ss hes hH (b.span (b.held [])) si (by omega) day 1000 hdd hS;have hM:b.spanM si day=if b.contra=true then(⟨0,0⟩,9)else(b.itemSpan (b.held []) (b.span (b.held [])) si day 1000,0):=by unfold Bk.spanM;rw[if_pos h0]
 rw[hM]at hR;generalize b.itemSpan (b.held []) (b.span (b.held [])) si day 1000=R1 at *;simp[-getElem?_pos,-List.getElem?_map,wkC];refine cM [.ptr (.par 0) 0] (laid 0 (spB b es hs ss)) 27 [.loc 25 0,.loc 25 1,.loc 25 2,.loc 16 0,.loc 16 1] (by simp[laid,spB,wkC]) hct (by simp[laid,spB,wkC]) ?_;cases hcn:b.contra
 ·rw[hcn,if_neg (by simp)]at hR;simp[-getElem?_pos,-List.getElem?_map,laid,spB,wkC];refine cM [.ptr (.par 0) 0,.pv (.int .i64 si),.pv (.int .i64 day),.pv (.int .i64 1000)] (laid 0 (spB b es hs ss)) 32 [.loc 25 0,.loc 25 1,.loc 25 2,.loc 16 0,.loc 16 1] (by simp[laid,spB,wkC]) hspan (by simp[laid,spB,wkC]) ?_;simp[-getElem?_pos,-List.getElem?_map,laid,spB,wkC,Cr.pv];rw[←hR];exact⟨rfl,rfl⟩
 ·rw[hcn,if_pos rfl]at hR;simp[-getElem?_pos,-List.getElem?_map,laid,spB,wkC];rw[←hR];exact⟨rfl,rfl⟩
end
section
open Go.RowKit
def lexB:List Int→List Int→Bool
 |a::azz,b::bs=>decide (a<b)||(decide (a=b)&&lexB azz bs)
 |[],_::_=>true
 |_,[]=>false
def ltC (a b:List Int):Bool:=decide (a.length<b.length)||(decide (a.length=b.length)&&lexB a b)
theorem Zme:∀a:List Int,lexB a a=false
 |[]=>rfl
 |a::azz=>by unfold lexB;rw[Zme azz];simp
theorem Zmd:∀a b:List Int,a.length=b.length→lexB a b=false→lexB b a=false→a=b
 |[],[],_,_,_=>rfl
 |[],_::_,h,_,_=>by cases h
 |_::_,[],h,_,_=>by cases h
 |a::azz,b::bs,h,h1,h2=>by
  unfold lexB at h1 h2;simp only[Bool.or_eq_false_iff,Bool.and_eq_false_iff,decide_eq_false_iff_not]at h1 h2;have e:a=b:=by omega
  subst e;rw[Zmd azz bs (by simpa using h) (by simpa using h1.2) (by simpa using h2.2)]
theorem ZhA:∀a b c:List Int,lexB a b=true→lexB b c=true→lexB a c=true
 |[],[],_,h,_=>by cases h
 |[],b::bs,c,_,h=>by
  cases c with
  |nil=>cases h
  |cons c cs=>rfl
 |a::azz,[],_,h,_=>by cases h
 |a::azz,b::bs,[],_,h=>by cases h
 |a::azz,b::bs,c::cs,h1,h2=>by
  unfold lexB at h1 h2 ⊢;simp only[Zwx,Zv2,decide_eq_true_eq]at h1 h2 ⊢;rcases h1 with h1|⟨h1,h1'⟩<;>rcases h2 with h2|⟨h2,h2'⟩
  ·left;omega
  ·left;omega
  ·left;omega
  ·right;exact⟨by omega,ZhA azz bs cs h1' h2'⟩
theorem Zgy (a:List Int):ltC a a=false:=by unfold ltC;rw[Zme];simp
theorem ZoO {a b:List Int}(h1:ltC a b=false)(h2:ltC b a=false):a=b:=by
 unfold ltC at h1 h2;simp only[Bool.or_eq_false_iff,Bool.and_eq_false_iff,decide_eq_false_iff_not]at h1 h2;have e:a.length=b.length:=by omega
 exact Zmd a b e (by rcases h1.2 with h|h;exact absurd e h;exact h) (by rcases h2.2 with h|h;exact absurd e.symm h;exact h)
theorem ZjG {a b c:List Int}(h1:ltC a b=true)(h2:ltC b c=true):ltC a c=true:=by
 unfold ltC at h1 h2 ⊢;simp only[Zwx,Zv2,decide_eq_true_eq]at h1 h2 ⊢;rcases h1 with h1|⟨h1,h1'⟩<;>rcases h2 with h2|⟨h2,h2'⟩
 ·left;omega
 ·left;omega
 ·left;omega
 ·right;exact⟨by omega,ZhA a b c h1' h2'⟩
theorem Zmf:∀(a b:List Int) (n:Int),a.length=b.length→lexB (a++[n]) (b++[n])=lexB a b
 |[],[],n,_=>by simp[lexB]
 |[],_::_,_,h=>by cases h
 |_::_,[],_,h=>by cases h
 |a::azz,b::bs,n,h=>by
  show(decide (a<b)||(decide (a=b)&&lexB (azz++[n]) (bs++[n])))=(decide (a<b)||(decide (a=b)&&lexB azz bs));rw[Zmf azz bs n (by simpa using h)]
theorem ZtW (a b:List Int)(n:Int):ltC (a++[n]) (b++[n])=ltC a b:=by
 unfold ltC;rw[Zv7,Zv7];by_cases h:a.length=b.length
 ·rw[Zmf a b n h,ZwD];simp
 ·rw[ZwD];simp[h]
def stepC (o:Option (List Int))(x:List Int):Option (List Int):=match o with
 |none=>some x
 |some m=>if ltC x m=true then some x else some m
def minC (l:List (List Int)):Option (List Int):=l.foldl stepC none
theorem Zgp:∀(l:List (List Int)) (o:Option (List Int)),(o=none∧l=[]∧l.foldl stepC o=none)∨∃m,l.foldl stepC o=some m∧(o=some m∨m∈l)∧(∀x∈l,ltC x m=false)∧∀x,o=some x→ltC x m=false
 |[],none=>.inl ⟨rfl,rfl,rfl⟩
 |[],some x=>.inr ⟨x,rfl,.inl rfl,fun y hy=>(by cases hy),fun y hy=>by cases hy;exact Zgy x⟩
 |y::l,o=>by
  rw[List.foldl_cons];have key:∃z,stepC o y=some z∧(o=some z∨z=y)∧ltC y z=false∧∀x,o=some x→ltC x z=false:=by
   cases o with
   |none=>exact⟨y,rfl,.inr rfl,Zgy y,fun x hx=>by cases hx⟩
   |some m=>
    unfold stepC;simp only;split
    ·rename_i h;refine⟨y,rfl,.inr rfl,Zgy y,fun x hx=>?_⟩;cases hx;rw[Bool.eq_false_iff];intro h'
     have:=ZjG h h'
     rw[Zgy]at this;cases this
    ·rename_i h;exact⟨m,rfl,.inl rfl,by simpa using h,fun x hx=>by cases hx;exact Zgy m⟩
  obtain⟨z,h1,h2,h3,h4⟩:=key;rw[h1];rcases Zgp l (some z)with⟨h,_⟩|⟨m,k1,k2,k3,k4⟩
  ·cases h
  ·have kz:=k4 z rfl;have lift:∀x,ltC x z=false→ltC x m=false:=fun x hx=>by
    rw[Bool.eq_false_iff];intro h';by_cases e:ltC z x=true
    ·have:=ZjG e h'
     rw[kz]at this;cases this
    ·have:x=z:=ZoO hx (by simpa using e)
     subst this;rw[kz]at h';cases h'
   refine .inr ⟨m,k1,?_,fun x hx=>?_,fun x hx=>lift x (h4 x hx)⟩
   ·rcases k2 with k2|k2
    ·cases k2;rcases h2 with h2|h2
     ·exact .inl h2
     ·right;rw[h2];simp
    ·right;simp[k2]
   ·rcases Zwg.1 hx with e|e
    ·subst e;exact lift _ h3
    ·exact k3 x e
theorem Zch {l:List (List Int)}:minC l=none↔l=[]:=by
 rcases Zgp l none with⟨_,h1,h2⟩|⟨m,h1,h2,_⟩
 ·exact⟨fun _=>h1,fun _=>h2⟩
 ·constructor
  ·intro h;rw[minC,h1]at h;cases h
  ·intro h;subst h;rcases h2 with h2|h2
   ·cases h2
   ·cases h2
theorem Zb3 {l:List (List Int)}{m:List Int}(h:minC l=some m):m∈l∧∀x∈l,ltC x m=false:=by
 rcases Zgp l none with⟨_,_,h2⟩|⟨m',h1,h2,h3,_⟩
 ·rw[minC,h2]at h;cases h
 ·rw[minC,h1]at h;cases h;rcases h2 with h2|h2
  ·cases h2
  ·exact⟨h2,h3⟩
theorem ZiA {l:List (List Int)}{m:List Int}(h1:m∈l)(h2:∀x∈l,ltC x m=false):minC l=some m:=by
 cases h:minC l with
 |none=>rw[Zch]at h;subst h;cases h1
 |some m'=>
  obtain⟨k1,k2⟩:=Zb3 h;rw[ZoO (k2 m h1) (h2 m' k1)]
theorem ZjF {l l':List (List Int)}(h:∀x,x∈l↔x∈l'):minC l=minC l':=by
 cases hm:minC l with
 |none=>
  rw[Zch]at hm;subst hm;symm;rw[Zch];cases l' with
  |nil=>rfl
  |cons x l'=>exact absurd ((h x).2 (by simp)) (by simp)
 |some m=>
  obtain⟨h1,h2⟩:=Zb3 hm;exact(ZiA ((h m).1 h1) fun x hx=>h2 x ((h x).2 hx)).symm
theorem Zhv {α:Type}{L:List α}{f:α→List (List Int)}:minC (L.flatMap f)=minC (L.filterMap fun x=>minC (f x)):=by
 cases hm:minC (L.flatMap f)with
 |none=>
  rw[Zch,List.flatMap_eq_nil_iff]at hm;symm;rw[Zch,List.filterMap_eq_nil_iff];exact fun x hx=>Zch.2 (hm x hx)
 |some m=>
  obtain⟨h1,h2⟩:=Zb3 hm;obtain⟨x,hx,hxm⟩:=List.mem_flatMap.1 h1;have e:minC (f x)=some m:=ZiA hxm fun y hy=>h2 y (List.mem_flatMap.2 ⟨x,hx,hy⟩)
  refine(ZiA (List.mem_filterMap.2 ⟨x,hx,e⟩) fun y hy=>?_).symm;obtain⟨z,hz,hzy⟩:=List.mem_filterMap.1 hy;exact h2 y (List.mem_flatMap.2 ⟨z,hz,(Zb3 hzy).1⟩)
theorem ZqQ {l:List (List Int)}{n:Int}:minC (l.map (·++[n]))=(minC l).map (·++[n]):=by
 cases hm:minC l with
 |none=>rw[Zch]at hm;subst hm;rfl
 |some m=>
  obtain⟨h1,h2⟩:=Zb3 hm;refine ZiA (Zwc.2 ⟨m,h1,rfl⟩) fun x hx=>?_
  obtain⟨y,hy,rfl⟩:=Zwc.1 hx;rw[ZtW];exact h2 y hy
end
section
open Go.RowKit
attribute [local simp] Box.purge Site.isLoc
set_option maxRecDepth 10000
theorem nan_c (x:Int):Gives Tryz.prog 195 [.int .i64 x] (.bool false):=by
 refine cS L195 ?_;simp[-getElem?_pos,L195]
def cmpI (x y:Int):Int:=if x<y then -1 else if y<x then 1 else 0
theorem cmp_c (x y:Int):Gives Tryz.prog 164 [.int .i64 x,.int .i64 y] (.int .i64 (cmpI x y)):=by
 refine cS L164 ?_;simp[-getElem?_pos,L164];refine cG [.int .i64 x] (nan_c x) ?_;simp[-getElem?_pos];refine cG [.int .i64 y] (nan_c y) ?_;simp[-getElem?_pos];unfold cmpI;by_cases h1:x<y
 ·simp[-getElem?_pos,h1]
 ·by_cases h2:y<x
  ·simp[-getElem?_pos,h1,h2]
  ·simp[-getElem?_pos,h1,h2]
def cmpL:List Int→List Int→Int
 |[],[]=>0
 |[],_::_=>-1
 |_::_,[]=>1
 |a::r,b::t=>if cmpI a b=0 then cmpL r t else cmpI a b
theorem ZpD {a b:List Int}{k:Nat}{x y:Int}(h1:a[k]?=some x)(h2:b[k]?=some y):cmpL (a.drop k) (b.drop k)=if cmpI x y=0 then cmpL (a.drop (k+1)) (b.drop (k+1))else cmpI x y:=by
 obtain⟨q1,e1⟩:=Zv1.1 h1;obtain⟨q2,e2⟩:=Zv1.1 h2;rw[ZwZ q1,ZwZ q2,e1,e2];rfl
theorem Zpy (a b:List Int)(ha:a.length≤2000)(hb:b.length≤2000):Gives Tryz.prog 127 [.lst false 1 (a.map intP),.lst false 1 (b.map intP)] (.int .i64 (cmpL a b)):=by
 refine cS L127 ?_;simp[-getElem?_pos,L127];refine Zae (fun n τ=>∃k:Nat,k≤a.length∧k≤b.length∧n=a.length-k∧cmpL a b=cmpL (a.drop k) (b.drop k)∧τ=⟨[(0,.pv (.lst false 1 (a.map intP))),(1,.pv (.lst false 1 (b.map intP))),(9,.pv (.lst false 1 (a.map intP))),(10,.pv (.int .i64 a.length)),(11,.pv (.int .i64 k))],[]⟩)
  ⟨a.length,⟨[(0,.pv (.lst false 1 (a.map intP))),(1,.pv (.lst false 1 (b.map intP))),(9,.pv (.lst false 1 (a.map intP))),(10,.pv (.int .i64 a.length)),(11,.pv (.int .i64 0))],[]⟩,Sub.mk (by simp) (by simp),0,Zwb _,Zwb _,rfl,rfl,rfl⟩ ?_
 rintro J hJ n τ ⟨k,hk,hk2,rfl,hinv,rfl⟩;rw[hinv];by_cases hlt:k<a.length
 ·obtain⟨x,hx⟩:∃x,a[k]?=some x:=⟨a[k],ZvZ hlt⟩;have hgx:(a.map intP)[k]?=some (.int .i64 x):=by rw[Zv0,hx];rfl
  have hw:=wrapK (k:=k) (by omega);have hmeas:a.length-(k+1)<a.length-k:=by omega
  have hlt':decide ((k:Int)<(a.length:Int))=true:=by simp;omega
  by_cases hlt2:k<b.length
  ·obtain⟨y,hy⟩:∃y,b[k]?=some y:=⟨b[k],ZvZ hlt2⟩;have hgy:(b.map intP)[k]?=some (.int .i64 y):=by rw[Zv0,hy];rfl
   have hge:¬b.length≤k:=by omega
   have hdr:=ZpD hx hy;have hcc:=cmp_c x y;have hround:=fun h:cmpI x y=0=>hJ _ _ ⟨k+1,hlt,hlt2,rfl,by rw[hinv,hdr,if_pos h],rfl⟩
   rw[hdr];generalize cmpI x y=c at *;simp[-getElem?_pos,-List.getElem?_map,-decide_eq_true_eq,-decide_eq_false_iff_not,hlt,hlt',hgx,hge,hlt2,hgy];refine cG [.int .i64 x,.int .i64 y] hcc ?_;cases hc:decide (c=0)
   ·have hc':¬c=0:=by simpa using hc
    simp[-getElem?_pos,-List.getElem?_map,hc']
   ·have hc':c=0:=by simpa using hc
    have hround:=hround hc';simp[-getElem?_pos,-List.getElem?_map,hc',hw];exact⟨_,_,hmeas,Sub.mk (by simp) (by simp),hround⟩
  ·have hkb:k=b.length:=by omega
   have hge:b.length≤k:=by omega
   have hv:cmpL (a.drop k) (b.drop k)=1:=by
    rw[hkb,List.drop_length,ZwZ (by omega)];rfl
   rw[hv];simp[-getElem?_pos,-List.getElem?_map,-decide_eq_true_eq,-decide_eq_false_iff_not,hlt,hlt',hgx,hge]
 ·have he:k=a.length:=by omega
  subst he;clear hJ;rw[List.drop_length];by_cases hl:a.length<b.length
  ·have hd:decide ((a.length:Int)<(b.length:Int))=true:=by simp;omega
   have hv:cmpL [] (b.drop a.length) = -1:=by rw[ZwZ hl];rfl
   rw[hv];simp[-getElem?_pos,-List.getElem?_map,-decide_eq_true_eq,-decide_eq_false_iff_not,hd,hl]
  ·have hd:decide ((a.length:Int)<(b.length:Int))=false:=by simp;omega
   have hv:cmpL [] (b.drop a.length)=0:=by rw[List.drop_eq_nil_of_le (by omega)];rfl
   rw[hv];simp[-getElem?_pos,-List.getElem?_map,-decide_eq_true_eq,-decide_eq_false_iff_not,hd,hl]
def befV (a b:List Int):Int:=if(a.length:Int)-b.length=0 then cmpL a b else(a.length:Int)-b.length
theorem ZpC:∀a b:List Int,a.length=b.length→decide (cmpL a b<0)=lexB a b
 |[],[],_=>rfl
 |[],_::_,h=>by cases h
 |_::_,[],h=>by cases h
 |a::r,b::t,h=>by
  have ih:=ZpC r t (by simpa using h);show decide ((if cmpI a b=0 then cmpL r t else cmpI a b)<0)=(decide (a<b)||(decide (a=b)&&lexB r t));unfold cmpI;by_cases h1:a<b
  ·rw[if_pos h1];simp[h1]
  ·rw[if_neg h1];by_cases h2:b<a
   ·rw[if_pos h2]
    have:¬a=b:=by omega
    simp[h1,this]
   ·have e:a=b:=by omega
    rw[if_neg h2,if_pos rfl,ih];simp[e]
theorem ZpQ (a b:List Int):decide (befV a b<0)=ltC a b:=by
 unfold befV ltC;by_cases h:a.length=b.length
 ·rw[if_pos (by omega),ZpC a b h];simp[h]
 ·rw[if_neg (by omega),ZwD];simp[h];omega
theorem or_c (x y:Int):Gives Tryz.prog 126 [.lst false 1 [.int .i64 x,.int .i64 y]] (.int .i64 (if x=0 then y else x)):=by
 refine cS L126 ?_;simp[-getElem?_pos,L126];have S:Nat→AS:=fun k=>⟨[(3,.pv (.int .i64 0)),(6,.pv (.lst false 1 [.int .i64 x,.int .i64 y])),(7,.pv (.int .i64 2)),(8,.pv (.int .i64 k))],[]⟩
 refine Zae (fun n τ=>(n=2∧τ=⟨[(3,.pv (.int .i64 0)),(6,.pv (.lst false 1 [.int .i64 x,.int .i64 y])),(7,.pv (.int .i64 2)),(8,.pv (.int .i64 0))],[]⟩)∨(n=1∧x=0∧τ=⟨[(3,.pv (.int .i64 0)),(6,.pv (.lst false 1 [.int .i64 x,.int .i64 y])),(7,.pv (.int .i64 2)),(8,.pv (.int .i64 1))],[]⟩)∨(n=0∧x=0∧y=0∧τ=⟨[(3,.pv (.int .i64 0)),(6,.pv (.lst false 1 [.int .i64 x,.int .i64 y])),(7,.pv (.int .i64 2)),(8,.pv (.int .i64 2))],[]⟩)) ⟨2,_,Sub.mk (by simp) (by simp),.inl ⟨rfl,rfl⟩⟩ ?_;have w1:IntKind.i64.wrap 1=1:=rfl;have w2:IntKind.i64.wrap 2=2:=rfl;rintro J hJ n τ (⟨rfl,rfl⟩|⟨rfl,hx,rfl⟩|⟨rfl,hx,hy,rfl⟩)
 ·by_cases h:x=0
  ·have hround:=hJ _ _ (.inr (.inl ⟨rfl,h,rfl⟩));clear hJ;subst h;simp[-getElem?_pos,w1];exact⟨_,_,(by omega:1<2),Sub.mk (by simp) (by simp),hround⟩
  ·simp[-getElem?_pos,h]
 ·subst hx;by_cases h:y=0
  ·have hround:=hJ _ _ (.inr (.inr ⟨rfl,rfl,h,rfl⟩));clear hJ;subst h;simp[-getElem?_pos,w2];exact⟨_,_,(by omega:0<1),Sub.mk (by simp) (by simp),hround⟩
  ·simp[-getElem?_pos,h]
 ·subst hx hy;simp[-getElem?_pos]
theorem ZmC (a b:List Int)(ha:a.length≤2000)(hb:b.length≤2000):Gives Tryz.prog 79 [.lst false 1 (a.map intP),.lst false 1 (b.map intP)] (.int .i64 (befV a b)):=by
 have hc:=Zpy a b ha hb;have hw:IntKind.i64.wrap ((a.length:Int)-(b.length:Int))=(a.length:Int)-b.length:=wrap64 (by omega);have ho:=or_c ((a.length:Int)-b.length) (cmpL a b);refine cS L79 ?_;simp[-getElem?_pos,L79,hw];refine cG [.lst false 1 (a.map intP),.lst false 1 (b.map intP)] hc ?_;simp[-getElem?_pos];refine Zaa (k:=1) (fs:=[]) (xs:=[.lst false 1 [.int .i64 ((a.length:Int)-b.length),.int .i64 (cmpL a b)]]) (cs:=[]) rfl rfl ho rfl ?_;simp[-getElem?_pos,befV]
end
section
open Go.RowKit
def Bk.chU (b:Bk)(held:List Int):Nat→Int→List (List Int)
 |0,_=>[]
 |k+1,n=>if n=(k:Int)then(if(b.item (b.get n).src).std=true then[[n]]else(held.filter fun m=>ZcI (b.get n) (b.get m)).flatMap fun m=>(b.chU held k m).map (·++[n]))else b.chU held k n
theorem Zf2 {b:Bk}{held:List Int}{k:Nat}{n:Int}:b.chU held (k+1) n=if n=(k:Int)then(if(b.item (b.get n).src).std=true then[[n]]else(held.filter fun m=>ZcI (b.get n) (b.get m)).flatMap fun m=>(b.chU held k m).map (·++[n]))else b.chU held k n:=rfl
theorem ZgX {b:Bk}{held:List Int}{n:Int}:∀{k:Nat},n<(k:Int)→∀j,b.chU held (k+j) n=b.chU held k n
 |k,h,0=>rfl
 |k,h,j+1=>by
  rw[←Nat.add_assoc,Zf2,if_neg (by omega)];exact ZgX h j
def Bk.chains (b:Bk)(held:List Int)(n:Int):List (List Int):=b.chU held 1000 n
theorem Zkj {b:Bk}(hb:b.ok){held:List Int}(hh:∀m∈held,m∈b.nums){n:Nat}(hn:n<1000)(hn2:(n:Int)∈b.nums):b.chains held n=if(b.item (b.get n).src).std=true then[[(n:Int)]]else(held.filter fun m=>ZcI (b.get n) (b.get m)).flatMap fun m=>(b.chains held m).map (·++[(n:Int)]):=by
 have e:b.chains held n=b.chU held (n+1) n:=by
  unfold Bk.chains;rw[show 1000=n+1+(1000-(n+1)) by omega];exact ZgX (by omega) _
 rw[e,Zf2,if_pos rfl];split
 ·rfl
 ·have key:∀L:List Int,(∀m∈L,m<(n:Int))→(L.flatMap fun m=>(b.chU held n m).map (·++[(n:Int)]))=L.flatMap fun m=>(b.chains held m).map (·++[(n:Int)]):=by
   intro L;induction L with
   |nil=>exact fun _=>rfl
   |cons m L ih=>
    intro h;rw[List.flatMap_cons,List.flatMap_cons,ih fun x hx=>h x (by simp[hx])];congr 2;unfold Bk.chains;rw[show 1000=n+(1000-n) by omega];exact(ZgX (h m (by simp)) _).symm
  refine key _ fun m hm=>?_
  rw[Zwe]at hm;have h1:=hm.2;unfold ZcI at h1;simp only[Zv2,decide_eq_true_eq]at h1;have h2:=(ZbA hb (hh m hm.1)).2;have h3:=(ZbA hb hn2).2;omega
def Bk.endC (b:Bk)(held:List Int)(n:Int):Option (List Int):=minC (b.chains held n)
theorem Zpn {b:Bk}(hb:b.ok){held:List Int}(hh:∀m∈held,m∈b.nums){n:Nat}(hn:n<1000)(hn2:(n:Int)∈b.nums):b.endC held n=if(b.item (b.get n).src).std=true then some [(n:Int)]else minC ((held.filter fun m=>ZcI (b.get n) (b.get m)).filterMap fun m=>(b.endC held m).map (·++[(n:Int)])):=by
 unfold Bk.endC;rw[Zkj hb hh hn hn2];split
 ·rfl
 ·rw[Zhv];congr 2;funext m;exact ZqQ
theorem Zc9 {b:Bk}(hb:b.ok){bad:List Int}:∀m∈b.held bad,m∈b.nums:=fun m hm=>by
 obtain⟨c,hc,e,_⟩:=(ZcL hb).1 hm;exact(Zbw hb).2 ⟨c,hc,e⟩
def Bk.bestC (b:Bk)(held:List Int)(item day:Int):Option (List Int):=minC ((held.filter fun m=>decide ((b.get m).it=item)&&(b.get m).on day).flatMap (b.chains held))
theorem ZrT {b:Bk}{held:List Int}{item day:Int}:b.bestC held item day=minC ((held.filter fun m=>decide ((b.get m).it=item)&&(b.get m).on day).filterMap (b.endC held)):=by
 unfold Bk.bestC;rw[Zhv];rfl
theorem Zmy {b:Bk}{held:List Int}:∀(k:Nat) (n:Int),∀l∈b.chU held k n,∃l',l=l'++[n]
 |0,n,l,h=>by cases h
 |k+1,n,l,h=>by
  rw[Zf2]at h;split at h
  ·split at h
   ·simp at h;exact⟨[],by simpa using h⟩
   ·obtain⟨m,_,hm⟩:=List.mem_flatMap.1 h;obtain⟨l',_,rfl⟩:=Zwc.1 hm;exact⟨l',rfl⟩
  ·exact Zmy k n l h
theorem Zlp {b:Bk}(hb:b.ok):∀n:Nat,(n:Int)∈b.held []→b.chains (b.held []) n≠[]:=by
 intro n;induction n using Nat.strongRecOn with
 |_ n ih=>
 intro hx;have hn2:=Zc9 hb _ hx;obtain⟨h1,h2⟩:=ZbA hb hn2;obtain⟨n',hn',h3,h4⟩:=Zd9 hb h1
 have:n'=n:=by omega
 subst this;rw[Zkj hb (Zc9 hb) h4 hn2];split
 ·simp
 ·rename_i hs;intro e;rw[List.flatMap_eq_nil_iff]at e;obtain⟨c,hc,e1,e2⟩:=(ZcL hb).1 hx;have hcg:b.get (n':Int)=c:=by rw[←e1];exact Zdp hb hc
  unfold Bk.holdB at e2;rw[Zv2,Zwx]at e2;rcases e2.1 with h|h
  ·rw[←hcg]at h;exact hs h
  ·rw[Zwq]at h;obtain⟨o,ho,h5⟩:=h;rw[Zv2,Zwk]at h5;obtain⟨m,hm,_,_⟩:=Zd9 hb ho;have hlt:o.num<c.num:=by have:=h5.1;unfold ZcI at this;simp only[Zv2,decide_eq_true_eq]at this;exact this.1.2
   have hmem:o.num∈(b.held []).filter fun m=>ZcI (b.get n') (b.get m):=by
    rw[Zwe,hcg,Zdp hb ho];exact⟨h5.2,h5.1⟩
   have:=e o.num hmem
   rw[List.map_eq_nil_iff,hm]at this;rw[hm]at h5;exact ih m (by omega) h5.2 this
end
section
open Go.RowKit
set_option maxRecDepth 10000
attribute [local irreducible] Bk.held Bk.nums Bk.span Bk.chains
theorem Zlq {b:Bk}{held:List Int}:∀(k:Nat) (n:Int),∀l∈b.chU held k n,l.length≤k
 |0,n,l,h=>by cases h
 |k+1,n,l,h=>by
  rw[Zf2]at h;split at h
  ·split at h
   ·simp at h;subst h;simp
   ·obtain⟨m,_,hm⟩:=List.mem_flatMap.1 h;obtain⟨l',hl',rfl⟩:=Zwc.1 hm
    have:=Zlq k m l' hl'
    rw[Zv7];simp;exact this
  ·have:=Zlq k n l h;omega
def Bk.endL (b:Bk)(n:Int):List Int:=(b.endC (b.held []) n).getD []
theorem Ze2 {b:Bk}{n:Int}:(b.endL n).length≤1000:=by
 unfold Bk.endL;cases h:b.endC (b.held []) n with
 |none=>simp
 |some l=>
  unfold Bk.endC at h
  have:=(Zb3 h).1
  unfold Bk.chains at this;exact Zlq 1000 n l this
theorem ZbL {b:Bk}(hb:b.ok){n:Int}(h:(b.held []).contains n=true):b.endC (b.held []) n=some (b.endL n)∧b.endL n≠[]:=by
 have hx:=Zwk.1 h;have hn:=Zgm hb n (ZjX hb hx);obtain⟨nn,rfl⟩:∃nn:Nat,n=nn:=⟨n.toNat,by omega⟩;unfold Bk.endL;cases he:b.endC (b.held []) (nn:Int)with
 |none=>
  unfold Bk.endC at he;rw[Zch]at he;exact absurd he (Zlp hb nn hx)
 |some l=>
  refine⟨rfl,fun e=>?_⟩;unfold Bk.endC at he
  have:=(Zb3 he).1
  unfold Bk.chains at this;obtain⟨l',hl'⟩:=Zmy 1000 _ l this;have e':l=[]:=e;rw[e']at hl';simp at hl'
structure EMap (b:Bk)(below:Int)(em:List (PV×PV)):Prop where
 k:ZbD kI em=true
 f:∀m:Int,m<below→(findV (.int .i64 m) em).getD (.emp (some true))=if(b.held []).contains m=true then .lst false 1 ((b.endL m).map intP)else .emp (some true)
attribute [local simp] AS.exp expG Box.ren AV.map AV.mapL Zaw noRet Site.isRet Box.allS AV.allS AV.allSL retB dropL AS.adds renL outG outOk Zau inG fnOf lookA Zww
attribute [local simp] Box.purge Site.isLoc
attribute [local simp] ZaC Zax Zam Zaz Za4
theorem Zlv (H:Int→Bool)(hs:List (PV×PV))(hH:HMap H hs)(c:Ct):Zak Tryz.prog 77 [.pv c.pv,.ptr (.par 0) 0] (laid 0 (hdB hs 0)) (fun r B=>r=.pv (.bool (H c.num))∧B=laid 0 (hdB hs 0)):=by
 have hf:=hH.f c.num;have hk:=hH.k;refine cB [.par 0,.par 1] L77 ?_;simp[-getElem?_pos,L77,hdB,laid,Ct.pv,hf,hk]
theorem ZrA:Gives Tryz.prog 29 [.emp (some true)] (.emp (some true)):=by
 refine cS L29 ?_;simp[-getElem?_pos,L29,nilOf]
end
section
open Go.RowKit
set_option maxRecDepth 10000
attribute [local irreducible] Bk.held Bk.nums Bk.span Bk.endL
theorem cok38:COk Tryz.prog (tyOf tys) L36.code:=ZgD L36_ok L36_tab
def bestP:Option (List Int)→PV
 |none=>.emp (some true)
 |some l=>.lst false 1 (l.map intP)
noncomputable def beX (b:Bk)(es hs em:List (PV×PV))(n:Int)(s:Option (List Int)):List Box:=[.loop (rcode Tryz.prog 36 0) [72] 136 [(11,.ptr (.par 2) 0),(12,.ptr (.par 5) 0),(14,.ptr (.par 7) 0),(16,.ptr (.par 1) 0)] none,
 .cells [.pv (bestP s)],.cells [.fn 77 [] [.ptr (.par 3) 0]],.cells [.mp (.par 4)],.map hs,.cells [.mp (.par 6)],.map em,.cells [.pv (.int .i64 n)],capB (.par 9),.cells (wkC b (.par 10) (badZ [])),.map es]
def Zkr (b:Bk)(n:Int)(s:Option (List Int))(c:Ct):Option (List Int):=match(b.held []).contains c.num with
 |true=>stepC s (b.endL c.num++[n])
 |false=>s
def ZsL (s:Option (List Int)):Prop:=∀l,s=some l→l≠[]∧l.length≤1001
attribute [local simp] AS.exp expG Box.ren AV.map AV.mapL Zaw noRet Site.isRet Box.allS AV.allS AV.allSL retB dropL AS.adds renL outG outOk Zau inG fnOf lookA Zww
attribute [local simp] Box.purge Site.isLoc
attribute [local simp] ZaC Zax Zam Zaz Za4
noncomputable def beY (b:Bk)(es hs em:List (PV×PV))(n:Int)(s:Option (List Int))(y:Ct)(a:AV)(B:List (Site×Box)):AS:=⟨[(11,.ptr (.par 2) 0),(12,.ptr (.par 5) 0),(14,.ptr (.par 7) 0),(16,.ptr (.par 1) 0),(17,.ptr (.loc 17 0) 0),(77,a),(79,.vec (.loc 79 0) 1 0 1)],
 (laid 0 (beX b es hs em n s)).drop 1++((.loc 17 0,.cells [.pv (.int .i64 y.num),.pv (.int .i64 y.it),.pv (.int .i64 y.src),.pv (.int .i64 y.day),.pv (.int .i64 y.valid),.pv (.int .i64 y.diff.lo),.pv (.int .i64 y.diff.hi)])::(.loc 79 0,.arr 3 1 [.int .i64 n])::B)⟩
section
set_option maxHeartbeats 16000000 in
noncomputable def beC (b:Bk)(hb:b.ok)(es hs em:List (PV×PV))(hH:HMap (fun n=>(b.held []).contains n) hs)(n:Int)(hE:EMap b n em):Cons Tryz.prog where
 m:=11
 S:=Option (List Int)
 X:=beX b es hs em n
 step s x:=(Zkr b n s (ctOf x),true)
 good x:=∃c:Ct,c.num<n∧x=c.pv
 live:=ZsL
 m0:=by omega
 len _:=rfl
 cl c:=by
  intro bx hb;simp only[beX,Zwg,List.not_mem_nil,or_false]at hb;rcases hb with rfl|rfl|rfl|rfl|rfl|rfl|rfl|rfl|rfl|rfl|rfl
  all_goals first|rfl|simp[wkC,Site.lt,Zax]
 goes s x hs hx _:=by
  obtain⟨y,hy,rfl⟩:=hx;rw[ZgW];have hl:=Ze2 (b:=b) (n:=y.num);intro l hl';unfold Zkr at hl';split at hl'
  ·unfold stepC at hl';split at hl'
   ·cases hl';exact⟨by simp,by rw[Zv7];simp;omega⟩
   ·split at hl'
    ·cases hl';exact⟨by simp,by rw[Zv7];simp;omega⟩
    ·exact hs l hl'
  ·exact hs l hl'
 yields s x hc hx:=by
  obtain⟨y,hy,rfl⟩:=hx;rw[ZgW];have hcok:COk Tryz.prog (tyOf tys) (.rng 136 (.t 71) (rcode Tryz.prog 36 0) Y36_0a Y36_0b [72]):=cok38.2.2.2.2.2.1.2.2.2.1.2.2.2.2.1.2;have hf:=hE.f y.num hy;have hk:=hE.k;have hcall:=Zlv _ hs hH y;have hlen:=Ze2 (b:=b) (n:=y.num);have hnn:=fun h:(b.held []).contains y.num=true=>(ZbL hb h).2
  have hstep:Zkr b n s y=match(b.held []).contains y.num with
   |true=>stepC s (b.endL y.num++[n])
   |false=>s:=rfl
  rw[hstep];clear hstep;generalize b.endL y.num=E at *;generalize hcv:(b.held []).contains y.num=v at *;refine Zbc mixed hcok.1 hcok.2.1 rfl rfl (by simp) rfl ?_;cases v
  ·rw[if_neg (by simp)]at hf;simp[-getElem?_pos,-List.getElem?_map,Y36_0a,Y36_0b,beX,laid,putL,Ct.pv,capB,wkC,hk,hf];refine Zei (beY b es hs em n s y (.pv (.emp (some true))) []) ?_ ?_
   ·simp[-getElem?_pos,-List.getElem?_map,Zal,Zan];refine⟨?_,?_⟩
    all_goals
     refine cQ [] [.emp (some true)] ZrA ?_;simp[-getElem?_pos,-List.getElem?_map,frzsL,Zal,Zan];refine Sub.mk ?_ ?_
     ·simp[beY]
     ·simp[beY,beX,laid,capB,wkC]
   ·simp[-getElem?_pos,-List.getElem?_map,Zal,Zan,beY,beX,laid,capB,wkC,nble,nblt];refine cM [.pv y.pv,.ptr (.par 0) 0] (laid 0 (hdB hs 0)) 83 [.par 3,.par 4] (by simp[laid,hdB]) hcall (by simp[laid,hdB]) ?_;simp[-getElem?_pos,-List.getElem?_map,laid,hdB,-retB];exact⟨[],[.par 1,.par 2,.par 3,.par 4,.par 5,.par 6,.par 7,.par 8,.par 9,.par 10],rfl,rfl,by simp[frzL],rfl,by simp[frzL,wkC]⟩
  ·rw[if_pos rfl]at hf;simp[-getElem?_pos,-List.getElem?_map,Y36_0a,Y36_0b,beX,laid,putL,Ct.pv,capB,wkC,hk,hf];refine Zei (beY b es hs em n s y (.vec (.loc 77 0) 1 0 E.length) [(.loc 77 0,.arr 3 1 (E.map intP))]) ?_ ?_
   ·simp[-getElem?_pos,-List.getElem?_map,Zal,Zan];refine⟨?_,?_⟩
    all_goals
     refine ZrH [] (fs:=[]) (xs:=[.lst false 1 (E.map intP)]) (cs:=[]) rfl rfl (Zlk E (hnn rfl) (by omega)) ?_;simp[-getElem?_pos,-List.getElem?_map,frzsL,Zal,Zan];refine Sub.mk ?_ ?_
     ·simp[beY]
     ·simp[beY,beX,laid,capB,wkC]
   ·have hE6:E.length≤999999:=by omega
    have hE7:(E.map intP).take E.length=E.map intP:=Zv9 (by simp);have hE8:(E.map intP++[PV.int .i64 n]).take (E.length+1)=E.map intP++[PV.int .i64 n]:=Zv9 (by simp);simp[-getElem?_pos,-List.getElem?_map,Zal,Zan,beY,beX,laid,capB,wkC,nble,nblt,hE6,hE7];refine cM [.pv y.pv,.ptr (.par 0) 0] (laid 0 (hdB hs 0)) 83 [.par 3,.par 4] (by simp[laid,hdB]) hcall (by simp[laid,hdB]) ?_;cases s with
    |none=>
     simp[-getElem?_pos,-List.getElem?_map,laid,hdB,bestP,nilOf,-retB];exact⟨[.loc 80 0],[.par 1,.par 2,.par 3,.par 4,.par 5,.par 6,.par 7,.par 8,.par 9,.par 10],rfl,rfl,by simp[frzL,AS.frz,AV.frz,AV.frzL,Box.frz,AS.tidy,AS.frzC,fnA,unpvs,hE8],rfl,by simp[frzL,AS.frz,AV.frz,AV.frzL,Box.frz,AS.tidy,AS.frzC,fnA,unpvs,hE8,wkC,stepC,intP]⟩
    |some l=>
     obtain⟨hl0,hl1⟩:=hc l rfl;have hnil:nilOf .sl (.pv (.lst false 1 (l.map intP)))=some false:=by
      cases l with
      |nil=>exact absurd rfl hl0
      |cons a r=>rfl
     have hbf:=ZmC (E++[n]) l (by rw[Zv7];simp;omega) (by omega);have hlt:=ZpQ (E++[n]) l;have hst:stepC (some l) (E++[n])=if ltC (E++[n]) l=true then some (E++[n])else some l:=rfl;rw[hst];simp[-getElem?_pos,-List.getElem?_map,laid,hdB,bestP,hnil,-retB];refine Zaa (k:=0) (fs:=[]) (xs:=[.lst false 1 ((E++[n]).map intP),.lst false 1 (l.map intP)]) (cs:=[]) rfl (by simp[snapW,AV.snap,AV.snap0,intP,hE7];try exact hE8) hbf rfl ?_;cases hd:ltC (E++[n]) l
     ·rw[hd]at hlt;simp[-getElem?_pos,-List.getElem?_map,-decide_eq_true_eq,-decide_eq_false_iff_not,hlt,-retB];exact⟨[],[.par 1,.par 2,.par 3,.par 4,.par 5,.par 6,.par 7,.par 8,.par 9,.par 10],rfl,rfl,by simp[frzL],rfl,by simp[frzL,wkC,intP]⟩
     ·rw[hd]at hlt;simp[-getElem?_pos,-List.getElem?_map,-decide_eq_true_eq,-decide_eq_false_iff_not,hlt,-retB];exact⟨[.loc 80 0],[.par 1,.par 2,.par 3,.par 4,.par 5,.par 6,.par 7,.par 8,.par 9,.par 10],rfl,rfl,by simp[frzL,AS.frz,AV.frz,AV.frzL,Box.frz,AS.tidy,AS.frzC,fnA,unpvs,hE8],rfl,by simp[frzL,AS.frz,AV.frz,AV.frzL,Box.frz,AS.tidy,AS.frzC,fnA,unpvs,hE8,wkC,intP]⟩
end
end
section
open Go.RowKit
set_option maxRecDepth 10000
attribute [local irreducible] Bk.held Bk.nums Bk.span Bk.endL
noncomputable def bfX (b:Bk)(es hs em:List (PV×PV))(s:Option (List Int)):List Box:=[.loop (rcode Tryz.prog 36 1) [115] 136 [(11,.ptr (.par 2) 0),(12,.ptr (.par 5) 0),(19,.ptr (.par 1) 0)] none,
 .cells [.pv (bestP s)],.cells [.fn 77 [] [.ptr (.par 3) 0]],.cells [.mp (.par 4)],.map hs,.cells [.mp (.par 6)],.map em,capB (.par 8),.cells (wkC b (.par 9) (badZ [])),.map es]
def Zkq (b:Bk)(s:Option (List Int))(c:Ct):Option (List Int):=match(b.held []).contains c.num with
 |true=>stepC s (b.endL c.num)
 |false=>s
attribute [local simp] AS.exp expG Box.ren AV.map AV.mapL Zaw noRet Site.isRet Box.allS AV.allS AV.allSL retB dropL AS.adds renL outG outOk Zau inG fnOf lookA Zww
attribute [local simp] Box.purge Site.isLoc
attribute [local simp] ZaC Zax Zam Zaz Za4
section
set_option maxHeartbeats 16000000 in
noncomputable def bfC (b:Bk)(hb:b.ok)(es hs em:List (PV×PV))(hH:HMap (fun n=>(b.held []).contains n) hs)(hE:EMap b 1000 em):Cons Tryz.prog where
 m:=10
 S:=Option (List Int)
 X:=bfX b es hs em
 step s x:=(Zkq b s (ctOf x),true)
 good x:=∃c:Ct,c.num<1000∧x=c.pv
 live:=ZsL
 m0:=by omega
 len _:=rfl
 cl c:=by
  intro bx hb;simp only[bfX,Zwg,List.not_mem_nil,or_false]at hb;rcases hb with rfl|rfl|rfl|rfl|rfl|rfl|rfl|rfl|rfl|rfl
  all_goals first|rfl|simp[wkC,Site.lt,Zax]
 goes s x hs hx _:=by
  obtain⟨y,hy,rfl⟩:=hx;rw[ZgW];have hl:=Ze2 (b:=b) (n:=y.num);intro l hl';unfold Zkq at hl';split at hl'
  ·rename_i hh;have hne:=(ZbL hb hh).2;unfold stepC at hl';split at hl'
   ·cases hl';exact⟨hne,by omega⟩
   ·split at hl'
    ·cases hl';exact⟨hne,by omega⟩
    ·exact hs l hl'
  ·exact hs l hl'
 yields s x hc hx:=by
  obtain⟨y,hy,rfl⟩:=hx;rw[ZgW];have hcok:COk Tryz.prog (tyOf tys) (.rng 136 (.t 114) (rcode Tryz.prog 36 1) Y36_1a Y36_1b [115]):=cok38.2.2.2.2.2.2.2.1.2;have hf:=hE.f y.num hy;have hk:=hE.k;have hcall:=Zlv _ hs hH y;have hlen:=Ze2 (b:=b) (n:=y.num);have hnn:=fun h:(b.held []).contains y.num=true=>(ZbL hb h).2
  have hstep:Zkq b s y=match(b.held []).contains y.num with
   |true=>stepC s (b.endL y.num)
   |false=>s:=rfl
  rw[hstep];clear hstep;generalize b.endL y.num=E at *;generalize hcv:(b.held []).contains y.num=v at *;refine Zbc mixed hcok.1 hcok.2.1 rfl rfl (by simp) rfl ?_;cases v
  ·rw[if_neg (by simp)]at hf;simp[-getElem?_pos,-List.getElem?_map,Y36_1a,Y36_1b,bfX,laid,putL,Ct.pv,capB,wkC,hk,hf];refine cM [.pv y.pv,.ptr (.par 0) 0] (laid 0 (hdB hs 0)) 122 [.par 3,.par 4] (by simp[laid,hdB]) hcall (by simp[laid,hdB]) ?_;simp[-getElem?_pos,-List.getElem?_map,laid,hdB,-retB];exact⟨[],[.par 1,.par 2,.par 3,.par 4,.par 5,.par 6,.par 7,.par 8,.par 9],rfl,rfl,by simp[frzL],rfl,by simp[frzL,wkC]⟩
  ·rw[if_pos rfl]at hf;simp[-getElem?_pos,-List.getElem?_map,Y36_1a,Y36_1b,bfX,laid,putL,Ct.pv,capB,wkC,hk,hf];refine cM [.pv y.pv,.ptr (.par 0) 0] (laid 0 (hdB hs 0)) 122 [.par 3,.par 4] (by simp[laid,hdB]) hcall (by simp[laid,hdB]) ?_;cases s with
   |none=>
    simp[-getElem?_pos,-List.getElem?_map,laid,hdB,bestP,nilOf,-retB];exact⟨[],[.par 1,.par 2,.par 3,.par 4,.par 5,.par 6,.par 7,.par 8,.par 9],rfl,rfl,by simp[frzL],rfl,by simp[frzL,wkC,stepC,intP]⟩
   |some l=>
    obtain⟨hl0,hl1⟩:=hc l rfl;have hnil:nilOf .sl (.pv (.lst false 1 (l.map intP)))=some false:=by
     cases l with
     |nil=>exact absurd rfl hl0
     |cons a r=>rfl
    have hbf:=ZmC E l (by omega) (by omega);have hlt:=ZpQ E l;have hst:stepC (some l) E=if ltC E l=true then some E else some l:=rfl;rw[hst];simp[-getElem?_pos,-List.getElem?_map,laid,hdB,bestP,hnil,-retB];refine cG [.lst false 1 (E.map intP),.lst false 1 (l.map intP)] hbf ?_;cases hd:ltC E l
    ·rw[hd]at hlt;simp[-getElem?_pos,-List.getElem?_map,-decide_eq_true_eq,-decide_eq_false_iff_not,hlt,-retB];exact⟨[],[.par 1,.par 2,.par 3,.par 4,.par 5,.par 6,.par 7,.par 8,.par 9],rfl,rfl,by simp[frzL],rfl,by simp[frzL,wkC,intP]⟩
    ·rw[hd]at hlt;simp[-getElem?_pos,-List.getElem?_map,-decide_eq_true_eq,-decide_eq_false_iff_not,hlt,-retB];exact⟨[],[.par 1,.par 2,.par 3,.par 4,.par 5,.par 6,.par 7,.par 8,.par 9],rfl,rfl,by simp[frzL],rfl,by simp[frzL,wkC,intP]⟩
end
theorem ZpR {b:Bk}{hb:b.ok}{es hs em:List (PV×PV)}{hH:HMap (fun n=>(b.held []).contains n) hs}{n:Int}{hE:EMap b n em}:∀(l:List Ct) (s:Option (List Int)),(beC b hb es hs em hH n hE).run s (ctsV l)=((((l.filter fun c=>(b.held []).contains c.num).map fun c=>b.endL c.num++[n])).foldl stepC s,true)
 |[],s=>rfl
 |x::l,s=>by
  show(beC b hb es hs em hH n hE).run (Zkr b n s x) (ctsV l)=_;rw[ZpR l];unfold Zkr;cases h:(b.held []).contains x.num
  ·simp only[ZwJ,h,ZwP,if_false];rfl
  ·simp only[ZwJ,h,if_true,Zwd,List.foldl_cons];rfl
theorem ZpP {b:Bk}{hb:b.ok}{es hs em:List (PV×PV)}{hH:HMap (fun n=>(b.held []).contains n) hs}{hE:EMap b 1000 em}:∀(l:List Ct) (s:Option (List Int)),(bfC b hb es hs em hH hE).run s (ctsV l)=((((l.filter fun c=>(b.held []).contains c.num).map fun c=>b.endL c.num)).foldl stepC s,true)
 |[],s=>rfl
 |x::l,s=>by
  show(bfC b hb es hs em hH hE).run (Zkq b s x) (ctsV l)=_;rw[ZpP l];unfold Zkq;cases h:(b.held []).contains x.num
  ·simp only[ZwJ,h,ZwP,if_false];rfl
  ·simp only[ZwJ,h,if_true,Zwd,List.foldl_cons];rfl
end
section
open Go.RowKit
set_option maxRecDepth 10000
attribute [local irreducible] Bk.held Bk.nums Bk.span Bk.endL
def endP (b:Bk)(n:Int):PV:=.lst false 1 ((b.endL n).map intP)
def eEnt (b:Bk)(k:Nat):List (PV×PV):=mapI id (endP b) ((b.nums.take k).filter fun n=>(b.held []).contains n)
theorem Zrq {b:Bk}(hb:b.ok){k:Nat}{n:Int}(h:b.nums[k]?=some n):EMap b n (eEnt b k):=by
 refine⟨Zb5,fun m hm=>?_⟩;unfold eEnt;rw[ZbK,ZgU];cases hc:(b.held []).contains m
 ·rw[if_neg (by rw[Zwe,hc];simp),if_neg (by simp)];rfl
 ·rw[if_pos (by
   rw[Zwe,ZfM h];exact⟨⟨ZjX hb (Zwk.1 hc),hm⟩,hc⟩),if_pos rfl];rfl
theorem Zpr {b:Bk}(hb:b.ok):EMap b 1000 (eEnt b b.nums.length):=by
 refine⟨Zb5,fun m hm=>?_⟩;unfold eEnt;rw[ZbK,ZgU,Zwm];cases hc:(b.held []).contains m
 ·rw[if_neg (by rw[Zwe,hc];simp),if_neg (by simp)];rfl
 ·rw[if_pos (by
   rw[Zwe];exact⟨ZjX hb (Zwk.1 hc),hc⟩),if_pos rfl];rfl
theorem Zpq {b:Bk}{k:Nat}{n:Int}(h:b.nums[k]?=some n)(hx:(b.held []).contains n=false):eEnt b (k+1)=eEnt b k:=by
 unfold eEnt;rw[Zwf,h,ZwM]
 have:(Option.some n).toList.filter (fun n=>(b.held []).contains n)=[]:=by
  simp only[Option.toList,ZwJ,hx,List.filter_nil];rfl
 rw[this,Zwn]
theorem Zrp {b:Bk}{k:Nat}{n:Int}(h:b.nums[k]?=some n)(hx:(b.held []).contains n=true):putK (.int .i64 n) (endP b n) (eEnt b k)=eEnt b (k+1):=by
 unfold eEnt;rw[ZeD (fun x hm=>?_),Zwf,h,ZwM]
 ·have:(Option.some n).toList.filter (fun n=>(b.held []).contains n)=[n]:=by
   simp only[Option.toList,ZwJ,hx,List.filter_nil];rfl
  rw[this];unfold mapI;rw[Zwp];rfl
 ·have:=(ZfM h).1 (Zwe.1 hm).1
  show x≠n;omega
def endM (b:Bk)(n:Int):Option (List Int):=(((b.ofL (b.get n).src (b.get n).day n).filter fun c=>(b.held []).contains c.num).map fun c=>b.endL c.num++[n]).foldl stepC none
theorem Zug {b:Bk}(hb:b.ok){n:Int}(hn:n∈b.nums)(hx:(b.held []).contains n=true)(hs:(b.item (b.get n).src).std=false):endM b n=some (b.endL n):=by
 rw[←(ZbL hb hx).1];have hbn:=Zgm hb n hn;obtain⟨nn,rfl⟩:∃nn:Nat,n=nn:=⟨n.toNat,by omega⟩;rw[Zpn hb (Zc9 hb) (by omega) hn,if_neg (by simp[hs])];obtain⟨hcm,hcn⟩:=ZbA hb hn;refine ZjF fun x=>?_
 rw[Zwc,List.mem_filterMap];constructor
 ·rintro⟨c,hc,rfl⟩;rw[Zwe]at hc;obtain⟨h1,h2⟩:=(Zb9 hb).1 hc.1;refine⟨c.num,?_,?_⟩
  ·rw[Zwe];refine⟨Zwk.1 hc.2,?_⟩;rw[Zdp hb h1,ZfP,hcn];exact h2
  ·rw[(ZbL hb hc.2).1];rfl
 ·rintro⟨m,hm,hx'⟩;rw[Zwe]at hm;obtain⟨hm1,hm2⟩:=hm;have hmn:=Zc9 hb m hm1;obtain⟨g1,g2⟩:=ZbA hb hmn;have hmc:(b.held []).contains m=true:=Zwk.2 hm1;rw[(ZbL hb hmc).1]at hx';refine⟨b.get m,?_,?_⟩
  ·rw[Zwe,Zb9 hb,g2];refine⟨⟨g1,?_⟩,hmc⟩;rw[ZfP,hcn]at hm2;exact hm2
  ·rw[g2];simpa using hx'
theorem Zrm {b:Bk}(hb:b.ok){n:Int}(hn:n∈b.nums)(hs:(b.item (b.get n).src).std=true):b.endL n=[n]:=by
 have hbn:=Zgm hb n hn;obtain⟨nn,rfl⟩:∃nn:Nat,n=nn:=⟨n.toNat,by omega⟩;unfold Bk.endL;rw[Zpn hb (Zc9 hb) (by omega) hn,if_pos hs];rfl
def Bk.bestL (b:Bk)(item day:Int):List Int:=(b.bestC (b.held []) item day).getD []
def Bk.bestM (b:Bk)(item day:Int):List Int×Int:=if b.askM item day=0 then(if(b.item item).std=true then([],0)else(b.bestL item day,0))else([],b.askM item day)
def bestF (b:Bk)(item day:Int):Option (List Int):=(((b.ofL item day 1000).filter fun c=>(b.held []).contains c.num).map fun c=>b.endL c.num).foldl stepC none
theorem ZrS {b:Bk}(hb:b.ok){item day:Int}:bestF b item day=b.bestC (b.held []) item day:=by
 rw[ZrT];refine ZjF fun x=>?_
 rw[Zwc,List.mem_filterMap];constructor
 ·rintro⟨c,hc,rfl⟩;rw[Zwe]at hc;obtain⟨h1,h2⟩:=(Zb9 hb).1 hc.1;refine⟨c.num,?_,(ZbL hb hc.2).1⟩;rw[Zwe];refine⟨Zwk.1 hc.2,?_⟩;rw[Zdp hb h1];unfold Bk.ofB at h2;rw[Zv2]at h2;exact h2.2
 ·rintro⟨m,hm,hx'⟩;rw[Zwe]at hm;obtain⟨hm1,hm2⟩:=hm;have hmn:=Zc9 hb m hm1;have hbn:=Zgm hb m hmn;obtain⟨g1,g2⟩:=ZbA hb hmn;have hmc:(b.held []).contains m=true:=Zwk.2 hm1;rw[(ZbL hb hmc).1]at hx';refine⟨b.get m,?_,?_⟩
  ·rw[Zwe,Zb9 hb,g2];refine⟨⟨g1,?_⟩,hmc⟩;unfold Bk.ofB;rw[Zv2];exact⟨by rw[g2];simp;omega,hm2⟩
  ·rw[g2];simpa using hx'
theorem Znp {b:Bk}(hb:b.ok){item day:Int}(hs:(b.item item).std=false)(hh:b.isHeld item day=true):bestF b item day=some (b.bestL item day)∧b.bestL item day≠[]∧(b.bestL item day).length≤1000:=by
 have he:bestF b item day=b.bestC (b.held []) item day:=ZrS hb;unfold Bk.isHeld at hh;rw[hs,Bool.false_or,Zwq]at hh;obtain⟨c,hc1,hc2⟩:=hh;have hne:(((b.ofL item day 1000).filter fun c=>(b.held []).contains c.num).map fun c=>b.endL c.num)≠[]:=by
  intro e
  have:c∈(b.ofL item day 1000).filter fun c=>(b.held []).contains c.num:=Zwe.2 ⟨hc1,hc2⟩
  rw[List.map_eq_nil_iff]at e;rw[e]at this;cases this
 unfold Bk.bestL;rw[←he];cases hb2:bestF b item day with
 |none=>
  exact absurd (Zch.1 hb2) hne
 |some l=>
  refine⟨rfl,?_⟩;have hm:=(Zb3 hb2).1;rw[Zwc]at hm;obtain⟨o,ho,rfl⟩:=hm;exact⟨(ZbL hb (Zwe.1 ho).2).2,Ze2⟩
end
section
open Go.RowKit
attribute [local simp] Box.purge Site.isLoc
set_option maxRecDepth 10000
theorem Zt2 {b:Bk}{i:Int}(h0:0≤i)(h1:i<b.items.length):∃j:Nat,i=j∧j<b.items.length∧∃z,b.items[j]?=some z∧b.item i=z∧(b.items.map It.pv)[j]?=some (.agg [.int .i64 z.drift,.bool z.std,.int .i64 z.val.lo,.int .i64 z.val.hi]):=by
 have hz:b.items[i.toNat]?=some (b.items[i.toNat]'(by omega)):=ZvZ _;refine⟨i.toNat,by omega,by omega,_,hz,?_,?_⟩
 ·unfold Bk.item;rw[hz];rfl
 ·rw[Zv0,hz];rfl
section
attribute [local simp] retFz frzL AS.frz AV.frz AV.frzL Box.frz AS.tidy AS.frzC
end
end
section
open Go.RowKit
set_option maxRecDepth 10000
attribute [local irreducible] Bk.held Bk.nums Bk.span Bk.endL Bk.bestL endM bestF
attribute [local simp] AS.exp expG Box.ren AV.map AV.mapL Zaw noRet Site.isRet Box.allS AV.allS AV.allSL retB dropL AS.adds renL outG outOk Zau inG fnOf lookA Zww
attribute [local simp] Box.purge Site.isLoc
attribute [local simp] ZaC Zax Zam Zaz Za4
attribute [local simp] retFz frzL AS.frz AV.frz AV.frzL Box.frz AS.tidy AS.frzC
def beK (b:Bk)(item day:Int)(es hs:List (PV×PV))(k:Nat):AS:=⟨[(1,.pv (.int .i64 item)),(2,.pv (.int .i64 day)),(8,.ptr (.loc 26 0) 0),(11,.ptr (.loc 11 0) 0),(12,.ptr (.loc 12 0) 0),(49,.pv (.lst false 1 (b.nums.map intP))),(50,.pv (.int .i64 b.nums.length)),(51,.pv (.int .i64 k))],
 [(.loc 45 0,.map (eEnt b k)),(.loc 12 0,.cells [.mp (.loc 45 0)]),(.loc 11 0,.cells [.fn 77 [] [.ptr (.loc 9 0) 0]]),(.loc 9 0,.cells [.mp (.loc 26 2)]),(.loc 26 0,.cells (wkC b (.loc 26 1) (badZ []))),(.loc 26 1,.map es),(.loc 26 2,.map hs)]⟩
set_option maxHeartbeats 32000000 in
theorem Zkv (b:Bk)(hi:b.items.length≤1000)(hc:b.certs.length≤1000)(item day:Int):Zak Tryz.prog 36 ([b.pv,.int .i64 item,.int .i64 day].map .pv) [] (fun r B=>r=.pv (lstE (b.bestM item day))∧B=[]):=by
 have hask:=Zp1 b hi hc item day;refine Zak.weak2 ?_;refine cFR [.loc 135 0] L36 ?_;intro R hR;simp[-getElem?_pos,L36,Bk.pv,-retB];refine cL [.pv b.pv,.pv (.int .i64 item),.pv (.int .i64 day)] [] 26 [] rfl hask ?_
 rintro r0 B0 (⟨h0,rfl,rfl⟩|⟨h0,hf0,hit,hdy,hih,es,hes,rfl,rfl⟩)
 ·refine⟨rfl,by simp,?_⟩;have hd:decide (b.askM item day=0)=false:=by simpa using h0
  simp[-getElem?_pos,-decide_eq_true_eq,-decide_eq_false_iff_not,hd];rw[←hR];exact⟨_,rfl,rfl,Zfr (by unfold Bk.bestM;rw[if_neg h0])⟩
 have hb:b.ok:=Bk.ok_iff.1 hf0;have hH:=ZcB hb [];have hlen:=ZdX (b:=b);obtain⟨si,rfl,hsi,z,hz,hbz,hgz⟩:=Zt2 (b:=b) (i:=item) (by unfold Bk.hasItem inB at hit;simp only[Zv2,decide_eq_true_eq]at hit;omega) (by unfold Bk.hasItem inB at hit;simp only[Zv2,decide_eq_true_eq]at hit;omega);refine⟨rfl,by simp[wkC],?_⟩;generalize hEnt b [] b.nums.length=hs at *;cases hstd:z.std
 case true=>
  rw[hstd]at hgz;simp[-getElem?_pos,-List.getElem?_map,wkC,itsP,hgz,hsi];rw[←hR];exact⟨_,rfl,rfl,Zfr (by unfold Bk.bestM;rw[if_pos h0,if_pos (by rw[hbz];exact hstd)])⟩
 case false=>
 rw[hstd]at hgz;simp[-getElem?_pos,-List.getElem?_map,wkC,itsP,hgz,hsi,-retB];refine Zae (fun n τ=>∃k:Nat,k≤b.nums.length∧n=b.nums.length-k∧τ=beK b si day es hs k) ⟨b.nums.length,beK b si day es hs 0,Sub.mk (by simp[beK]) (by simp[beK,wkC,itsP,eEnt,mapI]),0,Zwb _,rfl,rfl⟩ ?_;rintro J hJ n τ ⟨k,hk,rfl,rfl⟩;by_cases hlt:k<b.nums.length
 ·obtain⟨x,hx⟩:∃x,b.nums[k]?=some x:=⟨b.nums[k],ZvZ hlt⟩;have hxm:=Zv3 hx;have hgx:(b.nums.map intP)[k]?=some (.int .i64 x):=by rw[Zv0,hx];rfl
  have hw:=wrapK (k:=k) (by omega);have hmeas:b.nums.length-(k+1)<b.nums.length-k:=by omega
  obtain⟨hcm,hcn⟩:=ZbA hb hxm;have hfx:=hes.f x;rw[if_pos hxm]at hfx;have hko:=hes.k;have hbd:=Zbg hb hcm;have hround:=hJ _ _ ⟨k+1,hlt,rfl,rfl⟩;have hput:=Zrp hx;have hskip:=Zpq hx;have hEM:=Zrq hb hx;have hek:=hEM.k;have hst0:=Zrm hb hxm;have hst1:=Zug hb hxm;have hbest:=Zlv _ hs hH (b.get x);have hit:=ZjM (beC b hb es hs (eEnt b k) hH x hEM) b hb [] es hes 8 9 10 (fun c _=>⟨rfl,rfl⟩) (fun c _=>rfl) (b.get x).src (b.get x).day x none (fun l h=>by cases h) (fun c hc=>⟨c,by
   have:=((Zb9 hb).1 hc).2
   unfold Bk.ofB at this;simp only[Zv2,decide_eq_true_eq]at this;exact this.1,rfl⟩)
  have hrun:(beC b hb es hs (eEnt b k) hH x hEM).run none (ctsV (b.ofL (b.get x).src (b.get x).day x))=(endM b x,true):=by rw[ZpR];unfold endM;rfl
  rw[hrun]at hit;clear hJ hrun;unfold beK at hround ⊢;have hcl:=fun s=>(beC b hb es hs (eEnt b k) hH x hEM).cl s
  generalize eEnt b k=em at *;generalize b.get x=y at *;obtain⟨yn,yi,ys,yd,yv,⟨yl,yh⟩⟩:=y;simp only at hcn hbd hit hst0 hst1 hbest;subst hcn;unfold Ct.pv at hfx;obtain⟨sj,rfl⟩:∃sj:Nat,ys=sj:=⟨ys.toNat,by omega⟩;obtain⟨nn,rfl⟩:∃nn:Nat,yn=nn:=⟨yn.toNat,by omega⟩;have hsj:sj<b.items.length:=by omega
  obtain⟨u,hu⟩:∃u,b.items[sj]?=some u:=⟨b.items[sj],ZvZ hsj⟩;have hgu:(b.items.map It.pv)[sj]?=some (.agg [.int .i64 u.drift,.bool u.std,.int .i64 u.val.lo,.int .i64 u.val.hi]):=by rw[Zv0,hu];rfl
  have hui:b.item (sj:Int)=u:=by unfold Bk.item;rw[ZwS,hu];rfl
  rw[hui]at hst0 hst1;simp[-getElem?_pos,-List.getElem?_map,beK,wkC,hlt,hgx,hko,hfx,-retB];refine cM [.pv (Ct.pv ⟨nn,yi,sj,yd,yv,⟨yl,yh⟩⟩),.ptr (.par 0) 0] (laid 0 (hdB hs 0)) 63 [.loc 9 0,.loc 26 2] (by simp[laid,hdB]) hbest (by simp[laid,hdB]) ?_;generalize hcv:(b.held []).contains (nn:Int)=v at *;cases v
  ·rw[hskip rfl]at hround;simp[-getElem?_pos,-List.getElem?_map,laid,hdB,hw,-retB];exact⟨_,_,hmeas,Sub.mk (by simp[beK]) (by simp[beK,wkC]),hround⟩
  have hst1:=hst1 rfl;rw[←hput rfl]at hround;simp[-getElem?_pos,-List.getElem?_map,laid,hdB,-retB];refine cM [.ptr (.par 0) 0,.pv (.int .i64 sj),.pv (.int .i64 yd),.pv (.int .i64 nn)] (laid 0 (wkB b [] es)) 71 [.loc 26 0,.loc 26 1] (by simp[laid,wkB,wkC]) (of_c b [] es sj yd nn) (by simp[laid,wkB,wkC]) ?_;simp[-getElem?_pos,-List.getElem?_map,laid,wkB,wkC,ofF,-retB];refine ZdT [.loc 136 0,.loc 16 0,.loc 11 0,.loc 9 0,.loc 26 2,.loc 12 0,.loc 45 0,.loc 14 0,.loc 71 0,.loc 26 0,.loc 26 1] [(11,.ptr (.loc 11 0) 0),(12,.ptr (.loc 12 0) 0),(14,.ptr (.loc 14 0) 0),(16,.ptr (.loc 16 0) 0)] (gf:=124) (fs:=[]) (cs:=[.ptr (.loc 71 0) 0,.pv (.ref [.int .i64 nn]),.pv (.ref [.int .i64 sj]),.pv (.ref [.int .i64 yd])]) ?_ ?_ rfl rfl ?_ ?_ ?_ hit ?_
  ·rfl
  ·simp
  ·simp[beC,beX,bestP,laid,wkC,capB]
  ·rfl
  ·rfl
  rintro r B' ⟨rfl,rfl⟩;refine⟨rfl,?_,?_⟩
  ·exact fun p hp=>Zfv (n:=11) (L:=beX b es hs em nn (endM b nn)) (by simp[beX]) (hcl (endM b nn)) p hp
  refine⟨_,_,_,_,_,rfl,?_⟩;clear hcl;generalize endM b nn=M at *;have hgu':=hgu;cases hs2:u.std
  ·rw[hs2]at hgu;have hM:=hst1 hs2;subst hM;simp[-getElem?_pos,-List.getElem?_map,beC,beX,laid,jumpQ,wkC,capB,bestP,itsP,hgu,hsj,hek,hw,fnA,unpvs,-retB];exact⟨_,_,hmeas,Sub.mk (by simp) (by simp[wkC,endP,itsP]),hround⟩
  ·rw[hs2]at hgu;have hE:=hst0 hs2;simp[-getElem?_pos,-List.getElem?_map,beC,beX,laid,jumpQ,wkC,capB,bestP,itsP,hgu,hsj,hek,hw,fnA,unpvs,-retB];exact⟨_,_,hmeas,Sub.mk (by simp) (by simp[wkC,endP,hE,itsP,intP]),hround⟩
 have he:k=b.nums.length:=by omega
 subst he;clear hJ;have hEM:=Zpr hb;have hzs:(b.item (si:Int)).std=false:=by rw[hbz];exact hstd
 obtain⟨hF,hL0,hL1⟩:=Znp hb hzs hih;have hM:b.bestM si day=(b.bestL si day,0):=by unfold Bk.bestM;rw[if_pos h0,if_neg (by rw[hzs];simp)]
 have hit:=ZjM (bfC b hb es hs (eEnt b b.nums.length) hH hEM) b hb [] es hes 7 8 9 (fun c _=>⟨rfl,rfl⟩) (fun c _=>rfl) si day 1000 none (fun l h=>by cases h) (fun c hc=>⟨c,by
  have:=((Zb9 hb).1 hc).2
  unfold Bk.ofB at this;simp only[Zv2,decide_eq_true_eq]at this;exact this.1,rfl⟩)
 have hrun:(bfC b hb es hs (eEnt b b.nums.length) hH hEM).run none (ctsV (b.ofL si day 1000))=(some (b.bestL si day),true):=by rw[←hF,ZpP];unfold bestF;rfl
 rw[hrun]at hit;have hcl:=fun s=>(bfC b hb es hs (eEnt b b.nums.length) hH hEM).cl s
 have hclone:=Zlk (b.bestL si day) hL0 (by omega);rw[hM]at hR;clear hrun hF hM;unfold beK;generalize eEnt b b.nums.length=em at *;generalize b.bestL si day=L at *;simp[-getElem?_pos,-List.getElem?_map,wkC,-retB];refine cM [.ptr (.par 0) 0,.pv (.int .i64 si),.pv (.int .i64 day),.pv (.int .i64 1000)] (laid 0 (wkB b [] es)) 114 [.loc 26 0,.loc 26 1] (by simp[laid,wkB,wkC]) (of_c b [] es si day 1000) (by simp[laid,wkB,wkC]) ?_;simp[-getElem?_pos,-List.getElem?_map,laid,wkB,wkC,ofF,-retB];refine ZdT [.loc 136 0,.loc 19 0,.loc 11 0,.loc 9 0,.loc 26 2,.loc 12 0,.loc 45 0,.loc 114 0,.loc 26 0,.loc 26 1] [(11,.ptr (.loc 11 0) 0),(12,.ptr (.loc 12 0) 0),(19,.ptr (.loc 19 0) 0)] (gf:=124) (fs:=[]) (cs:=[.ptr (.loc 114 0) 0,.pv (.ref [.int .i64 1000]),.pv (.ref [.int .i64 si]),.pv (.ref [.int .i64 day])]) ?_ ?_ rfl rfl ?_ ?_ ?_ hit ?_
 ·rfl
 ·simp
 ·simp[bfC,bfX,bestP,laid,wkC,capB]
 ·rfl
 ·rfl
 rintro r B' ⟨rfl,rfl⟩;refine⟨rfl,?_,?_⟩
 ·exact fun p hp=>Zfv (n:=10) (L:=bfX b es hs em (some L)) (by simp[bfX]) (hcl (some L)) p hp
 refine⟨_,_,_,_,_,rfl,?_⟩;clear hcl;simp[-getElem?_pos,-List.getElem?_map,bfC,bfX,laid,jumpQ,wkC,capB,bestP,-retB];refine cM [.pv (.lst false 1 (L.map intP))] [] 135 [] rfl hclone (by simp) ?_;have hLm:(L.map intP).take L.length=L.map intP:=Zv9 (by simp);simp[-getElem?_pos,-List.getElem?_map,hLm,-retB];rw[←hR];exact⟨_,rfl,rfl,fun m v h=>h⟩
end
section
open Go.RowKit
set_option maxRecDepth 10000
attribute [local simp] AS.exp expG Box.ren AV.map AV.mapL Zaw noRet Site.isRet Box.allS AV.allS AV.allSL retB dropL AS.adds renL outG outOk Zau inG fnOf lookA Zww
attribute [local simp] Box.purge Site.isLoc
attribute [local simp] retFz frzL AS.frz AV.frz AV.frzL Box.frz AS.tidy AS.frzC frzsL retOk renB toLoc
theorem ZpS:Gives Tryz.prog 42 [.lst false 7 []] (.lst false 7 []):=by
 refine Zak.weak2 ?_;refine cF [.loc 7 0] L42 ?_;simp[-getElem?_pos,L42,nilOf,ZaJ,nble,opWp,osel];exact fun m v h=>ZbM h
def goodC (l:List Ct)(bad:List Int):List Ct:=l.filter (fun x=>!badP bad x)
def Zaj (l:List Ct)(bad:List Int):Bk:=⟨ZaE,goodC l bad⟩
theorem Zie (l:List Ct)(bad:List Int)(c d e:PV)(hl:l.length≤1000)(hb:bad.length≤1000):Zak Tryz.prog 51 [.ptr (.par 0) 0] [(.par 0,wkX (ctsP l) (.lst false 1 (bad.map iP)) c d e)] (fun r B=>r=.pv (Zaj l bad).pv∧B=[(.par 0,wkX (ctsP l) (.lst false 1 (bad.map iP)) c d e)]):=by
 refine cBR [.par 0] L51 ?_;intro R hR;simp[-getElem?_pos,L51,wkX,ctsP];by_cases hn:l=[]
 ·subst hn;simp only[List.map_nil];refine .inl (cQ [] [.lst false 7 []] ZpS ?_);simp[-getElem?_pos];refine cM [.pv (.lst false 7 []),.fn 98 [] [.ptr (.par 0) 0]] (laid 0 (rgB (wkX (.lst false 7 []) (.lst false 1 (bad.map iP)) c d e) 0)) 11 [.loc 1 0,.par 0] (by simp[laid,rgB,wkX]) (del0C _ _ c d e) (by simp[laid,rgB,wkX]) ?_;simp[-getElem?_pos,laid,rgB,wkX];refine .inl (cQ [] [] Zk3 ?_);simp[-getElem?_pos,←hR,Zaj,goodC,Bk.pv,ctsP,itsP,wkX]
 ·refine .inl (Zbh [] (fs:=[]) (xs:=[.lst false 7 (l.map Ct.pv)]) (cs:=[]) (d:=9) rfl rfl (ZfA (l.map Ct.pv) (by rw[Zv6];omega)) ?_);rintro r B (⟨h,rfl,rfl⟩|⟨rfl,rfl⟩)
  ·exact absurd (List.map_eq_nil_iff.1 h) hn
  refine⟨by simp,?_⟩;simp[-getElem?_pos];refine cL [.vec (.par 0) 7 0 l.length,.fn 98 [] [.ptr (.par 1) 0]] (laid 0 (.arr 47 7 (l.map Ct.pv)::rgB (wkX (ctsP l) (.lst false 1 (bad.map iP)) c d e) 1)) 11 [.loc 9 0,.loc 1 0,.par 0] (by simp[laid,rgB,wkX,ctsP]) (delC _ c d e bad hb l hl) ?_
  rintro r0 B0 ⟨rfl,X,hX,rfl⟩;refine⟨rfl,by simp[laid,rgB,wkX,ctsP],?_⟩;have hXm:(X.map Ct.pv).take (goodC l bad).length=(goodC l bad).map Ct.pv:=by rw[←List.map_take];exact congrArg _ hX
  have hXl:(goodC l bad).length≤X.length:=by
   have:=congrArg List.length hX
   rw[Zv8]at this;unfold goodC;omega
  have hgf:(l.filter fun x=>!badP bad x)=goodC l bad:=rfl;simp only[hgf];simp[-getElem?_pos,laid,rgB,wkX,ctsP];refine .inl (cQ [.loc 9 0] [] Zk3 ?_);simp[-getElem?_pos,←hR,Zaj,Bk.pv,ctsP,itsP,wkX,hXm,hXl]
theorem Zew (l:List Ct)(bad:List Int)(c d e:PV)(hl:l.length≤1000)(hb:bad.length≤1000)(lot item day rd:Int):Zak Tryz.prog 34 [.ptr (.par 0) 0,.pv (.agg [.int .i64 lot,.int .i64 item,.int .i64 day,.int .i64 rd])] [(.par 0,wkX (ctsP l) (.lst false 1 (bad.map iP)) c d e)] (fun r B=>r=.pv (.bool (decide (((Zaj l bad).bestM item day).2=0)))∧B=[(.par 0,wkX (ctsP l) (.lst false 1 (bad.map iP)) c d e)]):=by
 have hrc:=Zie l bad c d e hl hb;have hbc:=Zkv (Zaj l bad) (show ZaE.length≤1000 by decide) (by unfold Zaj goodC;exact Zwh (ZwN _ _) hl) item day;refine cBR [.par 0] L34 ?_;intro R hR;simp[-getElem?_pos,L34,wkX];refine ZbG (fun τ=>τ=⟨[(9,.pv (Zaj l bad).pv),(11,.pv (.int .i64 item)),(13,.pv (.int .i64 day))],[(.par 0,wkX (ctsP l) (.lst false 1 (bad.map iP)) c d e)]⟩) ?_ ?_
 ·simp[-getElem?_pos,Zal,Zan]
  repeat' apply And.intro
  all_goals
   refine cM [.ptr (.par 0) 0] [(.par 0,wkX (ctsP l) (.lst false 1 (bad.map iP)) c d e)] 9 [.par 0] (by simp[wkX]) hrc (by simp[wkX]) ?_;simp[-getElem?_pos,wkX,Zal,Zan];exact Sub.mk (by simp) (by simp[wkX])
 ·rintro τ rfl;simp[-getElem?_pos,Zal,Zan,wkX];refine .inl (cQ [] [(Zaj l bad).pv,.int .i64 item,.int .i64 day] hbc ?_);simp[-getElem?_pos,lstE];rw[←hR];exact⟨rfl,by simp[wkX]⟩
theorem ZsF (l:List Ct)(bad:List Int)(c d e:PV)(hl:l.length≤1000)(hb:bad.length≤1000)(lot item day rd limit:Int)(hfit:IntKind.i64.wrap (rd+((Zaj l bad).spanM item day).1.lo)=rd+((Zaj l bad).spanM item day).1.lo):Zak Tryz.prog 144 [.ptr (.par 0) 0,.pv (.agg [.int .i64 lot,.int .i64 item,.int .i64 day,.int .i64 rd]),.pv (.int .i64 limit)] [(.par 0,wkX (ctsP l) (.lst false 1 (bad.map iP)) c d e)] (fun r B=>r=.pv (.bool (decide (limit≤rd+((Zaj l bad).spanM item day).1.lo)))∧B=[(.par 0,wkX (ctsP l) (.lst false 1 (bad.map iP)) c d e)]):=by
 have hrc:=Zie l bad c d e hl hb;have hbc:=Zp8 (Zaj l bad) (show ZaE.length≤1000 by decide) (by unfold Zaj goodC;exact Zwh (ZwN _ _) hl) item day;refine cBR [.par 0] L144 ?_;intro R hR;simp[-getElem?_pos,L144,wkX];refine ZbG (fun τ=>τ=⟨[(18,.pv (.int .i64 ((Zaj l bad).spanM item day).2)),(7,.ptr (.loc 7 0) 0),(4,.ptr (.loc 4 0) 0),(2,.pv (.int .i64 limit))],[(.loc 7 0,.cells [.pv (.int .i64 ((Zaj l bad).spanM item day).1.lo),.pv (.int .i64 ((Zaj l bad).spanM item day).1.hi)]),(.loc 4 0,.cells [.pv (.int .i64 lot),.pv (.int .i64 item),.pv (.int .i64 day),.pv (.int .i64 rd)]),(.par 0,wkX (ctsP l) (.lst false 1 (bad.map iP)) c d e)]⟩) ?_ ?_
 ·simp[-getElem?_pos,Zal,Zan]
  repeat' apply And.intro
  all_goals
   refine cM [.ptr (.par 0) 0] [(.par 0,wkX (ctsP l) (.lst false 1 (bad.map iP)) c d e)] 11 [.par 0] (by simp[wkX]) hrc (by simp[wkX]) ?_;simp[-getElem?_pos,wkX,Zal,Zan]
   repeat' apply And.intro
   all_goals
    refine .inl (cQ [] [(Zaj l bad).pv,.int .i64 item,.int .i64 day] hbc ?_);simp[-getElem?_pos,spanE,Cr.pv,Zal,Zan]
    repeat' apply And.intro
    all_goals exact Sub.mk (by simp) (by simp[wkX])
 ·rintro τ rfl;simp[-getElem?_pos,Zal,Zan,wkX,hfit];rw[←hR];exact⟨rfl,by simp[wkX]⟩
end
section
open Go.RowKit
set_option maxRecDepth 10000
section
attribute [local simp] Box.purge Site.isLoc
theorem Zo3 (l:List PV)(g:FuncId)(fs cs:List PV)(q:PV→Bool)(hq:∀x∈l,Gives Tryz.prog g (fs++[x]++cs) (.bool (q x)))(hl:l.length≤1000000)(hc:∀x∈l,∃a b c,x=.agg [.int .i64 a,.int .i64 b,.int .i64 c]):
  Gives Tryz.prog 203 [.lst false 3 l,.fn g fs cs] (.int .i64 (match l.findIdx? q with|some i=>i|none=>-1)):=by
 refine cS L203 ?_;simp[L203];refine Zae (fun n τ=>∃k:Nat,k≤l.length∧n=l.length-k∧(∀j x,j<k→l[j]?=some x→q x=false)∧τ=⟨[(0,.pv (.lst false 3 l)),(1,.pv (.fn g fs cs)),(7,.pv (.int .i64 l.length)),(8,.pv (.int .i64 k))],[]⟩)
  ⟨l.length,_,Sub.mk (by simp) (by simp),0,by omega,rfl,(fun j x hj=>by omega),rfl⟩ ?_
 rintro J hJ n τ ⟨k,hk,rfl,hinv,rfl⟩;by_cases hlt:k<l.length
 ·have hx:l[k]?=some l[k]:=ZvZ hlt;have hm:=ZwA hlt;generalize l[k]=x at hx hm;obtain⟨a,b,c,rfl⟩:=hc x hm;have hg:=hq _ hm;have hw:IntKind.i64.wrap ((k:Int)+1)=((k+1:Nat):Int):=by rw[wrap64 (by omega)];omega
  simp[-getElem?_pos,hlt,hx,nblt];refine Zaa (k:=0) rfl rfl hg rfl ?_;cases hb:q _
  ·simp[hw];exact⟨_,_,(by omega:l.length-(k+1)<l.length-k),Sub.mk (by simp) (by simp),hJ _ _ ⟨k+1,by omega,rfl,fun j x hj hjx=>by
    rcases Zw1.1 hj with h|h
    ·exact hinv j x h hjx
    ·subst h;rw[hx]at hjx;cases hjx;exact hb,rfl⟩⟩
  ·simp[ZdD hx hb hinv]
 ·have he:k=l.length:=by omega
  subst he;simp[Zb7 hinv]
theorem ZuM (l:List PV)(g:FuncId)(fs cs:List PV)(q:PV→Bool)(hq:∀x∈l,Gives Tryz.prog g (fs++[x]++cs) (.bool (q x)))(hl:l.length≤1000000)(hc:∀x∈l,∃a b c,x=.agg [.int .i64 a,.int .i64 b,.int .i64 c]):
  Gives Tryz.prog 180 [.lst false 3 l,.fn g fs cs] (.bool (l.any q)):=by
 refine cS L180 ?_;simp[L180];refine Zaa (k:=0) rfl rfl (Zo3 l g fs cs q hq hl hc) rfl ?_;cases hf:l.findIdx? q with
 |none=>
  have:l.any q=false:=by rw[List.any_eq_false];intro x hx;simpa using ZwV.1 hf x hx
  simp[this]
 |some i=>
  have:l.any q=true:=by
   obtain⟨hi,h1,_⟩:=ZwU.1 hf;exact Zwq.2 ⟨_,ZwA hi,h1⟩
  simp[this]
theorem Zsf (x:PV)(g:FuncId)(fs cs:List PV)(b:Bool)(hx:∃a b c,x=.agg [.int .i64 a,.int .i64 b,.int .i64 c])(hq:Gives Tryz.prog g (fs++[x]++cs) (.bool b)):
  Gives Tryz.prog 181 [x,.ref [.fn g fs cs]] (.bool (!b)):=by
 obtain⟨a,b,c,rfl⟩:=hx;refine cS L181 ?_;simp[L181];refine Zaa (k:=0) rfl rfl hq rfl ?_;simp
theorem ZuQ (l:List PV)(g:FuncId)(fs cs:List PV)(q:PV→Bool)(hq:∀x∈l,Gives Tryz.prog g (fs++[x]++cs) (.bool (q x)))(hl:l.length≤1000000)(hc:∀x∈l,∃a b c,x=.agg [.int .i64 a,.int .i64 b,.int .i64 c]):
  Gives Tryz.prog 142 [.lst false 3 l,.fn g fs cs] (.bool (l.all q)):=by
 refine cS L142 ?_;simp[L142];refine Zaa (k:=4) rfl rfl (ZuM l 181 [] [.ref [.fn g fs cs]] (fun x=>!q x) (fun x hx=>Zsf x g fs cs (q x) (hc x hx) (hq x hx)) hl hc) rfl ?_;simp[List.not_any_eq_all_not]
end
attribute [local simp] AS.exp expG Box.ren AV.map AV.mapL Zaw noRet Site.isRet Box.allS AV.allS AV.allSL retB dropL AS.adds renL outG outOk Zau inG fnOf lookA Zww
attribute [local simp] Box.purge Site.isLoc
attribute [local simp] retFz frzL AS.frz AV.frz AV.frzL Box.frz AS.tidy AS.frzC frzsL retOk renB toLoc
theorem wr0:IntKind.i64.wrap 0=0:=by decide
theorem wr1:IntKind.i64.wrap 1=1:=by decide
theorem wr2:IntKind.i64.wrap 2=2:=by decide
theorem wr3:IntKind.i64.wrap 3=3:=by decide
theorem wr4:IntKind.i64.wrap 4=4:=by decide
theorem wr5:IntKind.i64.wrap 5=5:=by decide
theorem wr6:IntKind.i64.wrap 6=6:=by decide
attribute [local simp] wr0 wr1 wr2 wr3 wr4 wr5 wr6
theorem Zgi (n low high:Int):Gives Tryz.prog 141 [.int .i64 n,.int .i64 low,.int .i64 high] (.bool (decide (low≤n)&&decide (n≤high))):=by
 refine cS L141 ?_;by_cases h1:low≤n<;>by_cases h2:n≤high<;>simp[L141,h1,h2]
theorem Zs4 (a b c:Int):Gives Tryz.prog 143 [.agg [.int .i64 a,.int .i64 b,.int .i64 c]] (.bool (decide (1≤a))):=by
 refine cS L143 ?_;simp[-getElem?_pos,L143]
def stgP (k:Int):PV:=.agg [.int .i64 2,.int .i64 k,.int .i64 2]
def planP (n:Int):PV:=.agg [.int .i64 n,.lst false 3 [stgP 0,stgP 1]]
theorem Zjw (num n limit:Int)(ps:Bool):Gives Tryz.prog 145 [.agg [.int .i64 num,.int .i64 n,.int .i64 limit,.bool ps]] (planP n):=by
 refine cF [.loc 7 0] L145 ?_;simp[-getElem?_pos,L145,planP,stgP,nble,setAt]
def saysM (bad a r:Int):Int:=if bad≤a then 1 else if r≤bad then 2 else 3
theorem Zu5 (t a r bad:Int):Gives Tryz.prog 92 [.agg [.int .i64 t,.int .i64 a,.int .i64 r],.int .i64 bad] (.int .u8 (saysM bad a r)):=by
 refine cS L92 ?_;unfold saysM;by_cases h1:bad≤a<;>by_cases h2:r≤bad<;>simp[-getElem?_pos,L92,h1,h2]
theorem Znt:Gives Tryz.prog 142 [.lst false 3 [stgP 0,stgP 1],.fn 143 [] []] (.bool true):=
 ZuQ [stgP 0,stgP 1] 143 [] [] (fun _=>true) (fun x hx=>by
  have h:∃k,x=stgP k:=by
   simp at hx;rcases hx with rfl|rfl<;>exact⟨_,rfl⟩
  obtain⟨k,rfl⟩:=h;exact Zs4 2 k 2) (by decide) (fun x hx=>by
   simp at hx;rcases hx with rfl|rfl<;>exact⟨_,_,_,rfl⟩)
def ckS (n t a b c k:Int):AS:=⟨[(1,.ptr (.loc 1 0) 0),(3,.pv (.int .i64 t)),(4,.ptr (.loc 4 0) 0),(31,.pv (.lst false 3 [stgP 0,stgP 1])),(32,.pv (.int .i64 2)),(33,.pv (.int .i64 k))],[(.loc 1 0,.cells [.pv (.int .i64 n),.pv (.lst false 3 [stgP 0,stgP 1])]),(.loc 4 0,.cells [.pv (.int .i64 a),.pv (.int .i64 b),.pv (.int .i64 c)])]⟩
theorem Zlo (n:Int)(h4:4≤n)(h30:n≤30):Gives Tryz.prog 91 [planP n] (.int .i64 0):=by
 have hw:=Zgi n 1 30;have hd:(decide (1≤n)&&decide (n≤30))=true:=by simp;omega
 rw[hd]at hw;have hw0:=Zgi 2 1 3;have hw1:=Zgi 2 2 5;refine cS L91 ?_;simp[-getElem?_pos,L91,planP];refine cG [.int .i64 n,.int .i64 1,.int .i64 30] hw ?_;simp[-getElem?_pos];refine cG [.lst false 3 [stgP 0,stgP 1],.fn 143 [] []] Znt ?_;simp[-getElem?_pos,setAt];have hwn:∀t:Int,0≤t→t≤4→IntKind.i64.wrap (n-t)=n-t:=fun t h1 h2=>wrap64 (by omega)
 refine Zae (fun m τ=>(m=2∧τ=ckS n 0 0 (-1) 0 0)∨(m=1∧τ=ckS n 2 2 0 2 1)∨(m=0∧τ=ckS n 4 2 1 2 2)) ⟨2,ckS n 0 0 (-1) 0 0,Sub.mk (by simp[ckS]) (by simp[ckS]),.inl ⟨rfl,rfl⟩⟩ ?_;rintro J hJ m τ (⟨rfl,rfl⟩|⟨rfl,rfl⟩|⟨rfl,rfl⟩)
 ·have hj:=hJ 1 _ (.inr (.inl ⟨rfl,rfl⟩));have h1:¬(n<2):=by omega
  have h0:IntKind.i64.wrap n=n:=wrap64 (by omega);simp[-getElem?_pos,ckS,stgP,setAt,h0,h1];refine cG [.int .i64 2,.int .i64 1,.int .i64 3] hw0 ?_;simp[-getElem?_pos,setAt];exact⟨_,_,by decide,Sub.mk (by simp[ckS,stgP]) (by simp[ckS,stgP]),hj⟩
 ·have hj:=hJ 0 _ (.inr (.inr ⟨rfl,rfl⟩));have h1:¬(n-2<2):=by omega
  have h0:IntKind.i64.wrap (n-2)=n-2:=wrap64 (by omega);simp[-getElem?_pos,ckS,stgP,setAt,h0,h1];refine cG [.int .i64 2,.int .i64 2,.int .i64 5] hw1 ?_;simp[-getElem?_pos,setAt];exact⟨_,_,by decide,Sub.mk (by simp[ckS,stgP]) (by simp[ckS,stgP]),hj⟩
 ·simp[-getElem?_pos,ckS,stgP,setAt]
def cntB:List Bool→Int
 |[]=>0
 |x::l=>(if x=true then 1 else 0)+cntB l
theorem ZpA {l:List Bool}{k:Nat}{x:Bool}(h:l[k]?=some x):cntB (l.take (k+1))=cntB (l.take k)+(if x=true then 1 else 0):=by
 induction l generalizing k with
 |nil=>cases h
 |cons y l ih=>
  cases k with
  |zero=>
   simp at h;subst h;simp[cntB]
  |succ k=>
   have:=ih (k:=k) (by simpa using h)
   simp only[List.take_succ_cons,cntB,this];omega
theorem ZpB {l:List Bool}:0≤cntB l∧cntB l≤l.length:=by
 induction l with
 |nil=>exact⟨Int.le_refl _,Int.le_refl _⟩
 |cons x l ih=>
  simp only[cntB,Zws]
  split<;>omega
def planM (rs:List Bool):Int×Int×Int:=
 if rs.length<2 then(3,2-(rs.length:Int),0)
 else if saysM (cntB (rs.take 2)) 0 2=3 then
  (if rs.length<4 then(3,4-(rs.length:Int),0)
  else if 4<rs.length then(0,0,2)else(saysM (1+cntB ((rs.drop 2).take 2)) 1 2,0,0))
 else if 2<rs.length then(0,0,2)else(saysM (cntB (rs.take 2)) 0 2,0,0)
def planE (x:Int×Int×Int):PV:=.tup [.int .u8 x.1,.int .i64 x.2.1,.int .i64 x.2.2]
def plS (n:Int)(rs:List Bool)(k:Nat):AS:=⟨[(1,.vec (.par 0) 1 0 rs.length),(8,.pv (.int .i64 ((2*k:Nat):Int))),(9,.pv (.int .i64 (k:Int))),(20,.pv (.lst false 3 [stgP 0,stgP 1])),(21,.pv (.int .i64 2)),(22,.pv (.int .i64 (k:Int)))],[(.par 0,.arr 4 1 (rs.map .bool))]⟩
def inS (rs sub:List Bool)(k j:Nat):AS:=⟨[(1,.vec (.par 0) 1 0 rs.length),(8,.pv (.int .i64 ((2*k:Nat):Int))),(9,.pv (.int .i64 ((k:Int)+cntB (sub.take j)))),(11,.ptr (.loc 11 0) 0),(20,.pv (.lst false 3 [stgP 0,stgP 1])),(21,.pv (.int .i64 2)),(22,.pv (.int .i64 (k:Int))),(46,.vec (.par 0) 1 (2*k) 2),(47,.pv (.int .i64 2)),(48,.pv (.int .i64 (j:Int)))],[(.loc 11 0,.cells [.pv (.int .i64 2),.pv (.int .i64 (k:Int)),.pv (.int .i64 2)]),(.par 0,.arr 4 1 (rs.map .bool))]⟩
theorem Zil (n:Int)(h4:4≤n)(h30:n≤30)(rs:List Bool)(hl:rs.length≤1000):Zak Tryz.prog 45 [.pv (planP n),.vec (.par 0) 1 0 rs.length] [(.par 0,.arr 4 1 (rs.map .bool))] (fun r B=>r=.pv (planE (planM rs))∧B=[(.par 0,.arr 4 1 (rs.map .bool))]):=by
 refine cBR [.par 0] L45 ?_;intro R hR;simp[-getElem?_pos,L45,planP];refine cG [planP n] (Zlo n h4 h30) ?_;simp[-getElem?_pos];refine Zae (fun m τ=>∃k:Nat,(k=0∨(k=1∧2≤rs.length∧cntB (rs.take 2)=1))∧m=2-k∧τ=plS n rs k) ⟨2,plS n rs 0,Sub.mk (by simp[plS]) (by simp[plS]),0,.inl rfl,rfl,rfl⟩ ?_;rintro J hJ m τ ⟨k,hk,rfl,rfl⟩;have hk2:k<2:=by omega
 have hst:([stgP 0,stgP 1]:List PV)[k]?=some (.agg [.int .i64 2,.int .i64 (k:Int),.int .i64 2]):=by
  rcases hk with rfl|⟨rfl,_⟩<;>rfl
 have hw2:IntKind.i64.wrap ((2*k:Nat)+2:Int)=((2*k+2:Nat):Int):=by rw[wrap64 (by omega)];omega
 have hki:((k:Int)<2):=by omega
 by_cases hlen:rs.length<2*k+2
 ·have hli:(rs.length:Int)<((2*k+2:Nat):Int):=by omega
  simp[-getElem?_pos,-Int.natCast_add,-Int.natCast_mul,plS,hki,hst,setAt,hw2,hli];rw[←hR];refine⟨?_,by simp⟩;rw[wrap64 (by omega)];rcases hk with rfl|⟨rfl,h2,hc⟩
  ·simp[planE,planM,hlen,show rs.length<2 by omega]
  ·have e:saysM (cntB (rs.take 2)) 0 2=3:=by rw[hc];rfl
   simp[planE,planM,e,show ¬rs.length<2 by omega,show rs.length<4 by omega]
 ·have hli:¬((rs.length:Int)<((2*k+2:Nat):Int)):=by omega
  have hb1:(2*k).ble (2*k+2)=true:=Nat.ble_eq_true_of_le (by omega);have hb2:(2*k+2).ble rs.length=true:=Nat.ble_eq_true_of_le (by omega);obtain⟨sub,hsub⟩:∃sub,sub=(rs.drop (2*k)).take 2:=⟨_,rfl⟩;have hsl:sub.length=2:=by rw[hsub,Zv8,ZwB];omega
  have hse:List.drop (2*k) (List.take (2*k+2) (List.map PV.bool rs))=sub.map .bool:=by
   rw[hsub,List.drop_take,Nat.add_sub_cancel_left,List.map_take,List.map_drop]
  have hsc:=ZpB (l:=sub);simp[-getElem?_pos,-Int.natCast_add,-Int.natCast_mul,plS,hki,hst,setAt,hw2,hli,hb1,hb2,hse,hsl];refine Zae (fun m τ=>∃j:Nat,j≤2∧m=2-j∧τ=inS rs sub k j) ⟨2,inS rs sub k 0,Sub.mk (by simp[inS,cntB]) (by simp[inS]),0,Zwb _,rfl,rfl⟩ ?_;rintro J2 hJ2 m τ ⟨j,hj,rfl,rfl⟩;by_cases hj2:j<2
  ·obtain⟨x,hx⟩:∃x,sub[j]?=some x:=⟨sub[j],ZvZ (by omega)⟩;have hg:(rs.map PV.bool)[2*k+j]?=some (.bool x):=by
    rw[hsub,Zwi,if_pos hj2,Zwj]at hx;rw[Zv0,hx];rfl
   have hJn:=hJ2 (2-(j+1)) _ ⟨j+1,hj2,rfl,rfl⟩;unfold inS at hJn;rw[ZpA hx]at hJn;have hct:=ZpB (l:=sub.take j);have hcl:((sub.take j).length:Int)≤2:=by rw[Zv8];omega
   have hji:(j:Int)<2:=by omega
   have hwj:=wrapK (k:=j) (by omega);cases x with
   |false=>
    simp[-getElem?_pos,-List.getElem?_map,-Int.natCast_mul,inS,hji,hg,hwj,nblt,hj2];exact⟨_,_,(by omega:2-(j+1)<2-j),Sub.mk (by simp) (by simp),hJn⟩
   |true=>
    have hwb:IntKind.i64.wrap ((k:Int)+cntB (sub.take j)+1)=(k:Int)+(cntB (sub.take j)+1):=by rw[wrap64 (by omega)];omega
    simp[-getElem?_pos,-List.getElem?_map,-Int.natCast_mul,inS,hji,hg,hwj,hwb,nblt,hj2];exact⟨_,_,(by omega:2-(j+1)<2-j),Sub.mk (by simp) (by simp),hJn⟩
  ·have hje:j=2:=by omega
   subst hje;unfold inS;rw[Zv9 (by omega)];have hwk:=wrapK (k:=k) (by omega);simp[-getElem?_pos,-Int.natCast_add,-Int.natCast_mul,hw2];refine cG [.agg [.int .i64 2,.int .i64 (k:Int),.int .i64 2],.int .i64 ((k:Int)+cntB sub)] (Zu5 _ _ _ _) ?_;have hs2:(2:Int)*(k:Int)+2=((2*k+2:Nat):Int):=by omega
   by_cases hv:saysM ((k:Int)+cntB sub) (k:Int) 2=3
   ·have hk0:k=0∧cntB sub=1:=by
     unfold saysM at hv;split at hv
     ·omega
     ·split at hv<;>omega
    obtain⟨rfl,hc1⟩:=hk0;rw[hv];simp[-getElem?_pos,hc1];refine⟨_,_,by decide,Sub.mk ?_ ?_,hJ 1 _ ⟨1,.inr ⟨rfl,by omega,by rw[←hc1,hsub];rfl⟩,rfl,rfl⟩⟩
    ·simp[plS]
    ·simp[plS]
   ·have hrs:¬rs.length<2:=by omega
    have hP:planM rs=(if 2*k+2<rs.length then(0,0,2)else(saysM ((k:Int)+cntB sub) (k:Int) 2,0,0)):=by
     rcases hk with rfl|⟨rfl,h2,hc⟩
     ·have e1:((0:Nat):Int)+cntB sub=cntB (rs.take 2):=by rw[hsub];simp
      rw[e1]at hv ⊢;unfold planM;have hv':¬saysM (cntB (rs.take 2)) 0 2=3:=hv;rw[if_neg hrs,if_neg hv'];rfl
     ·have e1:((1:Nat):Int)+cntB sub=1+cntB ((rs.drop 2).take 2):=by rw[hsub];rfl
      have e:saysM (cntB (rs.take 2)) 0 2=3:=by rw[hc];rfl
      rw[e1];unfold planM;rw[if_neg hrs,if_pos e,if_neg (by omega)];rfl
    by_cases hm:2*k+2<rs.length
    ·have hmi:(2:Int)*(k:Int)+2<(rs.length:Int):=by omega
     rw[if_pos hm]at hP;simp[-getElem?_pos,hv,hmi];rw[←hR,hP];exact⟨rfl,by simp⟩
    ·have hmi:¬(2:Int)*(k:Int)+2<(rs.length:Int):=by omega
     rw[if_neg hm]at hP;simp[-getElem?_pos,hv,hmi];rw[←hR,hP];exact⟨rfl,by simp⟩
end
section
open Go.RowKit
set_option maxRecDepth 10000
attribute [local simp] AS.exp expG Box.ren AV.map AV.mapL Zaw noRet Site.isRet Box.allS AV.allS AV.allSL retB dropL AS.adds renL outG outOk Zau inG fnOf lookA Zww
attribute [local simp] Box.purge Site.isLoc
attribute [local simp] retFz frzL AS.frz AV.frz AV.frzL Box.frz AS.tidy AS.frzC frzsL retOk renB toLoc
structure Tt where
 lot:Int
 item:Int
 day:Int
 rd:Int
deriving DecidableEq
def Tt.pv (t:Tt):PV:=.agg [.int .i64 t.lot,.int .i64 t.item,.int .i64 t.day,.int .i64 t.rd]
def spP (S:Int→Int→Bool)(sp:List (Int×Int)):List (PV×PV):=sp.map fun p=>(.agg [.int .i64 p.1,.int .i64 p.2],.bool (S p.1 p.2))
theorem ZsI (a b c d:Int):eqK (.agg [.int .i64 a,.int .i64 b]) (.agg [.int .i64 c,.int .i64 d])=decide ((a,b)=(c,d)):=by
 rw[ZwD];simp[eqK,eqL,eqC,PV.cells]
theorem Zmr {S:Int→Int→Bool}{i d:Int}:∀{sp:List (Int×Int)},findV (.agg [.int .i64 i,.int .i64 d]) (spP S sp)=if(i,d)∈sp then some (.bool (S i d))else none
 |[]=>rfl
 |p::r=>by
  have ih:=Zmr (S:=S) (i:=i) (d:=d) (sp:=r);unfold spP at ih ⊢;rw[Zwd,findV,ZsI];by_cases h:(i,d)=p
  ·subst h;simp
  ·have:decide ((i,d)=(p.1,p.2))=false:=decide_eq_false h
   rw[this];simp only[ih,Zwg,h,false_or]
theorem Zoo {S:Int→Int→Bool}{i d:Int}:∀{sp:List (Int×Int)},(i,d)∉sp→putK (.agg [.int .i64 i,.int .i64 d]) (.bool (S i d)) (spP S sp)=spP S (sp++[(i,d)])
 |[],_=>rfl
 |p::r,h=>by
  have h1:(i,d)≠p:=fun e=>h (by simp[e])
  have ih:=Zoo (S:=S) (i:=i) (d:=d) (sp:=r) (fun e=>h (by simp[e]));have h2:decide ((i,d)=(p.1,p.2))=false:=decide_eq_false h1;unfold spP at ih ⊢;rw[Zwd,putK,ZsI,h2];simp only[ih];rfl
theorem Zt0 {S:Int→Int→Bool}{sp:List (Int×Int)}:ZbD ⟨true,[.int .i64,.int .i64]⟩ (spP S sp)=true:=by
 unfold ZbD spP;rw[Zwl];intro x hx;obtain⟨p,_,rfl⟩:=Zwc.1 hx;rfl
def verdM (S:Int→Int→Bool)(G:Tt→Bool)(num:Int):List Tt→List Bool→Int
 |[],_=>3
 |t::l,rs=>if t.lot=num∧S t.item t.day=true then(if(planM (rs++[!G t])).1=3 then verdM S G num l (rs++[!G t])else(planM (rs++[!G t])).1)else verdM S G num l rs
theorem Zi9 {S:Int→Int→Bool}{G:Tt→Bool}{num:Int}{rs:List Bool}:verdM S G num [] rs=3:=rfl
theorem Zcm {S:Int→Int→Bool}{G:Tt→Bool}{num:Int}{t:Tt}{l:List Tt}{rs:List Bool}:verdM S G num (t::l) rs=if t.lot=num∧S t.item t.day=true then(if(planM (rs++[!G t])).1=3 then verdM S G num l (rs++[!G t])else(planM (rs++[!G t])).1)else verdM S G num l rs:=rfl
def stM (l:List Ct)(bad:List Int)(i d:Int):Bool:=decide (((Zaj l bad).bestM i d).2=0)
def gdM (l:List Ct)(bad:List Int)(limit:Int)(t:Tt):Bool:=decide (limit≤t.rd+((Zaj l bad).spanM t.item t.day).1.lo)
def ttsP (l:List Tt):PV:=.lst false 4 (l.map Tt.pv)
def vdS (W:Box)(x:Lt)(S:Int→Int→Bool)(ts:List Tt)(rs:List Bool)(sp:List (Int×Int))(k:Nat):AS:=
 ⟨[(0,.ptr (.par 0) 0),(3,.ptr (.loc 3 0) 0),(5,.vec (.loc 61 0) 1 0 rs.length),(6,.fn 34 [.ptr (.par 0) 0] []),(7,.pv (.int .u8 3)),(8,.mp (.loc 16 0)),(21,.pv (.lst false 4 (ts.map Tt.pv))),(22,.pv (.int .i64 ts.length)),(23,.pv (.int .i64 (k:Int)))],
  [(.loc 3 0,.cells [.pv (.int .i64 x.num),.pv (.int .i64 x.pieces),.pv (.int .i64 x.limit),.pv (.bool x.passed)]),(.loc 16 0,.map (spP S sp)),(.loc 61 0,.arr 4 1 (rs.map .bool)),(.par 0,W)]⟩
theorem Zet (l:List Ct)(bad:List Int)(ls:PV)(ts:List Tt)(rn:PV)(x:Lt)(hl:l.length≤1000)(hb:bad.length≤1000)(ht:ts.length≤900)(h4:4≤x.pieces)(h30:x.pieces≤30)
  (hfit:∀t∈ts,IntKind.i64.wrap (t.rd+((Zaj l bad).spanM t.item t.day).1.lo)=t.rd+((Zaj l bad).spanM t.item t.day).1.lo):
  Zak Tryz.prog 93 [.ptr (.par 0) 0,.pv x.pv] [(.par 0,wkX (ctsP l) (.lst false 1 (bad.map iP)) ls (ttsP ts) rn)] (fun r B=>r=.pv (.int .u8 (verdM (stM l bad) (gdM l bad x.limit) x.num ts []))∧B=[(.par 0,wkX (ctsP l) (.lst false 1 (bad.map iP)) ls (ttsP ts) rn)]):=by
 refine cBR [.par 0] L93 ?_;intro R hR;obtain⟨V,hV⟩:∃V,V=verdM (stM l bad) (gdM l bad x.limit) x.num ts []:=⟨_,rfl⟩;rw[←hV]at hR;simp[-getElem?_pos,L93,wkX,Lt.pv,ttsP];refine Zae (fun m τ=>∃(k:Nat) (rs:List Bool) (sp:List (Int×Int)),k≤ts.length∧m=ts.length-k∧rs.length≤k∧τ=vdS (wkX (ctsP l) (.lst false 1 (bad.map iP)) ls (ttsP ts) rn) x (stM l bad) ts rs sp k∧verdM (stM l bad) (gdM l bad x.limit) x.num (ts.drop k) rs=V)
  ⟨ts.length,vdS (wkX (ctsP l) (.lst false 1 (bad.map iP)) ls (ttsP ts) rn) x (stM l bad) ts [] [] 0,Sub.trans' (Sub.mk (by simp[vdS,AS.vecT]) (by simp[vdS,AS.vecT,wkX,ttsP,spP])) (vecT 61 4 1 5 rfl (by decide)),0,[],[],Zwb _,rfl,Zv5 _,rfl,hV.symm⟩ ?_
 rintro J hJ m τ ⟨k,rs,sp,hk,rfl,hrl,rfl,hv⟩;by_cases hlt:k<ts.length
 ·obtain⟨t,hx⟩:∃t,ts[k]?=some t:=⟨ts[k],ZvZ hlt⟩;have hmem:t∈ts:=Zv3 hx;have hg:(ts.map Tt.pv)[k]?=some t.pv:=by rw[Zv0,hx];rfl
  simp only[Tt.pv]at hg;have hd:ts.drop k=t::ts.drop (k+1):=by
   rw[ZwZ hlt];congr 1;rw[ZvZ hlt]at hx;exact Option.some.inj hx
  rw[hd]at hv;rw[Zcm]at hv;have hw:=wrapK (k:=k) (by omega);have hmeas:ts.length-(k+1)<ts.length-k:=by omega
  have hnext:∀rs' sp',rs'.length≤k+1→verdM (stM l bad) (gdM l bad x.limit) x.num (ts.drop (k+1)) rs'=V→J (ts.length-(k+1)) (vdS (wkX (ctsP l) (.lst false 1 (bad.map iP)) ls (ttsP ts) rn) x (stM l bad) ts rs' sp' (k+1)):=fun rs' sp' h1 h2=>hJ _ _ ⟨k+1,rs',sp',hlt,rfl,h1,rfl,h2⟩
  clear hJ;by_cases hlo:t.lot=x.num
  ·have hf:=Zmr (S:=stM l bad) (i:=t.item) (d:=t.day) (sp:=sp);have hkey:=Zt0 (S:=stM l bad) (sp:=sp);have hp:=fun h=>Zoo (S:=stM l bad) (i:=t.item) (d:=t.day) (sp:=sp) h
   by_cases hin:(t.item,t.day)∈sp
   ·rw[if_pos hin]at hf;cases hs:stM l bad t.item t.day with
    |false=>
     rw[if_neg (by simp[hs])]at hv;rw[hs]at hf;have hn:=hnext rs sp (by omega) hv;simp[-getElem?_pos,-List.getElem?_map,vdS,wkX,hlt,hg,nblt,nble,setAt,hlo,hw,hf,hkey];exact⟨_,_,hmeas,Sub.mk (by simp[vdS]) (by simp[vdS,wkX]),hn⟩
    |true=>
     rw[hs]at hf;simp[-getElem?_pos,-List.getElem?_map,vdS,wkX,hlt,hg,nblt,nble,setAt,hlo,hw,hf,hkey];have hgc:=ZsF l bad ls (ttsP ts) rn hl hb x.num t.item t.day t.rd x.limit (hfit t hmem);refine cM [.ptr (.par 0) 0,.pv (.agg [.int .i64 x.num,.int .i64 t.item,.int .i64 t.day,.int .i64 t.rd]),.pv (.int .i64 x.limit)] [(.par 0,(wkX (ctsP l) (.lst false 1 (bad.map iP)) ls (ttsP ts) rn))] 58 [.par 0] (by simp[wkX]) hgc (by simp[wkX]) ?_;rw[if_pos ⟨hlo,hs⟩]at hv;have hgd:decide (x.limit≤t.rd+((Zaj l bad).spanM t.item t.day).1.lo)=gdM l bad x.limit t:=rfl;rw[hgd];clear hgd hgc;have h1:rs.length+1≤1000000:=by omega
     generalize gdM l bad x.limit t=gv at hv ⊢;simp[-getElem?_pos,wkX,h1,nble];refine .inl (cQ [] [x.pv] (Zjw x.num x.pieces x.limit x.passed) ?_);simp[-getElem?_pos];refine Zac (as':=[.pv (planP x.pieces),.vec (.par 0) 1 0 (rs++[!gv]).length]) (B:=[(.par 0,.arr 4 1 ((rs++[!gv]).map .bool))]) (fs:=[]) (cs:=[]) 66 [.loc 61 0] ?_ rfl rfl ?_ ?_ ?_ (Zil x.pieces h4 h30 (rs++[!gv]) (by simp;omega)) ?_
     ·first|rfl|simp
     ·first|rfl|simp
     ·first|rfl|simp
     ·first|rfl|simp
     rintro r0 B0 ⟨rfl,rfl⟩;refine⟨rfl,by simp,?_⟩;have hn:=hnext (rs++[!gv]) sp (by simp;omega);generalize planM (rs++[!gv])=pm at hv ⊢;obtain⟨v,mo,er⟩:=pm;by_cases h3:v=3
     ·subst h3;have hn:=hn hv;simp[-getElem?_pos,planE,hw];exact⟨_,_,hmeas,Sub.mk (by simp[vdS]) (by simp[vdS,wkX]),hn⟩
     ·rw[if_neg h3]at hv;simp[-getElem?_pos,planE,h3];rw[←hR,←hv];exact⟨rfl,by simp[wkX]⟩
   ·rw[if_neg hin]at hf;have hpn:=hp hin;have hsc:=Zew l bad ls (ttsP ts) rn hl hb x.num t.item t.day t.rd;simp[-getElem?_pos,-List.getElem?_map,vdS,wkX,hlt,hg,nblt,nble,setAt,hlo,hw,hf,hkey];refine Zac (as':=[.ptr (.par 0) 0,.pv (.agg [.int .i64 x.num,.int .i64 t.item,.int .i64 t.day,.int .i64 t.rd])]) (B:=[(.par 0,(wkX (ctsP l) (.lst false 1 (bad.map iP)) ls (ttsP ts) rn))]) (fs:=[.ptr (.par 0) 0]) (cs:=[]) 47 [.par 0] ?_ rfl rfl ?_ ?_ ?_ hsc ?_
    ·rfl
    ·simp[wkX]
    ·rfl
    ·rfl
    rintro r0 B0 ⟨rfl,rfl⟩;refine⟨rfl,by simp[wkX],?_⟩;have hst:decide (((Zaj l bad).bestM t.item t.day).2=0)=stM l bad t.item t.day:=rfl;rw[hst];cases hs:stM l bad t.item t.day with
    |false=>
     rw[if_neg (by simp[hs])]at hv;rw[hs]at hpn;have hn:=hnext rs (sp++[(t.item,t.day)]) (by omega) hv;simp[-getElem?_pos,wkX,hkey,hpn,hw];exact⟨_,_,hmeas,Sub.mk (by simp[vdS]) (by simp[vdS,wkX]),hn⟩
    |true=>
     rw[hs]at hpn;simp[-getElem?_pos,wkX,hkey,hpn,hw];have hgc:=ZsF l bad ls (ttsP ts) rn hl hb x.num t.item t.day t.rd x.limit (hfit t hmem);refine cM [.ptr (.par 0) 0,.pv (.agg [.int .i64 x.num,.int .i64 t.item,.int .i64 t.day,.int .i64 t.rd]),.pv (.int .i64 x.limit)] [(.par 0,(wkX (ctsP l) (.lst false 1 (bad.map iP)) ls (ttsP ts) rn))] 58 [.par 0] (by simp[wkX]) hgc (by simp[wkX]) ?_;rw[if_pos ⟨hlo,hs⟩]at hv;have hgd:decide (x.limit≤t.rd+((Zaj l bad).spanM t.item t.day).1.lo)=gdM l bad x.limit t:=rfl;rw[hgd];clear hgd hgc;have h1:rs.length+1≤1000000:=by omega
     generalize gdM l bad x.limit t=gv at hv ⊢;simp[-getElem?_pos,wkX,h1,nble];refine .inl (cQ [] [x.pv] (Zjw x.num x.pieces x.limit x.passed) ?_);simp[-getElem?_pos];refine Zac (as':=[.pv (planP x.pieces),.vec (.par 0) 1 0 (rs++[!gv]).length]) (B:=[(.par 0,.arr 4 1 ((rs++[!gv]).map .bool))]) (fs:=[]) (cs:=[]) 66 [.loc 61 0] ?_ rfl rfl ?_ ?_ ?_ (Zil x.pieces h4 h30 (rs++[!gv]) (by simp;omega)) ?_
     ·first|rfl|simp
     ·first|rfl|simp
     ·first|rfl|simp
     ·first|rfl|simp
     rintro r0 B0 ⟨rfl,rfl⟩;refine⟨rfl,by simp,?_⟩;have hn:=hnext (rs++[!gv]) (sp++[(t.item,t.day)]) (by simp;omega);generalize planM (rs++[!gv])=pm at hv ⊢;obtain⟨v,mo,er⟩:=pm;by_cases h3:v=3
     ·subst h3;have hn:=hn hv;simp[-getElem?_pos,planE,hw];exact⟨_,_,hmeas,Sub.mk (by simp[vdS]) (by simp[vdS,wkX]),hn⟩
     ·rw[if_neg h3]at hv;simp[-getElem?_pos,planE,h3];rw[←hR,←hv];exact⟨rfl,by simp[wkX]⟩
  ·rw[if_neg (fun h=>hlo h.1)]at hv;have hn:=hnext rs sp (by omega) hv;simp[-getElem?_pos,-List.getElem?_map,vdS,wkX,hlt,hg,nblt,nble,setAt,hlo,hw];exact⟨_,_,hmeas,Sub.mk (by simp[vdS]) (by simp[vdS,wkX]),hn⟩
 ·have he:k=ts.length:=by omega
  subst he;rw[List.drop_eq_nil_of_le (Zv5 _)]at hv;rw[Zi9]at hv;simp[-getElem?_pos,vdS,wkX];rw[←hR,hv];exact⟨rfl,by simp[wkX]⟩
end
section
open Go.RowKit
set_option maxRecDepth 10000
attribute [local simp] AS.exp expG Box.ren AV.map AV.mapL Zaw noRet Site.isRet Box.allS AV.allS AV.allSL retB dropL AS.adds renL outG outOk Zau inG fnOf lookA Zww
attribute [local simp] Box.purge Site.isLoc
attribute [local simp] frzsL retOk renB toLoc
theorem ZiE {x:Int}:∀{l:List Int},l.Pairwise (·<·)→x∈l→l[lowB l x]?=some x
 |y::r,hs,h=>by
  obtain⟨h1,h2⟩:=List.pairwise_cons.1 hs;unfold lowB;rw[ZwJ];by_cases hy:y<x
  ·rw[if_pos (by simpa using hy)];have hm:x∈r:=by
    rcases Zwg.1 h with rfl|h
    ·omega
    ·exact h
   exact ZiE h2 hm
  ·rw[if_neg (by simpa using hy)];have hx:x=y:=by
    rcases Zwg.1 h with rfl|h
    ·rfl
    ·have:=h1 x h;omega
   subst hx;have hf:r.filter (fun y=>decide (y<x))=[]:=by
    rw[List.filter_eq_nil_iff];intro z hz
    have:=h1 z hz
    simp;omega
   rw[hf];rfl
theorem panW {E:Int→Prop}{n:Int}{τ:AS}{a b c d e:PV}(h1:E n)(h2:τ.b (.par 0)=some (wkX a b c d e)):panF (noR E) (errP n) τ:=by
 refine⟨[.par 0],rfl,fun s hs b hb=>?_,n,rfl,h1,a,b,c,d,e,?_⟩
 ·cases Zwo.1 hs;rw[h2]at hb;cases hb;rfl
 ·unfold AS.exp;rw[h2];rfl
theorem retW (fz:List Site){Q:PV→PV→PV→PV→PV→Prop}{τ:AS}{a b c d e:PV}(h2:(frzL fz τ).b (.par 0)=some (wkX a b c d e))(hq:Q a b c d e):retWp [] (okR Q) τ:=by
 refine⟨fz,[.par 0],[],rfl,rfl,rfl,fun s hs b hb=>?_,rfl,a,b,c,d,e,?_,hq⟩
 ·cases Zwo.1 hs;rw[h2]at hb;cases hb;rfl
 ·unfold AS.exp;rw[h2];rfl
def lotsP (l:List Lt):PV:=.lst false 4 (l.map Lt.pv)
def bdsP (l:List Int):PV:=.lst false 1 (l.map iP)
def passM (v:Lt→Int)(ls:List Lt)(n:Int):Except Int (List Lt):=
 match ls[lowB (ls.map Lt.num) n]? with
 |some x=>if x.num=n then(if x.passed=true then .error 6 else if v x=3 then .error 8 else if v x=1 then .ok (ls.set (lowB (ls.map Lt.num) n) { x with passed:=true })else .error 11)else .error 7
 |none=>.error 7
def wkQ (r:Except Int (List Lt))(l:List Ct)(bad:List Int)(ts:List Tt)(rn:PV)(a b c d e:PV):Prop:=∃ls',r=.ok ls'∧a=ctsP l∧b=bdsP bad∧c=lotsP ls'∧d=ttsP ts∧e=rn
def spFit (l:List Ct)(bad:List Int)(ts:List Tt):Prop:=∀t∈ts,IntKind.i64.wrap (t.rd+((Zaj l bad).spanM t.item t.day).1.lo)=t.rd+((Zaj l bad).spanM t.item t.day).1.lo
def ltOk (x:Lt):Prop:=1≤x.num∧x.num≤99∧4≤x.pieces∧x.pieces≤30
def verdL (l:List Ct)(bad:List Int)(ts:List Tt)(x:Lt):Int:=verdM (stM l bad) (gdM l bad x.limit) x.num ts []
theorem Zva (l:List Ct)(bad:List Int)(ls:List Lt)(ts:List Tt)(rn:PV)(n:Int)(hn:-1000000000<n∧n<1000000000)(hl:l.length≤1000)(hb:bad.length≤1000)(hll:ls.length≤900)(ht:ts.length≤900)(hs:(ls.map Lt.num).Pairwise (·<·))(hok:∀x∈ls,ltOk x)(hfit:spFit l bad ts):
  Za7 Tryz.prog 191 [.ptr (.par 0) 0,.pv (.lst false 1 [iP n])] [(.par 0,wkX (ctsP l) (bdsP bad) (lotsP ls) (ttsP ts) rn)] (okR (wkQ (passM (verdL l bad ts) ls n) l bad ts rn)) (noR (fun e=>passM (verdL l bad ts) ls n=.error e)):=by
 have hfc:=Zph ls n (ctsP l) (bdsP bad) (ttsP ts) rn hs (by omega) (fun y hy=>by obtain⟨h1,h2,_⟩:=hok y hy;exact wrap64 (by omega));refine cX L191 ?_;generalize hE:(fun e=>passM (verdL l bad ts) ls n=.error e)=E;generalize hQ:wkQ (passM (verdL l bad ts) ls n) l bad ts rn=Q;show awpX _ (.seq _ (.seq _ (.seq _ (.seq _ (.seq _ (.seq _ (.seq _ _))))))) _ _ _;refine Zao ?_;simp[-getElem?_pos,hold,wkX,lotsP];refine cM [.ptr (.par 0) 0,.pv (.int .i64 n)] [(.par 0,wkX (ctsP l) (bdsP bad) (lotsP ls) (ttsP ts) rn)] 12 [.par 0] (by simp[wkX,lotsP]) hfc (by simp[wkX]) ?_;simp[-getElem?_pos,-List.mem_map,hold,wkX];by_cases hm:n∈ls.map Lt.num
 ·have hlo:=ZiE hs hm;rw[Zv0]at hlo;obtain⟨x,hx,hxn⟩:=Zv4.1 hlo;unfold passM at hE hQ;rw[hx]at hE hQ;dsimp only at hE hQ;rw[if_pos hxn]at hE hQ;generalize hi:lowB (ls.map Lt.num) n=i at hx hQ ⊢;refine Zao ?_;simp[-getElem?_pos,-List.mem_map,hold,hm];refine cG [.bool true,.int .i64 7] (ask_t 7) ?_;simp[-getElem?_pos,hold];have hil:i<ls.length:=(Zv1.1 hx).1;have hgx:(ls.map Lt.pv)[i]?=some x.pv:=by rw[Zv0,hx];rfl
  simp only[Lt.pv]at hgx;have hvc:=Zet l bad (lotsP ls) ts rn x hl hb ht (hok x (Zv3 hx)).2.2.1 (hok x (Zv3 hx)).2.2.2 hfit;cases hps:x.passed with
  |true=>
   rw[hps]at hE hgx;have hE6:E 6:=by rw[←hE];rfl
   refine Zaq [_,_,_,_,_,_,_,_,_,_] ?_;simp[-getElem?_pos,-List.getElem?_map,hold,hil,hgx,nblt,nble];exact Zas (d:=99) [] (xs:=[.bool false,.int .i64 6]) (cs:=[]) rfl rfl (ask_f 6) rfl (fun x hx=>by rw[hx.1];exact panW hE6 rfl) (fun x B hx=>hx.2)
  |false=>
  rw[hps]at hE hQ hgx;rw[if_neg (by simp)]at hE hQ;refine Zao ?_;simp[-getElem?_pos,-List.getElem?_map,hold,hil,hgx,nblt,nble];refine cG [.bool true,.int .i64 6] (ask_t 6) ?_;simp[-getElem?_pos,hold];refine Zao ?_;simp[-getElem?_pos,-List.getElem?_map,hold,hil,hgx,nblt,nble];refine cM [.ptr (.par 0) 0,.pv (.agg [.int .i64 x.num,.int .i64 x.pieces,.int .i64 x.limit,.bool false])] [(.par 0,(wkX (ctsP l) (bdsP bad) (lotsP ls) (ttsP ts) rn))] 37 [.par 0] (by simp[wkX,lotsP]) (by rw[Lt.pv,hps]at hvc;exact hvc) (by simp[wkX]) ?_;have hvd:verdM (stM l bad) (gdM l bad x.limit) x.num ts []=verdL l bad ts x:=rfl;rw[hvd];clear hvd hvc hfc;generalize verdL l bad ts x=v at hE hQ ⊢;simp[-getElem?_pos,hold,wkX];by_cases h3:v=3
  ·rw[if_pos h3]at hE;have hE8:E 8:=by rw[←hE]
   refine Zaq [_,_] ?_;simp[-getElem?_pos,hold,h3];exact Zas (d:=99) [] (xs:=[.bool false,.int .i64 8]) (cs:=[]) rfl rfl (ask_f 8) rfl (fun x hx=>by rw[hx.1];exact panW hE8 rfl) (fun x B hx=>hx.2)
  rw[if_neg h3]at hE hQ;refine Zao ?_;simp[-getElem?_pos,hold,h3];refine cG [.bool true,.int .i64 8] (ask_t 8) ?_;simp[-getElem?_pos,hold];by_cases h1:¬v=1
  ·rw[if_neg h1]at hE;have hE11:E 11:=by rw[←hE]
   refine Zaq [_,_] ?_;simp[-getElem?_pos,hold,h1];exact Zas (d:=99) [] (xs:=[.bool false,.int .i64 11]) (cs:=[]) rfl rfl (ask_f 11) rfl (fun x hx=>by rw[hx.1];exact panW hE11 rfl) (fun x B hx=>hx.2)
  have h1:v=1:=Decidable.not_not.1 h1;rw[if_pos h1]at hQ;refine Zao ?_;simp[-getElem?_pos,hold,h1];refine cG [.bool true,.int .i64 11] (ask_t 11) ?_;simp[-getElem?_pos,hold];refine Zao ?_;simp[-getElem?_pos,hold,lotsP];refine .inl (Zbh [] (fs:=[]) (xs:=[.lst false 4 (ls.map Lt.pv)]) (cs:=[]) (d:=50) rfl rfl (ZhR (ls.map Lt.pv) (by rw[Zv6];omega)) ?_);rintro r B (⟨h,rfl,rfl⟩|⟨rfl,rfl⟩)
  ·rw[List.map_eq_nil_iff.1 h]at hil;exact absurd hil (Nat.not_lt_zero _)
  refine⟨by simp,?_⟩;simp[-getElem?_pos,hold];refine Zb1 ?_;simp[-getElem?_pos,-List.getElem?_map,hold,hil,hgx,nblt,nble,setAt];have hset:(ls.map Lt.pv).set i (.agg [.int .i64 x.num,.int .i64 x.pieces,.int .i64 x.limit,.bool true])=(ls.set i { x with passed:=true }).map Lt.pv:=by rw[List.map_set];rfl
  rw[hset];have htk:List.take ls.length ((ls.set i { x with passed:=true }).map Lt.pv)=(ls.set i { x with passed:=true }).map Lt.pv:=Zv9 (by simp);refine retW (a:=ctsP l) (b:=bdsP bad) (c:=lotsP (ls.set i { x with passed:=true })) (d:=ttsP ts) (e:=rn) [.loc 50 0] ?_ ?_
  ·simp[-List.map_set,frzL,AS.frz,AV.frz,AV.frzL,Box.frz,AS.tidy,AS.frzC,wkX,lotsP,bdsP,htk]
  ·rw[←hQ];exact⟨_,rfl,rfl,rfl,rfl,rfl,rfl⟩
 ·have hE7:E 7:=by
   rw[←hE];unfold passM;split
   ·rename_i x hx;have hne:¬x.num=n:=fun h=>hm (by rw[←h];exact List.mem_map_of_mem (Zv3 hx))
    rw[if_neg hne]
   ·rfl
  refine Zaq [_] ?_;simp[-getElem?_pos,-List.mem_map,hold,hm];exact Zas (d:=99) [] (xs:=[.bool false,.int .i64 7]) (cs:=[]) rfl rfl (ask_f 7) rfl (fun x hx=>by rw[hx.1];exact panW hE7 rfl) (fun x B hx=>hx.2)
def manyT (ts:List Tt)(n:Int):Nat:=(ts.filter fun t=>decide (t.lot=n)).length
theorem Zhx {ts:List Tt}{n:Int}{k:Nat}{t:Tt}(h:ts[k]?=some t):manyT (ts.take (k+1)) n=manyT (ts.take k) n+(if t.lot=n then 1 else 0):=by
 unfold manyT;rw[Zwf,h,ZwM,Zv7];congr 1;simp only[Option.toList,ZwJ,List.filter_nil];by_cases ht:t.lot=n<;>simp[ht]
theorem Zl7 {ts:List Tt}{n:Int}:manyT ts n≤ts.length:=ZwN _ _
def testM (S:Int→Int→Bool)(v:Lt→Int)(ls:List Lt)(ts:List Tt)(q:Tt):Except Int (List Tt):=
 if(decide (2≤q.item)&&decide (q.item≤5))=true∧(decide (0≤q.day)&&decide (q.day≤1000))=true∧(decide (0≤q.rd)&&decide (q.rd≤2000))=true then
  (match ls[lowB (ls.map Lt.num) q.lot]? with
  |some x=>if x.num=q.lot then(if x.passed=true then .error 8 else if v x=3 then(if(manyT ts q.lot:Int)<x.pieces then(if S q.item q.day=true then .ok (ts++[q])else .error 10)else .error 3)else .error 8)else .error 7
  |none=>.error 7)
 else .error 2
def tsQ (r:Except Int (List Tt))(l:List Ct)(bad:List Int)(ls:List Lt)(rn:PV)(a b c d e:PV):Prop:=∃ts',r=.ok ts'∧a=ctsP l∧b=bdsP bad∧c=lotsP ls∧d=ttsP ts'∧e=rn
def tsS (W:Box)(x:Lt)(q:Tt)(ts:List Tt)(k:Nat):AS:=
 ⟨[(0,.ptr (.par 0) 0),(1,.pv (.lst false 1 [.int .i64 q.lot,.int .i64 q.item,.int .i64 q.day,.int .i64 q.rd])),(6,.ptr (.loc 6 0) 0),(7,.pv (.int .i64 ((manyT (ts.take k) q.lot:Nat):Int))),(60,.pv (.lst false 4 (ts.map Tt.pv))),(61,.pv (.int .i64 ts.length)),(62,.pv (.int .i64 (k:Int)))],
  [(.loc 6 0,.cells [.pv (.int .i64 x.num),.pv (.int .i64 x.pieces),.pv (.int .i64 x.limit),.pv (.bool false)]),(.par 0,W)]⟩
theorem Zu0 (l:List Ct)(bad:List Int)(ls:List Lt)(ts:List Tt)(rn:PV)(q:Tt)(hn:-1000000000<q.lot∧q.lot<1000000000)(hl:l.length≤1000)(hb:bad.length≤1000)(hll:ls.length≤900)(ht:ts.length≤900)(hs:(ls.map Lt.num).Pairwise (·<·))(hok:∀x∈ls,ltOk x)(hfit:spFit l bad ts):
  Za7 Tryz.prog 190 [.ptr (.par 0) 0,.pv (.lst false 1 [iP q.lot,iP q.item,iP q.day,iP q.rd])] [(.par 0,wkX (ctsP l) (bdsP bad) (lotsP ls) (ttsP ts) rn)] (okR (tsQ (testM (stM l bad) (verdL l bad ts) ls ts q) l bad ls rn)) (noR (fun e=>testM (stM l bad) (verdL l bad ts) ls ts q=.error e)):=by
 have hfc:=Zph ls q.lot (ctsP l) (bdsP bad) (ttsP ts) rn hs (by omega) (fun y hy=>by obtain⟨h1,h2,_⟩:=hok y hy;exact wrap64 (by omega));have w1:=ZbQ q.item 2 5;have w2:=ZbQ q.day 0 1000;have w3:=ZbQ q.rd 0 2000;refine cX L190 ?_;generalize hE:(fun e=>testM (stM l bad) (verdL l bad ts) ls ts q=.error e)=E;generalize hQ:tsQ (testM (stM l bad) (verdL l bad ts) ls ts q) l bad ls rn=Q;unfold testM at hE hQ;generalize(decide (2≤q.item)&&decide (q.item≤5))=c1 at w1 hE hQ;generalize(decide (0≤q.day)&&decide (q.day≤1000))=c2 at w2 hE hQ;generalize(decide (0≤q.rd)&&decide (q.rd≤2000))=c3 at w3 hE hQ;show awpX _ (.seq _ (.seq _ (.seq _ _))) _ _ _;by_cases hc:¬(c1=true∧c2=true∧c3=true)
 ·have hE2:E 2:=by rw[←hE,if_neg hc]
  refine Zaq [_,_,_,_,_,_,_,_,_,_,_,_,_,_,_,_] ?_;simp[-getElem?_pos,hold,iP];refine cG [.int .i64 q.item,.int .i64 2,.int .i64 5] w1 ?_;cases c1 with
  |false=>
   simp[-getElem?_pos,hold];exact Zas (d:=99) [] (xs:=[.bool false,.int .i64 2]) (cs:=[]) rfl rfl (ask_f 2) rfl (fun x hx=>by rw[hx.1];exact panW hE2 rfl) (fun x B hx=>hx.2)
  |true=>
  simp[-getElem?_pos,hold];refine cG [.int .i64 q.day,.int .i64 0,.int .i64 1000] w2 ?_;cases c2 with
  |false=>
   simp[-getElem?_pos,hold];exact Zas (d:=99) [] (xs:=[.bool false,.int .i64 2]) (cs:=[]) rfl rfl (ask_f 2) rfl (fun x hx=>by rw[hx.1];exact panW hE2 rfl) (fun x B hx=>hx.2)
  |true=>
  simp[-getElem?_pos,hold];refine cG [.int .i64 q.rd,.int .i64 0,.int .i64 2000] w3 ?_;cases c3 with
  |false=>
   simp[-getElem?_pos,hold];exact Zas (d:=99) [] (xs:=[.bool false,.int .i64 2]) (cs:=[]) rfl rfl (ask_f 2) rfl (fun x hx=>by rw[hx.1];exact panW hE2 rfl) (fun x B hx=>hx.2)
  |true=>exact absurd ⟨rfl,rfl,rfl⟩ hc
 have hc:=Decidable.not_not.1 hc;rw[if_pos hc]at hE hQ;obtain⟨rfl,rfl,rfl⟩:=hc;refine Zao ?_;simp[-getElem?_pos,hold,iP];refine cG [.int .i64 q.item,.int .i64 2,.int .i64 5] w1 ?_;simp[-getElem?_pos,hold];refine cG [.int .i64 q.day,.int .i64 0,.int .i64 1000] w2 ?_;simp[-getElem?_pos,hold];refine cG [.int .i64 q.rd,.int .i64 0,.int .i64 2000] w3 ?_;simp[-getElem?_pos,hold];refine cG [.bool true,.int .i64 2] (ask_t 2) ?_;simp[-getElem?_pos,hold];refine Zao ?_;simp[-getElem?_pos,hold,wkX,lotsP];refine cM [.ptr (.par 0) 0,.pv (.int .i64 q.lot)] [(.par 0,wkX (ctsP l) (bdsP bad) (lotsP ls) (ttsP ts) rn)] 33 [.par 0] (by simp[wkX,lotsP]) hfc (by simp[wkX]) ?_;simp[-getElem?_pos,-List.mem_map,hold,wkX];by_cases hm:¬q.lot∈ls.map Lt.num
 ·have hE7:E 7:=by
   rw[←hE];split
   ·rename_i x hx;have hne:¬x.num=q.lot:=fun h=>hm (by rw[←h];exact List.mem_map_of_mem (Zv3 hx))
    rw[if_neg hne]
   ·rfl
  refine Zaq [_] ?_;simp[-getElem?_pos,-List.mem_map,hold,hm];exact Zas (d:=99) [] (xs:=[.bool false,.int .i64 7]) (cs:=[]) rfl rfl (ask_f 7) rfl (fun x hx=>by rw[hx.1];exact panW hE7 rfl) (fun x B hx=>hx.2)
 have hm:=Decidable.not_not.1 hm;have hlo:=ZiE hs hm;rw[Zv0]at hlo;obtain⟨x,hx,hxn⟩:=Zv4.1 hlo;rw[hx]at hE hQ;dsimp only at hE hQ;rw[if_pos hxn]at hE hQ;generalize hi:lowB (ls.map Lt.num) q.lot=i at hx hQ ⊢;have hil:i<ls.length:=(Zv1.1 hx).1;have hgx:(ls.map Lt.pv)[i]?=some x.pv:=by rw[Zv0,hx];rfl
 simp only[Lt.pv]at hgx;have hvc:=Zet l bad (lotsP ls) ts rn x hl hb ht (hok x (Zv3 hx)).2.2.1 (hok x (Zv3 hx)).2.2.2 hfit;refine Zao ?_;simp[-getElem?_pos,-List.mem_map,hold,hm];refine cG [.bool true,.int .i64 7] (ask_t 7) ?_;simp[-getElem?_pos,hold];refine Zao ?_;simp[-getElem?_pos,-List.getElem?_map,hold,hil,hgx,nblt,nble,setAt];have pan8:∀τ:AS,E 8→τ.b (.par 0)=some (wkX (ctsP l) (bdsP bad) (lotsP ls) (ttsP ts) rn)→panF (noR E) (errP 8) τ:=fun τ h1 h2=>panW h1 h2
 cases hps:x.passed with
 |true=>
  rw[hps]at hE;have hE8:E 8:=by rw[←hE];rfl
  refine Zaq [_,_,_,_,_,_,_,_,_] ?_;simp[-getElem?_pos,hold];exact Zas (d:=99) [] (xs:=[.bool false,.int .i64 8]) (cs:=[]) rfl rfl (ask_f 8) rfl (fun x hx=>by rw[hx.1];exact panW hE8 rfl) (fun x B hx=>hx.2)
 |false=>
 rw[hps]at hE hQ;rw[if_neg (by simp)]at hE hQ;have hvd:verdM (stM l bad) (gdM l bad x.limit) x.num ts []=verdL l bad ts x:=rfl;rw[hvd]at hvc;clear hvd hfc;generalize verdL l bad ts x=v at hE hQ hvc;rw[Lt.pv,hps]at hvc;by_cases h3:¬v=3
 ·rw[if_neg h3]at hE;have hE8:E 8:=by rw[←hE]
  refine Zaq [_,_,_,_,_,_,_,_,_] ?_;simp[-getElem?_pos,hold];refine cM [.ptr (.par 0) 0,.pv (.agg [.int .i64 x.num,.int .i64 x.pieces,.int .i64 x.limit,.bool false])] [(.par 0,(wkX (ctsP l) (bdsP bad) (lotsP ls) (ttsP ts) rn))] 52 [.par 0] (by simp[wkX,lotsP]) hvc (by simp[wkX]) ?_;simp[-getElem?_pos,hold,wkX,h3];exact Zas (d:=99) [] (xs:=[.bool false,.int .i64 8]) (cs:=[]) rfl rfl (ask_f 8) rfl (fun x hx=>by rw[hx.1];exact panW hE8 rfl) (fun x B hx=>hx.2)
 have h3:=Decidable.not_not.1 h3;rw[if_pos h3]at hE hQ;refine Zao ?_;simp[-getElem?_pos,hold];refine cM [.ptr (.par 0) 0,.pv (.agg [.int .i64 x.num,.int .i64 x.pieces,.int .i64 x.limit,.bool false])] [(.par 0,(wkX (ctsP l) (bdsP bad) (lotsP ls) (ttsP ts) rn))] 52 [.par 0] (by simp[wkX,lotsP]) hvc (by simp[wkX]) ?_;simp[-getElem?_pos,hold,wkX,h3];refine cG [.bool true,.int .i64 8] (ask_t 8) ?_;simp[-getElem?_pos,hold];refine Zao ?_;simp[-getElem?_pos,hold];refine Zao ?_;simp[-getElem?_pos,hold,ttsP];refine Zae (fun m τ=>∃k:Nat,k≤ts.length∧m=ts.length-k∧τ=tsS (wkX (ctsP l) (bdsP bad) (lotsP ls) (ttsP ts) rn) x q ts k) ⟨ts.length,tsS (wkX (ctsP l) (bdsP bad) (lotsP ls) (ttsP ts) rn) x q ts 0,Sub.mk (by simp[tsS,manyT]) (by simp[tsS,wkX,bdsP,lotsP,ttsP]),0,Zwb _,rfl,rfl⟩ ?_;rintro J hJ m τ ⟨k,hk,rfl,rfl⟩;by_cases hlt:k<ts.length
 ·obtain⟨t,hxt⟩:∃t,ts[k]?=some t:=⟨ts[k],ZvZ hlt⟩;have hg:(ts.map Tt.pv)[k]?=some t.pv:=by rw[Zv0,hxt];rfl
  simp only[Tt.pv]at hg;have hw:=wrapK (k:=k) (by omega);have hm1:=Zl7 (ts:=ts.take k) (n:=q.lot);rw[Zv8]at hm1;have hw2:=wrapK (k:=manyT (ts.take k) q.lot) (by omega);have hmeas:ts.length-(k+1)<ts.length-k:=by omega
  have hn:=hJ (ts.length-(k+1)) _ ⟨k+1,hlt,rfl,rfl⟩;unfold tsS at hn;rw[Zhx hxt]at hn;by_cases htl:t.lot=q.lot
  ·rw[if_pos htl]at hn;simp[-getElem?_pos,-List.getElem?_map,tsS,wkX,hlt,hg,nblt,nble,setAt,hw,hw2,htl,hxn];exact⟨_,_,hmeas,Sub.mk (by simp[hxn]) (by simp[wkX,hxn]),hn⟩
  ·rw[if_neg htl]at hn;simp[-getElem?_pos,-List.getElem?_map,tsS,wkX,hlt,hg,nblt,nble,setAt,hw,htl,hxn];exact⟨_,_,hmeas,Sub.mk (by simp[hxn]) (by simp[wkX,hxn]),hn⟩
 have he:k=ts.length:=by omega
 subst he;simp[-getElem?_pos,tsS,hold,wkX];by_cases hmp:¬(manyT ts q.lot:Int)<x.pieces
 ·rw[if_neg hmp]at hE;have hE3:E 3:=by rw[←hE]
  refine Zaq [_,_,_,_] ?_;simp[-getElem?_pos,hold,hmp];exact Zas (d:=99) [] (xs:=[.bool false,.int .i64 3]) (cs:=[]) rfl rfl (ask_f 3) rfl (fun x hx=>by rw[hx.1];exact panW hE3 rfl) (fun x B hx=>hx.2)
 have hmp:=Decidable.not_not.1 hmp;rw[if_pos hmp]at hE hQ;refine Zao ?_;simp[-getElem?_pos,hold,hmp];refine cG [.bool true,.int .i64 3] (ask_t 3) ?_;simp[-getElem?_pos,hold];refine Zao ?_;simp[-getElem?_pos,hold,setAt];have hsc:=Zew l bad (lotsP ls) (ttsP ts) rn hl hb q.lot q.item q.day q.rd;have hst:decide (((Zaj l bad).bestM q.item q.day).2=0)=stM l bad q.item q.day:=rfl;rw[hst]at hsc;clear hst;cases hsv:stM l bad q.item q.day with
 |false=>
  rw[hsv]at hE hsc;have hE10:E 10:=by rw[←hE];rfl
  refine Zaq [_,_,_] ?_;simp[-getElem?_pos,hold];refine cM [.ptr (.par 0) 0,.pv (.agg [.int .i64 q.lot,.int .i64 q.item,.int .i64 q.day,.int .i64 q.rd])] [(.par 0,(wkX (ctsP l) (bdsP bad) (lotsP ls) (ttsP ts) rn))] 94 [.par 0] (by simp[wkX,bdsP,lotsP,ttsP]) hsc (by simp[wkX]) ?_;simp[-getElem?_pos,hold,wkX];exact Zas (d:=99) [] (xs:=[.bool false,.int .i64 10]) (cs:=[]) rfl rfl (ask_f 10) rfl (fun x hx=>by rw[hx.1];exact panW hE10 rfl) (fun x B hx=>hx.2)
 |true=>
 rw[hsv]at hQ hsc;rw[if_pos rfl]at hQ;refine Zao ?_;simp[-getElem?_pos,hold];refine cM [.ptr (.par 0) 0,.pv (.agg [.int .i64 q.lot,.int .i64 q.item,.int .i64 q.day,.int .i64 q.rd])] [(.par 0,(wkX (ctsP l) (bdsP bad) (lotsP ls) (ttsP ts) rn))] 94 [.par 0] (by simp[wkX,bdsP,lotsP,ttsP]) hsc (by simp[wkX]) ?_;simp[-getElem?_pos,hold,wkX];refine cG [.bool true,.int .i64 10] (ask_t 10) ?_;simp[-getElem?_pos,hold];refine Zb1 ?_;simp[-getElem?_pos,hold,ttsP];refine .inl (cQ [] [.lst false 4 (ts.map Tt.pv),.agg [.int .i64 q.lot,.int .i64 q.item,.int .i64 q.day,.int .i64 q.rd]] (ZpJ (ts.map Tt.pv) q.lot q.item q.day q.rd (by rw[Zv6];omega)) ?_);simp[-getElem?_pos,hold];have hap:ts.map Tt.pv++[.agg [.int .i64 q.lot,.int .i64 q.item,.int .i64 q.day,.int .i64 q.rd]]=(ts++[q]).map Tt.pv:=by rw[Zwp];rfl
 rw[hap];refine retW (a:=ctsP l) (b:=bdsP bad) (c:=lotsP ls) (d:=ttsP (ts++[q])) (e:=rn) [] ?_ ?_
 ·simp[-List.map_append,frzL,wkX,ttsP,bdsP]
 ·rw[←hQ];exact⟨_,rfl,rfl,rfl,rfl,rfl,rfl⟩
end
section
open Go.RowKit
set_option maxRecDepth 10000
section
attribute [local simp] Box.purge Site.isLoc
theorem Zrz (l:List Ct)(h0:l≠[])(hl:l.length≤1000000):Zak Tryz.prog 42 [.pv (ctsP l)] [] (fun r B=>r=.vec (.ret 0) 7 0 l.length∧B=[(.ret 0,.arr 47 7 (l.map Ct.pv))]):=by
 refine cB [.loc 7 0] L42 ?_;cases l with
 |nil=>exact absurd rfl h0
 |cons a l=>
  have h1:l.length+1≤1000000:=by simpa using hl
  have hm:(l.map Ct.pv).take l.length=l.map Ct.pv:=Zv9 (by simp);simp[-getElem?_pos,L42,ctsP,nilOf,nble,h1,hm,retB,Zaw,AS.exp,expG,Box.ren,AV.map,AV.mapL,noRet,Site.isRet,Box.allS,AV.allS,AV.allSL,Zww]
end
attribute [local simp] AS.exp expG Box.ren AV.map AV.mapL Zaw noRet Site.isRet Box.allS AV.allS AV.allSL retB dropL AS.adds renL outG outOk Zau inG fnOf lookA Zww
attribute [local simp] Box.purge Site.isLoc
theorem Zum {X:List Ct}{w:Nat}{r:Ct}:(X.map Ct.pv).set w (.agg [.int .i64 r.num,.int .i64 r.it,.int .i64 r.src,.int .i64 r.day,.int .i64 r.valid,.int .i64 r.diff.lo,.int .i64 r.diff.hi])=(X.set w r).map Ct.pv:=by rw[List.map_set];rfl
theorem Zng {α:Type}{l:List α}{k:Nat}{x:α}{p:α→Bool}(h:l[k]?=some x)(hp:p x=true)(hinv:∀(j:Nat) (y:α),j<k→l[j]?=some y→p y=false):l.findIdx? p=some k:=by
 obtain⟨hlt,e⟩:=Zv1.1 h;rw[ZwU];refine⟨hlt,by rw[e];exact hp,fun j hj=>?_⟩
 have:=hinv j l[j] hj (ZvZ (by omega))
 simp[this]
theorem Zri {α:Type}{l:List α}{p:α→Bool}(hinv:∀(j:Nat) (y:α),j<l.length→l[j]?=some y→p y=false):l.findIdx? p=none:=by
 rw[ZwV];intro x hx;obtain⟨j,hj⟩:=Zwa.1 hx;exact hinv j x (Zv1.1 hj).1 hj
theorem Znf {α:Type}{l:List α}{p:α→Bool}{i:Nat}(h:l.findIdx? p=some i):i<l.length∧l.take i=(l.take (i+1)).filter (fun n=>!p n):=by
 obtain⟨h1,h2,h3⟩:=ZwU.1 h;refine⟨h1,?_⟩;rw[Zwf,ZvZ h1,ZwM];have e:(Option.some l[i]).toList.filter (fun n=>!p n)=[]:=by simp[h2]
 rw[e,Zwn,List.filter_eq_self.2];intro x hx;obtain⟨j,hj⟩:=Zwa.1 hx;rw[Zwi]at hj;split at hj
 ·rename_i hji;obtain⟨q1,q2⟩:=Zv1.1 hj
  have:=h3 j hji
  rw[q2]at this;simpa using this
 ·cases hj
theorem Zj5 {α:Type}{l:List α}{p:α→Bool}(h:l.findIdx? p=none):l.filter (fun n=>!p n)=l:=by
 rw[List.filter_eq_self];intro x hx
 have:=ZwV.1 h x hx
 simp[this]
def deB (d:Int)(m:Nat):List Box:=[.cells [.pv (.int .i64 d)]]
theorem predT (d:Int)(c:Ct)(_:True):Zak Tryz.prog 43 [.pv c.pv,.ptr (.par 0) 0] (laid 0 (deB d 0)) (fun r B=>r=.pv (.bool (decide (c.num=d)))∧B=laid 0 (deB d 0)):=by
 refine cB [.par 0] L43 ?_;simp[-getElem?_pos,L43,deB,laid,Ct.pv]
section
variable (d:Int)
theorem ixT (l:List Ct)(hl:l.length≤1000)(hin:∀c∈l,True):
  Zak Tryz.prog 90 [.vec (.par 0) 7 0 l.length,(.fn 43 [] [.ptr (.par 1) 0])] (laid 0 (.arr 47 7 (l.map Ct.pv)::deB d 1)) (fun x B=>x=.pv (.int .i64 (ixI (l.findIdx? (fun c:Ct=>decide (c.num=d)))))∧B=laid 0 (.arr 47 7 (l.map Ct.pv)::deB d 1)):=by
 refine cBR [.par 0,.par 1] L90 ?_;intro R hR;simp[-getElem?_pos,L90,deB,laid];refine Zae (fun n τ=>∃k:Nat,k≤l.length∧n=l.length-k∧(∀(j:Nat) (y:Ct),j<k→l[j]?=some y→(fun c:Ct=>decide (c.num=d)) y=false)∧τ=⟨[(0,.vec (.par 0) 7 0 l.length),(1,(.fn 43 [] [.ptr (.par 1) 0])),(7,.pv (.int .i64 l.length)),(8,.pv (.int .i64 k))],laid 0 (.arr 47 7 (l.map Ct.pv)::deB d 1)⟩)
  ⟨l.length,⟨[(0,.vec (.par 0) 7 0 l.length),(1,(.fn 43 [] [.ptr (.par 1) 0])),(7,.pv (.int .i64 l.length)),(8,.pv (.int .i64 0))],laid 0 (.arr 47 7 (l.map Ct.pv)::deB d 1)⟩,Sub.mk (by simp) (by simp[deB,laid]),0,Zwb _,rfl,(fun j y hj=>by omega),rfl⟩ ?_
 rintro J hJ n τ ⟨k,hk,rfl,hinv,rfl⟩;by_cases hlt:k<l.length
 ·obtain⟨r,hx⟩:∃x,l[k]?=some x:=⟨l[k],ZvZ hlt⟩;have hg:(l.map Ct.pv)[k]?=some (.agg [.int .i64 r.num,.int .i64 r.it,.int .i64 r.src,.int .i64 r.day,.int .i64 r.valid,.int .i64 r.diff.lo,.int .i64 r.diff.hi]):=by rw[Zv0,hx];rfl
  have hw:=wrapK (k:=k) (by omega);have hmeas:l.length-(k+1)<l.length-k:=by omega
  have hC:=predT d r (hin r (Zv3 hx));have hnext:(fun c:Ct=>decide (c.num=d)) r=false→J (l.length-(k+1)) _:=fun hn=>hJ _ _ ⟨k+1,hlt,rfl,(fun j y hj hy=>by
   rcases Zw1.1 hj with h|h
   ·exact hinv j y h hy
   ·subst h;rw[hx]at hy;cases hy;exact hn),rfl⟩
  clear hJ;simp[-getElem?_pos,-List.getElem?_map,deB,laid,hlt,hg,nblt,nble];refine cM [.pv r.pv,.ptr (.par 0) 0] (laid 0 (deB d 0)) 16 [.par 1] (by simp[deB,laid]) hC (by simp[deB,laid]) ?_;cases hgv:(fun c:Ct=>decide (c.num=d)) r with
  |false=>
   have hround:=hnext hgv;have hgv':(decide (r.num=d))=false:=hgv;simp[-getElem?_pos,-List.getElem?_map,deB,laid,hw,hgv'];refine⟨_,_,hmeas,Sub.mk ?_ ?_,hround⟩
   ·simp
   ·simp[deB,laid]
  |true=>
   have hf:=Zng hx hgv hinv;have hgv':(decide (r.num=d))=true:=hgv;simp[-getElem?_pos,-List.getElem?_map,deB,laid,hgv'];rw[←hR,hf];simp[deB,laid,ixI]
 ·have he:k=l.length:=by omega
  subst he;have hf:=Zri hinv;clear hJ;simp[-getElem?_pos,-List.getElem?_map,deB,laid];rw[←hR,hf];simp[deB,laid,ixI]
set_option maxHeartbeats 8000000 in
theorem delT (l:List Ct)(hl:l.length≤1000)(hin:∀c∈l,True):
  Zak Tryz.prog 41 [.vec (.par 0) 7 0 l.length,(.fn 43 [] [.ptr (.par 1) 0])] (laid 0 (.arr 47 7 (l.map Ct.pv)::deB d 1)) (fun x B=>x=.vec (.par 0) 7 0 (l.filter (fun n=>!(fun c:Ct=>decide (c.num=d)) n)).length∧∃X:List Ct,X.take (l.filter (fun n=>!(fun c:Ct=>decide (c.num=d)) n)).length=l.filter (fun n=>!(fun c:Ct=>decide (c.num=d)) n)∧B=laid 0 (.arr 47 7 (X.map Ct.pv)::deB d 1)):=by
 have hC:=ixT d l hl hin;refine cBR [.par 0,.par 1] L41 ?_;intro R hR;simp[-getElem?_pos,L41,deB,laid];refine cM [.vec (.par 0) 7 0 l.length,(.fn 43 [] [.ptr (.par 1) 0])] (laid 0 (.arr 47 7 (l.map Ct.pv)::deB d 1)) 10 [.par 0,.par 1] (by simp[deB,laid]) hC (by simp[deB,laid]) ?_;cases hx:l.findIdx? (fun c:Ct=>decide (c.num=d))with
 |none=>
  have hfl:=Zj5 hx;simp[-getElem?_pos,deB,laid,ixI];rw[←hR,hfl];exact⟨rfl,l,by simp,by simp[deB,laid]⟩
 |some i=>
  obtain⟨hi,hti⟩:=Znf hx;have hw1:=wrapK (k:=i) (by omega);have hni:¬((i:Int) = -1):=by omega
  clear hC;simp[-getElem?_pos,deB,laid,ixI,hw1,hni];refine Zae (fun n τ=>∃(j:Nat) (X K:List Ct),j≤l.length∧n=l.length-j∧X.length=l.length∧K=(l.take j).filter (fun n=>!(fun c:Ct=>decide (c.num=d)) n)∧X.take K.length=K∧X.drop j=l.drop j∧K.length<j∧τ=⟨[(0,.vec (.par 0) 7 0 l.length),(1,(.fn 43 [] [.ptr (.par 1) 0])),(5,.pv (.int .i64 K.length)),(6,.pv (.int .i64 j))],laid 0 (.arr 47 7 (X.map Ct.pv)::deB d 1)⟩)
   ⟨l.length-(i+1),⟨[(0,.vec (.par 0) 7 0 l.length),(1,(.fn 43 [] [.ptr (.par 1) 0])),(5,.pv (.int .i64 i)),(6,.pv (.int .i64 (i+1:Nat)))],laid 0 (.arr 47 7 (l.map Ct.pv)::deB d 1)⟩,Sub.mk (by simp) (by simp[deB,laid]),i+1,l,l.take i,by omega,rfl,rfl,hti,by simp,rfl,by rw[Zv8];omega,by rw[Zv8,Nat.min_eq_left (by omega)]⟩ ?_
  clear hx hw1 hni hti;rintro J hJ n τ ⟨j,X,K,hj,rfl,hXl,hKe,hXt,hXd,hKj,rfl⟩;by_cases hlt:j<l.length
  ·obtain⟨r,hxr⟩:∃x,l[j]?=some x:=⟨l[j],ZvZ hlt⟩;have hXr:X[j]?=some r:=by
    have h1:(X.drop j)[0]?=(l.drop j)[0]?:=by rw[hXd]
    rw[Zwj,Zwj,Nat.add_zero]at h1;rw[h1];exact hxr
   have hg:(X.map Ct.pv)[j]?=some (.agg [.int .i64 r.num,.int .i64 r.it,.int .i64 r.src,.int .i64 r.day,.int .i64 r.valid,.int .i64 r.diff.lo,.int .i64 r.diff.hi]):=by rw[Zv0,hXr];rfl
   have hw:=wrapK (k:=j) (by omega);have hw2:=wrapK (k:=K.length) (by omega);have hmeas:l.length-(j+1)<l.length-j:=by omega
   have hC:=predT d r (hin r (Zv3 hxr));have hdn:X.drop (j+1)=l.drop (j+1):=by
    have:=congrArg List.tail hXd
    simpa[List.tail_drop]using this
   have hKl:K.length<X.length:=by omega
   have htn:(l.take (j+1)).filter (fun n=>!(fun c:Ct=>decide (c.num=d)) n)=K++(if(!(fun c:Ct=>decide (c.num=d)) r)=true then[r]else[]):=by
    rw[Zwf,hxr,ZwM,←hKe];congr 1;simp only[Option.toList,ZwJ,List.filter_nil]
   have hset:∀Y,Y=X.set K.length r→(fun c:Ct=>decide (c.num=d)) r=false→J (l.length-(j+1)) ⟨[(0,.vec (.par 0) 7 0 l.length),(1,(.fn 43 [] [.ptr (.par 1) 0])),(5,.pv (.int .i64 (K.length+1:Nat))),(6,.pv (.int .i64 (j+1:Nat)))],laid 0 (.arr 47 7 (Y.map Ct.pv)::deB d 1)⟩:=fun Y hY hn=>hJ _ _ ⟨j+1,Y,K++[r],hlt,rfl,by rw[hY,List.length_set];exact hXl,by rw[htn,if_pos (by simp[hn])],by
    rw[hY,Zv7];show List.take (K.length+1) _=_;rw[Zwf,ZwX hKl,List.take_set_of_le (Zv5 _),hXt];rfl,by rw[hY,List.drop_set_of_lt (by omega)];exact hdn,by simp;omega,by simp⟩
   have hgot:(fun c:Ct=>decide (c.num=d)) r=true→J (l.length-(j+1)) ⟨[(0,.vec (.par 0) 7 0 l.length),(1,(.fn 43 [] [.ptr (.par 1) 0])),(5,.pv (.int .i64 K.length)),(6,.pv (.int .i64 (j+1:Nat)))],laid 0 (.arr 47 7 (X.map Ct.pv)::deB d 1)⟩:=fun hn=>hJ _ _ ⟨j+1,X,K,hlt,rfl,hXl,by rw[htn,if_neg (by simp[hn]),Zwn],hXt,hdn,by omega,rfl⟩
   clear hJ;have hKn:K.length<l.length:=by omega
   have hlt2:j<X.length:=by omega
   obtain⟨u,hu⟩:∃u,X[K.length]?=some u:=⟨_,ZvZ hKl⟩;have hKx:(X.map Ct.pv)[K.length]?=some (.agg [.int .i64 u.num,.int .i64 u.it,.int .i64 u.src,.int .i64 u.day,.int .i64 u.valid,.int .i64 u.diff.lo,.int .i64 u.diff.hi]):=by rw[Zv0,hu];rfl
   have hst:=Zum (X:=X) (w:=K.length) (r:=r);simp[-getElem?_pos,-List.getElem?_map,deB,laid,hlt,hg,hXl,nblt,nble];refine cM [.pv r.pv,.ptr (.par 0) 0] (laid 0 (deB d 0)) 28 [.par 1] (by simp[deB,laid]) hC (by simp[deB,laid]) ?_;cases hgv:(fun c:Ct=>decide (c.num=d)) r with
   |false=>
    have hround:=hset _ rfl hgv;have hgv':(decide (r.num=d))=false:=hgv;simp[-getElem?_pos,-List.getElem?_map,deB,laid,hgv',hw,hw2,hKn,hKx,hst,nblt,nble,setAt];refine⟨_,_,hmeas,Sub.mk ?_ ?_,hround⟩
    all_goals simp[deB,laid,hw,hw2]
   |true=>
    have hround:=hgot hgv;have hgv':(decide (r.num=d))=true:=hgv;simp[-getElem?_pos,-List.getElem?_map,deB,laid,hgv',hw];refine⟨_,_,hmeas,Sub.mk ?_ ?_,hround⟩
    all_goals simp[deB,laid,hw,hw2]
  ·have he:j=l.length:=by omega
   subst he;rw[Zwm]at hKe;clear hJ;have hK2:K.length≤l.length:=by omega
   have hKs:K.length+(l.length-K.length)=l.length:=by omega
   have hsp:splice (X.map Ct.pv) K.length (List.replicate (l.length-K.length) (PV.agg [.int .i64 0,.int .i64 0,.int .i64 0,.int .i64 0,.int .i64 0,.int .i64 0,.int .i64 0]))=(K++List.replicate (l.length-K.length) ct0).map Ct.pv:=by
    unfold splice;rw[List.length_replicate,hKs,List.drop_eq_nil_of_le (by simp;omega),Zwn,←List.map_take,hXt,Zwp,List.map_replicate];rfl
   simp[-getElem?_pos,-List.getElem?_map,-splice,deB,laid,nblt,nble,hK2,hKs,hXl,hsp];rw[←hR,←hKe];exact⟨rfl,K++List.replicate (l.length-K.length) ct0,by simp,by simp[deB,laid]⟩
end
end
section
open Go.RowKit
set_option maxRecDepth 10000
section
variable {P:Program}{K:AV→AS→Prop}{σ:AS}
theorem Zut (fz:List Site){f:Opd}{args:List Opd}{d:Nat}{g:FuncId}{fs xs cs:List PV}{R:AV→List (Site×Box)→Prop}{X:Prop}(h1:(frzsL fz σ).o f=.pv (.fn g fs cs))(h2:(frzsL fz σ).pvs args=some xs)
  (hc:Zak P g ((fs++xs++cs).map .pv) [] R) (hK:∀r B,R r B→retOk r B∧K (r.map (toLoc d)) (((frzsL fz σ).purge d).adds (renB d B))):ZcF P f args d K σ∨X:=
 .inl (.inr ⟨fz,g,fs,xs,cs,h1,h2,hc.mono fun r B h=>hK r B h⟩)
end
def Bk.wo (b:Bk)(n:Int):Bk:=⟨b.items,b.certs.filter fun c=>!decide (c.num=n)⟩
theorem Zi6 {b:Bk}{n:Int}{c:Ct}(h:c∈(b.wo n).certs):c∈b.certs:=(Zwe.1 h).1
theorem wo_ok {b:Bk}(hb:b.ok)(n:Int):(b.wo n).ok:=
 ⟨hb.i,Zwh (ZwN _ _) hb.c,hb.it,fun x hx=>hb.ct x (Zi6 hx),fun x hx y hy e=>hb.one x (Zi6 hx) y (Zi6 hy) e,fun x hx y hy e=>hb.day x (Zi6 hx) y (Zi6 hy) e⟩
def Bk.suspB (b:Bk)(n:Int):Bool:=!(b.wo n).contra
def Bk.suspM (b:Bk):List Int×Int:=if b.fault=0 then(if b.contra=true then(b.nums.filter b.suspB,0)else([],7))else([],b.fault)
attribute [local irreducible] Bk.held Bk.nums Bk.span Bk.contra Bk.suspB
attribute [local simp] AS.exp expG Box.ren AV.map AV.mapL Zaw noRet Site.isRet Box.allS AV.allS AV.allSL retB dropL AS.adds renL outG outOk Zau inG fnOf lookA Zww
attribute [local simp] Box.purge Site.isLoc
attribute [local simp] ZaC Zax Zam Zaz Za4
attribute [local simp] retFz frzL AS.frz AV.frz AV.frzL Box.frz AS.tidy AS.frzC
def suK (b:Bk)(k:Nat):AS:=⟨[(1,.ptr (.loc 1 0) 0),(6,.vec (.loc 54 0) 1 0 ((b.nums.take k).filter b.suspB).length),(29,.pv (.lst false 1 (b.nums.map intP))),(30,.pv (.int .i64 b.nums.length)),(31,.pv (.int .i64 k))],
 [(.loc 54 0,.arr 3 1 (((b.nums.take k).filter b.suspB).map intP)),(.loc 1 0,.cells b.cells)]⟩
set_option maxHeartbeats 32000000 in
theorem ZhU (b:Bk)(hi:b.items.length≤1000)(hc:b.certs.length≤1000):Zak Tryz.prog 19 ([b.pv].map .pv) [] (fun r B=>r=.pv (lstE b.suspM)∧B=[]):=by
 have hr:=Zjq b hi hc;refine Zak.weak2 ?_;refine cFR [.loc 54 0] L19 ?_;intro R hR;simp[-getElem?_pos,L19,Bk.pv,-retB];refine cL [.pv b.pv] [] 14 [] rfl hr ?_
 rintro r0 B0 (⟨h0,rfl,rfl⟩|⟨h0,es,hes,rfl,rfl⟩)
 ·refine⟨rfl,by simp,?_⟩;have hd:decide (b.fault=0)=false:=by simpa using h0
  simp[-getElem?_pos,-decide_eq_true_eq,-decide_eq_false_iff_not,hd];rw[←hR];exact⟨_,rfl,rfl,Zfr (by unfold Bk.suspM;rw[if_neg h0])⟩
 have hb:b.ok:=Bk.ok_iff.1 h0;have hlen:=ZdX (b:=b);have hsp:=ZkF b hb es hes;have hH:=ZcB hb [];have hS:=Zge hb 1000;have hct:=ZiW b hb es (hEnt b [] b.nums.length) (sEnt b b.nums.length) hes hH hS;refine⟨rfl,by simp[wkC,Zb0],?_⟩;simp[-getElem?_pos,-List.getElem?_map,wkC,Zb0,-retB];refine cM [.ptr (.par 0) 0] (laid 0 (wkB b [] es)) 23 [.loc 14 0,.loc 14 1] (by simp[laid,wkB,wkC]) hsp (by simp[wkC]) ?_;generalize hEnt b [] b.nums.length=hs at *;generalize sEnt b b.nums.length=ss at *;simp[-getElem?_pos,-List.getElem?_map,wkC,-retB];refine cM [.ptr (.par 0) 0] (laid 0 (spB b es hs ss)) 24 [.loc 23 0,.loc 23 1,.loc 23 2,.loc 14 0,.loc 14 1] (by simp[laid,spB,wkC]) hct (by simp[laid,spB,wkC]) ?_;clear hsp hct hr;cases hcn:b.contra
 ·simp[-getElem?_pos,-List.getElem?_map,laid,spB,wkC];rw[←hR];exact⟨_,rfl,rfl,Zfr (by unfold Bk.suspM;rw[if_pos h0,if_neg (by simp[hcn])])⟩
 have hM:b.suspM=(b.nums.filter b.suspB,0):=by unfold Bk.suspM;rw[if_pos h0,if_pos hcn]
 rw[hM]at hR;simp[-getElem?_pos,-List.getElem?_map,laid,spB,wkC,-retB];refine Zae (fun m τ=>∃k:Nat,k≤b.nums.length∧m=b.nums.length-k∧τ=suK b k) ⟨b.nums.length,suK b 0,Sub.trans' (Sub.mk (by simp[suK,AS.vecT]) (by simp[suK,AS.vecT,Bk.cells])) (vecT 54 3 1 6 rfl (by decide)),0,by omega,rfl,rfl⟩ ?_;rintro J hJ m τ ⟨k,hk,rfl,rfl⟩;have hpl:((b.nums.take k).filter b.suspB).length≤1000:=Zwh (ZwN _ _) (by rw[Zv8];omega);by_cases hlt:k<b.nums.length
 ·obtain⟨n,hn⟩:∃n,b.nums[k]?=some n:=⟨_,ZvZ hlt⟩;have hgn:(b.nums.map intP)[k]?=some (.int .i64 n):=by rw[Zv0,hn];rfl
  have hwk:=wrapK (k:=k) (by omega);have hround:=hJ _ _ ⟨k+1,hlt,rfl,rfl⟩;have hmeas:b.nums.length-(k+1)<b.nums.length-k:=by omega
  have hnext:(b.nums.take (k+1)).filter b.suspB=(b.nums.take k).filter b.suspB++(if b.suspB n=true then[n]else[]):=by
   rw[Zwf,hn,ZwM];congr 1;simp only[Option.toList,ZwJ,List.filter_nil]
  have hne:b.certs≠[]:=fun e=>by
   obtain⟨c,hc,_⟩:=(Zbw hb).1 (Zv3 hn);rw[e]at hc;cases hc
  have hok:=wo_ok hb n;have hf0:(b.wo n).fault=0:=Bk.ok_iff.2 hok;have hcl:=hb.c;have hr2:=Zjq (b.wo n) (by have:=hok.i;omega) (by have:=hok.c;omega);have hclone:=Zrz b.certs hne (by omega);have hdel:=delT n b.certs (by omega) (fun _ _=>trivial);have hsu:b.suspB n=!(b.wo n).contra:=by unfold Bk.suspB;rfl
  have hwp:(b.wo n).pv=.agg [itsP b.items,.lst false 7 ((b.certs.filter fun c=>!decide (c.num=n)).map Ct.pv)]:=rfl;unfold suK at hround ⊢;rw[hnext,hsu]at hround;clear hJ hnext hsu hR;generalize(b.nums.take k).filter b.suspB=Y at *;have hY:(Y.map intP).take Y.length=Y.map intP:=Zv9 (by simp);have hY6:Y.length≤999999:=by omega
  have hfl:(b.certs.filter fun c=>!decide (c.num=n)).length≤1000:=Zwh (ZwN _ _) hc;simp[-getElem?_pos,-List.getElem?_map,hlt,hgn,Bk.cells,-retB];refine cM [.pv (ctsP b.certs)] [] 38 [] rfl hclone (by simp) ?_;simp[-getElem?_pos,-List.getElem?_map,-retB];refine cL [.vec (.par 0) 7 0 b.certs.length,.fn 43 [] [.ptr (.par 1) 0]] (laid 0 (.arr 47 7 (b.certs.map Ct.pv)::deB n 1)) 40 [.loc 38 0,.loc 8 0] (by simp[laid,deB]) hdel ?_
  rintro r0 B0 ⟨rfl,X,hX,rfl⟩;simp only at hX;refine⟨rfl,by simp[laid,deB],?_⟩;have hXm:(X.map Ct.pv).take (b.certs.filter fun c=>!decide (c.num=n)).length=(b.certs.filter fun c=>!decide (c.num=n)).map Ct.pv:=by rw[←List.map_take,hX]
  have hXl:(b.certs.filter fun c=>!decide (c.num=n)).length≤X.length:=by
   have:=congrArg List.length hX
   rw[Zv8]at this;omega
  generalize(b.certs.filter fun c=>!decide (c.num=n))=Z at *;simp[-getElem?_pos,-List.getElem?_map,laid,deB,-retB];refine Zut [.loc 38 0] (fs:=[]) (xs:=[(b.wo n).pv]) (cs:=[]) rfl ?_ hr2 ?_
  ·simp[frzsL,hXm,hXl,hwp]
  rintro r0 B0 (⟨q0,rfl,rfl⟩|⟨q0,es2,hes2,rfl,rfl⟩)
  ·exact absurd hf0 q0
  have hsp2:=ZkF (b.wo n) hok es2 hes2;have hH2:=ZcB hok [];have hS2:=Zge hok 1000;have hct2:=ZiW (b.wo n) hok es2 (hEnt (b.wo n) [] (b.wo n).nums.length) (sEnt (b.wo n) (b.wo n).nums.length) hes2 hH2 hS2;generalize b.wo n=b2 at *;refine⟨by simp[retOk,wkC,Zb0,Zax],?_⟩;simp[-getElem?_pos,-List.getElem?_map,frzsL,wkC,Zb0,renB,toLoc,hXm,hXl,-retB];refine cM [.ptr (.par 0) 0] (laid 0 (wkB b2 [] es2)) 48 [.loc 44 0,.loc 44 1] (by simp[laid,wkB,wkC]) hsp2 (by simp[wkC]) ?_;generalize hEnt b2 [] b2.nums.length=hs2 at *;generalize sEnt b2 b2.nums.length=ss2 at *;simp[-getElem?_pos,-List.getElem?_map,wkC,-retB];refine cM [.ptr (.par 0) 0] (laid 0 (spB b2 es2 hs2 ss2)) 49 [.loc 48 0,.loc 48 1,.loc 48 2,.loc 44 0,.loc 44 1] (by simp[laid,spB,wkC]) hct2 (by simp[laid,spB,wkC]) ?_;cases hc2:b2.contra
  case true=>
   rw[hc2,if_neg (by simp),Zwn]at hround;simp[-getElem?_pos,-List.getElem?_map,laid,spB,wkC,hwk,-retB];exact⟨_,_,hmeas,Sub.mk (by simp) (by simp[Bk.cells]),hround⟩
  case false=>
  rw[hc2,if_pos (by rfl)]at hround;simp[-getElem?_pos,-List.getElem?_map,laid,spB,wkC,hwk,nble,nblt,hY,hY6,-retB];exact⟨_,_,hmeas,Sub.mk (by simp) (by simp[Bk.cells,intP]),hround⟩
 have he:k=b.nums.length:=by omega
 subst he;clear hJ;unfold suK;rw[Zwm]at hpl ⊢;generalize b.nums.filter b.suspB=Y at *;have hY:(Y.map intP).take Y.length=Y.map intP:=Zv9 (by simp);simp[-getElem?_pos,-List.getElem?_map,hY,-retB];rw[←hR];exact⟨_,rfl,rfl,fun m v h=>h⟩
end
section
open Go.RowKit
set_option maxRecDepth 10000
attribute [local simp] AS.exp expG Box.ren AV.map AV.mapL Zaw noRet Site.isRet Box.allS AV.allS AV.allSL retB dropL AS.adds renL outG outOk Zau inG fnOf lookA Zww
attribute [local simp] Box.purge Site.isLoc
attribute [local simp] frzsL retOk renB toLoc
attribute [local irreducible] Bk.fault Bk.suspM
theorem nI3:natI 3=some 3:=rfl
theorem nI4:natI 4=some 4:=rfl
theorem nI5:natI 5=some 5:=rfl
theorem nI6:natI 6=some 6:=rfl
theorem gl4 {α:Type}{a b c d e:α}{l:List α}:(a::b::c::d::e::l)[4]?=some e:=rfl
theorem gl5 {α:Type}{a b c d e f:α}{l:List α}:(a::b::c::d::e::f::l)[5]?=some f:=rfl
theorem gl6 {α:Type}{a b c d e f g:α}{l:List α}:(a::b::c::d::e::f::g::l)[6]?=some g:=rfl
def certM (l:List Ct)(bad:List Int)(x:Ct):Except Int (List Ct):=
 if(l.any fun y=>decide (y.num=x.num))=true then .error 6
 else if Bk.fault ⟨ZaE,l++[x]⟩=0 then(if(Zaj (l++[x]) bad).suspM.2=7 then .ok (l++[x])else .error 9)
 else .error (Bk.fault ⟨ZaE,l++[x]⟩)
def crQ (r:Except Int (List Ct))(bad:List Int)(ls:PV)(ts:PV)(rn:PV)(a b c d e:PV):Prop:=∃l',r=.ok l'∧a=ctsP l'∧b=bdsP bad∧c=ls∧d=ts∧e=rn
theorem ZvF (l:List Ct)(bad:List Int)(ls ts rn:PV)(x:Ct)(hl:l.length≤900)(hb:bad.length≤1000):
  Za7 Tryz.prog 187 [.ptr (.par 0) 0,.pv (.lst false 1 [iP x.num,iP x.it,iP x.src,iP x.day,iP x.valid,iP x.diff.lo,iP x.diff.hi])] [(.par 0,wkX (ctsP l) (bdsP bad) ls ts rn)] (okR (crQ (certM l bad x) bad ls ts rn)) (noR (fun e=>certM l bad x=.error e)):=by
 have hkc:=Zk2 l x.num (bdsP bad) ls ts rn (by omega);refine cX L187 ?_;generalize hE:(fun e=>certM l bad x=.error e)=E;generalize hQ:crQ (certM l bad x) bad ls ts rn=Q;unfold certM at hE hQ;generalize(l.any fun y=>decide (y.num=x.num))=kn at hE hQ hkc;show awpX _ (.seq _ (.seq _ (.seq _ _))) _ _ _;cases kn with
 |true=>
  have hE6:E 6:=by rw[←hE];rfl
  refine Zaq [_,_,_,_,_,_] ?_;simp[-getElem?_pos,hold,wkX,iP,ctsP];refine cM [.ptr (.par 0) 0,.pv (.int .i64 x.num)] [(.par 0,wkX (ctsP l) (bdsP bad) ls ts rn)] 9 [.par 0] (by simp[wkX,ctsP]) hkc (by simp[wkX]) ?_;simp[-getElem?_pos,hold,wkX];exact Zas (d:=99) [] (xs:=[.bool false,.int .i64 6]) (cs:=[]) rfl rfl (ask_f 6) rfl (fun x hx=>by rw[hx.1];exact panW hE6 rfl) (fun x B hx=>hx.2)
 |false=>
 rw[if_neg (by simp)]at hE hQ;refine Zao ?_;simp[-getElem?_pos,hold,wkX,iP,ctsP];refine cM [.ptr (.par 0) 0,.pv (.int .i64 x.num)] [(.par 0,wkX (ctsP l) (bdsP bad) ls ts rn)] 9 [.par 0] (by simp[wkX,ctsP]) hkc (by simp[wkX]) ?_;simp[-getElem?_pos,hold,wkX];refine cG [.bool true,.int .i64 6] (ask_t 6) ?_;simp[-getElem?_pos,hold];refine Zao ?_;simp[-getElem?_pos,hold,setAt,nI3,nI4,nI5,nI6,gl4,gl5,gl6];refine .inl (cQ [] [.lst false 7 (l.map Ct.pv),x.pv] (ZpL (l.map Ct.pv) x.num x.it x.src x.day x.valid x.diff.lo x.diff.hi (by rw[Zv6];omega)) ?_);have hap:l.map Ct.pv++[.agg [.int .i64 x.num,.int .i64 x.it,.int .i64 x.src,.int .i64 x.day,.int .i64 x.valid,.int .i64 x.diff.lo,.int .i64 x.diff.hi]]=(l++[x]).map Ct.pv:=by rw[Zwp];rfl
 rw[hap];have hLl:(l++[x]).length≤1000:=by rw[Zv7];simp;omega
 generalize l++[x]=L at hE hQ hLl ⊢;clear hap hkc;simp[-getElem?_pos,hold];have hwc:=ZsV L (bdsP bad) ls ts rn;have hcb:=Zln ⟨ZaE,L⟩ (show ZaE.length≤1000 by decide) hLl;generalize hF:Bk.fault ⟨ZaE,L⟩=F at hE hQ hcb;refine Zao ?_;simp[-getElem?_pos,hold];refine cM [.ptr (.par 0) 0] [(.par 0,wkX (ctsP L) (bdsP bad) ls ts rn)] 46 [.par 0] (by simp[wkX,ctsP]) hwc (by simp[wkX]) ?_;simp[-getElem?_pos,hold,wkX];refine cG [Bk.pv ⟨ZaE,L⟩] hcb ?_;simp[-getElem?_pos,hold];by_cases h0:¬F=0
 ·rw[if_neg h0]at hE;have hEF:E F:=by rw[←hE]
  refine Zaq [_,_,_] ?_;simp[-getElem?_pos,hold,h0];exact Zas (d:=99) [] (xs:=[.bool false,.int .i64 F]) (cs:=[]) rfl rfl (ask_f F) rfl (fun x hx=>by rw[hx.1];exact panW hEF rfl) (fun x B hx=>hx.2)
 have h0:=Decidable.not_not.1 h0;rw[if_pos h0]at hE hQ;refine Zao ?_;simp[-getElem?_pos,hold,h0];refine cG [.bool true,.int .i64 0] (ask_t 0) ?_;simp[-getElem?_pos,hold];have hrc:=Zie L bad ls ts rn hLl hb;have hsc:=ZhU (Zaj L bad) (show ZaE.length≤1000 by decide) (by unfold Zaj goodC;exact Zwh (ZwN _ _) hLl);generalize hS:(Zaj L bad).suspM=sp at hE hQ hsc;obtain⟨s1,s2⟩:=sp;refine Zao ?_;simp[-getElem?_pos,hold];refine cM [.ptr (.par 0) 0] [(.par 0,wkX (ctsP L) (bdsP bad) ls ts rn)] 54 [.par 0] (by simp[wkX,ctsP]) hrc (by simp[wkX]) ?_;simp[-getElem?_pos,hold,wkX];refine .inl (cQ [] [(Zaj L bad).pv] hsc ?_);simp[-getElem?_pos,hold,lstE];by_cases h7:¬s2=7
 ·rw[if_neg h7]at hE;have hE9:E 9:=by rw[←hE]
  refine Zfa [_,_] ?_;simp[-getElem?_pos,hold,h7];exact Zas (d:=99) [] (xs:=[.bool false,.int .i64 9]) (cs:=[]) rfl rfl (ask_f 9) rfl (fun x hx=>by rw[hx.1];exact panW hE9 rfl) (fun x B hx=>hx.2)
 have h7:=Decidable.not_not.1 h7;rw[if_pos h7]at hQ;refine Zb1 ?_;simp[-getElem?_pos,hold,h7];refine cG [.bool true,.int .i64 9] (ask_t 9) ?_;simp[-getElem?_pos,hold];refine retW (a:=ctsP L) (b:=bdsP bad) (c:=ls) (d:=ts) (e:=rn) [] ?_ ?_
 ·simp[frzL,wkX,ctsP,bdsP]
 ·rw[←hQ];exact⟨_,rfl,rfl,rfl,rfl,rfl,rfl⟩
end
end Go.Proofs.YtfpmaennjlggeaaGreatDoor
namespace Go.Proofs.YtfpmaennjlggeaaGreatDoor.Qn
section
open Go.RowKit Go.ChangeShapes Go.WideShapes Go.Deep
set_option maxRecDepth 100000
structure Rg where
 lo:Int
 hi:Int
structure Rq where
 hours:Int
 ready:Int
 on:List Bool
structure Qu where
 ms:List (List Rg)
 rs:List Rq
def Rg.pv (r:Rg):PV:=.agg [.int .i64 r.lo,.int .i64 r.hi]
def rgsP (l:List Rg):PV:=.lst false 2 (l.map Rg.pv)
def onP (l:List Bool):PV:=.lst false 1 (l.map PV.bool)
def Rq.pv (r:Rq):PV:=.agg [.int .i64 r.hours,.int .i64 r.ready,onP r.on]
def Qu.pv (q:Qu):PV:=.agg [.lst false 1 (q.ms.map rgsP),.lst false 3 (q.rs.map Rq.pv)]
section
variable {H:Type}{enc:TypeId×Value→H}{W:World}{sp:Nat→Bool}{held:Bool}{r:Reach}{base:Nat}
end
end
section
open Go.RowKit
attribute [local simp] Box.purge Site.isLoc
set_option maxRecDepth 10000
theorem ZbX (n lo hi:Int):Gives Tryz.prog 108 [.int .i64 n,.int .i64 lo,.int .i64 hi] (.bool (decide (lo≤n)&&decide (n≤hi))):=by
 refine cS L108 ?_;by_cases h:lo≤n
 all_goals simp[h,L108]
def hourB (n:Int):Bool:=decide (0≤n)&&decide (n≤39)
def manyB (n:Int):Bool:=decide (0≤n)&&decide (n≤40)
theorem ZsC (n:Int):Gives Tryz.prog 107 [.int .i64 n] (.bool (hourB n)):=by
 refine cS L107 ?_;simp[L107];refine Zaa (k:=0) rfl rfl (ZbX n 0 39) rfl ?_;simp[hourB]
theorem Zsy (n:Int):Gives Tryz.prog 61 [.int .i64 n] (.bool (manyB n)):=by
 refine cS L61 ?_;simp[L61];refine Zaa (k:=0) rfl rfl (ZbX n 0 40) rfl ?_;simp[manyB]
def Rg.hoursB (r:Rg):Bool:=hourB r.lo&&hourB r.hi&&decide (r.lo≤r.hi)
theorem Zt6 (r:Rg):Gives Tryz.prog 59 [r.pv] (.bool r.hoursB):=by
 refine cS L59 ?_;simp[-getElem?_pos,L59,Rg.pv];refine Zaa (k:=0) rfl rfl (ZsC r.lo) rfl ?_;cases h1:hourB r.lo
 ·simp[Rg.hoursB,h1]
 ·simp[h1];refine Zaa (k:=0) rfl rfl (ZsC r.hi) rfl ?_;cases h2:hourB r.hi
  ·simp[Rg.hoursB,h1,h2]
  ·simp[Rg.hoursB,h1,h2]
theorem ZdD {l:List PV}{q:PV→Bool}{k:Nat}{x:PV}(hx:l[k]?=some x)(hb:q x=true)(hinv:∀(j:Nat) (y:PV),j<k→l[j]?=some y→q y=false):l.findIdx? q=some k:=by
 obtain⟨hlt,e⟩:=Zv1.1 hx;rw[ZwU];refine⟨hlt,by rw[e];exact hb,fun j hj=>?_⟩
 have:=hinv j l[j] hj (ZvZ (by omega))
 simp[this]
theorem Zb7 {l:List PV}{q:PV→Bool}(hinv:∀(j:Nat) (y:PV),j<l.length→l[j]?=some y→q y=false):l.findIdx? q=none:=by
 rw[ZwV];intro x hx;obtain⟨j,hj⟩:=Zwa.1 hx;exact hinv j x (Zv1.1 hj).1 hj
theorem Zm9 (l:List PV)(g:FuncId)(fs cs:List PV)(q:PV→Bool)(hq:∀x∈l,Gives Tryz.prog g (fs++[x]++cs) (.bool (q x)))(hl:l.length≤1000000)(hc:∀x∈l,∃ys,x=.lst false 2 ys):
  Gives Tryz.prog 152 [.lst false 1 l,.fn g fs cs] (.int .i64 (match l.findIdx? q with|some i=>i|none=>-1)):=by
 refine cS L152 ?_;simp[L152];refine Zae (fun n τ=>∃k:Nat,k≤l.length∧n=l.length-k∧(∀j x,j<k→l[j]?=some x→q x=false)∧τ=⟨[(0,.pv (.lst false 1 l)),(1,.pv (.fn g fs cs)),(7,.pv (.int .i64 l.length)),(8,.pv (.int .i64 k))],[]⟩)
  ⟨l.length,_,Sub.mk (by simp) (by simp),0,by omega,rfl,(fun j x hj=>by omega),rfl⟩ ?_
 rintro J hJ n τ ⟨k,hk,rfl,hinv,rfl⟩;by_cases hlt:k<l.length
 ·have hx:l[k]?=some l[k]:=ZvZ hlt;have hm:=ZwA hlt;generalize l[k]=x at hx hm;obtain⟨ys,rfl⟩:=hc x hm;have hg:=hq _ hm;have hw:IntKind.i64.wrap ((k:Int)+1)=((k+1:Nat):Int):=by rw[wrap64 (by omega)];omega
  simp[-getElem?_pos,hlt,hx,nblt];refine Zaa (k:=0) rfl rfl hg rfl ?_;cases hb:q _
  ·simp[hw];exact⟨_,_,(by omega:l.length-(k+1)<l.length-k),Sub.mk (by simp) (by simp),hJ _ _ ⟨k+1,by omega,rfl,fun j x hj hjx=>by
    rcases Zw1.1 hj with h|h
    ·exact hinv j x h hjx
    ·subst h;rw[hx]at hjx;cases hjx;exact hb,rfl⟩⟩
  ·simp[ZdD hx hb hinv]
 ·have he:k=l.length:=by omega
  subst he;simp[Zb7 hinv]
theorem Zse (l:List PV)(g:FuncId)(fs cs:List PV)(q:PV→Bool)(hq:∀x∈l,Gives Tryz.prog g (fs++[x]++cs) (.bool (q x)))(hl:l.length≤1000000)(hc:∀x∈l,∃ys,x=.lst false 2 ys):
  Gives Tryz.prog 109 [.lst false 1 l,.fn g fs cs] (.bool (l.any q)):=by
 refine cS L109 ?_;simp[L109];refine Zaa (k:=0) rfl rfl (Zm9 l g fs cs q hq hl hc) rfl ?_;cases hf:l.findIdx? q with
 |none=>
  have:l.any q=false:=by rw[List.any_eq_false];intro x hx;simpa using ZwV.1 hf x hx
  simp[this]
 |some i=>
  have:l.any q=true:=by
   obtain⟨hi,h1,_⟩:=ZwU.1 hf;exact Zwq.2 ⟨_,ZwA hi,h1⟩
  simp[this]
theorem Zp7 (x:PV)(g:FuncId)(fs cs:List PV)(b:Bool)(hx:∃ys,x=.lst false 2 ys)(hq:Gives Tryz.prog g (fs++[x]++cs) (.bool b)):
  Gives Tryz.prog 110 [x,.ref [.fn g fs cs]] (.bool (!b)):=by
 obtain⟨ys,rfl⟩:=hx;refine cS L110 ?_;simp[L110];refine Zaa (k:=0) rfl rfl hq rfl ?_;simp
theorem ZmI (l:List PV)(g:FuncId)(fs cs:List PV)(q:PV→Bool)(hq:∀x∈l,Gives Tryz.prog g (fs++[x]++cs) (.bool (q x)))(hl:l.length≤1000000)(hc:∀x∈l,∃ys,x=.lst false 2 ys):
  Gives Tryz.prog 62 [.lst false 1 l,.fn g fs cs] (.bool (l.all q)):=by
 refine cS L62 ?_;simp[L62];refine Zaa (k:=4) rfl rfl (Zse l 110 [] [.ref [.fn g fs cs]] (fun x=>!q x) (fun x hx=>Zp7 x g fs cs (q x) (hc x hx) (hq x hx)) hl hc) rfl ?_;simp[List.not_any_eq_all_not]
theorem Zo6 (l:List PV)(g:FuncId)(fs cs:List PV)(q:PV→Bool)(hq:∀x∈l,Gives Tryz.prog g (fs++[x]++cs) (.bool (q x)))(hl:l.length≤1000000)(hc:∀x∈l,∃a b,x=.agg [.int .i64 a,.int .i64 b]):
  Gives Tryz.prog 151 [.lst false 2 l,.fn g fs cs] (.int .i64 (match l.findIdx? q with|some i=>i|none=>-1)):=by
 refine cS L151 ?_;simp[L151];refine Zae (fun n τ=>∃k:Nat,k≤l.length∧n=l.length-k∧(∀j x,j<k→l[j]?=some x→q x=false)∧τ=⟨[(0,.pv (.lst false 2 l)),(1,.pv (.fn g fs cs)),(7,.pv (.int .i64 l.length)),(8,.pv (.int .i64 k))],[]⟩)
  ⟨l.length,_,Sub.mk (by simp) (by simp),0,by omega,rfl,(fun j x hj=>by omega),rfl⟩ ?_
 rintro J hJ n τ ⟨k,hk,rfl,hinv,rfl⟩;by_cases hlt:k<l.length
 ·have hx:l[k]?=some l[k]:=ZvZ hlt;have hm:=ZwA hlt;generalize l[k]=x at hx hm;obtain⟨a,b,rfl⟩:=hc x hm;have hg:=hq _ hm;have hw:IntKind.i64.wrap ((k:Int)+1)=((k+1:Nat):Int):=by rw[wrap64 (by omega)];omega
  simp[-getElem?_pos,hlt,hx,nblt];refine Zaa (k:=0) rfl rfl hg rfl ?_;cases hb:q _
  ·simp[hw];exact⟨_,_,(by omega:l.length-(k+1)<l.length-k),Sub.mk (by simp) (by simp),hJ _ _ ⟨k+1,by omega,rfl,fun j x hj hjx=>by
    rcases Zw1.1 hj with h|h
    ·exact hinv j x h hjx
    ·subst h;rw[hx]at hjx;cases hjx;exact hb,rfl⟩⟩
  ·simp[ZdD hx hb hinv]
 ·have he:k=l.length:=by omega
  subst he;simp[Zb7 hinv]
theorem Zp4 (l:List PV)(g:FuncId)(fs cs:List PV)(q:PV→Bool)(hq:∀x∈l,Gives Tryz.prog g (fs++[x]++cs) (.bool (q x)))(hl:l.length≤1000000)(hc:∀x∈l,∃a b,x=.agg [.int .i64 a,.int .i64 b]):
  Gives Tryz.prog 105 [.lst false 2 l,.fn g fs cs] (.bool (l.any q)):=by
 refine cS L105 ?_;simp[L105];refine Zaa (k:=0) rfl rfl (Zo6 l g fs cs q hq hl hc) rfl ?_;cases hf:l.findIdx? q with
 |none=>
  have:l.any q=false:=by rw[List.any_eq_false];intro x hx;simpa using ZwV.1 hf x hx
  simp[this]
 |some i=>
  have:l.any q=true:=by
   obtain⟨hi,h1,_⟩:=ZwU.1 hf;exact Zwq.2 ⟨_,ZwA hi,h1⟩
  simp[this]
theorem Zsi (x:PV)(g:FuncId)(fs cs:List PV)(b:Bool)(hx:∃a b,x=.agg [.int .i64 a,.int .i64 b])(hq:Gives Tryz.prog g (fs++[x]++cs) (.bool b)):
  Gives Tryz.prog 106 [x,.ref [.fn g fs cs]] (.bool (!b)):=by
 obtain⟨a,b,rfl⟩:=hx;refine cS L106 ?_;simp[L106];refine Zaa (k:=0) rfl rfl hq rfl ?_;simp
theorem ZuT (l:List PV)(g:FuncId)(fs cs:List PV)(q:PV→Bool)(hq:∀x∈l,Gives Tryz.prog g (fs++[x]++cs) (.bool (q x)))(hl:l.length≤1000000)(hc:∀x∈l,∃a b,x=.agg [.int .i64 a,.int .i64 b]):
  Gives Tryz.prog 58 [.lst false 2 l,.fn g fs cs] (.bool (l.all q)):=by
 refine cS L58 ?_;simp[L58];refine Zaa (k:=4) rfl rfl (Zp4 l 106 [] [.ref [.fn g fs cs]] (fun x=>!q x) (fun x hx=>Zsi x g fs cs (q x) (hc x hx) (hq x hx)) hl hc) rfl ?_;simp[List.not_any_eq_all_not]
theorem Zo5 (l:List PV)(g:FuncId)(fs cs:List PV)(q:PV→Bool)(hq:∀x∈l,Gives Tryz.prog g (fs++[x]++cs) (.bool (q x)))(hl:l.length≤1000000)(hc:∀x∈l,∃a b ys,x=.agg [.int .i64 a,.int .i64 b,.lst false 1 ys]):
  Gives Tryz.prog 153 [.lst false 3 l,.fn g fs cs] (.int .i64 (match l.findIdx? q with|some i=>i|none=>-1)):=by
 refine cS L153 ?_;simp[L153];refine Zae (fun n τ=>∃k:Nat,k≤l.length∧n=l.length-k∧(∀j x,j<k→l[j]?=some x→q x=false)∧τ=⟨[(0,.pv (.lst false 3 l)),(1,.pv (.fn g fs cs)),(7,.pv (.int .i64 l.length)),(8,.pv (.int .i64 k))],[]⟩)
  ⟨l.length,_,Sub.mk (by simp) (by simp),0,by omega,rfl,(fun j x hj=>by omega),rfl⟩ ?_
 rintro J hJ n τ ⟨k,hk,rfl,hinv,rfl⟩;by_cases hlt:k<l.length
 ·have hx:l[k]?=some l[k]:=ZvZ hlt;have hm:=ZwA hlt;generalize l[k]=x at hx hm;obtain⟨a,b,ys,rfl⟩:=hc x hm;have hg:=hq _ hm;have hw:IntKind.i64.wrap ((k:Int)+1)=((k+1:Nat):Int):=by rw[wrap64 (by omega)];omega
  simp[-getElem?_pos,hlt,hx,nblt];refine Zaa (k:=0) rfl rfl hg rfl ?_;cases hb:q _
  ·simp[hw];exact⟨_,_,(by omega:l.length-(k+1)<l.length-k),Sub.mk (by simp) (by simp),hJ _ _ ⟨k+1,by omega,rfl,fun j x hj hjx=>by
    rcases Zw1.1 hj with h|h
    ·exact hinv j x h hjx
    ·subst h;rw[hx]at hjx;cases hjx;exact hb,rfl⟩⟩
  ·simp[ZdD hx hb hinv]
 ·have he:k=l.length:=by omega
  subst he;simp[Zb7 hinv]
theorem ZuO (l:List PV)(g:FuncId)(fs cs:List PV)(q:PV→Bool)(hq:∀x∈l,Gives Tryz.prog g (fs++[x]++cs) (.bool (q x)))(hl:l.length≤1000000)(hc:∀x∈l,∃a b ys,x=.agg [.int .i64 a,.int .i64 b,.lst false 1 ys]):
  Gives Tryz.prog 111 [.lst false 3 l,.fn g fs cs] (.bool (l.any q)):=by
 refine cS L111 ?_;simp[L111];refine Zaa (k:=0) rfl rfl (Zo5 l g fs cs q hq hl hc) rfl ?_;cases hf:l.findIdx? q with
 |none=>
  have:l.any q=false:=by rw[List.any_eq_false];intro x hx;simpa using ZwV.1 hf x hx
  simp[this]
 |some i=>
  have:l.any q=true:=by
   obtain⟨hi,h1,_⟩:=ZwU.1 hf;exact Zwq.2 ⟨_,ZwA hi,h1⟩
  simp[this]
theorem Zsh (x:PV)(g:FuncId)(fs cs:List PV)(b:Bool)(hx:∃a b ys,x=.agg [.int .i64 a,.int .i64 b,.lst false 1 ys])(hq:Gives Tryz.prog g (fs++[x]++cs) (.bool b)):
  Gives Tryz.prog 112 [x,.ref [.fn g fs cs]] (.bool (!b)):=by
 obtain⟨a,b,ys,rfl⟩:=hx;refine cS L112 ?_;simp[L112];refine Zaa (k:=0) rfl rfl hq rfl ?_;simp
theorem ZuS (l:List PV)(g:FuncId)(fs cs:List PV)(q:PV→Bool)(hq:∀x∈l,Gives Tryz.prog g (fs++[x]++cs) (.bool (q x)))(hl:l.length≤1000000)(hc:∀x∈l,∃a b ys,x=.agg [.int .i64 a,.int .i64 b,.lst false 1 ys]):
  Gives Tryz.prog 63 [.lst false 3 l,.fn g fs cs] (.bool (l.all q)):=by
 refine cS L63 ?_;simp[L63];refine Zaa (k:=4) rfl rfl (ZuO l 112 [] [.ref [.fn g fs cs]] (fun x=>!q x) (fun x hx=>Zsh x g fs cs (q x) (hc x hx) (hq x hx)) hl hc) rfl ?_;simp[List.not_any_eq_all_not]
theorem few_c (ys:List PV):Gives Tryz.prog 56 [.lst false 2 ys] (.bool (decide ((ys.length:Int)≤6))):=by
 refine cS L56 ?_;simp[-decide_eq_true_eq,L56]
def ZjT:PV→Bool
 |.agg [.int _ a,.int _ b]=>Rg.hoursB ⟨a,b⟩
 |_=>true
theorem Zs8 (l:List Rg)(hl:l.length≤1000000):Gives Tryz.prog 57 [rgsP l] (.bool (l.all Rg.hoursB)):=by
 have h:=ZuT (l.map Rg.pv) 59 [] [] ZjT (fun x hx=>by
  obtain⟨r,_,rfl⟩:=Zwc.1 hx;exact Zt6 r) (by simpa using hl) (fun x hx=>by
  obtain⟨r,_,rfl⟩:=Zwc.1 hx;exact⟨_,_,rfl⟩)
 have e:(l.map Rg.pv).all ZjT=l.all Rg.hoursB:=by rw[List.all_map];rfl
 rw[e]at h;refine cS L57 ?_;simp[L57,rgsP];refine Zaa (k:=0) rfl rfl h rfl ?_;simp
def Rq.okB (n:Nat)(r:Rq):Bool:=manyB r.hours&&manyB r.ready&&decide ((r.on.length:Int)=n)
theorem run_c (q:Qu)(r:Rq):Gives Tryz.prog 60 [r.pv,.ref [.lst false 1 (q.ms.map rgsP),.lst false 3 (q.rs.map Rq.pv)]] (.bool (r.okB q.ms.length)):=by
 refine cS L60 ?_;simp[-getElem?_pos,L60,Rq.pv];refine Zaa (k:=0) (fs:=[]) (cs:=[]) rfl rfl (Zsy r.hours) rfl ?_;cases h1:manyB r.hours
 ·simp[Rq.okB,h1]
 ·simp[-getElem?_pos];refine Zaa (k:=0) (fs:=[]) (cs:=[]) rfl rfl (Zsy r.ready) rfl ?_;cases h2:manyB r.ready
  ·simp[Rq.okB,h1,h2]
  ·simp[-getElem?_pos,onP,Rq.okB,h1,h2]
def Qu.big (q:Qu):Bool:=decide (4<q.ms.length)||decide (6<q.rs.length)||!(q.ms.all fun l=>decide ((l.length:Int)≤6))
def Qu.bad (q:Qu):Bool:=!(q.ms.all fun l=>l.all Rg.hoursB)||!(q.rs.all fun r=>r.okB q.ms.length)
def Qu.check (q:Qu):Int:=if q.big=true then 3 else if q.bad=true then 1 else 0
def fewQ:PV→Bool
 |.lst _ _ ys=>decide ((ys.length:Int)≤6)
 |_=>true
def ZnH:PV→Bool
 |.lst _ _ ys=>ys.all ZjT
 |_=>true
def okQ (n:Nat):PV→Bool
 |.agg [.int _ a,.int _ b,.lst _ _ ys]=>manyB a&&manyB b&&decide ((ys.length:Int)=n)
 |_=>true
theorem Zep (q:Qu)(h1:q.ms.length≤1000000)(h2:q.rs.length≤1000000)(h3:∀l∈q.ms,l.length≤1000000):Gives Tryz.prog 27 [q.pv] (.int .i64 q.check):=by
 have e1:(q.ms.map rgsP).all fewQ=q.ms.all fun l=>decide ((l.length:Int)≤6):=by
  rw[List.all_map];congr 1;funext l;simp[fewQ,rgsP]
 have e2:(q.ms.map rgsP).all ZnH=q.ms.all fun l=>l.all Rg.hoursB:=by
  rw[List.all_map];congr 1;funext l;show((l.map Rg.pv).all ZjT)=_;rw[List.all_map];rfl
 have e3:(q.rs.map Rq.pv).all (okQ q.ms.length)=q.rs.all fun r=>r.okB q.ms.length:=by
  rw[List.all_map];congr 1;funext r;simp[okQ,Rq.pv,onP,Rq.okB]
 have a1:=ZmI (q.ms.map rgsP) 56 [] [] fewQ (fun x hx=>by
  obtain⟨l,_,rfl⟩:=Zwc.1 hx;exact few_c _) (by simpa using h1) (fun x hx=>by
  obtain⟨l,_,rfl⟩:=Zwc.1 hx;exact⟨_,rfl⟩)
 have a2:=ZmI (q.ms.map rgsP) 57 [] [] ZnH (fun x hx=>by
  obtain⟨l,hl,rfl⟩:=Zwc.1 hx
  have:=Zs8 l (h3 l hl)
  have e:ZnH (rgsP l)=l.all Rg.hoursB:=by show((l.map Rg.pv).all ZjT)=_;rw[List.all_map];rfl
  rw[e];exact this) (by simpa using h1) (fun x hx=>by
  obtain⟨l,_,rfl⟩:=Zwc.1 hx;exact⟨_,rfl⟩)
 have a3:=ZuS (q.rs.map Rq.pv) 60 [] [.ref [.lst false 1 (q.ms.map rgsP),.lst false 3 (q.rs.map Rq.pv)]] (okQ q.ms.length) (fun x hx=>by
  obtain⟨r,_,rfl⟩:=Zwc.1 hx;have e:okQ q.ms.length r.pv=r.okB q.ms.length:=by simp[okQ,Rq.pv,onP,Rq.okB]
  rw[e];exact run_c q r) (by simpa using h2) (fun x hx=>by
  obtain⟨r,_,rfl⟩:=Zwc.1 hx;exact⟨_,_,_,rfl⟩)
 rw[e1]at a1;rw[e2]at a2;rw[e3]at a3;have hb:q.big=(decide (4<q.ms.length)||decide (6<q.rs.length)||!(q.ms.all fun l=>decide ((l.length:Int)≤6))):=rfl;have hd:q.bad=(!(q.ms.all fun l=>l.all Rg.hoursB)||!(q.rs.all fun r=>r.okB q.ms.length)):=rfl;unfold Qu.check;generalize(q.ms.all fun l=>decide ((l.length:Int)≤6))=b1 at *;generalize(q.ms.all fun l=>l.all Rg.hoursB)=b2 at *;generalize(q.rs.all fun r=>r.okB q.ms.length)=b3 at *;refine cS L27 ?_;by_cases c1:4<q.ms.length
 ·have k1:(4:Int)<(q.ms.length:Int):=by omega
  have k1':¬((q.ms.length:Int)≤4):=by omega
  simp[-getElem?_pos,L27,Qu.pv,k1,k1',hb,c1]
 ·have d1:decide ((4:Int)<(q.ms.length:Int))=false:=by simp;omega
  by_cases c2:6<q.rs.length
  ·have d2:decide ((6:Int)<(q.rs.length:Int))=true:=by simp;omega
   simp[-getElem?_pos,-decide_eq_true_eq,-decide_eq_false_iff_not,L27,Qu.pv,d1,d2];simp[hb,c1,c2]
  ·have d2:decide ((6:Int)<(q.rs.length:Int))=false:=by simp;omega
   simp[-getElem?_pos,-decide_eq_true_eq,-decide_eq_false_iff_not,L27,Qu.pv,d1,d2];refine Zaa (k:=4) rfl rfl a1 rfl ?_;cases b1
   ·simp[-getElem?_pos,hb,c1,c2]
   ·simp[-getElem?_pos];refine Zaa (k:=4) rfl rfl a2 rfl ?_;cases b2
    ·simp[-getElem?_pos,hb,hd,c1,c2]
    ·simp[-getElem?_pos];refine Zaa (k:=4) rfl rfl a3 rfl ?_;cases b3<;>simp[-getElem?_pos,hb,hd,c1,c2]
def Qu.cells (q:Qu):List AV:=[.pv (.lst false 1 (q.ms.map rgsP)),.pv (.lst false 3 (q.rs.map Rq.pv))]

end
section
open Go.RowKit
attribute [local simp] Box.purge Site.isLoc
set_option maxRecDepth 10000
attribute [local simp] retFz frzL AS.frz AV.frz AV.frzL Box.frz AS.tidy AS.frzC

def intP (n:Int):PV:=.int .i64 n
def intsP (l:List Int):PV:=.lst false 1 (l.map intP)
def planP (p:List (List Int)):PV:=.lst false 1 (p.map intsP)
theorem wrapS {k:Nat}(h:k≤1000000):IntKind.i64.wrap ((k:Int)+1)=((k+1:Nat):Int):=by rw[wrap64 (by omega)];omega

def Rg.has (s:Rg)(h:Int):Bool:=decide (s.lo≤h)&&decide (h≤s.hi)
theorem Zs9 (s:Rg)(h:Int):Gives Tryz.prog 232 [s.pv,.ref [.int .i64 h]] (.bool (s.has h)):=by
 refine cS L232 ?_;simp[-getElem?_pos,L232,Rg.pv];refine Zaa (k:=0) rfl rfl (ZbX h s.lo s.hi) rfl ?_;simp[-getElem?_pos,Rg.has]
def hasQ (h:Int):PV→Bool
 |.agg [.int _ a,.int _ b]=>Rg.has ⟨a,b⟩ h
 |_=>false
def Qu.run (q:Qu)(i:Nat):Rq:=(q.rs[i]?).getD ⟨0,0,[]⟩
def Qu.stops (q:Qu)(m:Nat):List Rg:=(q.ms[m]?).getD []
def Qu.may (q:Qu)(i m:Nat)(h:Int):Bool:=((q.run i).on[m]?).getD false&&decide ((q.run i).ready≤h)&&!(q.stops m).any (Rg.has · h)
structure Qu.ok (q:Qu):Prop where
 m:q.ms.length≤4
 r:q.rs.length≤6
 s:∀l∈q.ms,l.length≤6
 x:∀l∈q.ms,∀y∈l,0≤y.lo∧y.lo≤y.hi∧y.hi≤39
 h:∀r∈q.rs,0≤r.hours∧r.hours≤40
 d:∀r∈q.rs,0≤r.ready∧r.ready≤40
 f:∀r∈q.rs,r.on.length=q.ms.length
theorem Qu.ok_of {q:Qu}(h:q.check=0):q.ok:=by
 unfold Qu.check at h;split at h
 ·cases h
 ·rename_i h1;split at h
  ·cases h
  ·rename_i h2;simp only[Qu.big,Bool.not_eq_true,Bool.or_eq_false_iff,decide_eq_false_iff_not,Bool.not_eq_false',Zwl,decide_eq_true_eq]at h1;simp only[Qu.bad,Bool.not_eq_true,Bool.or_eq_false_iff,Bool.not_eq_false',Zwl]at h2;obtain⟨⟨a1,a2⟩,a3⟩:=h1;obtain⟨b1,b2⟩:=h2;refine⟨by omega,by omega,fun l hl=>by have:=a3 l hl;omega,fun l hl y hy=>?_,fun r hr=>?_,fun r hr=>?_,fun r hr=>?_⟩
   ·have:=b1 l hl y hy
    simp only[Rg.hoursB,hourB,Zv2,decide_eq_true_eq]at this;omega
   all_goals
    have:=b2 r hr
    simp only[Rq.okB,manyB,Zv2,decide_eq_true_eq]at this;omega
theorem may_c (q:Qu)(hq:q.ok)(i m:Nat)(h:Int)(hi:i<q.rs.length)(hm:m<q.ms.length):Gives Tryz.prog 210 [q.pv,.int .i64 i,.int .i64 m,.int .i64 h] (.bool (q.may i m h)):=by
 obtain⟨r,hr⟩:∃r,q.rs[i]?=some r:=⟨q.rs[i],ZvZ hi⟩;obtain⟨l,hl⟩:∃l,q.ms[m]?=some l:=⟨q.ms[m],ZvZ hm⟩;obtain⟨b,hb⟩:∃b,r.on[m]?=some b:=⟨r.on[m]'(by rw[hq.f r (Zv3 hr)];exact hm),ZvZ _⟩;have hll:=hq.s l (Zv3 hl);have e:q.may i m h=(b&&decide (r.ready≤h)&&!l.any (Rg.has · h)):=by simp[Qu.may,Qu.run,Qu.stops,hr,hl,hb]
 have g1:(q.rs.map Rq.pv)[i]?=some (.agg [.int .i64 r.hours,.int .i64 r.ready,.lst false 1 (r.on.map PV.bool)]):=by rw[Zv0,hr];rfl
 have g2:(q.ms.map rgsP)[m]?=some (.lst false 2 (l.map Rg.pv)):=by rw[Zv0,hl];rfl
 have g3:(r.on.map PV.bool)[m]?=some (.bool b):=by rw[Zv0,hb];rfl
 have a1:=Zp4 (l.map Rg.pv) 232 [] [.ref [.int .i64 h]] (hasQ h) (fun x hx=>by
  obtain⟨s,_,rfl⟩:=Zwc.1 hx;exact Zs9 s h) (by simp;omega) (fun x hx=>by
  obtain⟨s,_,rfl⟩:=Zwc.1 hx;exact⟨_,_,rfl⟩)
 have e2:(l.map Rg.pv).any (hasQ h)=l.any (Rg.has · h):=by rw[List.any_map];rfl
 rw[e2]at a1;rw[e];generalize l.any (Rg.has · h)=c at *;clear e hll e2;refine cS L210 ?_;cases b
 ·simp[-getElem?_pos,-List.getElem?_map,L210,Qu.pv,g1,g3]
 ·by_cases hd:r.ready≤h
  ·simp[-getElem?_pos,-List.getElem?_map,L210,Qu.pv,g1,g2,g3,hd];refine Zaa (k:=4) (fs:=[]) (xs:=[.lst false 2 (l.map Rg.pv),.fn 232 [] [.ref [.int .i64 h]]]) (cs:=[]) rfl rfl a1 rfl ?_;simp[-getElem?_pos]
  ·simp[-getElem?_pos,-List.getElem?_map,L210,Qu.pv,g1,g2,g3,hd]
theorem Zcs {α:Type}{l:List α}{k:Nat}{x:α}(h:l[k]?=some x):l.take (k+1)=l.take k++[x]:=by rw[Zwf,h];rfl




theorem ZrB (l:List Int)(hl:l.length≤1000000):Gives Tryz.prog 29 [intsP l] (intsP l):=by
 refine Zak.weak2 ?_;refine cF [.loc 7 0] L29 ?_;cases l with
 |nil=>
  simp[-getElem?_pos,L29,intsP,nilOf,ZaJ,nble,opWp,osel];exact fun m v h=>ZbM h
 |cons a l=>
  have h1:l.length+1≤1000000:=by simpa using hl
  have hm:(l.map intP).take l.length=l.map intP:=Zv9 (by simp);simp[-getElem?_pos,L29,intsP,nilOf,nble,h1,hm]


end
section
open Go.RowKit
set_option maxRecDepth 10000
theorem Zem {P:Program}{C:Cons P}{c:C.S}{k:Nat}:((laid 0 (C.X c)).filter fun p=>!p.1.isLoc k).map (fun p=>(p.1,p.2.purge k))=laid 0 (C.X c):=Zfu (C.cl c)
theorem ZgJ {P:Program}{C:Cons P}{c:C.S}:(laid 0 (C.X c)).filter (fun p=>!p.1.lt C.m)=[]:=ZiH (by rw[C.len];omega)
section
attribute [local simp] Box.purge Site.isLoc
attribute [local simp] retFz frzL AS.frz AV.frz AV.frzL Box.frz AS.tidy AS.frzC
theorem Zvt:Gives Tryz.prog 65 [] (.agg [.int .i64 (-1),.int .i64 (-1),.int .i64 (-1),.int .i64 (-1)]):=by
 refine cS L65 ?_;simp[-getElem?_pos,L65];refine Zae (fun n τ=>(n=4∧τ=⟨[(0,.ptr (.loc 0 0) 0),(2,.pv (.int .i64 0))],[(.loc 0 0,.cells [.pv (.int .i64 0),.pv (.int .i64 0),.pv (.int .i64 0),.pv (.int .i64 0)])]⟩)∨
  (n=3∧τ=⟨[(0,.ptr (.loc 0 0) 0),(2,.pv (.int .i64 1))],[(.loc 0 0,.cells [.pv (.int .i64 (-1)),.pv (.int .i64 0),.pv (.int .i64 0),.pv (.int .i64 0)])]⟩)∨
  (n=2∧τ=⟨[(0,.ptr (.loc 0 0) 0),(2,.pv (.int .i64 2))],[(.loc 0 0,.cells [.pv (.int .i64 (-1)),.pv (.int .i64 (-1)),.pv (.int .i64 0),.pv (.int .i64 0)])]⟩)∨
  (n=1∧τ=⟨[(0,.ptr (.loc 0 0) 0),(2,.pv (.int .i64 3))],[(.loc 0 0,.cells [.pv (.int .i64 (-1)),.pv (.int .i64 (-1)),.pv (.int .i64 (-1)),.pv (.int .i64 0)])]⟩)∨
  (n=0∧τ=⟨[(0,.ptr (.loc 0 0) 0),(2,.pv (.int .i64 4))],[(.loc 0 0,.cells [.pv (.int .i64 (-1)),.pv (.int .i64 (-1)),.pv (.int .i64 (-1)),.pv (.int .i64 (-1))])]⟩)) ⟨4,_,Sub.mk (by simp) (by simp),.inl ⟨rfl,rfl⟩⟩ ?_
 have w1:IntKind.i64.wrap 1=1:=rfl;have w2:IntKind.i64.wrap 2=2:=rfl;have w3:IntKind.i64.wrap 3=3:=rfl;have w4:IntKind.i64.wrap 4=4:=rfl;have n3:natI 3=some 3:=rfl;rintro J hJ n τ (⟨rfl,rfl⟩|⟨rfl,rfl⟩|⟨rfl,rfl⟩|⟨rfl,rfl⟩|⟨rfl,rfl⟩)
 ·have hround:=hJ _ _ (.inr (.inl ⟨rfl,rfl⟩));clear hJ;simp[-getElem?_pos,w1,nblt,nble];exact⟨_,_,(by omega:3<4),Sub.mk (by simp) (by simp),hround⟩
 ·have hround:=hJ _ _ (.inr (.inr (.inl ⟨rfl,rfl⟩)));clear hJ;simp[-getElem?_pos,w2,nblt,nble];exact⟨_,_,(by omega:2<3),Sub.mk (by simp) (by simp),hround⟩
 ·have hround:=hJ _ _ (.inr (.inr (.inr (.inl ⟨rfl,rfl⟩))));clear hJ;simp[-getElem?_pos,w3,nblt,nble];exact⟨_,_,(by omega:1<2),Sub.mk (by simp) (by simp),hround⟩
 ·have hround:=hJ _ _ (.inr (.inr (.inr (.inr ⟨rfl,rfl⟩))));clear hJ;simp[-getElem?_pos,w4,n3,nblt,nble];exact⟨_,_,(by omega:0<1),Sub.mk (by simp) (by simp),hround⟩
 ·simp[-getElem?_pos]
def macF (q:Qu)(i:Nat)(h:Int):PV:=.fn 209 [] [.ref [.lst false 1 (q.ms.map rgsP),.lst false 3 (q.rs.map Rq.pv)],.ref [.int .i64 i],.ref [.int .i64 h]]
theorem Zfq (q:Qu)(i:Nat)(h:Int):Gives Tryz.prog 185 [q.pv,.int .i64 i,.int .i64 h] (macF q i h):=by
 refine cF [.loc 3 0,.loc 4 0,.loc 5 0] L185 ?_;simp[-getElem?_pos,L185,Qu.pv,unpvs,fnA];rfl
end
attribute [local simp] ZjQ ZjP ZjO Zgj Zjt Zju Zhl Zem
attribute [local simp] AV.map AV.mapL noRet Site.isRet Box.allS AV.allS AV.allSL AS.adds
def Qu.macs (q:Qu)(i:Nat)(h:Int)(k:Nat):List Nat:=((List.range q.ms.length).take k).filter (fun m=>q.may i m h)
theorem Qu.macs_next (q:Qu){i:Nat}{h:Int}{k:Nat}(hk:k<q.ms.length):q.macs i h (k+1)=q.macs i h k++(if q.may i k h=true then[k]else[]):=by
 have:(List.range q.ms.length)[k]?=some k:=by rw[List.getElem?_range hk]
 unfold Qu.macs;rw[Zcs this,ZwM,ZwJ,List.filter_nil]
end
section
open Go.RowKit
set_option maxRecDepth 10000
theorem ZiC {q:Qu}(hq:q.ok){i:Nat}{h:Int}{k:Nat}:∀m∈q.macs i h k,m<q.ms.length:=fun m hm=>by
 unfold Qu.macs at hm
 have:=List.mem_of_mem_take (Zwe.1 hm).1
 simpa using this
def bl (t:List Bool):List AV:=t.map fun b=>.pv (.bool b)
def il (w:List Int):List AV:=w.map fun n=>.pv (.int .i64 n)
theorem Zih {q:Site→Bool}:∀(l:List PV),AV.allSL q (l.map .pv)=true
 |[]=>rfl
 |a::r=>by simp[AV.allSL,AV.allS,Zih r]
theorem Zig {g:Site→Site}:∀(l:List PV),AV.mapL g (l.map .pv)=l.map .pv
 |[]=>rfl
 |a::r=>by simp[AV.mapL,AV.map,Zig r]
theorem Zjr {d:Nat}(l:List PV):(l.map AV.pv).map (AV.purge d)=l.map .pv:=by rw[List.map_map];rfl
theorem bl_pv (t:List Bool):bl t=(t.map PV.bool).map .pv:=by rw[List.map_map];rfl
theorem il_pv (t:List Int):il t=(t.map (PV.int .i64)).map .pv:=by rw[List.map_map];rfl
theorem ZpO {q:Site→Bool}{t:List Bool}:AV.allSL q (bl t)=true:=by rw[bl_pv];exact Zih _
theorem Zpa {q:Site→Bool}{t:List Int}:AV.allSL q (il t)=true:=by rw[il_pv];exact Zih _
theorem ZpN {g:Site→Site}{t:List Bool}:AV.mapL g (bl t)=bl t:=by rw[bl_pv];exact Zig _
theorem Zo9 {g:Site→Site}{t:List Int}:AV.mapL g (il t)=il t:=by rw[il_pv];exact Zig _
theorem ZmB {d:Nat}{t:List Bool}:(bl t).map (AV.purge d)=bl t:=by rw[bl_pv];exact Zjr _
theorem Zmj {d:Nat}{t:List Int}:(il t).map (AV.purge d)=il t:=by rw[il_pv];exact Zjr _
attribute [local simp] AS.exp expG Box.ren AV.map AV.mapL Zaw noRet Site.isRet Box.allS AV.allS AV.allSL retB dropL AS.adds renL outG outOk Zau inG fnOf lookA Zww
attribute [local simp] ZpO Zpa ZpN Zo9 ZmB Zmj
attribute [local simp] Box.purge Site.isLoc
end
section
open Go.RowKit
set_option maxRecDepth 10000
attribute [local simp] AS.exp expG Box.ren AV.map AV.mapL Zaw noRet Site.isRet Box.allS AV.allS AV.allSL retB dropL AS.adds renL outG outOk Zau inG fnOf lookA Zww
attribute [local simp] ZpO Zpa ZpN Zo9 ZmB Zmj
attribute [local simp] Box.purge Site.isLoc

end
section
open Go.RowKit
set_option maxRecDepth 10000
attribute [local simp] AS.exp expG Box.ren AV.map AV.mapL Zaw noRet Site.isRet Box.allS AV.allS AV.allSL dropL AS.adds renL outG outOk Zau inG fnOf lookA Zww
attribute [local simp] ZpO Zpa ZpN Zo9 ZmB Zmj
attribute [local simp] Box.purge Site.isLoc
def idle4:List Int:=[-1,-1,-1,-1]
end
section
open Go.RowKit
set_option maxRecDepth 10000
inductive Nd where
 |ru (r:Nat)
 |rh (r h:Nat)
 |mh (m h:Nat)
 deriving DecidableEq
def Nd.pv:Nd→PV
 |.ru r=>.agg [.int .i64 r,.int .i64 (-1),.int .i64 (-1)]
 |.rh r h=>.agg [.int .i64 r,.int .i64 (-1),.int .i64 h]
 |.mh m h=>.agg [.int .i64 (-1),.int .i64 m,.int .i64 h]
def Nd.kind:Nd→Nat
 |.ru _=>0
 |.rh _ _=>1
 |.mh _ _=>2
def rowP (r:List Int):PV:=.agg (r.map (PV.int .i64))
def plP (p:List (List Int)):List PV:=p.map rowP
def onR (l:List Int)(run:Int):Int:=match l.findIdx? (fun x=>decide (run=x))with
 |some i=>i
 |none=>-1
def onI (p:List (List Int))(run:Int)(h:Nat):Int:=onR ((p[h]?).getD []) run
def who (p:List (List Int))(h m:Nat):Int:=(((p[h]?).getD [])[m]?).getD (-1)
def layB (q:Qu)(p:List (List Int))(b:Nat):List Box:=[.cells [.pv (.lst false 1 (q.ms.map rgsP)),.pv (.lst false 3 (q.rs.map Rq.pv)),.vec (.par b) 4 0 p.length],.arr 88 4 (plP p)]
def four (p:List (List Int)):Prop:=∀l∈p,l.length=4
section
attribute [local simp] Box.purge Site.isLoc
attribute [local simp] retFz frzL AS.frz AV.frz AV.frzL Box.frz AS.tidy AS.frzC
theorem Zt1 (l:List Int)(hl:l.length≤1000)(v:Int):Gives Tryz.prog 147 [.lst false 1 (l.map (PV.int .i64)),.int .i64 v] (.int .i64 (onR l v)):=by
 refine cS L147 ?_;simp[-getElem?_pos,L147];refine Zae (fun n τ=>∃k:Nat,k≤l.length∧n=l.length-k∧(∀(j:Nat) (x:Int),j<k→l[j]?=some x→decide (v=x)=false)∧τ=⟨[(0,.pv (.lst false 1 (l.map (PV.int .i64)))),(1,.pv (.int .i64 v)),(7,.pv (.int .i64 l.length)),(8,.pv (.int .i64 k))],[]⟩)
  ⟨l.length,⟨[(0,.pv (.lst false 1 (l.map (PV.int .i64)))),(1,.pv (.int .i64 v)),(7,.pv (.int .i64 l.length)),(8,.pv (.int .i64 0))],[]⟩,Sub.mk (by simp) (by simp),0,Zwb _,rfl,(fun j x hj=>by omega),rfl⟩ ?_
 rintro J hJ n τ ⟨k,hk,rfl,hinv,rfl⟩;by_cases hlt:k<l.length
 ·obtain⟨x,hx⟩:∃x,l[k]?=some x:=⟨l[k],ZvZ hlt⟩;have hg:(l.map (PV.int .i64))[k]?=some (.int .i64 x):=by rw[Zv0,hx];rfl
  have hw:=wrapS (k:=k) (by omega);have hmeas:l.length-(k+1)<l.length-k:=by omega
  by_cases h1:v=x
  ·have hf:l.findIdx? (fun x=>decide (v=x))=some k:=by
    rw[ZwU];refine⟨hlt,by rw[(Zv1.1 hx).2];simpa using h1,fun j hj=>?_⟩
    have:=hinv j l[j] hj (ZvZ (by omega))
    simpa using this
   unfold onR;rw[hf];simp[-getElem?_pos,-List.getElem?_map,hlt,hg,h1]
  ·have hround:=hJ _ _ ⟨k+1,hlt,rfl,(fun j y hj hy=>by
    rcases Zw1.1 hj with h|h
    ·exact hinv j y h hy
    ·subst h;rw[hx]at hy;cases hy;simpa using h1),rfl⟩
   clear hJ;simp[-getElem?_pos,-List.getElem?_map,hlt,hg,h1,hw];exact⟨_,_,hmeas,Sub.mk (by simp) (by simp),hround⟩
 ·have hf:l.findIdx? (fun x=>decide (v=x))=none:=by
   rw[ZwV];intro x hx;obtain⟨j,hj⟩:=Zwa.1 hx;exact hinv j x (by have:=(Zv1.1 hj).1;omega) hj
  have he:k=l.length:=by omega
  subst he;unfold onR;rw[hf];simp[-getElem?_pos,-List.getElem?_map]
theorem on_c (x y:PV)(p:List (List Int))(hp:four p)(run:Int)(h:Nat)(hh:h<p.length):Gives Tryz.prog 184 [.ref [x,y,.lst false 4 (plP p)],.int .i64 run,.int .i64 h] (.int .i64 (onI p run h)):=by
 obtain⟨l,hl⟩:∃l,p[h]?=some l:=⟨p[h],ZvZ hh⟩;have h4:=hp l (Zv3 hl);have hg:(plP p)[h]?=some (.agg (l.map (PV.int .i64))):=by rw[plP,Zv0,hl];rfl
 have ht:(l.map (PV.int .i64)).take 4=l.map (PV.int .i64):=Zv9 (by simp[h4]);have e:onI p run h=onR l run:=by simp[onI,hl]
 rw[e];refine cS L184 ?_;have n4:natI 4=some 4:=rfl;simp[-getElem?_pos,-List.getElem?_map,L184,hg,n4,h4,ht,nble];refine Zaa (k:=0) (fs:=[]) (cs:=[]) rfl rfl (Zt1 l (by omega) run) rfl ?_;simp[-getElem?_pos]
theorem ZoT (n:Nd):Gives Tryz.prog 115 [n.pv] (.int .i64 n.kind):=by
 refine cS L115 ?_;cases n with
 |ru r=>simp[-getElem?_pos,L115,Nd.pv,Nd.kind]
 |rh r h=>
  have:¬((h:Int) = -1):=by omega
  simp[-getElem?_pos,L115,Nd.pv,Nd.kind,this]
 |mh m h=>
  have h1:¬((h:Int) = -1):=by omega
  have h2:¬((m:Int) = -1):=by omega
  simp[-getElem?_pos,L115,Nd.pv,Nd.kind,h1,h2]
def ZnJ:List PV:=[.agg [.fn 156 [] []],.agg [.fn 157 [] []],.agg [.fn 158 [] []]]
theorem Zta:Gives Tryz.prog 117 [] (.lst false 1 ZnJ):=by
 refine cF [.loc 4 0] L117 ?_;simp[-getElem?_pos,L117];rfl
end
def Zcz (p:List (List Int))(r:Nat)(k:Nat):List Nd:=(((List.range p.length).take k).filter fun h=>decide (onI p r h = -1)).map (Nd.rh r)
def ZfG (p:List (List Int))(r:Nat):List Nd:=Zcz p r p.length
theorem ZkP {p:List (List Int)}{r k:Nat}(hk:k<p.length):Zcz p r (k+1)=Zcz p r k++(if onI p r k = -1 then[.rh r k]else[]):=by
 have:(List.range p.length)[k]?=some k:=by rw[List.getElem?_range hk]
 unfold Zcz;rw[Zcs this,ZwM,Zwp,ZwJ,List.filter_nil];by_cases h:onI p r k = -1<;>simp[h]
theorem Zhu {p:List (List Int)}{r k:Nat}:(Zcz p r k).length≤k:=by
 unfold Zcz;rw[Zv6];refine Zwh (ZwN _ _) ?_;rw[Zv8];omega
attribute [local simp] AS.exp expG Box.ren AV.map AV.mapL Zaw noRet Site.isRet Box.allS AV.allS AV.allSL retB dropL AS.adds renL outG outOk Zau inG fnOf lookA Zww
attribute [local simp] Box.purge Site.isLoc
def nodB (l:List Nd):List (Site×Box):=[(.ret 0,.arr 197 3 (l.map Nd.pv))]
set_option maxHeartbeats 4000000 in
theorem ZqZ (q:Qu)(p:List (List Int))(hp:four p)(hl:p.length≤1000)(r:Nat):
  Zak Tryz.prog 156 [.ptr (.par 0) 0,.pv (Nd.ru r).pv] (laid 0 (layB q p 1)) (fun x B=>x=.vec (.ret 0) 3 0 (ZfG p r).length∧B=nodB (ZfG p r)++laid 0 (layB q p 1)):=by
 refine cBR [.loc 26 0,.par 0,.par 1] L156 ?_;intro R hR;simp[-getElem?_pos,L156,layB,laid,Nd.pv];refine Zae (fun n τ=>∃k:Nat,k≤p.length∧n=p.length-k∧τ=⟨[(0,.ptr (.par 0) 0),(3,.ptr (.loc 3 0) 0),(4,.vec (.loc 26 0) 3 0 (Zcz p r k).length),(10,.pv (.int .i64 p.length)),(11,.pv (.int .i64 k))],[(.loc 26 0,.arr 197 3 ((Zcz p r k).map Nd.pv)),(.loc 3 0,.cells [.pv (.int .i64 r),.pv (.int .i64 (-1)),.pv (.int .i64 (-1))])]++laid 0 (layB q p 1)⟩)
  ⟨p.length,⟨[(0,.ptr (.par 0) 0),(3,.ptr (.loc 3 0) 0),(4,.vec (.loc 26 0) 3 0 0),(10,.pv (.int .i64 p.length)),(11,.pv (.int .i64 0))],[(.loc 26 0,.arr 197 3 []),(.loc 3 0,.cells [.pv (.int .i64 r),.pv (.int .i64 (-1)),.pv (.int .i64 (-1))])]++laid 0 (layB q p 1)⟩,Sub.trans' (Sub.mk (by simp[AS.vecT]) (by simp[AS.vecT,layB,laid])) (vecT 26 197 3 4 rfl (by decide)),0,Zwb _,rfl,by simp[Zcz]⟩ ?_
 rintro J hJ n τ ⟨k,hk,rfl,rfl⟩;by_cases hlt:k<p.length
 ·have hw:=wrapS (k:=k) (by omega);have hmeas:p.length-(k+1)<p.length-k:=by omega
  have hround:=hJ _ _ ⟨k+1,hlt,rfl,rfl⟩;have hnx:=ZkP (r:=r) hlt;have hln:=Zhu (p:=p) (r:=r) (k:=k);have hon:=on_c (.lst false 1 (q.ms.map rgsP)) (.lst false 3 (q.rs.map Rq.pv)) p hp r k hlt;have hk6:(Zcz p r k).length+1≤1000000:=by omega
  have hpt:(plP p).take p.length=plP p:=Zv9 (by simp[plP]);have hpl:(plP p).length=p.length:=by simp[plP]
  clear hJ;generalize Zcz p r (k+1)=N2 at *;generalize Zcz p r k=N1 at *;simp[-getElem?_pos,-List.getElem?_map,layB,laid,hlt];refine Zaa (k:=3) (fs:=[]) (xs:=[.ref [.lst false 1 (q.ms.map rgsP),.lst false 3 (q.rs.map Rq.pv),.lst false 4 (plP p)],.int .i64 r,.int .i64 k]) (cs:=[]) rfl ?_ hon rfl ?_
  ·simp[snapW,AV.snap,AV.snap0,hpl,hpt]
  by_cases ho:onI p r k = -1
  ·rw[if_pos ho]at hnx;subst hnx;simp[-getElem?_pos,-List.getElem?_map,ho,nble,hk6,hw];refine⟨_,_,hmeas,Sub.mk ?_ ?_,hround⟩
   ·simp
   ·simp[layB,laid,Nd.pv]
  ·rw[if_neg ho,Zwn]at hnx;subst hnx;simp[-getElem?_pos,-List.getElem?_map,ho,hw];refine⟨_,_,hmeas,Sub.mk ?_ ?_,hround⟩
   ·simp
   ·simp[layB,laid]
 ·have he:k=p.length:=by omega
  subst he;simp[-getElem?_pos,-List.getElem?_map,layB,laid];rw[←hR];exact⟨rfl,by simp[nodB,layB,laid,ZfG]⟩
theorem ZlE {p:List (List Int)}{h m:Nat}{l:List Int}{x:Int}(h1:p[h]?=some l)(h2:l[m]?=some x):who p h m=x:=by simp[who,h1,h2]
theorem ZqU (q:Qu)(p:List (List Int))(hp:four p)(m h:Nat)(hm:m<4)(hh:h<p.length)(r:Nat)(hr:who p h m=r):
  Zak Tryz.prog 158 [.ptr (.par 0) 0,.pv (Nd.mh m h).pv] (laid 0 (layB q p 1)) (fun x B=>x=.vec (.ret 0) 3 0 1∧B=nodB [.rh r h]++laid 0 (layB q p 1)):=by
 obtain⟨l,hl⟩:∃l,p[h]?=some l:=⟨p[h],ZvZ hh⟩;have h4:=hp l (Zv3 hl);obtain⟨x,hx⟩:∃x,l[m]?=some x:=⟨l[m]'(by omega),ZvZ _⟩;rw[ZlE hl hx]at hr;subst hr;have hg:(plP p)[h]?=some (.agg (l.map (PV.int .i64))):=by rw[plP,Zv0,hl];rfl
 have hg2:(l.map (PV.int .i64))[m]?=some (.int .i64 r):=by rw[Zv0,hx];rfl
 refine cB [.loc 19 0,.par 0,.par 1] L158 ?_;simp[-getElem?_pos,-List.getElem?_map,L158,layB,laid,Nd.pv,nblt,nble,hh,hm,hg,hg2,nodB]
end
section
open Go.RowKit
set_option maxRecDepth 10000
attribute [local simp] AS.exp expG Box.ren AV.map AV.mapL Zaw noRet Site.isRet Box.allS AV.allS AV.allSL retB dropL AS.adds renL outG outOk Zau inG fnOf lookA Zww
attribute [local simp] Box.purge Site.isLoc
theorem cok111:COk Tryz.prog (tyOf tys) L157.code:=ZgD L157_ok L157_tab
noncomputable def skR:Box:=.loop (rcode Tryz.prog 157 0) [15] 50 [(2,.ptr (.par 3) 0),(3,.ptr (.par 4) 0),(4,.ptr (.par 5) 0)] none
def skL (q:Qu)(p:List (List Int))(r h:Nat)(e:Site)(s:List Nd):List (Site×Box):=
 [(.par 1,.cells [.pv (.lst false 1 (q.ms.map rgsP)),.pv (.lst false 3 (q.rs.map Rq.pv)),.vec (.par 2) 4 0 p.length]),(.par 2,.arr 88 4 (plP p)),(.par 3,.cells [.ptr (.par 1) 0]),(.par 4,.cells [.pv (.int .i64 r),.pv (.int .i64 (-1)),.pv (.int .i64 h)]),(.par 5,.cells [.vec e 3 0 s.length])]
noncomputable def skB (q:Qu)(p:List (List Int))(r h:Nat)(e:Site)(s:List Nd):List (Site×Box):=(.par 0,skR)::skL q p r h e s++[(e,.arr 197 3 (s.map Nd.pv))]
noncomputable def skA (q:Qu)(p:List (List Int))(r h:Nat)(s:List Nd):List (Site×Box):=(.par 0,skR)::(.ret 0,.arr 197 3 (s.map Nd.pv))::skL q p r h (.ret 0) s
set_option maxHeartbeats 4000000 in
theorem ZnZ (q:Qu)(p:List (List Int))(hp:four p)(r h:Nat)(hh:h<p.length)(s:List Nd)(hs:s.length≤1000)(m:Nat)(hm:m<4):
  ZcT Tryz.prog 0 [.pv (.int .i64 m)] (skB q p r h (.par 6) s) (fun x B=>x=.pv (.bool true)∧B=if who p h m=r then skB q p r h (.par 6) s else skA q p r h (s++[.mh m h])):=by
 obtain⟨l,hl⟩:∃l,p[h]?=some l:=⟨p[h],ZvZ hh⟩;have h4:=hp l (Zv3 hl);obtain⟨x,hx⟩:∃x,l[m]?=some x:=⟨l[m]'(by omega),ZvZ _⟩;have hwho:=ZlE hl hx;have hg:(plP p)[h]?=some (.agg (l.map (PV.int .i64))):=by rw[plP,Zv0,hl];rfl
 have hg2:(l.map (PV.int .i64))[m]?=some (.int .i64 x):=by rw[Zv0,hx];rfl
 have hs6:s.length+1≤1000000:=by omega
 have hcok:COk Tryz.prog (tyOf tys) (.rng 50 (.t 14) (rcode Tryz.prog 157 0) Y157_0a Y157_0b [15]):=cok111.2.1.2;refine Zbc mixed hcok.1 hcok.2.1 rfl rfl (by simp) rfl ?_;rw[hwho];generalize hR:(fun(z:AV) (B:List (Site×Box))=>z=.pv (.bool true)∧B=if x=(r:Int)then skB q p r h (.par 6) s else skA q p r h (s++[.mh m h]))=R;by_cases hxr:x=(r:Int)
 ·subst hxr;simp[-getElem?_pos,-List.getElem?_map,Y157_0a,Y157_0b,skB,skR,skL,putL,nblt,nble,hh,hm,hg,hg2];refine⟨[],[.par 1,.par 2,.par 3,.par 4,.par 5,.par 6],rfl,rfl,?_,?_⟩
  ·simp[frzL]
  ·rw[←hR];simp[skB,skR,skL,frzL]
 ·simp[-getElem?_pos,-List.getElem?_map,Y157_0a,Y157_0b,skB,skR,skL,putL,nblt,nble,hh,hm,hg,hg2,hxr,hs6];refine⟨[],[.loc 35 0,.par 1,.par 2,.par 3,.par 4,.par 5],rfl,rfl,?_,?_⟩
  ·simp[frzL]
  ·rw[←hR];simp[skA,skR,skL,frzL,hxr,Nd.pv]
def seekK (q:Qu)(p:List (List Int))(r h k:Nat):List Nd:=((q.macs r h k).filter fun m=>!decide (who p h m=r)).map (Nd.mh · h)
theorem ZmR (q:Qu){p:List (List Int)}{r h k:Nat}(hk:k<q.ms.length):seekK q p r h (k+1)=seekK q p r h k++(if q.may r k h=true∧¬who p h k=r then[.mh k h]else[]):=by
 unfold seekK;rw[q.macs_next hk,ZwM,Zwp];cases hm:q.may r k h<;>by_cases hw:who p h k=r<;>simp[hw]
theorem Zgd {q:Qu}{p:List (List Int)}{r h k:Nat}:(seekK q p r h k).length≤k:=by
 unfold seekK Qu.macs;rw[Zv6];refine Zwh (ZwN _ _) (Zwh (ZwN _ _) ?_);rw[Zv8];omega
noncomputable def skF (q:Qu)(p:List (List Int))(r h:Nat)(s:List Nd):List (Site×Box):=(.ret 0,.arr 197 3 (s.map Nd.pv))::(.par 0,skR)::skL q p r h (.ret 0) s
def skV (q:Qu)(r h k:Nat):List (Nat×AV):=[(0,.yld (.par 0)),(2,.pv (.ref [.int .i64 r])),(3,.pv (.ref [.int .i64 h])),(5,.pv (.fn 210 [q.pv] [])),(11,.pv (.int .i64 q.ms.length)),(12,.pv (.int .i64 k))]
set_option maxHeartbeats 8000000 in
theorem Ztk (q:Qu)(hq:q.ok)(p:List (List Int))(hp:four p)(r h:Nat)(hr:r<q.rs.length)(hh:h<p.length):
  Zak Tryz.prog 209 [.yld (.par 0),.pv (.ref [.lst false 1 (q.ms.map rgsP),.lst false 3 (q.rs.map Rq.pv)]),.pv (.ref [.int .i64 r]),.pv (.ref [.int .i64 h])] (skB q p r h (.par 6) []) (fun x B=>x=.pv (.tup [])∧B=skF q p r h (seekK q p r h q.ms.length)):=by
 have hqm:=hq.m;refine cBR [.loc 23 0,.par 0,.par 1,.par 2,.par 3,.par 4,.par 5] L209 ?_;intro R hR;simp[-getElem?_pos,L209];refine Zae (fun n τ=>∃(k:Nat),k≤q.ms.length∧n=q.ms.length-k∧τ=⟨skV q r h k,skB q p r h (.loc 23 0) (seekK q p r h k)⟩)
  ⟨q.ms.length,⟨skV q r h 0,skB q p r h (.loc 23 0) []⟩,Sub.trans' (Sub.mk ?_ ?_) (Sub.ren 23 (.par 6) _),0,Zwb _,rfl,by simp[seekK,Qu.macs]⟩ ?_
 ·simp[AS.ren,skV,skB,skL,skR,renS,Qu.pv]
 ·simp[AS.ren,skV,skB,skL,skR,renS]
 rintro J hJ n τ ⟨k,hk,rfl,rfl⟩;by_cases hlt:k<q.ms.length
 ·have hw:=wrapS (k:=k) (by omega);have hmeas:q.ms.length-(k+1)<q.ms.length-k:=by omega
  have hmay:=may_c q hq r k h hr hlt;have hnx:=ZmR q (p:=p) (r:=r) (h:=h) hlt;have hlt':(k:Int)<(q.ms.length:Int):=by omega
  have hround:=hJ _ _ ⟨k+1,hlt,rfl,rfl⟩;have hsl:=Zgd (q:=q) (p:=p) (r:=r) (h:=h) (k:=k);have hY:=ZnZ q p hp r h hh (seekK q p r h k) (by omega) k (by omega);clear hJ;generalize seekK q p r h (k+1)=S2 at *;generalize seekK q p r h k=S1 at *;simp[-getElem?_pos,-List.getElem?_map,skV,hlt,hlt'];refine Zaa (k:=0) (fs:=[q.pv]) (xs:=[.int .i64 r,.int .i64 k,.int .i64 h]) (cs:=[]) rfl rfl hmay rfl ?_;cases hm:q.may r k h
  ·rw[hm,if_neg (by simp),Zwn]at hnx;subst hnx;simp[-getElem?_pos,-List.getElem?_map,hw];refine⟨_,_,hmeas,Sub.mk ?_ ?_,hround⟩
   ·simp[skV]
   ·simp[skB,skL,skR]
  ·simp[-getElem?_pos,-List.getElem?_map,skB,skL,skR];refine ZmL 1023 0 [.par 0,.par 1,.par 2,.par 3,.par 4,.par 5,.loc 23 0] (as':=[.pv (.int .i64 k)]) rfl rfl rfl rfl ?_ rfl rfl hY ?_
   ·simp[skB,skL,skR]
   rintro x B ⟨rfl,rfl⟩;by_cases hwr:who p h k=r
   ·rw[if_neg (by simp[hwr]),Zwn]at hnx;subst hnx;rw[if_pos hwr];refine⟨rfl,by simp[skB,skL,skR],?_⟩;simp[-getElem?_pos,-List.getElem?_map,skB,skL,skR,hw];refine⟨_,_,hmeas,Sub.mk ?_ ?_,hround⟩
    ·simp[skV]
    ·simp[skB,skL,skR]
   ·rw[if_pos ⟨hm,hwr⟩]at hnx;subst hnx;rw[if_neg hwr];refine⟨rfl,by simp[skA,skL,skR],?_⟩;simp[-getElem?_pos,-List.getElem?_map,skA,skL,skR,hw];refine⟨_,_,hmeas,Sub.trans' (Sub.mk ?_ ?_) (Sub.ren 23 (.loc 1023 0) _),hround⟩
    ·simp[AS.ren,renS,skV]
    ·simp[AS.ren,renS,skB,skL,skR,Nd.pv]
 ·have he:k=q.ms.length:=by omega
  subst he;simp[-getElem?_pos,-List.getElem?_map,skV,skB,skL,skR];rw[←hR];simp[skF,skL,skR]
def ZeA (q:Qu)(p:List (List Int))(r h:Nat):List Nd:=seekK q p r h q.ms.length++(if onI p r h = -1 then[]else[.ru r])
set_option maxHeartbeats 8000000 in
theorem ZqW (q:Qu)(hq:q.ok)(p:List (List Int))(hp:four p)(r h:Nat)(hr:r<q.rs.length)(hh:h<p.length):
  Zak Tryz.prog 157 [.ptr (.par 0) 0,.pv (Nd.rh r h).pv] (laid 0 (layB q p 1)) (fun x B=>x=.vec (.ret 0) 3 0 (ZeA q p r h).length∧B=nodB (ZeA q p r h)++laid 0 (layB q p 1)):=by
 have hqm:=hq.m;have hit:=Ztk q hq p hp r h hr hh;have hon:=on_c (.lst false 1 (q.ms.map rgsP)) (.lst false 3 (q.rs.map Rq.pv)) p hp r h hh;have hsl:=Zgd (q:=q) (p:=p) (r:=r) (h:=h) (k:=q.ms.length);have hpt:(plP p).take p.length=plP p:=Zv9 (by simp[plP]);have hpl:(plP p).length=p.length:=by simp[plP]
 have hS:ZeA q p r h=seekK q p r h q.ms.length++(if onI p r h = -1 then[]else[.ru r]):=rfl;refine cE L157 ?_;generalize hR:(fun(x:AV) (B:List (Site×Box))=>x=.vec (.ret 0) 3 0 (ZeA q p r h).length∧B=nodB (ZeA q p r h)++laid 0 (layB q p 1))=R;generalize ZeA q p r h=S at *;generalize seekK q p r h q.ms.length=S1 at *;have hs6:S1.length+1≤1000000:=by omega
 simp[-getElem?_pos,-List.getElem?_map,L157,layB,laid,Nd.pv];refine .inl (cQ [] [q.pv,.int .i64 r,.int .i64 h] (Zfq q r h) ?_);simp[-getElem?_pos,-List.getElem?_map,frzsL,macF];refine Ztx (vecC 60 197 3 (s:=.loc 4 0) (cs:=[.pv (.emp (some true))]) 0 rfl rfl (by decide)) ?_;refine ZdT [.loc 50 0,.par 0,.par 1,.loc 2 0,.loc 3 0,.loc 4 0,.loc 60 0] [(2,.ptr (.loc 2 0) 0),(3,.ptr (.loc 3 0) 0),(4,.ptr (.loc 4 0) 0)] (gf:=209) (fs:=[]) (cs:=[.pv (.ref [.lst false 1 (q.ms.map rgsP),.lst false 3 (q.rs.map Rq.pv)]),.pv (.ref [.int .i64 r]),.pv (.ref [.int .i64 h])]) ?_ ?_ rfl rfl ?_ ?_ ?_ hit ?_
 ·rfl
 ·simp[AS.vecC]
 ·simp[AS.vecC,skB,skL,skR]
 ·rfl
 ·rfl
 rintro x B ⟨rfl,rfl⟩;refine⟨rfl,by simp[skF,skL,skR],?_⟩;refine⟨_,_,_,_,_,rfl,?_⟩;simp[-getElem?_pos,-List.getElem?_map,AS.vecC,skF,skL,skR,jumpQ];refine Zaa (k:=3) (fs:=[]) (xs:=[.ref [.lst false 1 (q.ms.map rgsP),.lst false 3 (q.rs.map Rq.pv),.lst false 4 (plP p)],.int .i64 r,.int .i64 h]) (cs:=[]) rfl ?_ hon rfl ?_
 ·simp[snapW,AV.snap,AV.snap0,hpl,hpt]
 by_cases ho:onI p r h = -1
 ·rw[if_pos ho,Zwn]at hS;subst hS;simp[-getElem?_pos,-List.getElem?_map,ho];refine⟨[.loc 51 0,.par 0,.par 1],?_⟩;simp;rw[←hR];simp[nodB,layB,laid]
 ·rw[if_neg ho]at hS;subst hS;simp[-getElem?_pos,-List.getElem?_map,ho,nble,hs6];refine⟨[.loc 48 0,.par 0,.par 1],?_⟩;simp;rw[←hR];simp[nodB,layB,laid,Nd.pv]
end
section
open Go.RowKit
set_option maxRecDepth 10000
abbrev By:=List (Nd×Nd)
def par (by':By)(n:Nd):Option Nd:=(by'.find? fun e=>decide (n=e.1)).map (·.2)
def byP (by':By):List (PV×PV):=by'.map fun e=>(e.1.pv,e.2.pv)
def Nd.a:Nd→Int
 |.ru r=>r
 |.rh r _=>r
 |.mh _ _=>-1
def Nd.b:Nd→Int
 |.mh m _=>m
 |_=>-1
def Nd.c:Nd→Int
 |.ru _=>-1
 |.rh _ h=>h
 |.mh _ h=>h
theorem Nd.pv_eq (n:Nd):n.pv=.agg [.int .i64 n.a,.int .i64 n.b,.int .i64 n.c]:=by cases n<;>rfl
theorem ZoL (a b:Nd):eqK a.pv b.pv=decide (a=b):=by
 rw[ZwD];cases a<;>cases b<;>simp[eqK,Nd.pv,eqL,eqC,PV.cells]<;>omega
theorem ZiQ (n:Nd):∀by':By,findV n.pv (byP by')=(par by' n).map Nd.pv
 |[]=>rfl
 |e::r=>by
  have ih:=ZiQ n r;unfold byP at ih ⊢;rw[Zwd,findV,ZoL];unfold par at ih ⊢;rw[List.find?_cons];cases decide (n=e.1)with
  |true=>rfl
  |false=>exact ih
theorem Zop {n b:Nd}:∀{by':By},par by' n=none→putK n.pv b.pv (byP by')=byP (by'++[(n,b)])
 |[],_=>rfl
 |e::r,h=>by
  unfold par at h;rw[List.find?_cons]at h;unfold byP;rw[Zwd,putK,ZoL];cases hd:decide (n=e.1)with
  |true=>rw[hd]at h;simp at h
  |false=>
   rw[hd]at h
   have:=Zop (n:=n) (b:=b) (by':=r) h
   unfold byP at this;simp[this]
theorem kt_nd (n:Nd):KT.ok ⟨true,[.int .i64,.int .i64,.int .i64]⟩ n.pv=true:=by cases n<;>rfl
theorem ZoU (by':By):ZbD ⟨true,[.int .i64,.int .i64,.int .i64]⟩ (byP by')=true:=by
 unfold ZbD byP;rw[List.all_map,Zwl];exact fun e _=>kt_nd e.1
def setP (p:List (List Int))(h m:Nat)(x:Int):List (List Int):=p.set h (((p[h]?).getD []).set m x)
def chg1 (n b:Nd)(p:List (List Int)):List (List Int):=match n,b with
 |.mh m h,b=>setP p h m b.a
 |.rh _ h,.mh m _=>setP p h m (-1)
 |_,_=>p
def chg (by':By):Nat→Nd→List (List Int)→List (List Int)
 |0,_,p=>p
 |f+1,n,p=>match par by' n with
  |none=>p
  |some b=>if n=b then p else chg by' f b (chg1 n b p)
theorem ZcH {p:List (List Int)}{h m:Nat}{x:Int}:(setP p h m x).length=p.length:=by simp[setP]
theorem Zji {p:List (List Int)}(hp:four p){h m:Nat}{x:Int}(hh:h<p.length):four (setP p h m x):=fun l hl=>by
 rcases List.mem_or_eq_of_mem_set hl with h1|h1
 ·exact hp l h1
 ·subst h1
  have:p[h]?=some p[h]:=ZvZ hh
  rw[this];simp[hp _ (ZwA hh)]
theorem Zmx {n b:Nd}{p:List (List Int)}:(chg1 n b p).length=p.length:=by
 cases n<;>cases b<;>simp[chg1,ZcH]
theorem ZmP {l:List PV}{m:Nat}{x:PV}(hm:m<l.length):splice l m [x]=l.set m x:=by
 have hs:m+[x].length≤l.length:=by simp;omega
 apply List.ext_getElem?;intro j;rw[Zap hs];by_cases e:j=m
 ·subst e;rw[if_neg (by omega),if_pos (by simp),ZwX hm];simp
 ·rw[Zw0 (fun e'=>e e'.symm)];split
  ·rfl
  ·rw[if_neg (by simp;omega)]
theorem Zor {p:List (List Int)}{h m:Nat}{l:List Int}{x:Int}(hl:p[h]?=some l)(hm:m<l.length):(plP p).set h (.agg (splice (l.map (PV.int .i64)) m [.int .i64 x]))=plP (setP p h m x):=by
 rw[ZmP (by simpa using hm),plP,plP,setP,hl,List.map_set];simp only[ZwG,rowP];rw[List.map_set]
def Nd.ok (q:Qu)(p:List (List Int)):Nd→Prop
 |.ru r=>r<q.rs.length
 |.rh r h=>r<q.rs.length∧h<p.length
 |.mh m h=>m<q.ms.length∧h<p.length
structure ByOk (q:Qu)(p:List (List Int))(by':By):Prop where
 nd:(by'.map (·.1)).Nodup
 ok:∀e∈by',e.1.ok q p∧e.2.ok q p
 up:∀(i:Nat) (e:Nd×Nd),by'[i]?=some e→e.1=e.2∨∃(j:Nat) (e':Nd×Nd),j<i∧by'[j]?=some e'∧e'.1=e.2
theorem ZlY {by':By}(hn:(by'.map (·.1)).Nodup){i:Nat}{e:Nd×Nd}(h:by'[i]?=some e):par by' e.1=some e.2:=by
 induction by' generalizing i with
 |nil=>simp at h
 |cons a r ih=>
  rw[Zwd,List.nodup_cons]at hn;unfold par;rw[List.find?_cons];cases i with
  |zero=>simp at h;subst h;simp
  |succ i=>
   have h':r[i]?=some e:=by simpa using h
   have hne:¬e.1=a.1:=fun e'=>hn.1 (by rw[←e'];exact Zwc.2 ⟨e,Zv3 h',rfl⟩)
   rw[decide_eq_false hne];exact ih hn.2 h'
theorem Nd.ok_len {q:Qu}{p p':List (List Int)}(h:p'.length=p.length){n:Nd}(hn:n.ok q p):n.ok q p':=by
 cases n with
 |ru r=>exact hn
 |rh r k=>exact⟨hn.1,by rw[h];exact hn.2⟩
 |mh m k=>exact⟨hn.1,by rw[h];exact hn.2⟩
attribute [local simp] AS.exp expG Box.ren AV.map AV.mapL Zaw noRet Site.isRet Box.allS AV.allS AV.allSL retB dropL AS.adds renL outG outOk Zau inG fnOf lookA Zww
attribute [local simp] Box.purge Site.isLoc
def chgB (q:Qu)(p:List (List Int))(by':By):List Box:=layB q p 1++[.map (byP by')]
def chgS (q:Qu)(p:List (List Int))(by':By)(n:Nd):AS:=⟨[(0,.ptr (.par 0) 0),(2,.mp (.par 2)),(4,.ptr (.loc 4 0) 0)],(.loc 4 0,.cells [.pv (.int .i64 n.a),.pv (.int .i64 n.b),.pv (.int .i64 n.c)])::laid 0 (chgB q p by')⟩
set_option maxHeartbeats 16000000 in
theorem ZrF (q:Qu)(hq:q.ok)(by':By)(p0:List (List Int))(hb:ByOk q p0 by')(hp0:four p0)(i0:Nat)(n0 b0:Nd)(hi0:by'[i0]?=some (n0,b0)):
  Zak Tryz.prog 116 [.ptr (.par 0) 0,.pv n0.pv,.mp (.par 2)] (laid 0 (chgB q p0 by')) (fun x B=>x=.pv (.tup [])∧B=laid 0 (chgB q (chg by' by'.length n0 p0) by')):=by
 have hqm:=hq.m;refine cBR [.par 0,.par 1,.par 2] L116 ?_;intro R hR;obtain⟨RES,hRES⟩:∃z,z=chg by' by'.length n0 p0:=⟨_,rfl⟩
 rw[←hRES]at hR;rw[Nd.pv_eq];simp[-getElem?_pos,L116,chgB,layB,laid];refine Zae (fun k τ=>∃(p:List (List Int)) (n b:Nd) (f:Nat),by'[k]?=some (n,b)∧k<f∧chg by' f n p=RES∧four p∧p.length=p0.length∧τ=chgS q p by' n)
  ⟨i0,chgS q p0 by' n0,Sub.mk (by simp) (by simp[chgB,layB,laid]),p0,n0,b0,by'.length,hi0,(Zv1.1 hi0).1,hRES.symm,hp0,rfl,rfl⟩ ?_
 clear hRES;rintro J hJ k τ ⟨p,n,b,f,hk,hf,hres,hp,hlen,rfl⟩;have hpar:=ZlY hb.nd hk;have hfind:=ZiQ n by'
 rw[hpar]at hfind;simp only[Zwu]at hfind;have hE:=ZoL n b;have hkn:=ZoT n;have hkb:=ZoT b;have hkt:=kt_nd n;have hktb:=kt_nd b;have hks:=ZoU by'
 obtain⟨okn,okb⟩:=hb.ok _ (Zv3 hk);have okn:=Nd.ok_len hlen okn;have okb:=Nd.ok_len hlen okb;obtain⟨f',rfl⟩:∃f',f=f'+1:=⟨f-1,by omega⟩;have hch:chg by' (f'+1) n p=if n=b then p else chg by' f' b (chg1 n b p):=by rw[chg,hpar]
 rw[hch]at hres;by_cases hnb:n=b
 ·rw[if_pos hnb]at hres;subst hres;clear hJ;rw[decide_eq_true hnb]at hE;rw[Nd.pv_eq,Nd.pv_eq]at hE;rw[Nd.pv_eq,Nd.pv_eq]at hfind;rw[Nd.pv_eq]at hkt hktb;simp[-getElem?_pos,-eqK,-KT.ok,chgS,chgB,layB,laid,hE,hfind,hkt,hktb,hks];rw[←hR];simp[chgB,layB,laid]
 ·rw[if_neg hnb]at hres;rw[decide_eq_false hnb]at hE;obtain⟨j,e',hj,hj1,hj2⟩:∃(j:Nat) (e':Nd×Nd),j<k∧by'[j]?=some e'∧e'.1=b:=by
   rcases hb.up k _ hk with h|h
   ·exact absurd h hnb
   ·exact h
  have hround:=hJ j (chgS q (chg1 n b p) by' b) ⟨chg1 n b p,b,e'.2,f',by rw[hj1,←hj2],by omega,hres,(by
   cases n<;>cases b<;>first|exact hp|exact Zji hp okn.2),by rw[Zmx];exact hlen,rfl⟩
  clear hJ hres hch hb;cases n with
  |mh m h=>
   obtain⟨l,hl⟩:∃l,p[h]?=some l:=⟨p[h]'okn.2,ZvZ _⟩;have h4:=hp l (Zv3 hl);have hmm:m<q.ms.length:=okn.1;have hm4:m<4:=by omega
   have hh:h<p.length:=okn.2;have hg:(plP p)[h]?=some (.agg (l.map (PV.int .i64))):=by rw[plP,Zv0,hl];rfl
   have hset:=Zor (x:=b.a) hl (m:=m) (by omega);have hpl:(plP p).length=p.length:=by simp[plP]
   have hm1:m+1≤4:=by omega
   rw[Nd.pv_eq b]at hE hfind hktb hkb;simp only[Nd.pv,Nd.kind]at hE hfind hkt hkn;rw[show chg1 (.mh m h) b p=setP p h m b.a from rfl]at hround;unfold chgS at hround;generalize b.a=ba at *;generalize b.b=bb at *;generalize b.c=bc at *;simp[-getElem?_pos,-List.getElem?_map,-eqK,-KT.ok,chgS,chgB,layB,laid,Nd.a,Nd.b,Nd.c,hE,hfind,hkt,hktb,hks];refine Zaa (k:=0) (fs:=[]) (cs:=[]) rfl rfl hkn rfl ?_;simp[-getElem?_pos,-List.getElem?_map,-eqK,-KT.ok,-splice,nblt,nble,hh,hm4,hm1,hg,h4,setAt,hset,hpl];refine⟨_,_,hj,Sub.mk ?_ ?_,hround⟩
   ·simp
   ·simp[chgB,layB,laid,chg1,ZcH]
  |ru r=>
   rw[Nd.pv_eq b]at hE hfind hktb hkb;simp only[Nd.pv,Nd.kind]at hE hfind hkt hkn;rw[show chg1 (.ru r) b p=p by cases b<;>rfl]at hround;unfold chgS at hround;generalize b.a=ba at *;generalize b.b=bb at *;generalize b.c=bc at *;simp[-getElem?_pos,-List.getElem?_map,-eqK,-KT.ok,chgS,chgB,layB,laid,Nd.a,Nd.b,Nd.c,hE,hfind,hkt,hktb,hks];refine Zaa (k:=0) (fs:=[]) (cs:=[]) rfl rfl hkn rfl ?_;simp[-getElem?_pos,-List.getElem?_map,-eqK,-KT.ok];refine Zaa (k:=0) (fs:=[]) (cs:=[]) rfl rfl hkn rfl ?_;simp[-getElem?_pos,-List.getElem?_map,-eqK,-KT.ok];refine⟨_,_,hj,Sub.mk ?_ ?_,hround⟩
   ·simp
   ·simp[chgB,layB,laid]
  |rh r h=>
   cases b with
   |mh m h'=>
    obtain⟨l,hl⟩:∃l,p[h]?=some l:=⟨p[h]'okn.2,ZvZ _⟩;have h4:=hp l (Zv3 hl);have hmm:m<q.ms.length:=okb.1;have hm4:m<4:=by omega
    have hh:h<p.length:=okn.2;have hg:(plP p)[h]?=some (.agg (l.map (PV.int .i64))):=by rw[plP,Zv0,hl];rfl
    have hset:=Zor (x:=-1) hl (m:=m) (by omega);have hpl:(plP p).length=p.length:=by simp[plP]
    have hm1:m+1≤4:=by omega
    simp only[Nd.pv,Nd.kind]at hE hfind hkt hktb hkn hkb;simp[-getElem?_pos,-List.getElem?_map,-eqK,-KT.ok,chgS,chgB,layB,laid,Nd.a,Nd.b,Nd.c,hE,hfind,hkt,hktb,hks];refine Zaa (k:=0) (fs:=[]) (cs:=[]) rfl rfl hkn rfl ?_;simp[-getElem?_pos,-List.getElem?_map,-eqK,-KT.ok];refine Zaa (k:=0) (fs:=[]) (cs:=[]) rfl rfl hkn rfl ?_;simp[-getElem?_pos,-List.getElem?_map,-eqK,-KT.ok];refine Zaa (k:=0) (fs:=[]) (cs:=[]) rfl rfl hkb rfl ?_;simp[-getElem?_pos,-List.getElem?_map,-eqK,-KT.ok,-splice,nblt,nble,hh,hm4,hm1,hg,h4,setAt,hset,hpl];refine⟨_,_,hj,Sub.mk ?_ ?_,hround⟩
    ·simp
    ·simp[chgB,layB,laid,chg1,ZcH,Nd.a,Nd.b,Nd.c]
   |ru r'=>
    simp only[Nd.pv,Nd.kind]at hE hfind hkt hktb hkn hkb;simp[-getElem?_pos,-List.getElem?_map,-eqK,-KT.ok,chgS,chgB,layB,laid,Nd.a,Nd.b,Nd.c,hE,hfind,hkt,hktb,hks];refine Zaa (k:=0) (fs:=[]) (cs:=[]) rfl rfl hkn rfl ?_;simp[-getElem?_pos,-List.getElem?_map,-eqK,-KT.ok];refine Zaa (k:=0) (fs:=[]) (cs:=[]) rfl rfl hkn rfl ?_;simp[-getElem?_pos,-List.getElem?_map,-eqK,-KT.ok];refine Zaa (k:=0) (fs:=[]) (cs:=[]) rfl rfl hkb rfl ?_;simp[-getElem?_pos,-List.getElem?_map,-eqK,-KT.ok];refine⟨_,_,hj,Sub.mk ?_ ?_,hround⟩
    ·simp
    ·simp[chgB,layB,laid,chg1,Nd.a,Nd.b,Nd.c]
   |rh r' h'=>
    simp only[Nd.pv,Nd.kind]at hE hfind hkt hktb hkn hkb;simp[-getElem?_pos,-List.getElem?_map,-eqK,-KT.ok,chgS,chgB,layB,laid,Nd.a,Nd.b,Nd.c,hE,hfind,hkt,hktb,hks];refine Zaa (k:=0) (fs:=[]) (cs:=[]) rfl rfl hkn rfl ?_;simp[-getElem?_pos,-List.getElem?_map,-eqK,-KT.ok];refine Zaa (k:=0) (fs:=[]) (cs:=[]) rfl rfl hkn rfl ?_;simp[-getElem?_pos,-List.getElem?_map,-eqK,-KT.ok];refine Zaa (k:=0) (fs:=[]) (cs:=[]) rfl rfl hkb rfl ?_;simp[-getElem?_pos,-List.getElem?_map,-eqK,-KT.ok];refine⟨_,_,hj,Sub.mk ?_ ?_,hround⟩
    ·simp
    ·simp[chgB,layB,laid,chg1,Nd.a,Nd.b,Nd.c]
end
section
open Go.RowKit
set_option maxRecDepth 10000
def Za6 (p:List (List Int)):Nd→Bool
 |.mh m h=>decide (who p h m = -1)
 |_=>false
def nx (q:Qu)(p:List (List Int)):Nd→List Nd
 |.ru r=>ZfG p r
 |.rh r h=>ZeA q p r h
 |.mh m h=>[.rh (who p h m).toNat h]
def push1 (n:Nd)(s:By×List Nd)(x:Nd):By×List Nd:=if(par s.1 x).isSome=true then s else(s.1++[(x,n)],s.2++[x])
def bfs (q:Qu)(p:List (List Int)):Nat→By→List Nd→Option (List (List Int))
 |0,_,_=>none
 |_+1,_,[]=>none
 |f+1,by',n::rest=>if Za6 p n=true then some (chg by' by'.length n p)else bfs q p f ((nx q p n).foldl (push1 n) (by',rest)).1 ((nx q p n).foldl (push1 n) (by',rest)).2
def giveP (F:Nat)(q:Qu)(p:List (List Int))(run:Nat):Option (List (List Int)):=bfs q p F [(.ru run,.ru run)] [.ru run]
structure PW (q:Qu)(p:List (List Int)):Prop where
 f:four p
 ok:∀l∈p,∀x∈l,x = -1∨(0≤x∧x<q.rs.length)
 l:p.length≤40
theorem PW.who {q:Qu}{p:List (List Int)}(hp:PW q p)(h m:Nat):who p h m = -1∨(0≤Go.Proofs.YtfpmaennjlggeaaGreatDoor.Qn.who p h m∧Go.Proofs.YtfpmaennjlggeaaGreatDoor.Qn.who p h m<q.rs.length):=by
 unfold Go.Proofs.YtfpmaennjlggeaaGreatDoor.Qn.who;cases h1:p[h]? with
 |none=>left;simp
 |some l=>
  simp only[ZwG];cases h2:l[m]? with
  |none=>left;rfl
  |some x=>exact hp.ok l (Zv3 h1) x (Zv3 h2)
theorem nx_ok {q:Qu}(hq:q.ok){p:List (List Int)}(hp:PW q p){n:Nd}(hn:n.ok q p)(hf:Za6 p n=false):∀x∈nx q p n,x.ok q p:=by
 intro x hx;cases n with
 |ru r=>
  simp only[nx,ZfG,Zcz,Zwc,Zwe]at hx;obtain⟨h,⟨h1,_⟩,rfl⟩:=hx
  have:=List.mem_of_mem_take h1
  exact⟨hn,by simpa using this⟩
 |rh r h=>
  simp only[nx,ZeA,Zwv]at hx;rcases hx with hx|hx
  ·simp only[seekK,Zwc,Zwe]at hx;obtain⟨m,⟨h1,_⟩,rfl⟩:=hx;exact⟨ZiC hq m h1,hn.2⟩
  ·split at hx
   ·cases hx
   ·simp at hx;subst hx;exact hn.1
 |mh m h=>
  simp only[nx,Zwo]at hx;subst hx;have h1:¬who p h m = -1:=by simpa[Za6]using hf
  have:=hp.who h m
  exact⟨by omega,hn.2⟩
def Nd.code:Nd→Nat
 |.ru r=>r
 |.rh r h=>6+6*h+r
 |.mh m h=>246+4*h+m
theorem Nd.code_lt {q:Qu}(hq:q.ok){p:List (List Int)}(hp:PW q p){n:Nd}(hn:n.ok q p):n.code<406:=by
 have h1:=hq.r;have h2:=hq.m;have h3:=hp.l;cases n with
 |ru r=>have:r<q.rs.length:=hn;show r<406;omega
 |rh r h=>obtain⟨a,b⟩:=hn;show 6+6*h+r<406;omega
 |mh m h=>obtain⟨a,b⟩:=hn;show 246+4*h+m<406;omega
theorem Nd.code_inj {q:Qu}(hq:q.ok){p:List (List Int)}(hp:PW q p){n n':Nd}(hn:n.ok q p)(hn':n'.ok q p)(h:n.code=n'.code):n=n':=by
 have h1:=hq.r;have h2:=hq.m;have h3:=hp.l;cases n with
 |ru r=>
  have a:r<q.rs.length:=hn;cases n' with
  |ru r'=>have:r=r':=h;subst this;rfl
  |rh r' h'=>have e:r=6+6*h'+r':=h;omega
  |mh m' h'=>have e:r=246+4*h'+m':=h;omega
 |rh r k=>
  obtain⟨a,b⟩:=hn;cases n' with
  |ru r'=>have e:6+6*k+r=r':=h;have a':r'<q.rs.length:=hn';omega
  |rh r' k'=>
   obtain⟨a',b'⟩:=hn';have e:6+6*k+r=6+6*k'+r':=h;have e1:k=k':=by omega
   have e2:r=r':=by omega
   rw[e1,e2]
  |mh m' k'=>obtain⟨a',b'⟩:=hn';have e:6+6*k+r=246+4*k'+m':=h;omega
 |mh m k=>
  obtain⟨a,b⟩:=hn;cases n' with
  |ru r'=>have e:246+4*k+m=r':=h;have a':r'<q.rs.length:=hn';omega
  |rh r' k'=>obtain⟨a',b'⟩:=hn';have e:246+4*k+m=6+6*k'+r':=h;omega
  |mh m' k'=>
   obtain⟨a',b'⟩:=hn';have e:246+4*k+m=246+4*k'+m':=h;have e1:k=k':=by omega
   have e2:m=m':=by omega
   rw[e1,e2]
theorem Ziw:∀(N:Nat) (l:List Nat),l.Nodup→(∀x∈l,x<N)→l.length≤N
 |0,[],_,_=>Zv5 _
 |0,x::r,_,h=>absurd (h x (by simp)) (by omega)
 |N+1,l,hn,h=>by
  by_cases hm:N∈l
  ·have h1:=Ziw N (l.erase N) (hn.erase N) (fun x hx=>by
    have h2:=(hn.mem_erase_iff).1 hx
    have:=h x h2.2
    have:=h2.1
    omega)
   rw[List.length_erase_of_mem hm]at h1;omega
  ·have:=Ziw N l hn (fun x hx=>by
    have:=h x hx
    have:x≠N:=fun e=>hm (e▸hx)
    omega)
   omega
structure BW (q:Qu)(p:List (List Int))(s:By×List Nd):Prop where
 b:ByOk q p s.1
 t:∀n∈s.2,∃(i:Nat) (b:Nd),s.1[i]?=some (n,b)
theorem BW.len {q:Qu}(hq:q.ok){p:List (List Int)}(hp:PW q p){s:By×List Nd}(h:BW q p s):s.1.length≤406:=by
 have h1:((s.1.map (·.1)).map Nd.code).Nodup:=by
  rw[List.nodup_iff_pairwise_ne,List.pairwise_map];refine List.Pairwise.imp_of_mem ?_ (List.nodup_iff_pairwise_ne.1 h.b.nd);intro a b ha hb hne e;obtain⟨x,hx,rfl⟩:=Zwc.1 ha;obtain⟨y,hy,rfl⟩:=Zwc.1 hb;exact hne (Nd.code_inj hq hp (h.b.ok x hx).1 (h.b.ok y hy).1 e)
 have:=Ziw 406 _ h1 (fun x hx=>by
  obtain⟨n,hn,rfl⟩:=Zwc.1 hx;obtain⟨e,he,rfl⟩:=Zwc.1 hn;exact Nd.code_lt hq hp (h.b.ok e he).1)
 simpa using this
theorem ZqD {by':By}{n:Nd}(h:par by' n=none):n∉by'.map (·.1):=fun hm=>by
 obtain⟨e,he,rfl⟩:=Zwc.1 hm;unfold par at h;rw[Option.map_eq_none_iff,List.find?_eq_none]at h;exact h e he (by simp)
theorem BW.push {q:Qu}{p:List (List Int)}{s:By×List Nd}(h:BW q p s){n x:Nd}(hn:∃(i:Nat) (b:Nd),s.1[i]?=some (n,b))(hx:x.ok q p):BW q p (push1 n s x)∧(∃(i:Nat) (b:Nd),(push1 n s x).1[i]?=some (n,b))∧
  (push1 n s x).2.length+s.1.length=s.2.length+(push1 n s x).1.length∧s.1.length≤(push1 n s x).1.length:=by
 unfold push1;split
 ·exact⟨h,hn,by omega,Zv5 _⟩
 ·rename_i hp;have hpn:par s.1 x=none:=by cases hh:par s.1 x with
   |none=>rfl
   |some b=>rw[hh]at hp;exact absurd rfl hp
  have hnot:=ZqD hpn;obtain⟨i,b,hi⟩:=hn;have hil:=(Zv1.1 hi).1;have old:∀(j:Nat) (e:Nd×Nd),s.1[j]?=some e→(s.1++[(x,n)])[j]?=some e:=fun j e hj=>by
   rw[List.getElem?_append_left (Zv1.1 hj).1];exact hj
  refine⟨⟨⟨?_,fun e he=>?_,fun j e hj=>?_⟩,fun y hy=>?_⟩,⟨i,b,old i _ hi⟩,by simp;omega,by simp⟩
  ·rw[Zwp,List.nodup_append];refine⟨h.b.nd,by simp,fun a ha c hc e=>?_⟩;simp at hc;subst hc e;exact hnot ha
  ·rcases Zwv.1 he with he|he
   ·exact h.b.ok e he
   ·simp at he;subst he;exact⟨hx,(h.b.ok _ (Zv3 hi)).1⟩
  ·rw[ZwF]at hj;split at hj
   ·rcases h.b.up j e hj with h1|⟨k,e',h1,h2,h3⟩
    ·exact .inl h1
    ·exact .inr ⟨k,e',h1,old k e' h2,h3⟩
   ·rename_i hjl
    have:j-s.1.length=0:=by
     have:=(Zv1.1 hj).1
     simp at this;omega
    rw[this]at hj;simp at hj;subst hj;exact .inr ⟨i,(n,b),by omega,old i _ hi,rfl⟩
  ·rcases Zwv.1 hy with hy|hy
   ·obtain⟨k,c,hk⟩:=h.t y hy;exact⟨k,c,old k _ hk⟩
   ·simp at hy;subst hy;exact⟨s.1.length,n,by simp⟩
theorem BW.pushes {q:Qu}{p:List (List Int)}{n:Nd}:∀(l:List Nd) {s:By×List Nd},BW q p s→(∃(i:Nat) (b:Nd),s.1[i]?=some (n,b))→(∀x∈l,x.ok q p)→BW q p (l.foldl (push1 n) s)∧(∃(i:Nat) (b:Nd),(l.foldl (push1 n) s).1[i]?=some (n,b))∧
  (l.foldl (push1 n) s).2.length+s.1.length=s.2.length+(l.foldl (push1 n) s).1.length∧s.1.length≤(l.foldl (push1 n) s).1.length
 |[],s,h,hn,_=>⟨h,hn,by simp,Zv5 _⟩
 |x::l,s,h,hn,hl=>by
  obtain⟨h1,h2,h3,h4⟩:=h.push hn (hl x (by simp));obtain⟨k1,k2,k3,k4⟩:=BW.pushes l h1 h2 (fun y hy=>hl y (by simp[hy]));rw[List.foldl_cons];exact⟨k1,k2,by omega,by omega⟩
theorem BW.tail {q:Qu}{p:List (List Int)}{by':By}{n:Nd}{rest:List Nd}(h:BW q p (by',n::rest)):BW q p (by',rest):=⟨h.b,fun x hx=>h.t x (by simp[hx])⟩
theorem BW.start {q:Qu}{p:List (List Int)}{run:Nat}(hr:run<q.rs.length):BW q p ([(.ru run,.ru run)],[.ru run]):=
 ⟨⟨by simp,fun e he=>by simp at he;subst he;exact⟨hr,hr⟩,fun i e hi=>by
  cases i with
  |zero=>simp at hi;subst hi;exact .inl rfl
  |succ i=>simp at hi⟩,fun n hn=>by simp at hn;subst hn;exact⟨0,_,rfl⟩⟩
end
section
open Go.RowKit
set_option maxRecDepth 10000
attribute [local simp] AS.exp expG Box.ren AV.map AV.mapL Zaw noRet Site.isRet Box.allS AV.allS AV.allSL retB dropL AS.adds renL outG outOk Zau inG fnOf lookA Zww
attribute [local simp] Box.purge Site.isLoc
def fidOf:Nd→FuncId
 |.ru _=>156
 |.rh _ _=>157
 |.mh _ _=>158
theorem ZtQ (q:Qu)(hq:q.ok)(p:List (List Int))(hp:PW q p)(n:Nd)(hn:n.ok q p)(hf:Za6 p n=false):
  Zak Tryz.prog (fidOf n) [.ptr (.par 0) 0,.pv n.pv] (laid 0 (layB q p 1)) (fun x B=>x=.vec (.ret 0) 3 0 (nx q p n).length∧B=nodB (nx q p n)++laid 0 (layB q p 1)):=by
 have hl:=hp.l;cases n with
 |ru r=>exact ZqZ q p hp.f (by omega) r
 |rh r h=>exact ZqW q hq p hp.f r h hn.1 hn.2
 |mh m h=>
  have h1:¬who p h m = -1:=by simpa[Za6]using hf
  have h2:=hp.who h m
  have:=hq.m
  have hm:m<q.ms.length:=hn.1;exact ZqU q p hp.f m h (by omega) hn.2 (who p h m).toNat (by omega)
theorem ZnI (n:Nd):ZnJ[n.kind]?=some (.agg [.fn (fidOf n) [] []]):=by cases n<;>rfl
structure Lock (A:Prop):Prop where
 out:A
def gvS (q:Qu)(p:List (List Int))(by':By)(todo:List Nd):AS:=⟨[(0,.ptr (.par 0) 0),(6,.mp (.loc 15 0)),(7,.vec (.loc 78 0) 3 0 todo.length)],(.loc 78 0,.arr 197 3 (todo.map Nd.pv))::(.loc 15 0,.map (byP by'))::laid 0 (layB q p 1)⟩
def gvI (q:Qu)(p:List (List Int))(n:Nd)(L:List Nd)(s:By×List Nd)(i:Nat):AS:=⟨[(0,.ptr (.par 0) 0),(6,.mp (.loc 15 0)),(7,.vec (.loc 78 0) 3 0 s.2.length),(8,.ptr (.loc 8 0) 0),(58,.vec (.loc 58 0) 3 0 L.length),(59,.pv (.int .i64 L.length)),(60,.pv (.int .i64 i))],
 (.loc 78 0,.arr 197 3 (s.2.map Nd.pv))::(.loc 15 0,.map (byP s.1))::(.loc 8 0,.cells [.pv (.int .i64 n.a),.pv (.int .i64 n.b),.pv (.int .i64 n.c)])::(.loc 58 0,.arr 197 3 (L.map Nd.pv))::laid 0 (layB q p 1)⟩
set_option maxHeartbeats 16000000 in
theorem ZoS {F:Nat}(hF:407<F)(q:Qu)(hq:q.ok)(p:List (List Int))(hp:PW q p)(run:Nat)(hrun:run<q.rs.length):
  Zak Tryz.prog 67 [.ptr (.par 0) 0,.pv (.int .i64 run)] (laid 0 (layB q p 1)) (fun x B=>x=.pv (.bool (giveP F q p run).isSome)∧B=laid 0 (layB q ((giveP F q p run).getD p) 1)):=by
 have hqm:=hq.m;have hpl:=hp.l;obtain⟨RES,hRES⟩:∃z,z=giveP F q p run:=⟨_,rfl⟩;rw[←hRES];generalize hR:(fun(x:AV) (B:List (Site×Box))=>x=.pv (.bool RES.isSome)∧B=laid 0 (layB q (RES.getD p) 1))=R;refine cB [.par 0,.par 1] L67 ?_;simp[-getElem?_pos,L67,layB,laid];refine Zae (fun k τ=>∃(by':By) (todo:List Nd) (f:Nat),BW q p (by',todo)∧todo.length≤by'.length∧k=406-by'.length+todo.length∧k<f∧bfs q p f by' todo=RES∧τ=gvS q p by' todo)
  ⟨406-1+1,gvS q p [(.ru run,.ru run)] [.ru run],Sub.trans' (Sub.mk ?_ ?_) (mvV 78 7 [(Nd.ru run).pv] (s:=.loc 20 0) (e:=197) rfl rfl rfl rfl),[(.ru run,.ru run)],[.ru run],F,BW.start hrun,Zv5 _,rfl,by omega,hRES.symm,rfl⟩ ?_
 ·simp[AS.mvV]
 ·simp[AS.mvV,layB,laid,byP,Nd.pv,putK]
 clear hRES;intro J hJ k τ hst;refine Lock.out ?_;obtain⟨by',todo,f,hB,hTL,hk,hf,hres,rfl⟩:=hst;obtain⟨f',rfl⟩:∃f',f=f'+1:=⟨f-1,by omega⟩;cases todo with
 |nil=>
  have hno:RES=none:=by rw[←hres];rfl
  subst hno;refine⟨?_⟩;simp[-getElem?_pos,gvS,layB,laid];rw[←hR];simp[layB,laid]
 |cons n rest=>
  obtain⟨i0,b0,hi0⟩:=hB.t n (by simp);have okn:=(hB.b.ok _ (Zv3 hi0)).1;simp only at okn;have hkn:=ZoT n;have hst:=ZnI n;have hsl:n.kind<3:=by cases n<;>simp[Nd.kind]
  rw[bfs]at hres;have hlen:=hB.len hq hp;by_cases hfree:Za6 p n=true
  ·rw[if_pos hfree]at hres;subst hres;clear hJ;cases n with
   |ru r=>simp[Za6]at hfree
   |rh r h=>simp[Za6]at hfree
   |mh m h=>
    have hfw:who p h m = -1:=by simpa[Za6]using hfree
    obtain⟨l,hl⟩:∃l,p[h]?=some l:=⟨p[h]'okn.2,ZvZ _⟩;have h4:=hp.f l (Zv3 hl);have hmm:m<q.ms.length:=okn.1;have hh:h<p.length:=okn.2;have hm4:m<4:=by omega
    obtain⟨x,hx⟩:∃x,l[m]?=some x:=⟨l[m]'(by omega),ZvZ _⟩;rw[ZlE hl hx]at hfw;subst hfw;have hg:(plP p)[h]?=some (.agg (l.map (PV.int .i64))):=by rw[plP,Zv0,hl];rfl
    have hg2:(l.map (PV.int .i64))[m]?=some (.int .i64 (-1)):=by rw[Zv0,hx];rfl
    have hch:=ZrF q hq by' p hB.b hp.f i0 (.mh m h) b0 hi0
    simp only[Nd.pv,Nd.kind]at hkn hch;refine⟨?_⟩;simp[-getElem?_pos,-List.getElem?_map,gvS,layB,laid,Nd.pv,nblt,nble];refine ZbP (k:=0) (fs:=[]) (cs:=[]) rfl rfl hkn rfl ?_;simp[-getElem?_pos,-List.getElem?_map,nblt,nble,hh,hm4,hg,hg2];refine cM [.ptr (.par 0) 0,.pv (.agg [.int .i64 (-1),.int .i64 m,.int .i64 h]),.mp (.par 2)] (laid 0 (chgB q p by')) 49 [.par 0,.par 1,.loc 15 0] (by simp[chgB,layB,laid]) hch (by simp[chgB,layB,laid]) ?_;simp[-getElem?_pos,chgB,layB,laid];rw[←hR];simp[layB,laid]
  ·have hff:Za6 p n=false:=by simpa using hfree
   rw[if_neg hfree]at hres;have hnx:=ZtQ q hq p hp n okn hff;have hoks:=nx_ok hq hp okn hff;obtain⟨L,hL⟩:∃L,L=nx q p n:=⟨_,rfl⟩;rw[←hL]at hres hnx hoks;have hLl:L.length≤1000:=by
    rw[hL];cases n with
    |ru r=>have:=Zhu (p:=p) (r:=r) (k:=p.length);show(Zcz p r p.length).length≤1000;omega
    |rh r h=>
     have:=Zgd (q:=q) (p:=p) (r:=r) (h:=h) (k:=q.ms.length)
     show(seekK q p r h q.ms.length++_).length≤1000;rw[Zv7]
     split<;>simp<;>omega
    |mh m h=>simp[nx]
   have hpush:∀i,BW q p ((L.take i).foldl (push1 n) (by',rest))∧((L.take i).foldl (push1 n) (by',rest)).2.length+by'.length=rest.length+((L.take i).foldl (push1 n) (by',rest)).1.length∧by'.length≤((L.take i).foldl (push1 n) (by',rest)).1.length:=fun i=>by
    obtain⟨h1,_,h3,h4⟩:=BW.pushes (L.take i) hB.tail ⟨i0,b0,hi0⟩ (fun x hx=>hoks x (List.mem_of_mem_take hx));exact⟨h1,h3,h4⟩
   have hend:BW q p (L.foldl (push1 n) (by',rest))∧(L.foldl (push1 n) (by',rest)).2.length+by'.length=rest.length+(L.foldl (push1 n) (by',rest)).1.length:=by
    have:=hpush L.length
    rw[Zwm]at this;exact⟨this.1,this.2.1⟩
   have hel:=hend.1.len hq hp;have hround:=hJ (406-(L.foldl (push1 n) (by',rest)).1.length+(L.foldl (push1 n) (by',rest)).2.length) _ ⟨_,_,f',hend.1,by have h1:=hend.2;rw[Zws]at hTL;show(L.foldl (push1 n) (by',rest)).2.length≤(L.foldl (push1 n) (by',rest)).1.length;omega,rfl,by
    have h1:=hend.2;rw[Zws]at hk
    omega,hres,rfl⟩
   have hmeas:406-(L.foldl (push1 n) (by',rest)).1.length+(L.foldl (push1 n) (by',rest)).2.length<k:=by
    have h1:=hend.2;rw[Zws]at hk;omega
   have hbd:∀i,((L.take i).foldl (push1 n) (by',rest)).2.length≤406:=fun i=>by
    obtain⟨h1,h2,h3⟩:=hpush i
    have:=h1.len hq hp
    rw[Zws]at hTL;omega
   rw[Nd.pv_eq]at hkn hnx;obtain⟨N,hN⟩:∃N,N=n:=⟨_,rfl⟩;rw[←hN]at hround hmeas hbd;clear hend hpush hel;have hmf:∀m h,n=.mh m h→∃(l:List Int) (x:Int),natI n.c=some h∧natI n.b=some m∧h<p.length∧m<4∧(plP p)[h]?=some (.agg (l.map (PV.int .i64)))∧(l.map (PV.int .i64))[m]?=some (.int .i64 x)∧x≠-1:=fun m h e=>by
    subst e;obtain⟨l,hl⟩:∃l,p[h]?=some l:=⟨p[h]'okn.2,ZvZ _⟩;have h4:=hp.f l (Zv3 hl);have hmm:m<q.ms.length:=okn.1;obtain⟨x,hx⟩:∃x,l[m]?=some x:=⟨l[m]'(by omega),ZvZ _⟩;have hfw:¬who p h m = -1:=by simpa[Za6]using hff
    rw[ZlE hl hx]at hfw;exact⟨l,x,Ziz,Ziz,okn.2,by omega,by rw[plP,Zv0,hl];rfl,by rw[Zv0,hx];rfl,hfw⟩
   clear hJ hres hoks hB okn hff hfree hL hi0;cases n
   case' mh m h=>
    obtain⟨l,x,e1,e2,e3,e4,e5,e6,e7⟩:=hmf m h rfl;simp only[Nd.a,Nd.b,Nd.c,Nd.kind]at e1 e2 hkn hnx hst hround;refine⟨?_⟩;simp[-getElem?_pos,-List.getElem?_map,gvS,layB,laid,Nd.pv,nblt,nble];refine ZbP (k:=0) (fs:=[]) (cs:=[]) rfl rfl hkn rfl ?_;simp[-getElem?_pos,-List.getElem?_map,nblt,nble,e1,e2,e3,e4,e5,e6,e7]
   case' ru r=>
    simp only[Nd.a,Nd.b,Nd.c,Nd.kind]at hkn hnx hst hround;refine⟨?_⟩;simp[-getElem?_pos,-List.getElem?_map,gvS,layB,laid,Nd.pv,nblt,nble];refine ZbP (k:=0) (fs:=[]) (cs:=[]) rfl rfl hkn rfl ?_;simp[-getElem?_pos,-List.getElem?_map,nblt,nble]
   case' rh r h=>
    simp only[Nd.a,Nd.b,Nd.c,Nd.kind]at hkn hnx hst hround;refine⟨?_⟩;simp[-getElem?_pos,-List.getElem?_map,gvS,layB,laid,Nd.pv,nblt,nble];refine ZbP (k:=0) (fs:=[]) (cs:=[]) rfl rfl hkn rfl ?_;simp[-getElem?_pos,-List.getElem?_map,nblt,nble]
   all_goals
    clear hmf;refine cQ [] [] Zta ?_;simp[-getElem?_pos,-List.getElem?_map,frzsL];refine ZbP (k:=0) (fs:=[]) (cs:=[]) rfl rfl hkn rfl ?_;simp[-getElem?_pos,-List.getElem?_map,hst,ZnJ];refine Zac (B:=laid 0 (layB q p 1)) (fs:=[]) (cs:=[]) 58 [.par 0,.par 1] ?_ rfl rfl ?_ ?_ ?_ hnx ?_
    ·rfl
    ·simp[layB,laid]
    ·rfl
    ·simp[Nd.pv_eq,Nd.a,Nd.b,Nd.c]
    rintro r0 B0 ⟨rfl,rfl⟩;refine⟨rfl,by simp[nodB,layB,laid],?_⟩;simp[-getElem?_pos,-List.getElem?_map,nodB,layB,laid];refine Zae (fun k τ=>∃i:Nat,i≤L.length∧k=L.length-i∧τ=gvI q p N L ((L.take i).foldl (push1 N) (by',rest)) i)
     ⟨L.length,gvI q p N L (by',rest) 0,Sub.trans' (Sub.mk ?_ ?_) (mvV 78 7 (rest.map Nd.pv) (s:=.loc 78 0) (e:=197) rfl rfl ?_ rfl),0,Zwb _,rfl,rfl⟩ ?_
    ·simp[AS.mvV]
    ·simp[AS.mvV,layB,laid,hN,Nd.a,Nd.b,Nd.c]
    ·simp;omega
    clear hN hkn hnx hst;rintro J2 hJ2 k2 τ ⟨i,hi,rfl,rfl⟩;by_cases hlt:i<L.length
    ·obtain⟨x,hx⟩:∃x,L[i]?=some x:=⟨L[i],ZvZ hlt⟩;have hgx:(L.map Nd.pv)[i]?=some (.agg [.int .i64 x.a,.int .i64 x.b,.int .i64 x.c]):=by rw[Zv0,hx];simp[Nd.pv_eq]
     have hw:=wrapS (k:=i) (by omega);have hnx2:(L.take (i+1)).foldl (push1 N) (by',rest)=push1 N ((L.take i).foldl (push1 N) (by',rest)) x:=by rw[Zcs hx,List.foldl_append];rfl
     have hround2:=hJ2 _ _ ⟨i+1,hlt,rfl,rfl⟩;rw[hnx2]at hround2;have hbi:=hbd i;have hmeas2:L.length-(i+1)<L.length-i:=by omega
     clear hJ2 hnx2 hround hmeas hbd;generalize(L.take i).foldl (push1 N) (by',rest)=S1 at *;obtain⟨b1,t1⟩:=S1;simp only at hbi;have hfind:=ZiQ x b1;have hkt:=kt_nd x;have hks:=ZoU b1;have ht6:t1.length+1≤1000000:=by omega
     cases hpx:par b1 x with
     |none=>
      have hput:=Zop (b:=N) hpx;have hpu:push1 N (b1,t1) x=(b1++[(x,N)],t1++[x]):=by unfold push1;rw[hpx];rfl
      rw[hpu]at hround2;rw[hpx]at hfind;rw[Nd.pv_eq x,Nd.pv_eq N]at hput;rw[Nd.pv_eq x]at hfind hkt;simp only[Option.map_none]at hfind;simp[-getElem?_pos,-List.getElem?_map,-eqK,-KT.ok,gvI,layB,laid,nblt,nble,hlt,hgx,hfind,hkt,hks,hput,ht6,hw];refine⟨_,_,hmeas2,Sub.mk ?_ ?_,hround2⟩
      ·simp
      ·simp[layB,laid,Nd.pv_eq]
     |some b=>
      have hpu:push1 N (b1,t1) x=(b1,t1):=by unfold push1;rw[hpx];rfl
      rw[hpu]at hround2;rw[hpx]at hfind;rw[Nd.pv_eq x]at hfind hkt;simp only[Zwu,Nd.pv_eq b]at hfind;simp[-getElem?_pos,-List.getElem?_map,-eqK,-KT.ok,gvI,layB,laid,nblt,nble,hlt,hgx,hfind,hkt,hks,hw];refine⟨_,_,hmeas2,Sub.mk ?_ ?_,hround2⟩
      ·simp
      ·simp[layB,laid]
    ·have he:i=L.length:=by omega
     subst he;rw[Zwm];clear hJ2 hbd;generalize L.foldl (push1 N) (by',rest)=S1 at *;obtain⟨b1,t1⟩:=S1;simp[-getElem?_pos,-List.getElem?_map,gvI,layB,laid];refine⟨_,_,hmeas,Sub.mk ?_ ?_,hround⟩
     ·simp
     ·simp[layB,laid]
end
end Go.Proofs.YtfpmaennjlggeaaGreatDoor.Qn
