/- The registrar's book: what the statement needs, joined and shortened by program. -/
import Derived.Deep.Slices
import Derived.ReadAgain
import Derived.OpenShut
import Derived.Test.YteknmiggbkhdoaaGreatDoorProg
import Derived.Test.YteknmiggbkhdoaaGreatDoorCards
import Derived.Test.YteknmiggbkhdoaaGreatDoorTie
import Derived.SevenTiedAt
import Derived.Test.YteknmiggbkhdoaaGreatDoorP0
import Derived.Test.YteknmiggbkhdoaaGreatDoorP1
import Derived.Test.YteknmiggbkhdoaaGreatDoorP2
import Derived.Test.YteknmiggbkhdoaaGreatDoorP3
import Derived.Test.YteknmiggbkhdoaaGreatDoorP4
set_option linter.unusedSimpArgs false
set_option linter.unusedVariables false
namespace Go.Proofs.YteknmiggbkhdoaaGreatDoor
section
open Go.RowKit Go.ChangeShapes Go.WideShapes Go.Deep
section
variable {H:Type}{enc:TypeId×Value→H}{P:Program}{w W W':World}{sp:Nat→Bool}{held:Bool}
theorem ZbT {k:IntKind}{n:Int}(h:(Lit.int k n).wf=true):k.min≤n∧n≤k.max:=by
 simpa[Lit.wf]using h
end
end
section
open Go.RowKit
set_option maxRecDepth 100000
noncomputable section
def L33:LFn :=⟨4,S [Ox 1 1 0,O 2 (.mov (.c .nilfn))] (S [O 3 (.mkf 58 [] [.t 1]),Om 2 3] .ret),[.tm 2]⟩
end
end
section
open Go.RowKit
set_option maxRecDepth 100000
noncomputable section
def L58:LFn :=⟨79,S [OM 3 0] (S [OM 4 0] (.block 0 (.loop (.seq (S [Ol 8 1 1,On 9 8,Om 10 3,Ob 11 .sub 9 10,Oc 12 .gtr 11 15] (Ce 12 0)) (.seq (.block 1 (S [Ol 16 1 1,Om 17 3,Oc 18 .add 17 1,Om 19 3,Oc 20 .add 19 1,Oc 21 .add 20 3,O 22 (.slc 1 none (.t 16) (some (.t 18)) (some (.t 21)) none),O 23 (.x (.sof (.t 22))),Ok 24 59 [.t 23],Om 15 24,Oe 25 15 0,Oe 26 15 1,Om 5 25,Om 6 26] (.seq (S [Om 27 6,O 28 (.x (.nif true (.t 27))),Om 29 28,G 30 29 false (M 5),G 31 29 false (.bin false .lss (.t 30) (I 0)),O 32 (.pick (.t 29) Bt (.t 31)),Om 33 32,G 34 33 false (M 5),G 35 33 false (.bin false .gtr (.t 34) (I 200)),O 36 (.pick (.t 33) Bt (.t 35)),Om 37 36,G 38 37 false (M 3),G 39 37 false (.bin false .add (.t 38) (I 15)),G 40 37 false (M 5),G 41 37 false (.bin false .add (.t 39) (.t 40)),G 42 37 false (.bin false .add (.t 41) (I 1)),G 43 37 false (.load false 1 (.t 1)),G 44 37 false (.len none (.t 43)),G 45 37 false (.bin false .gtr (.t 42) (.t 44)),O 46 (.pick (.t 37) Bt (.t 45))] (Cd 46 .ret .skip)) (S [Ol 47 1 1,Om 48 3,Oc 49 .add 48 15,Om 50 3,Oc 51 .add 50 15,Om 52 5,Ob 53 .add 51 52,O 54 (.slc 1 none (.t 47) (some (.t 49)) (some (.t 53)) none),O 55 (.x (.sof (.t 54))),Om 7 55] (.seq (.seq (.regT (.op (Of 57 (M 3)) (.op (Of 58 (M 3)) (.op (Of 59 (.bin false .add (.t 58) (I 15))) (.op (Of 60 (M 5)) (.op (Of 61 (.bin false .add (.t 59) (.t 60))) (.op (Of 62 (.bin false .add (.t 61) (I 1))) (.op (Of 65 (M 7)) (.op (Of 66 (M 4)) (.op (Of 56 (.load false 1 (.t 1))) (.op (O 63 (.slc 1 none (.t 56) (some (.t 57)) (some (.t 62)) none)) (.seq (.alt (O 64 (.x (.sof (.t 63)))) (.alt (Of 67 (.call (C 57) [.t 65,.t 66])) .done .no) (.alt (Of 67 (.call (C 57) [.t 65,.t 66])) (.alt (O 64 (.x (.sof (.t 63)))) .done .no) .no)) (.op (O 68 (.x (.eqv true ⟨false,[.str]⟩ (.t 64) (.t 67)))) .done))))))))))))) (Cd 68 .ret .skip)) (S [Om 69 3,Om 70 5,O 71 (.bin false .add (I 15) (.t 70)),Oc 72 .add 71 1,Ob 73 .add 69 72,Om 3 73] (S [Om 74 0,Om 75 7,Om 76 3,O 77 (.call (.t 74) [.t 75,.t 76]),Oo 78 77] (Cd 78 .ret .skip)))))))) (.region [Om 13 4,Oc 14 .add 13 1,Om 4 14])))))),[]⟩
end
end
section
open Go.RowKit
set_option maxRecDepth 100000
noncomputable section
def L17:LFn :=⟨20,S [O 2 (.alloc E0),O 3 (.alloc Z0)] (.seq .skip (.seq (S [Om 6 0,Ok 7 33 [.t 6]] (.block 0 (.rng 20 (.t 7) (rcode Tryz.prog 17 0) Y17_0a Y17_0b [8,9]))) (.seq (.regT (.op (Of 18 (.load false 1 (.t 2))) (.seq (.alt (Of 19 (.load false 1 (.t 3))) (.alt (Nf (.store 1 (.t 2) (.t 18))) .done .no) (.alt (Nf (.store 1 (.t 2) (.t 18))) (.op (Of 19 (.load false 1 (.t 3))) .done) .no)) (.alt (Ns 1 3 19) .done .no)))) .ret))),[.cell 2 false 1,.cell 3 false 1]⟩
theorem L17_ok:litF Tryz.prog 17=some L17:=by kernel_rfl
end
end
section
open Go.RowKit
set_option maxRecDepth 100000
noncomputable section
def L6:LFn :=⟨98,S [O 4 (.mov Bf)] (.seq (S [Om 12 0,Ok 13 9 [.t 12],Oo 14 13,Om 15 14,G 16 15 false (M 0),G 17 15 false (.call (C 10) [.t 16]),G 18 15 false (.not (.t 17)),O 19 (.pick (.t 15) Bt (.t 18)),Om 20 19,G 21 20 false (M 0),G 22 20 false (.len none (.t 21)),G 23 20 false (.bin false .eql (.t 22) (I 0)),O 24 (.pick (.t 20) Bt (.t 23))] (Cd 24 (S [Ok 25 11 [],Om 4 25] .ret) .skip)) (S [Om 27 0,Ok 28 16 [.t 27],Ok 29 15 [.t 28],Om 26 29,Oe 30 26 0,Oe 31 26 1,Om 5 30,Om 6 31] (S [Om 32 1,O 33 (.conv .i64 (.t 32)),Om 34 0,On 35 34,Ob 36 .rem 33 35,Om 7 36] (S [OM 8 0] (.seq (S [OM 9 0] (.block 0 (.loop (.seq (S [Om 37 9,Om 38 7,Ob 39 .lss 37 38] (Ce 39 0)) (.seq (.block 1 (.region [Om 42 8,Om 43 0,Om 44 9,Oi 45 1 43 44,Ol 46 1 45,O 47 (.x (.slen (.t 46))),O 48 (.bin false .add (I 16) (.t 47)),Ob 49 .add 42 48,Om 8 49])) (.region [Om 40 9,Oc 41 .add 40 1,Om 9 41])))))) (.seq (S [Om 50 6,Oc 51 .neq 50 0,Om 52 51,G 53 52 false (M 5),G 54 52 false (.len none (.t 53)),G 55 52 false (M 8),G 56 52 false (.bin false .add (.t 55) (I 16)),G 57 52 false (M 0),G 58 52 false (M 7),G 59 52 false (.ia 1 none (.t 57) (.t 58)),G 60 52 false (.load false 1 (.t 59)),G 61 52 false (.x (.slen (.t 60))),G 62 52 false (.bin false .add (.t 56) (.t 61)),G 63 52 false (.bin false .lss (.t 54) (.t 62)),O 64 (.pick (.t 52) Bt (.t 63))] (Cd 64 (S [O 4 (.mov Bf)] .ret) .skip)) (S [Of 67 (M 5),Of 68 (M 8),Of 69 (.slc 1 none (.t 67) none (some (.t 68)) none),Of 71 (M 5),Of 72 (M 8),Of 73 (.bin false .add (.t 72) (I 16)),Of 74 (M 0),Of 75 (M 7),Of 76 (.ia 1 none (.t 74) (.t 75)),Of 77 (.load false 1 (.t 76)),O 78 (.x (.slen (.t 77))),Ob 79 .add 73 78,O 80 (.slc 1 none (.t 71) (some (.t 79)) none none),Of 66 (.bslice 5 1 []),Of 70 (.app0 5 1 1 (.t 66) (.t 69)),O 81 (.app 5 1 1 (.t 70) (.t 80)),Ok 82 17 [.t 81],Om 65 82,Oe 83 65 0,Oe 84 65 1,Om 10 83,Om 11 84] (S [Om 85 10,Om 86 0,Om 87 7,O 88 (.slc 1 none (.t 86) none (some (.t 87)) none),Ok 89 19 [.t 85,.t 88],Om 90 89,G 91 90 true (M 11),G 92 90 true (M 8),G 93 90 true (.bin false .eql (.t 91) (.t 92)),O 94 (.pick (.t 90) (.t 93) Bf),Om 95 94,G 96 95 true (.call (C 11) []),O 97 (.pick (.t 95) (.t 96) Bf),Om 4 97] .ret)))))))),[.tm 4]⟩
def L19:LFn :=⟨26,S [O 4 (.mov Bf)] (.seq (S [Om 6 0,On 7 6,Om 8 1,On 9 8,Ob 10 .neq 7 9] (Cd 10 (S [O 4 (.mov Bf)] .ret) .skip)) (.seq (S [OM 5 0] (.block 0 (.loop (.seq (S [Om 11 5,Om 12 0,On 13 12,Ob 14 .lss 11 13] (Ce 14 0)) (.seq (.block 1 (S [Of 17 (M 0),Of 18 (M 5),Of 19 (.ia 1 none (.t 17) (.t 18)),Of 21 (M 1),Of 22 (M 5),Of 23 (.ia 1 none (.t 21) (.t 22)),Of 20 (.load false 1 (.t 19)),Of 24 (.load false 1 (.t 23)),O 25 (.x (.eqv true ⟨false,[.str]⟩ (.t 20) (.t 24)))] (Cd 25 (S [O 4 (.mov Bf)] .ret) .skip))) (.region [Om 15 5,Oc 16 .add 15 1,Om 5 16])))))) (S [O 4 (.mov Bt)] .ret))),[.tm 4]⟩
end
end
section
open Go.RowKit
set_option maxRecDepth 100000
noncomputable section
theorem L17_tab:tabOk (tyOf tys) L17.code:=by repeat' (first|exact trivial|rfl|apply And.intro)
end
end
section
open Go.RowKit
theorem Zb9:∀{l l':List ByteArray} {i:Nat},fileL (l++l') i=fileL l i++fileL l' (i+l.length)
 |[],l',i=>by simp[fileL]
 |x::l,l',i=>by
  simp only[ZuR,fileL,Zuu];rw[Zb9 (l:=l),ZuD,show i+1+l.length=i+(l.length+1) by omega]
def num3 (l:List UInt8):Int:=match Lib.atoiAll l with
 |.ok v=>v
 |_=>-1
theorem Zbp (n:Nat)(h:n≤200):num3 (dig3 n).data.toList=n:=by
 have:∀n:Fin 201,num3 (dig3 n.1).data.toList=(n.1:Int):=by decide +kernel
 exact this ⟨n,by omega⟩
def oneM (b:List UInt8)(at_ i:Nat):Option ByteArray:=
 if at_+15<b.length then
  (if 0≤num3 ((b.drop (at_+1)).take 3)∧num3 ((b.drop (at_+1)).take 3)≤200∧at_+16+(num3 ((b.drop (at_+1)).take 3)).toNat≤b.length then
   (if(b.drop at_).take (16+(num3 ((b.drop (at_+1)).take 3)).toNat)=rcdL ⟨((b.drop (at_+15)).take (num3 ((b.drop (at_+1)).take 3)).toNat).toArray⟩ i then some ⟨((b.drop (at_+15)).take (num3 ((b.drop (at_+1)).take 3)).toNat).toArray⟩else none)
  else none)
 else none
theorem ZaP {b:List UInt8}{at_ i:Nat}{s:ByteArray}:oneM b at_ i=some s↔s.size≤200∧∃r,b.drop at_=rcdL s i++r:=by
 unfold oneM;generalize hn:num3 ((b.drop (at_+1)).take 3)=n;constructor
 ·intro h;split at h
  ·split at h
   ·split at h
    ·rename_i h1 h2 h3;cases h;have hsz:(⟨((b.drop (at_+15)).take n.toNat).toArray⟩:ByteArray).size=n.toNat:=by
      show((b.drop (at_+15)).take n.toNat).length=_;rw[Zt6,Zuh];omega
     refine⟨by rw[hsz];omega,(b.drop at_).drop (16+n.toNat),?_⟩;rw[←h3,ZuS]
    ·cases h
   ·cases h
  ·cases h
 ·rintro⟨h1,r,h2⟩;have hl:b.length-at_=16+s.size+r.length:=by
   have:=congrArg List.length h2
   rw[Zuh,Zt9,Zaq]at this;exact this
  have hd1:(b.drop (at_+1)).take 3=(dig3 s.size).data.toList:=by
   rw[←ZuM,h2,Za9];rfl
  have hn':n=s.size:=by rw[←hn,hd1,Zbp _ h1]
  subst hn';have hs:(b.drop (at_+15)).take ((s.size:Nat):Int).toNat=s.data.toList:=by
   rw[←ZuM,h2,Za9];show((s.data.toList++[10])++r).take s.size=_;rw[ZuD];exact List.take_left' rfl
  have hsb:(⟨((b.drop (at_+15)).take ((s.size:Nat):Int).toNat).toArray⟩:ByteArray)=s:=by
   rw[hs]
  rw[hsb,if_pos (by omega),if_pos ⟨by omega,by omega,by omega⟩,if_pos];rw[h2];exact List.take_left' (Zaq s i)
def readM (b:List UInt8):Nat→Nat→Nat→List (ByteArray×Nat)
 |0,_,_=>[]
 |f+1,at_,i=>match oneM b at_ i with
  |some s=>(s,at_+16+s.size)::readM b f (at_+16+s.size) (i+1)
  |none=>[]
theorem Zbg {b:List UInt8}{at_ i:Nat}{s:ByteArray}(h:oneM b at_ i=some s):at_+16+s.size≤b.length:=by
 obtain⟨_,r,h2⟩:=ZaP.1 h
 have:=congrArg List.length h2
 rw[Zuh,Zt9,Zaq]at this;omega
theorem Za5 {b:List UInt8}:∀{f f' at_ i:Nat},b.length<at_+f→b.length<at_+f'→readM b f at_ i=readM b f' at_ i
 |0,f',at_,i,h,h'=>by
  cases f' with
  |zero=>rfl
  |succ f'=>
   unfold readM;cases ho:oneM b at_ i with
   |none=>rfl
   |some s=>have:=Zbg ho;omega
 |f+1,f',at_,i,h,h'=>by
  cases f' with
  |zero=>
   unfold readM;cases ho:oneM b at_ i with
   |none=>rfl
   |some s=>have:=Zbg ho;omega
  |succ f'=>
   unfold readM;cases ho:oneM b at_ i with
   |none=>rfl
   |some s=>
    dsimp only;rw[Za5 (f:=f) (f':=f') (by omega) (by omega)]
def restM (b:List UInt8)(at_ i:Nat):List (ByteArray×Nat):=readM b (b.length+1) at_ i
theorem Za0 {b:List UInt8}{at_ i:Nat}(h:oneM b at_ i=none):restM b at_ i=[]:=by
 unfold restM readM;rw[h]
theorem ZaL {b:List UInt8}{at_ i:Nat}{s:ByteArray}(h:oneM b at_ i=some s):restM b at_ i=(s,at_+16+s.size)::restM b (at_+16+s.size) (i+1):=by
 unfold restM
 conv=>lhs;unfold readM
 rw[h];dsimp only;rw[Za5 (f:=b.length) (f':=b.length+1) (by omega) (by omega)]
def lastE:List (ByteArray×Nat)→Nat
 |[]=>0
 |[x]=>x.2
 |_::y::l=>lastE (y::l)
def recM (b:List UInt8):List ByteArray×Nat:=(((restM b 0 0).take 50).map (·.1),lastE ((restM b 0 0).take 50))
theorem Zdw {b:List UInt8}{at_ i:Nat}{s:ByteArray}{r:List UInt8}(hs:s.size≤200)(h:b.drop at_=rcdL s i++r):oneM b at_ i=some s:=ZaP.2 ⟨hs,r,h⟩
theorem ZdD {b:List UInt8}{at_:Nat}{s:ByteArray}{i:Nat}{r:List UInt8}(h:b.drop at_=rcdL s i++r):b.drop (at_+16+s.size)=r:=by
 rw[Nat.add_assoc,←ZuM,h];exact List.drop_left' (Zaq s i)
def endsL:List ByteArray→Nat→List (ByteArray×Nat)
 |[],_=>[]
 |s::l,at_=>(s,at_+16+s.size)::endsL l (at_+16+s.size)
theorem ZbE {b:List UInt8}:∀{l:List ByteArray} {at_ i:Nat} {r:List UInt8},(∀s∈l,s.size≤200)→b.drop at_=fileL l i++r→restM b at_ i=endsL l at_++restM b (at_+(fileL l i).length) (i+l.length)
 |[],at_,i,r,_,h=>by simp[endsL,fileL]
 |s::l,at_,i,r,hs,h=>by
  simp only[fileL,ZuD]at h;rw[ZaL (Zdw (hs s (List.mem_cons_self ..)) h),ZbE (fun s hs'=>hs s (List.mem_cons_of_mem _ hs')) (ZdD h)];simp only[endsL,fileL,ZuR,Zt9,Zaq,Zuu];rw[show at_+16+s.size+(fileL l (i+1)).length=at_+(16+s.size+(fileL l (i+1)).length) by omega,show i+1+l.length=i+(l.length+1) by omega]
theorem ZbJ:∀{l:List ByteArray} {at_:Nat},(endsL l at_).map (·.1)=l
 |[],_=>rfl
 |s::l,at_=>by simp only[endsL,Zun,ZbJ (l:=l)]
theorem ZbI:∀{l:List ByteArray} {at_:Nat},(endsL l at_).length=l.length
 |[],_=>rfl
 |s::l,at_=>by simp only[endsL,Zuu,ZbI (l:=l)]
theorem Za1 {x:ByteArray×Nat}:∀{l:List (ByteArray×Nat)},lastE (l++[x])=x.2
 |[]=>rfl
 |[y]=>rfl
 |y::z::l=>by
  show lastE (y::z::(l++[x]))=_;unfold lastE;exact Za1 (l:=z::l)
theorem Zcq:∀{l:List ByteArray} {i:Nat},lastE (endsL l 0)=(fileL l i).length:=by
 have h:∀(l:List ByteArray) (at_ i:Nat),l≠[]→lastE (endsL l at_)=at_+(fileL l i).length:=by
  intro l;induction l with
  |nil=>intro _ _ h;exact absurd rfl h
  |cons s l ih=>
   intro at_ i _;cases l with
   |nil=>simp[endsL,lastE,fileL,Zaq];omega
   |cons t l=>
    have:=ih (at_+16+s.size) (i+1) (by simp)
    have e:lastE (endsL (s::t::l) at_)=lastE (endsL (t::l) (at_+16+s.size)):=by simp only[endsL,lastE]
    rw[e,this];have e2:(fileL (s::t::l) i).length=(rcdL s i).length+(fileL (t::l) (i+1)).length:=by rw[show fileL (s::t::l) i=rcdL s i++fileL (t::l) (i+1) from rfl,Zt9]
    rw[e2,Zaq];omega
 intro l i;cases l with
 |nil=>rfl
 |cons s l=>rw[h (s::l) 0 i (by simp),Zuk]
end
section
open Go.RowKit
set_option maxRecDepth 10000
attribute [local simp] AS.exp expG Box.ren AV.map AV.mapL Zau noRet Site.isRet Box.allS AV.allS AV.allSL retB dropL AS.adds renL outG outOk Zas inG fnOf lookA Zuq
attribute [local simp] Box.purge Site.isLoc
attribute [local simp] retFz frzL AS.frz AV.frz AV.frzL Box.frz AS.tidy AS.frzC frzsL retOk renB toLoc
def bA (l:List UInt8):ByteArray:=⟨l.toArray⟩
theorem sbeq (s t:ByteArray):(s.toList==t.toList)=decide (s=t):=by
 rw[Lib.toList_data,Lib.toList_data,Zuz,beq_iff_eq,decide_eq_true_eq];exact⟨fun h=>ByteArray.ext (ZuG.1 h),fun h=>by rw[h]⟩
theorem ZeX (A B:List ByteArray)(hA:A.length≤1000000):Gives Tryz.prog 19 [strsP A,strsP B] (.bool (decide (A=B))):=by
 refine cSR L19 ?_;intro R hR;by_cases hl:A.length=B.length
 ·have hl':((A.length:Int)=(B.length:Int)):=by omega
  simp[-getElem?_pos,L19,strsP,hl,hl'];refine Zae (fun m τ=>∃k:Nat,k≤A.length∧m=A.length-k∧A.take k=B.take k∧τ=⟨[(0,.pv (.lst false 1 (A.map .str))),(1,.pv (.lst false 1 (B.map .str))),(5,.pv (.int .i64 (k:Int)))],[]⟩)
   ⟨A.length,⟨[(0,.pv (.lst false 1 (A.map .str))),(1,.pv (.lst false 1 (B.map .str))),(5,.pv (.int .i64 ((0:Nat):Int)))],[]⟩,Sub.mk (by simp) (by simp),0,Zud _,rfl,rfl,rfl⟩ ?_
  rintro J hJ m τ ⟨k,hk,rfl,hsame,rfl⟩;by_cases hlt:k<A.length
  ·obtain⟨s,hx⟩:∃s,A[k]?=some s:=⟨A[k],Zt3 hlt⟩;obtain⟨t,hy⟩:∃t,B[k]?=some t:=⟨B[k]'(by omega),Zt3 (by omega)⟩;have hg:(A.map PV.str)[k]?=some (.str s):=by rw[Zt4,hx];rfl
   have hg2:(B.map PV.str)[k]?=some (.str t):=by rw[Zt4,hy];rfl
   have hlt2:k<B.length:=by omega
   have hw:=wrapK (k:=k) (by omega);have hmeas:A.length-(k+1)<A.length-k:=by omega
   by_cases h2:s=t
   ·have hn:=hJ (A.length-(k+1)) _ ⟨k+1,hlt,rfl,by rw[Zuf,Zuf,hx,hy,hsame,h2],rfl⟩;simp[-getElem?_pos,-List.getElem?_map,hlt,hlt2,hg,hg2,nblt,nble,sbeq,h2,hw];exact⟨_,_,hmeas,Sub.mk (by simp) (by simp),hn⟩
   ·have hf:decide (A=B)=false:=by
     rw[decide_eq_false_iff_not];intro e;rw[e,hy]at hx;cases hx;exact h2 rfl
    rw[hf]at hR;simp[-getElem?_pos,-List.getElem?_map,hlt,hlt2,hg,hg2,nblt,nble,sbeq,h2];rw[←hR];exact⟨rfl,by simp⟩
  ·have he:k=A.length:=by omega
   subst he;rw[Zus,hl,Zus]at hsame;have hf:decide (A=B)=true:=by rw[decide_eq_true_eq];exact hsame
   rw[hf]at hR;simp[-getElem?_pos];rw[←hR];exact⟨rfl,by simp⟩
 ·have hl':¬((A.length:Int)=(B.length:Int)):=by omega
  have hf:decide (A=B)=false:=by
   rw[decide_eq_false_iff_not];intro e;exact hl (by rw[e])
  rw[hf]at hR;simp[-getElem?_pos,L19,strsP,hl,hl'];rw[←hR];exact⟨rfl,by simp⟩
theorem ZaE {L:List ByteArray}(h:ZaJ L=true):L.length≤50∧∀s∈L,s.size≤200:=by
 unfold ZaJ at h;rw[Zt7,decide_eq_true_eq,Zuo]at h;exact⟨h.2,fun s hs=>by simpa using h.1 s hs⟩
theorem ZaH {L:List ByteArray}(h:ZaJ L=true):ZaT L=0:=by
 obtain⟨h1,h2⟩:=ZaE h;have hf:fitB L=true:=by
  show L.all (fun s=>decide (s.size≤200))=true;rw[Zuo];exact fun s hs=>by simpa using h2 s hs
 unfold ZaT;rw[hf];have h3:¬50<L.length:=by omega
 simp[h3]
end
section
open Go.RowKit
theorem ZeT {n n':Nat}(h:n≤200)(h':n'≤200)(e:(dig3 n).data.toList=(dig3 n').data.toList):n=n':=by
 have h1:=Zbp n h;rw[e,Zbp n' h']at h1;omega
theorem Zi1 {a b:Nat}(h:UInt8.ofNat (dg a)=UInt8.ofNat (dg b)):a%10=b%10:=by
 have h1:=congrArg UInt8.toNat h;unfold dg at h1;rw[UInt8.toNat_ofNat',UInt8.toNat_ofNat']at h1;omega
theorem Zpu {n n':Nat}(h:n<100000)(h':n'<100000)(e:(dig5 n).data.toList=(dig5 n').data.toList):n=n':=by
 unfold dig5 at e;simp only[List.cons.injEq,and_true]at e;obtain⟨e1,e2,e3,e4,e5⟩:=e
 have:=Zi1 e1
 have:=Zi1 e2
 have:=Zi1 e3
 have:=Zi1 e4
 have:=Zi1 e5
 omega
theorem Zc5 (s:ByteArray)(i:Nat):(rcdL s i).take 4=123::(dig3 s.size).data.toList:=by
 rw[Za9];rfl
theorem Zev {s s':ByteArray}{i i':Nat}{l:List UInt8}(hs:s.size≤200)(hs':s'.size≤200)(h:(rcdL s i).take 4=l.take 4)(h':(rcdL s' i').take 4=l.take 4):s.size=s'.size:=by
 rw[Zc5]at h h';exact ZeT hs hs' (by injection h.trans h'.symm)
theorem Zb0 {s:ByteArray}{i:Nat}{r:List UInt8}:(rcdL s i++r).take 4=(rcdL s i).take 4:=List.take_append_of_le_length (by rw[Zaq];omega)
theorem ZrA {s s':ByteArray}{i i':Nat}{r r':List UInt8}(hs:s.size≤200)(hs':s'.size≤200)(h:rcdL s i++r=rcdL s' i'++r'):s=s'∧chkB s i%99991=chkB s' i'%99991:=by
 have hz:=Zev (i:=i) (i':=i') (l:=rcdL s i++r) hs hs' Zb0.symm (by rw[h];exact Zb0.symm);have he:rcdL s i=rcdL s' i':=by
  have:=congrArg (List.take (16+s.size)) h
  rw[List.take_left' (Zaq s i),List.take_left' (by rw[Zaq,hz])]at this;exact this
 rw[Za9,Za9,hz]at he;injection he with _ he;have he:=List.append_cancel_left he;obtain⟨e1,e2⟩:=List.append_inj he rfl;obtain⟨e3,_⟩:=List.append_inj e2 (by show s.size=s'.size;exact hz);refine⟨ByteArray.ext (ZuG.1 e3),?_⟩;unfold hdL at e1;injection e1 with _ e1;rw[hz]at e1;have e1:=List.append_cancel_left e1;injection e1 with _ e1;obtain⟨e4,_⟩:=List.append_inj e1 rfl;exact Zpu (by omega) (by omega) e4
theorem Zeu {b:List UInt8}{L:List ByteArray}{r:List UInt8}(hl:L.length≤50)(hs:∀s∈L,s.size≤200)(hb:b=fileL L 0++r)(ho:oneM b (fileL L 0).length L.length=none):recM b=(L,(fileL L 0).length):=by
 unfold recM;have h:=ZbE (b:=b) (at_:=0) (i:=0) (r:=r) hs (by rw[hb];rfl);rw[Zuk,Zuk,Za0 ho,Zut]at h;rw[h,Zub (by rw[ZbI];exact hl),ZbJ,Zcq (i:=0)]
theorem ZcG {L:List ByteArray}{j:Nat}(h:j≤L.length):fileL L 0=fileL (L.take j) 0++fileL (L.drop j) j:=by
 conv=>lhs;rw[←ZuS j L]
 rw[Zb9,Zt6,ZuB h,Zuk]
theorem Zmu {L:List ByteArray}{k:Nat}(hl:L.length≤50)(hs:∀s∈L,s.size≤200)(hk:k<L.length):recM (fileL (L.take k) 0++fileL (L.drop (k+1)) (k+1))=(L.take k,(fileL (L.take k) 0).length):=by
 have hlt:(L.take k).length=k:=by rw[Zt6];omega
 refine Zeu (by rw[hlt];omega) (fun s hs'=>hs s (ZuQ hs')) rfl ?_;rw[hlt];cases ho:oneM (fileL (L.take k) 0++fileL (L.drop (k+1)) (k+1)) (fileL (L.take k) 0).length k with
 |none=>rfl
 |some s=>
  obtain⟨g1,r,g2⟩:=ZaP.1 ho;rw[List.drop_left]at g2;cases hd:L.drop (k+1)with
  |nil=>
   rw[hd,Za9]at g2;cases g2
  |cons t l=>
   have htm:t.size≤200:=hs t (List.mem_of_mem_drop (by rw[hd];exact List.mem_cons_self ..));rw[hd]at g2;simp only[fileL]at g2;obtain⟨rfl,g3⟩:=ZrA htm g1 g2;unfold chkB at g3;omega
theorem Zoy {L:List ByteArray}{k:Nat}{s:ByteArray}(hx:L[k]?=some s):fileL L 0=fileL (L.take k) 0++(rcdL s k++fileL (L.drop (k+1)) (k+1)):=by
 obtain⟨hlt,e⟩:=Zt5.1 hx;rw[ZcG (Nat.le_of_lt hlt),List.drop_eq_getElem_cons hlt,e];rfl
end
section
open Go.RowKit
set_option maxRecDepth 10000
def natL (l:List UInt8):List Int:=l.map fun b=>(b.toNat:Int)
theorem Zaw:∀(l:List UInt8),Zbk (bP l)=some (natL l)
 |[]=>rfl
 |b::l=>by
  show(Zbk (bP l)).map _=_;rw[Zaw l];rfl
theorem Zav (l:List UInt8):Zcb (natL l)=bA l:=by
 unfold Zcb natL bA;rw[List.map_map];congr 2
 conv=>rhs;rw[←List.map_id l]
 apply List.map_congr_left;intro b _;show UInt8.ofNat ((b.toNat:Int).toNat)=b;rw[Int.toNat_natCast,UInt8.ofNat_toNat]
theorem Za7 {l:List UInt8}{k:Nat}:(bP l).take k=bP (l.take k):=by unfold bP;rw[List.map_take]
theorem Zbq {l:List UInt8}{k:Nat}:(bP l).drop k=bP (l.drop k):=by unfold bP;rw[List.map_drop]
section
attribute [local simp] AS.exp expG Box.ren AV.map AV.mapL Zau noRet Site.isRet Box.allS AV.allS AV.allSL retB dropL AS.adds renL outG outOk Zas inG fnOf lookA Zuq
attribute [local simp] Box.purge Site.isLoc
attribute [local simp] retFz frzL AS.frz AV.frz AV.frzL Box.frz AS.tidy AS.frzC frzsL retOk renB toLoc
theorem Zb2 (b:List UInt8):Gives Tryz.prog 33 [.lst false 1 (bP b)] (.fn 58 [] [.ref [.lst false 1 (bP b)]]):=by
 refine cF [.loc 1 0] L33 ?_;simp[-getElem?_pos,L33,fnA,unpvs]
theorem cokRv:COk Tryz.prog (tyOf tys) L17.code:=Zdl L17_ok L17_tab
noncomputable def rvL (st:Bool):Box:=.loop (rcode Tryz.prog 17 0) [8,9] 20 [(2,.ptr (.par 1) 0),(3,.ptr (.par 2) 0)] (match st with
 |true=>some (.exit 0)
 |false=>none)
noncomputable def rvX (x:Site)(ls:List ByteArray)(a:Nat)(st:Bool):List (Site×Box):=
 [(.par 0,rvL st),(.par 1,.cells [.vec x 1 0 ls.length]),(.par 2,.cells [.pv (.int .i64 a)]),(x,.arr 9 1 (ls.map .str))]
theorem Zcv (ls:List ByteArray)(a:Nat)(s:ByteArray)(a':Nat)(hl:ls.length≤50):
  ZbM Tryz.prog 0 [.pv (.str s),.pv (.int .i64 a')] (rvX (.par 3) ls a false) (fun r B=>r=.pv (.bool (!decide (ls.length=50)))∧B=if ls.length=50 then rvX (.par 3) ls a true else rvX (.ret 2) (ls++[s]) a' false):=by
 have hcok:COk Tryz.prog (tyOf tys) (.rng 20 (.t 7) (rcode Tryz.prog 17 0) Y17_0a Y17_0b [8,9]):=cokRv.2.2.1.2;refine ZaG mixed hcok.1 hcok.2.1 rfl rfl (by simp) rfl ?_;by_cases h5:ls.length=50
 ·simp[-getElem?_pos,Y17_0a,Y17_0b,rvX,rvL,putL,h5];exact⟨[],[.par 1,.par 2,.par 3],rfl,rfl,by simp[frzL],rfl,by simp[frzL]⟩
 ·have h6:((ls.length:Int)=50)=False:=by simp;omega
  have h1:ls.length+1≤1000000:=by omega
  simp[-getElem?_pos,Y17_0a,Y17_0b,rvX,rvL,putL,h5,h6,h1,nble];exact⟨[],[.par 1,.par 2,.loc 16 0],rfl,rfl,by simp[frzL],rfl,by simp[frzL,h5]⟩
end
attribute [local simp] ZcD ZcC ZcB Zbv Zcy Zcz ZbR
attribute [local simp] AS.exp expG Box.ren AV.map AV.mapL Zau noRet Site.isRet Box.allS AV.allS AV.allSL retB dropL AS.adds renL outG outOk Zas inG Zuq
def rcT (b:List UInt8)(a i:Nat):List (Nat×AV):=[(0,.yld (.par 0)),(1,.pv (.ref [.lst false 1 (bP b)])),(3,.pv (.int .i64 (a:Int))),(4,.pv (.int .i64 (i:Int)))]
structure RvAt (b:List UInt8)(done:List (ByteArray×Nat))(a i:Nat):Prop where
 all:restM b 0 0=done++restM b a i
 ix:done.length=i
 la:lastE done=a
 ab:a≤b.length
theorem RvAt.next {b:List UInt8}{done:List (ByteArray×Nat)}{a i:Nat}{s:ByteArray}(h:RvAt b done a i)(ho:oneM b a i=some s):RvAt b (done++[(s,a+16+s.size)]) (a+16+s.size) (i+1):=
 ⟨by rw[h.all,ZaL ho,ZuD];rfl,by rw[Zt9,h.ix];rfl,Za1,Zbg ho⟩
theorem RvAt.stop {x:Site}{b:List UInt8}{done:List (ByteArray×Nat)}{a i:Nat}(h:RvAt b done a i)(hi:i≤50)(ho:oneM b a i=none):rvX x (done.map (·.1)) a false=rvX x (recM b).1 (recM b).2 (decide (50<(restM b 0 0).length)):=by
 have e:restM b 0 0=done:=by rw[h.all,Za0 ho,Zut]
 unfold recM;rw[e,Zub (by rw[h.ix];exact hi),h.la,decide_eq_false (by rw[h.ix];omega)]
theorem RvAt.full {x:Site}{b:List UInt8}{done:List (ByteArray×Nat)}{a:Nat}{s:ByteArray}(h:RvAt b done a 50)(ho:oneM b a 50=some s):rvX x (done.map (·.1)) a true=rvX x (recM b).1 (recM b).2 (decide (50<(restM b 0 0).length)):=by
 have e:restM b 0 0=done++(s,a+16+s.size)::restM b (a+16+s.size) (50+1):=by rw[h.all,ZaL ho]
 unfold recM;rw[e,List.take_left' h.ix,h.la,decide_eq_true (by rw[Zt9,Zuu,h.ix];omega)]
set_option maxHeartbeats 16000000 in
theorem Zfw (b:List UInt8)(hb:b.length≤1000000):
  Zak Tryz.prog 58 [.yld (.par 0),.pv (.ref [.lst false 1 (bP b)])] (rvX (.par 3) [] 0 false) (fun q B=>q=.pv (.tup [])∧B=rvX (.ret 3) (recM b).1 (recM b).2 (decide (50<(restM b 0 0).length))):=by
 refine cBR [.par 0,.par 1,.par 2,.loc 90 0] L58 ?_;intro R hR;simp[-getElem?_pos,L58,-retB];refine Zae (fun m τ=>∃(done:List (ByteArray×Nat)) (a i:Nat),m=51-i∧i≤50∧RvAt b done a i∧τ=⟨rcT b a i,rvX (.loc 90 0) (done.map (·.1)) a false⟩)
  ⟨51,⟨rcT b 0 0,rvX (.loc 90 0) [] 0 false⟩,Sub.trans' (Sub.mk ?_ ?_) (Sub.ren 90 (.par 3) _),[],0,0,rfl,by omega,⟨rfl,rfl,rfl,Zud _⟩,rfl⟩ ?_
 ·simp[rcT,AS.ren,renS,AS.purge,AV.purge,AV.has]
 ·simp[rvX,rvL,AS.ren,renS,AS.purge,AV.purge,AV.has]
 rintro J hJ m τ ⟨done,a,i,rfl,hi,hat,rfl⟩;have hab:=hat.ab;have stop:oneM b a i=none→R (.pv (.tup [])) (rvX (.ret 3) (done.map (·.1)) a false):=fun ho=>by
  rw[←hR];exact⟨rfl,by rw[hat.stop hi ho]⟩
 have hw0:IntKind.i64.wrap ((b.length:Int)-(a:Int))=(b.length:Int)-(a:Int):=wrap64 (by omega);have hdm:(List.map (fun x:ByteArray×Nat=>x.fst) done).length=done.length:=Zuc _;by_cases h1:a+15<b.length
 ·have h1':(15:Int)<(b.length:Int)-(a:Int):=by omega
  have hw1:IntKind.i64.wrap ((a:Int)+1)=(a:Int)+1:=wrap64 (by omega);have hw2:IntKind.i64.wrap ((a:Int)+1+3)=(a:Int)+1+3:=wrap64 (by omega);have hn1:natI ((a:Int)+1+3)=some (a+1+3):=Zaz.2 (by omega);have hb1:a+1+3≤b.length:=by omega
  have hS:List.drop (a+1) (List.take (a+1+3) (bP b))=bP ((b.drop (a+1)).take 3):=by rw[Za7,Zbq,List.drop_take,show a+1+3-(a+1)=3 by omega]
  have hS3:((b.drop (a+1)).take 3).length≤3:=by rw[Zt6];omega
  have hone:oneM b a i=oneM b a i:=rfl
  conv at hone=>rhs;unfold oneM
  rw[if_pos h1]at hone;generalize hS1:(b.drop (a+1)).take 3=S1 at hS hS3 hone;have ha:=Zht (bA S1) (by rw[show(bA S1).size=S1.length from rfl];omega);simp[-getElem?_pos,rcT,ZaC,hw0,h1',hw1,hw2,nblt,nble,hn1,hb1,hS,Zaw,Zav];refine Zaa (k:=0) (fs:=[]) (xs:=[.str (bA S1)]) (cs:=[]) rfl rfl ha (by unfold atoiE;split<;>rfl) ?_;unfold atoiE;rw[show(bA S1).data.toList=S1 from rfl];cases hq9:Lib.atoiAll S1 with
  |ok v=>
   have hnum:num3 S1=v:=by unfold num3;rw[hq9]
   rw[hnum]at hone;by_cases hv0:v<0
   ·rw[if_neg (by omega)]at hone;have hst:=stop hone;simp[rvX,rvL]at hst;simp[-getElem?_pos,hv0,rvX,rvL];exact hst
   by_cases hv2:200<v
   ·rw[if_neg (by omega)]at hone;have hst:=stop hone;simp[rvX,rvL]at hst;simp[-getElem?_pos,hv0,hv2,rvX,rvL];exact hst
   obtain⟨n,rfl⟩:∃n:Nat,v=n:=⟨v.toNat,by omega⟩;have hv2':¬200<n:=by omega
   have hw3:IntKind.i64.wrap ((a:Int)+15)=(a:Int)+15:=wrap64 (by omega);have hw4:IntKind.i64.wrap ((a:Int)+15+(n:Int))=(a:Int)+15+(n:Int):=wrap64 (by omega);have hw5:IntKind.i64.wrap ((a:Int)+15+(n:Int)+1)=(a:Int)+15+(n:Int)+1:=wrap64 (by omega);by_cases hl:b.length<a+15+n+1
   ·rw[if_neg (by omega)]at hone;have hst:=stop hone;simp[rvX,rvL]at hst;have hl':(b.length:Int)<(a:Int)+15+(n:Int)+1:=by omega
    simp[-getElem?_pos,hv0,hv2,hv2',hw3,hw4,hw5,hl',ZaC,rvX,rvL];exact hst
   have hl':¬(b.length:Int)<(a:Int)+15+(n:Int)+1:=by omega
   rw[if_pos (by omega),Int.toNat_natCast]at hone;have hn2:natI ((a:Int)+15)=some (a+15):=Zaz.2 (by omega);have hn3:natI ((a:Int)+15+(n:Int))=some (a+15+n):=Zaz.2 (by omega);have hn4:natI ((a:Int)+15+(n:Int)+1)=some (a+15+n+1):=Zaz.2 (by omega);have hb2:a+15+n≤b.length:=by omega
   have hb3:a+15+n+1≤b.length:=by omega
   have hb4:a≤a+15+n+1:=by omega
   have hS2:List.drop (a+15) (List.take (a+15+n) (bP b))=bP ((b.drop (a+15)).take n):=by rw[Za7,Zbq,List.drop_take,show a+15+n-(a+15)=n by omega]
   have hS4:List.drop a (List.take (a+15+n+1) (bP b))=bP ((b.drop a).take (16+n)):=by rw[Za7,Zbq,List.drop_take,show a+15+n+1-a=16+n by omega]
   have hsz:(bA ((b.drop (a+15)).take n)).size=n:=by rw[show(bA ((b.drop (a+15)).take n)).size=((b.drop (a+15)).take n).length from rfl,Zt6,Zuh];omega
   have hsb:(⟨((b.drop (a+15)).take n).toArray⟩:ByteArray)=bA ((b.drop (a+15)).take n):=rfl;rw[hsb]at hone;simp[-getElem?_pos,hv0,hv2,hv2',hw3,hw4,hw5,hl',ZaC,hn2,hn3,hn4,hb2,hb3,hb4,hS2,hS4,Zaw,Zav,nblt,nble];have hrc:=Zet (bA ((b.drop (a+15)).take n)) i (by omega) (by omega);generalize hs':bA ((b.drop (a+15)).take n)=s at hsz hone hrc ⊢;refine ZaI (fun τ=>τ=⟨[(0,.yld (.par 0)),(1,.pv (.ref [.lst false 1 (bP b)])),(3,.pv (.int .i64 (a:Int))),(4,.pv (.int .i64 (i:Int))),(5,.pv (.int .i64 (n:Int))),(7,.pv (.str s)),(64,.pv (.str (bA ((b.drop a).take (16+n))))),(67,.pv (.str (recB s i)))],rvX (.loc 90 0) (done.map (·.1)) a false⟩) ?_ ?_
   ·simp only[Zaf,Zaj];refine⟨?_,?_,trivial⟩
    ·simp[-getElem?_pos,Zaf,Zaj,hold,Zaw,Zav];refine ZaQ (k:=0) (fs:=[]) (xs:=[.str s,.int .i64 i]) (cs:=[]) rfl rfl hrc rfl ?_;simp[-getElem?_pos,Zaf,Zaj];exact Sub.mk (by simp) (by simp[rvX,rvL])
    ·simp[-getElem?_pos,Zaf,Zaj,hold];refine ZaQ (k:=0) (fs:=[]) (xs:=[.str s,.int .i64 i]) (cs:=[]) rfl rfl hrc rfl ?_;simp[-getElem?_pos,Zaf,Zaj,Zaw,Zav];exact Sub.mk (by simp) (by simp[rvX,rvL])
   ·rintro τ rfl;have hq:((bA ((b.drop a).take (16+n))).toList==(recB s i).toList)=decide ((b.drop a).take (16+n)=rcdL s i):=by
     rw[Lib.toList_data,Lib.toList_data,Zuz,beq_iff_eq,decide_eq_true_eq];exact Iff.rfl
    simp[-getElem?_pos,hq];by_cases hf:(b.drop a).take (16+n)=rcdL s i
    ·rw[if_pos hf]at hone;have hw6:IntKind.i64.wrap (15+(n:Int))=15+(n:Int):=wrap64 (by omega);have hw7:IntKind.i64.wrap (15+(n:Int)+1)=15+(n:Int)+1:=wrap64 (by omega);have hw8:IntKind.i64.wrap ((a:Int)+(15+(n:Int)+1))=((a+16+n:Nat):Int):=by rw[wrap64 (by omega)];omega
     have hyl:=Zcv (done.map (·.1)) a s (a+16+n) (by rw[hdm,hat.ix];exact hi);simp[-getElem?_pos,hf,hw6,hw7,hw8];refine ZcW 79 0 [.par 0,.par 1,.par 2,.loc 90 0] (as':=[.pv (.str s),.pv (.int .i64 ((a+16+n:Nat):Int))]) rfl rfl rfl rfl ?_ rfl rfl hyl ?_
     ·simp[rvX,rvL]
     rintro r B ⟨rfl,rfl⟩;rw[hdm,hat.ix];by_cases h5:i=50
     ·rw[if_pos h5];subst h5;have hfull:R (.pv (.tup [])) (rvX (.ret 3) (done.map (·.1)) a true):=by
       rw[←hR];exact⟨rfl,by rw[hat.full hone]⟩
      simp[rvX,rvL]at hfull;refine⟨rfl,by simp[rvX,rvL],?_⟩;simp[-getElem?_pos,rvX,rvL];exact hfull
     ·rw[if_neg h5];have hnx:=hat.next hone;have hround:=hJ _ _ ⟨_,_,i+1,rfl,by omega,hnx,rfl⟩;rw[hsz,Zuw]at hround;have hwi:=wrapK (k:=i) (by omega);refine⟨rfl,by simp[rvX,rvL],?_⟩;simp[-getElem?_pos,h5,rvX,rvL,hwi];refine⟨_,_,(by omega:51-(i+1)<51-i),Sub.trans' (Sub.mk ?_ ?_) (Sub.ren 90 (.loc 79 2) _),hround⟩
      ·simp[rcT,AS.ren,renS,AS.purge,AV.purge,AV.has]
      ·simp[rvX,rvL,AS.ren,renS,AS.purge,AV.purge,AV.has]
    ·rw[if_neg hf]at hone;have hst:=stop hone;simp[rvX,rvL]at hst;simp[-getElem?_pos,hf,rvX,rvL];exact hst
  |_=>
   have hnum:num3 S1 = -1:=by unfold num3;rw[hq9]
   rw[hnum,if_neg (by omega)]at hone;have hst:=stop hone;simp[rvX,rvL]at hst;simp[-getElem?_pos,rvX,rvL];exact hst
 ·have h1':¬(15:Int)<(b.length:Int)-(a:Int):=by omega
  have ho:oneM b a i=none:=by unfold oneM;rw[if_neg h1]
  have hst:=stop ho;simp[rvX,rvL]at hst;simp[-getElem?_pos,rcT,ZaC,hw0,h1',rvX,rvL];exact hst
end
section
open Go.RowKit
set_option maxRecDepth 10000
attribute [local simp] AS.exp expG Box.ren AV.map AV.mapL Zau noRet Site.isRet Box.allS AV.allS AV.allSL retB dropL AS.adds renL outG outOk Zas inG fnOf lookA Zuq
attribute [local simp] Box.purge Site.isLoc
attribute [local simp] retFz frzL AS.frz AV.frz AV.frzL Box.frz AS.tidy AS.frzC frzsL retOk renB toLoc
def recE (b:List UInt8):PV:=.tup [strsP (recM b).1,.int .i64 ((recM b).2:Int)]
set_option maxHeartbeats 4000000 in
theorem Zb1 (b:List UInt8)(hb:b.length≤1000000):Gives Tryz.prog 17 [.lst false 1 (bP b)] (recE b):=by
 have hrc:=Zfw b hb;refine cFR [.loc 21 3] L17 ?_;intro R hR;have hfin:R (.pv (.tup [.lst false 1 ((recM b).1.map .str),.int .i64 ((recM b).2:Int)])) []:=by
  rw[←hR];exact⟨rfl,rfl⟩
 have htk:List.take (recM b).1.length ((recM b).1.map PV.str)=(recM b).1.map PV.str:=Zub (by simp);simp[-getElem?_pos,L17];refine .inl (cQ [] [.lst false 1 (bP b)] (Zb2 b) ?_);simp[-getElem?_pos];refine Ze3 (vecC 60 9 1 (s:=.loc 2 0) (cs:=[.pv (.emp (some true))]) 0 rfl rfl (by decide)) ?_;refine ZbD [.loc 20 0,.loc 2 0,.loc 3 0,.loc 60 0] [(2,.ptr (.loc 2 0) 0),(3,.ptr (.loc 3 0) 0)] (gf:=58) (fs:=[]) (cs:=[.pv (.ref [.lst false 1 (bP b)])]) ?_ ?_ rfl rfl ?_ ?_ ?_ hrc ?_
 ·simp[AS.vecC]
 ·simp[AS.vecC]
 ·simp[AS.vecC,rvX,rvL]
 ·rfl
 ·rfl
 rintro q B' ⟨rfl,rfl⟩;generalize recM b=r at hfin htk ⊢;obtain⟨ls,a⟩:=r;dsimp only at hfin htk ⊢;refine⟨rfl,by simp[rvX,rvL],?_⟩;cases hst:decide (50<(restM b 0 0).length)with
 |false=>
  refine⟨_,_,_,_,_,rfl,?_⟩;simp[-getElem?_pos,rvX,rvL,AS.vecC,jumpQ];refine ZaI (fun τ=>τ=⟨[(3,.ptr (.loc 3 0) 0),(2,.ptr (.loc 2 0) 0),(19,.pv (.int .i64 (a:Int)))],[(.loc 2 0,.cells [.vec (.loc 21 3) 1 0 ls.length]),(.loc 3 0,.cells [.pv (.int .i64 (a:Int))]),(.loc 21 3,.arr 9 1 (ls.map .str))]⟩) ?_ ?_
  ·simp only[Zaf,Zaj];refine⟨?_,?_,trivial⟩
   ·simp[-getElem?_pos,Zaf,Zaj,hold];exact Sub.mk (by simp) (by simp)
   ·simp[-getElem?_pos,Zaf,Zaj,hold];exact Sub.mk (by simp) (by simp)
  ·rintro τ rfl;simp[-getElem?_pos,Zaf,Zaj,htk];exact hfin
 |true=>
  refine⟨_,_,_,_,_,rfl,?_⟩;simp[-getElem?_pos,rvX,rvL,AS.vecC,jumpQ];refine ZaI (fun τ=>τ=⟨[(3,.ptr (.loc 3 0) 0),(2,.ptr (.loc 2 0) 0),(19,.pv (.int .i64 (a:Int)))],[(.loc 2 0,.cells [.vec (.loc 21 3) 1 0 ls.length]),(.loc 3 0,.cells [.pv (.int .i64 (a:Int))]),(.loc 21 3,.arr 9 1 (ls.map .str))]⟩) ?_ ?_
  ·simp only[Zaf,Zaj];refine⟨?_,?_,trivial⟩
   ·simp[-getElem?_pos,Zaf,Zaj,hold];exact Sub.mk (by simp) (by simp)
   ·simp[-getElem?_pos,Zaf,Zaj,hold];exact Sub.mk (by simp) (by simp)
  ·rintro τ rfl;simp[-getElem?_pos,Zaf,Zaj,htk];exact hfin
def whl (L:List ByteArray)(n:Nat):Nat:=(fileL (L.take n) 0).length
theorem ZdO {L:List ByteArray}{n:Nat}{s:ByteArray}(hx:L[n]?=some s):whl L (n+1)=whl L n+16+s.size:=by
 have hn:n<L.length:=(Zt5.1 hx).1;unfold whl;rw[Zuf,hx];show(fileL (L.take n++[s]) 0).length=_;rw[Zdf,Zt9,Zaq];omega
theorem Zem {L:List ByteArray}{i:Nat}:∀d,whl L i≤whl L (i+d)
 |0=>Zue _
 |d+1=>by
  have h:=Zem (L:=L) (i:=i) d;rw[←Nat.add_assoc];cases hx:L[i+d]? with
  |none=>
   have hl:L.length≤i+d:=List.getElem?_eq_none_iff.1 hx;have e:whl L (i+d+1)=whl L (i+d):=by
    unfold whl;rw[Zub hl,Zub (by omega)]
   rw[e];exact h
  |some s=>rw[ZdO hx];omega
theorem ZfU {L:List ByteArray}(hl:L.length≤50)(hs:∀s∈L,s.size≤200)(n:Nat):whl L n≤10800:=by
 have:=ZdY (l:=L.take n) (i:=0) (fun s h=>hs s (ZuQ h))
 rw[Zt6]at this;unfold whl;have h2:min n L.length≤50:=Zup (Nat.min_le_right _ _) hl;omega
def plcS (L:List ByteArray)(k n:Nat):AS:=⟨[(0,.pv (.lst false 1 (L.map .str))),(5,.pv (.lst false 1 (bP (fileL L 0)))),(6,.pv (.int .i64 0)),(7,.pv (.int .i64 (k:Int))),(8,.pv (.int .i64 (whl L n:Int))),(9,.pv (.int .i64 (n:Int)))],[]⟩
set_option maxHeartbeats 4000000 in
theorem ZrE (L:List ByteArray)(c:Nat)(hc:c<256)(hl:L.length≤9223372036854775807):Gives Tryz.prog 6 [strsP L,.int .u8 (c:Int)] (.bool true):=by
 have hth:=ZgH L hl;refine cSR L6 ?_;intro R hR;simp[-getElem?_pos,L6];refine cG [strsP L] hth ?_;cases ht:thinB L with
 |false=>
  simp[-getElem?_pos];refine cG [] Zbf ?_;simp[-getElem?_pos];rw[←hR];exact⟨rfl,by simp⟩
 |true=>
 have hl5:L.length≤55:=by
  unfold thinB at ht;rw[Zt7,decide_eq_true_eq]at ht;exact ht.2
 have hrr:=Zes L (by omega);simp[-getElem?_pos];refine cG [strsP L] hrr ?_;cases hrt:ZaJ L with
 |false=>
  simp[-getElem?_pos];refine cG [] Zbf ?_;simp[-getElem?_pos];rw[←hR];exact⟨rfl,by simp⟩
 |true=>
 by_cases h0:L.length=0
 ·have:L=[]:=List.length_eq_zero_iff.1 h0
  subst this;simp[-getElem?_pos,strsP];refine cG [] Zbf ?_;simp[-getElem?_pos];rw[←hR];exact⟨rfl,by simp⟩
 have h0i:¬(L.length:Int)=0:=by omega
 obtain⟨hl0,hs0⟩:=ZaE hrt;have hck:=ZaH hrt;have hbi:=ZdK L (by omega);have hwr:=ZgJ L (by omega);unfold wrtE at hwr;rw[if_pos hck]at hwr;have hwe:whl L L.length=(fileL L 0).length:=by unfold whl;rw[Zus]
 have hfl:(fileL L 0).length≤10800:=by rw[←hwe];exact ZfU hl0 hs0 _
 have hfb:(fileL L 0).length≤1000000:=by omega
 have hkl:c%L.length<L.length:=Nat.mod_lt c (by omega);have hkc:(c:Int).tmod (L.length:Int)=((c%L.length:Nat):Int):=by rw[Int.tmod_eq_emod_of_nonneg (by omega)];rfl
 generalize hk:c%L.length=k at hkl hkc;have hwc:IntKind.i64.wrap (c:Int)=(c:Int):=wrap64 (by omega);have hne:L≠[]:=fun e=>h0 (by rw[e];rfl)
 simp[-getElem?_pos,strsP,h0,h0i,hne];refine .inl (cQ [] [strsP L] hbi ?_);simp[-getElem?_pos];refine .inl (cQ [] [strsP L] hwr ?_);simp[-getElem?_pos,hwc,hkc,h0,h0i,hne,strsP];refine Zae (fun m τ=>∃n:Nat,n≤k∧m=k-n∧τ=plcS L k n) ⟨k,plcS L k 0,Sub.mk (by simp[plcS,whl,fileL]) (by simp[plcS]),0,Zud _,rfl,rfl⟩ ?_;rintro J hJ m τ ⟨n,hn,rfl,rfl⟩;have hwn:=ZfU hl0 hs0 n;by_cases hlt:n<k
 ·obtain⟨s,hx⟩:∃s,L[n]?=some s:=⟨L[n]'(by omega),Zt3 (by omega)⟩;have hg:(L.map PV.str)[n]?=some (.str s):=by rw[Zt4,hx];rfl
  have hsz:=hs0 s (Zua hx);have hw:=wrapK (k:=n) (by omega);have hlt2:n<L.length:=by omega
  have hw3:IntKind.i64.wrap (16+(s.size:Int))=16+(s.size:Int):=wrap64 (by omega);have hw4:IntKind.i64.wrap ((whl L n:Int)+(16+(s.size:Int)))=((whl L (n+1):Nat):Int):=by rw[wrap64 (by omega),ZdO hx];omega
  have hnn:=hJ (k-(n+1)) _ ⟨n+1,hlt,rfl,rfl⟩;have hmeas:k-(n+1)<k-n:=by omega
  simp[-getElem?_pos,-List.getElem?_map,plcS,hlt,hlt2,hg,nblt,nble,hw,hw3,hw4];exact⟨_,_,hmeas,Sub.mk (by simp[plcS]) (by simp[plcS]),hnn⟩
 have he:n=k:=by omega
 subst he;obtain⟨s,hx⟩:∃s,L[n]?=some s:=⟨L[n],Zt3 hkl⟩;have hg:(L.map PV.str)[n]?=some (.str s):=by rw[Zt4,hx];rfl
 have hsz:=hs0 s (Zua hx);have hst:=ZdO hx;have hhd:=Zoy hx;have hend:whl L (n+1)≤(fileL L 0).length:=by
  rw[←hwe]
  have:=Zem (L:=L) (i:=n+1) (L.length-(n+1))
  rw[show n+1+(L.length-(n+1))=L.length by omega]at this;exact this
 have ht1:(fileL L 0).take (whl L n)=fileL (L.take n) 0:=by rw[hhd];exact List.take_left' rfl
 have ht2:(fileL L 0).drop (whl L n+16+s.size)=fileL (L.drop (n+1)) (n+1):=by
  rw[hhd,Nat.add_assoc,←ZuM,List.drop_left' (rfl:_=whl L n),List.drop_left' (Zaq s n)]
 have hpl:=Zmu hl0 hs0 hkl;rw[←ht1,←ht2]at hpl;have hrv:=Zb1 ((fileL L 0).take (whl L n)++(fileL L 0).drop (whl L n+16+s.size)) (by rw[Zt9,Zt6,Zuh];omega);unfold recE at hrv;rw[hpl,ht1]at hrv;have hlw:(fileL (L.take n) 0).length=whl L n:=rfl;rw[hlw]at hrv;have htx:=ZeX (L.take n) (L.take n) (by rw[Zt6];omega);have hw1:IntKind.i64.wrap ((whl L n:Int)+16)=(whl L n:Int)+16:=wrap64 (by omega);have hw2:IntKind.i64.wrap ((whl L n:Int)+16+(s.size:Int))=(whl L n:Int)+16+(s.size:Int):=wrap64 (by omega);have hge:¬((fileL L 0).length:Int)<(whl L n:Int)+16+(s.size:Int):=by omega
 have hlt2:n<L.length:=hkl;have hnk:n≤L.length:=by omega
 have q1:whl L n≤(fileL L 0).length:=by omega
 have q2:whl L n+16+s.size≤(fileL L 0).length:=by omega
 have n1:natI ((whl L n:Int)+16+(s.size:Int))=some (whl L n+16+s.size):=Zaz.2 (by omega);have b1:List.take (whl L n) (bP (fileL L 0))=bP (fileL (L.take n) 0):=by rw[Za7,ht1]
 have b2:List.drop (whl L n+16+s.size) (bP (fileL L 0))=bP (fileL (L.drop (n+1)) (n+1)):=by rw[Zbq,ht2]
 rw[ht2]at hrv;have p0:(fileL (L.take n) 0).length=whl L n:=rfl;have p1:(fileL (L.drop (n+1)) (n+1)).length=(fileL L 0).length-(whl L n+16+s.size):=by rw[←ht2,Zuh]
 have hwn2:whl L n≤1000000:=by omega
 generalize fileL (L.drop (n+1)) (n+1)=P1 at hrv b2 p1;generalize fileL (L.take n) 0=P0 at hrv b1 p0;have bt:List.take (fileL L 0).length (bP (fileL L 0))=bP (fileL L 0):=Zub (by rw[ZaC];omega);have p2:whl L n+P1.length≤1000000:=by omega
 have b3:List.take (whl L n) (bP P0)=bP P0:=Zub (by rw[ZaC];omega);have b4:List.take (whl L n+P1.length) (bP P0++bP P1)=bP P0++bP P1:=Zub (by rw[Zt9,ZaC,ZaC];omega);have b5:List.take P1.length (bP P1)=bP P1:=Zub (by rw[ZaC];omega);simp[-getElem?_pos,-List.getElem?_map,plcS,hlt2,hg,nblt,nble,ZaC,hw1,hw2,hge,q1,q2,n1,b1,b2,b3,p0,hwn2,p2,bt,p1.symm];refine .inl (cP [.loc 81 0] [.lst false 1 (bP (P0++P1))] (by simp) (by simp[ZaC,ZqR,p0,b4]) hrv ?_);have htl:(List.map PV.str L).take n=(L.take n).map PV.str:=by rw[List.map_take]
 simp[-getElem?_pos,-List.map_take,nblt,nble,hnk,htl,strsP];refine cG [strsP (L.take n),strsP (L.take n)] htx ?_;simp[-getElem?_pos];refine cG [] Zbf ?_;simp[-getElem?_pos];rw[←hR];exact⟨rfl,by simp⟩
end
section
open Go.ChangeShapes Go.WideShapes Go.ChangeAt Go.RowKit
set_option maxRecDepth 100000
theorem Zhy (v0 v1:Value)(W:World){H:Type}{enc:TypeId×Value→H}{base:Nat}{sp:Nat→Bool}{hd:Bool}{d0 d1:DataW H}{p0 p1:List MemPlace}(hg:Glob W.mem W)
  (k0:Value.okWide Tryz.prog W .any base 22 v0) (h0:DataW.Trod enc Tryz.prog W 0 sp hd 22 v0 d0 p0)
  (k1:Value.okWide Tryz.prog W .any base 5 v1) (h1:DataW.Trod enc Tryz.prog W 0 sp hd 5 v1 d1 p1):
  Calls Tryz.prog 6 #[v0,v1] W fun e w'=>e=.returned (.bool true)∧Keep [] W w':=by
 obtain⟨n0,h0⟩:=h0;obtain⟨s0,w0,r0⟩:=Zf2 k0 h0;obtain⟨z1,rfl,rfl,rfl,y1⟩:=open_int Tryz.underlying5 k1 h1;obtain⟨s1,w1,rfl⟩:∃s:Nat,s<256∧z1=(s:Int):=by
  have e1:IntKind.u8.min=0:=by decide
  have e2:IntKind.u8.max=255:=by decide
  have y:=ZbT y1;exact⟨z1.toNat,by omega,by omega⟩
 refine Zdi (xs:=[strsP s0,.int .u8 (s1:Int)]) (b:=true) ((ZrE s0 s1 w1 w0).mono (fun _ _ h=>h.1)) rfl (fun j v x e1 e2=>?_) hg
 match j with
 |0=>simp at e1 e2;subst e1 e2;exact r0
 |1=>simp at e1 e2;subst e1 e2;exact .int .u8 (s1:Int)
 |j+2=>simp at e1
theorem Zgm (os:Os)(started:os.Started)(H:Type)(enc:TypeId×Value→H):
  ReturnsInHanded {} Tryz.checked os 6 .any (fun w args=>(Rows.bookPlaceSpec.pre enc Tryz.prog Tryz.f6 Rows.bookPlaceRow.domain false w args∧laidMetH Tryz.prog Rows.bookPlaceRow.laid w)∧sizedMet enc Tryz.prog Tryz.f6 (OpenSpec.ofChange Rows.bookPlaceSpec) false w args)
   (Rows.bookPlaceSpec.post enc Tryz.prog Tryz.f6 false true false false):=by
 refine ZcE (C:=Tryz.checked) (X:=fun w _=>laidMetH Tryz.prog Rows.bookPlaceRow.laid w) (fun _ _ _ hh h=>h.of_heap hh) own started (by kernel_rfl) Tryz.func6
  (ChangeSpec.witness_shaped (enc:=enc) (C:=Tryz.checked) (os:=os) (X:=fun w _=>laidMetH Tryz.prog Rows.bookPlaceRow.laid w) false (World.laidAll Tryz.prog os Rows.bookPlaceRow.laid) #[.slice none 0 0,.int .u8 0] 8 (World.laidAll_os _ _ _)
   (World.shaped_of_ZipB (by kernel_rfl) (by kernel_rfl)) (by kernel_rfl) (by kernel_rfl) (by kernel_rfl)
   (by rw[MakeChecks.laidMetH_plain _ _ _ (by kernel_rfl)];exact laidMet_laidAll _ (by kernel_rfl) (by kernel_rfl))) ?_
 intro W base args ds gs before hval0 hW hL hsh;have hval:∀(j:Nat) t v,Tryz.f6.params[j]?=some t→args[j]?=some v→Value.okWide Tryz.prog W .any base t v:=hval0;rw[MakeChecks.laidMetH_plain _ _ _ (by kernel_rfl)]at hL;have hg:=Zgx hsh (Lib.laidMet.reads hL (by simp[Rows.bookPlaceRow])) (Lib.laidMet.reads hL (by simp[Rows.bookPlaceRow])) (Lib.laidMet.reads hL (by simp[Rows.bookPlaceRow]));have hW':=hW;obtain⟨p,q,hA0,hV,rfl,hfz,hnd⟩:=hW;have hA:DataW.TrodAll enc Tryz.prog W 0 (fun _=>true) true Tryz.f6.params.toList args.toList ds p:=hA0;rw[Tryz.params6]at hA hval;obtain⟨v0,vs0,d0,ds0,p0,q0,hargs,rfl,rfl,h0,r0⟩:=trodAll_cons hA;obtain⟨v1,vs1,d1,ds1,p1,q1,rfl,rfl,rfl,h1,r1⟩:=trodAll_cons r0;obtain⟨rfl,rfl,rfl⟩:=trodAll_nil r1;have hargs':args=#[v0,v1]:=by
  apply Array.ext';exact hargs
 subst hargs';have k0:=hval 0 _ v0 rfl rfl;have k1:=hval 1 _ v1 rfl rfl;obtain⟨rfl,rfl⟩:=trodVars_none hV;refine(Zhy v0 v1 W hg k0 h0 k1 h1).mono fun e W' ⟨he,hk⟩=>?_
 subst he;exact⟨_,rfl,Zex (tb:=4) laidP Zd5 fullP (by decide +kernel) rfl rfl rfl Tryz.underlying4 hW' hk⟩
end
section
open Go.RowKit
set_option maxRecDepth 100000
theorem bC0:(Rows.bookPlaceRow.wf (OpenSpec.ofChange Rows.bookPlaceSpec))=true:=by kernel_rfl
theorem bC1:(laidOutB Tryz.prog)=true:=laidP
theorem bC2:(mapsRowed Tryz.prog)=true:=Zd5
theorem bC3:(Tryz.f6.params.all (Tryz.prog.readableRec ·))=true:=by kernel_rfl
theorem bC4:(namedTie Tryz.prog Rows.bookPlaceRow.named Rows.bookPlaceSpec.vars)=true:=by kernel_rfl
theorem bC5:((Rows.bookPlaceRow.stops==[]))=true:=by kernel_rfl
theorem bC6:((Tryz.prog.stops==[]))=true:=by kernel_rfl
theorem bC7:((Rows.bookPlaceRow.knobs==[]))=true:=by kernel_rfl
theorem bC8:((Tryz.prog.stopKnobs==[]))=true:=by kernel_rfl
theorem bC9:((Rows.bookPlaceRow.inPlace==Tryz.prog.inPlace 6))=true:=by kernel_rfl
theorem bC10:((Rows.bookPlaceRow.unfollowed==Tryz.prog.unfollowed 6))=true:=by kernel_rfl
theorem bC11:((Rows.bookPlaceRow.recurses==Tryz.prog.recurses 6))=true:=by kernel_rfl
theorem bC12:((Rows.bookPlaceRow.named==Tryz.prog.varsNamed 6))=true:=by kernel_rfl
theorem bC13:((Rows.bookPlaceRow.maps==(Tryz.f6.params.toList++Rows.bookPlaceSpec.plain.varTypes Tryz.prog).any (Tryz.prog.mapsRec ·)))=true:=by kernel_rfl
theorem bC14:((Rows.bookPlaceRow.ifaces==(Tryz.f6.params.toList++Rows.bookPlaceSpec.plain.varTypes Tryz.prog).any (Tryz.prog.ifacesRec ·)))=true:=by kernel_rfl
theorem bC15:((Rows.bookPlaceRow.mapsOut==Tryz.prog.mapsAmong Tryz.f6.resultTypes.toList))=true:=by kernel_rfl
theorem bC16:((Rows.bookPlaceRow.loops==(Tryz.f6.params.toList++Rows.bookPlaceSpec.plain.varTypes Tryz.prog).any (Tryz.prog.loopsFrom ·)))=true:=by kernel_rfl
theorem bC17:((Rows.bookPlaceRow.wideKeys==(Tryz.f6.params.toList++Rows.bookPlaceSpec.plain.varTypes Tryz.prog++Tryz.f6.resultTypes.toList).any (Tryz.prog.wideKeysFrom ·)))=true:=by kernel_rfl
theorem bC18:(Rows.bookPlaceSpec.vars.all (Tryz.prog.varReadable ·))=true:=by kernel_rfl
theorem bC19:(Tryz.f6.resultTypes.all (fun t=>Tryz.prog.readableRec t&&decide (t<Tryz.prog.types.size)))=true:=by kernel_rfl
theorem bC20:((Rows.bookPlaceRow.ifacesOut==Tryz.f6.resultTypes.toList.any (Tryz.prog.ifacesRec ·)))=true:=by kernel_rfl
theorem bC21:((Rows.bookPlaceRow.loopsOut==Tryz.f6.resultTypes.toList.any (Tryz.prog.loopsFrom ·)))=true:=by kernel_rfl
theorem bC22:((Rows.bookPlaceRow.plainKeys==Tryz.prog.plainKeys))=true:=by kernel_rfl
theorem bC23:(Rows.bookPlaceRow.shortTexts.isNone)=true:=by kernel_rfl
theorem bC24:(Tryz.prog.stopsHeard)=true:=by kernel_rfl
theorem bC25:(Tryz.prog.mayEnter)=true:=by kernel_rfl
theorem bC26:((Rows.bookPlaceRow.lifted==Tryz.prog.liftsFinal))=true:=by kernel_rfl
theorem bC27:((Tryz.prog.make==some Rows.bookPlaceRow.make))=true:=by kernel_rfl
theorem bC28:((Rows.bookPlaceRow.kinds==(if Rows.bookPlaceRow.domain.isEmpty then[]else Tryz.f6.params.toList.map fun t=>match Tryz.prog.underlying t with|some (.int k)=>some k|_=>none)))=true:=by kernel_rfl
theorem bC29:((Rows.bookPlaceRow.pinned==Rows.bookPlaceRow.pinnedBy))=true:=by kernel_rfl
theorem bC30:((Rows.bookPlaceRow.veiled==(Tryz.f6.params.toList++Rows.bookPlaceSpec.plain.varTypes Tryz.prog++Tryz.f6.resultTypes.toList).any (Tryz.prog.veiledRec ·)))=true:=by kernel_rfl
theorem bC31:(Rows.bookPlaceRow.veiledFits Tryz.prog Tryz.f6.params.toList (Tryz.f6.params.toList++Rows.bookPlaceSpec.plain.varTypes Tryz.prog++Tryz.f6.resultTypes.toList))=true:=by kernel_rfl
theorem Zp7:joinedFacts Tryz.pinned.checked.prog 6 Tryz.f6 Rows.bookPlaceSpec Rows.bookPlaceRow=true:=
 Zb7 bC0 bC1 bC2 bC3 bC4 bC5 bC6 bC7 bC8 bC9 bC10 bC11 bC12 bC13 bC14 bC15 bC16 bC17 bC18 bC19 bC20 bC21 bC22 bC23 bC24 bC25 bC26 bC27 bC28 bC29 bC30 bC31
end
section
open Go.ChangeShapes Go.WideShapes Go.ChangeAt Go.RowKit
set_option maxRecDepth 100000
theorem Zp8 (os:Os)(started:os.Started)(H:Type)(enc:TypeId×Value→H):ReturnsInHanded Rows.bookPlaceRow.assume Tryz.pinned.checked os 6 .any (Rows.bookPlaceRow.pre enc Tryz.pinned.checked.prog Tryz.f6 (OpenSpec.ofChange Rows.bookPlaceSpec)) (Rows.bookPlaceSpec.post enc Tryz.pinned.checked.prog Tryz.f6 Rows.bookPlaceRow.apart Rows.bookPlaceRow.fresh Rows.bookPlaceRow.handsOn Rows.bookPlaceRow.again):=Zgm os started H enc
theorem ZhM:Rows.bookPlaceRow.holds Tryz.pinned (OpenSpec.ofChange Rows.bookPlaceSpec):=
 OpenClaim.holds_of_wide 6 Tryz.f6 rfl rfl rfl rfl rfl rfl rfl ⟨rfl,rfl,rfl,rfl,rfl⟩ rfl rfl rfl rfl rfl (by kernel_rfl) Tryz.func6 Zp7
  (of_decide_eq_true (by kernel_rfl)) (by unfold Func.isWrapper;first|(rw[if_pos (by decide +kernel)];kernel_rfl)|(rw[if_neg (by decide +kernel)];exact⟨rfl,rfl⟩))
  (fun os started H enc _=>Zp8 os started H enc)
theorem bCWf:Rows.bookPlaceRow.wfByText (OpenSpec.ofChange Rows.bookPlaceSpec)=true:=by kernel_rfl
theorem ZtR : Tryz.pinned.checked.prog.mainIs = some (true, "429b1301e4e9e14836810d17c619d588cb37bbf0a235cc417304b7271646d6e2".toList) := by kernel_rfl
theorem ZsC:true=Tryz.pinned.checked.prog.looks []:=by kernel_rfl
theorem bCBy:false=Rows.bookPlaceRow.goesBy Tryz.pinned.checked.prog:=by kernel_rfl
theorem ZsB : Tryz.prog.funcNamed "tensile/tensilelaw12.BookPlace" = some 6 := by kernel_rfl
theorem ZsA:([22,5].all fun u=>!Tryz.prog.wantsStandIn u)=true:=by kernel_rfl
theorem cardBookPlace:Rows.BookPlaceCardSaid:=
 Claim7.holds_tied_plain_at .later [] [.data, .data, .data, .data, .sentinel, .sentinel, .pinned] true (true, "429b1301e4e9e14836810d17c619d588cb37bbf0a235cc417304b7271646d6e2") true
  ZhM (fun _ h=>by cases h) bCWf (fun _ h=>by cases h) bookPlace_row_tie rfl ⟨rfl,rfl⟩ ZtR rfl
  (fun f fn hf hfn=>by
   obtain rfl:f=6:=Option.some.inj (ZsB.symm.trans hf) |>.symm;obtain rfl:fn=Tryz.f6:=(Option.some.inj (Tryz.func6.symm.trans hfn)).symm;exact⟨ZsC,fun j t ht=>by
    rw[Tryz.params6]at ht;have hm:t∈([22,5]:List TypeId):=by simpa using Array.mem_of_getElem? ht
    exact(show Tryz.prog.wantsStandIn t=false by simpa using Zuo.1 ZsA t hm)⟩)
  bCBy
end
end Go.Proofs.YteknmiggbkhdoaaGreatDoor
