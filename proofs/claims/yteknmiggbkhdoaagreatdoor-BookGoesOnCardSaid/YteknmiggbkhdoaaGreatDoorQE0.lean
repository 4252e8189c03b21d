/- The registrar's book: what the statement needs, joined and shortened by program. -/
import Derived.Deep.Slices
import Derived.ReadAgain
import Derived.OpenShut
import Derived.Test.YteknmiggbkhdoaaGreatDoorProg
import Derived.Test.YteknmiggbkhdoaaGreatDoorCards
import Derived.Test.YteknmiggbkhdoaaGreatDoorTie
import Derived.SevenTiedAt
import Derived.Test.YteknmiggbkhdoaaGreatDoorP0
import Derived.Test.YteknmiggbkhdoaaGreatDoorP1
import Derived.Test.YteknmiggbkhdoaaGreatDoorP2
import Derived.Test.YteknmiggbkhdoaaGreatDoorP3
import Derived.Test.YteknmiggbkhdoaaGreatDoorP4
set_option linter.unusedSimpArgs false
set_option linter.unusedVariables false
namespace Go.Proofs.YteknmiggbkhdoaaGreatDoor
section
open Go.RowKit Go.ChangeShapes Go.WideShapes Go.Deep
section
variable {H:Type}{enc:TypeId×Value→H}{P:Program}{w W W':World}{sp:Nat→Bool}{held:Bool}
theorem ZbT {k:IntKind}{n:Int}(h:(Lit.int k n).wf=true):k.min≤n∧n≤k.max:=by
 simpa[Lit.wf]using h
end
end
section
open Go.RowKit
set_option maxRecDepth 100000
noncomputable section
def L33:LFn :=⟨4,S [Ox 1 1 0,O 2 (.mov (.c .nilfn))] (S [O 3 (.mkf 58 [] [.t 1]),Om 2 3] .ret),[.tm 2]⟩
end
end
section
open Go.RowKit
set_option maxRecDepth 100000
noncomputable section
def L7:LFn :=⟨107,S [O 4 (.mov Bf)] (.seq (S [Om 17 0,Ok 18 9 [.t 17],Oo 19 18,Om 20 19,G 21 20 false (M 0),G 22 20 false (.call (C 10) [.t 21]),G 23 20 false (.not (.t 22)),O 24 (.pick (.t 20) Bt (.t 23))] (Cd 24 (S [Ok 25 11 [],Om 4 25] .ret) .skip)) (S [Om 27 0,Ok 28 12 [.t 27],Om 26 28,Oe 29 26 0,Oe 30 26 1,Oe 31 26 2,O 5 (.alloc (.agg [E0,E0,E0,E0,E0])),Ns 5 5 29,Om 6 30,Om 7 31] (S [Om 33 6,Ok 34 16 [.t 33],Ok 35 15 [.t 34],Om 32 35,Oe 36 32 0,Oe 37 32 1,Om 8 36,Om 9 37] (S [Om 39 0,Ok 40 16 [.t 39],Ok 41 22 [.c E0,.t 40],Om 38 41,Oe 42 38 0,Oe 43 38 1,Om 10 42,Om 11 43] (.seq (S [Om 44 7,Oo 45 44,Om 46 45,G 47 46 false (M 9),G 48 46 false (.bin false .neq (.t 47) (I 0)),O 49 (.pick (.t 46) Bt (.t 48)),Om 50 49,G 51 50 false (M 11),G 52 50 false (.bin false .neq (.t 51) (I 0)),O 53 (.pick (.t 50) Bt (.t 52)),Om 54 53,G 55 54 false (M 8),G 56 54 false (.x (.sof (.t 55))),G 57 54 false (M 10),G 58 54 false (.x (.sof (.t 57))),G 59 54 false (.x (.eqv true ⟨false,[.str]⟩ (.t 56) (.t 58))),O 60 (.pick (.t 54) Bt (.t 59))] (Cd 60 (S [O 4 (.mov Bf)] .ret) .skip)) (S [Om 61 1,O 62 (.conv .i64 (.t 61)),Om 63 8,On 64 63,Oc 65 .add 64 1,Ob 66 .rem 62 65,Om 12 66] (S [O 68 (.bslice 5 1 []),Om 69 8,Om 70 12,O 71 (.slc 1 none (.t 69) none (some (.t 70)) none),O 72 (.app0 5 1 1 (.t 68) (.t 71)),Ok 73 17 [.t 72],Om 67 73,Oe 74 67 0,Oe 75 67 1,Om 13 74,Om 14 75] (.seq (S [Om 76 13,On 77 76,Om 78 6,On 79 78,Ob 80 .gtr 77 79] (Cd 80 (S [O 4 (.mov Bf)] .ret) .skip)) (S [Om 83 8,Om 84 12,O 85 (.slc 1 none (.t 83) none (some (.t 84)) none),Om 87 6,Om 88 13,On 89 88,O 90 (.slc 1 none (.t 87) (some (.t 89)) none none),O 82 (.bslice 5 1 []),O 86 (.app0 5 1 1 (.t 82) (.t 85)),Ok 91 16 [.t 90],Ok 92 22 [.t 86,.t 91],Om 81 92,Oe 93 81 0,Oe 94 81 1,Om 15 93,Om 16 94] (S [Om 95 16,Oc 96 .eql 95 0,Om 97 96,G 98 97 true (M 15),G 99 97 true (.x (.sof (.t 98))),G 100 97 true (M 8),G 101 97 true (.x (.sof (.t 100))),G 102 97 true (.x (.eqv false ⟨false,[.str]⟩ (.t 99) (.t 101))),O 103 (.pick (.t 97) (.t 102) Bf),Om 104 103,G 105 104 true (.call (C 11) []),O 106 (.pick (.t 104) (.t 105) Bf),Om 4 106] .ret)))))))))),[.tm 4]⟩
def L22:LFn :=⟨48,S [O 4 (.mov (.c E0)),OM 5 0] (.seq (S [Om 13 1,Ok 14 31 [.t 13],Om 6 14] (S [Om 15 6,Oc 16 .neq 15 0] (Cd 16 (S [Om 17 6,O 4 (.mov (.c E0)),Om 5 17] .ret) .skip))) (S [Om 19 0,Ok 20 17 [.t 19],Om 18 20,Oe 21 18 0,Oe 22 18 1,Om 7 21,Om 8 22] (S [Om 24 7,Ok 25 35 [.t 24],Om 23 25,Oe 26 23 0,Oe 27 23 1,Om 9 26,Om 10 27] (.seq (S [Om 28 1,On 29 28,OM 30 0] (.block 0 (.loop (S [Ob 31 .lss 30 29] (.seq (Ce 31 0) (.seq (.block 1 (S [Oi 32 1 28 30,Ol 33 1 32,Om 12 33] (S [Om 34 9,Om 35 12,Ok 36 36 [.t 34,.t 35],Oc 37 .eql 36 0] (Cd 37 (.region [Om 38 7,Om 39 12,O 40 (.bslice 9 1 [.t 39]),O 41 (.app 9 1 16 (.t 38) (.t 40)),Om 7 41]) .skip)))) (.region [Oc 42 .add 30 1,Om 30 42]))))))) (.seq (S [Om 43 7,On 44 43,Oc 45 .gtr 44 50] (Cd 45 (S [O 4 (.mov (.c E0)),OM 5 3] .ret) .skip)) (S [Om 46 7,Ok 47 32 [.t 46],Om 4 47,OM 5 0] .ret)))))),[.tm 4,.tm 5]⟩
def L58:LFn :=⟨79,S [OM 3 0] (S [OM 4 0] (.block 0 (.loop (.seq (S [Ol 8 1 1,On 9 8,Om 10 3,Ob 11 .sub 9 10,Oc 12 .gtr 11 15] (Ce 12 0)) (.seq (.block 1 (S [Ol 16 1 1,Om 17 3,Oc 18 .add 17 1,Om 19 3,Oc 20 .add 19 1,Oc 21 .add 20 3,O 22 (.slc 1 none (.t 16) (some (.t 18)) (some (.t 21)) none),O 23 (.x (.sof (.t 22))),Ok 24 59 [.t 23],Om 15 24,Oe 25 15 0,Oe 26 15 1,Om 5 25,Om 6 26] (.seq (S [Om 27 6,O 28 (.x (.nif true (.t 27))),Om 29 28,G 30 29 false (M 5),G 31 29 false (.bin false .lss (.t 30) (I 0)),O 32 (.pick (.t 29) Bt (.t 31)),Om 33 32,G 34 33 false (M 5),G 35 33 false (.bin false .gtr (.t 34) (I 200)),O 36 (.pick (.t 33) Bt (.t 35)),Om 37 36,G 38 37 false (M 3),G 39 37 false (.bin false .add (.t 38) (I 15)),G 40 37 false (M 5),G 41 37 false (.bin false .add (.t 39) (.t 40)),G 42 37 false (.bin false .add (.t 41) (I 1)),G 43 37 false (.load false 1 (.t 1)),G 44 37 false (.len none (.t 43)),G 45 37 false (.bin false .gtr (.t 42) (.t 44)),O 46 (.pick (.t 37) Bt (.t 45))] (Cd 46 .ret .skip)) (S [Ol 47 1 1,Om 48 3,Oc 49 .add 48 15,Om 50 3,Oc 51 .add 50 15,Om 52 5,Ob 53 .add 51 52,O 54 (.slc 1 none (.t 47) (some (.t 49)) (some (.t 53)) none),O 55 (.x (.sof (.t 54))),Om 7 55] (.seq (.seq (.regT (.op (Of 57 (M 3)) (.op (Of 58 (M 3)) (.op (Of 59 (.bin false .add (.t 58) (I 15))) (.op (Of 60 (M 5)) (.op (Of 61 (.bin false .add (.t 59) (.t 60))) (.op (Of 62 (.bin false .add (.t 61) (I 1))) (.op (Of 65 (M 7)) (.op (Of 66 (M 4)) (.op (Of 56 (.load false 1 (.t 1))) (.op (O 63 (.slc 1 none (.t 56) (some (.t 57)) (some (.t 62)) none)) (.seq (.alt (O 64 (.x (.sof (.t 63)))) (.alt (Of 67 (.call (C 57) [.t 65,.t 66])) .done .no) (.alt (Of 67 (.call (C 57) [.t 65,.t 66])) (.alt (O 64 (.x (.sof (.t 63)))) .done .no) .no)) (.op (O 68 (.x (.eqv true ⟨false,[.str]⟩ (.t 64) (.t 67)))) .done))))))))))))) (Cd 68 .ret .skip)) (S [Om 69 3,Om 70 5,O 71 (.bin false .add (I 15) (.t 70)),Oc 72 .add 71 1,Ob 73 .add 69 72,Om 3 73] (S [Om 74 0,Om 75 7,Om 76 3,O 77 (.call (.t 74) [.t 75,.t 76]),Oo 78 77] (Cd 78 .ret .skip)))))))) (.region [Om 13 4,Oc 14 .add 13 1,Om 4 14])))))),[]⟩
end
end
section
open Go.RowKit
set_option maxRecDepth 100000
noncomputable section
def L17:LFn :=⟨20,S [O 2 (.alloc E0),O 3 (.alloc Z0)] (.seq .skip (.seq (S [Om 6 0,Ok 7 33 [.t 6]] (.block 0 (.rng 20 (.t 7) (rcode Tryz.prog 17 0) Y17_0a Y17_0b [8,9]))) (.seq (.regT (.op (Of 18 (.load false 1 (.t 2))) (.seq (.alt (Of 19 (.load false 1 (.t 3))) (.alt (Nf (.store 1 (.t 2) (.t 18))) .done .no) (.alt (Nf (.store 1 (.t 2) (.t 18))) (.op (Of 19 (.load false 1 (.t 3))) .done) .no)) (.alt (Ns 1 3 19) .done .no)))) .ret))),[.cell 2 false 1,.cell 3 false 1]⟩
theorem L17_ok:litF Tryz.prog 17=some L17:=by kernel_rfl
end
end
section
open Go.RowKit
set_option maxRecDepth 100000
noncomputable section
def L12:LFn :=⟨47,S [O 2 (.alloc (.agg [E0,E0,E0,E0,E0])),O 3 (.mov (.c E0)),O 4 (.mov Bf)] (S [Om 11 0,Ok 12 16 [.t 11],Ok 13 25 [.t 12],Om 10 13,Oe 14 10 0,Oe 15 10 1,Oe 16 10 2,O 5 (.alloc (.agg [E0,E0,E0,E0,E0])),Ns 5 5 14,Om 6 15,Om 7 16] (.seq (S [Om 17 7,Oc 18 .neq 17 0,Om 19 18,G 20 19 false (M 6),G 21 19 false (.len none (.t 20)),G 22 19 false (M 0),G 23 19 false (.len none (.t 22)),G 24 19 false (.bin false .neq (.t 21) (.t 23)),O 25 (.pick (.t 19) Bt (.t 24))] (Cd 25 (S [Ot 26 5 5,Ns 5 2 26,O 3 (.mov (.c E0)),O 4 (.mov Bf)] .ret) .skip)) (S [O 8 (.mov (.c E0))] (.seq (S [OM 9 0] (.block 0 (.loop (.seq (S [Om 27 9,Om 28 0,On 29 28,Ob 30 .lss 27 29] (Ce 30 0)) (.seq (.block 1 (S [Om 33 6,Om 34 9,Oi 35 1 33 34,Ol 36 1 35,Oc 37 .eql 36 0] (Cd 37 (.region [Om 38 8,Om 39 0,Om 40 9,Oi 41 1 39 40,Ol 42 1 41,O 43 (.bslice 9 1 [.t 42]),O 44 (.app 9 1 16 (.t 38) (.t 43)),Om 8 44]) .skip))) (.region [Om 31 9,Oc 32 .add 31 1,Om 9 32])))))) (S [Ot 45 5 5,Om 46 8,Ns 5 2 45,Om 3 46,O 4 (.mov Bt)] .ret))))),[.cell 2 true 5,.tm 3,.tm 4]⟩
end
end
section
open Go.RowKit
set_option maxRecDepth 100000
noncomputable section
theorem L17_tab:tabOk (tyOf tys) L17.code:=by repeat' (first|exact trivial|rfl|apply And.intro)
end
end
section
open Go.RowKit
theorem Zb9:∀{l l':List ByteArray} {i:Nat},fileL (l++l') i=fileL l i++fileL l' (i+l.length)
 |[],l',i=>by simp[fileL]
 |x::l,l',i=>by
  simp only[ZuR,fileL,Zuu];rw[Zb9 (l:=l),ZuD,show i+1+l.length=i+(l.length+1) by omega]
def num3 (l:List UInt8):Int:=match Lib.atoiAll l with
 |.ok v=>v
 |_=>-1
theorem Zbp (n:Nat)(h:n≤200):num3 (dig3 n).data.toList=n:=by
 have:∀n:Fin 201,num3 (dig3 n.1).data.toList=(n.1:Int):=by decide +kernel
 exact this ⟨n,by omega⟩
def oneM (b:List UInt8)(at_ i:Nat):Option ByteArray:=
 if at_+15<b.length then
  (if 0≤num3 ((b.drop (at_+1)).take 3)∧num3 ((b.drop (at_+1)).take 3)≤200∧at_+16+(num3 ((b.drop (at_+1)).take 3)).toNat≤b.length then
   (if(b.drop at_).take (16+(num3 ((b.drop (at_+1)).take 3)).toNat)=rcdL ⟨((b.drop (at_+15)).take (num3 ((b.drop (at_+1)).take 3)).toNat).toArray⟩ i then some ⟨((b.drop (at_+15)).take (num3 ((b.drop (at_+1)).take 3)).toNat).toArray⟩else none)
  else none)
 else none
theorem ZaP {b:List UInt8}{at_ i:Nat}{s:ByteArray}:oneM b at_ i=some s↔s.size≤200∧∃r,b.drop at_=rcdL s i++r:=by
 unfold oneM;generalize hn:num3 ((b.drop (at_+1)).take 3)=n;constructor
 ·intro h;split at h
  ·split at h
   ·split at h
    ·rename_i h1 h2 h3;cases h;have hsz:(⟨((b.drop (at_+15)).take n.toNat).toArray⟩:ByteArray).size=n.toNat:=by
      show((b.drop (at_+15)).take n.toNat).length=_;rw[Zt6,Zuh];omega
     refine⟨by rw[hsz];omega,(b.drop at_).drop (16+n.toNat),?_⟩;rw[←h3,ZuS]
    ·cases h
   ·cases h
  ·cases h
 ·rintro⟨h1,r,h2⟩;have hl:b.length-at_=16+s.size+r.length:=by
   have:=congrArg List.length h2
   rw[Zuh,Zt9,Zaq]at this;exact this
  have hd1:(b.drop (at_+1)).take 3=(dig3 s.size).data.toList:=by
   rw[←ZuM,h2,Za9];rfl
  have hn':n=s.size:=by rw[←hn,hd1,Zbp _ h1]
  subst hn';have hs:(b.drop (at_+15)).take ((s.size:Nat):Int).toNat=s.data.toList:=by
   rw[←ZuM,h2,Za9];show((s.data.toList++[10])++r).take s.size=_;rw[ZuD];exact List.take_left' rfl
  have hsb:(⟨((b.drop (at_+15)).take ((s.size:Nat):Int).toNat).toArray⟩:ByteArray)=s:=by
   rw[hs]
  rw[hsb,if_pos (by omega),if_pos ⟨by omega,by omega,by omega⟩,if_pos];rw[h2];exact List.take_left' (Zaq s i)
def readM (b:List UInt8):Nat→Nat→Nat→List (ByteArray×Nat)
 |0,_,_=>[]
 |f+1,at_,i=>match oneM b at_ i with
  |some s=>(s,at_+16+s.size)::readM b f (at_+16+s.size) (i+1)
  |none=>[]
theorem Zbg {b:List UInt8}{at_ i:Nat}{s:ByteArray}(h:oneM b at_ i=some s):at_+16+s.size≤b.length:=by
 obtain⟨_,r,h2⟩:=ZaP.1 h
 have:=congrArg List.length h2
 rw[Zuh,Zt9,Zaq]at this;omega
theorem Za5 {b:List UInt8}:∀{f f' at_ i:Nat},b.length<at_+f→b.length<at_+f'→readM b f at_ i=readM b f' at_ i
 |0,f',at_,i,h,h'=>by
  cases f' with
  |zero=>rfl
  |succ f'=>
   unfold readM;cases ho:oneM b at_ i with
   |none=>rfl
   |some s=>have:=Zbg ho;omega
 |f+1,f',at_,i,h,h'=>by
  cases f' with
  |zero=>
   unfold readM;cases ho:oneM b at_ i with
   |none=>rfl
   |some s=>have:=Zbg ho;omega
  |succ f'=>
   unfold readM;cases ho:oneM b at_ i with
   |none=>rfl
   |some s=>
    dsimp only;rw[Za5 (f:=f) (f':=f') (by omega) (by omega)]
def restM (b:List UInt8)(at_ i:Nat):List (ByteArray×Nat):=readM b (b.length+1) at_ i
theorem Za0 {b:List UInt8}{at_ i:Nat}(h:oneM b at_ i=none):restM b at_ i=[]:=by
 unfold restM readM;rw[h]
theorem ZaL {b:List UInt8}{at_ i:Nat}{s:ByteArray}(h:oneM b at_ i=some s):restM b at_ i=(s,at_+16+s.size)::restM b (at_+16+s.size) (i+1):=by
 unfold restM
 conv=>lhs;unfold readM
 rw[h];dsimp only;rw[Za5 (f:=b.length) (f':=b.length+1) (by omega) (by omega)]
def lastE:List (ByteArray×Nat)→Nat
 |[]=>0
 |[x]=>x.2
 |_::y::l=>lastE (y::l)
def recM (b:List UInt8):List ByteArray×Nat:=(((restM b 0 0).take 50).map (·.1),lastE ((restM b 0 0).take 50))
theorem Zdw {b:List UInt8}{at_ i:Nat}{s:ByteArray}{r:List UInt8}(hs:s.size≤200)(h:b.drop at_=rcdL s i++r):oneM b at_ i=some s:=ZaP.2 ⟨hs,r,h⟩
theorem ZdD {b:List UInt8}{at_:Nat}{s:ByteArray}{i:Nat}{r:List UInt8}(h:b.drop at_=rcdL s i++r):b.drop (at_+16+s.size)=r:=by
 rw[Nat.add_assoc,←ZuM,h];exact List.drop_left' (Zaq s i)
def endsL:List ByteArray→Nat→List (ByteArray×Nat)
 |[],_=>[]
 |s::l,at_=>(s,at_+16+s.size)::endsL l (at_+16+s.size)
theorem ZbE {b:List UInt8}:∀{l:List ByteArray} {at_ i:Nat} {r:List UInt8},(∀s∈l,s.size≤200)→b.drop at_=fileL l i++r→restM b at_ i=endsL l at_++restM b (at_+(fileL l i).length) (i+l.length)
 |[],at_,i,r,_,h=>by simp[endsL,fileL]
 |s::l,at_,i,r,hs,h=>by
  simp only[fileL,ZuD]at h;rw[ZaL (Zdw (hs s (List.mem_cons_self ..)) h),ZbE (fun s hs'=>hs s (List.mem_cons_of_mem _ hs')) (ZdD h)];simp only[endsL,fileL,ZuR,Zt9,Zaq,Zuu];rw[show at_+16+s.size+(fileL l (i+1)).length=at_+(16+s.size+(fileL l (i+1)).length) by omega,show i+1+l.length=i+(l.length+1) by omega]
theorem ZbJ:∀{l:List ByteArray} {at_:Nat},(endsL l at_).map (·.1)=l
 |[],_=>rfl
 |s::l,at_=>by simp only[endsL,Zun,ZbJ (l:=l)]
theorem ZbI:∀{l:List ByteArray} {at_:Nat},(endsL l at_).length=l.length
 |[],_=>rfl
 |s::l,at_=>by simp only[endsL,Zuu,ZbI (l:=l)]
theorem Za1 {x:ByteArray×Nat}:∀{l:List (ByteArray×Nat)},lastE (l++[x])=x.2
 |[]=>rfl
 |[y]=>rfl
 |y::z::l=>by
  show lastE (y::z::(l++[x]))=_;unfold lastE;exact Za1 (l:=z::l)
theorem Zcq:∀{l:List ByteArray} {i:Nat},lastE (endsL l 0)=(fileL l i).length:=by
 have h:∀(l:List ByteArray) (at_ i:Nat),l≠[]→lastE (endsL l at_)=at_+(fileL l i).length:=by
  intro l;induction l with
  |nil=>intro _ _ h;exact absurd rfl h
  |cons s l ih=>
   intro at_ i _;cases l with
   |nil=>simp[endsL,lastE,fileL,Zaq];omega
   |cons t l=>
    have:=ih (at_+16+s.size) (i+1) (by simp)
    have e:lastE (endsL (s::t::l) at_)=lastE (endsL (t::l) (at_+16+s.size)):=by simp only[endsL,lastE]
    rw[e,this];have e2:(fileL (s::t::l) i).length=(rcdL s i).length+(fileL (t::l) (i+1)).length:=by rw[show fileL (s::t::l) i=rcdL s i++fileL (t::l) (i+1) from rfl,Zt9]
    rw[e2,Zaq];omega
 intro l i;cases l with
 |nil=>rfl
 |cons s l=>rw[h (s::l) 0 i (by simp),Zuk]
end
section
open Go.RowKit
set_option maxRecDepth 10000
attribute [local simp] AS.exp expG Box.ren AV.map AV.mapL Zau noRet Site.isRet Box.allS AV.allS AV.allSL retB dropL AS.adds renL outG outOk Zas inG fnOf lookA Zuq
attribute [local simp] Box.purge Site.isLoc
attribute [local simp] retFz frzL AS.frz AV.frz AV.frzL Box.frz AS.tidy AS.frzC frzsL retOk renB toLoc
def bA (l:List UInt8):ByteArray:=⟨l.toArray⟩
theorem ZaE {L:List ByteArray}(h:ZaJ L=true):L.length≤50∧∀s∈L,s.size≤200:=by
 unfold ZaJ at h;rw[Zt7,decide_eq_true_eq,Zuo]at h;exact⟨h.2,fun s hs=>by simpa using h.1 s hs⟩
theorem ZaH {L:List ByteArray}(h:ZaJ L=true):ZaT L=0:=by
 obtain⟨h1,h2⟩:=ZaE h;have hf:fitB L=true:=by
  show L.all (fun s=>decide (s.size≤200))=true;rw[Zuo];exact fun s hs=>by simpa using h2 s hs
 unfold ZaT;rw[hf];have h3:¬50<L.length:=by omega
 simp[h3]
end
section
open Go.RowKit
theorem ZeT {n n':Nat}(h:n≤200)(h':n'≤200)(e:(dig3 n).data.toList=(dig3 n').data.toList):n=n':=by
 have h1:=Zbp n h;rw[e,Zbp n' h']at h1;omega
theorem Zc5 (s:ByteArray)(i:Nat):(rcdL s i).take 4=123::(dig3 s.size).data.toList:=by
 rw[Za9];rfl
theorem Zev {s s':ByteArray}{i i':Nat}{l:List UInt8}(hs:s.size≤200)(hs':s'.size≤200)(h:(rcdL s i).take 4=l.take 4)(h':(rcdL s' i').take 4=l.take 4):s.size=s'.size:=by
 rw[Zc5]at h h';exact ZeT hs hs' (by injection h.trans h'.symm)
theorem Zb0 {s:ByteArray}{i:Nat}{r:List UInt8}:(rcdL s i++r).take 4=(rcdL s i).take 4:=List.take_append_of_le_length (by rw[Zaq];omega)
theorem Zeu {b:List UInt8}{L:List ByteArray}{r:List UInt8}(hl:L.length≤50)(hs:∀s∈L,s.size≤200)(hb:b=fileL L 0++r)(ho:oneM b (fileL L 0).length L.length=none):recM b=(L,(fileL L 0).length):=by
 unfold recM;have h:=ZbE (b:=b) (at_:=0) (i:=0) (r:=r) hs (by rw[hb];rfl);rw[Zuk,Zuk,Za0 ho,Zut]at h;rw[h,Zub (by rw[ZbI];exact hl),ZbJ,Zcq (i:=0)]
def Zat (k:Nat):List ByteArray→Nat→Nat
 |[],_=>0
 |s::l,at_=>if at_+16+s.size≤k then Zat k l (at_+16+s.size)+1 else 0
theorem Zcs {k:Nat}:∀{l:List ByteArray} {at_:Nat},Zat k l at_≤l.length
 |[],_=>Zud _
 |s::l,at_=>by
  unfold Zat;split
  ·exact Nat.succ_le_succ Zcs
  ·exact Zud _
theorem ZbO {k:Nat}:∀{l:List ByteArray} {at_ i:Nat},at_≤k→at_+(fileL (l.take (Zat k l at_)) i).length≤k∧∀s,l[Zat k l at_]?=some s→k<at_+(fileL (l.take (Zat k l at_)) i).length+16+s.size
 |[],at_,i,h=>⟨by simpa[fileL,Zat]using h,fun s hs=>by simp at hs⟩
 |t::l,at_,i,h=>by
  unfold Zat;split
  ·rename_i h1;obtain⟨h2,h3⟩:=ZbO (l:=l) (at_:=at_+16+t.size) (i:=i+1) h1;simp only[List.take_succ_cons,fileL,Zt9,Zaq,ZuY];exact⟨by omega,fun s hs=>by have:=h3 s hs;omega⟩
  ·rename_i h1;simp only[List.take_zero,fileL,List.length_nil,List.getElem?_cons_zero];exact⟨by omega,fun s hs=>by cases hs;omega⟩
theorem ZcG {L:List ByteArray}{j:Nat}(h:j≤L.length):fileL L 0=fileL (L.take j) 0++fileL (L.drop j) j:=by
 conv=>lhs;rw[←ZuS j L]
 rw[Zb9,Zt6,ZuB h,Zuk]
theorem Zjr {L:List ByteArray}{k:Nat}(hl:L.length≤50)(hs:∀s∈L,s.size≤200)(hk:k≤(fileL L 0).length):recM ((fileL L 0).take k)=(L.take (Zat k L 0),(fileL (L.take (Zat k L 0)) 0).length):=by
 obtain⟨h1,h2⟩:=ZbO (k:=k) (l:=L) (at_:=0) (i:=0) (Zud _);rw[Zuk]at h1 h2;have hj:=Zcs (k:=k) (l:=L) (at_:=0);have hlt:(L.take (Zat k L 0)).length=Zat k L 0:=by rw[Zt6];omega
 have hb:(fileL L 0).take k=fileL (L.take (Zat k L 0)) 0++(fileL (L.drop (Zat k L 0)) (Zat k L 0)).take (k-(fileL (L.take (Zat k L 0)) 0).length):=by
  conv=>lhs;rw[ZcG hj]
  rw[List.take_append,Zub h1]
 refine Zeu (by rw[hlt];omega) (fun s hs'=>hs s (ZuQ hs')) hb ?_;rw[hlt];cases ho:oneM ((fileL L 0).take k) (fileL (L.take (Zat k L 0)) 0).length (Zat k L 0)with
 |none=>rfl
 |some s=>
  obtain⟨g1,r,g2⟩:=ZaP.1 ho;rw[hb,List.drop_left]at g2;cases hd:L.drop (Zat k L 0)with
  |nil=>
   rw[hd,Za9]at g2;simp[fileL]at g2
  |cons t l=>
   have ht:L[Zat k L 0]?=some t:=by
    have:=Zur (xs:=L) (i:=Zat k L 0) (j:=0)
    rw[hd]at this;simpa using this.symm
   have htm:t.size≤200:=hs t (Zua ht)
   have:=h2 t ht
   rw[hd]at g2;simp only[fileL]at g2;have hlen:=congrArg List.length g2;simp only[Zt6,Zt9,Zaq]at hlen;have h4:(rcdL t (Zat k L 0)).take 4=((rcdL t (Zat k L 0)++fileL l (Zat k L 0+1)).take (k-(fileL (L.take (Zat k L 0)) 0).length)).take 4:=by
    rw[List.take_take,ZuB (by omega),Zb0]
   have hz:=Zev (i:=Zat k L 0) (i':=Zat k L 0) htm g1 h4 (by rw[g2,Zb0]);omega
end
section
open Go.RowKit
set_option maxRecDepth 10000
def natL (l:List UInt8):List Int:=l.map fun b=>(b.toNat:Int)
theorem Zaw:∀(l:List UInt8),Zbk (bP l)=some (natL l)
 |[]=>rfl
 |b::l=>by
  show(Zbk (bP l)).map _=_;rw[Zaw l];rfl
theorem Zav (l:List UInt8):Zcb (natL l)=bA l:=by
 unfold Zcb natL bA;rw[List.map_map];congr 2
 conv=>rhs;rw[←List.map_id l]
 apply List.map_congr_left;intro b _;show UInt8.ofNat ((b.toNat:Int).toNat)=b;rw[Int.toNat_natCast,UInt8.ofNat_toNat]
theorem Za7 {l:List UInt8}{k:Nat}:(bP l).take k=bP (l.take k):=by unfold bP;rw[List.map_take]
theorem Zbq {l:List UInt8}{k:Nat}:(bP l).drop k=bP (l.drop k):=by unfold bP;rw[List.map_drop]
section
attribute [local simp] AS.exp expG Box.ren AV.map AV.mapL Zau noRet Site.isRet Box.allS AV.allS AV.allSL retB dropL AS.adds renL outG outOk Zas inG fnOf lookA Zuq
attribute [local simp] Box.purge Site.isLoc
attribute [local simp] retFz frzL AS.frz AV.frz AV.frzL Box.frz AS.tidy AS.frzC frzsL retOk renB toLoc
theorem Zb2 (b:List UInt8):Gives Tryz.prog 33 [.lst false 1 (bP b)] (.fn 58 [] [.ref [.lst false 1 (bP b)]]):=by
 refine cF [.loc 1 0] L33 ?_;simp[-getElem?_pos,L33,fnA,unpvs]
theorem cokRv:COk Tryz.prog (tyOf tys) L17.code:=Zdl L17_ok L17_tab
noncomputable def rvL (st:Bool):Box:=.loop (rcode Tryz.prog 17 0) [8,9] 20 [(2,.ptr (.par 1) 0),(3,.ptr (.par 2) 0)] (match st with
 |true=>some (.exit 0)
 |false=>none)
noncomputable def rvX (x:Site)(ls:List ByteArray)(a:Nat)(st:Bool):List (Site×Box):=
 [(.par 0,rvL st),(.par 1,.cells [.vec x 1 0 ls.length]),(.par 2,.cells [.pv (.int .i64 a)]),(x,.arr 9 1 (ls.map .str))]
theorem Zcv (ls:List ByteArray)(a:Nat)(s:ByteArray)(a':Nat)(hl:ls.length≤50):
  ZbM Tryz.prog 0 [.pv (.str s),.pv (.int .i64 a')] (rvX (.par 3) ls a false) (fun r B=>r=.pv (.bool (!decide (ls.length=50)))∧B=if ls.length=50 then rvX (.par 3) ls a true else rvX (.ret 2) (ls++[s]) a' false):=by
 have hcok:COk Tryz.prog (tyOf tys) (.rng 20 (.t 7) (rcode Tryz.prog 17 0) Y17_0a Y17_0b [8,9]):=cokRv.2.2.1.2;refine ZaG mixed hcok.1 hcok.2.1 rfl rfl (by simp) rfl ?_;by_cases h5:ls.length=50
 ·simp[-getElem?_pos,Y17_0a,Y17_0b,rvX,rvL,putL,h5];exact⟨[],[.par 1,.par 2,.par 3],rfl,rfl,by simp[frzL],rfl,by simp[frzL]⟩
 ·have h6:((ls.length:Int)=50)=False:=by simp;omega
  have h1:ls.length+1≤1000000:=by omega
  simp[-getElem?_pos,Y17_0a,Y17_0b,rvX,rvL,putL,h5,h6,h1,nble];exact⟨[],[.par 1,.par 2,.loc 16 0],rfl,rfl,by simp[frzL],rfl,by simp[frzL,h5]⟩
end
attribute [local simp] ZcD ZcC ZcB Zbv Zcy Zcz ZbR
attribute [local simp] AS.exp expG Box.ren AV.map AV.mapL Zau noRet Site.isRet Box.allS AV.allS AV.allSL retB dropL AS.adds renL outG outOk Zas inG Zuq
def rcT (b:List UInt8)(a i:Nat):List (Nat×AV):=[(0,.yld (.par 0)),(1,.pv (.ref [.lst false 1 (bP b)])),(3,.pv (.int .i64 (a:Int))),(4,.pv (.int .i64 (i:Int)))]
structure RvAt (b:List UInt8)(done:List (ByteArray×Nat))(a i:Nat):Prop where
 all:restM b 0 0=done++restM b a i
 ix:done.length=i
 la:lastE done=a
 ab:a≤b.length
theorem RvAt.next {b:List UInt8}{done:List (ByteArray×Nat)}{a i:Nat}{s:ByteArray}(h:RvAt b done a i)(ho:oneM b a i=some s):RvAt b (done++[(s,a+16+s.size)]) (a+16+s.size) (i+1):=
 ⟨by rw[h.all,ZaL ho,ZuD];rfl,by rw[Zt9,h.ix];rfl,Za1,Zbg ho⟩
theorem RvAt.stop {x:Site}{b:List UInt8}{done:List (ByteArray×Nat)}{a i:Nat}(h:RvAt b done a i)(hi:i≤50)(ho:oneM b a i=none):rvX x (done.map (·.1)) a false=rvX x (recM b).1 (recM b).2 (decide (50<(restM b 0 0).length)):=by
 have e:restM b 0 0=done:=by rw[h.all,Za0 ho,Zut]
 unfold recM;rw[e,Zub (by rw[h.ix];exact hi),h.la,decide_eq_false (by rw[h.ix];omega)]
theorem RvAt.full {x:Site}{b:List UInt8}{done:List (ByteArray×Nat)}{a:Nat}{s:ByteArray}(h:RvAt b done a 50)(ho:oneM b a 50=some s):rvX x (done.map (·.1)) a true=rvX x (recM b).1 (recM b).2 (decide (50<(restM b 0 0).length)):=by
 have e:restM b 0 0=done++(s,a+16+s.size)::restM b (a+16+s.size) (50+1):=by rw[h.all,ZaL ho]
 unfold recM;rw[e,List.take_left' h.ix,h.la,decide_eq_true (by rw[Zt9,Zuu,h.ix];omega)]
set_option maxHeartbeats 16000000 in
theorem Zfw (b:List UInt8)(hb:b.length≤1000000):
  Zak Tryz.prog 58 [.yld (.par 0),.pv (.ref [.lst false 1 (bP b)])] (rvX (.par 3) [] 0 false) (fun q B=>q=.pv (.tup [])∧B=rvX (.ret 3) (recM b).1 (recM b).2 (decide (50<(restM b 0 0).length))):=by
 refine cBR [.par 0,.par 1,.par 2,.loc 90 0] L58 ?_;intro R hR;simp[-getElem?_pos,L58,-retB];refine Zae (fun m τ=>∃(done:List (ByteArray×Nat)) (a i:Nat),m=51-i∧i≤50∧RvAt b done a i∧τ=⟨rcT b a i,rvX (.loc 90 0) (done.map (·.1)) a false⟩)
  ⟨51,⟨rcT b 0 0,rvX (.loc 90 0) [] 0 false⟩,Sub.trans' (Sub.mk ?_ ?_) (Sub.ren 90 (.par 3) _),[],0,0,rfl,by omega,⟨rfl,rfl,rfl,Zud _⟩,rfl⟩ ?_
 ·simp[rcT,AS.ren,renS,AS.purge,AV.purge,AV.has]
 ·simp[rvX,rvL,AS.ren,renS,AS.purge,AV.purge,AV.has]
 rintro J hJ m τ ⟨done,a,i,rfl,hi,hat,rfl⟩;have hab:=hat.ab;have stop:oneM b a i=none→R (.pv (.tup [])) (rvX (.ret 3) (done.map (·.1)) a false):=fun ho=>by
  rw[←hR];exact⟨rfl,by rw[hat.stop hi ho]⟩
 have hw0:IntKind.i64.wrap ((b.length:Int)-(a:Int))=(b.length:Int)-(a:Int):=wrap64 (by omega);have hdm:(List.map (fun x:ByteArray×Nat=>x.fst) done).length=done.length:=Zuc _;by_cases h1:a+15<b.length
 ·have h1':(15:Int)<(b.length:Int)-(a:Int):=by omega
  have hw1:IntKind.i64.wrap ((a:Int)+1)=(a:Int)+1:=wrap64 (by omega);have hw2:IntKind.i64.wrap ((a:Int)+1+3)=(a:Int)+1+3:=wrap64 (by omega);have hn1:natI ((a:Int)+1+3)=some (a+1+3):=Zaz.2 (by omega);have hb1:a+1+3≤b.length:=by omega
  have hS:List.drop (a+1) (List.take (a+1+3) (bP b))=bP ((b.drop (a+1)).take 3):=by rw[Za7,Zbq,List.drop_take,show a+1+3-(a+1)=3 by omega]
  have hS3:((b.drop (a+1)).take 3).length≤3:=by rw[Zt6];omega
  have hone:oneM b a i=oneM b a i:=rfl
  conv at hone=>rhs;unfold oneM
  rw[if_pos h1]at hone;generalize hS1:(b.drop (a+1)).take 3=S1 at hS hS3 hone;have ha:=Zht (bA S1) (by rw[show(bA S1).size=S1.length from rfl];omega);simp[-getElem?_pos,rcT,ZaC,hw0,h1',hw1,hw2,nblt,nble,hn1,hb1,hS,Zaw,Zav];refine Zaa (k:=0) (fs:=[]) (xs:=[.str (bA S1)]) (cs:=[]) rfl rfl ha (by unfold atoiE;split<;>rfl) ?_;unfold atoiE;rw[show(bA S1).data.toList=S1 from rfl];cases hq9:Lib.atoiAll S1 with
  |ok v=>
   have hnum:num3 S1=v:=by unfold num3;rw[hq9]
   rw[hnum]at hone;by_cases hv0:v<0
   ·rw[if_neg (by omega)]at hone;have hst:=stop hone;simp[rvX,rvL]at hst;simp[-getElem?_pos,hv0,rvX,rvL];exact hst
   by_cases hv2:200<v
   ·rw[if_neg (by omega)]at hone;have hst:=stop hone;simp[rvX,rvL]at hst;simp[-getElem?_pos,hv0,hv2,rvX,rvL];exact hst
   obtain⟨n,rfl⟩:∃n:Nat,v=n:=⟨v.toNat,by omega⟩;have hv2':¬200<n:=by omega
   have hw3:IntKind.i64.wrap ((a:Int)+15)=(a:Int)+15:=wrap64 (by omega);have hw4:IntKind.i64.wrap ((a:Int)+15+(n:Int))=(a:Int)+15+(n:Int):=wrap64 (by omega);have hw5:IntKind.i64.wrap ((a:Int)+15+(n:Int)+1)=(a:Int)+15+(n:Int)+1:=wrap64 (by omega);by_cases hl:b.length<a+15+n+1
   ·rw[if_neg (by omega)]at hone;have hst:=stop hone;simp[rvX,rvL]at hst;have hl':(b.length:Int)<(a:Int)+15+(n:Int)+1:=by omega
    simp[-getElem?_pos,hv0,hv2,hv2',hw3,hw4,hw5,hl',ZaC,rvX,rvL];exact hst
   have hl':¬(b.length:Int)<(a:Int)+15+(n:Int)+1:=by omega
   rw[if_pos (by omega),Int.toNat_natCast]at hone;have hn2:natI ((a:Int)+15)=some (a+15):=Zaz.2 (by omega);have hn3:natI ((a:Int)+15+(n:Int))=some (a+15+n):=Zaz.2 (by omega);have hn4:natI ((a:Int)+15+(n:Int)+1)=some (a+15+n+1):=Zaz.2 (by omega);have hb2:a+15+n≤b.length:=by omega
   have hb3:a+15+n+1≤b.length:=by omega
   have hb4:a≤a+15+n+1:=by omega
   have hS2:List.drop (a+15) (List.take (a+15+n) (bP b))=bP ((b.drop (a+15)).take n):=by rw[Za7,Zbq,List.drop_take,show a+15+n-(a+15)=n by omega]
   have hS4:List.drop a (List.take (a+15+n+1) (bP b))=bP ((b.drop a).take (16+n)):=by rw[Za7,Zbq,List.drop_take,show a+15+n+1-a=16+n by omega]
   have hsz:(bA ((b.drop (a+15)).take n)).size=n:=by rw[show(bA ((b.drop (a+15)).take n)).size=((b.drop (a+15)).take n).length from rfl,Zt6,Zuh];omega
   have hsb:(⟨((b.drop (a+15)).take n).toArray⟩:ByteArray)=bA ((b.drop (a+15)).take n):=rfl;rw[hsb]at hone;simp[-getElem?_pos,hv0,hv2,hv2',hw3,hw4,hw5,hl',ZaC,hn2,hn3,hn4,hb2,hb3,hb4,hS2,hS4,Zaw,Zav,nblt,nble];have hrc:=Zet (bA ((b.drop (a+15)).take n)) i (by omega) (by omega);generalize hs':bA ((b.drop (a+15)).take n)=s at hsz hone hrc ⊢;refine ZaI (fun τ=>τ=⟨[(0,.yld (.par 0)),(1,.pv (.ref [.lst false 1 (bP b)])),(3,.pv (.int .i64 (a:Int))),(4,.pv (.int .i64 (i:Int))),(5,.pv (.int .i64 (n:Int))),(7,.pv (.str s)),(64,.pv (.str (bA ((b.drop a).take (16+n))))),(67,.pv (.str (recB s i)))],rvX (.loc 90 0) (done.map (·.1)) a false⟩) ?_ ?_
   ·simp only[Zaf,Zaj];refine⟨?_,?_,trivial⟩
    ·simp[-getElem?_pos,Zaf,Zaj,hold,Zaw,Zav];refine ZaQ (k:=0) (fs:=[]) (xs:=[.str s,.int .i64 i]) (cs:=[]) rfl rfl hrc rfl ?_;simp[-getElem?_pos,Zaf,Zaj];exact Sub.mk (by simp) (by simp[rvX,rvL])
    ·simp[-getElem?_pos,Zaf,Zaj,hold];refine ZaQ (k:=0) (fs:=[]) (xs:=[.str s,.int .i64 i]) (cs:=[]) rfl rfl hrc rfl ?_;simp[-getElem?_pos,Zaf,Zaj,Zaw,Zav];exact Sub.mk (by simp) (by simp[rvX,rvL])
   ·rintro τ rfl;have hq:((bA ((b.drop a).take (16+n))).toList==(recB s i).toList)=decide ((b.drop a).take (16+n)=rcdL s i):=by
     rw[Lib.toList_data,Lib.toList_data,Zuz,beq_iff_eq,decide_eq_true_eq];exact Iff.rfl
    simp[-getElem?_pos,hq];by_cases hf:(b.drop a).take (16+n)=rcdL s i
    ·rw[if_pos hf]at hone;have hw6:IntKind.i64.wrap (15+(n:Int))=15+(n:Int):=wrap64 (by omega);have hw7:IntKind.i64.wrap (15+(n:Int)+1)=15+(n:Int)+1:=wrap64 (by omega);have hw8:IntKind.i64.wrap ((a:Int)+(15+(n:Int)+1))=((a+16+n:Nat):Int):=by rw[wrap64 (by omega)];omega
     have hyl:=Zcv (done.map (·.1)) a s (a+16+n) (by rw[hdm,hat.ix];exact hi);simp[-getElem?_pos,hf,hw6,hw7,hw8];refine ZcW 79 0 [.par 0,.par 1,.par 2,.loc 90 0] (as':=[.pv (.str s),.pv (.int .i64 ((a+16+n:Nat):Int))]) rfl rfl rfl rfl ?_ rfl rfl hyl ?_
     ·simp[rvX,rvL]
     rintro r B ⟨rfl,rfl⟩;rw[hdm,hat.ix];by_cases h5:i=50
     ·rw[if_pos h5];subst h5;have hfull:R (.pv (.tup [])) (rvX (.ret 3) (done.map (·.1)) a true):=by
       rw[←hR];exact⟨rfl,by rw[hat.full hone]⟩
      simp[rvX,rvL]at hfull;refine⟨rfl,by simp[rvX,rvL],?_⟩;simp[-getElem?_pos,rvX,rvL];exact hfull
     ·rw[if_neg h5];have hnx:=hat.next hone;have hround:=hJ _ _ ⟨_,_,i+1,rfl,by omega,hnx,rfl⟩;rw[hsz,Zuw]at hround;have hwi:=wrapK (k:=i) (by omega);refine⟨rfl,by simp[rvX,rvL],?_⟩;simp[-getElem?_pos,h5,rvX,rvL,hwi];refine⟨_,_,(by omega:51-(i+1)<51-i),Sub.trans' (Sub.mk ?_ ?_) (Sub.ren 90 (.loc 79 2) _),hround⟩
      ·simp[rcT,AS.ren,renS,AS.purge,AV.purge,AV.has]
      ·simp[rvX,rvL,AS.ren,renS,AS.purge,AV.purge,AV.has]
    ·rw[if_neg hf]at hone;have hst:=stop hone;simp[rvX,rvL]at hst;simp[-getElem?_pos,hf,rvX,rvL];exact hst
  |_=>
   have hnum:num3 S1 = -1:=by unfold num3;rw[hq9]
   rw[hnum,if_neg (by omega)]at hone;have hst:=stop hone;simp[rvX,rvL]at hst;simp[-getElem?_pos,rvX,rvL];exact hst
 ·have h1':¬(15:Int)<(b.length:Int)-(a:Int):=by omega
  have ho:oneM b a i=none:=by unfold oneM;rw[if_neg h1]
  have hst:=stop ho;simp[rvX,rvL]at hst;simp[-getElem?_pos,rcT,ZaC,hw0,h1',rvX,rvL];exact hst
end
section
open Go.RowKit
set_option maxRecDepth 10000
attribute [local simp] AS.exp expG Box.ren AV.map AV.mapL Zau noRet Site.isRet Box.allS AV.allS AV.allSL retB dropL AS.adds renL outG outOk Zas inG fnOf lookA Zuq
attribute [local simp] Box.purge Site.isLoc
attribute [local simp] retFz frzL AS.frz AV.frz AV.frzL Box.frz AS.tidy AS.frzC frzsL retOk renB toLoc
def recE (b:List UInt8):PV:=.tup [strsP (recM b).1,.int .i64 ((recM b).2:Int)]
set_option maxHeartbeats 4000000 in
theorem Zb1 (b:List UInt8)(hb:b.length≤1000000):Gives Tryz.prog 17 [.lst false 1 (bP b)] (recE b):=by
 have hrc:=Zfw b hb;refine cFR [.loc 21 3] L17 ?_;intro R hR;have hfin:R (.pv (.tup [.lst false 1 ((recM b).1.map .str),.int .i64 ((recM b).2:Int)])) []:=by
  rw[←hR];exact⟨rfl,rfl⟩
 have htk:List.take (recM b).1.length ((recM b).1.map PV.str)=(recM b).1.map PV.str:=Zub (by simp);simp[-getElem?_pos,L17];refine .inl (cQ [] [.lst false 1 (bP b)] (Zb2 b) ?_);simp[-getElem?_pos];refine Ze3 (vecC 60 9 1 (s:=.loc 2 0) (cs:=[.pv (.emp (some true))]) 0 rfl rfl (by decide)) ?_;refine ZbD [.loc 20 0,.loc 2 0,.loc 3 0,.loc 60 0] [(2,.ptr (.loc 2 0) 0),(3,.ptr (.loc 3 0) 0)] (gf:=58) (fs:=[]) (cs:=[.pv (.ref [.lst false 1 (bP b)])]) ?_ ?_ rfl rfl ?_ ?_ ?_ hrc ?_
 ·simp[AS.vecC]
 ·simp[AS.vecC]
 ·simp[AS.vecC,rvX,rvL]
 ·rfl
 ·rfl
 rintro q B' ⟨rfl,rfl⟩;generalize recM b=r at hfin htk ⊢;obtain⟨ls,a⟩:=r;dsimp only at hfin htk ⊢;refine⟨rfl,by simp[rvX,rvL],?_⟩;cases hst:decide (50<(restM b 0 0).length)with
 |false=>
  refine⟨_,_,_,_,_,rfl,?_⟩;simp[-getElem?_pos,rvX,rvL,AS.vecC,jumpQ];refine ZaI (fun τ=>τ=⟨[(3,.ptr (.loc 3 0) 0),(2,.ptr (.loc 2 0) 0),(19,.pv (.int .i64 (a:Int)))],[(.loc 2 0,.cells [.vec (.loc 21 3) 1 0 ls.length]),(.loc 3 0,.cells [.pv (.int .i64 (a:Int))]),(.loc 21 3,.arr 9 1 (ls.map .str))]⟩) ?_ ?_
  ·simp only[Zaf,Zaj];refine⟨?_,?_,trivial⟩
   ·simp[-getElem?_pos,Zaf,Zaj,hold];exact Sub.mk (by simp) (by simp)
   ·simp[-getElem?_pos,Zaf,Zaj,hold];exact Sub.mk (by simp) (by simp)
  ·rintro τ rfl;simp[-getElem?_pos,Zaf,Zaj,htk];exact hfin
 |true=>
  refine⟨_,_,_,_,_,rfl,?_⟩;simp[-getElem?_pos,rvX,rvL,AS.vecC,jumpQ];refine ZaI (fun τ=>τ=⟨[(3,.ptr (.loc 3 0) 0),(2,.ptr (.loc 2 0) 0),(19,.pv (.int .i64 (a:Int)))],[(.loc 2 0,.cells [.vec (.loc 21 3) 1 0 ls.length]),(.loc 3 0,.cells [.pv (.int .i64 (a:Int))]),(.loc 21 3,.arr 9 1 (ls.map .str))]⟩) ?_ ?_
  ·simp only[Zaf,Zaj];refine⟨?_,?_,trivial⟩
   ·simp[-getElem?_pos,Zaf,Zaj,hold];exact Sub.mk (by simp) (by simp)
   ·simp[-getElem?_pos,Zaf,Zaj,hold];exact Sub.mk (by simp) (by simp)
  ·rintro τ rfl;simp[-getElem?_pos,Zaf,Zaj,htk];exact hfin
def whl (L:List ByteArray)(n:Nat):Nat:=(fileL (L.take n) 0).length
theorem ZfU {L:List ByteArray}(hl:L.length≤50)(hs:∀s∈L,s.size≤200)(n:Nat):whl L n≤10800:=by
 have:=ZdY (l:=L.take n) (i:=0) (fun s h=>hs s (ZuQ h))
 rw[Zt6]at this;unfold whl;have h2:min n L.length≤50:=Zup (Nat.min_le_right _ _) hl;omega
theorem Zjq {c n:Nat}:(c:Int).tmod ((n:Int)+1)=((c%(n+1):Nat):Int):=by rw[Int.tmod_eq_emod_of_nonneg (by omega)];rfl
def Wk.cells (w:Wk):List AV:=[.pv (.lst false 7 (w.certs.map Ct.pv)),.pv (.lst false 1 (w.bad.map iP)),.pv (.lst false 4 (w.lots.map Lt.pv)),.pv (.lst false 4 (w.tests.map Tt.pv)),.pv (.lst false 3 (w.runs.map Qn.Rq.pv))]
section
variable {D:Wk→ByteArray→Wk×Int}
theorem Zco {s:ByteArray}:∀{l:List ByteArray} {st:Wk},keepD D st (l++[s])=keepD D st l++if(D (foldD D st l).1 s).2=0 then[s]else[]
 |[],st=>by
  by_cases h:(D st s).2=0
  ·simp[keepD,foldD,h]
  ·simp[keepD,foldD,h]
 |x::l,st=>by
  simp only[ZuR,keepD,foldD];rw[Zco (l:=l)];by_cases h2:(D (foldD D (D st x).1 l).1 s).2=0<;>by_cases h1:(D st x).2=0<;>simp[h1,h2]
theorem Zb6 {s:ByteArray}:∀{l:List ByteArray} {st:Wk},s∈keepD D st l→s∈l
 |[],_,h=>by simp[keepD]at h
 |x::l,st,h=>by
  unfold keepD at h;split at h
  ·rcases Zul.1 h with rfl|h
   ·exact List.mem_cons_self ..
   ·exact List.mem_cons_of_mem _ (Zb6 h)
  ·exact List.mem_cons_of_mem _ (Zb6 h)
theorem Zbc:∀{l:List ByteArray} {st:Wk},(keepD D st l).length≤l.length
 |[],_=>Zue _
 |x::l,st=>by
  unfold keepD;split
  ·exact Nat.succ_le_succ Zbc
  ·exact Nat.le_succ_of_le Zbc
def Still (D:Wk→ByteArray→Wk×Int):Prop:=∀st s,(D st s).2≠0→(D st s).1=st
theorem Ze9 {st:Wk}(r:Except Int Wk)(h:(st.next r).2≠0):(st.next r).1=st:=by
 cases r with
 |ok w=>exact absurd rfl h
 |error e=>rfl
theorem ZeS {F:Nat}:Still (doB F):=fun st s h=>Ze9 _ h
theorem ZbU (h:Still D):∀{l:List ByteArray} {st:Wk},keepD D st (keepD D st l)=keepD D st l
 |[],st=>rfl
 |x::l,st=>by
  by_cases hx:(D st x).2=0
  ·simp only[keepD,if_pos hx];rw[ZbU h (l:=l)]
  ·simp only[keepD,if_neg hx];rw[h st x hx,ZbU h (l:=l)]
theorem ZdA {s:ByteArray}:∀{L:List ByteArray} {st:Wk} {k:Nat},L[k]?=some s→(foldD D st L).2[k]?=some (D (foldD D st (L.take k)).1 s).2
 |[],_,k,h=>by simp at h
 |x::L,st,0,h=>by
  simp only[List.getElem?_cons_zero,Option.some.injEq]at h;subst h;rfl
 |x::L,st,k+1,h=>by
  simp only[ZuY]at h;simp only[foldD,List.take_succ_cons,ZuY];exact ZdA h
end
def emp5:List AV:=[.pv (.emp (some true)),.pv (.emp (some true)),.pv (.emp (some true)),.pv (.emp (some true)),.pv (.emp (some true))]
def pdS (L:List ByteArray)(w:Wk)(es:List Int)(kp:List ByteArray)(k:Nat):AS:=
 ⟨[(0,.pv (.lst false 1 (L.map .str))),(2,.ptr (.loc 2 0) 0),(5,.ptr (.loc 5 0) 0),(6,.pv (.lst false 1 (es.map iE))),(8,.vec (.loc 44 0) 1 0 kp.length),(9,.pv (.int .i64 (k:Int)))],
  [(.loc 44 0,.arr 9 1 (kp.map .str)),(.loc 2 0,.cells emp5),(.loc 5 0,.cells w.cells)]⟩
set_option maxHeartbeats 4000000 in
theorem ZfI {F:Nat}(hF:407<F)(L:List ByteArray)(hr:ZaJ L=true):Gives Tryz.prog 12 [strsP L] (.tup [(foldD (doB F) wk0 L).1.pv,strsP (keepD (doB F) wk0 L),.bool true]):=by
 obtain⟨hl0,hs0⟩:=ZaE hr;have hck:=ZaH hr;have hbi:=ZdK L (by omega);have hpl:=Zn9 hF L (by omega);unfold plyE at hpl;rw[if_pos hck]at hpl;have hfl:=Zde (D:=doB F) (l:=L) (st:=wk0);have hget:=fun k s (h:L[k]?=some s)=>ZdA (D:=doB F) (st:=wk0) h
 have hkp:=fun k s=>Zco (D:=doB F) (s:=s) (l:=L.take k) (st:=wk0)
 have hkl:=fun k=>Zup (Zbc (D:=doB F) (l:=L.take k) (st:=wk0)) (show(L.take k).length≤50 by rw[Zt6];omega)
 refine cFR [.loc 44 0] L12 ?_;intro R hR;generalize hD:doB F=D at hpl hfl hget hkp hkl hR;obtain⟨K,hK⟩:∃K:Nat→List ByteArray,K=fun k=>keepD D wk0 (L.take k):=⟨_,rfl⟩
 have hK0:K 0=[]:=by rw[hK];rfl
 have hKL:K L.length=keepD D wk0 L:=by rw[hK];show keepD D wk0 (L.take L.length)=_;rw[Zus]
 have hKs:∀k s,L[k]?=some s→∃e,(foldD D wk0 L).2[k]?=some e∧K (k+1)=K k++(if e=0 then[s]else[]):=fun k s hx=>by
  refine⟨_,hget k s hx,?_⟩;rw[hK];show keepD D wk0 (L.take (k+1))=_;rw[Zuf,hx];exact hkp k s
 have hKl:∀k,(K k).length≤50:=fun k=>by rw[hK];exact hkl k
 rw[←hKL]at hR;clear hK hkp hkl hget;generalize foldD D wk0 L=q at hpl hfl hKs hR;obtain⟨w,es⟩:=q;dsimp only at hpl hfl hKs hR;simp[-getElem?_pos,L12];refine .inl (cQ [] [strsP L] hbi ?_);simp[-getElem?_pos];refine .inl (cQ [] [strsP L] hpl ?_);simp[-getElem?_pos,Wk.pv,ctsP,bdsP,lotsP,ttsP,runsP,strsP,hfl];refine Zae (fun m τ=>∃k:Nat,k≤L.length∧m=L.length-k∧τ=pdS L w es (K k) k) ⟨L.length,pdS L w es (K 0) 0,Sub.trans' (Sub.mk (by simp[pdS,hK0,AS.vecT]) (by simp[pdS,hK0,AS.vecT,emp5,Wk.cells])) (vecT 44 9 1 8 rfl (by decide)),0,Zud _,rfl,rfl⟩ ?_;rintro J hJ m τ ⟨k,hk,rfl,rfl⟩;by_cases hlt:k<L.length
 ·obtain⟨s,hx⟩:∃s,L[k]?=some s:=⟨L[k],Zt3 hlt⟩;have hg:(L.map PV.str)[k]?=some (.str s):=by rw[Zt4,hx];rfl
  obtain⟨e,he,hks⟩:=hKs k s hx;have hge:(es.map iE)[k]?=some (.int .i64 e):=by rw[Zt4,he];rfl
  have hw:=wrapK (k:=k) (by omega);have hn:=hJ _ _ ⟨k+1,hlt,rfl,rfl⟩;have hmeas:L.length-(k+1)<L.length-k:=by omega
  have hk5:=hKl k;have hlt2:k<es.length:=by omega
  rw[hks]at hn;clear hJ hKs;generalize K k=kp at hn hk5 ⊢;have hk6:kp.length+1≤1000000:=by omega
  by_cases h0:e=0
  ·rw[if_pos h0]at hn;subst h0;simp[-getElem?_pos,-List.getElem?_map,pdS,hlt,hlt2,hg,hge,nblt,nble,hk6,hw,Wk.cells,emp5];exact⟨_,_,hmeas,Sub.mk (by simp[pdS]) (by simp[pdS,Wk.cells,emp5]),hn⟩
  ·rw[if_neg h0,Zut]at hn;simp[-getElem?_pos,-List.getElem?_map,pdS,hlt,hlt2,hg,hge,nblt,nble,h0,hw,Wk.cells,emp5];exact⟨_,_,hmeas,Sub.mk (by simp[pdS]) (by simp[pdS,Wk.cells,emp5]),hn⟩
 ·have he:k=L.length:=by omega
  subst he;have hm:List.take (K L.length).length ((K L.length).map PV.str)=(K L.length).map PV.str:=Zub (by simp);simp[-getElem?_pos,-List.map_take,pdS,Wk.cells,emp5,hm];rw[←hR];exact⟨by simp[Wk.pv,ctsP,bdsP,lotsP,ttsP,runsP,strsP],by simp⟩
end
section
open Go.RowKit
set_option maxRecDepth 10000
attribute [local simp] AS.exp expG Box.ren AV.map AV.mapL Zau noRet Site.isRet Box.allS AV.allS AV.allSL retB dropL AS.adds renL outG outOk Zas inG fnOf lookA Zuq
attribute [local simp] Box.purge Site.isLoc
attribute [local simp] retFz frzL AS.frz AV.frz AV.frzL Box.frz AS.tidy AS.frzC frzsL retOk renB toLoc
theorem Zeh {D:Wk→ByteArray→Wk×Int}{L:List ByteArray}{st:Wk}(h:ZaJ L=true):ZaJ (keepD D st L)=true:=by
 obtain⟨h1,h2⟩:=ZaE h;unfold ZaJ;rw[Zt7,decide_eq_true_eq,Zuo];exact⟨fun s hs=>by simpa using h2 s (Zb6 hs),Zup Zbc h1⟩
def rcO (q:List ByteArray×Nat)(r:AV)(B:List (Site×Box)):Prop:=r=.tup [.vec (.ret 0) 1 0 q.1.length,.pv (.int .i64 (q.2:Int))]∧B=[(.ret 0,.arr 9 1 (q.1.map .str))]
set_option maxHeartbeats 4000000 in
theorem Zmt (b:List UInt8)(hb:b.length≤1000000):Zak Tryz.prog 17 [.pv (.lst false 1 (bP b))] [] (rcO (recM b)):=by
 have hrc:=Zfw b hb;refine cB [.loc 21 3] L17 ?_;generalize hR:rcO (recM b)=R;have hfin:R (.tup [.vec (.ret 0) 1 0 (recM b).1.length,.pv (.int .i64 ((recM b).2:Int))]) [(.ret 0,.arr 9 1 ((recM b).1.map .str))]:=by
  rw[←hR];exact⟨rfl,rfl⟩
 have htk:List.take (recM b).1.length ((recM b).1.map PV.str)=(recM b).1.map PV.str:=Zub (by simp);simp[-getElem?_pos,L17];refine .inl (cQ [] [.lst false 1 (bP b)] (Zb2 b) ?_);simp[-getElem?_pos];refine Ze3 (vecC 60 9 1 (s:=.loc 2 0) (cs:=[.pv (.emp (some true))]) 0 rfl rfl (by decide)) ?_;refine ZbD [.loc 20 0,.loc 2 0,.loc 3 0,.loc 60 0] [(2,.ptr (.loc 2 0) 0),(3,.ptr (.loc 3 0) 0)] (gf:=58) (fs:=[]) (cs:=[.pv (.ref [.lst false 1 (bP b)])]) ?_ ?_ rfl rfl ?_ ?_ ?_ hrc ?_
 ·simp[AS.vecC]
 ·simp[AS.vecC]
 ·simp[AS.vecC,rvX,rvL]
 ·rfl
 ·rfl
 rintro q B' ⟨rfl,rfl⟩;generalize recM b=r at hfin htk ⊢;obtain⟨ls,a⟩:=r;dsimp only at hfin htk ⊢;refine⟨rfl,by simp[rvX,rvL],?_⟩;cases hst:decide (50<(restM b 0 0).length)with
 |false=>
  refine⟨_,_,_,_,_,rfl,?_⟩;simp[-getElem?_pos,rvX,rvL,AS.vecC,jumpQ];refine ZaI (fun τ=>τ=⟨[(3,.ptr (.loc 3 0) 0),(2,.ptr (.loc 2 0) 0),(19,.pv (.int .i64 (a:Int)))],[(.loc 2 0,.cells [.vec (.loc 21 3) 1 0 ls.length]),(.loc 3 0,.cells [.pv (.int .i64 (a:Int))]),(.loc 21 3,.arr 9 1 (ls.map .str))]⟩) ?_ ?_
  ·simp only[Zaf,Zaj];refine⟨?_,?_,trivial⟩
   ·simp[-getElem?_pos,Zaf,Zaj,hold];exact Sub.mk (by simp) (by simp)
   ·simp[-getElem?_pos,Zaf,Zaj,hold];exact Sub.mk (by simp) (by simp)
  ·rintro τ rfl;simp[-getElem?_pos,Zaf,Zaj,htk];exact hfin
 |true=>
  refine⟨_,_,_,_,_,rfl,?_⟩;simp[-getElem?_pos,rvX,rvL,AS.vecC,jumpQ];refine ZaI (fun τ=>τ=⟨[(3,.ptr (.loc 3 0) 0),(2,.ptr (.loc 2 0) 0),(19,.pv (.int .i64 (a:Int)))],[(.loc 2 0,.cells [.vec (.loc 21 3) 1 0 ls.length]),(.loc 3 0,.cells [.pv (.int .i64 (a:Int))]),(.loc 21 3,.arr 9 1 (ls.map .str))]⟩) ?_ ?_
  ·simp only[Zaf,Zaj];refine⟨?_,?_,trivial⟩
   ·simp[-getElem?_pos,Zaf,Zaj,hold];exact Sub.mk (by simp) (by simp)
   ·simp[-getElem?_pos,Zaf,Zaj,hold];exact Sub.mk (by simp) (by simp)
  ·rintro τ rfl;simp[-getElem?_pos,Zaf,Zaj,htk];exact hfin
def plyO (L:List ByteArray)(W:Box)(es:List Int)(k:Nat):AS:=
 ⟨[(4,.ptr (.loc 9 0) 0),(5,.vec (.loc 21 0) 1 0 es.length),(10,.vec (.par 0) 1 0 L.length),(11,.pv (.int .i64 L.length)),(12,.pv (.int .i64 (k:Int)))],
  [(.loc 9 0,W),(.loc 21 0,.arr 43 1 (es.map iE)),(.par 0,.arr 9 1 (L.map .str))]⟩
def plO (L:List ByteArray)(q:Wk×List Int)(r:AV)(B:List (Site×Box)):Prop:=r=.tup [.ptr (.ret 1) 0,.vec (.ret 2) 1 0 L.length]∧B=[(.par 0,.arr 9 1 (L.map .str)),(.ret 1,q.1.box),(.ret 2,.arr 43 1 (q.2.map iE))]
theorem Ztc {I:Nat→Wk→Prop}{D:Wk→ByteArray→Wk×Int}(hN:ZgK I D)(h0:I 0 wk0)(L:List ByteArray)(hl:L.length≤150)(hs:∀s∈L,s.size≤200):
  Zak Tryz.prog 35 [.vec (.par 0) 1 0 L.length] [(.par 0,.arr 9 1 (L.map .str))] (plO L (foldD D wk0 L)):=by
 refine cB [.par 0,.loc 9 0,.loc 21 0] L35 ?_;generalize hR:plO L (foldD D wk0 L)=R;simp[-getElem?_pos,L35];refine Zae (fun m τ=>∃k:Nat,k≤L.length∧m=L.length-k∧τ=plyO L (foldD D wk0 (L.take k)).1.box (foldD D wk0 (L.take k)).2 k) ⟨L.length,plyO L wk0.box [] 0,?_,0,Zud _,rfl,rfl⟩ ?_
 ·refine Sub.trans' ?_ (vecT 21 43 1 5 rfl (by decide));refine Sub.trans' ?_ (Sub.wkC (s:=.loc 9 0) (i:=0) _ rfl rfl (Zd4 7));refine Sub.trans' ?_ (Sub.wkC (s:=.loc 9 0) (i:=1) _ rfl rfl (Zd4 1));refine Sub.trans' ?_ (Sub.wkC (s:=.loc 9 0) (i:=2) _ rfl rfl (Zd4 4));refine Sub.trans' ?_ (Sub.wkC (s:=.loc 9 0) (i:=3) _ rfl rfl (Zd4 4));refine Sub.trans' ?_ (Sub.wkC (s:=.loc 9 0) (i:=4) _ rfl rfl (Zd4 3));exact Sub.mk (by simp[plyO,AS.vecT]) (by simp[plyO,AS.vecT,Wk.box,wk0,wkX,ctsP,bdsP,lotsP,ttsP,runsP])
 rintro J hJ m τ ⟨k,hk,rfl,rfl⟩;have hfl:=Zde (D:=D) (l:=L.take k) (st:=wk0);rw[Zt6,ZuB hk]at hfl;by_cases hlt:k<L.length
 ·obtain⟨s,hx⟩:∃s,L[k]?=some s:=⟨L[k],Zt3 hlt⟩;have hmem:s∈L:=Zua hx;have hg:(L.map PV.str)[k]?=some (.str s):=by rw[Zt4,hx];rfl
  have htk:L.take (k+1)=L.take k++[s]:=by rw[Zuf,hx];rfl
  have hinv:=ZbG hN (l:=L.take k) (st:=wk0) (by rw[Zt6];omega) h0 (fun s hs'=>hs s (ZuQ hs'));have hn:=hJ (L.length-(k+1)) _ ⟨k+1,hlt,rfl,rfl⟩;rw[htk,ZdX]at hn;have hc:=(hN _ _ s (by rw[Zt6];omega) hinv (hs s hmem)).2;have hw:=wrapK (k:=k) (by omega);have h1:(foldD D wk0 (L.take k)).2.length+1≤1000000:=by omega
  have hmeas:L.length-(k+1)<L.length-k:=by omega
  generalize foldD D wk0 (L.take k)=q at hn hc h1 ⊢;obtain⟨st,es⟩:=q;dsimp only at hn hc h1 ⊢;generalize D st s=q' at hn hc;obtain⟨st',e⟩:=q';dsimp only at hn hc;simp[-getElem?_pos,-List.getElem?_map,plyO,hlt,hg,Wk.box,wkX,nblt,nble];refine cM [.ptr (.par 0) 0,.pv (.str s)] [(.par 0,st.box)] 19 [.loc 9 0] (by simp[Wk.box,wkX]) hc (by simp[Wk.box,wkX]) ?_;simp[-getElem?_pos,Wk.box,wkX,h1,nble,hw];exact⟨_,_,hmeas,Sub.mk (by simp[plyO]) (by simp[plyO,Wk.box,wkX,iE]),hn⟩
 ·have he:k=L.length:=by omega
  subst he;rw[Zus]at hfl ⊢;simp[-getElem?_pos,plyO,Wk.box,wkX,hfl];rw[←hR];exact⟨rfl,by simp[Wk.box,wkX]⟩
theorem Zkn {b:List UInt8}:∀{f a i:Nat} {p:ByteArray×Nat},p∈readM b f a i→p.1.size≤200
 |0,a,i,p,h=>by simp[readM]at h
 |f+1,a,i,p,h=>by
  unfold readM at h;split at h
  ·rename_i s ho;rcases Zul.1 h with rfl|h
   ·exact(ZaP.1 ho).1
   ·exact Zkn h
  ·cases h
theorem ZrB (b:List UInt8):(recM b).1.length≤50∧∀s∈(recM b).1,s.size≤200:=by
 unfold recM restM;refine⟨by rw[Zuc,Zt6];omega,fun s hs=>?_⟩;obtain⟨p,hp,rfl⟩:=Zug.1 hs;exact Zkn (ZuQ hp)
def rsmL (D:Wk→ByteArray→Wk×Int)(b:List UInt8)(more:List ByteArray):List ByteArray:=(recM b).1++keepD D (foldD D wk0 (recM b).1).1 more
def rsmE (D:Wk→ByteArray→Wk×Int)(b:List UInt8)(more:List ByteArray):PV:=
 if ZaT more=0∧(rsmL D b more).length≤50 then .tup [.lst false 1 (bP (fileL (rsmL D b more) 0)),.int .i64 0]else .tup [.lst false 1 [],.int .i64 3]
def rsS (more ls:List ByteArray)(W:Box)(k:Nat):AS:=
 ⟨[(7,.vec (.loc 41 0) 1 0 ls.length),(9,.ptr (.loc 25 1) 0),(28,.pv (.lst false 1 (more.map .str))),(29,.pv (.int .i64 more.length)),(30,.pv (.int .i64 (k:Int)))],
  [(.loc 41 0,.arr 9 1 (ls.map .str)),(.loc 25 1,W)]⟩
set_option maxHeartbeats 4000000 in
theorem Zk7 {I:Nat→Wk→Prop}{D:Wk→ByteArray→Wk×Int}(hN:ZgK I D)(h0:I 0 wk0)(b:List UInt8)(hb:b.length≤1000000)(more:List ByteArray)(hl:more.length≤1000000):
  Gives Tryz.prog 22 [.lst false 1 (bP b),strsP more] (rsmE D b more):=by
 have hch:=Zej more hl;refine Zak.weak2 ?_;refine cFR [] L22 ?_;intro R hR;unfold rsmE at hR;simp[-getElem?_pos,L22];refine cG [strsP more] hch ?_;by_cases hc:ZaT more=0
 ·obtain⟨hl5,hs2⟩:=ZeW hc;have hro:=Zmt b hb;obtain⟨r1,r2⟩:=ZrB b;unfold rsmL at hR;generalize recM b=q at hro r1 r2 hR;obtain⟨ls,a⟩:=q;dsimp only at hro r1 r2 hR;have hpo:=Ztc hN h0 ls (by omega) r2;have hi0:=ZbG hN (l:=ls) (by omega) h0 r2;generalize foldD D wk0 ls=q at hpo hi0 hR;obtain⟨st,es⟩:=q;dsimp only at hpo hi0 hR;simp[-getElem?_pos,hc];refine .inl (Zbr [] (fs:=[]) (xs:=[.lst false 1 (bP b)]) (cs:=[]) (d:=20) rfl rfl hro ?_);rintro r B ⟨rfl,rfl⟩;refine⟨by simp,?_⟩;simp[-getElem?_pos];refine cM [.vec (.par 0) 1 0 ls.length] [(.par 0,.arr 9 1 (ls.map .str))] 25 [.loc 20 0] (by simp) hpo (by simp[Wk.box,wkX]) ?_;simp[-getElem?_pos,strsP];have hkp:=fun k s=>Zco (D:=D) (s:=s) (l:=more.take k) (st:=st)
  have hkl:=fun k=>Zup (Zbc (D:=D) (l:=more.take k) (st:=st)) (show(more.take k).length≤50 by rw[Zt6];omega)
  have hks:∀s∈keepD D st more,s.size≤200:=fun s hs=>hs2 s (Zb6 hs)
  refine Zae (fun m τ=>∃k:Nat,k≤more.length∧m=more.length-k∧τ=rsS more (ls++keepD D st (more.take k)) (foldD D st (more.take k)).1.box k) ⟨more.length,rsS more ls st.box 0,Sub.trans' (Sub.mk ?_ ?_) (Sub.ren 41 (.loc 20 0) _),0,Zud _,rfl,by simp[keepD,foldD]⟩ ?_
  ·simp[rsS,AS.ren,renS,AS.purge,AV.purge,AV.has]
  ·simp[rsS,AS.ren,renS,AS.purge,AV.purge,AV.has,Wk.box,wkX]
  rintro J hJ m τ ⟨k,hk,rfl,rfl⟩;by_cases hlt:k<more.length
  ·obtain⟨s,hx⟩:∃s,more[k]?=some s:=⟨more[k],Zt3 hlt⟩;have hg:(more.map PV.str)[k]?=some (.str s):=by rw[Zt4,hx];rfl
   have htk:more.take (k+1)=more.take k++[s]:=by rw[Zuf,hx];rfl
   have hinv:=ZbG hN (l:=more.take k) (k:=0+ls.length) (st:=st) (by rw[Zt6];omega) hi0 (fun s hs'=>hs2 s (ZuQ hs'));have hn:=hJ (more.length-(k+1)) _ ⟨k+1,hlt,rfl,rfl⟩;have hk5:=hkl k;rw[htk,ZdX,hkp k s]at hn;have hcn:=(hN _ _ s (by rw[Zt6];omega) hinv (hs2 s (Zua hx))).2;have hw:=wrapK (k:=k) (by omega);have hmeas:more.length-(k+1)<more.length-k:=by omega
   clear hJ hkp hkl hinv;generalize keepD D st (more.take k)=kp at hn hk5 ⊢;generalize foldD D st (more.take k)=q at hn hcn ⊢;obtain⟨w,es'⟩:=q;dsimp only at hn hcn ⊢;generalize D w s=q' at hn hcn;obtain⟨w',e⟩:=q';dsimp only at hn hcn;have h6:ls.length+kp.length+1≤1000000:=by omega
   simp[-getElem?_pos,-List.getElem?_map,rsS,hlt,hg,Wk.box,wkX,nblt,nble];refine cM [.ptr (.par 0) 0,.pv (.str s)] [(.par 0,w.box)] 36 [.loc 25 1] (by simp[Wk.box,wkX]) hcn (by simp[Wk.box,wkX]) ?_;by_cases h0:e=0
   ·rw[if_pos h0]at hn;subst h0;simp[-getElem?_pos,Wk.box,wkX,h6,nble,hw];exact⟨_,_,hmeas,Sub.mk (by simp[rsS,Nat.add_assoc]) (by simp[rsS,Wk.box,wkX]),hn⟩
   ·rw[if_neg h0,Zut]at hn;simp[-getElem?_pos,Wk.box,wkX,h0,nble,hw];exact⟨_,_,hmeas,Sub.mk (by simp[rsS]) (by simp[rsS,Wk.box,wkX]),hn⟩
  ·have he:k=more.length:=by omega
   subst he;have hk5:=hkl more.length;rw[Zus]at hk5 ⊢;have hsz:∀s∈ls++keepD D st more,s.size≤200:=fun s hs=>by
    rcases ZuL.1 hs with h|h
    ·exact r2 s h
    ·exact hks s h
   generalize ls++keepD D st more=tot at hR hsz ⊢;by_cases h5:tot.length≤50
   ·rw[if_pos ⟨hc,h5⟩]at hR;have h5':¬(50:Int)<(tot.length:Int):=by omega
    have hfc:=ZqL tot (by omega) hsz;have hm:List.take tot.length (tot.map PV.str)=tot.map PV.str:=Zub (by simp);simp[-getElem?_pos,rsS,Wk.box,wkX,h5',nble];refine .inl (cP [.loc 41 0] [strsP tot] (by simp) (by simp[hm,strsP]) hfc ?_);simp[-getElem?_pos];rw[←hR];exact⟨_,rfl,by simp,fun m v h=>h⟩
   ·rw[if_neg (fun h=>h5 h.2)]at hR;have h5':(50:Int)<(tot.length:Int):=by omega
    simp[-getElem?_pos,rsS,Wk.box,wkX,h5',nble];rw[←hR];exact⟨_,rfl,by simp,ZbW 5 _ _ rfl⟩
 ·have h3:=ZeV hc;rw[if_neg (fun h=>hc h.1)]at hR;simp[-getElem?_pos,h3];rw[←hR];exact⟨_,rfl,rfl,ZbW 5 _ _ rfl⟩
section
variable {D:Wk→ByteArray→Wk×Int}
theorem ZiJ:∀{l l':List ByteArray} {st:Wk},keepD D st (l++l')=keepD D st l++keepD D (foldD D st l).1 l'
 |[],l',st=>rfl
 |x::l,l',st=>by
  simp only[ZuR,keepD,foldD];rw[ZiJ (l:=l)]
  split<;>simp
theorem Zm5 (l:List ByteArray)(W:Nat)(h:keepD D wk0 l=l):keepD D (foldD D wk0 (l.take W)).1 (l.drop W)=l.drop W:=by
 have h1:=ZiJ (D:=D) (l:=l.take W) (l':=l.drop W) (st:=wk0);rw[ZuS,h]at h1;have h2:=Zbc (D:=D) (l:=l.take W) (st:=wk0);have h3:=Zbc (D:=D) (l:=l.drop W) (st:=(foldD D wk0 (l.take W)).1);have h4:=congrArg List.length h1;rw[Zt9]at h4;have h5:(l.take W).length+(l.drop W).length=l.length:=by rw[←Zt9,ZuS]
 have h6:l.take W++l.drop W=keepD D wk0 (l.take W)++keepD D (foldD D wk0 (l.take W)).1 (l.drop W):=by rw[ZuS];exact h1
 exact(List.append_inj h6 (by omega)).2.symm
end
theorem ZoA:recM []=([],0):=rfl
set_option maxHeartbeats 4000000 in
theorem Zpj (L:List ByteArray)(c:Nat)(hc:c<65536)(hl:L.length≤9223372036854775807):Gives Tryz.prog 7 [strsP L,.int .u16 (c:Int)] (.bool true):=by
 have hth:=ZgH L hl;refine cSR L7 ?_;intro R hR;simp[-getElem?_pos,L7];refine cG [strsP L] hth ?_;cases ht:thinB L with
 |false=>
  simp[-getElem?_pos];refine cG [] Zbf ?_;simp[-getElem?_pos];rw[←hR];exact⟨rfl,by simp⟩
 |true=>
 have hl5:L.length≤55:=by
  unfold thinB at ht;rw[Zt7,decide_eq_true_eq]at ht;exact ht.2
 have hrr:=Zes L (by omega);simp[-getElem?_pos];refine cG [strsP L] hrr ?_;cases hrt:ZaJ L with
 |false=>
  simp[-getElem?_pos];refine cG [] Zbf ?_;simp[-getElem?_pos];rw[←hR];exact⟨rfl,by simp⟩
 |true=>
 have hF:407<408:=by decide
 have hp:=ZfI hF L hrt;have hkr:=Zeh (D:=doB 408) (st:=wk0) hrt;have hkk:=ZbU (ZeS (F:=408)) (l:=L) (st:=wk0);have hN:=ZdZ hF;have hr0:=Zk7 hN wk0_I [] (Zud _) L (by omega);have hck0:=ZaH hrt;generalize hD:doB 408=D at hp hkr hkk hN hr0;have hlb:=ZdK L (by omega);unfold rsmE rsmL at hr0;rw[ZoA]at hr0;change Gives Tryz.prog 22 [.lst false 1 [],strsP L] (if ZaT L=0∧(keepD D wk0 L).length≤50 then .tup [.lst false 1 (bP (fileL (keepD D wk0 L) 0)),.int .i64 0]else .tup [.lst false 1 [],.int .i64 3])at hr0;generalize keepD D wk0 L=K at hp hkr hkk hr0;obtain⟨hl0,hs0⟩:=ZaE hkr;rw[if_pos ⟨hck0,hl0⟩]at hr0;have hr1:Zak Tryz.prog 22 ([.emp (some true),strsP L].map .pv) [] (fun r B=>r=.pv (.tup [.lst false 1 (bP (fileL K 0)),.int .i64 0])∧B=[]):=Zak.weakArgs (xs:=[.emp (some true),strsP L]) (ys:=[.lst false 1 [],strsP L]) hr0 rfl (fun j x y m v e1 e2 hd=>by
  match j with
  |0=>simp at e1 e2;subst e1 e2;exact Zbz hd
  |1=>simp at e1 e2;subst e1 e2;exact hd
  |j+2=>simp at e1)
 have hck:=ZaH hkr;have hlk:=ZdK K (by omega);have hwr:=ZgJ K (by omega);unfold wrtE at hwr;rw[if_pos hck]at hwr;have hwe:whl K K.length=(fileL K 0).length:=by unfold whl;rw[Zus]
 have hfl:(fileL K 0).length≤10800:=by rw[←hwe];exact ZfU hl0 hs0 _
 have hkl:c%((fileL K 0).length+1)≤(fileL K 0).length:=by have:=Nat.mod_lt c (show 0<(fileL K 0).length+1 by omega);omega
 have hkc:=Zjq (c:=c) (n:=(fileL K 0).length);generalize hk:c%((fileL K 0).length+1)=k at hkl hkc;have e2:=Zjr hl0 hs0 hkl;have w3:=Zcs (k:=k) (l:=K) (at_:=0);have hrv:=Zb1 ((fileL K 0).take k) (by rw[Zt6];omega);unfold recE at hrv;have hr2:=Zk7 hN wk0_I ((fileL K 0).take k) (by rw[Zt6];omega) (K.drop (Zat k K 0)) (by rw[Zuh];omega);unfold rsmE rsmL at hr2;rw[e2]at hrv hr2;dsimp only at hrv hr2;rw[Zm5 K _ hkk,ZuS]at hr2;have hck2:ZaT (K.drop (Zat k K 0))=0:=ZaH (by
  unfold ZaJ;rw[Zt7,decide_eq_true_eq,Zuo];exact⟨fun s hs=>by simpa using hs0 s (List.mem_of_mem_drop hs),by rw[Zuh];omega⟩)
 rw[if_pos ⟨hck2,hl0⟩]at hr2;have hld:=ZdK (K.drop (Zat k K 0)) (by rw[Zuh];omega);generalize Zat k K 0=W at hrv hr2 w3 hld e2 hck2;have hMl:(K.take W).length=W:=by rw[Zt6];omega
 have hfb:(fileL K 0).length≤1000000:=by omega
 have htk2:List.take k (bP (fileL K 0))=bP ((fileL K 0).take k):=Za7;have hwF:IntKind.i64.wrap (((fileL K 0).length:Int)+1)=((fileL K 0).length:Int)+1:=wrap64 (by omega);have hwc:IntKind.i64.wrap (c:Int)=(c:Int):=wrap64 (by omega);have hkb:k≤1000000:=by omega
 have n1:Zbk (bP (fileL K 0))=some (natL (fileL K 0)):=Zaw _;generalize hw:(foldD D wk0 L).1=w at hp;simp[-getElem?_pos];refine .inl (cQ [] [strsP L] hp ?_);simp[-getElem?_pos,Wk.pv];refine .inl (cQ [] [strsP K] hlk ?_);simp[-getElem?_pos];refine .inl (cQ [] [strsP K] hwr ?_);simp[-getElem?_pos];refine .inl (cQ [] [strsP L] hlb ?_);simp[-getElem?_pos];refine .inl (cQ [] [.emp (some true),strsP L] hr1 ?_);simp[-getElem?_pos,n1,Zav];have hd0:(((fileL K 0).length:Int)+1=0)=False:=by simp;omega
 have hmn:min k (fileL K 0).length=k:=ZuB hkl;have htk3:List.take k (bP ((fileL K 0).take k))=bP ((fileL K 0).take k):=by rw[Za7,List.take_take,Nat.min_self]
 have hWk:W≤K.length:=w3;have hng:¬(K.length:Int)<(W:Int):=by omega
 have hKt:List.take K.length (K.map PV.str)=K.map PV.str:=Zub (by simp);have hng2:¬K.length<W:=by omega
 have hWm:min W K.length=W:=ZuB w3;have hdr:List.drop W (K.map PV.str)=(K.drop W).map PV.str:=by rw[List.map_drop]
 simp[-getElem?_pos,ZaC,hwF,hwc,hkc,hd0,nble,hkl,hfb,htk2,hkb];refine .inl (cP [.loc 72 0] [.lst false 1 (bP ((fileL K 0).take k))] (by simp) (by simp[ZaC,htk2,hmn,htk3]) hrv ?_);simp[-getElem?_pos,strsP,hMl,hng,hng2,hWm];simp[-getElem?_pos,ZaC,nble,hkl,hfb,htk2,hkb,hMl,hWk,hng2,hWm,hKt];refine .inl (cP [] [strsP (K.drop W)] rfl (by simp[strsP,hKt]) hld ?_);simp[-getElem?_pos];refine .inl (cP [.loc 86 0] [.lst false 1 (bP ((fileL K 0).take k)),strsP (K.drop W)] (by simp) (by simp[ZaC,htk2,hmn,htk3]) hr2 ?_);simp[-getElem?_pos,n1,Zav];refine cG [] Zbf ?_;simp[-getElem?_pos];rw[←hR];exact⟨rfl,by simp⟩
end
section
open Go.ChangeShapes Go.WideShapes Go.ChangeAt Go.RowKit
set_option maxRecDepth 100000
theorem ZgO (v0 v1:Value)(W:World){H:Type}{enc:TypeId×Value→H}{base:Nat}{sp:Nat→Bool}{hd:Bool}{d0 d1:DataW H}{p0 p1:List MemPlace}(hg:Glob W.mem W)
  (k0:Value.okWide Tryz.prog W .any base 22 v0) (h0:DataW.Trod enc Tryz.prog W 0 sp hd 22 v0 d0 p0)
  (k1:Value.okWide Tryz.prog W .any base 54 v1) (h1:DataW.Trod enc Tryz.prog W 0 sp hd 54 v1 d1 p1):
  Calls Tryz.prog 7 #[v0,v1] W fun e w'=>e=.returned (.bool true)∧Keep [] W w':=by
 obtain⟨n0,h0⟩:=h0;obtain⟨s0,w0,r0⟩:=Zf2 k0 h0;obtain⟨z1,rfl,rfl,rfl,y1⟩:=open_int Tryz.underlying54 k1 h1;obtain⟨s1,w1,rfl⟩:∃s:Nat,s<65536∧z1=(s:Int):=by
  have e1:IntKind.u16.min=0:=by decide
  have e2:IntKind.u16.max=65535:=by decide
  have y:=ZbT y1;exact⟨z1.toNat,by omega,by omega⟩
 refine Zdi (xs:=[strsP s0,.int .u16 (s1:Int)]) (b:=true) ((Zpj s0 s1 w1 w0).mono (fun _ _ h=>h.1)) rfl (fun j v x e1 e2=>?_) hg
 match j with
 |0=>simp at e1 e2;subst e1 e2;exact r0
 |1=>simp at e1 e2;subst e1 e2;exact .int .u16 (s1:Int)
 |j+2=>simp at e1
theorem ZfC (os:Os)(started:os.Started)(H:Type)(enc:TypeId×Value→H):
  ReturnsInHanded {} Tryz.checked os 7 .any (fun w args=>(Rows.bookGoesOnSpec.pre enc Tryz.prog Tryz.f7 Rows.bookGoesOnRow.domain false w args∧laidMetH Tryz.prog Rows.bookGoesOnRow.laid w)∧sizedMet enc Tryz.prog Tryz.f7 (OpenSpec.ofChange Rows.bookGoesOnSpec) false w args)
   (Rows.bookGoesOnSpec.post enc Tryz.prog Tryz.f7 false true false false):=by
 refine ZcE (C:=Tryz.checked) (X:=fun w _=>laidMetH Tryz.prog Rows.bookGoesOnRow.laid w) (fun _ _ _ hh h=>h.of_heap hh) own started (by kernel_rfl) Tryz.func7
  (ChangeSpec.witness_shaped (enc:=enc) (C:=Tryz.checked) (os:=os) (X:=fun w _=>laidMetH Tryz.prog Rows.bookGoesOnRow.laid w) false (World.laidAll Tryz.prog os Rows.bookGoesOnRow.laid) #[.slice none 0 0,.int .u16 0] 8 (World.laidAll_os _ _ _)
   (World.shaped_of_ZipB (by kernel_rfl) (by kernel_rfl)) (by kernel_rfl) (by kernel_rfl) (by kernel_rfl)
   (by rw[MakeChecks.laidMetH_plain _ _ _ (by kernel_rfl)];exact laidMet_laidAll _ (by kernel_rfl) (by kernel_rfl))) ?_
 intro W base args ds gs before hval0 hW hL hsh;have hval:∀(j:Nat) t v,Tryz.f7.params[j]?=some t→args[j]?=some v→Value.okWide Tryz.prog W .any base t v:=hval0;rw[MakeChecks.laidMetH_plain _ _ _ (by kernel_rfl)]at hL;have hg:=Zgx hsh (Lib.laidMet.reads hL (by simp[Rows.bookGoesOnRow])) (Lib.laidMet.reads hL (by simp[Rows.bookGoesOnRow])) (Lib.laidMet.reads hL (by simp[Rows.bookGoesOnRow]));have hW':=hW;obtain⟨p,q,hA0,hV,rfl,hfz,hnd⟩:=hW;have hA:DataW.TrodAll enc Tryz.prog W 0 (fun _=>true) true Tryz.f7.params.toList args.toList ds p:=hA0;rw[Tryz.params7]at hA hval;obtain⟨v0,vs0,d0,ds0,p0,q0,hargs,rfl,rfl,h0,r0⟩:=trodAll_cons hA;obtain⟨v1,vs1,d1,ds1,p1,q1,rfl,rfl,rfl,h1,r1⟩:=trodAll_cons r0;obtain⟨rfl,rfl,rfl⟩:=trodAll_nil r1;have hargs':args=#[v0,v1]:=by
  apply Array.ext';exact hargs
 subst hargs';have k0:=hval 0 _ v0 rfl rfl;have k1:=hval 1 _ v1 rfl rfl;obtain⟨rfl,rfl⟩:=trodVars_none hV;refine(ZgO v0 v1 W hg k0 h0 k1 h1).mono fun e W' ⟨he,hk⟩=>?_
 subst he;exact⟨_,rfl,Zex (tb:=4) laidP Zd5 fullP (by decide +kernel) rfl rfl rfl Tryz.underlying4 hW' hk⟩
end
section
open Go.RowKit
set_option maxRecDepth 100000
theorem bE0:(Rows.bookGoesOnRow.wf (OpenSpec.ofChange Rows.bookGoesOnSpec))=true:=by kernel_rfl
theorem bE1:(laidOutB Tryz.prog)=true:=laidP
theorem bE2:(mapsRowed Tryz.prog)=true:=Zd5
theorem bE3:(Tryz.f7.params.all (Tryz.prog.readableRec ·))=true:=by kernel_rfl
theorem bE4:(namedTie Tryz.prog Rows.bookGoesOnRow.named Rows.bookGoesOnSpec.vars)=true:=by kernel_rfl
theorem bE5:((Rows.bookGoesOnRow.stops==[]))=true:=by kernel_rfl
theorem bE6:((Tryz.prog.stops==[]))=true:=by kernel_rfl
theorem bE7:((Rows.bookGoesOnRow.knobs==[]))=true:=by kernel_rfl
theorem bE8:((Tryz.prog.stopKnobs==[]))=true:=by kernel_rfl
theorem bE9:((Rows.bookGoesOnRow.inPlace==Tryz.prog.inPlace 7))=true:=by kernel_rfl
theorem bE10:((Rows.bookGoesOnRow.unfollowed==Tryz.prog.unfollowed 7))=true:=by kernel_rfl
theorem bE11:((Rows.bookGoesOnRow.recurses==Tryz.prog.recurses 7))=true:=by kernel_rfl
theorem bE12:((Rows.bookGoesOnRow.named==Tryz.prog.varsNamed 7))=true:=by kernel_rfl
theorem bE13:((Rows.bookGoesOnRow.maps==(Tryz.f7.params.toList++Rows.bookGoesOnSpec.plain.varTypes Tryz.prog).any (Tryz.prog.mapsRec ·)))=true:=by kernel_rfl
theorem bE14:((Rows.bookGoesOnRow.ifaces==(Tryz.f7.params.toList++Rows.bookGoesOnSpec.plain.varTypes Tryz.prog).any (Tryz.prog.ifacesRec ·)))=true:=by kernel_rfl
theorem bE15:((Rows.bookGoesOnRow.mapsOut==Tryz.prog.mapsAmong Tryz.f7.resultTypes.toList))=true:=by kernel_rfl
theorem bE16:((Rows.bookGoesOnRow.loops==(Tryz.f7.params.toList++Rows.bookGoesOnSpec.plain.varTypes Tryz.prog).any (Tryz.prog.loopsFrom ·)))=true:=by kernel_rfl
theorem bE17:((Rows.bookGoesOnRow.wideKeys==(Tryz.f7.params.toList++Rows.bookGoesOnSpec.plain.varTypes Tryz.prog++Tryz.f7.resultTypes.toList).any (Tryz.prog.wideKeysFrom ·)))=true:=by kernel_rfl
theorem bE18:(Rows.bookGoesOnSpec.vars.all (Tryz.prog.varReadable ·))=true:=by kernel_rfl
theorem bE19:(Tryz.f7.resultTypes.all (fun t=>Tryz.prog.readableRec t&&decide (t<Tryz.prog.types.size)))=true:=by kernel_rfl
theorem bE20:((Rows.bookGoesOnRow.ifacesOut==Tryz.f7.resultTypes.toList.any (Tryz.prog.ifacesRec ·)))=true:=by kernel_rfl
theorem bE21:((Rows.bookGoesOnRow.loopsOut==Tryz.f7.resultTypes.toList.any (Tryz.prog.loopsFrom ·)))=true:=by kernel_rfl
theorem bE22:((Rows.bookGoesOnRow.plainKeys==Tryz.prog.plainKeys))=true:=by kernel_rfl
theorem bE23:(Rows.bookGoesOnRow.shortTexts.isNone)=true:=by kernel_rfl
theorem bE24:(Tryz.prog.stopsHeard)=true:=by kernel_rfl
theorem bE25:(Tryz.prog.mayEnter)=true:=by kernel_rfl
theorem bE26:((Rows.bookGoesOnRow.lifted==Tryz.prog.liftsFinal))=true:=by kernel_rfl
theorem bE27:((Tryz.prog.make==some Rows.bookGoesOnRow.make))=true:=by kernel_rfl
theorem bE28:((Rows.bookGoesOnRow.kinds==(if Rows.bookGoesOnRow.domain.isEmpty then[]else Tryz.f7.params.toList.map fun t=>match Tryz.prog.underlying t with|some (.int k)=>some k|_=>none)))=true:=by kernel_rfl
theorem bE29:((Rows.bookGoesOnRow.pinned==Rows.bookGoesOnRow.pinnedBy))=true:=by kernel_rfl
theorem bE30:((Rows.bookGoesOnRow.veiled==(Tryz.f7.params.toList++Rows.bookGoesOnSpec.plain.varTypes Tryz.prog++Tryz.f7.resultTypes.toList).any (Tryz.prog.veiledRec ·)))=true:=by kernel_rfl
theorem bE31:(Rows.bookGoesOnRow.veiledFits Tryz.prog Tryz.f7.params.toList (Tryz.f7.params.toList++Rows.bookGoesOnSpec.plain.varTypes Tryz.prog++Tryz.f7.resultTypes.toList))=true:=by kernel_rfl
theorem Zp3:joinedFacts Tryz.pinned.checked.prog 7 Tryz.f7 Rows.bookGoesOnSpec Rows.bookGoesOnRow=true:=
 Zb7 bE0 bE1 bE2 bE3 bE4 bE5 bE6 bE7 bE8 bE9 bE10 bE11 bE12 bE13 bE14 bE15 bE16 bE17 bE18 bE19 bE20 bE21 bE22 bE23 bE24 bE25 bE26 bE27 bE28 bE29 bE30 bE31
end
section
open Go.ChangeShapes Go.WideShapes Go.ChangeAt Go.RowKit
set_option maxRecDepth 100000
theorem Zp4 (os:Os)(started:os.Started)(H:Type)(enc:TypeId×Value→H):ReturnsInHanded Rows.bookGoesOnRow.assume Tryz.pinned.checked os 7 .any (Rows.bookGoesOnRow.pre enc Tryz.pinned.checked.prog Tryz.f7 (OpenSpec.ofChange Rows.bookGoesOnSpec)) (Rows.bookGoesOnSpec.post enc Tryz.pinned.checked.prog Tryz.f7 Rows.bookGoesOnRow.apart Rows.bookGoesOnRow.fresh Rows.bookGoesOnRow.handsOn Rows.bookGoesOnRow.again):=ZfC os started H enc
theorem ZgQ:Rows.bookGoesOnRow.holds Tryz.pinned (OpenSpec.ofChange Rows.bookGoesOnSpec):=
 OpenClaim.holds_of_wide 7 Tryz.f7 rfl rfl rfl rfl rfl rfl rfl ⟨rfl,rfl,rfl,rfl,rfl⟩ rfl rfl rfl rfl rfl (by kernel_rfl) Tryz.func7 Zp3
  (of_decide_eq_true (by kernel_rfl)) (by unfold Func.isWrapper;first|(rw[if_pos (by decide +kernel)];kernel_rfl)|(rw[if_neg (by decide +kernel)];exact⟨rfl,rfl⟩))
  (fun os started H enc _=>Zp4 os started H enc)
theorem bEWf:Rows.bookGoesOnRow.wfByText (OpenSpec.ofChange Rows.bookGoesOnSpec)=true:=by kernel_rfl
theorem ZtP : Tryz.pinned.checked.prog.mainIs = some (true, "429b1301e4e9e14836810d17c619d588cb37bbf0a235cc417304b7271646d6e2".toList) := by kernel_rfl
theorem Zsw:true=Tryz.pinned.checked.prog.looks []:=by kernel_rfl
theorem bEBy:false=Rows.bookGoesOnRow.goesBy Tryz.pinned.checked.prog:=by kernel_rfl
theorem Zsv : Tryz.prog.funcNamed "tensile/tensilelaw12.BookGoesOn" = some 7 := by kernel_rfl
theorem Zsu:([22,54].all fun u=>!Tryz.prog.wantsStandIn u)=true:=by kernel_rfl
theorem cardBookGoesOn:Rows.BookGoesOnCardSaid:=
 Claim7.holds_tied_plain_at .later [] [.data, .data, .data, .data, .sentinel, .sentinel, .pinned] true (true, "429b1301e4e9e14836810d17c619d588cb37bbf0a235cc417304b7271646d6e2") true
  ZgQ (fun _ h=>by cases h) bEWf (fun _ h=>by cases h) bookGoesOn_row_tie rfl ⟨rfl,rfl⟩ ZtP rfl
  (fun f fn hf hfn=>by
   obtain rfl:f=7:=Option.some.inj (Zsv.symm.trans hf) |>.symm;obtain rfl:fn=Tryz.f7:=(Option.some.inj (Tryz.func7.symm.trans hfn)).symm;exact⟨Zsw,fun j t ht=>by
    rw[Tryz.params7]at ht;have hm:t∈([22,54]:List TypeId):=by simpa using Array.mem_of_getElem? ht
    exact(show Tryz.prog.wantsStandIn t=false by simpa using Zuo.1 Zsu t hm)⟩)
  bEBy
end
end Go.Proofs.YteknmiggbkhdoaaGreatDoor
