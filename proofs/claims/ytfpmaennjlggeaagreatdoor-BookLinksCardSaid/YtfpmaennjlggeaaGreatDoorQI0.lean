/- The registrar's book: what the statement needs, joined and shortened by program. -/
import Derived.Test.YtfpmaennjlggeaaGreatDoorProg
import Derived.Lib.AtoiTie
import Derived.Test.YtfpmaennjlggeaaGreatDoorCards
import Derived.Test.YtfpmaennjlggeaaGreatDoorTie
import Derived.SevenTiedAt
import Derived.Test.YtfpmaennjlggeaaGreatDoorP0
import Derived.Test.YtfpmaennjlggeaaGreatDoorP1
import Derived.Test.YtfpmaennjlggeaaGreatDoorP2
import Derived.Test.YtfpmaennjlggeaaGreatDoorP3
import Derived.Test.YtfpmaennjlggeaaGreatDoorP4
set_option linter.unusedSimpArgs false
set_option linter.unusedVariables false
namespace Go.Proofs.YtfpmaennjlggeaaGreatDoor
section
open Go.RowKit
set_option maxRecDepth 100000
noncomputable section
def L18:LFn :=⟨80,S [O 2 (.mov (.c (.str ⟨#[]⟩))),O 3 (.mov (.c E0)),O 4 (.mov Bf)] (S [O 5 (.mov (.c E0))] (S [OM 6 0] (.seq (S [OM 7 0] (.block 0 (.loop (.seq (S [Om 13 7,Om 14 0,O 15 (.x (.slen (.t 14))),Ob 16 .leq 13 15] (Ce 16 0)) (.seq (.block 1 (S [Om 19 7,Om 20 0,O 21 (.x (.slen (.t 20))),Ob 22 .eql 19 21,Om 23 22,G 24 23 false (M 0),G 25 23 false (M 7),G 26 23 false (.x (.sidx (.t 24) (.t 25))),G 27 23 false (.bin false .eql (.t 26) (.c (.int .u8 (32)))),O 28 (.pick (.t 23) Bt (.t 27))] (Cd 28 (S [Om 29 5,Om 30 0,Om 31 6,Om 32 7,O 33 (.x (.ssl (.t 30) (some (.t 31)) (some (.t 32)))),O 34 (.bslice 9 1 [.t 33]),O 35 (.app 9 1 16 (.t 29) (.t 34)),Om 5 35] (.region [Om 36 7,Oc 37 .add 36 1,Om 6 37])) .skip))) (.region [Om 17 7,Oc 18 .add 17 1,Om 7 18])))))) (S [OM 8 (-1)] (.seq (S [Om 38 5,O 39 (.ia 1 none (.t 38) (I 0)),Ol 40 1 39] (.block 2 (S [O 42 (.x (.eqv false ⟨false,[.str]⟩ (.t 40) (.c (.str ⟨#[99,101,114,116]⟩)))),Om 41 42] (Cd 41 (.region [OM 8 7]) (.seq (S [O 44 (.x (.eqv false ⟨false,[.str]⟩ (.t 40) (.c (.str ⟨#[98,97,100]⟩)))),Om 43 44] (Cd 43 .skip (.region [O 45 (.x (.eqv false ⟨false,[.str]⟩ (.t 40) (.c (.str ⟨#[112,97,115,115]⟩)))),Om 43 45]))) (Cd 43 (.region [OM 8 1]) (.seq (S [O 47 (.x (.eqv false ⟨false,[.str]⟩ (.t 40) (.c (.str ⟨#[108,111,116]⟩)))),Om 46 47] (Cd 46 .skip (.region [O 48 (.x (.eqv false ⟨false,[.str]⟩ (.t 40) (.c (.str ⟨#[114,117,110]⟩)))),Om 46 48]))) (Cd 46 (.region [OM 8 3]) (S [O 50 (.x (.eqv false ⟨false,[.str]⟩ (.t 40) (.c (.str ⟨#[116,101,115,116]⟩)))),Om 49 50] (Cd 49 (.region [OM 8 4]) .skip)))))))))) (.seq (S [Om 51 5,On 52 51,Om 53 8,Oc 54 .add 53 1,Ob 55 .neq 52 54] (Cd 55 (S [O 2 (.mov (.c (.str ⟨#[]⟩))),O 3 (.mov (.c E0)),O 4 (.mov Bf)] .ret) .skip)) (S [O 9 (.mov (.c E0))] (.seq (S [OM 10 1] (.block 3 (.loop (.seq (S [Om 56 10,Om 57 5,On 58 57,Ob 59 .lss 56 58] (Ce 59 3)) (.seq (.block 4 (S [Om 63 5,Om 64 10,Oi 65 1 63 64,Ol 66 1 65,Ok 67 37 [.t 66],Om 62 67,Oe 68 62 0,Oe 69 62 1,Om 11 68,Om 12 69] (.seq (S [Om 70 12,Oo 71 70] (Cd 71 (S [O 2 (.mov (.c (.str ⟨#[]⟩))),O 3 (.mov (.c E0)),O 4 (.mov Bf)] .ret) .skip)) (.region [Om 72 9,Om 73 11,O 74 (.bslice 3 1 [.t 73]),O 75 (.app 3 1 8 (.t 72) (.t 74)),Om 9 75])))) (.region [Om 60 10,Oc 61 .add 60 1,Om 10 61])))))) (S [Om 76 5,O 77 (.ia 1 none (.t 76) (I 0)),Ol 78 1 77,Om 79 9,Om 2 78,Om 3 79,O 4 (.mov Bt)] .ret))))))))),[.tm 2,.tm 3,.tm 4]⟩
end
end
section
open Go.RowKit
set_option maxRecDepth 100000
noncomputable section
def L20:LFn :=⟨58,S [Ox 1 5 0,O 2 (.alloc (.agg [E0,E0]))] (S [O 7 (.build (.agg [Z0,.bool false,Z0,Z0]) [(1,(1,Bt))]),O 8 (.build (.agg [Z0,Z0]) [(0,(1,(I (-2)))),(1,(1,(I 2)))]),O 9 (.build (.agg [Z0,.bool false,Z0,Z0]) [(1,(1,Bt)),(2,(2,(.t 8)))]),O 10 (.build (.agg [Z0,.bool false,Z0,Z0]) [(0,(1,(I 1)))]),O 11 (.build (.agg [Z0,.bool false,Z0,Z0]) [(0,(1,(I 1)))]),O 12 (.build (.agg [Z0,.bool false,Z0,Z0]) []),O 13 (.build (.agg [Z0,.bool false,Z0,Z0]) []),O 14 (.bslice 116 4 [.t 7,.t 9,.t 10,.t 11,.t 12,.t 13]),O 15 (.build (.agg [E0,E0]) [(0,(1,(.t 14)))]),O 3 (.alloc (.agg [E0,E0])),Ns 2 3 15] (.seq (S [OM 4 0] (.block 0 (.loop (.seq (S [Om 16 4,Oa 17 0 1,Ol 18 1 17,On 19 18,Ob 20 .lss 16 19] (Ce 20 0)) (.seq (.block 1 (S [O 5 (.mov Bf)] (.seq (S [OM 6 0] (.block 2 (.loop (.seq (S [Om 23 6,Oa 24 1 1,Ol 25 1 24,On 26 25,Ob 27 .lss 23 26] (Ce 27 2)) (.seq (.block 3 (.region [Of 30 (M 5),Of 31 (M 30),Gf 32 31 false (.fa 1 (.t 1)),Gf 34 31 false (M 6),Gf 37 31 false (.fa 0 (.t 1)),Gf 39 31 false (M 4),Gf 33 31 false (.load false 1 (.t 32)),Gf 35 31 false (.ia 1 none (.t 33) (.t 34)),Gf 36 31 false (.load false 1 (.t 35)),Gf 38 31 false (.load false 1 (.t 37)),Gf 40 31 false (.ia 7 none (.t 38) (.t 39)),Gf 41 31 false (.fa 0 (.t 40)),Gf 42 31 false (.load false 1 (.t 41)),G 43 31 false (.bin false .eql (.t 36) (.t 42)),O 44 (.pick (.t 31) Bt (.t 43)),Om 5 44])) (.region [Om 28 6,Oc 29 .add 28 1,Om 6 29])))))) (S [Om 45 5,Oo 46 45] (Cd 46 (.region [Of 47 (.fa 1 (.t 3)),Of 49 (.fa 0 (.t 1)),Of 51 (M 4),Of 48 (.load false 1 (.t 47)),Of 50 (.load false 1 (.t 49)),Of 52 (.ia 7 none (.t 50) (.t 51)),Of 53 (.load true 7 (.t 52)),Of 54 (.bslice 47 7 [.t 53]),O 55 (.app 47 7 56 (.t 48) (.t 54)),Oa 56 1 3,Ns 1 56 55]) .skip))))) (.region [Om 21 4,Oc 22 .add 21 1,Om 4 22])))))) (S [Ot 57 2 3,Ns 2 2 57] .ret))),[.cell 2 true 2]⟩
end
end
section
open Go.RowKit
set_option maxRecDepth 100000
noncomputable section
def L5:LFn :=⟨115,S [O 4 (.mov Bf)] (.seq (S [Om 16 0,Ok 17 8 [.t 16],Oo 18 17,Om 19 18,G 20 19 false (M 0),G 21 19 false (.call (C 9) [.t 20]),G 22 19 false (.not (.t 21)),O 23 (.pick (.t 19) Bt (.t 22)),Om 24 23,G 25 24 false (M 0),G 26 24 false (.len none (.t 25)),G 27 24 false (.bin false .eql (.t 26) (I 0)),O 28 (.pick (.t 24) Bt (.t 27))] (Cd 28 (S [Ok 29 10 [],Om 4 29] .ret) .skip)) (S [Om 30 1,O 31 (.conv .i64 (.t 30)),Om 32 0,On 33 32,Ob 34 .rem 31 33,Om 5 34] (S [Om 36 0,Om 37 5,Oi 38 1 36 37,Ol 39 1 38,Ok 40 18 [.t 39],Om 35 40,Oe 41 35 0,Oe 42 35 1,Oe 43 35 2,Om 6 41,Om 7 42,Om 8 43] (.seq (S [Om 44 8,Oo 45 44,Om 46 45,G 47 46 false (M 6),G 48 46 false (.x (.eqv true ⟨false,[.str]⟩ (.t 47) (.c (.str ⟨#[116,101,115,116]⟩)))),O 49 (.pick (.t 46) Bt (.t 48))] (Cd 49 (S [Ok 50 10 [],Om 4 50] .ret) .skip)) (S [Om 52 0,Om 53 5,Oc 54 .add 53 1,O 55 (.slc 1 none (.t 52) none (some (.t 54)) none),Ok 56 14 [.t 55],Ok 57 15 [.t 56],Om 51 57,Oe 58 51 0,Oe 59 51 1,Oe 60 51 2,O 9 (.alloc (.agg [E0,E0,E0,E0,E0])),Ns 5 9 58,Om 10 59,Om 11 60] (.seq (S [Om 61 11,Oc 62 .neq 61 0,Om 63 62,G 64 63 false (M 10),G 65 63 false (.len none (.t 64)),G 66 63 false (M 5),G 67 63 false (.bin false .add (.t 66) (I 1)),G 68 63 false (.bin false .neq (.t 65) (.t 67)),O 69 (.pick (.t 63) Bt (.t 68))] (Cd 69 (S [O 4 (.mov Bf)] .ret) .skip)) (.seq (S [Om 70 10,Om 71 5,Oi 72 1 70 71,Ol 73 1 72,Oc 74 .neq 73 0] (Cd 74 (S [Ok 75 10 [],Om 4 75] .ret) .skip)) (.seq (S [Oa 76 3 9,Ol 77 1 76,On 78 77,Oc 79 .eql 78 0] (Cd 79 (S [O 4 (.mov Bf)] .ret) .skip)) (S [Of 82 (.fa 3 (.t 9)),Of 84 (.fa 3 (.t 9)),Of 81 (.load true 5 (.t 9)),Of 83 (.load false 1 (.t 82)),Of 85 (.load false 1 (.t 84)),Of 86 (.len none (.t 85)),Of 87 (.bin false .sub (.t 86) (I 1)),Of 88 (.ia 4 none (.t 83) (.t 87)),Of 89 (.load true 4 (.t 88)),Ok 90 17 [.t 81,.t 89],Om 80 90,Oe 91 80 0,Oe 92 80 1,Om 12 91,Om 13 92] (S [Ot 94 5 9,Ok 95 20 [.t 94],Ok 96 19 [.t 95],Om 93 96,Oe 97 93 0,Oe 98 93 1,Om 14 97,Om 15 98] (S [Om 99 12,Om 100 99,G 101 100 true (M 13),O 102 (.pick (.t 100) (.t 101) Bf),Om 103 102,G 104 103 true (M 15),G 105 103 true (.bin false .eql (.t 104) (I 7)),O 106 (.pick (.t 103) (.t 105) Bf),Om 107 106,G 108 107 true (M 14),G 109 107 true (.len none (.t 108)),G 110 107 true (.bin false .eql (.t 109) (I 0)),O 111 (.pick (.t 107) (.t 110) Bf),Om 112 111,G 113 112 true (.call (C 10) []),O 114 (.pick (.t 112) (.t 113) Bf),Om 4 114] .ret))))))))))),[.tm 4]⟩
def L37:LFn :=⟨65,S [OM 2 0,O 3 (.mov Bf)] (S [O 4 (.mov Bf),OM 5 0] (.seq (S [Om 7 0,O 8 (.x (.slen (.t 7))),Oc 9 .gtr 8 0,Om 10 9,G 11 10 true (M 0),G 12 10 true (.x (.sidx (.t 11) (I 0))),G 13 10 true (.bin false .eql (.t 12) (.c (.int .u8 (45)))),O 14 (.pick (.t 10) (.t 13) Bf)] (Cd 14 (.region [O 4 (.mov Bt),OM 5 1]) .skip)) (.seq (S [Om 15 0,O 16 (.x (.slen (.t 15))),Om 17 5,Ob 18 .eql 16 17,Om 19 18,G 20 19 false (M 0),G 21 19 false (.x (.slen (.t 20))),G 22 19 false (M 5),G 23 19 false (.bin false .sub (.t 21) (.t 22)),G 24 19 false (.bin false .gtr (.t 23) (I 9)),O 25 (.pick (.t 19) Bt (.t 24)),Om 26 25,G 27 26 false (M 0),G 28 26 false (M 5),G 29 26 false (.x (.sidx (.t 27) (.t 28))),G 30 26 false (.bin false .eql (.t 29) (.c (.int .u8 (48)))),G 31 26 false (M 30),G 32 31 true (M 0),G 33 31 true (.x (.slen (.t 32))),G 34 31 true (.bin false .gtr (.t 33) (I 1)),G 35 26 false (.pick (.t 31) (.t 34) Bf),O 36 (.pick (.t 26) Bt (.t 35))] (Cd 36 (S [OM 2 0,O 3 (.mov Bf)] .ret) .skip)) (S [OM 6 0] (.seq (.block 0 (.loop (.seq (S [Om 37 5,Om 38 0,O 39 (.x (.slen (.t 38))),Ob 40 .lss 37 39] (Ce 40 0)) (.seq (.block 1 (.seq (S [Om 43 0,Om 44 5,O 45 (.x (.sidx (.t 43) (.t 44))),O 46 (.bin false .lss (.t 45) (.c (.int .u8 (48)))),Om 47 46,G 48 47 false (M 0),G 49 47 false (M 5),G 50 47 false (.x (.sidx (.t 48) (.t 49))),G 51 47 false (.bin false .gtr (.t 50) (.c (.int .u8 (57)))),O 52 (.pick (.t 47) Bt (.t 51))] (Cd 52 (S [OM 2 0,O 3 (.mov Bf)] .ret) .skip)) (.region [Om 53 6,O 54 (.bin false .mul (I 10) (.t 53)),Om 55 0,Om 56 5,O 57 (.x (.sidx (.t 55) (.t 56))),O 58 (.bin false .sub (.t 57) (.c (.int .u8 (48)))),O 59 (.conv .i64 (.t 58)),Ob 60 .add 54 59,Om 6 60]))) (.region [Om 41 5,Oc 42 .add 41 1,Om 5 42]))))) (.seq (S [Om 61 4] (Cd 61 (.region [Om 62 6,O 63 (.neg (.t 62)),Om 6 63]) .skip)) (S [Om 64 6,Om 2 64,O 3 (.mov Bt)] .ret))))))),[.tm 2,.tm 3]⟩
end
end
section
open Go.RowKit
set_option maxRecDepth 100000
noncomputable section
def L17:LFn :=⟨26,S [Ox 2 5 0,Ox 3 4 1,O 4 (.mov Bf),O 5 (.mov Bf)] (S [Of 11 (.fa 1 (.t 3)),Of 13 (.fa 2 (.t 3)),Of 9 (.load true 5 (.t 2)),Of 12 (.load false 1 (.t 11)),Of 14 (.load false 1 (.t 13)),Of 10 (.call (C 20) [.t 9]),Ok 15 36 [.t 10,.t 12,.t 14],Om 8 15,Oe 16 8 0,Oe 17 8 1,Om 6 16,Om 7 17] (S [Om 18 7,Oc 19 .eql 18 0,Om 20 7,Oc 21 .eql 20 0,Om 22 21,G 23 22 false (M 7),G 24 22 false (.bin false .eql (.t 23) (I 10)),O 25 (.pick (.t 22) Bt (.t 24)),Om 4 19,Om 5 25] .ret)),[.tm 4,.tm 5]⟩
end
end
section
open Go.RowKit
set_option maxRecDepth 10000
attribute [local simp] AS.exp expG Box.ren AV.map AV.mapL Zaw noRet Site.isRet Box.allS AV.allS AV.allSL retB dropL AS.adds renL outG outOk Zau inG fnOf lookA Zww
attribute [local simp] Box.purge Site.isLoc
attribute [local simp] retFz frzL AS.frz AV.frz AV.frzL Box.frz AS.tidy AS.frzC frzsL retOk renB toLoc
theorem Zgf {s:ByteArray}{k:Nat}{b:UInt8}(h:s.data.toList[k]?=some b):sAt s (k:Int)=some b:=by
 unfold sAt;rw[ZwO]at h;obtain⟨hl,he⟩:=Zwr.1 h;have hk:k<s.size:=hl;rw[if_pos (by omega),ZwS,getElem?_pos s k hk];exact congrArg some he
end
section
open Go.RowKit
set_option maxRecDepth 10000
theorem Zfb {b:Bk}(hb:b.ok){item day:Int}(h0:0≤item)(h1:item<b.items.length)(h2:0≤day)(h3:day≤1000):b.askM item day=if b.isHeld item day=true then 0 else 10:=by
 unfold Bk.askM Bk.hasItem inB;rw[Bk.ok_iff.2 hb,decide_eq_true h0,decide_eq_true (show item≤(b.items.length:Int)-1 by omega),decide_eq_true h2,decide_eq_true h3];rfl
attribute [local irreducible] Bk.held Bk.nums Bk.heldU Bk.span
section
variable {b b':Bk}
end
end
section
open Go.RowKit
set_option maxRecDepth 10000
section
attribute [local irreducible] Bk.suspM earlE Bk.contra Bk.held Bk.span Bk.nums
end
section
attribute [local irreducible] earlE Bk.contra Bk.held Bk.span Bk.nums Bk.fault
theorem Zs7 {b:Bk}(hb:b.ok)(h:b.contra=false):b.suspM=([],7):=by
 have hf:=Bk.ok_iff.2 hb;unfold Bk.suspM;rw[if_pos hf,h,if_neg (by decide)]
end
end
section
open Go.RowKit
set_option maxRecDepth 10000
section
attribute [local irreducible] Bk.suspM earlE Bk.contra Bk.held Bk.span Bk.nums Bk.isHeld
theorem Zbi {b:Bk}{i d:Int}:(b.bestM i d).2=b.askM i d:=by
 unfold Bk.bestM;split
 ·rename_i h;rw[h]
  split<;>rfl
 ·rfl
theorem Zex {l:List Ct}{bad:List Int}(hl:Bk.ok ⟨ZaE,l⟩){i d:Int}(h0:0≤i)(h1:i≤5)(h2:0≤d)(h3:d≤1000):
  ((Zaj l bad).bestM i d).2=if stM l bad i d=true then 0 else 10:=by
 have hb:=Zbf (bad:=bad) hl;have h:=Zfb hb h0 (show i<((Zaj l bad).items.length:Int) by show i<(6:Int);omega) h2 h3;have hs:stM l bad i d=decide ((Zaj l bad).askM i d=0):=by unfold stM;rw[Zbi]
 rw[Zbi,hs,h]
 split<;>rfl
end
end
section
open Go.RowKit
def magR (len:Nat)(ds:List UInt8):Option Nat:=if ds.length=0∨9<ds.length∨(ds.head?=some 48∧1<len)then none else Lib.decFrom 0 ds
def numR (s:ByteArray):Option Int:=match s.data.toList with
 |45::r=>(magR (r.length+1) r).map fun(n:Nat)=>-(n:Int)
 |l=>(magR l.length l).map fun(n:Nat)=>(n:Int)
theorem ZaM {b:UInt8}:∀{l:List UInt8} {acc:Nat},Lib.decFrom acc (l++[b])=(Lib.decFrom acc l).bind fun n=>(Lib.digitVal b).map fun d=>n*10+d
 |[],acc=>by
  simp only[List.nil_append,Lib.decFrom,ZwE];cases Lib.digitVal b<;>rfl
 |x::l,acc=>by
  simp only[ZwI,Lib.decFrom];cases Lib.digitVal x with
  |none=>rfl
  |some d=>exact ZaM (l:=l)
theorem Zdd {d:Nat}(h:d<10):Lib.digitVal (UInt8.ofNat (48+d))=some d:=by
 unfold Lib.digitVal;have e:(UInt8.ofNat (48+d)).toNat=48+d:=by rw[UInt8.toNat_ofNat'];omega
 rw[e,if_pos (by omega)];congr 1;omega
theorem ZjC {b:UInt8}{d:Nat}(h:Lib.digitVal b=some d):d<10∧b=UInt8.ofNat (48+d):=by
 unfold Lib.digitVal at h;split at h
 ·rename_i hb;cases h;refine⟨by omega,UInt8.toNat_inj.1 ?_⟩;rw[UInt8.toNat_ofNat'];omega
 ·cases h
theorem ZaW {u:Nat}(h:u<10):Lib.decDigits u=[UInt8.ofNat (48+u)]:=Lib.decDigits_one h
theorem Zba {u:Nat}(h:¬u<10):Lib.decDigits u=Lib.decDigits (u / 10)++[UInt8.ofNat (48+u%10)]:=by
 conv=>lhs;rw[Lib.decDigits,dif_neg h]
theorem ZbO (u:Nat):Lib.decFrom 0 (Lib.decDigits u)=some u:=by
 induction u using Nat.strongRecOn with
 |_ u ih=>
  by_cases h:u<10
  ·rw[ZaW h];simp only[Lib.decFrom,Zdd h];congr 1;omega
  ·rw[Zba h,ZaM,ih (u / 10) (by omega),ZwE,Zdd (Nat.mod_lt _ (by decide)),Zwu];congr 1;omega
theorem ZbN (u:Nat):Lib.decDigits u≠[]:=by
 by_cases h:u<10
 ·rw[ZaW h];simp
 ·rw[Zba h];simp
theorem ZiV (u:Nat):(Lib.decDigits u).head?=some 48→u=0:=by
 induction u using Nat.strongRecOn with
 |_ u ih=>
  intro hh;by_cases h:u<10
  ·rw[ZaW h]at hh;simp only[List.head?_cons,Option.some.injEq]at hh
   have:=congrArg UInt8.toNat hh
   rw[UInt8.toNat_ofNat']at this;have e:(48:UInt8).toNat=48:=rfl;omega
  ·rw[Zba h]at hh;have h2:(Lib.decDigits (u / 10)++[UInt8.ofNat (48+u%10)]).head?=(Lib.decDigits (u / 10)).head?:=by
    cases hd:Lib.decDigits (u / 10)with
    |nil=>exact absurd hd (ZbN _)
    |cons c t=>rfl
   rw[h2]at hh
   have:=ih (u / 10) (by omega) hh
   omega
theorem canon:∀(k:Nat) (ds:List UInt8) (n:Nat),ds.length≤k→Lib.decFrom 0 ds=some n→ds≠[]→(ds.head?=some 48→ds.length=1)→ds=Lib.decDigits n
 |0,ds,n,hk,_,hne,_=>absurd (List.length_eq_zero_iff.1 (by omega)) hne
 |k+1,ds,n,hk,hf,hne,hh=>by
  obtain⟨l,b,rfl⟩:∃l b,ds=l++[b]:=⟨ds.dropLast,ds.getLast hne,(List.dropLast_concat_getLast hne).symm⟩;rw[ZaM]at hf;rw[Zv7,Zw2]at hk;cases hl:Lib.decFrom 0 l with
  |none=>rw[hl]at hf;cases hf
  |some v=>
   rw[hl,ZwE]at hf;obtain⟨d,hd,rfl⟩:=Zv4.1 hf;obtain⟨hd1,rfl⟩:=ZjC hd;by_cases hnil:l=[]
   ·subst hnil;cases hl;rw[Nat.zero_mul,ZwC,ZaW hd1];rfl
   ·have hhl:l.head?≠some 48:=fun e=>by
     have h1:(l++[UInt8.ofNat (48+d)]).head?=some 48:=by
      cases l with
      |nil=>exact absurd rfl hnil
      |cons c t=>exact e
     have h2:=hh h1;rw[Zv7,Zw2]at h2;exact hnil (List.length_eq_zero_iff.1 (by omega))
    have hcl:=canon k l v (by omega) hl hnil (fun e=>absurd e hhl);have hv:v≠0:=fun e=>by
     subst e;rw[hcl]at hhl;exact hhl (by rw[ZaW (by decide)];rfl)
    rw[Zba (by omega),show(v*10+d) / 10=v by omega,show(v*10+d)%10=d by omega,←hcl]
theorem ZeP {len:Nat}{ds:List UInt8}{n:Nat}(hlen:ds.length≤len)(h:magR len ds=some n):ds=Lib.decDigits n∧ds.length≤9∧(1<len→ds.head?≠some 48):=by
 unfold magR at h;split at h
 ·cases h
 ·rename_i hc;have h1:ds.length≠0:=fun e=>hc (.inl e)
  have h2:ds.length≤9:=Nat.le_of_not_lt fun e=>hc (.inr (.inl e))
  have h3:1<len→ds.head?≠some 48:=fun hl e=>hc (.inr (.inr ⟨e,hl⟩))
  refine⟨canon ds.length ds n (Zv5 _) h (fun e=>h1 (by rw[e];rfl)) (fun e=>?_),h2,h3⟩;by_cases hl:1<len
  ·exact absurd e (h3 hl)
  ·omega
theorem Zgx {len u:Nat}(hlen:len=1→u<10)(h:(Lib.decDigits u).length≤9)(h0:1<len→u≠0∨len=(Lib.decDigits u).length):magR len (Lib.decDigits u)=some u:=by
 unfold magR;rw[if_neg,ZbO];rintro(e|e|⟨e1,e2⟩)
 ·exact ZbN u (List.length_eq_zero_iff.1 e)
 ·omega
 ·have:=ZiV u e1
  subst this;rcases h0 e2 with h|h
  ·exact h rfl
  ·rw[h,ZaW (by decide)]at e2;exact absurd e2 (by decide)
theorem Zdn (k:Nat)(h:(Lib.decDigits k).length≤9):Lib.atoiAll (Lib.decDigits k)=.ok (k:Int):=by
 rw[Lib.atoiAll_short _ (by omega)];have hno:=ZdF k;have hf:=ZbO k;have hne:=ZbN k;cases hd:Lib.decDigits k with
 |nil=>exact absurd hd hne
 |cons c r=>
  rw[hd]at hf;have h45:c≠45:=hno c (by rw[hd];exact Zwz ..);have h43:c≠43:=fun e=>by
   subst e;simp only[Lib.decFrom]at hf
   have:Lib.digitVal 43=none:=by decide
   rw[this]at hf;cases hf
  have e45:(c==45)=false:=by simpa using h45
  have e43:(c==43)=false:=by simpa using h43
  simp only[Lib.atoi,e45,e43,Lib.decNat,List.isEmpty_cons,ZwP,if_false,hf,Zwu];rfl
theorem Zi1 (k:Nat)(h:(Lib.decDigits k).length≤9):Lib.atoiAll (45::Lib.decDigits k)=.ok (-(k:Int)):=by
 rw[Lib.atoiAll_short _ (by rw[Zws];omega)];have hf:=ZbO k;have hne:=ZbN k;have he:(Lib.decDigits k).isEmpty=false:=by
  cases hd:Lib.decDigits k with
  |nil=>exact absurd hd hne
  |cons c r=>rfl
 simp only[Lib.atoi,Lib.decNat,he,ZwP,if_false,hf,Zwu];rfl
theorem Zcc (k:Nat):Lib.trimPrefix (Lib.decDigits k) [45]=Lib.decDigits k:=by
 have hno:=ZdF k;cases hd:Lib.decDigits k with
 |nil=>rfl
 |cons c r=>
  have hc:c≠45:=hno c (by rw[hd];exact Zwz ..);simp[Lib.trimPrefix,Lib.hasPrefix,hc]
  try exact fun e=>absurd e.symm hc
theorem Zeu (l:List UInt8):Lib.trimPrefix (45::l) [45]=l:=by simp[Lib.trimPrefix,Lib.hasPrefix]
theorem Zdk {s:ByteArray}{v:Int}(h1:s.data.toList=Lib.itoa v)(h2:Lib.atoiAll (Lib.itoa v)=.ok v)(h3:(Lib.trimPrefix (Lib.itoa v) [45]).length≤9):numB s=some v:=by
 unfold numB;rw[h1,h2];have e:itoaB v=s:=by
  unfold itoaB;rw[←h1]
 have e2:(trimB s ⟨#[45]⟩).size≤9:=by
  show(Lib.trimPrefix s.data.toList [45]).length≤9;rw[h1];exact h3
 exact if_pos ⟨e,e2⟩
theorem ZoE {s:ByteArray}{v:Int}(h:numR s=some v):numB s=some v:=by
 unfold numR at h;split at h
 ·rename_i r hr;obtain⟨n,hn,rfl⟩:=Zv4.1 h;obtain⟨g1,g2,g3⟩:=ZeP (Nat.le_succ _) hn;have hn0:n≠0:=fun e=>by
   subst e
   have:r.length≠0:=fun e=>by
    unfold magR at hn;rw[if_pos (.inl e)]at hn;cases hn
   exact g3 (by omega) (by rw[g1,ZaW (by decide)];rfl)
  have hi:Lib.itoa (-(n:Int))=45::Lib.decDigits n:=Lib.itoa_neg n (by omega);rw[g1]at g2;exact Zdk (by rw[hi,hr,g1]) (by rw[hi];exact Zi1 n g2) (by rw[hi,Zeu];exact g2)
 ·rename_i l hl;obtain⟨n,hn,rfl⟩:=Zv4.1 h;obtain⟨g1,g2,_⟩:=ZeP (Zv5 _) hn;have hi:Lib.itoa (n:Int)=Lib.decDigits n:=Lib.itoa_nonneg n;have g2':=g2;rw[g1]at g2';exact Zdk (by rw[hi,←g1]) (by rw[hi];exact Zdn n g2') (by rw[hi,Zcc];exact g2')
theorem ZoF {s:ByteArray}{v:Int}(h:numB s=some v):numR s=some v:=by
 unfold numB at h;split at h
 ·split at h
  ·rename_i u _ hc;cases h;obtain⟨h1,h2⟩:=hc;have hs:s.data.toList=Lib.itoa v:=by rw[←h1];rfl
   have h3:(Lib.trimPrefix s.data.toList [45]).length≤9:=h2;rw[hs]at h3;unfold numR;rw[hs];by_cases hneg:v<0
   ·obtain⟨k,rfl⟩:∃k:Nat,v = -(k:Int):=⟨v.natAbs,by omega⟩;rw[Lib.itoa_neg k (by omega)]at h3 ⊢;rw[Zeu]at h3;show(magR ((Lib.decDigits k).length+1) (Lib.decDigits k)).map (fun(n:Nat)=>-(n:Int))=_;rw[Zgx (fun e=>absurd e (by have:=List.length_pos_iff.2 (ZbN k);omega)) h3 (fun _=>.inl (by omega))];rfl
   ·obtain⟨k,rfl⟩:∃k:Nat,v=(k:Int):=⟨v.toNat,by omega⟩;rw[Lib.itoa_nonneg]at h3 ⊢;rw[Zcc]at h3;have hm:=Zgx (len:=(Lib.decDigits k).length) (u:=k) (fun e=>by
     by_cases hk:k<10
     ·exact hk
     ·rw[Zba hk,Zv7,Zw2]at e
      have:=List.length_pos_iff.2 (ZbN (k / 10))
      omega) h3 (fun _=>.inr rfl)
    have hno:=ZdF k;cases hd:Lib.decDigits k with
    |nil=>exact absurd hd (ZbN k)
    |cons c r=>
     rw[hd]at hm;have hc:c≠45:=hno c (by rw[hd];exact Zwz ..);split
     ·rename_i r' e;exact absurd (List.cons.inj e).1 hc
     ·rw[hm];rfl
  ·cases h
 ·cases h
theorem ZoD (s:ByteArray):numR s=numB s:=by
 cases h:numR s with
 |some v=>exact(ZoE h).symm
 |none=>
  cases h2:numB s with
  |none=>rfl
  |some v=>rw[ZoF h2]at h;cases h
def Zar:List UInt8→List (List UInt8)
 |[]=>[[]]
 |c::r=>if c=32 then[]::Zar r else match Zar r with
  |h::t=>(c::h)::t
  |[]=>[[c]]
theorem Zat (c:UInt8)(r:List UInt8):Zar (c::r)=if c=32 then[]::Zar r else match Zar r with
  |h::t=>(c::h)::t
  |[]=>[[c]]:=rfl
theorem ZbJ:∀l:List UInt8,(Lib.index l [32] = -1∧Zar l=[l])∨∃i:Nat,Lib.index l [32]=(i:Int)∧i<l.length∧Zar l=l.take i::Zar (l.drop (i+1))
 |[]=>.inl ⟨by decide,rfl⟩
 |c::r=>by
  by_cases hc:c=32
  ·subst hc;refine .inr ⟨0,?_,by simp,?_⟩
   ·simp[Lib.index]
   ·simp[Zar]
  ·have hp:([32]:List UInt8).isPrefixOf (c::r)=false:=by
    simp[List.isPrefixOf];exact fun e=>absurd e.symm hc
   rcases ZbJ r with⟨h1,h2⟩|⟨i,h1,h2,h3⟩
   ·refine .inl ⟨?_,?_⟩
    ·unfold Lib.index;rw[hp,h1];rfl
    ·rw[Zat,if_neg hc,h2]
   ·refine .inr ⟨i+1,?_,by rw[Zws];omega,?_⟩
    ·unfold Lib.index;rw[hp,h1]
     have:((i:Int)==-1)=false:=by
      rw[beq_eq_false_iff_ne];omega
     rw[this];simp
    ·rw[Zat,if_neg hc,h3];rfl
theorem ZbF:∀(k:Nat) (l:List UInt8),Lib.count l [32]=k→Lib.splitK [32] 0 k l=Zar l
 |k,l,hk=>by
  rcases ZbJ l with⟨h1,h2⟩|⟨i,h1,h2,h3⟩
  ·have h0:k=0:=by rw[←hk];exact Lib.count_miss h1
   subst h0;rw[h2];rfl
  ·have hc:=Lib.count_hit (s:=l) (sub:=[32]) (by simp) h1;rw[hk]at hc;cases k with
   |zero=>omega
   |succ k=>
    have hk':Lib.count (l.drop (i+[32].length)) [32]=k:=by omega
    have ih:=ZbF k (l.drop (i+1)) hk';unfold Lib.splitK;rw[h1]
    have:((i:Int)==-1)=false:=by
     rw[beq_eq_false_iff_ne];omega
    rw[this,h3];simp only[ZwP,if_false,Nat.add_zero,Zw2,ZwS];rw[ih]
termination_by k=>k
theorem Zdj (s:ByteArray):(ZaF s blank).map (·.data.toList)=Zar s.data.toList:=by
 unfold ZaF;rw[Lib.splitB_data];exact ZbF _ _ rfl
theorem ZaS:∀{l r:List UInt8},(∀c∈l,c≠32)→Zar (l++32::r)=l::Zar r
 |[],r,_=>by
  rw[List.nil_append,Zat,if_pos rfl]
 |c::l,r,h=>by
  rw[ZwI,Zat,if_neg (h c (Zwz ..)),ZaS (fun x hx=>h x (ZwR _ hx))]
theorem ZaT:∀{l:List UInt8},(∀c∈l,c≠32)→Zar l=[l]
 |[],_=>rfl
 |c::l,h=>by
  rw[Zat,if_neg (h c (Zwz ..)),ZaT (fun x hx=>h x (ZwR _ hx))]
theorem Zbt {a b:ByteArray}(h:a.data.toList=b.data.toList):a=b:=ByteArray.ext (ZwL.1 h)
theorem ZaL:∀{l m:List ByteArray},l.map (·.data.toList)=m.map (·.data.toList)→l=m
 |[],[],_=>rfl
 |[],b::m,h=>by cases h
 |a::l,[],h=>by cases h
 |a::l,b::m,h=>by
  simp only[Zwd,List.cons.injEq]at h;rw[Zbt h.1,ZaL h.2]
end
section
open Go.RowKit
set_option maxRecDepth 10000
attribute [local irreducible] Bk.suspM earlE Bk.contra Bk.held Bk.span Bk.nums Bk.isHeld stM verdM
theorem Zs1 {st:Wk}{s:ByteArray}{nums:List Int}(hp:Zay s=some (190,nums))(h:(doB 408 st s).2=0):
  ∃t,(doB 408 st s).1={ st with tests:=st.tests++[t]}∧stM st.certs st.bad t.item t.day=true:=by
 unfold doB lineM at *;rw[hp]at h ⊢;dsimp only at h ⊢;unfold doW at h ⊢;rw[if_neg (by decide),if_neg (by decide),if_neg (by decide),if_pos rfl]at h ⊢;split at h
 ·rename_i a b c d;cases ht:testM (stM st.certs st.bad) (verdL st.certs st.bad st.tests) st.lots st.tests ⟨a,b,c,d⟩with
  |error e=>
   exfalso;rw[ht]at h;have h:e=0:=h;subst h;unfold testM at ht
   repeat' split at ht
   all_goals cases ht
  |ok l=>
   obtain⟨rfl,_,h2,_⟩:=Zh6 ht;exact⟨_,rfl,h2⟩
 ·cases h
end
section
open Go.RowKit
set_option maxRecDepth 10000
attribute [local simp] AS.exp expG Box.ren AV.map AV.mapL Zaw noRet Site.isRet Box.allS AV.allS AV.allSL retB dropL AS.adds renL outG outOk Zau inG fnOf lookA Zww
attribute [local simp] Box.purge Site.isLoc
attribute [local simp] retFz frzL AS.frz AV.frz AV.frzL Box.frz AS.tidy AS.frzC frzsL retOk renB toLoc
def ZaZ:List PV:=ZaE.map It.pv
def rgT (k:Nat):List (Nat×AV):=[(1,.ptr (.loc 1 0) 0),(2,.ptr (.loc 2 0) 0),(3,.ptr (.loc 3 0) 0),(4,.pv (.int .i64 (k:Int)))]
def rgX (w:Wk)(Y:List Ct):List (Site×Box):=[(.loc 55 0,.arr 47 7 (Y.map Ct.pv)),(.loc 14 0,.arr 116 4 ZaZ),(.loc 3 0,.cells [.vec (.loc 14 0) 4 0 6,.vec (.loc 55 0) 7 0 Y.length]),(.loc 1 0,.cells w.cells),(.loc 2 0,.cells [.pv (.emp (some true)),.pv (.emp (some true))])]
def rgS (w:Wk)(k:Nat):AS:=⟨rgT k,rgX w (goodC (w.certs.take k) w.bad)⟩
def rgJ (w:Wk)(Y:List Ct)(x:Ct)(k j:Nat):AS:=⟨(5,.pv (.bool (badP (w.bad.take j) x)))::(6,.pv (.int .i64 (j:Int)))::rgT k,rgX w Y⟩
theorem ZcG {bad:List Int}{j:Nat}{n:Int}{x:Ct}(h:bad[j]?=some n):badP (bad.take (j+1)) x=(badP (bad.take j) x||decide (n=x.num)):=by
 rw[ZwD,Zbx,Zwx,Zbx,Zwf,h];simp[eq_comm]
set_option maxHeartbeats 16000000 in
theorem ZbY (w:Wk)(hl:w.certs.length≤1000)(hb:w.bad.length≤1000):Gives Tryz.prog 20 [w.pv] (Zaj w.certs w.bad).pv:=by
 refine cFR [.loc 14 0,.loc 55 0] L20 ?_;intro R hR;simp[-getElem?_pos,L20,Wk.pv,ctsP,bdsP];refine Zae (fun m τ=>∃k:Nat,k≤w.certs.length∧m=w.certs.length-k∧τ=rgS w k) ⟨w.certs.length,rgS w 0,Sub.trans' (Sub.mk (by simp[rgS,rgT,rgX,AS.vecC]) (by simp[rgS,rgT,rgX,AS.vecC,Wk.cells,ctsP,bdsP,lotsP,ttsP,runsP,ZaZ,ZaE,It.pv,goodC])) (vecC 55 47 7 (s:=.loc 3 0) (cs:=[.vec (.loc 14 0) 4 0 6,.pv (.emp (some true))]) 1 rfl rfl (by decide)),0,by omega,rfl,rfl⟩ ?_;rintro J hJ m τ ⟨k,hk,rfl,rfl⟩;by_cases hlt:k<w.certs.length
 ·obtain⟨x,hx⟩:∃x,w.certs[k]?=some x:=⟨w.certs[k],ZvZ hlt⟩;have hg:(w.certs.map Ct.pv)[k]?=some (.agg [.int .i64 x.num,.int .i64 x.it,.int .i64 x.src,.int .i64 x.day,.int .i64 x.valid,.int .i64 x.diff.lo,.int .i64 x.diff.hi]):=by rw[Zv0,hx];rfl
  have hw:=wrapK (k:=k) (by omega);have hround:=hJ _ _ ⟨k+1,hlt,rfl,rfl⟩;have hmeas:w.certs.length-(k+1)<w.certs.length-k:=by omega
  have hnext:goodC (w.certs.take (k+1)) w.bad=goodC (w.certs.take k) w.bad++(if(!badP w.bad x)=true then[x]else[]):=by
   unfold goodC;rw[Zwf,hx,ZwM];congr 1;simp only[Option.toList,ZwJ,List.filter_nil]
  have hpl:(goodC (w.certs.take k) w.bad).length≤1000:=Zwh (ZwN _ _) (by rw[Zv8];omega);unfold rgS at hround ⊢;rw[hnext]at hround;clear hJ hnext;generalize goodC (w.certs.take k) w.bad=Y at *;simp[-getElem?_pos,-List.getElem?_map,rgT,rgX,Wk.cells,ctsP,bdsP,hlt,hg,nble,nblt,hw];refine Zae (fun m τ=>∃j:Nat,j≤w.bad.length∧m=w.bad.length-j∧τ=rgJ w Y x k j) ⟨w.bad.length,rgJ w Y x k 0,Sub.mk (by simp[rgJ,rgT,badP]) (by simp[rgJ,rgX,Wk.cells]),0,by omega,rfl,rfl⟩ ?_;rintro J2 hJ2 m2 τ2 ⟨j,hj,rfl,rfl⟩;by_cases hjl:j<w.bad.length
  ·obtain⟨n,hn⟩:∃n,w.bad[j]?=some n:=⟨w.bad[j],ZvZ hjl⟩;have hgn:(w.bad.map iP)[j]?=some (.int .i64 n):=by rw[Zv0,hn];rfl
   have hwj:=wrapK (k:=j) (by omega);have hr2:=hJ2 _ _ ⟨j+1,hjl,rfl,rfl⟩;have hm2:w.bad.length-(j+1)<w.bad.length-j:=by omega
   unfold rgJ at hr2 ⊢;rw[ZcG hn]at hr2;clear hJ2;generalize badP (w.bad.take j) x=q at *;cases q with
   |true=>
    simp[-getElem?_pos,-List.getElem?_map,rgT,rgX,Wk.cells,ctsP,bdsP,hjl,hgn,nble,nblt,hwj];exact⟨_,_,hm2,Sub.mk (by simp[rgT]) (by simp[rgX,Wk.cells]),hr2⟩
   |false=>
    simp[-getElem?_pos,-List.getElem?_map,rgT,rgX,Wk.cells,ctsP,bdsP,hjl,hgn,nble,nblt,hwj,hlt,hg];exact⟨_,_,hm2,Sub.mk (by simp[rgT]) (by simp[rgX,Wk.cells]),hr2⟩
  have he:j=w.bad.length:=by omega
  subst he;clear hJ2 hjl hj;unfold rgJ;rw[Zwm];have hY:(Y.map Ct.pv).take Y.length=Y.map Ct.pv:=Zv9 (by simp);have hY6:Y.length≤999999:=by omega
  cases hbp:badP w.bad x with
  |true=>
   rw[hbp,if_neg (by simp),Zwn]at hround;simp[-getElem?_pos,-List.getElem?_map,rgT,rgX,Wk.cells,ctsP,bdsP,hw];exact⟨_,_,hmeas,Sub.mk (by simp[rgT]) (by simp[rgX,Wk.cells]),hround⟩
  |false=>
   rw[hbp,if_pos (show(!false)=true from rfl)]at hround;simp[-getElem?_pos,-List.getElem?_map,rgT,rgX,Wk.cells,ctsP,bdsP,hw,hlt,hg,nble,nblt,hY,hY6];exact⟨_,_,hmeas,Sub.mk (by simp[rgT]) (by simp[rgX,Wk.cells,Ct.pv]),hround⟩
 have he:k=w.certs.length:=by omega
 subst he;clear hJ;unfold rgS;rw[Zwm];have hwp:(Zaj w.certs w.bad).pv=.agg [.lst false 4 ZaZ,.lst false 7 ((goodC w.certs w.bad).map Ct.pv)]:=rfl;rw[hwp]at hR;generalize goodC w.certs w.bad=Z at *;have hmZ:(Z.map Ct.pv).take Z.length=Z.map Ct.pv:=Zv9 (by simp);have hh:ZaZ.length=6:=rfl;have hh2:ZaZ.take 6=ZaZ:=rfl;simp[-getElem?_pos,-List.getElem?_map,rgT,rgX,Wk.cells,ctsP,bdsP,hmZ,hh,hh2];rw[←hR];exact⟨rfl,rfl⟩
theorem ZbZ {l:List Ct}{bad:List Int}(hl:l.length≤1000):(Zaj l bad).certs.length≤1000:=Zwh (ZwN _ _) hl
def stE (e:Int):PV:=.tup [.bool (decide (e=0)),.bool (decide (e=0)||decide (e=10))]
theorem ZbH (w:Wk)(hl:w.certs.length≤1000)(hb:w.bad.length≤1000)(lot item day rd:Int):Gives Tryz.prog 17 [w.pv,.agg [.int .i64 lot,.int .i64 item,.int .i64 day,.int .i64 rd]] (stE ((Zaj w.certs w.bad).bestM item day).2):=by
 have hrc:=ZbY w hl hb;have hbc:=Zkv (Zaj w.certs w.bad) (show ZaE.length≤1000 by decide) (ZbZ hl) item day;refine cSR L17 ?_;intro R hR;obtain⟨W,hW⟩:∃z,z=w.pv:=⟨_,rfl⟩;rw[←hW]at hrc ⊢;obtain⟨B,hB⟩:∃z,z=(Zaj w.certs w.bad).pv:=⟨_,rfl⟩;rw[←hB]at hrc hbc;generalize(Zaj w.certs w.bad).bestM item day=b at *;obtain⟨l,e⟩:=b;have hwc:W=.agg [.lst false 7 (w.certs.map Ct.pv),.lst false 1 (w.bad.map iP),.lst false 4 (w.lots.map Lt.pv),.lst false 4 (w.tests.map Tt.pv),.lst false 3 (w.runs.map Qn.Rq.pv)]:=hW;rw[hwc]at hrc ⊢;simp[-getElem?_pos,L17];refine cQ [] [_] hrc ?_;simp[-getElem?_pos,frzsL];refine .inl (cQ [] [B,.int .i64 item,.int .i64 day] hbc ?_);simp[-getElem?_pos,lstE,-decide_eq_true_eq,-decide_eq_false_iff_not];cases h0:decide (e=0)
 ·simp[-getElem?_pos,-decide_eq_true_eq,-decide_eq_false_iff_not,h0,←hR,stE]
 ·simp[-getElem?_pos,-decide_eq_true_eq,-decide_eq_false_iff_not,h0,←hR,stE]
def nuE:Option Int→PV
 |some v=>.tup [.int .i64 v,.bool true]
 |none=>.tup [.int .i64 0,.bool false]
theorem Zgn (s:ByteArray):∃(neg:Bool) (a:Nat) (ds:List UInt8),((neg=true∧a=1∧sAt s 0=some 45∧0<s.size)∨(neg=false∧a=0∧(s.size=0∨∃b,sAt s 0=some b∧¬(b.toNat:Int)=45∧0<s.size)))∧s.data.toList.drop a=ds∧s.size=ds.length+a∧numR s=(magR s.size ds).map fun(n:Nat)=>if neg=true then -(n:Int)else(n:Int):=by
 have hz:s.size=s.data.toList.length:=by rw[Zwt];rfl
 unfold numR;cases hl:s.data.toList with
 |nil=>
  refine⟨false,0,[],.inr ⟨rfl,rfl,.inl (by rw[hz,hl];rfl)⟩,rfl,by rw[hz,hl];rfl,?_⟩;rw[hz,hl];rfl
 |cons b r=>
  have h0:sAt s ((0:Nat):Int)=some b:=Zgf (by rw[hl];rfl);have hp:0<s.size:=by rw[hz,hl];simp
  by_cases hb:b=45
  ·subst hb;refine⟨true,1,r,.inl ⟨rfl,rfl,h0,hp⟩,rfl,by rw[hz,hl];rfl,?_⟩;rw[hz,hl];rfl
  ·refine⟨false,0,b::r,.inr ⟨rfl,rfl,.inr ⟨b,h0,fun h=>hb (UInt8.toNat_inj.1 ?_),hp⟩⟩,rfl,by rw[hz,hl];rfl,?_⟩
   ·have:(45:UInt8).toNat=45:=rfl
    omega
   ·rw[hz,hl];split
    ·rename_i r' e;exact absurd (List.cons.inj e).1 hb
    ·rfl
theorem Ze4 {b:UInt8}:(48≤b.toNat∧b.toNat≤57→Lib.digitVal b=some (b.toNat-48))∧(¬(48≤b.toNat∧b.toNat≤57)→Lib.digitVal b=none):=by
 constructor
 ·rintro⟨h1,h2⟩;have h:=Zdd (d:=b.toNat-48) (by omega);have e:UInt8.ofNat (48+(b.toNat-48))=b:=UInt8.toNat_inj.1 (by rw[UInt8.toNat_ofNat'];omega);rw[e]at h;exact h
 ·intro h;cases hd:Lib.digitVal b with
  |none=>rfl
  |some d=>
   obtain⟨h1,rfl⟩:=ZjC hd;rw[UInt8.toNat_ofNat']at h;omega
theorem ZdB {b:UInt8}{l r:List UInt8}(h:Lib.digitVal b=none){n:Nat}(hn:Lib.decFrom 0 l=some n):Lib.decFrom 0 (l++b::r)=none:=by
 have:∀(l:List UInt8) (acc n:Nat),Lib.decFrom acc l=some n→Lib.decFrom acc (l++b::r)=none:=by
  intro l;induction l with
  |nil=>intro acc n _;simp only[List.nil_append,Lib.decFrom,h]
  |cons x l ih=>
   intro acc n hh;simp only[ZwI,Lib.decFrom]at hh ⊢;cases hx:Lib.digitVal x with
   |none=>rfl
   |some d=>rw[hx]at hh;exact ih _ _ hh
 exact this l 0 n hn
def nuS (s:ByteArray)(neg:Bool)(a k n:Nat):AS:=⟨[(0,.pv (.str s)),(4,.pv (.bool neg)),(5,.pv (.int .i64 ((k+a:Nat):Int))),(6,.pv (.int .i64 (n:Int)))],[]⟩
set_option maxHeartbeats 8000000 in
theorem Ziv (s:ByteArray)(hs:s.size≤1000000):Gives Tryz.prog 37 [.str s] (nuE (numR s)):=by
 obtain⟨neg,a,ds,hc,hds,hsz,hnum⟩:=Zgn s;obtain⟨V,hV⟩:∃V,V=numR s:=⟨_,rfl⟩;rw[←hV]at hnum ⊢;clear hV;have hat:∀k,k<ds.length→∃b,ds[k]?=some b∧sAt s ((k+a:Nat):Int)=some b:=fun k hk=>by
  refine⟨ds[k],ZvZ hk,Zgf ?_⟩;rw[←ZvZ hk,←hds,Zwj,Nat.add_comm]
 refine cSR L37 ?_;intro R hR;have hI:∀c:Nat,((c:Int)=48)=(c=48):=fun c=>propext ⟨fun h=>by omega,fun h=>by omega⟩
 obtain⟨ng,hng⟩:∃z,z=neg:=⟨_,rfl⟩;obtain⟨a',ha'⟩:∃z,z=a:=⟨_,rfl⟩;have w1:IntKind.i64.wrap ((s.size:Int)-(a:Int))=(ds.length:Int):=by rw[wrap64 (by omega)];omega
 by_cases hdn:ds.length=0
 ·have hn:V=none:=by rw[hnum];unfold magR;rw[if_pos (.inl hdn)];rfl
  subst hn;rcases hc with⟨rfl,rfl,h0,hp⟩|⟨rfl,rfl,h0⟩
  ·have f1:s.size=1:=by omega
   simp[-getElem?_pos,L37,h0,hp,f1];rw[←hR];exact⟨rfl,rfl⟩
  ·have f1:s.size=0:=by omega
   simp[-getElem?_pos,L37,f1];rw[←hR];exact⟨rfl,rfl⟩
 obtain⟨b,hb,hsb⟩:=hat 0 (by omega);have hh:ds.head?=some b:=by rw[List.head?_eq_getElem?];exact hb
 by_cases hbad:9<ds.length∨(b=48∧1<s.size)
 ·have hn:V=none:=by
   rw[hnum];unfold magR;rcases hbad with h|⟨h,h'⟩
   ·rw[if_pos (.inr (.inl h))];rfl
   ·rw[if_pos (.inr (.inr ⟨by rw[hh,h],h'⟩))];rfl
  subst hn;rcases hc with⟨rfl,rfl,h0,hp⟩|⟨rfl,rfl,h0⟩
  ·have hsb:sAt s 1=some b:=hsb;have f1:¬s.size=1:=by omega
   have f1':¬(s.size:Int)=1:=by omega
   have w1:IntKind.i64.wrap ((s.size:Int)-1)=(ds.length:Int):=w1;by_cases h9:(9:Int)<(ds.length:Int)
   ·simp[-getElem?_pos,L37,h0,hp,f1,f1',w1,h9];rw[←hR];exact⟨rfl,rfl⟩
   ·obtain⟨rfl,g1⟩:=hbad.resolve_left (by omega);have g2:(1:Int)<(s.size:Int):=by omega
    simp[-getElem?_pos,L37,h0,hp,f1,f1',w1,h9,hsb,g1,g2];rw[←hR];exact⟨rfl,rfl⟩
  ·obtain⟨b0,h0,hb45,hp⟩:=h0.resolve_left (by omega);obtain rfl:b=b0:=Option.some.inj (hsb.symm.trans h0);have hsb:sAt s 0=some b:=hsb;have hb45':¬b.toNat=45:=by omega
   have f1:¬s.size=0:=by omega
   have f1':¬(s.size:Int)=0:=by omega
   have w1:IntKind.i64.wrap (s.size:Int)=(ds.length:Int):=by rw[wrap64 (by omega)];omega
   by_cases h9:(9:Int)<(ds.length:Int)
   ·simp[-getElem?_pos,L37,h0,hp,hb45,hb45',f1,f1',w1,h9];rw[←hR];exact⟨rfl,rfl⟩
   ·obtain⟨rfl,g1⟩:=hbad.resolve_left (by omega);have g2:(1:Int)<(s.size:Int):=by omega
    simp[-getElem?_pos,L37,h0,hp,hb45,hb45',f1,f1',w1,h9,hsb,g1,g2];rw[←hR];exact⟨rfl,rfl⟩
 have hn:V=(Lib.decFrom 0 ds).map fun(n:Nat)=>if neg=true then -(n:Int)else(n:Int):=by
  rw[hnum];unfold magR;rw[if_neg];rintro(h|h|⟨h,h'⟩)
  ·exact hdn h
  ·exact hbad (.inl h)
  ·rw[hh]at h;exact hbad (.inr ⟨Option.some.inj h,h'⟩)
 clear hnum hds;have h9:¬(9:Int)<(ds.length:Int):=fun h=>hbad (.inl (by omega))
 have q0:b.toNat=48→¬1<s.size:=fun e h=>hbad (.inr ⟨UInt8.toNat_inj.1 (by have:(48:UInt8).toNat=48:=rfl;omega),h⟩)
 rw[←hng]at hn;rcases hc with⟨rfl,rfl,h0,hp⟩|⟨rfl,rfl,h0⟩
 case' inl=>
  have hsb:sAt s 1=some b:=hsb;have f1:¬s.size=1:=by omega
  have f1':¬(s.size:Int)=1:=by omega
  have w1:IntKind.i64.wrap ((s.size:Int)-1)=(ds.length:Int):=w1;have q1:¬b.toNat=48:=fun e=>by have:=q0 e;omega
  simp[-getElem?_pos,L37,h0,hp,f1,f1',w1,h9,hsb,q1,hI]
 case' inr=>
  obtain⟨b0,h0,hb45,hp⟩:=h0.resolve_left (by omega);obtain rfl:b=b0:=Option.some.inj (hsb.symm.trans h0);have hb45':¬b.toNat=45:=by omega
  have f1:¬s.size=0:=by omega
  have f1':¬(s.size:Int)=0:=by omega
  have w1:IntKind.i64.wrap (s.size:Int)=(ds.length:Int):=by rw[wrap64 (by omega)];omega
  by_cases q1:b.toNat=48
  case' pos=>
   have q2:=q0 q1;have q3:¬(1:Int)<(s.size:Int):=by omega
   simp[-getElem?_pos,L37,h0,hp,hb45,hb45',f1,f1',w1,h9,q1,q2,q3,hI]
  case' neg=>simp[-getElem?_pos,L37,h0,hp,hb45,hb45',f1,f1',w1,h9,q1,hI]
 all_goals
  refine Zae (fun m τ=>∃k n:Nat,k≤ds.length∧m=ds.length-k∧Lib.decFrom 0 (ds.take k)=some n∧n<10^k∧τ=nuS s ng a' k n) ⟨ds.length,nuS s ng a' 0 0,Sub.mk (by simp[nuS,hng,ha']) (by simp[nuS]),0,0,Zwb _,rfl,rfl,by decide,rfl⟩ ?_;rintro J hJ m τ ⟨k,n,hk,rfl,hfr,hnk,rfl⟩;by_cases hlt:k<ds.length
  ·obtain⟨x,hx,hsx⟩:=hat k hlt;rw[←ha']at hsx;have hp9:(10:Nat)^k≤10^9:=Nat.pow_le_pow_right (by decide) (by omega);have hlt':((k+a':Nat):Int)<(s.size:Int):=by omega
   have hlt2:k+a'<s.size:=by omega
   have w2:IntKind.i64.wrap (((k+a':Nat):Int)+1)=((k+1+a':Nat):Int):=by rw[wrap64 (by omega)];omega
   have hx8:=UInt8.toNat_lt x;have hspl:ds=ds.take k++x::ds.drop (k+1):=by
    obtain⟨l1,e1⟩:=Zv1.1 hx;rw[←e1,←ZwZ l1,ZwY]
   by_cases c1:x.toNat<48∨57<x.toNat
   ·have hv:V=none:=by
     rw[hn,hspl,ZdB (Ze4.2 (by omega)) hfr];rfl
    subst hv;clear hJ;by_cases c2:x.toNat<48
    ·have c2':(x.toNat:Int)<48:=by omega
     simp[-getElem?_pos,-Int.natCast_add,nuS,hsx,hlt',hlt2,c2,c2'];rw[←hR];exact⟨rfl,rfl⟩
    ·have c2':¬(x.toNat:Int)<48:=by omega
     have c3:57<x.toNat:=by omega
     have c3':(57:Int)<(x.toNat:Int):=by omega
     simp[-getElem?_pos,-Int.natCast_add,nuS,hsx,hlt',hlt2,c2,c2',c3,c3'];rw[←hR];exact⟨rfl,rfl⟩
   ·have c2:¬x.toNat<48:=by omega
    have c2':¬(x.toNat:Int)<48:=by omega
    have c3:¬57<x.toNat:=by omega
    have c3':¬(57:Int)<(x.toNat:Int):=by omega
    have w3:IntKind.u8.wrap ((x.toNat:Int)-48)=((x.toNat-48:Nat):Int):=by
     rw[show IntKind.u8.wrap ((x.toNat:Int)-48)=((x.toNat:Int)-48)%256 from rfl];omega
    have w4:IntKind.i64.wrap ((x.toNat-48:Nat):Int)=((x.toNat-48:Nat):Int):=wrap64 (by omega);have w5:IntKind.i64.wrap (10*(n:Int))=((10*n:Nat):Int):=by rw[wrap64 (by omega)];omega
    have w6:IntKind.i64.wrap (((10*n:Nat):Int)+((x.toNat-48:Nat):Int))=((10*n+(x.toNat-48):Nat):Int):=by rw[wrap64 (by omega)];omega
    have hfr2:Lib.decFrom 0 (ds.take (k+1))=some (10*n+(x.toNat-48)):=by
     rw[Zwf,hx];show Lib.decFrom 0 (ds.take k++[x])=_;rw[ZaM,hfr,ZwE,Ze4.1 (by omega),Zwu];congr 1;omega
    have hnk2:10*n+(x.toNat-48)<10^(k+1):=by rw[Nat.pow_succ];omega
    have hround:=hJ _ _ ⟨k+1,_,hlt,rfl,hfr2,hnk2,rfl⟩;have hmeas:ds.length-(k+1)<ds.length-k:=by omega
    clear hJ;simp[-getElem?_pos,-Int.natCast_add,-Int.natCast_mul,nuS,hsx,hlt',hlt2,c2,c2',c3,c3',w2,w3,w4,w5,w6];exact⟨_,_,hmeas,Sub.mk (by simp[nuS]) (by simp[nuS]),hround⟩
  have he:k=ds.length:=by omega
  subst he;rw[Zwm]at hfr;rw[hfr]at hn;have hlt':¬((ds.length+a':Nat):Int)<(s.size:Int):=by omega
  have hlt2:¬ds.length+a'<s.size:=by omega
  have hp9:(10:Nat)^ds.length≤10^9:=Nat.pow_le_pow_right (by decide) (by omega);have w7:IntKind.i64.wrap (-(n:Int)) = -(n:Int):=wrap64 (by omega);clear hJ;subst hn;subst hng;simp[-getElem?_pos,-Int.natCast_add,nuS,hlt',hlt2,w7];rw[←hR];exact⟨rfl,rfl⟩
end
section
open Go.RowKit
def ptS (s:ByteArray):Nat→List ByteArray×Nat
 |0=>([],0)
 |i+1=>if i=s.size∨s.data.toList[i]?=some 32 then((ptS s i).1++[s.extract (ptS s i).2 i],i+1)else ptS s i
theorem Zce {s:ByteArray}{i:Nat}:ptS s (i+1)=if i=s.size∨s.data.toList[i]?=some 32 then((ptS s i).1++[s.extract (ptS s i).2 i],i+1)else ptS s i:=rfl
theorem ZeE (s:ByteArray):∀i,(ptS s i).2≤i∧(ptS s i).1.length≤i
 |0=>⟨Zv5 _,Zv5 _⟩
 |i+1=>by
  obtain⟨h1,h2⟩:=ZeE s i;rw[Zce];split
  ·exact⟨Zv5 _,by rw[Zv7];simp;omega⟩
  ·exact⟨by omega,by omega⟩
theorem Zjv (s:ByteArray):∀i,i≤s.size→(∀k,(ptS s i).2≤k→k<i→s.data.toList[k]?≠some 32)∧(ptS s i).1.map (·.data.toList)++Zar (s.data.toList.drop (ptS s i).2)=Zar s.data.toList
 |0,_=>⟨fun k _ h=>absurd h (Nat.not_lt_zero k),rfl⟩
 |i+1,hi=>by
  obtain⟨h1,h2⟩:=Zjv s i (by omega);obtain⟨h3,_⟩:=ZeE s i;have hz:s.size=s.data.toList.length:=by rw[Zwt];rfl
  rw[Zce];by_cases hc:s.data.toList[i]?=some 32
  ·rw[if_pos (.inr hc)];refine⟨fun k ha hb=>?_,?_⟩
   ·have ha:i+1≤k:=ha;omega
   ·show((ptS s i).1++[s.extract (ptS s i).2 i]).map (·.data.toList)++Zar (s.data.toList.drop (i+1))=_;rw[←h2,Zwp,ZwQ];congr 1;show(s.extract (ptS s i).2 i).data.toList::Zar (s.data.toList.drop (i+1))=_;rw[Lib.extract_data];generalize(ptS s i).2=f at h1 h3 ⊢;have hd:s.data.toList.drop f=(s.data.toList.drop f).take (i-f)++32::s.data.toList.drop (i+1):=by
     have e1:(s.data.toList.drop f).drop (i-f)=s.data.toList.drop i:=by rw[List.drop_drop];congr 1;omega
     have e2:s.data.toList.drop i=32::s.data.toList.drop (i+1):=by
      obtain⟨hl,he⟩:=Zv1.1 hc;rw[ZwZ hl,he]
     rw[←e2,←e1,ZwY]
    conv=>rhs;rw[hd]
    rw[ZaS];intro c hc';obtain⟨k,hk⟩:=List.getElem?_of_mem hc';obtain⟨hl,he⟩:=Zv1.1 hk;rw[Zv8]at hl;rw[List.getElem?_take_of_lt (by omega),Zwj]at hk;intro e;exact h1 (f+k) (by omega) (by omega) (by rw[hk,e])
  ·rw[if_neg (by rintro(h|h);omega;exact hc h)];refine⟨fun k ha hb=>?_,h2⟩;by_cases hk:k=i
   ·rw[hk];exact hc
   ·exact h1 k ha (by omega)
theorem ZkL (s:ByteArray):(ptS s (s.size+1)).1=ZaF s blank:=by
 apply ZaL;rw[Zdj,Zce,if_pos (.inl rfl)];obtain⟨h1,h2⟩:=Zjv s s.size (Zv5 _);obtain⟨h3,_⟩:=ZeE s s.size;have hz:s.size=s.data.toList.length:=by rw[Zwt];rfl
 rw[←h2];show((ptS s s.size).1++[s.extract (ptS s s.size).2 s.size]).map (·.data.toList)=_;rw[Zwp];congr 1;show[(s.extract (ptS s s.size).2 s.size).data.toList]=_;rw[Lib.extract_data];generalize(ptS s s.size).2=f at h1 h3 ⊢;rw[Zv9 (by rw[ZwB];omega),ZaT];intro c hc;obtain⟨k,hk⟩:=List.getElem?_of_mem hc;obtain⟨hl,he⟩:=Zv1.1 hk;rw[ZwB]at hl;rw[Zwj]at hk;intro e;exact h1 (f+k) (by omega) (by omega) (by rw[hk,e])
def prE (s:ByteArray):PV:=match ZaF s blank,Zay s with
 |w::_,some (_,l)=>.tup [.str w,.lst false 1 (l.map iP),.bool true]
 |_,_=>.tup [.str ⟨#[]⟩,.emp (some true),.bool false]
def manyR (w:ByteArray):Int:=match wordB w with
 |some (k,_)=>(k:Int)
 |none=>-1
theorem ZkS (w:ByteArray):manyR w=if w=wCert then 7 else if w=wBad∨w=wPass then 1 else if w=wLot∨w=wRun then 3 else if w=wTest then 4 else -1:=by
 by_cases h0:w=wCert
 ·subst h0;rfl
 by_cases h1:w=wBad
 ·subst h1;rfl
 by_cases h2:w=wLot
 ·subst h2;rfl
 by_cases h3:w=wTest
 ·subst h3;rfl
 by_cases h4:w=wPass
 ·subst h4;rfl
 by_cases h5:w=wRun
 ·subst h5;rfl
 unfold manyR wordB;simp only[if_neg h0,if_neg h1,if_neg h2,if_neg h3,if_neg h4,if_neg h5,h1,h2,h4,h5,or_self,if_false]
def is6 (w:ByteArray)(c b p l r t:Prop):Prop:=(w=wCert)=c∧(w=wBad)=b∧(w=wPass)=p∧(w=wLot)=l∧(w=wRun)=r∧(w=wTest)=t
theorem word7 (w:ByteArray):is6 w True False False False False False∧manyR w=7∨is6 w False True False False False False∧manyR w=1∨is6 w False False True False False False∧manyR w=1∨is6 w False False False True False False∧manyR w=3∨is6 w False False False False True False∧manyR w=3∨is6 w False False False False False True∧manyR w=4∨is6 w False False False False False False∧manyR w = -1:=by
 by_cases h0:w=wCert
 ·subst h0;exact .inl ⟨⟨eq_self _,eq_false (by decide),eq_false (by decide),eq_false (by decide),eq_false (by decide),eq_false (by decide)⟩,rfl⟩
 by_cases h1:w=wBad
 ·subst h1;exact .inr (.inl ⟨⟨eq_false (by decide),eq_self _,eq_false (by decide),eq_false (by decide),eq_false (by decide),eq_false (by decide)⟩,rfl⟩)
 by_cases h2:w=wPass
 ·subst h2;exact .inr (.inr (.inl ⟨⟨eq_false (by decide),eq_false (by decide),eq_self _,eq_false (by decide),eq_false (by decide),eq_false (by decide)⟩,rfl⟩))
 by_cases h3:w=wLot
 ·subst h3;exact .inr (.inr (.inr (.inl ⟨⟨eq_false (by decide),eq_false (by decide),eq_false (by decide),eq_self _,eq_false (by decide),eq_false (by decide)⟩,rfl⟩)))
 by_cases h4:w=wRun
 ·subst h4;exact .inr (.inr (.inr (.inr (.inl ⟨⟨eq_false (by decide),eq_false (by decide),eq_false (by decide),eq_false (by decide),eq_self _,eq_false (by decide)⟩,rfl⟩))))
 by_cases h5:w=wTest
 ·subst h5;exact .inr (.inr (.inr (.inr (.inr (.inl ⟨⟨eq_false (by decide),eq_false (by decide),eq_false (by decide),eq_false (by decide),eq_false (by decide),eq_self _⟩,rfl⟩)))))
 exact .inr (.inr (.inr (.inr (.inr (.inr ⟨⟨eq_false h0,eq_false h1,eq_false h2,eq_false h3,eq_false h4,eq_false h5⟩,by rw[ZkS];simp only[h0,h1,h2,h3,h4,h5,or_self,if_false]⟩)))))
theorem ZkT (w:ByteArray):-1≤manyR w∧manyR w≤7:=by
 unfold manyR;cases hw:wordB w with
 |none=>exact⟨by decide,by decide⟩
 |some p=>
  obtain⟨k,g⟩:=p
  have:=ZhZ hw
  dsimp only;omega
theorem Zik {s w:ByteArray}{r:List ByteArray}(h:ZaF s blank=w::r)(hn:(r.length:Int)≠manyR w∨numsB r=none):prE s=.tup [.str ⟨#[]⟩,.emp (some true),.bool false]:=by
 have hp:Zay s=none:=by
  unfold Zay;rw[h];dsimp only;unfold manyR at hn;cases hw:wordB w with
  |none=>rfl
  |some p=>
   obtain⟨k,g⟩:=p;rw[hw]at hn;dsimp only at hn ⊢;rcases hn with hn|hn
   ·rw[if_neg (by omega)]
   ·rw[hn];split<;>rfl
 unfold prE;rw[hp,h]
theorem Zij {s w:ByteArray}{r:List ByteArray}{l:List Int}(h:ZaF s blank=w::r)(hm:(r.length:Int)=manyR w)(hl:numsB r=some l):prE s=.tup [.str w,.lst false 1 (l.map iP),.bool true]:=by
 unfold prE Zay;rw[h];dsimp only;unfold manyR at hm;cases hw:wordB w with
 |none=>rw[hw]at hm;dsimp only at hm;omega
 |some p=>
  obtain⟨k,g⟩:=p;rw[hw]at hm;dsimp only at hm ⊢;rw[if_pos (by omega),hl];rfl
theorem ZeF (s:ByteArray):(Zay s=none∧prE s=.tup [.str ⟨#[]⟩,.emp (some true),.bool false])∨∃w k g nums,Zay s=some (g,nums)∧wordB w=some (k,g)∧nums.length=k∧prE s=.tup [.str w,.lst false 1 (nums.map iP),.bool true]:=by
 cases hs:ZaF s blank with
 |nil=>
  have h:=Zhg s;rw[hs]at h;cases h
 |cons w r=>
  cases hp:Zay s with
  |none=>
   refine .inl ⟨rfl,?_⟩;unfold prE;rw[hp,hs]
  |some q=>
   obtain⟨g,nums⟩:=q;have hp':=hp;unfold Zay at hp;rw[hs]at hp;dsimp only at hp;cases hw:wordB w with
   |none=>rw[hw]at hp;cases hp
   |some p=>
    obtain⟨k,g'⟩:=p;rw[hw]at hp;dsimp only at hp;split at hp
    ·rename_i hk;obtain⟨l,h1,h2⟩:=Zv4.1 hp;cases h2;refine .inr ⟨w,k,g,nums,rfl,hw,(ZfT h1).1.trans hk,?_⟩;unfold prE;rw[hp',hs]
    ·cases hp
theorem ZfL {w:ByteArray}{k:Nat}{g:FuncId}(h:wordB w=some (k,g)):(w=wCert↔g=187)∧(w=wBad↔g=188)∧(w=wTest↔g=190)∧(w=wPass↔g=191)∧(w=wPass→k=1):=by
 unfold wordB at h
 repeat' split at h
 all_goals first
  |(cases h;subst_vars;decide)
  |cases h
theorem weq {w v:ByteArray}{l:List UInt8}(h:v.data.toList=l):(w.toList==l)=decide (w=v):=by rw[←h,←Lib.toList_data];exact strE w v
theorem weC (w:ByteArray):(w.toList==[99,101,114,116])=decide (w=wCert):=weq rfl
theorem weB (w:ByteArray):(w.toList==[98,97,100])=decide (w=wBad):=weq rfl
theorem weP (w:ByteArray):(w.toList==[112,97,115,115])=decide (w=wPass):=weq rfl
theorem weL (w:ByteArray):(w.toList==[108,111,116])=decide (w=wLot):=weq rfl
theorem weR (w:ByteArray):(w.toList==[114,117,110])=decide (w=wRun):=weq rfl
theorem weT (w:ByteArray):(w.toList==[116,101,115,116])=decide (w=wTest):=weq rfl
end
section
open Go.RowKit
set_option maxRecDepth 10000
attribute [local simp] AS.exp expG Box.ren AV.map AV.mapL Zaw noRet Site.isRet Box.allS AV.allS AV.allSL retB dropL AS.adds renL outG outOk Zau inG fnOf lookA Zww
attribute [local simp] Box.purge Site.isLoc
attribute [local simp] retFz frzL AS.frz AV.frz AV.frzL Box.frz AS.tidy AS.frzC frzsL retOk renB toLoc
def prS (s:ByteArray)(P:List ByteArray)(f i:Nat):AS:=⟨[(0,.pv (.str s)),(5,.vec (.loc 35 0) 1 0 P.length),(6,.pv (.int .i64 (f:Int))),(7,.pv (.int .i64 (i:Int)))],[(.loc 35 0,.arr 9 1 (P.map .str))]⟩
def prN (P:List ByteArray)(l:List Int)(k:Nat):AS:=⟨[(5,.vec (.loc 35 0) 1 0 P.length),(9,.vec (.loc 75 0) 1 0 l.length),(10,.pv (.int .i64 (k:Int)))],[(.loc 75 0,.arr 3 1 (l.map iP)),(.loc 35 0,.arr 9 1 (P.map .str))]⟩
set_option maxHeartbeats 16000000 in
theorem Zin (s:ByteArray)(hs:s.size≤1000):Gives Tryz.prog 18 [.str s] (prE s):=by
 have hz:s.size=s.data.toList.length:=by rw[Zwt];rfl
 refine cFR [.loc 75 0] L18 ?_;intro R hR;simp[-getElem?_pos,L18];refine Zae (fun m τ=>∃i:Nat,i≤s.size+1∧m=s.size+1-i∧τ=prS s (ptS s i).1 (ptS s i).2 i) ⟨s.size+1,prS s [] 0 0,Sub.trans' (Sub.mk (by simp[prS,AS.vecT]) (by simp[prS,AS.vecT])) (vecT 35 9 1 5 rfl (by decide)),0,Zwb _,rfl,rfl⟩ ?_;rintro J hJ m τ ⟨i,hi,rfl,rfl⟩;obtain⟨hf,hpl⟩:=ZeE s i;have hnx:=Zce (s:=s) (i:=i);by_cases hlt:i≤s.size
 ·have hround:=hJ _ _ ⟨i+1,by omega,rfl,rfl⟩;have hmeas:s.size+1-(i+1)<s.size+1-i:=by omega
  have hw:=wrapK (k:=i) (by omega);have hile:(i:Int)≤(s.size:Int):=by omega
  rw[hnx]at hround;clear hJ hnx;generalize ptS s i=q at *;obtain⟨P,f⟩:=q;dsimp only at *;have hp6:P.length≤999999:=by omega
  have hp7:P.length+1≤1000000:=by omega
  have htk:List.take P.length (P.map PV.str)=P.map PV.str:=Zv9 (by rw[Zv6];exact Zv5 _);by_cases hie:i=s.size
  ·rw[if_pos (.inl hie)]at hround;have hE1:((i:Int)=(s.size:Int))=True:=eq_true (by omega);have hE2:(i=s.size)=True:=eq_true hie;have hfi':(f:Int)≤(i:Int):=by omega
   simp[-getElem?_pos,prS,hlt,hile,hE1,hE2,hf,hfi',nble,hw,hp6,hp7,htk];exact⟨_,_,hmeas,Sub.mk (by simp[prS]) (by simp[prS]),hround⟩
  ·have hie':¬(i:Int)=(s.size:Int):=by omega
   obtain⟨b,hb⟩:∃b,s.data.toList[i]?=some b:=⟨s.data.toList[i]'(by omega),ZvZ _⟩;have hsa:=Zgf hb;have hlt2:i<s.size:=by omega
   by_cases h32:b=32
   ·rw[if_pos (.inr (by rw[hb,h32]))]at hround;subst h32;have hfi':(f:Int)≤(i:Int):=by omega
    simp[-getElem?_pos,prS,hlt,hile,hie,hie',hlt2,hsa,hf,hfi',nble,hw,hp6,hp7,htk];exact⟨_,_,hmeas,Sub.mk (by simp[prS]) (by simp[prS]),hround⟩
   ·rw[if_neg (by rintro(h|h);exact hie h;rw[hb]at h;exact h32 (Option.some.inj h))]at hround;have hb3:¬b.toNat=32:=fun h=>h32 (UInt8.toNat_inj.1 (by have:(32:UInt8).toNat=32:=rfl;omega))
    have hb4:¬(b.toNat:Int)=32:=by omega
    simp[-getElem?_pos,prS,hlt,hile,hie,hie',hlt2,hsa,hb3,hb4,nble,hw];exact⟨_,_,hmeas,Sub.mk (by simp[prS]) (by simp[prS]),hround⟩
 have he:i=s.size+1:=by omega
 subst he;have hile:¬(s.size:Int)+1≤(s.size:Int):=by omega
 clear hJ hlt hnx;rw[ZkL]at *;have hpz:∀x∈ZaF s blank,x.size≤1000000:=fun x hx=>by
  have:=ZdP blank _ s x hx
  omega
 generalize(ptS s (s.size+1)).2=f at *;cases hsp:ZaF s blank with
 |nil=>
  have h:=Zhg s;rw[hsp]at h;cases h
 |cons w0 r=>
 rw[hsp]at hpz hpl;have hmg:=ZkT w0;have k0:IntKind.i64.wrap 0=0:=rfl;have k2:IntKind.i64.wrap 2=2:=rfl;have k4:IntKind.i64.wrap 4=4:=rfl;have k5:IntKind.i64.wrap 5=5:=rfl;have k8:IntKind.i64.wrap 8=8:=rfl;have hen:=Zik hsp;have hes:=fun l h1 h2=>Zij (l:=l) hsp h1 h2
 have hrl:r.length≤1001:=by rw[Zws]at hpl;omega
 have hnum:=fun x hx=>Ziv x (hpz x hx)
 clear hpl;rcases word7 w0 with h|h|h|h|h|h|h
 all_goals
  obtain⟨⟨e0,e1,e2,e3,e4,e5⟩,hm⟩:=h;by_cases hlen:(r.length:Int)=manyR w0
  case neg=>
   have hpe:=hen (.inl hlen);have hlen1:¬(r.length:Int)+1=manyR w0+1:=by omega
   rw[hm]at hlen1;simp at hlen1;simp[-getElem?_pos,-List.getElem?_map,prS,hile,nblt,nble,weC,weB,weP,weL,weR,weT,k0,k2,k4,k5,k8,e0,e1,e2,e3,e4,e5,hlen1];rw[←hR,hpe];exact⟨rfl,rfl⟩
  have hlen1:(r.length:Int)+1=manyR w0+1:=by omega
  rw[hm]at hlen1
  first|(exfalso;omega)|simp at hlen1
 all_goals
  replace hlen1:=eq_true hlen1;simp[-getElem?_pos,-List.getElem?_map,prS,hile,nblt,nble,weC,weB,weP,weL,weR,weT,k0,k2,k4,k5,k8,e0,e1,e2,e3,e4,e5,hlen1];clear hlen1;have hes:=fun l h=>hes l hlen h
  refine Zae (fun m τ=>∃(k:Nat) (l:List Int),1≤k∧k≤r.length+1∧m=r.length+1-k∧numsB (r.take (k-1))=some l∧l.length=k-1∧τ=prN (w0::r) l k) ⟨r.length,prN (w0::r) [] 1,Sub.trans' (Sub.mk (by simp[prN,AS.vecT]) (by simp[prN,AS.vecT])) (vecT 75 3 1 9 rfl (by decide)),1,[],Zv5 _,by omega,rfl,rfl,rfl,rfl⟩ ?_;rintro J hJ m τ ⟨k,l,hk1,hk,rfl,hl1,hl2,rfl⟩;have hPL:((w0::r).map PV.str).length=r.length+1:=by simp
  by_cases hlt:k<r.length+1
  ·obtain⟨x,hx⟩:∃x,r[k-1]?=some x:=⟨r[k-1],ZvZ (by omega)⟩;have hg:((w0::r).map PV.str)[k]?=some (.str x):=by
    rw[Zv0,show k=k-1+1 by omega,ZwW,hx];rfl
   have hw:=wrapK (k:=k) (by omega);have hnx:=hnum x (ZwR _ (Zv3 hx));have hmeas:r.length+1-(k+1)<r.length+1-k:=by omega
   have hlt':(k:Int)<(r.length:Int)+1:=by omega
   have htk:r.take k=r.take (k-1)++[x]:=by rw[show k=k-1+1 by omega,Zwf,Nat.add_sub_cancel,hx];rfl
   rw[ZoD]at hnx;cases hxn:numB x with
   |none=>
    have hpe:=hen (.inr (ZdZ hxn (Zv3 hx)));rw[hxn]at hnx;clear hJ;unfold prN;generalize(w0::r).map PV.str=PP at *;simp[-getElem?_pos,-List.getElem?_map,hPL,hlt,hlt',hg,nblt,nble];refine .inl<|cQ [] [.str x] hnx ?_;simp[-getElem?_pos,-List.getElem?_map,nuE];rw[←hR,hpe];exact⟨rfl,by simp⟩
   |some v=>
    rw[hxn]at hnx;have hround:=hJ _ _ ⟨k+1,l++[v],by omega,by omega,rfl,by rw[Nat.add_sub_cancel,htk];exact ZdY hxn hl1,by rw[Zv7];simp;omega,rfl⟩;clear hJ;have hl6:l.length+1≤1000000:=by omega
    have hl7:l.length≤999999:=by omega
    have hlk:List.take l.length (l.map iP)=l.map iP:=Zv9 (by rw[Zv6];exact Zv5 _);unfold prN at hround ⊢;generalize(w0::r).map PV.str=PP at *;simp[-getElem?_pos,-List.getElem?_map,hPL,hlt,hlt',hg,nblt,nble];refine .inl<|cQ [] [.str x] hnx ?_;simp[-getElem?_pos,-List.getElem?_map,nuE,hl6,hl7,hw,hlk,nblt,nble];exact⟨_,_,hmeas,Sub.mk (by simp) (by simp[iP]),hround⟩
  ·have he:k=r.length+1:=by omega
   subst he;rw[Nat.add_sub_cancel,Zwm]at hl1;have hpe:=hes l hl1;have hlk:List.take l.length (l.map iP)=l.map iP:=Zv9 (by rw[Zv6];exact Zv5 _);have hg0:((w0::r).map PV.str)[0]?=some (.str w0):=rfl;clear hJ hlt;unfold prN;generalize(w0::r).map PV.str=PP at *;simp[-getElem?_pos,-List.getElem?_map,hPL,hg0,hlk,nblt,nble];rw[←hR,hpe];exact⟨rfl,by simp⟩
attribute [local irreducible] Bk.suspM earlE Bk.contra Bk.held Bk.span Bk.nums Bk.isHeld stM verdM doB foldD Zay wordB
theorem Zlx {L:List ByteArray}{wh:Int}(ha:0≤wh∧wh≤255)(hp:0<L.length):∃k s,wh.tmod (L.length:Int)=((k:Nat):Int)∧k<L.length∧L[k]?=some s:=by
 have h1:=Int.tmod_nonneg (L.length:Int) ha.1;have h2:=Int.tmod_lt_of_pos wh (show(0:Int)<(L.length:Int) by omega);have hk:(wh.tmod (L.length:Int)).toNat<L.length:=by omega
 exact⟨(wh.tmod (L.length:Int)).toNat,L[(wh.tmod (L.length:Int)).toNat],by omega,hk,ZvZ hk⟩
theorem Zed {L:List ByteArray}{k:Nat}(h:ZaP L=true):ZaP (L.take k)=true:=by
 obtain⟨h1,h2⟩:=ZaG h;unfold ZaP;rw[Zv2,decide_eq_true_eq,Zwl];exact⟨fun s hs=>by simpa using h2 s (List.mem_of_mem_take hs),by rw[Zv8];omega⟩
set_option maxHeartbeats 16000000 in
theorem ZtY (L:List ByteArray)(hl:L.length≤9223372036854775807)(wh:Int)(ha:0≤wh∧wh≤255):Gives Tryz.prog 5 [strsP L,.int .u8 wh] (.bool true):=by
 have hth:=Zg1 L hl;refine cSR L5 ?_;intro R hR;have hfin:R (.pv (.bool true)) []:=by rw[←hR];exact⟨rfl,rfl⟩
 clear hR;simp[-getElem?_pos,L5];refine cG [strsP L] hth ?_;cases ht:thinB L with
 |false=>
  simp[-getElem?_pos];refine cG [] ZaA ?_;simp[-getElem?_pos];exact hfin
 |true=>
 have hl5:L.length≤55:=by
  unfold thinB at ht;rw[Zv2,decide_eq_true_eq]at ht;exact ht.2
 have hrr:=ZeC L (by omega);simp[-getElem?_pos];refine cG [strsP L] hrr ?_;cases hrt:ZaP L with
 |false=>
  simp[-getElem?_pos];refine cG [] ZaA ?_;simp[-getElem?_pos];exact hfin
 |true=>
 by_cases h0:L=[]
 ·subst h0;simp[-getElem?_pos,strsP];refine cG [] ZaA ?_;simp[-getElem?_pos];exact hfin
 have hlp:0<L.length:=List.length_pos_iff.2 h0;have hlp':¬(L.length:Int)=0:=by omega
 have hlp2:¬L.length=0:=by omega
 obtain⟨hl50,hsz⟩:=ZaG hrt;obtain⟨k,s,hk,hkl,hs⟩:=Zlx ha hlp;have hgs:(L.map PV.str)[k]?=some (.str s):=by rw[Zv0,hs];rfl
 have hs2:=hsz s (Zv3 hs);have hpr:=Zin s (by omega);have w1:IntKind.i64.wrap wh=wh:=wrap64 (by omega);have hF:407<408:=by decide
 rcases ZeF s with⟨hpn,hpe⟩|⟨w0,kk,g,nums,hp,hw0,hnl,hpe⟩
 ·rw[hpe]at hpr;simp[-getElem?_pos,-List.getElem?_map,strsP,h0,hlp',hlp2,w1,hk,hkl,hgs];refine .inl<|cQ [] [.str s] hpr ?_;simp[-getElem?_pos,-List.getElem?_map];refine cG [] ZaA ?_;simp[-getElem?_pos];exact hfin
 rw[hpe]at hpr;by_cases hwt:w0=wTest
 case neg=>
  have hwt':(w0=wTest)=False:=eq_false hwt;simp[-getElem?_pos,-List.getElem?_map,strsP,h0,hlp',hlp2,w1,hk,hkl,hgs];refine .inl<|cQ [] [.str s] hpr ?_;simp[-getElem?_pos,-List.getElem?_map,hwt',weT,frzsL];refine cG [] ZaA ?_;simp[-getElem?_pos];exact hfin
 have hwt':(w0=wTest)=True:=eq_true hwt;rw[(ZfL hw0).2.2.1.1 hwt]at hp;have htk:L.take (k+1)=L.take k++[s]:=by rw[Zwf,hs];rfl
 have hpl:=Zfc hF (L.take (k+1)) (by rw[Zv8];omega);unfold plyE at hpl;rw[if_pos (ZaB (Zed hrt)),htk,Zcq,←htk]at hpl;obtain⟨iI,iJ⟩:=ZdC (l:=L.take k) (k:=0) wk0_I wk0_J;obtain⟨iI2,iJ2⟩:=ZdC (l:=L.take (k+1)) (k:=0) wk0_I wk0_J;rw[htk,Zcq]at iI2 iJ2;rw[←htk,Zv8,Nat.min_eq_left (by omega)]at iI2;have hes:=Zbl (D:=doB 408) (l:=L.take k) (st:=wk0);have htok:=fun h=>Zs1 (st:=(foldD (doB 408) wk0 (L.take k)).1) hp h
 generalize foldD (doB 408) wk0 (L.take k)=q at hpl iI iJ iI2 iJ2 hes htok;obtain⟨w,es⟩:=q;dsimp only at hpl iI iJ iI2 iJ2 hes htok;rw[Zv8,Nat.min_eq_left (by omega)]at hes;have hbi:=Zeq (L.take (k+1)) (by rw[Zv8];omega);have hstp:strsP (L.take (k+1))=.lst false 1 ((L.map PV.str).take (k+1)):=by unfold strsP;rw[List.map_take]
 rw[hstp]at hbi hpl;generalize doB 408 w s=d at *;obtain⟨u,e⟩:=d;dsimp only at *;have hel:(es++[e]).length=k+1:=by rw[Zv7,hes];rfl
 have hge:((es++[e]).map iE)[k]?=some (.int .i64 e):=by
  rw[Zv0,List.getElem?_append_right (by omega),hes,Nat.sub_self];rfl
 generalize es++[e]=es2 at *;have w2:IntKind.i64.wrap ((k:Int)+1)=(k:Int)+1:=wrap64 (by omega);have hb1:(k+1).ble L.length=true:=Nat.ble_eq_true_of_le hkl;have hk1:k+1≤L.length:=hkl;have hk1':(k:Int)+1≤(L.length:Int):=by omega
 have hkl2:k<es2.length:=by omega
 have huc:=iI2.c;have hub:=iI2.b;have hls:=ZbH u (by omega) (by omega);have hrc:=ZbY u (by omega) (by omega);have hsc:=ZhU (Zaj u.certs u.bad) (show ZaE.length≤1000 by decide) (ZbZ (by omega));rw[Zs7 (Zbf iI2.bk) iJ2.nc]at hsc;simp[-getElem?_pos,-List.getElem?_map,strsP,h0,hlp',hlp2,w1,hk,hkl,hgs];refine .inl<|cQ [] [.str s] hpr ?_;simp[-getElem?_pos,-List.getElem?_map,-List.map_take,hwt',weT,frzsL,w2,hb1,hk1,hk1',nble];refine .inl<|cQ [] [_] hbi ?_;simp[-getElem?_pos,-List.getElem?_map,-List.map_take,frzsL];refine .inl<|cQ [] [_] hpl ?_;by_cases he:e=0
 case neg=>
  simp[-getElem?_pos,-List.getElem?_map,-List.map_take,frzsL,Wk.pv,hel,w2,hge,hkl2,he];refine cG [] ZaA ?_;simp[-getElem?_pos];exact hfin
 obtain⟨t,hut,hst⟩:=htok he;have hc1:u.certs=w.certs:=by rw[hut]
 have hc2:u.bad=w.bad:=by rw[hut]
 have hc3:u.tests=w.tests++[t]:=by rw[hut]
 subst he;clear htok hut hpl hpr hbi;rw[←hc1,←hc2]at hst;have htl:u.tests.length=w.tests.length+1:=by rw[hc3,Zv7];rfl
 have htg:u.tests[w.tests.length]?=some t:=by rw[hc3,List.getElem?_append_right (Zv5 _),Nat.sub_self];rfl
 obtain⟨q1,q2,q3,q4,_⟩:=iI2.tt t (Zv3 htg);have hls:=hls t.lot t.item t.day t.rd;rw[Zex iI2.bk (by omega) q2 q3 q4,if_pos hst]at hls;have hgt:(u.tests.map Tt.pv)[w.tests.length]?=some (.agg [.int .i64 t.lot,.int .i64 t.item,.int .i64 t.day,.int .i64 t.rd]):=by rw[Zv0,htg];rfl
 have hul:=iI2.t;have w3:IntKind.i64.wrap ((u.tests.length:Int)-1)=(w.tests.length:Int):=by rw[wrap64 (by omega)];omega
 have hup:u.pv=.agg [.lst false 7 (u.certs.map Ct.pv),bdsP u.bad,lotsP u.lots,.lst false 4 (u.tests.map Tt.pv),runsP u.runs]:=rfl;have hu0:¬u.tests=[]:=by rw[hc3];simp
 have hu1:¬u.tests.length=0:=by omega
 have hu2:¬(u.tests.length:Int)=0:=by omega
 have hlt:w.tests.length<u.tests.length:=by omega
 clear hc1 hc2 hc3;simp[-getElem?_pos,-List.getElem?_map,-List.map_take,frzsL,hup,hel,w2,hge,hkl2,hu0,hu1,hu2,w3,hgt,hlt];rw[hup]at hls hrc;have hBp:(Zaj u.certs u.bad).pv=.agg [.lst false 4 ZaZ,.lst false 7 ((goodC u.certs u.bad).map Ct.pv)]:=rfl;rw[hBp]at hrc hsc;refine .inl<|cQ [] [_,_] hls ?_;simp[-getElem?_pos,-List.getElem?_map,frzsL,stE];refine .inl<|cQ [] [_] hrc ?_;simp[-getElem?_pos,-List.getElem?_map,frzsL];refine .inl<|cQ [] [_] hsc ?_;simp[-getElem?_pos,-List.getElem?_map,frzsL,lstE];refine cG [] ZaA ?_;simp[-getElem?_pos];exact hfin
end
section
open Go.ChangeShapes Go.WideShapes Go.ChangeAt Go.RowKit
set_option maxRecDepth 100000
theorem Zh3 (v0 v1:Value)(W:World){H:Type}{enc:TypeId×Value→H}{base:Nat}{sp:Nat→Bool}{hd:Bool}{d0 d1:DataW H}{p0 p1:List MemPlace}(hg:Glob W.mem W)
  (k0:Value.okWide Tryz.prog W .any base 22 v0) (h0:DataW.Trod enc Tryz.prog W 0 sp hd 22 v0 d0 p0)
  (k1:Value.okWide Tryz.prog W .any base 5 v1) (h1:DataW.Trod enc Tryz.prog W 0 sp hd 5 v1 d1 p1):
  Calls Tryz.prog 5 #[v0,v1] W fun e w'=>e=.returned (.bool true)∧Keep [] W w':=by
 obtain⟨n0,h0⟩:=h0;obtain⟨s0,w0,r0⟩:=Zgh k0 h0;obtain⟨z1,rfl,rfl,rfl,y1⟩:=open_int Tryz.underlying5 k1 h1;obtain⟨s1,w1,rfl⟩:∃s:Nat,s<256∧z1=(s:Int):=by
  have e1:IntKind.u8.min=0:=by decide
  have e2:IntKind.u8.max=255:=by decide
  have y:=ZbU y1;exact⟨z1.toNat,by omega,by omega⟩
 refine Zde (xs:=[strsP s0,.int .u8 (s1:Int)]) (b:=true) ((ZtY s0 w0 s1 ⟨by omega,by omega⟩).mono (fun _ _ h=>h.1)) rfl (fun j v x e1 e2=>?_) hg
 match j with
 |0=>simp at e1 e2;subst e1 e2;exact r0
 |1=>simp at e1 e2;subst e1 e2;exact .int .u8 (s1:Int)
 |j+2=>simp at e1
theorem ZgF (os:Os)(started:os.Started)(H:Type)(enc:TypeId×Value→H):
  ReturnsInHanded {} Tryz.checked os 5 .any (fun w args=>(Rows.bookLinksSpec.pre enc Tryz.prog Tryz.f5 Rows.bookLinksRow.domain false w args∧laidMetH Tryz.prog Rows.bookLinksRow.laid w)∧sizedMet enc Tryz.prog Tryz.f5 (OpenSpec.ofChange Rows.bookLinksSpec) false w args)
   (Rows.bookLinksSpec.post enc Tryz.prog Tryz.f5 false true false false):=by
 refine ZcA (C:=Tryz.checked) (X:=fun w _=>laidMetH Tryz.prog Rows.bookLinksRow.laid w) (fun _ _ _ hh h=>h.of_heap hh) own started (by kernel_rfl) Tryz.func5
  (ChangeSpec.witness_shaped (enc:=enc) (C:=Tryz.checked) (os:=os) (X:=fun w _=>laidMetH Tryz.prog Rows.bookLinksRow.laid w) false (World.laidAll Tryz.prog os Rows.bookLinksRow.laid) #[.slice none 0 0,.int .u8 0] 8 (World.laidAll_os _ _ _)
   (World.shaped_of_ZipB (by kernel_rfl) (by kernel_rfl)) (by kernel_rfl) (by kernel_rfl) (by kernel_rfl)
   (by rw[MakeChecks.laidMetH_plain _ _ _ (by kernel_rfl)];exact laidMet_laidAll _ (by kernel_rfl) (by kernel_rfl))) ?_
 intro W base args ds gs before hval0 hW hL hsh;have hval:∀(j:Nat) t v,Tryz.f5.params[j]?=some t→args[j]?=some v→Value.okWide Tryz.prog W .any base t v:=hval0;rw[MakeChecks.laidMetH_plain _ _ _ (by kernel_rfl)]at hL;have hg:=ZgS hsh (Lib.laidMet.reads hL (by simp[Rows.bookLinksRow])) (Lib.laidMet.reads hL (by simp[Rows.bookLinksRow])) (Lib.laidMet.reads hL (by simp[Rows.bookLinksRow]));have hW':=hW;obtain⟨p,q,hA0,hV,rfl,hfz,hnd⟩:=hW;have hA:DataW.TrodAll enc Tryz.prog W 0 (fun _=>true) true Tryz.f5.params.toList args.toList ds p:=hA0;rw[Tryz.params5]at hA hval;obtain⟨v0,vs0,d0,ds0,p0,q0,hargs,rfl,rfl,h0,r0⟩:=trodAll_cons hA;obtain⟨v1,vs1,d1,ds1,p1,q1,rfl,rfl,rfl,h1,r1⟩:=trodAll_cons r0;obtain⟨rfl,rfl,rfl⟩:=trodAll_nil r1;have hargs':args=#[v0,v1]:=by
  apply Array.ext';exact hargs
 subst hargs';have k0:=hval 0 _ v0 rfl rfl;have k1:=hval 1 _ v1 rfl rfl;obtain⟨rfl,rfl⟩:=trodVars_none hV;refine(Zh3 v0 v1 W hg k0 h0 k1 h1).mono fun e W' ⟨he,hk⟩=>?_
 subst he;exact⟨_,rfl,ZeG (tb:=4) laidP Zd8 fullP (by decide +kernel) rfl rfl rfl Tryz.underlying4 hW' hk⟩
end
section
open Go.RowKit
set_option maxRecDepth 100000
theorem bI0:(Rows.bookLinksRow.wf (OpenSpec.ofChange Rows.bookLinksSpec))=true:=by kernel_rfl
theorem bI1:(laidOutB Tryz.prog)=true:=laidP
theorem bI2:(mapsRowed Tryz.prog)=true:=Zd8
theorem bI3:(Tryz.f5.params.all (Tryz.prog.readableRec ·))=true:=by kernel_rfl
theorem bI4:(namedTie Tryz.prog Rows.bookLinksRow.named Rows.bookLinksSpec.vars)=true:=by kernel_rfl
theorem bI9:((Rows.bookLinksRow.inPlace==Tryz.prog.inPlace 5))=true:=by kernel_rfl
theorem bI10:((Rows.bookLinksRow.unfollowed==Tryz.prog.unfollowed 5))=true:=by kernel_rfl
theorem bI11:((Rows.bookLinksRow.recurses==Tryz.prog.recurses 5))=true:=by kernel_rfl
theorem bI12:((Rows.bookLinksRow.named==Tryz.prog.varsNamed 5))=true:=by kernel_rfl
theorem bI22:((Rows.bookLinksRow.plainKeys==Tryz.prog.plainKeys))=true:=by kernel_rfl
theorem bI24:(Tryz.prog.stopsHeard)=true:=by kernel_rfl
theorem bI25:(Tryz.prog.mayEnter)=true:=by kernel_rfl
theorem bI26:((Rows.bookLinksRow.lifted==Tryz.prog.liftsFinal))=true:=by kernel_rfl
theorem bI27:((Tryz.prog.make==some Rows.bookLinksRow.make))=true:=by kernel_rfl
theorem Zr1:joinedFacts Tryz.pinned.checked.prog 5 Tryz.f5 Rows.bookLinksSpec Rows.bookLinksRow=true:=
 Zb6 bI0 bI1 bI2 bI3 bI4 (by kernel_rfl) (by kernel_rfl) (by kernel_rfl) (by kernel_rfl) bI9 bI10 bI11 bI12 (by kernel_rfl) (by kernel_rfl) (by kernel_rfl) (by kernel_rfl) (by kernel_rfl) (by kernel_rfl) (by kernel_rfl) (by kernel_rfl) (by kernel_rfl) bI22 (by kernel_rfl) bI24 bI25 bI26 bI27 (by kernel_rfl) (by kernel_rfl) (by kernel_rfl) (by kernel_rfl)
end
section
open Go.ChangeShapes Go.WideShapes Go.ChangeAt Go.RowKit
set_option maxRecDepth 100000
theorem Zr2 (os:Os)(started:os.Started)(H:Type)(enc:TypeId×Value→H):ReturnsInHanded Rows.bookLinksRow.assume Tryz.pinned.checked os 5 .any (Rows.bookLinksRow.pre enc Tryz.pinned.checked.prog Tryz.f5 (OpenSpec.ofChange Rows.bookLinksSpec)) (Rows.bookLinksSpec.post enc Tryz.pinned.checked.prog Tryz.f5 Rows.bookLinksRow.apart Rows.bookLinksRow.fresh Rows.bookLinksRow.handsOn Rows.bookLinksRow.again):=ZgF os started H enc
theorem Zir:Rows.bookLinksRow.holds Tryz.pinned (OpenSpec.ofChange Rows.bookLinksSpec):=
 OpenClaim.holds_of_wide 5 Tryz.f5 rfl rfl rfl rfl rfl rfl rfl ⟨rfl,rfl,rfl,rfl,rfl⟩ rfl rfl rfl rfl rfl (by kernel_rfl) Tryz.func5 Zr1
  (of_decide_eq_true (by kernel_rfl)) (by unfold Func.isWrapper;first|(rw[if_pos (by decide +kernel)];kernel_rfl)|(rw[if_neg (by decide +kernel)];exact⟨rfl,rfl⟩))
  (fun os started H enc _=>Zr2 os started H enc)
theorem bIWf:Rows.bookLinksRow.wfByText (OpenSpec.ofChange Rows.bookLinksSpec)=true:=by kernel_rfl
theorem ZvP : Tryz.pinned.checked.prog.mainIs = some (true, "2d087c6f4cca3a53560cedf75fd690d9382a23561c3a3180de98d17e69e74364".toList) := by kernel_rfl
theorem ZuD:true=Tryz.pinned.checked.prog.looks []:=by kernel_rfl
theorem bIBy:false=Rows.bookLinksRow.goesBy Tryz.pinned.checked.prog:=by kernel_rfl
theorem ZuC : Tryz.prog.funcNamed "tensile/tensilelaw12.BookLinks" = some 5 := by kernel_rfl
theorem ZuB:([22,5].all fun u=>!Tryz.prog.wantsStandIn u)=true:=by kernel_rfl
theorem cardBookLinks:Rows.BookLinksCardSaid:=
 Claim7.holds_tied_plain_at .later [] [.data, .data, .data, .data, .sentinel, .sentinel, .pinned] true (true, "2d087c6f4cca3a53560cedf75fd690d9382a23561c3a3180de98d17e69e74364") true
  Zir (fun _ h=>by cases h) bIWf (fun _ h=>by cases h) bookLinks_row_tie rfl ⟨rfl,rfl⟩ ZvP rfl
  (fun f fn hf hfn=>by
   obtain rfl:f=5:=Option.some.inj (ZuC.symm.trans hf) |>.symm;obtain rfl:fn=Tryz.f5:=(Option.some.inj (Tryz.func5.symm.trans hfn)).symm;exact⟨ZuD,fun j t ht=>by
    rw[Tryz.params5]at ht;have hm:t∈([22,5]:List TypeId):=by simpa using Array.mem_of_getElem? ht
    exact(show Tryz.prog.wantsStandIn t=false by simpa using Zwl.1 ZuB t hm)⟩)
  bIBy
end
end Go.Proofs.YtfpmaennjlggeaaGreatDoor
