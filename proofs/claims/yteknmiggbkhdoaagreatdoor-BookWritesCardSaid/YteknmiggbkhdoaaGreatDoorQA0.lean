/- The registrar's book: what the statement needs, joined and shortened by program. -/
import Derived.Deep.Slices
import Derived.ReadAgain
import Derived.OpenShut
import Derived.Test.YteknmiggbkhdoaaGreatDoorProg
import Derived.Test.YteknmiggbkhdoaaGreatDoorRows
import Derived.WalkKit
import Derived.ProofKit
import Derived.Handed
import Derived.Lay
import Derived.MakeChecks
import Derived.LaidLaws
import Derived.Lib.LaidTab
import Derived.Lib.LaidU8
import Derived.Shelf.Vars
import Derived.Test.YteknmiggbkhdoaaGreatDoorCards
import Derived.Test.YteknmiggbkhdoaaGreatDoorTie
import Derived.SevenTiedAt
import Derived.Test.YteknmiggbkhdoaaGreatDoorP0
import Derived.Test.YteknmiggbkhdoaaGreatDoorP1
import Derived.Test.YteknmiggbkhdoaaGreatDoorP2
import Derived.Test.YteknmiggbkhdoaaGreatDoorP3
import Derived.Test.YteknmiggbkhdoaaGreatDoorP4
set_option linter.unusedSimpArgs false
set_option linter.unusedVariables false
namespace Go.Proofs.YteknmiggbkhdoaaGreatDoor
section
open Go.RowKit Go.ChangeShapes Go.WideShapes Go.Deep
section
variable {H:Type}{enc:TypeId×Value→H}{P:Program}{w W W':World}{sp:Nat→Bool}{held:Bool}
theorem ZbT {k:IntKind}{n:Int}(h:(Lit.int k n).wf=true):k.min≤n∧n≤k.max:=by
 simpa[Lit.wf]using h
theorem Zta {t:TypeId}{k:IntKind}(ht:P.underlying t=some (.int k)){fuel:Nat}{cs:List Value}{x:DataW H×List MemPlace}(h:DataW.trod enc P w 0 sp held fuel t cs=some x):∃n:Int,cs=[.int k n]∧(k.min≤n∧n≤k.max)∧CellsP w.mem 1 cs (.int k n):=by
 obtain⟨n,rfl,_,hw⟩:=DataW.trod_int ht h;refine⟨n,rfl,ZbT hw,rfl,rfl,fun d hd=>by simp at hd;subst hd;rfl,fun j d c h1 h2=>?_⟩;cases j with
 |zero=>simp[PV.cells]at h1 h2;subst h1 h2;exact .int k n
 |succ j=>simp at h1
end
end
section
open Go.RowKit
set_option maxRecDepth 100000
noncomputable section
def L33:LFn :=⟨4,S [Ox 1 1 0,O 2 (.mov (.c .nilfn))] (S [O 3 (.mkf 58 [] [.t 1]),Om 2 3] .ret),[.tm 2]⟩
def L34:LFn :=⟨45,S [O 4 (.mov (.c (.str ⟨#[]⟩)))] (S [Om 7 1,Oc 8 .add 7 1,O 9 (.bin false .mul (I 11) (.t 8)),Om 5 9] (.seq (S [OM 6 0] (.block 0 (.loop (.seq (S [Om 10 6,Om 11 0,O 12 (.x (.slen (.t 11))),Ob 13 .lss 10 12] (Ce 13 0)) (.seq (.block 1 (.region [Om 16 5,Om 17 6,Oc 18 .add 17 1,Om 19 0,Om 20 6,O 21 (.x (.sidx (.t 19) (.t 20))),O 22 (.conv .i64 (.t 21)),Oc 23 .add 22 1,Ob 24 .mul 18 23,Ob 25 .add 16 24,Om 5 25])) (.region [Om 14 6,Oc 15 .add 14 1,Om 6 15])))))) (S [Om 26 0,O 27 (.x (.slen (.t 26))),Ok 28 60 [.t 27,I 3],O 29 (.x (.scat (.c (.str ⟨#[123]⟩)) (.t 28))),O 30 (.x (.scat (.t 29) (.c (.str ⟨#[58]⟩)))),Om 31 0,O 32 (.x (.slen (.t 31))),O 33 (.bin false .sub (I 999) (.t 32)),Ok 34 60 [.t 33,I 3],O 35 (.x (.scat (.t 30) (.t 34))),O 36 (.x (.scat (.t 35) (.c (.str ⟨#[58]⟩)))),Om 37 5,Oc 38 .rem 37 99991,Ok 39 60 [.t 38,I 5],O 40 (.x (.scat (.t 36) (.t 39))),O 41 (.x (.scat (.t 40) (.c (.str ⟨#[125]⟩)))),Om 42 0,O 43 (.x (.scat (.t 41) (.t 42))),O 44 (.x (.scat (.t 43) (.c (.str ⟨#[10]⟩)))),Om 4 44] .ret))),[.tm 4]⟩
end
end
section
open Go.RowKit
set_option maxRecDepth 100000
noncomputable section
def L18:LFn :=⟨61,S [O 2 (.mov (.c E0)),OM 3 0] (S [O 4 (.mov (.c E0))] (S [OM 5 0] (.seq (.block 0 (.loop (.seq (S [Om 9 4,On 10 9,Oc 11 .lss 10 50] (Ce 11 0)) (.block 1 (S [O 6 (.mov Bf)] (.seq (S [OM 7 0] (.block 2 (.loop (.seq (S [Om 12 7,Oc 13 .leq 12 200,Om 14 13,G 15 14 true (M 5),G 16 14 true (.bin false .add (.t 15) (I 16)),G 17 14 true (M 7),G 18 14 true (.bin false .add (.t 16) (.t 17)),G 19 14 true (M 0),G 20 14 true (.x (.slen (.t 19))),G 21 14 true (.bin false .leq (.t 18) (.t 20)),O 22 (.pick (.t 14) (.t 21) Bf),Om 23 22,G 24 23 true (M 6),G 25 23 true (.not (.t 24)),O 26 (.pick (.t 23) (.t 25) Bf)] (Ce 26 2)) (.seq (.block 3 (S [Om 29 0,Om 30 5,Oc 31 .add 30 15,Om 32 5,Oc 33 .add 32 15,Om 34 7,Ob 35 .add 33 34,O 36 (.x (.ssl (.t 29) (some (.t 31)) (some (.t 35)))),Om 8 36] (S [Om 37 0,Om 38 5,Om 39 5,Oc 40 .add 39 16,Om 41 7,Ob 42 .add 40 41,O 43 (.x (.ssl (.t 37) (some (.t 38)) (some (.t 42)))),Om 44 8,Om 45 4,On 46 45,Ok 47 34 [.t 44,.t 46],O 48 (.x (.eqv false ⟨false,[.str]⟩ (.t 43) (.t 47)))] (Cd 48 (.region [Om 49 4,Om 50 8,O 51 (.bslice 9 1 [.t 50]),O 52 (.app 9 1 16 (.t 49) (.t 51)),Om 53 5,Oc 54 .add 53 16,Om 55 7,Ob 56 .add 54 55,Om 4 52,Om 5 56,O 6 (.mov Bt)]) .skip)))) (.region [Om 27 7,Oc 28 .add 27 1,Om 7 28])))))) (S [Om 57 6,Oo 58 57] (Cd 58 (.exit 0) .skip)))))))) (S [Om 59 4,Om 60 5,Om 2 59,Om 3 60] .ret)))),[.tm 2,.tm 3]⟩
def L21:LFn :=⟨20,S [O 2 (.mov (.c (.str ⟨#[]⟩)))] (S [O 3 (.mov (.c (.str ⟨#[]⟩)))] (.seq (S [OM 4 0] (.block 0 (.loop (.seq (S [Om 5 4,Om 6 0,On 7 6,Ob 8 .lss 5 7] (Ce 8 0)) (.seq (.block 1 (.region [Om 11 3,Om 12 0,Om 13 4,Oi 14 1 12 13,Ol 15 1 14,Om 16 4,Ok 17 34 [.t 15,.t 16],O 18 (.x (.scat (.t 11) (.t 17))),Om 3 18])) (.region [Om 9 4,Oc 10 .add 9 1,Om 4 10])))))) (S [Om 19 3,Om 2 19] .ret))),[.tm 2]⟩
def L58:LFn :=⟨79,S [OM 3 0] (S [OM 4 0] (.block 0 (.loop (.seq (S [Ol 8 1 1,On 9 8,Om 10 3,Ob 11 .sub 9 10,Oc 12 .gtr 11 15] (Ce 12 0)) (.seq (.block 1 (S [Ol 16 1 1,Om 17 3,Oc 18 .add 17 1,Om 19 3,Oc 20 .add 19 1,Oc 21 .add 20 3,O 22 (.slc 1 none (.t 16) (some (.t 18)) (some (.t 21)) none),O 23 (.x (.sof (.t 22))),Ok 24 59 [.t 23],Om 15 24,Oe 25 15 0,Oe 26 15 1,Om 5 25,Om 6 26] (.seq (S [Om 27 6,O 28 (.x (.nif true (.t 27))),Om 29 28,G 30 29 false (M 5),G 31 29 false (.bin false .lss (.t 30) (I 0)),O 32 (.pick (.t 29) Bt (.t 31)),Om 33 32,G 34 33 false (M 5),G 35 33 false (.bin false .gtr (.t 34) (I 200)),O 36 (.pick (.t 33) Bt (.t 35)),Om 37 36,G 38 37 false (M 3),G 39 37 false (.bin false .add (.t 38) (I 15)),G 40 37 false (M 5),G 41 37 false (.bin false .add (.t 39) (.t 40)),G 42 37 false (.bin false .add (.t 41) (I 1)),G 43 37 false (.load false 1 (.t 1)),G 44 37 false (.len none (.t 43)),G 45 37 false (.bin false .gtr (.t 42) (.t 44)),O 46 (.pick (.t 37) Bt (.t 45))] (Cd 46 .ret .skip)) (S [Ol 47 1 1,Om 48 3,Oc 49 .add 48 15,Om 50 3,Oc 51 .add 50 15,Om 52 5,Ob 53 .add 51 52,O 54 (.slc 1 none (.t 47) (some (.t 49)) (some (.t 53)) none),O 55 (.x (.sof (.t 54))),Om 7 55] (.seq (.seq (.regT (.op (Of 57 (M 3)) (.op (Of 58 (M 3)) (.op (Of 59 (.bin false .add (.t 58) (I 15))) (.op (Of 60 (M 5)) (.op (Of 61 (.bin false .add (.t 59) (.t 60))) (.op (Of 62 (.bin false .add (.t 61) (I 1))) (.op (Of 65 (M 7)) (.op (Of 66 (M 4)) (.op (Of 56 (.load false 1 (.t 1))) (.op (O 63 (.slc 1 none (.t 56) (some (.t 57)) (some (.t 62)) none)) (.seq (.alt (O 64 (.x (.sof (.t 63)))) (.alt (Of 67 (.call (C 57) [.t 65,.t 66])) .done .no) (.alt (Of 67 (.call (C 57) [.t 65,.t 66])) (.alt (O 64 (.x (.sof (.t 63)))) .done .no) .no)) (.op (O 68 (.x (.eqv true ⟨false,[.str]⟩ (.t 64) (.t 67)))) .done))))))))))))) (Cd 68 .ret .skip)) (S [Om 69 3,Om 70 5,O 71 (.bin false .add (I 15) (.t 70)),Oc 72 .add 71 1,Ob 73 .add 69 72,Om 3 73] (S [Om 74 0,Om 75 7,Om 76 3,O 77 (.call (.t 74) [.t 75,.t 76]),Oo 78 77] (Cd 78 .ret .skip)))))))) (.region [Om 13 4,Oc 14 .add 13 1,Om 4 14])))))),[]⟩
def L60:LFn :=⟨15,S [O 4 (.mov (.c (.str ⟨#[]⟩)))] (S [Om 6 0,Ok 7 96 [.t 6],Om 5 7] (.seq (.block 0 (.loop (.seq (S [Om 8 5,O 9 (.x (.slen (.t 8))),Om 10 1,Ob 11 .lss 9 10] (Ce 11 0)) (.block 1 (.region [Om 12 5,O 13 (.x (.scat (.c (.str ⟨#[48]⟩)) (.t 12))),Om 5 13]))))) (S [Om 14 5,Om 4 14] .ret))),[.tm 4]⟩
def L96:LFn :=⟨23,S [O 2 (.mov (.c (.str ⟨#[]⟩)))] (.seq (S [Om 3 0,Oc 4 .lss 3 0] (Cd 4 (S [Om 5 0,O 6 (.neg (.t 5)),Ok 7 96 [.t 6],O 8 (.x (.scat (.c (.str ⟨#[45]⟩)) (.t 7))),Om 2 8] .ret) .skip)) (.seq (S [Om 9 0,Oc 10 .lss 9 10] (Cd 10 (S [Om 11 0,O 12 (.bin false .add (I 48) (.t 11)),O 13 (.conv .u8 (.t 12)),O 14 (.bslice 5 1 [.t 13]),O 15 (.x (.sof (.t 14))),Om 2 15] .ret) .skip)) (S [Om 16 0,Oc 17 .quo 16 10,Ok 18 96 [.t 17],Om 19 0,Oc 20 .rem 19 10,Ok 21 96 [.t 20],O 22 (.x (.scat (.t 18) (.t 21))),Om 2 22] .ret))),[.tm 2]⟩
end
end
section
open Go.RowKit
set_option maxRecDepth 100000
noncomputable section
def L17:LFn :=⟨20,S [O 2 (.alloc E0),O 3 (.alloc Z0)] (.seq .skip (.seq (S [Om 6 0,Ok 7 33 [.t 6]] (.block 0 (.rng 20 (.t 7) (rcode Tryz.prog 17 0) Y17_0a Y17_0b [8,9]))) (.seq (.regT (.op (Of 18 (.load false 1 (.t 2))) (.seq (.alt (Of 19 (.load false 1 (.t 3))) (.alt (Nf (.store 1 (.t 2) (.t 18))) .done .no) (.alt (Nf (.store 1 (.t 2) (.t 18))) (.op (Of 19 (.load false 1 (.t 3))) .done) .no)) (.alt (Ns 1 3 19) .done .no)))) .ret))),[.cell 2 false 1,.cell 3 false 1]⟩
theorem L17_ok:litF Tryz.prog 17=some L17:=by kernel_rfl
end
end
section
open Go.RowKit
set_option maxRecDepth 100000
noncomputable section
def L4:LFn :=⟨76,S [O 4 (.mov Bf)] (.seq (S [Om 12 0,Ok 13 9 [.t 12],Oo 14 13,Om 15 14,G 16 15 false (M 1),G 17 15 false (.len none (.t 16)),G 18 15 false (.bin false .gtr (.t 17) (I 4000)),O 19 (.pick (.t 15) Bt (.t 18))] (Cd 19 (S [Ok 20 11 [],Om 4 20] .ret) .skip)) (S [Om 22 0,Ok 23 16 [.t 22],Ok 24 15 [.t 23],Om 21 24,Oe 25 21 0,Oe 26 21 1,Om 5 25,Om 6 26] (S [O 28 (.bslice 5 1 []),Om 29 1,O 30 (.app0 5 1 1 (.t 28) (.t 29)),Ok 31 17 [.t 30],Om 27 31,Oe 32 27 0,Oe 33 27 1,Om 7 32,Om 8 33] (S [Om 35 1,O 36 (.x (.sof (.t 35))),Ok 37 18 [.t 36],Om 34 37,Oe 38 34 0,Oe 39 34 1,Om 9 38,Om 10 39] (.seq (S [Om 40 7,Om 41 9,Ok 42 19 [.t 40,.t 41],Oo 43 42,Om 44 43,G 45 44 false (M 8),G 46 44 false (M 10),G 47 44 false (.bin false .neq (.t 45) (.t 46)),O 48 (.pick (.t 44) Bt (.t 47))] (Cd 48 (S [O 4 (.mov Bf)] .ret) .skip)) (.seq (S [Om 49 0,Ok 50 20 [.t 49],Om 11 50] (S [Om 51 11,Oc 52 .neq 51 0] (Cd 52 (S [Om 53 6,Om 54 11,Ob 55 .eql 53 54,Om 56 55,G 57 56 true (M 5),G 58 56 true (.len none (.t 57)),G 59 56 true (.bin false .eql (.t 58) (I 0)),O 60 (.pick (.t 56) (.t 59) Bf),Om 61 60,G 62 61 true (.call (C 11) []),O 63 (.pick (.t 61) (.t 62) Bf),Om 4 63] .ret) .skip))) (.seq (.regT (.op (Om 64 6) (.op (Oc 65 .eql 64 0) (.op (Om 66 65) (.op (G 67 66 true (M 5)) (.op (G 69 66 true (M 0)) (.seq (.alt (G 68 66 true (.x (.sof (.t 67)))) (.alt (G 70 66 true (.call (C 21) [.t 69])) .done .no) (.alt (G 70 66 true (.call (C 21) [.t 69])) (.alt (G 68 66 true (.x (.sof (.t 67)))) .done .no) .no)) (.op (G 71 66 true (.x (.eqv false ⟨false,[.str]⟩ (.t 68) (.t 70)))) (.op (O 72 (.pick (.t 66) (.t 71) Bf)) (.op (Om 73 72) (.alt (G 74 73 true (.call (C 11) [])) (.op (O 75 (.pick (.t 73) (.t 74) Bf)) (.op (Om 4 75) .done)) .no))))))))))) .ret))))))),[.tm 4]⟩
def L19:LFn :=⟨26,S [O 4 (.mov Bf)] (.seq (S [Om 6 0,On 7 6,Om 8 1,On 9 8,Ob 10 .neq 7 9] (Cd 10 (S [O 4 (.mov Bf)] .ret) .skip)) (.seq (S [OM 5 0] (.block 0 (.loop (.seq (S [Om 11 5,Om 12 0,On 13 12,Ob 14 .lss 11 13] (Ce 14 0)) (.seq (.block 1 (S [Of 17 (M 0),Of 18 (M 5),Of 19 (.ia 1 none (.t 17) (.t 18)),Of 21 (M 1),Of 22 (M 5),Of 23 (.ia 1 none (.t 21) (.t 22)),Of 20 (.load false 1 (.t 19)),Of 24 (.load false 1 (.t 23)),O 25 (.x (.eqv true ⟨false,[.str]⟩ (.t 20) (.t 24)))] (Cd 25 (S [O 4 (.mov Bf)] .ret) .skip))) (.region [Om 15 5,Oc 16 .add 15 1,Om 5 16])))))) (S [O 4 (.mov Bt)] .ret))),[.tm 4]⟩
def L20:LFn :=⟨6,S [OM 2 0] (.seq (S [Om 3 0,Ok 4 10 [.t 3],Oo 5 4] (Cd 5 (S [OM 2 3] .ret) .skip)) (S [OM 2 0] .ret)),[.tm 2]⟩
end
end
section
open Go.RowKit
set_option maxRecDepth 100000
noncomputable section
theorem L17_tab:tabOk (tyOf tys) L17.code:=by repeat' (first|exact trivial|rfl|apply And.intro)
end
end
section
open Go.RowKit
def num3 (l:List UInt8):Int:=match Lib.atoiAll l with
 |.ok v=>v
 |_=>-1
theorem Zbp (n:Nat)(h:n≤200):num3 (dig3 n).data.toList=n:=by
 have:∀n:Fin 201,num3 (dig3 n.1).data.toList=(n.1:Int):=by decide +kernel
 exact this ⟨n,by omega⟩
def oneM (b:List UInt8)(at_ i:Nat):Option ByteArray:=
 if at_+15<b.length then
  (if 0≤num3 ((b.drop (at_+1)).take 3)∧num3 ((b.drop (at_+1)).take 3)≤200∧at_+16+(num3 ((b.drop (at_+1)).take 3)).toNat≤b.length then
   (if(b.drop at_).take (16+(num3 ((b.drop (at_+1)).take 3)).toNat)=rcdL ⟨((b.drop (at_+15)).take (num3 ((b.drop (at_+1)).take 3)).toNat).toArray⟩ i then some ⟨((b.drop (at_+15)).take (num3 ((b.drop (at_+1)).take 3)).toNat).toArray⟩else none)
  else none)
 else none
theorem ZaP {b:List UInt8}{at_ i:Nat}{s:ByteArray}:oneM b at_ i=some s↔s.size≤200∧∃r,b.drop at_=rcdL s i++r:=by
 unfold oneM;generalize hn:num3 ((b.drop (at_+1)).take 3)=n;constructor
 ·intro h;split at h
  ·split at h
   ·split at h
    ·rename_i h1 h2 h3;cases h;have hsz:(⟨((b.drop (at_+15)).take n.toNat).toArray⟩:ByteArray).size=n.toNat:=by
      show((b.drop (at_+15)).take n.toNat).length=_;rw[Zt6,Zuh];omega
     refine⟨by rw[hsz];omega,(b.drop at_).drop (16+n.toNat),?_⟩;rw[←h3,ZuS]
    ·cases h
   ·cases h
  ·cases h
 ·rintro⟨h1,r,h2⟩;have hl:b.length-at_=16+s.size+r.length:=by
   have:=congrArg List.length h2
   rw[Zuh,Zt9,Zaq]at this;exact this
  have hd1:(b.drop (at_+1)).take 3=(dig3 s.size).data.toList:=by
   rw[←ZuM,h2,Za9];rfl
  have hn':n=s.size:=by rw[←hn,hd1,Zbp _ h1]
  subst hn';have hs:(b.drop (at_+15)).take ((s.size:Nat):Int).toNat=s.data.toList:=by
   rw[←ZuM,h2,Za9];show((s.data.toList++[10])++r).take s.size=_;rw[ZuD];exact List.take_left' rfl
  have hsb:(⟨((b.drop (at_+15)).take ((s.size:Nat):Int).toNat).toArray⟩:ByteArray)=s:=by
   rw[hs]
  rw[hsb,if_pos (by omega),if_pos ⟨by omega,by omega,by omega⟩,if_pos];rw[h2];exact List.take_left' (Zaq s i)
def readM (b:List UInt8):Nat→Nat→Nat→List (ByteArray×Nat)
 |0,_,_=>[]
 |f+1,at_,i=>match oneM b at_ i with
  |some s=>(s,at_+16+s.size)::readM b f (at_+16+s.size) (i+1)
  |none=>[]
theorem Zbg {b:List UInt8}{at_ i:Nat}{s:ByteArray}(h:oneM b at_ i=some s):at_+16+s.size≤b.length:=by
 obtain⟨_,r,h2⟩:=ZaP.1 h
 have:=congrArg List.length h2
 rw[Zuh,Zt9,Zaq]at this;omega
theorem Za5 {b:List UInt8}:∀{f f' at_ i:Nat},b.length<at_+f→b.length<at_+f'→readM b f at_ i=readM b f' at_ i
 |0,f',at_,i,h,h'=>by
  cases f' with
  |zero=>rfl
  |succ f'=>
   unfold readM;cases ho:oneM b at_ i with
   |none=>rfl
   |some s=>have:=Zbg ho;omega
 |f+1,f',at_,i,h,h'=>by
  cases f' with
  |zero=>
   unfold readM;cases ho:oneM b at_ i with
   |none=>rfl
   |some s=>have:=Zbg ho;omega
  |succ f'=>
   unfold readM;cases ho:oneM b at_ i with
   |none=>rfl
   |some s=>
    dsimp only;rw[Za5 (f:=f) (f':=f') (by omega) (by omega)]
def restM (b:List UInt8)(at_ i:Nat):List (ByteArray×Nat):=readM b (b.length+1) at_ i
theorem Za0 {b:List UInt8}{at_ i:Nat}(h:oneM b at_ i=none):restM b at_ i=[]:=by
 unfold restM readM;rw[h]
theorem ZaL {b:List UInt8}{at_ i:Nat}{s:ByteArray}(h:oneM b at_ i=some s):restM b at_ i=(s,at_+16+s.size)::restM b (at_+16+s.size) (i+1):=by
 unfold restM
 conv=>lhs;unfold readM
 rw[h];dsimp only;rw[Za5 (f:=b.length) (f':=b.length+1) (by omega) (by omega)]
def lastE:List (ByteArray×Nat)→Nat
 |[]=>0
 |[x]=>x.2
 |_::y::l=>lastE (y::l)
def recM (b:List UInt8):List ByteArray×Nat:=(((restM b 0 0).take 50).map (·.1),lastE ((restM b 0 0).take 50))
theorem Za1 {x:ByteArray×Nat}:∀{l:List (ByteArray×Nat)},lastE (l++[x])=x.2
 |[]=>rfl
 |[y]=>rfl
 |y::z::l=>by
  show lastE (y::z::(l++[x]))=_;unfold lastE;exact Za1 (l:=z::l)
end
section
open Go.RowKit
set_option maxRecDepth 10000
attribute [local simp] AS.exp expG Box.ren AV.map AV.mapL Zau noRet Site.isRet Box.allS AV.allS AV.allSL retB dropL AS.adds renL outG outOk Zas inG fnOf lookA Zuq
attribute [local simp] Box.purge Site.isLoc
attribute [local simp] retFz frzL AS.frz AV.frz AV.frzL Box.frz AS.tidy AS.frzC frzsL retOk renB toLoc
def bA (l:List UInt8):ByteArray:=⟨l.toArray⟩
end
section
open Go.RowKit Go.ChangeShapes Go.WideShapes Go.ChangeAt Go.Deep
set_option maxRecDepth 100000
section
variable {H:Type}{enc:TypeId×Value→H}{W:World}{sp:Nat→Bool}{held:Bool}{r:Reach}{base:Nat}
theorem cU8:Tryz.prog.cellsOf 5=1:=by kernel_rfl
theorem ZoC {v:Value}{fuel:Nat}{x:DataW H×List MemPlace}(hok:Value.okWide Tryz.prog W r base 42 v)(h:DataW.trod enc Tryz.prog W 0 sp held fuel 42 v.cells.toList=some x):
  ∃b:List UInt8,RdP W.mem v (.lst false 1 (bP b)):=by
 obtain⟨_,_,_,rfl⟩:=okWide_slice Tryz.underlying42 hok;obtain⟨l,hl,_,h2⟩:=Ziu (n:=1) (PV.int .u8) (fun y=>0≤y∧y<256) Tryz.underlying42 cU8 (by omega) h (fun k cs y hy hl=>by
  obtain⟨m,e,g,hr⟩:=Zta Tryz.underlying5 hy;have e1:IntKind.u8.min=0:=by decide
  have e2:IntKind.u8.max=255:=by decide
  exact⟨m,⟨by omega,by omega⟩,hr⟩)
 refine⟨l.map fun y=>UInt8.ofNat y.toNat,?_⟩;have e:bP (l.map fun y=>UInt8.ofNat y.toNat)=l.map (PV.int .u8):=by
  unfold bP;rw[List.map_map];refine List.map_congr_left fun y hy=>?_
  obtain⟨h0,h1⟩:=hl y hy;show PV.int .u8 ((UInt8.ofNat y.toNat).toNat:Int)=_;rw[UInt8.toNat_ofNat'];congr 1;omega
 rw[e];exact h2
end
end
section
open Go.RowKit
set_option maxRecDepth 10000
attribute [local simp] AS.exp expG Box.ren AV.map AV.mapL Zau noRet Site.isRet Box.allS AV.allS AV.allSL retB dropL AS.adds renL outG outOk Zas inG fnOf lookA Zuq
attribute [local simp] Box.purge Site.isLoc
def decB (n:Nat):ByteArray:=⟨(Lib.decDigits n).toArray⟩
theorem Zi3 {n:Nat}(h:n<10):decB n=⟨#[UInt8.ofNat (48+n)]⟩:=by
 unfold decB Lib.decDigits;rw[dif_pos h]
theorem Zhj {n:Nat}(h:¬n<10):decB n=decB (n / 10)++decB (n%10):=by
 rw[Zi3 (n:=n%10) (by omega)];unfold decB
 conv=>lhs;unfold Lib.decDigits
 rw[dif_neg h];apply ByteArray.ext;rw[ByteArray.data_append];simp
theorem ZnB (n:Nat):∀k,n<10^(k+1)→(decB n).size≤k+1:=by
 induction n using Nat.strongRecOn with
 |_ n ih=>
  intro k hk;by_cases h:n<10
  ·rw[Zi3 h];show 1≤k+1;omega
  ·rw[Zhj h,ByteArray.size_append,Zi3 (n:=n%10) (by omega)];cases k with
   |zero=>simp at hk;omega
   |succ k=>
    have:=ih (n / 10) (by omega) k (by rw[Nat.pow_succ]at hk;omega)
    show(decB (n / 10)).size+1≤_;omega
theorem Zs0:∀(n:Nat),n<1000000000000→Gives Tryz.prog 96 [.int .i64 (n:Int)] (.str (decB n)):=by
 intro n;induction n using Nat.strongRecOn with
 |_ n ih=>
  intro hn;have h0:¬((n:Int)<0):=by omega
  refine cS L96 ?_;by_cases h:n<10
  ·have h1:(n:Int)<10:=by omega
   have w1:IntKind.i64.wrap (48+(n:Int))=48+(n:Int):=wrap64 (by omega);have w2:IntKind.u8.wrap (48+(n:Int))=48+(n:Int):=by rw[show IntKind.u8.wrap (48+(n:Int))=(48+(n:Int))%256 from rfl];omega
   have w3:(48+(n:Int)).toNat=48+n:=by omega
   have hd:=Zi3 h;simp[-getElem?_pos,L96,h0,h1,w1,w2,Zbk,Zcb,w3,hd]
  ·have h1:¬((n:Int)<10):=by omega
   have c1:=ih (n / 10) (by omega) (by omega);have c2:=ih (n%10) (by omega) (by omega);have w1:IntKind.i64.wrap ((n:Int) / 10)=((n / 10:Nat):Int):=by rw[wrap64 (by omega)];omega
   have w2:(n:Int).tmod 10=((n%10:Nat):Int):=by rw[Int.tmod_eq_emod_of_nonneg (by omega)];rfl
   have w3:(n:Int).tdiv 10=(n:Int) / 10:=by rw[Int.tdiv_eq_ediv_of_nonneg (by omega)]
   have w4:IntKind.i64.wrap ((n%10:Nat):Int)=((n%10:Nat):Int):=wrap64 (by omega);have hd:=Zhj h;have s1:=ZnB (n / 10) 12 (by omega);have s2:=ZnB (n%10) 12 (by omega);have s3:(decB (n / 10)).size+(decB (n%10)).size≤9223372036854775807:=by omega
   simp[-getElem?_pos,L96,h0,h1,w1,w2,w3,w4];refine cG [.int .i64 ((n / 10:Nat):Int)] c1 ?_;simp[-getElem?_pos,w2,w4];refine cG [.int .i64 ((n%10:Nat):Int)] c2 ?_;simp[-getElem?_pos,nble,s3,hd]
def padB:Nat→ByteArray→ByteArray
 |0,s=>s
 |k+1,s=>padB k (⟨#[48]⟩++s)
def wideB (n many:Nat):ByteArray:=padB (many-(decB n).size) (decB n)
theorem ZlR (n many:Nat)(hn:n<1000000000000)(hm:many≤100):Gives Tryz.prog 60 [.int .i64 (n:Int),.int .i64 (many:Int)] (.str (wideB n many)):=by
 have ht:=Zs0 n hn;refine cSR L60 ?_;intro R hR;simp[-getElem?_pos,L60];refine cG [.int .i64 (n:Int)] ht ?_;simp[-getElem?_pos];refine Zae (fun m τ=>∃s:ByteArray,m=many-s.size∧padB (many-s.size) s=wideB n many∧τ=⟨[(1,.pv (.int .i64 (many:Int))),(5,.pv (.str s))],[]⟩)
  ⟨_,⟨[(1,.pv (.int .i64 (many:Int))),(5,.pv (.str (decB n)))],[]⟩,Sub.mk (by simp) (by simp),decB n,rfl,rfl,rfl⟩ ?_
 rintro J hJ m τ ⟨s,rfl,hp,rfl⟩;by_cases hlt:s.size<many
 ·have hlt':((s.size:Int)<(many:Int)):=by omega
  have hz:(⟨#[48]⟩++s:ByteArray).size=1+s.size:=by rw[ByteArray.size_append];rfl
  have h1:1+s.size≤9223372036854775807:=by omega
  have hq:(⟨#[48]⟩:ByteArray).size=1:=rfl;obtain⟨k,hk⟩:∃k,many-s.size=k+1:=⟨many-s.size-1,by omega⟩;have hn:=hJ (many-(⟨#[48]⟩++s:ByteArray).size) _ ⟨⟨#[48]⟩++s,rfl,by rw[hz,show many-(1+s.size)=k by omega,←hp,hk];rfl,rfl⟩;simp[-getElem?_pos,nble,hlt,hq,h1];exact⟨_,_,(by rw[hz];omega:many-(⟨#[48]⟩++s:ByteArray).size<many-s.size),Sub.mk (by simp) (by simp),hn⟩
 ·have e:many-s.size=0:=by omega
  rw[e]at hp;simp[-getElem?_pos,hlt];rw[←hR];exact⟨by rw[←hp];rfl,by simp⟩
theorem dgs {n:Nat}:decB (n%10)=⟨#[UInt8.ofNat (dg n)]⟩:=by rw[Zi3 (by omega)];rfl
theorem dec1 {n:Nat}(h:n<10):decB n=⟨#[UInt8.ofNat (dg n)]⟩:=by rw[←dgs,Nat.mod_eq_of_lt h]
theorem dec2 {n:Nat}(h0:10≤n)(h:n<100):decB n=⟨#[UInt8.ofNat (dg (n / 10)),UInt8.ofNat (dg n)]⟩:=by
 rw[Zhj (by omega),dgs,dec1 (n:=n / 10) (by omega)];rfl
theorem dec3 {n:Nat}(h0:100≤n)(h:n<1000):decB n=⟨#[UInt8.ofNat (dg (n / 10 / 10)),UInt8.ofNat (dg (n / 10)),UInt8.ofNat (dg n)]⟩:=by
 rw[Zhj (by omega),dgs,dec2 (n:=n / 10) (by omega) (by omega)];rfl
theorem dec4 {n:Nat}(h0:1000≤n)(h:n<10000):decB n=⟨#[UInt8.ofNat (dg (n / 10 / 10 / 10)),UInt8.ofNat (dg (n / 10 / 10)),UInt8.ofNat (dg (n / 10)),UInt8.ofNat (dg n)]⟩:=by
 rw[Zhj (by omega),dgs,dec3 (n:=n / 10) (by omega) (by omega)];rfl
theorem dec5 {n:Nat}(h0:10000≤n)(h:n<100000):decB n=dig5 n:=by
 rw[Zhj (by omega),dgs,dec4 (n:=n / 10) (by omega) (by omega)];rfl
theorem dg0 {n:Nat}(h:n=0):UInt8.ofNat (dg n)=48:=by subst h;rfl
theorem wide3 {n:Nat}(h:n<1000):wideB n 3=dig3 n:=by
 unfold wideB dig3;by_cases h1:n<10
 ·rw[dec1 h1,dg0 (n:=n / 10 / 10) (by omega),dg0 (n:=n / 10) (by omega)];rfl
 by_cases h2:n<100
 ·rw[dec2 (by omega) h2,dg0 (n:=n / 10 / 10) (by omega)];rfl
 ·rw[dec3 (by omega) h];rfl
theorem wide5 {n:Nat}(h:n<100000):wideB n 5=dig5 n:=by
 unfold wideB;by_cases h1:n<10
 ·unfold dig5;rw[dec1 h1,dg0 (n:=n / 10 / 10 / 10 / 10) (by omega),dg0 (n:=n / 10 / 10 / 10) (by omega),dg0 (n:=n / 10 / 10) (by omega),dg0 (n:=n / 10) (by omega)];rfl
 by_cases h2:n<100
 ·unfold dig5;rw[dec2 (by omega) h2,dg0 (n:=n / 10 / 10 / 10 / 10) (by omega),dg0 (n:=n / 10 / 10 / 10) (by omega),dg0 (n:=n / 10 / 10) (by omega)];rfl
 by_cases h3:n<1000
 ·unfold dig5;rw[dec3 (by omega) h3,dg0 (n:=n / 10 / 10 / 10 / 10) (by omega),dg0 (n:=n / 10 / 10 / 10) (by omega)];rfl
 by_cases h4:n<10000
 ·unfold dig5;rw[dec4 (by omega) h4,dg0 (n:=n / 10 / 10 / 10 / 10) (by omega)];rfl
 ·rw[dec5 (by omega) h];rfl
end
section
open Go.RowKit
set_option maxRecDepth 10000
attribute [local simp] AS.exp expG Box.ren AV.map AV.mapL Zau noRet Site.isRet Box.allS AV.allS AV.allSL retB dropL AS.adds renL outG outOk Zas inG fnOf lookA Zuq
attribute [local simp] Box.purge Site.isLoc
attribute [local simp] retFz frzL AS.frz AV.frz AV.frzL Box.frz AS.tidy AS.frzC frzsL retOk renB toLoc
theorem Zs7 {s:ByteArray}{k:Nat}{b:UInt8}(h:s.data.toList[k]?=some b):sAt s (k:Int)=some b:=by
 unfold sAt;rw[ZuO]at h;obtain⟨hl,he⟩:=Zuv.1 h;have hk:k<s.size:=hl;rw[if_pos (by omega),Int.toNat_natCast,getElem?_pos s k hk];exact congrArg some he
def frS (s:ByteArray)(i k:Nat):AS:=⟨[(0,.pv (.str s)),(5,.pv (.int .i64 ((11*(i+1)+chkL (s.data.toList.take k) 0:Nat):Int))),(6,.pv (.int .i64 (k:Int)))],[]⟩
theorem ZkO (s:ByteArray)(i:Nat)(hs:s.size≤999)(hi:i≤1000):Gives Tryz.prog 34 [.str s,.int .i64 i] (.str (recB s i)):=by
 refine cSR L34 ?_;intro R hR;have hsz:s.data.toList.length=s.size:=rfl;have hw0:IntKind.i64.wrap ((i:Int)+1)=(i:Int)+1:=wrap64 (by omega);have hw1:IntKind.i64.wrap (11*((i:Int)+1))=11*((i:Int)+1):=wrap64 (by omega);simp[-getElem?_pos,L34,hw0,hw1];refine Zae (fun m τ=>∃k:Nat,k≤s.size∧m=s.size-k∧τ=frS s i k) ⟨s.size,frS s i 0,Sub.mk (by simp[frS,chkL]) (by simp[frS]),0,Zud _,rfl,rfl⟩ ?_;rintro J hJ m τ ⟨k,hk,rfl,rfl⟩;by_cases hlt:k<s.size
 ·obtain⟨b,hx⟩:∃b,s.data.toList[k]?=some b:=⟨s.data.toList[k]'(by omega),Zt3 _⟩;have hg:=Zs7 hx;have hn:=hJ (s.size-(k+1)) _ ⟨k+1,hlt,rfl,rfl⟩;unfold frS at hn;have htk:s.data.toList.take (k+1)=s.data.toList.take k++[b]:=by rw[Zuf,hx];rfl
  rw[htk,ZgB,Zt6,ZuB (by omega)]at hn;have hcl:=ZgC (l:=s.data.toList.take k) (j:=0);rw[Zt6,ZuB (by omega)]at hcl;have hb1:b.toNat+1≤256:=b.toNat_lt;have hkk:k*((0+k)*256)≤999*(999*256):=Nat.mul_le_mul (by omega) (by omega);have hpr:(0+k+1)*(b.toNat+1)≤1000*256:=Nat.mul_le_mul (by omega) hb1;unfold frS;generalize chkL (s.data.toList.take k) 0=C at hn hcl ⊢;have hw2:=wrapK (k:=k) (by omega);have hw3:IntKind.i64.wrap ((b.toNat:Int)+1)=(b.toNat:Int)+1:=wrap64 (by omega);have hpe:((k:Int)+1)*((b.toNat:Int)+1)=(((0+k+1)*(b.toNat+1):Nat):Int):=by rw[Zuk];rfl
  have hwb:IntKind.i64.wrap (b.toNat:Int)=b.toNat:=wrap64 (by omega);generalize(0+k+1)*(b.toNat+1)=P at hn hpr hpe;have hw4:IntKind.i64.wrap (((k:Int)+1)*((b.toNat:Int)+1))=P:=by rw[hpe];exact wrap64 (by omega)
  have hw5:IntKind.i64.wrap (11*((i:Int)+1)+(C:Int)+(P:Int))=11*((i:Int)+1)+((C:Int)+(P:Int)):=by rw[wrap64 (by omega)];omega
  simp[-getElem?_pos,hlt,hg,nble,hw2,hw3,hw4,hw5,hwb];exact⟨_,_,(by omega:s.size-(k+1)<s.size-k),Sub.mk (by simp) (by simp),hn⟩
 ·have he:k=s.size:=by omega
  subst he;have hcl:=ZgC (l:=s.data.toList) (j:=0);rw[hsz]at hcl;have hkk:s.size*((0+s.size)*256)≤999*(999*256):=Nat.mul_le_mul (by omega) (by omega);unfold frS;rw[Zub (by omega)];have h1:=ZlR s.size 3 (by omega) (by omega);have h2:=ZlR (999-s.size) 3 (by omega) (by omega);have h3:=ZlR (chkB s i%99991) 5 (by omega) (by omega);rw[wide3 (by omega)]at h1 h2;rw[wide5 (by omega)]at h3;have z1:(dig3 s.size).size=3:=rfl;have z2:(dig3 (999-s.size)).size=3:=rfl;have z3:(dig5 (chkB s i%99991)).size=5:=rfl;have hrec:recB s i=⟨#[123]⟩++dig3 s.size++⟨#[58]⟩++dig3 (999-s.size)++⟨#[58]⟩++dig5 (chkB s i%99991)++⟨#[125]⟩++s++⟨#[10]⟩:=rfl;have q1:(⟨#[123]⟩:ByteArray).size=1:=rfl;have q2:(⟨#[58]⟩:ByteArray).size=1:=rfl;have q3:(⟨#[125]⟩:ByteArray).size=1:=rfl;have q4:(⟨#[10]⟩:ByteArray).size=1:=rfl;rw[hrec]at hR;have hw6:IntKind.i64.wrap (999-(s.size:Int))=((999-s.size:Nat):Int):=by rw[wrap64 (by omega)];omega
  have hfold:(11*(i+1)+chkL s.data.toList 0:Nat)=chkB s i:=rfl;rw[hfold];have hcb:chkB s i≤1000000000:=by unfold chkB;omega
  have hmod:(chkB s i:Int).tmod 99991=((chkB s i%99991:Nat):Int):=by rw[Int.tmod_eq_emod_of_nonneg (by omega)];rfl
  clear hrec hfold;generalize dig5 (chkB s i%99991)=D5 at h3 z3 hR;generalize dig3 s.size=D1 at h1 z1 hR;generalize dig3 (999-s.size)=D2 at h2 z2 hR;generalize chkB s i=C at h3 hmod;simp[-getElem?_pos];refine cG [.int .i64 s.size,.int .i64 3] h1 ?_;simp[-getElem?_pos,ByteArray.size_append,z1,q1,q2,hw6,nble];refine cG [.int .i64 ((999-s.size:Nat):Int),.int .i64 3] h2 ?_;simp[-getElem?_pos,ByteArray.size_append,z1,z2,q1,q2,hmod,nble];refine cG [.int .i64 ((C%99991:Nat):Int),.int .i64 5] h3 ?_;have hbig:15+s.size≤9223372036854775807:=by omega
  have hbig1:15+s.size+1≤9223372036854775807:=by omega
  simp[-getElem?_pos,ByteArray.size_append,z1,z2,z3,q1,q2,q3,q4,nble,hbig,hbig1];rw[←hR];exact⟨rfl,rfl⟩
theorem ZtT {a b:List UInt8}:bA (a++b)=bA a++bA b:=by
 apply ByteArray.ext;rw[ByteArray.data_append];simp[bA]
theorem ZsG {a:List UInt8}:(bA a).size=a.length:=rfl
theorem ZsH (s:ByteArray):bA s.data.toList=s:=rfl
theorem Zrx (L:List ByteArray)(hl:L.length≤1000)(hs:∀s∈L,s.size≤200):Gives Tryz.prog 21 [strsP L] (.str (bA (fileL L 0))):=by
 refine cSR L21 ?_;intro R hR;simp[-getElem?_pos,L21,strsP];refine Zae (fun m τ=>∃k:Nat,k≤L.length∧m=L.length-k∧τ=⟨[(0,.pv (.lst false 1 (L.map .str))),(3,.pv (.str (bA (fileL (L.take k) 0)))),(4,.pv (.int .i64 (k:Int)))],[]⟩)
  ⟨L.length,⟨[(0,.pv (.lst false 1 (L.map .str))),(3,.pv (.str (bA (fileL (L.take 0) 0)))),(4,.pv (.int .i64 ((0:Nat):Int)))],[]⟩,Sub.mk (by simp[fileL,bA]) (by simp),0,Zud _,rfl,rfl⟩ ?_
 rintro J hJ m τ ⟨k,hk,rfl,rfl⟩;by_cases hlt:k<L.length
 ·obtain⟨s,hx⟩:∃s,L[k]?=some s:=⟨L[k],Zt3 hlt⟩;have hsz:=hs s (Zua hx);have hg:(L.map PV.str)[k]?=some (.str s):=by rw[Zt4,hx];rfl
  have htk:L.take (k+1)=L.take k++[s]:=by rw[Zuf,hx];rfl
  have hn:=hJ (L.length-(k+1)) _ ⟨k+1,hlt,rfl,rfl⟩;have hfl:=ZdY (l:=L.take k) (i:=0) (fun s hs'=>hs s (ZuQ hs'));have hrc:=ZkO s k (by omega) (by omega);have hrs:(recB s k).size=16+s.size:=Zaq s k;rw[htk,Zdf,Zt6,ZuB hk,Zuk,ZtT,show bA (rcdL s k)=recB s k from rfl]at hn;rw[Zt6,ZuB hk]at hfl;have hz:(bA (fileL (L.take k) 0)).size=(fileL (L.take k) 0).length:=rfl;rw[←hz]at hfl;clear hz;generalize bA (fileL (L.take k) 0)=F at hn hfl ⊢;generalize recB s k=R at hn hrs hrc;have hw:=wrapK (k:=k) (by omega);have hmeas:L.length-(k+1)<L.length-k:=by omega
  have h1:F.size+R.size≤9223372036854775807:=by omega
  simp[-getElem?_pos,-List.getElem?_map,hlt,hg,nblt,nble];refine cG [.str s,.int .i64 k] hrc ?_;simp[-getElem?_pos,h1,hw,nble];exact⟨_,_,hmeas,Sub.mk (by simp) (by simp),hn⟩
 ·have he:k=L.length:=by omega
  subst he;rw[Zus];simp[-getElem?_pos];rw[←hR];exact⟨rfl,by simp⟩
def Zfz (L:List ByteArray):Int:=if ZaJ L=true then 0 else 3
theorem ZpX (L:List ByteArray)(hl:L.length≤1000000):Gives Tryz.prog 20 [strsP L] (.int .i64 (Zfz L)):=by
 refine cS L20 ?_;simp[-getElem?_pos,L20];refine cG [strsP L] (Zes L hl) ?_;unfold Zfz;cases h:ZaJ L<;>simp[-getElem?_pos]
theorem sbeq (s t:ByteArray):(s.toList==t.toList)=decide (s=t):=by
 rw[Lib.toList_data,Lib.toList_data,Zuz,beq_iff_eq,decide_eq_true_eq];exact⟨fun h=>ByteArray.ext (ZuG.1 h),fun h=>by rw[h]⟩
theorem ZeX (A B:List ByteArray)(hA:A.length≤1000000):Gives Tryz.prog 19 [strsP A,strsP B] (.bool (decide (A=B))):=by
 refine cSR L19 ?_;intro R hR;by_cases hl:A.length=B.length
 ·have hl':((A.length:Int)=(B.length:Int)):=by omega
  simp[-getElem?_pos,L19,strsP,hl,hl'];refine Zae (fun m τ=>∃k:Nat,k≤A.length∧m=A.length-k∧A.take k=B.take k∧τ=⟨[(0,.pv (.lst false 1 (A.map .str))),(1,.pv (.lst false 1 (B.map .str))),(5,.pv (.int .i64 (k:Int)))],[]⟩)
   ⟨A.length,⟨[(0,.pv (.lst false 1 (A.map .str))),(1,.pv (.lst false 1 (B.map .str))),(5,.pv (.int .i64 ((0:Nat):Int)))],[]⟩,Sub.mk (by simp) (by simp),0,Zud _,rfl,rfl,rfl⟩ ?_
  rintro J hJ m τ ⟨k,hk,rfl,hsame,rfl⟩;by_cases hlt:k<A.length
  ·obtain⟨s,hx⟩:∃s,A[k]?=some s:=⟨A[k],Zt3 hlt⟩;obtain⟨t,hy⟩:∃t,B[k]?=some t:=⟨B[k]'(by omega),Zt3 (by omega)⟩;have hg:(A.map PV.str)[k]?=some (.str s):=by rw[Zt4,hx];rfl
   have hg2:(B.map PV.str)[k]?=some (.str t):=by rw[Zt4,hy];rfl
   have hlt2:k<B.length:=by omega
   have hw:=wrapK (k:=k) (by omega);have hmeas:A.length-(k+1)<A.length-k:=by omega
   by_cases h2:s=t
   ·have hn:=hJ (A.length-(k+1)) _ ⟨k+1,hlt,rfl,by rw[Zuf,Zuf,hx,hy,hsame,h2],rfl⟩;simp[-getElem?_pos,-List.getElem?_map,hlt,hlt2,hg,hg2,nblt,nble,sbeq,h2,hw];exact⟨_,_,hmeas,Sub.mk (by simp) (by simp),hn⟩
   ·have hf:decide (A=B)=false:=by
     rw[decide_eq_false_iff_not];intro e;rw[e,hy]at hx;cases hx;exact h2 rfl
    rw[hf]at hR;simp[-getElem?_pos,-List.getElem?_map,hlt,hlt2,hg,hg2,nblt,nble,sbeq,h2];rw[←hR];exact⟨rfl,by simp⟩
  ·have he:k=A.length:=by omega
   subst he;rw[Zus,hl,Zus]at hsame;have hf:decide (A=B)=true:=by rw[decide_eq_true_eq];exact hsame
   rw[hf]at hR;simp[-getElem?_pos];rw[←hR];exact⟨rfl,by simp⟩
 ·have hl':¬((A.length:Int)=(B.length:Int)):=by omega
  have hf:decide (A=B)=false:=by
   rw[decide_eq_false_iff_not];intro e;exact hl (by rw[e])
  rw[hf]at hR;simp[-getElem?_pos,L19,strsP,hl,hl'];rw[←hR];exact⟨rfl,by simp⟩
end
section
open Go.RowKit
set_option maxRecDepth 10000
def natL (l:List UInt8):List Int:=l.map fun b=>(b.toNat:Int)
theorem Zaw:∀(l:List UInt8),Zbk (bP l)=some (natL l)
 |[]=>rfl
 |b::l=>by
  show(Zbk (bP l)).map _=_;rw[Zaw l];rfl
theorem Zav (l:List UInt8):Zcb (natL l)=bA l:=by
 unfold Zcb natL bA;rw[List.map_map];congr 2
 conv=>rhs;rw[←List.map_id l]
 apply List.map_congr_left;intro b _;show UInt8.ofNat ((b.toNat:Int).toNat)=b;rw[Int.toNat_natCast,UInt8.ofNat_toNat]
theorem Za7 {l:List UInt8}{k:Nat}:(bP l).take k=bP (l.take k):=by unfold bP;rw[List.map_take]
theorem Zbq {l:List UInt8}{k:Nat}:(bP l).drop k=bP (l.drop k):=by unfold bP;rw[List.map_drop]
section
attribute [local simp] AS.exp expG Box.ren AV.map AV.mapL Zau noRet Site.isRet Box.allS AV.allS AV.allSL retB dropL AS.adds renL outG outOk Zas inG fnOf lookA Zuq
attribute [local simp] Box.purge Site.isLoc
attribute [local simp] retFz frzL AS.frz AV.frz AV.frzL Box.frz AS.tidy AS.frzC frzsL retOk renB toLoc
theorem Zb2 (b:List UInt8):Gives Tryz.prog 33 [.lst false 1 (bP b)] (.fn 58 [] [.ref [.lst false 1 (bP b)]]):=by
 refine cF [.loc 1 0] L33 ?_;simp[-getElem?_pos,L33,fnA,unpvs]
theorem cokRv:COk Tryz.prog (tyOf tys) L17.code:=Zdl L17_ok L17_tab
noncomputable def rvL (st:Bool):Box:=.loop (rcode Tryz.prog 17 0) [8,9] 20 [(2,.ptr (.par 1) 0),(3,.ptr (.par 2) 0)] (match st with
 |true=>some (.exit 0)
 |false=>none)
noncomputable def rvX (x:Site)(ls:List ByteArray)(a:Nat)(st:Bool):List (Site×Box):=
 [(.par 0,rvL st),(.par 1,.cells [.vec x 1 0 ls.length]),(.par 2,.cells [.pv (.int .i64 a)]),(x,.arr 9 1 (ls.map .str))]
theorem Zcv (ls:List ByteArray)(a:Nat)(s:ByteArray)(a':Nat)(hl:ls.length≤50):
  ZbM Tryz.prog 0 [.pv (.str s),.pv (.int .i64 a')] (rvX (.par 3) ls a false) (fun r B=>r=.pv (.bool (!decide (ls.length=50)))∧B=if ls.length=50 then rvX (.par 3) ls a true else rvX (.ret 2) (ls++[s]) a' false):=by
 have hcok:COk Tryz.prog (tyOf tys) (.rng 20 (.t 7) (rcode Tryz.prog 17 0) Y17_0a Y17_0b [8,9]):=cokRv.2.2.1.2;refine ZaG mixed hcok.1 hcok.2.1 rfl rfl (by simp) rfl ?_;by_cases h5:ls.length=50
 ·simp[-getElem?_pos,Y17_0a,Y17_0b,rvX,rvL,putL,h5];exact⟨[],[.par 1,.par 2,.par 3],rfl,rfl,by simp[frzL],rfl,by simp[frzL]⟩
 ·have h6:((ls.length:Int)=50)=False:=by simp;omega
  have h1:ls.length+1≤1000000:=by omega
  simp[-getElem?_pos,Y17_0a,Y17_0b,rvX,rvL,putL,h5,h6,h1,nble];exact⟨[],[.par 1,.par 2,.loc 16 0],rfl,rfl,by simp[frzL],rfl,by simp[frzL,h5]⟩
end
attribute [local simp] ZcD ZcC ZcB Zbv Zcy Zcz ZbR
attribute [local simp] AS.exp expG Box.ren AV.map AV.mapL Zau noRet Site.isRet Box.allS AV.allS AV.allSL retB dropL AS.adds renL outG outOk Zas inG Zuq
def rcT (b:List UInt8)(a i:Nat):List (Nat×AV):=[(0,.yld (.par 0)),(1,.pv (.ref [.lst false 1 (bP b)])),(3,.pv (.int .i64 (a:Int))),(4,.pv (.int .i64 (i:Int)))]
structure RvAt (b:List UInt8)(done:List (ByteArray×Nat))(a i:Nat):Prop where
 all:restM b 0 0=done++restM b a i
 ix:done.length=i
 la:lastE done=a
 ab:a≤b.length
theorem RvAt.next {b:List UInt8}{done:List (ByteArray×Nat)}{a i:Nat}{s:ByteArray}(h:RvAt b done a i)(ho:oneM b a i=some s):RvAt b (done++[(s,a+16+s.size)]) (a+16+s.size) (i+1):=
 ⟨by rw[h.all,ZaL ho,ZuD];rfl,by rw[Zt9,h.ix];rfl,Za1,Zbg ho⟩
theorem RvAt.stop {x:Site}{b:List UInt8}{done:List (ByteArray×Nat)}{a i:Nat}(h:RvAt b done a i)(hi:i≤50)(ho:oneM b a i=none):rvX x (done.map (·.1)) a false=rvX x (recM b).1 (recM b).2 (decide (50<(restM b 0 0).length)):=by
 have e:restM b 0 0=done:=by rw[h.all,Za0 ho,Zut]
 unfold recM;rw[e,Zub (by rw[h.ix];exact hi),h.la,decide_eq_false (by rw[h.ix];omega)]
theorem RvAt.full {x:Site}{b:List UInt8}{done:List (ByteArray×Nat)}{a:Nat}{s:ByteArray}(h:RvAt b done a 50)(ho:oneM b a 50=some s):rvX x (done.map (·.1)) a true=rvX x (recM b).1 (recM b).2 (decide (50<(restM b 0 0).length)):=by
 have e:restM b 0 0=done++(s,a+16+s.size)::restM b (a+16+s.size) (50+1):=by rw[h.all,ZaL ho]
 unfold recM;rw[e,List.take_left' h.ix,h.la,decide_eq_true (by rw[Zt9,Zuu,h.ix];omega)]
set_option maxHeartbeats 16000000 in
theorem Zfw (b:List UInt8)(hb:b.length≤1000000):
  Zak Tryz.prog 58 [.yld (.par 0),.pv (.ref [.lst false 1 (bP b)])] (rvX (.par 3) [] 0 false) (fun q B=>q=.pv (.tup [])∧B=rvX (.ret 3) (recM b).1 (recM b).2 (decide (50<(restM b 0 0).length))):=by
 refine cBR [.par 0,.par 1,.par 2,.loc 90 0] L58 ?_;intro R hR;simp[-getElem?_pos,L58,-retB];refine Zae (fun m τ=>∃(done:List (ByteArray×Nat)) (a i:Nat),m=51-i∧i≤50∧RvAt b done a i∧τ=⟨rcT b a i,rvX (.loc 90 0) (done.map (·.1)) a false⟩)
  ⟨51,⟨rcT b 0 0,rvX (.loc 90 0) [] 0 false⟩,Sub.trans' (Sub.mk ?_ ?_) (Sub.ren 90 (.par 3) _),[],0,0,rfl,by omega,⟨rfl,rfl,rfl,Zud _⟩,rfl⟩ ?_
 ·simp[rcT,AS.ren,renS,AS.purge,AV.purge,AV.has]
 ·simp[rvX,rvL,AS.ren,renS,AS.purge,AV.purge,AV.has]
 rintro J hJ m τ ⟨done,a,i,rfl,hi,hat,rfl⟩;have hab:=hat.ab;have stop:oneM b a i=none→R (.pv (.tup [])) (rvX (.ret 3) (done.map (·.1)) a false):=fun ho=>by
  rw[←hR];exact⟨rfl,by rw[hat.stop hi ho]⟩
 have hw0:IntKind.i64.wrap ((b.length:Int)-(a:Int))=(b.length:Int)-(a:Int):=wrap64 (by omega);have hdm:(List.map (fun x:ByteArray×Nat=>x.fst) done).length=done.length:=Zuc _;by_cases h1:a+15<b.length
 ·have h1':(15:Int)<(b.length:Int)-(a:Int):=by omega
  have hw1:IntKind.i64.wrap ((a:Int)+1)=(a:Int)+1:=wrap64 (by omega);have hw2:IntKind.i64.wrap ((a:Int)+1+3)=(a:Int)+1+3:=wrap64 (by omega);have hn1:natI ((a:Int)+1+3)=some (a+1+3):=Zaz.2 (by omega);have hb1:a+1+3≤b.length:=by omega
  have hS:List.drop (a+1) (List.take (a+1+3) (bP b))=bP ((b.drop (a+1)).take 3):=by rw[Za7,Zbq,List.drop_take,show a+1+3-(a+1)=3 by omega]
  have hS3:((b.drop (a+1)).take 3).length≤3:=by rw[Zt6];omega
  have hone:oneM b a i=oneM b a i:=rfl
  conv at hone=>rhs;unfold oneM
  rw[if_pos h1]at hone;generalize hS1:(b.drop (a+1)).take 3=S1 at hS hS3 hone;have ha:=Zht (bA S1) (by rw[show(bA S1).size=S1.length from rfl];omega);simp[-getElem?_pos,rcT,ZaC,hw0,h1',hw1,hw2,nblt,nble,hn1,hb1,hS,Zaw,Zav];refine Zaa (k:=0) (fs:=[]) (xs:=[.str (bA S1)]) (cs:=[]) rfl rfl ha (by unfold atoiE;split<;>rfl) ?_;unfold atoiE;rw[show(bA S1).data.toList=S1 from rfl];cases hq9:Lib.atoiAll S1 with
  |ok v=>
   have hnum:num3 S1=v:=by unfold num3;rw[hq9]
   rw[hnum]at hone;by_cases hv0:v<0
   ·rw[if_neg (by omega)]at hone;have hst:=stop hone;simp[rvX,rvL]at hst;simp[-getElem?_pos,hv0,rvX,rvL];exact hst
   by_cases hv2:200<v
   ·rw[if_neg (by omega)]at hone;have hst:=stop hone;simp[rvX,rvL]at hst;simp[-getElem?_pos,hv0,hv2,rvX,rvL];exact hst
   obtain⟨n,rfl⟩:∃n:Nat,v=n:=⟨v.toNat,by omega⟩;have hv2':¬200<n:=by omega
   have hw3:IntKind.i64.wrap ((a:Int)+15)=(a:Int)+15:=wrap64 (by omega);have hw4:IntKind.i64.wrap ((a:Int)+15+(n:Int))=(a:Int)+15+(n:Int):=wrap64 (by omega);have hw5:IntKind.i64.wrap ((a:Int)+15+(n:Int)+1)=(a:Int)+15+(n:Int)+1:=wrap64 (by omega);by_cases hl:b.length<a+15+n+1
   ·rw[if_neg (by omega)]at hone;have hst:=stop hone;simp[rvX,rvL]at hst;have hl':(b.length:Int)<(a:Int)+15+(n:Int)+1:=by omega
    simp[-getElem?_pos,hv0,hv2,hv2',hw3,hw4,hw5,hl',ZaC,rvX,rvL];exact hst
   have hl':¬(b.length:Int)<(a:Int)+15+(n:Int)+1:=by omega
   rw[if_pos (by omega),Int.toNat_natCast]at hone;have hn2:natI ((a:Int)+15)=some (a+15):=Zaz.2 (by omega);have hn3:natI ((a:Int)+15+(n:Int))=some (a+15+n):=Zaz.2 (by omega);have hn4:natI ((a:Int)+15+(n:Int)+1)=some (a+15+n+1):=Zaz.2 (by omega);have hb2:a+15+n≤b.length:=by omega
   have hb3:a+15+n+1≤b.length:=by omega
   have hb4:a≤a+15+n+1:=by omega
   have hS2:List.drop (a+15) (List.take (a+15+n) (bP b))=bP ((b.drop (a+15)).take n):=by rw[Za7,Zbq,List.drop_take,show a+15+n-(a+15)=n by omega]
   have hS4:List.drop a (List.take (a+15+n+1) (bP b))=bP ((b.drop a).take (16+n)):=by rw[Za7,Zbq,List.drop_take,show a+15+n+1-a=16+n by omega]
   have hsz:(bA ((b.drop (a+15)).take n)).size=n:=by rw[show(bA ((b.drop (a+15)).take n)).size=((b.drop (a+15)).take n).length from rfl,Zt6,Zuh];omega
   have hsb:(⟨((b.drop (a+15)).take n).toArray⟩:ByteArray)=bA ((b.drop (a+15)).take n):=rfl;rw[hsb]at hone;simp[-getElem?_pos,hv0,hv2,hv2',hw3,hw4,hw5,hl',ZaC,hn2,hn3,hn4,hb2,hb3,hb4,hS2,hS4,Zaw,Zav,nblt,nble];have hrc:=Zet (bA ((b.drop (a+15)).take n)) i (by omega) (by omega);generalize hs':bA ((b.drop (a+15)).take n)=s at hsz hone hrc ⊢;refine ZaI (fun τ=>τ=⟨[(0,.yld (.par 0)),(1,.pv (.ref [.lst false 1 (bP b)])),(3,.pv (.int .i64 (a:Int))),(4,.pv (.int .i64 (i:Int))),(5,.pv (.int .i64 (n:Int))),(7,.pv (.str s)),(64,.pv (.str (bA ((b.drop a).take (16+n))))),(67,.pv (.str (recB s i)))],rvX (.loc 90 0) (done.map (·.1)) a false⟩) ?_ ?_
   ·simp only[Zaf,Zaj];refine⟨?_,?_,trivial⟩
    ·simp[-getElem?_pos,Zaf,Zaj,hold,Zaw,Zav];refine ZaQ (k:=0) (fs:=[]) (xs:=[.str s,.int .i64 i]) (cs:=[]) rfl rfl hrc rfl ?_;simp[-getElem?_pos,Zaf,Zaj];exact Sub.mk (by simp) (by simp[rvX,rvL])
    ·simp[-getElem?_pos,Zaf,Zaj,hold];refine ZaQ (k:=0) (fs:=[]) (xs:=[.str s,.int .i64 i]) (cs:=[]) rfl rfl hrc rfl ?_;simp[-getElem?_pos,Zaf,Zaj,Zaw,Zav];exact Sub.mk (by simp) (by simp[rvX,rvL])
   ·rintro τ rfl;have hq:((bA ((b.drop a).take (16+n))).toList==(recB s i).toList)=decide ((b.drop a).take (16+n)=rcdL s i):=by
     rw[Lib.toList_data,Lib.toList_data,Zuz,beq_iff_eq,decide_eq_true_eq];exact Iff.rfl
    simp[-getElem?_pos,hq];by_cases hf:(b.drop a).take (16+n)=rcdL s i
    ·rw[if_pos hf]at hone;have hw6:IntKind.i64.wrap (15+(n:Int))=15+(n:Int):=wrap64 (by omega);have hw7:IntKind.i64.wrap (15+(n:Int)+1)=15+(n:Int)+1:=wrap64 (by omega);have hw8:IntKind.i64.wrap ((a:Int)+(15+(n:Int)+1))=((a+16+n:Nat):Int):=by rw[wrap64 (by omega)];omega
     have hyl:=Zcv (done.map (·.1)) a s (a+16+n) (by rw[hdm,hat.ix];exact hi);simp[-getElem?_pos,hf,hw6,hw7,hw8];refine ZcW 79 0 [.par 0,.par 1,.par 2,.loc 90 0] (as':=[.pv (.str s),.pv (.int .i64 ((a+16+n:Nat):Int))]) rfl rfl rfl rfl ?_ rfl rfl hyl ?_
     ·simp[rvX,rvL]
     rintro r B ⟨rfl,rfl⟩;rw[hdm,hat.ix];by_cases h5:i=50
     ·rw[if_pos h5];subst h5;have hfull:R (.pv (.tup [])) (rvX (.ret 3) (done.map (·.1)) a true):=by
       rw[←hR];exact⟨rfl,by rw[hat.full hone]⟩
      simp[rvX,rvL]at hfull;refine⟨rfl,by simp[rvX,rvL],?_⟩;simp[-getElem?_pos,rvX,rvL];exact hfull
     ·rw[if_neg h5];have hnx:=hat.next hone;have hround:=hJ _ _ ⟨_,_,i+1,rfl,by omega,hnx,rfl⟩;rw[hsz,Zuw]at hround;have hwi:=wrapK (k:=i) (by omega);refine⟨rfl,by simp[rvX,rvL],?_⟩;simp[-getElem?_pos,h5,rvX,rvL,hwi];refine⟨_,_,(by omega:51-(i+1)<51-i),Sub.trans' (Sub.mk ?_ ?_) (Sub.ren 90 (.loc 79 2) _),hround⟩
      ·simp[rcT,AS.ren,renS,AS.purge,AV.purge,AV.has]
      ·simp[rvX,rvL,AS.ren,renS,AS.purge,AV.purge,AV.has]
    ·rw[if_neg hf]at hone;have hst:=stop hone;simp[rvX,rvL]at hst;simp[-getElem?_pos,hf,rvX,rvL];exact hst
  |_=>
   have hnum:num3 S1 = -1:=by unfold num3;rw[hq9]
   rw[hnum,if_neg (by omega)]at hone;have hst:=stop hone;simp[rvX,rvL]at hst;simp[-getElem?_pos,rvX,rvL];exact hst
 ·have h1':¬(15:Int)<(b.length:Int)-(a:Int):=by omega
  have ho:oneM b a i=none:=by unfold oneM;rw[if_neg h1]
  have hst:=stop ho;simp[rvX,rvL]at hst;simp[-getElem?_pos,rcT,ZaC,hw0,h1',rvX,rvL];exact hst
end
section
open Go.RowKit
set_option maxRecDepth 10000
attribute [local simp] AS.exp expG Box.ren AV.map AV.mapL Zau noRet Site.isRet Box.allS AV.allS AV.allSL retB dropL AS.adds renL outG outOk Zas inG fnOf lookA Zuq
attribute [local simp] Box.purge Site.isLoc
attribute [local simp] retFz frzL AS.frz AV.frz AV.frzL Box.frz AS.tidy AS.frzC frzsL retOk renB toLoc
def recE (b:List UInt8):PV:=.tup [strsP (recM b).1,.int .i64 ((recM b).2:Int)]
set_option maxHeartbeats 4000000 in
theorem Zb1 (b:List UInt8)(hb:b.length≤1000000):Gives Tryz.prog 17 [.lst false 1 (bP b)] (recE b):=by
 have hrc:=Zfw b hb;refine cFR [.loc 21 3] L17 ?_;intro R hR;have hfin:R (.pv (.tup [.lst false 1 ((recM b).1.map .str),.int .i64 ((recM b).2:Int)])) []:=by
  rw[←hR];exact⟨rfl,rfl⟩
 have htk:List.take (recM b).1.length ((recM b).1.map PV.str)=(recM b).1.map PV.str:=Zub (by simp);simp[-getElem?_pos,L17];refine .inl (cQ [] [.lst false 1 (bP b)] (Zb2 b) ?_);simp[-getElem?_pos];refine Ze3 (vecC 60 9 1 (s:=.loc 2 0) (cs:=[.pv (.emp (some true))]) 0 rfl rfl (by decide)) ?_;refine ZbD [.loc 20 0,.loc 2 0,.loc 3 0,.loc 60 0] [(2,.ptr (.loc 2 0) 0),(3,.ptr (.loc 3 0) 0)] (gf:=58) (fs:=[]) (cs:=[.pv (.ref [.lst false 1 (bP b)])]) ?_ ?_ rfl rfl ?_ ?_ ?_ hrc ?_
 ·simp[AS.vecC]
 ·simp[AS.vecC]
 ·simp[AS.vecC,rvX,rvL]
 ·rfl
 ·rfl
 rintro q B' ⟨rfl,rfl⟩;generalize recM b=r at hfin htk ⊢;obtain⟨ls,a⟩:=r;dsimp only at hfin htk ⊢;refine⟨rfl,by simp[rvX,rvL],?_⟩;cases hst:decide (50<(restM b 0 0).length)with
 |false=>
  refine⟨_,_,_,_,_,rfl,?_⟩;simp[-getElem?_pos,rvX,rvL,AS.vecC,jumpQ];refine ZaI (fun τ=>τ=⟨[(3,.ptr (.loc 3 0) 0),(2,.ptr (.loc 2 0) 0),(19,.pv (.int .i64 (a:Int)))],[(.loc 2 0,.cells [.vec (.loc 21 3) 1 0 ls.length]),(.loc 3 0,.cells [.pv (.int .i64 (a:Int))]),(.loc 21 3,.arr 9 1 (ls.map .str))]⟩) ?_ ?_
  ·simp only[Zaf,Zaj];refine⟨?_,?_,trivial⟩
   ·simp[-getElem?_pos,Zaf,Zaj,hold];exact Sub.mk (by simp) (by simp)
   ·simp[-getElem?_pos,Zaf,Zaj,hold];exact Sub.mk (by simp) (by simp)
  ·rintro τ rfl;simp[-getElem?_pos,Zaf,Zaj,htk];exact hfin
 |true=>
  refine⟨_,_,_,_,_,rfl,?_⟩;simp[-getElem?_pos,rvX,rvL,AS.vecC,jumpQ];refine ZaI (fun τ=>τ=⟨[(3,.ptr (.loc 3 0) 0),(2,.ptr (.loc 2 0) 0),(19,.pv (.int .i64 (a:Int)))],[(.loc 2 0,.cells [.vec (.loc 21 3) 1 0 ls.length]),(.loc 3 0,.cells [.pv (.int .i64 (a:Int))]),(.loc 21 3,.arr 9 1 (ls.map .str))]⟩) ?_ ?_
  ·simp only[Zaf,Zaj];refine⟨?_,?_,trivial⟩
   ·simp[-getElem?_pos,Zaf,Zaj,hold];exact Sub.mk (by simp) (by simp)
   ·simp[-getElem?_pos,Zaf,Zaj,hold];exact Sub.mk (by simp) (by simp)
  ·rintro τ rfl;simp[-getElem?_pos,Zaf,Zaj,htk];exact hfin
theorem ZkR (b:List UInt8)(a h:Nat):(bA b).extract a h=bA ((b.drop a).take (h-a)):=by
 apply ByteArray.ext;apply ZuG.1;rw[Lib.extract_data];rfl
def fitM (b:List UInt8)(a i n:Nat):Prop:=(b.drop a).take (16+n)=rcdL (bA ((b.drop (a+15)).take n)) i
theorem Zpl {b:List UInt8}{a i n:Nat}(hn:n≤200)(hl:a+16+n≤b.length)(h:fitM b a i n):oneM b a i=some (bA ((b.drop (a+15)).take n))∧(bA ((b.drop (a+15)).take n)).size=n:=by
 have hsz:(bA ((b.drop (a+15)).take n)).size=n:=by rw[ZsG,Zt6,Zuh];omega
 refine⟨ZaP.2 ⟨by omega,(b.drop a).drop (16+n),?_⟩,hsz⟩;rw[←h,ZuS]
theorem ZkP {b:List UInt8}{a i n:Nat}(h:∀k,k<n→a+16+k≤b.length→¬fitM b a i k)(hn:200<n∨b.length<a+16+n):oneM b a i=none:=by
 cases ho:oneM b a i with
 |none=>rfl
 |some s=>
  exfalso;have hl:=Zbg ho;obtain⟨h1,r,h2⟩:=ZaP.1 ho;refine h s.size (by omega) hl ?_;unfold fitM;have e:(b.drop (a+15)).take s.size=s.data.toList:=by
   rw[←ZuM,h2,Za9];show((s.data.toList++[10])++r).take s.size=_;rw[ZuD];exact List.take_left' rfl
  rw[e,ZsH,h2];exact List.take_left' (Zaq s i)
theorem Ztz {b:List UInt8}{a i n:Nat}:((bA b).extract a (a+16+n)=recB ((bA b).extract (a+15) (a+15+n)) i)↔fitM b a i n:=by
 unfold fitM rcdL;rw[ZkR,ZkR,show a+16+n-a=16+n by omega,show a+15+n-(a+15)=n by omega];constructor
 ·intro h;rw[←h];rfl
 ·intro h;apply ByteArray.ext;apply ZuG.1;exact h
def rrS (b:List UInt8)(ls:List ByteArray)(a:Nat):AS:=⟨[(0,.pv (.str (bA b))),(4,.vec (.loc 52 0) 1 0 ls.length),(5,.pv (.int .i64 (a:Int)))],[(.loc 52 0,.arr 9 1 (ls.map .str))]⟩
def riS (b:List UInt8)(ls:List ByteArray)(a n:Nat)(f:Bool):AS:=⟨[(0,.pv (.str (bA b))),(4,.vec (.loc 52 0) 1 0 ls.length),(5,.pv (.int .i64 (a:Int))),(6,.pv (.bool f)),(7,.pv (.int .i64 (n:Int)))],[(.loc 52 0,.arr 9 1 (ls.map .str))]⟩
structure RdAt (b:List UInt8)(done:List (ByteArray×Nat))(a:Nat):Prop where
 all:restM b 0 0=done++restM b a done.length
 la:lastE done=a
 ab:a≤b.length
 ix:done.length≤50
theorem RdAt.next {b:List UInt8}{done:List (ByteArray×Nat)}{a:Nat}{s:ByteArray}(h:RdAt b done a)(hi:done.length<50)(ho:oneM b a done.length=some s):RdAt b (done++[(s,a+16+s.size)]) (a+16+s.size):=
 ⟨by rw[h.all,ZaL ho,ZuD,Zt9];rfl,Za1,Zbg ho,by rw[Zt9];exact hi⟩
theorem RdAt.stop {b:List UInt8}{done:List (ByteArray×Nat)}{a:Nat}(h:RdAt b done a)(ho:done.length=50∨oneM b a done.length=none):recM b=(done.map (·.1),a):=by
 unfold recM;rcases ho with ho|ho
 ·rw[h.all,List.take_left' ho,h.la]
 ·rw[h.all,Za0 ho,Zut,Zub h.ix,h.la]
set_option maxHeartbeats 4000000 in
theorem Zrv (b:List UInt8)(hb:b.length≤1000000):Gives Tryz.prog 18 [.str (bA b)] (recE b):=by
 refine cFR [.loc 52 0] L18 ?_;intro R hR;simp[-getElem?_pos,L18];refine Zae (fun m τ=>∃(done:List (ByteArray×Nat)) (a:Nat),m=50-done.length∧RdAt b done a∧τ=rrS b (done.map (·.1)) a)
  ⟨50,rrS b [] 0,Sub.trans' (Sub.mk (by simp[rrS,AS.vecT]) (by simp[rrS,AS.vecT])) (vecT 52 9 1 4 rfl (by decide)),[],0,rfl,⟨rfl,rfl,Zud _,Zud _⟩,rfl⟩ ?_
 rintro J hJ m τ ⟨done,a,rfl,hat,rfl⟩;have stop:(done.length=50∨oneM b a done.length=none)→R (.pv (.tup [.lst false 1 ((done.map (·.1)).map .str),.int .i64 (a:Int)])) []:=fun ho=>by
  rw[←hR];refine⟨?_,rfl⟩;unfold recE;rw[hat.stop ho];rfl
 have hab:=hat.ab;have hll:(done.map (·.1)).length=done.length:=Zuc _;have htk:List.take done.length (List.map PV.str (List.map (·.1) done))=List.map PV.str (List.map (·.1) done):=Zub (by simp);by_cases h5:done.length<50
 ·have h5i:((done.length:Int)<50):=by omega
  simp[-getElem?_pos,rrS,hll,h5,h5i];refine Zae (fun m τ=>(∃n:Nat,n≤201∧m=202-n∧(∀k,k<n→a+16+k≤b.length→¬fitM b a done.length k)∧τ=riS b (done.map (·.1)) a n false)∨
    ∃(s:ByteArray) (n:Nat),m=0∧oneM b a done.length=some s∧τ=riS b (done.map (·.1)++[s]) (a+16+s.size) n true)
   ⟨202,riS b (done.map (·.1)) a 0 false,Sub.mk (by simp[riS,hll]) (by simp[riS]),.inl ⟨0,Zud _,rfl,fun k hk=>by omega,rfl⟩⟩ ?_
  rintro J2 hJ2 m τ (⟨n,hn,rfl,hno,rfl⟩|⟨s,n,rfl,hone,rfl⟩)
  ·have hbs:(bA b).size=b.length:=rfl;have hw1:IntKind.i64.wrap ((a:Int)+16)=(a:Int)+16:=wrap64 (by omega);have hw2:IntKind.i64.wrap ((a:Int)+16+(n:Int))=(a:Int)+16+(n:Int):=wrap64 (by omega);by_cases c1:n≤200
   ·have c1i:(n:Int)≤200:=by omega
    by_cases c2:a+16+n≤b.length
    ·have c2i:(a:Int)+16+(n:Int)≤(b.length:Int):=by omega
     have hw3:IntKind.i64.wrap ((a:Int)+15)=(a:Int)+15:=wrap64 (by omega);have hw4:IntKind.i64.wrap ((a:Int)+15+(n:Int))=(a:Int)+15+(n:Int):=wrap64 (by omega);have hn1:natI ((a:Int)+15)=some (a+15):=Zaz.2 (by omega);have hn2:natI ((a:Int)+15+(n:Int))=some (a+15+n):=Zaz.2 (by omega);have hn3:natI ((a:Int)+16+(n:Int))=some (a+16+n):=Zaz.2 (by omega);have hb1:a+15+n≤b.length:=by omega
     have hb2:a≤a+16+n:=by omega
     have hz:((bA b).extract (a+15) (a+15+n)).size=n:=by
      rw[ZkR];show((b.drop (a+15)).take (a+15+n-(a+15))).length=n;rw[Zt6,Zuh];omega
     have hfr:=ZkO ((bA b).extract (a+15) (a+15+n)) done.length (by omega) (by have:=hat.ix;omega);have hfe:=Ztz (b:=b) (a:=a) (i:=done.length) (n:=n);simp[-getElem?_pos,-List.map_map,riS,hll,c1i,c2i,hw1,hw2,hw3,hw4,hn1,hn2,hn3,hb1,hb2,c2,hbs,nblt,nble];refine cG [.str ((bA b).extract (a+15) (a+15+n)),.int .i64 done.length] hfr ?_;simp[-getElem?_pos,-List.map_map,sbeq];have hwn:=wrapK (k:=n) (by omega);have hle:done.length+1≤1000000:=by omega
     by_cases hm:(bA b).extract a (a+16+n)=recB ((bA b).extract (a+15) (a+15+n)) done.length
     ·obtain⟨hone,_⟩:=Zpl c1 c2 (hfe.1 hm);have hse:(bA b).extract (a+15) (a+15+n)=bA ((b.drop (a+15)).take n):=by rw[ZkR,show a+15+n-(a+15)=n by omega]
      rw[←hse]at hone;have hn:=hJ2 0 _ (.inr ⟨_,n+1,rfl,hone,rfl⟩);rw[hz]at hn;generalize(bA b).extract (a+15) (a+15+n)=s at hn hm hone;simp[-getElem?_pos,-List.map_map,hm,hw1,hw2,hwn,hll,hle,nble];exact⟨_,_,(by omega:0<202-n),Sub.mk (by simp[riS,hll]) (by simp[riS]),hn⟩
     ·have hno':¬fitM b a done.length n:=fun h=>hm (hfe.2 h)
      have hn:=hJ2 (202-(n+1)) _ (.inl ⟨n+1,by omega,rfl,fun k hk hk2=>by
       rcases ZuW.1 hk with h|rfl
       ·exact hno k h hk2
       ·exact hno',rfl⟩)
      simp[-getElem?_pos,-List.map_map,hm,hwn];exact⟨_,_,(by omega:202-(n+1)<202-n),Sub.mk (by simp[riS,hll]) (by simp[riS]),hn⟩
    ·have hst:=stop (.inr (ZkP hno (.inr (by omega))));have c2i:¬(a:Int)+16+(n:Int)≤(b.length:Int):=by omega
     simp[-getElem?_pos,-List.map_map,riS,hll,c1i,c2i,hw1,hw2,hbs,nblt,nble,htk];exact hst
   ·have hst:=stop (.inr (ZkP hno (.inl (by omega))));have c1i:¬(n:Int)≤200:=by omega
    simp[-getElem?_pos,-List.map_map,riS,hll,c1i,nblt,nble,htk];exact hst
  ·have hnx:=hat.next h5 hone;have hn:=hJ _ _ ⟨_,_,rfl,hnx,rfl⟩;rw[Zuw,Zt9]at hn;have hal:=Zbg hone;have hbs:(bA b).size=b.length:=rfl;have hmeas:50-(done.length+[(s,a+16+s.size)].length)<50-done.length:=by simp;omega
   generalize a+16+s.size=a' at hn hal hmeas ⊢;by_cases c1:(n:Int)≤200
   ·have hw1:IntKind.i64.wrap ((a':Int)+16)=(a':Int)+16:=wrap64 (by omega);have hw2:IntKind.i64.wrap ((a':Int)+16+(n:Int))=(a':Int)+16+(n:Int):=wrap64 (by omega);by_cases c2:(a':Int)+16+(n:Int)≤(b.length:Int)
    ·simp[-getElem?_pos,-List.map_map,riS,hll,c1,c2,hw1,hw2,hbs,nblt,nble];exact⟨_,_,hmeas,Sub.mk (by simp[rrS,hll]) (by simp[rrS]),hn⟩
    ·simp[-getElem?_pos,-List.map_map,riS,hll,c1,c2,hw1,hw2,hbs,nblt,nble];exact⟨_,_,hmeas,Sub.mk (by simp[rrS,hll]) (by simp[rrS]),hn⟩
   ·simp[-getElem?_pos,-List.map_map,riS,hll,c1,nblt,nble];exact⟨_,_,hmeas,Sub.mk (by simp[rrS,hll]) (by simp[rrS]),hn⟩
 ·have e5:done.length=50:=by have:=hat.ix;omega
  have hst:=stop (.inl e5);rw[e5]at hll htk;simp[-getElem?_pos,-List.map_map,rrS,e5,hll,htk];exact hst
theorem ZjW {L:List ByteArray}:ZaT L=Zfz L:=by
 have hf:fitB L=L.all (fun s=>decide (s.size≤200)):=rfl;unfold ZaT Zfz ZaJ;rw[hf];by_cases h1:L.length≤50
 ·have h1':¬50<L.length:=by omega
  by_cases h2:L.all (fun s=>decide (s.size≤200))=true
  ·simp only[h1,h1',h2];rfl
  ·rw[Bool.not_eq_true]at h2;simp only[h1,h1',h2];rfl
 ·have h1':50<L.length:=by omega
  simp[h1,h1']
theorem Zod (L:List ByteArray)(b:List UInt8)(hl:L.length≤9223372036854775807):Gives Tryz.prog 4 [strsP L,.lst false 1 (bP b)] (.bool true):=by
 have hth:=ZgH L hl;refine cSR L4 ?_;intro R hR;simp[-getElem?_pos,L4];refine cG [strsP L] hth ?_;cases ht:thinB L with
 |false=>
  simp[-getElem?_pos];refine cG [] Zbf ?_;simp[-getElem?_pos];rw[←hR];exact⟨rfl,by simp⟩
 |true=>
 have hl5:L.length≤55:=by
  unfold thinB at ht;rw[Zt7,decide_eq_true_eq]at ht;exact ht.2
 by_cases hb:4000<b.length
 ·have hb':(4000:Int)<b.length:=by omega
  simp[-getElem?_pos,ZaC,hb,hb'];refine cG [] Zbf ?_;simp[-getElem?_pos];rw[←hR];exact⟨rfl,by simp⟩
 have hb':¬(4000:Int)<b.length:=by omega
 have hbi:=ZdK L (by omega);have hwr:=ZgJ L (by omega);have hrv:=Zb1 b (by omega);have hrd:=Zrv b (by omega);have hfl:=ZpX L (by omega);have htx:=ZeX (recM b).1 (recM b).1 (by unfold recM;rw[Zuc,Zt6];omega);have hck:=ZjW (L:=L);have e1:Zbk (bP b)=some (natL b):=Zaw b;have hbl:b.length≤1000000:=by omega
 have htk:List.take b.length (bP b)=bP b:=Zub (by rw[ZaC];omega);simp[-getElem?_pos,ZaC,hb,hb'];refine .inl (cQ [] [strsP L] hbi ?_);simp[-getElem?_pos];refine .inl (cQ [] [strsP L] hwr ?_);unfold wrtE;rw[hck];by_cases hf:Zfz L=0
 ·rw[if_pos hf];rw[hf]at hfl;simp[-getElem?_pos,ZaC,nble,hbl];refine .inl (cP [.loc 30 0] [.lst false 1 (bP b)] (by simp) (by simp[ZaC,htk]) hrv ?_);simp[-getElem?_pos,recE,e1,Zav];refine .inl (cQ [] [.str (bA b)] hrd ?_);simp[-getElem?_pos,recE];refine cG [strsP (recM b).1,strsP (recM b).1] htx ?_;simp[-getElem?_pos];refine cG [strsP L] hfl ?_;have hrt:ZaJ L=true:=by
   unfold Zfz at hf;by_cases h:ZaJ L=true
   ·exact h
   ·rw[if_neg h]at hf;cases hf
  obtain⟨hl0,hs0⟩:L.length≤50∧∀s∈L,s.size≤200:=by
   unfold ZaJ at hrt;rw[Zt7,decide_eq_true_eq,Zuo]at hrt;exact⟨hrt.2,fun s hs=>by simpa using hrt.1 s hs⟩
  have hfi:=Zrx L (by omega) hs0;have e2:Zbk (bP (fileL L 0))=some (natL (fileL L 0)):=Zaw _;simp[-getElem?_pos];refine ZaI (fun τ=>τ=⟨[(68,.pv (.str (bA (fileL L 0)))),(70,.pv (.str (bA (fileL L 0)))),(66,.pv (.bool true))],[]⟩) ?_ ?_
  ·simp only[Zaf,Zaj];refine⟨?_,?_,trivial⟩
   ·simp[-getElem?_pos,Zaf,Zaj,hold,e2,Zav];refine cG [strsP L] hfi ?_;simp[-getElem?_pos,Zaf,Zaj];exact Sub.mk (by simp) (by simp)
   ·simp[-getElem?_pos,Zaf,Zaj,hold];refine cG [strsP L] hfi ?_;simp[-getElem?_pos,Zaf,Zaj,e2,Zav];exact Sub.mk (by simp) (by simp)
  ·rintro τ rfl;simp[-getElem?_pos,hold,Zaf,Zaj];refine cG [] Zbf ?_;simp[-getElem?_pos,Zaf,Zaj];rw[←hR];exact⟨rfl,by simp⟩
 ·have h3:Zfz L=3:=by
   unfold Zfz at hf ⊢;split
   ·rename_i h;rw[if_pos h]at hf;exact absurd rfl hf
   ·rfl
  rw[if_neg hf];rw[h3]at hfl;simp[-getElem?_pos,ZaC,nble,hbl];refine .inl (cP [.loc 30 0] [.lst false 1 (bP b)] (by simp) (by simp[ZaC,htk]) hrv ?_);simp[-getElem?_pos,recE,e1,Zav];refine .inl (cQ [] [.str (bA b)] hrd ?_);simp[-getElem?_pos,recE];refine cG [strsP (recM b).1,strsP (recM b).1] htx ?_;simp[-getElem?_pos];refine cG [strsP L] hfl ?_;simp[-getElem?_pos];refine cG [] Zbf ?_;simp[-getElem?_pos];rw[←hR];exact⟨rfl,by simp⟩
end
section
open Go.ChangeShapes Go.WideShapes Go.ChangeAt Go.RowKit
set_option maxRecDepth 100000
theorem ZgN (v0 v1:Value)(W:World){H:Type}{enc:TypeId×Value→H}{base:Nat}{sp:Nat→Bool}{hd:Bool}{d0 d1:DataW H}{p0 p1:List MemPlace}(hg:Glob W.mem W)
  (k0:Value.okWide Tryz.prog W .any base 22 v0) (h0:DataW.Trod enc Tryz.prog W 0 sp hd 22 v0 d0 p0)
  (k1:Value.okWide Tryz.prog W .any base 42 v1) (h1:DataW.Trod enc Tryz.prog W 0 sp hd 42 v1 d1 p1):
  Calls Tryz.prog 4 #[v0,v1] W fun e w'=>e=.returned (.bool true)∧Keep [] W w':=by
 obtain⟨n0,h0⟩:=h0;obtain⟨s0,w0,r0⟩:=Zf2 k0 h0;obtain⟨n1,h1⟩:=h1;obtain⟨s1,r1⟩:=ZoC k1 h1;refine Zdi (xs:=[strsP s0,.lst false 1 (bP s1)]) (b:=true) ((Zod s0 s1 w0).mono (fun _ _ h=>h.1)) rfl (fun j v x e1 e2=>?_) hg
 match j with
 |0=>simp at e1 e2;subst e1 e2;exact r0
 |1=>simp at e1 e2;subst e1 e2;exact r1
 |j+2=>simp at e1
theorem ZfB (os:Os)(started:os.Started)(H:Type)(enc:TypeId×Value→H):
  ReturnsInHanded {} Tryz.checked os 4 .any (fun w args=>(Rows.bookWritesSpec.pre enc Tryz.prog Tryz.f4 Rows.bookWritesRow.domain false w args∧laidMetH Tryz.prog Rows.bookWritesRow.laid w)∧sizedMet enc Tryz.prog Tryz.f4 (OpenSpec.ofChange Rows.bookWritesSpec) false w args)
   (Rows.bookWritesSpec.post enc Tryz.prog Tryz.f4 false true false false):=by
 refine ZcE (C:=Tryz.checked) (X:=fun w _=>laidMetH Tryz.prog Rows.bookWritesRow.laid w) (fun _ _ _ hh h=>h.of_heap hh) own started (by kernel_rfl) Tryz.func4
  (ChangeSpec.witness_shaped (enc:=enc) (C:=Tryz.checked) (os:=os) (X:=fun w _=>laidMetH Tryz.prog Rows.bookWritesRow.laid w) false (World.laidAll Tryz.prog os Rows.bookWritesRow.laid) #[.slice none 0 0,.slice none 0 0] 8 (World.laidAll_os _ _ _)
   (World.shaped_of_ZipB (by kernel_rfl) (by kernel_rfl)) (by kernel_rfl) (by kernel_rfl) (by kernel_rfl)
   (by rw[MakeChecks.laidMetH_plain _ _ _ (by kernel_rfl)];exact laidMet_laidAll _ (by kernel_rfl) (by kernel_rfl))) ?_
 intro W base args ds gs before hval0 hW hL hsh;have hval:∀(j:Nat) t v,Tryz.f4.params[j]?=some t→args[j]?=some v→Value.okWide Tryz.prog W .any base t v:=hval0;rw[MakeChecks.laidMetH_plain _ _ _ (by kernel_rfl)]at hL;have hg:=Zgx hsh (Lib.laidMet.reads hL (by simp[Rows.bookWritesRow])) (Lib.laidMet.reads hL (by simp[Rows.bookWritesRow])) (Lib.laidMet.reads hL (by simp[Rows.bookWritesRow]));have hW':=hW;obtain⟨p,q,hA0,hV,rfl,hfz,hnd⟩:=hW;have hA:DataW.TrodAll enc Tryz.prog W 0 (fun _=>true) true Tryz.f4.params.toList args.toList ds p:=hA0;rw[Tryz.params4]at hA hval;obtain⟨v0,vs0,d0,ds0,p0,q0,hargs,rfl,rfl,h0,r0⟩:=trodAll_cons hA;obtain⟨v1,vs1,d1,ds1,p1,q1,rfl,rfl,rfl,h1,r1⟩:=trodAll_cons r0;obtain⟨rfl,rfl,rfl⟩:=trodAll_nil r1;have hargs':args=#[v0,v1]:=by
  apply Array.ext';exact hargs
 subst hargs';have k0:=hval 0 _ v0 rfl rfl;have k1:=hval 1 _ v1 rfl rfl;obtain⟨rfl,rfl⟩:=trodVars_none hV;refine(ZgN v0 v1 W hg k0 h0 k1 h1).mono fun e W' ⟨he,hk⟩=>?_
 subst he;exact⟨_,rfl,Zex (tb:=4) laidP Zd5 fullP (by decide +kernel) rfl rfl rfl Tryz.underlying4 hW' hk⟩
end
section
open Go.RowKit
set_option maxRecDepth 100000
theorem bA0:(Rows.bookWritesRow.wf (OpenSpec.ofChange Rows.bookWritesSpec))=true:=by kernel_rfl
theorem bA1:(laidOutB Tryz.prog)=true:=laidP
theorem bA2:(mapsRowed Tryz.prog)=true:=Zd5
theorem bA3:(Tryz.f4.params.all (Tryz.prog.readableRec ·))=true:=by kernel_rfl
theorem bA4:(namedTie Tryz.prog Rows.bookWritesRow.named Rows.bookWritesSpec.vars)=true:=by kernel_rfl
theorem bA5:((Rows.bookWritesRow.stops==[]))=true:=by kernel_rfl
theorem bA6:((Tryz.prog.stops==[]))=true:=by kernel_rfl
theorem bA7:((Rows.bookWritesRow.knobs==[]))=true:=by kernel_rfl
theorem bA8:((Tryz.prog.stopKnobs==[]))=true:=by kernel_rfl
theorem bA9:((Rows.bookWritesRow.inPlace==Tryz.prog.inPlace 4))=true:=by kernel_rfl
theorem bA10:((Rows.bookWritesRow.unfollowed==Tryz.prog.unfollowed 4))=true:=by kernel_rfl
theorem bA11:((Rows.bookWritesRow.recurses==Tryz.prog.recurses 4))=true:=by kernel_rfl
theorem bA12:((Rows.bookWritesRow.named==Tryz.prog.varsNamed 4))=true:=by kernel_rfl
theorem bA13:((Rows.bookWritesRow.maps==(Tryz.f4.params.toList++Rows.bookWritesSpec.plain.varTypes Tryz.prog).any (Tryz.prog.mapsRec ·)))=true:=by kernel_rfl
theorem bA14:((Rows.bookWritesRow.ifaces==(Tryz.f4.params.toList++Rows.bookWritesSpec.plain.varTypes Tryz.prog).any (Tryz.prog.ifacesRec ·)))=true:=by kernel_rfl
theorem bA15:((Rows.bookWritesRow.mapsOut==Tryz.prog.mapsAmong Tryz.f4.resultTypes.toList))=true:=by kernel_rfl
theorem bA16:((Rows.bookWritesRow.loops==(Tryz.f4.params.toList++Rows.bookWritesSpec.plain.varTypes Tryz.prog).any (Tryz.prog.loopsFrom ·)))=true:=by kernel_rfl
theorem bA17:((Rows.bookWritesRow.wideKeys==(Tryz.f4.params.toList++Rows.bookWritesSpec.plain.varTypes Tryz.prog++Tryz.f4.resultTypes.toList).any (Tryz.prog.wideKeysFrom ·)))=true:=by kernel_rfl
theorem bA18:(Rows.bookWritesSpec.vars.all (Tryz.prog.varReadable ·))=true:=by kernel_rfl
theorem bA19:(Tryz.f4.resultTypes.all (fun t=>Tryz.prog.readableRec t&&decide (t<Tryz.prog.types.size)))=true:=by kernel_rfl
theorem bA20:((Rows.bookWritesRow.ifacesOut==Tryz.f4.resultTypes.toList.any (Tryz.prog.ifacesRec ·)))=true:=by kernel_rfl
theorem bA21:((Rows.bookWritesRow.loopsOut==Tryz.f4.resultTypes.toList.any (Tryz.prog.loopsFrom ·)))=true:=by kernel_rfl
theorem bA22:((Rows.bookWritesRow.plainKeys==Tryz.prog.plainKeys))=true:=by kernel_rfl
theorem bA23:(Rows.bookWritesRow.shortTexts.isNone)=true:=by kernel_rfl
theorem bA24:(Tryz.prog.stopsHeard)=true:=by kernel_rfl
theorem bA25:(Tryz.prog.mayEnter)=true:=by kernel_rfl
theorem bA26:((Rows.bookWritesRow.lifted==Tryz.prog.liftsFinal))=true:=by kernel_rfl
theorem bA27:((Tryz.prog.make==some Rows.bookWritesRow.make))=true:=by kernel_rfl
theorem bA28:((Rows.bookWritesRow.kinds==(if Rows.bookWritesRow.domain.isEmpty then[]else Tryz.f4.params.toList.map fun t=>match Tryz.prog.underlying t with|some (.int k)=>some k|_=>none)))=true:=by kernel_rfl
theorem bA29:((Rows.bookWritesRow.pinned==Rows.bookWritesRow.pinnedBy))=true:=by kernel_rfl
theorem bA30:((Rows.bookWritesRow.veiled==(Tryz.f4.params.toList++Rows.bookWritesSpec.plain.varTypes Tryz.prog++Tryz.f4.resultTypes.toList).any (Tryz.prog.veiledRec ·)))=true:=by kernel_rfl
theorem bA31:(Rows.bookWritesRow.veiledFits Tryz.prog Tryz.f4.params.toList (Tryz.f4.params.toList++Rows.bookWritesSpec.plain.varTypes Tryz.prog++Tryz.f4.resultTypes.toList))=true:=by kernel_rfl
theorem Zqb:joinedFacts Tryz.pinned.checked.prog 4 Tryz.f4 Rows.bookWritesSpec Rows.bookWritesRow=true:=
 Zb7 bA0 bA1 bA2 bA3 bA4 bA5 bA6 bA7 bA8 bA9 bA10 bA11 bA12 bA13 bA14 bA15 bA16 bA17 bA18 bA19 bA20 bA21 bA22 bA23 bA24 bA25 bA26 bA27 bA28 bA29 bA30 bA31
end
section
open Go.ChangeShapes Go.WideShapes Go.ChangeAt Go.RowKit
set_option maxRecDepth 100000
theorem Zqc (os:Os)(started:os.Started)(H:Type)(enc:TypeId×Value→H):ReturnsInHanded Rows.bookWritesRow.assume Tryz.pinned.checked os 4 .any (Rows.bookWritesRow.pre enc Tryz.pinned.checked.prog Tryz.f4 (OpenSpec.ofChange Rows.bookWritesSpec)) (Rows.bookWritesSpec.post enc Tryz.pinned.checked.prog Tryz.f4 Rows.bookWritesRow.apart Rows.bookWritesRow.fresh Rows.bookWritesRow.handsOn Rows.bookWritesRow.again):=ZfB os started H enc
theorem ZgP:Rows.bookWritesRow.holds Tryz.pinned (OpenSpec.ofChange Rows.bookWritesSpec):=
 OpenClaim.holds_of_wide 4 Tryz.f4 rfl rfl rfl rfl rfl rfl rfl ⟨rfl,rfl,rfl,rfl,rfl⟩ rfl rfl rfl rfl rfl (by kernel_rfl) Tryz.func4 Zqb
  (of_decide_eq_true (by kernel_rfl)) (by unfold Func.isWrapper;first|(rw[if_pos (by decide +kernel)];kernel_rfl)|(rw[if_neg (by decide +kernel)];exact⟨rfl,rfl⟩))
  (fun os started H enc _=>Zqc os started H enc)
theorem bAWf:Rows.bookWritesRow.wfByText (OpenSpec.ofChange Rows.bookWritesSpec)=true:=by kernel_rfl
theorem ZtU : Tryz.pinned.checked.prog.mainIs = some (true, "429b1301e4e9e14836810d17c619d588cb37bbf0a235cc417304b7271646d6e2".toList) := by kernel_rfl
theorem ZsK:true=Tryz.pinned.checked.prog.looks []:=by kernel_rfl
theorem bABy:false=Rows.bookWritesRow.goesBy Tryz.pinned.checked.prog:=by kernel_rfl
theorem ZsJ : Tryz.prog.funcNamed "tensile/tensilelaw12.BookWrites" = some 4 := by kernel_rfl
theorem ZsI:([22,42].all fun u=>!Tryz.prog.wantsStandIn u)=true:=by kernel_rfl
theorem cardBookWrites:Rows.BookWritesCardSaid:=
 Claim7.holds_tied_plain_at .later [] [.data, .data, .data, .data, .sentinel, .sentinel, .pinned] true (true, "429b1301e4e9e14836810d17c619d588cb37bbf0a235cc417304b7271646d6e2") true
  ZgP (fun _ h=>by cases h) bAWf (fun _ h=>by cases h) bookWrites_row_tie rfl ⟨rfl,rfl⟩ ZtU rfl
  (fun f fn hf hfn=>by
   obtain rfl:f=4:=Option.some.inj (ZsJ.symm.trans hf) |>.symm;obtain rfl:fn=Tryz.f4:=(Option.some.inj (Tryz.func4.symm.trans hfn)).symm;exact⟨ZsK,fun j t ht=>by
    rw[Tryz.params4]at ht;have hm:t∈([22,42]:List TypeId):=by simpa using Array.mem_of_getElem? ht
    exact(show Tryz.prog.wantsStandIn t=false by simpa using Zuo.1 ZsI t hm)⟩)
  bABy
end
end Go.Proofs.YteknmiggbkhdoaaGreatDoor
