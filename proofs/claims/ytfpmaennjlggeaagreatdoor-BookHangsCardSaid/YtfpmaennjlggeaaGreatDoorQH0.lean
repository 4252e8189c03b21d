/- The registrar's book: what the statement needs, joined and shortened by program. -/
import Derived.Test.YtfpmaennjlggeaaGreatDoorProg
import Derived.Lib.AtoiTie
import Derived.Test.YtfpmaennjlggeaaGreatDoorCards
import Derived.Test.YtfpmaennjlggeaaGreatDoorTie
import Derived.SevenTiedAt
import Derived.Test.YtfpmaennjlggeaaGreatDoorP0
import Derived.Test.YtfpmaennjlggeaaGreatDoorP1
import Derived.Test.YtfpmaennjlggeaaGreatDoorP2
import Derived.Test.YtfpmaennjlggeaaGreatDoorP3
import Derived.Test.YtfpmaennjlggeaaGreatDoorP4
set_option linter.unusedSimpArgs false
set_option linter.unusedVariables false
namespace Go.Proofs.YtfpmaennjlggeaaGreatDoor
section
open Go.RowKit
set_option maxRecDepth 100000
noncomputable section
def L16:LFn :=⟨23,S [O 2 (.mov (.c (.str ⟨#[]⟩)))] (.seq (S [Om 3 0,Oc 4 .lss 3 0] (Cd 4 (S [Om 5 0,O 6 (.neg (.t 5)),Ok 7 16 [.t 6],O 8 (.x (.scat (.c (.str ⟨#[45]⟩)) (.t 7))),Om 2 8] .ret) .skip)) (.seq (S [Om 9 0,Oc 10 .lss 9 10] (Cd 10 (S [Om 11 0,O 12 (.bin false .add (I 48) (.t 11)),O 13 (.conv .u8 (.t 12)),O 14 (.bslice 5 1 [.t 13]),O 15 (.x (.sof (.t 14))),Om 2 15] .ret) .skip)) (S [Om 16 0,Oc 17 .quo 16 10,Ok 18 16 [.t 17],Om 19 0,Oc 20 .rem 19 10,Ok 21 16 [.t 20],O 22 (.x (.scat (.t 18) (.t 21))),Om 2 22] .ret))),[.tm 2]⟩
end
end
section
open Go.RowKit
set_option maxRecDepth 100000
noncomputable section
def L20:LFn :=⟨58,S [Ox 1 5 0,O 2 (.alloc (.agg [E0,E0]))] (S [O 7 (.build (.agg [Z0,.bool false,Z0,Z0]) [(1,(1,Bt))]),O 8 (.build (.agg [Z0,Z0]) [(0,(1,(I (-2)))),(1,(1,(I 2)))]),O 9 (.build (.agg [Z0,.bool false,Z0,Z0]) [(1,(1,Bt)),(2,(2,(.t 8)))]),O 10 (.build (.agg [Z0,.bool false,Z0,Z0]) [(0,(1,(I 1)))]),O 11 (.build (.agg [Z0,.bool false,Z0,Z0]) [(0,(1,(I 1)))]),O 12 (.build (.agg [Z0,.bool false,Z0,Z0]) []),O 13 (.build (.agg [Z0,.bool false,Z0,Z0]) []),O 14 (.bslice 116 4 [.t 7,.t 9,.t 10,.t 11,.t 12,.t 13]),O 15 (.build (.agg [E0,E0]) [(0,(1,(.t 14)))]),O 3 (.alloc (.agg [E0,E0])),Ns 2 3 15] (.seq (S [OM 4 0] (.block 0 (.loop (.seq (S [Om 16 4,Oa 17 0 1,Ol 18 1 17,On 19 18,Ob 20 .lss 16 19] (Ce 20 0)) (.seq (.block 1 (S [O 5 (.mov Bf)] (.seq (S [OM 6 0] (.block 2 (.loop (.seq (S [Om 23 6,Oa 24 1 1,Ol 25 1 24,On 26 25,Ob 27 .lss 23 26] (Ce 27 2)) (.seq (.block 3 (.region [Of 30 (M 5),Of 31 (M 30),Gf 32 31 false (.fa 1 (.t 1)),Gf 34 31 false (M 6),Gf 37 31 false (.fa 0 (.t 1)),Gf 39 31 false (M 4),Gf 33 31 false (.load false 1 (.t 32)),Gf 35 31 false (.ia 1 none (.t 33) (.t 34)),Gf 36 31 false (.load false 1 (.t 35)),Gf 38 31 false (.load false 1 (.t 37)),Gf 40 31 false (.ia 7 none (.t 38) (.t 39)),Gf 41 31 false (.fa 0 (.t 40)),Gf 42 31 false (.load false 1 (.t 41)),G 43 31 false (.bin false .eql (.t 36) (.t 42)),O 44 (.pick (.t 31) Bt (.t 43)),Om 5 44])) (.region [Om 28 6,Oc 29 .add 28 1,Om 6 29])))))) (S [Om 45 5,Oo 46 45] (Cd 46 (.region [Of 47 (.fa 1 (.t 3)),Of 49 (.fa 0 (.t 1)),Of 51 (M 4),Of 48 (.load false 1 (.t 47)),Of 50 (.load false 1 (.t 49)),Of 52 (.ia 7 none (.t 50) (.t 51)),Of 53 (.load true 7 (.t 52)),Of 54 (.bslice 47 7 [.t 53]),O 55 (.app 47 7 56 (.t 48) (.t 54)),Oa 56 1 3,Ns 1 56 55]) .skip))))) (.region [Om 21 4,Oc 22 .add 21 1,Om 4 22])))))) (S [Ot 57 2 3,Ns 2 2 57] .ret))),[.cell 2 true 2]⟩
end
end
section
open Go.RowKit
set_option maxRecDepth 100000
noncomputable section
def L11:LFn :=⟨47,S [O 2 (.alloc (.agg [E0,E0,E0,E0,E0])),O 3 (.mov (.c E0)),O 4 (.mov Bf)] (S [Om 11 0,Ok 12 14 [.t 11],Ok 13 15 [.t 12],Om 10 13,Oe 14 10 0,Oe 15 10 1,Oe 16 10 2,O 5 (.alloc (.agg [E0,E0,E0,E0,E0])),Ns 5 5 14,Om 6 15,Om 7 16] (.seq (S [Om 17 7,Oc 18 .neq 17 0,Om 19 18,G 20 19 false (M 6),G 21 19 false (.len none (.t 20)),G 22 19 false (M 0),G 23 19 false (.len none (.t 22)),G 24 19 false (.bin false .neq (.t 21) (.t 23)),O 25 (.pick (.t 19) Bt (.t 24))] (Cd 25 (S [Ot 26 5 5,Ns 5 2 26,O 3 (.mov (.c E0)),O 4 (.mov Bf)] .ret) .skip)) (S [O 8 (.mov (.c E0))] (.seq (S [OM 9 0] (.block 0 (.loop (.seq (S [Om 27 9,Om 28 0,On 29 28,Ob 30 .lss 27 29] (Ce 30 0)) (.seq (.block 1 (S [Om 33 6,Om 34 9,Oi 35 1 33 34,Ol 36 1 35,Oc 37 .eql 36 0] (Cd 37 (.region [Om 38 8,Om 39 0,Om 40 9,Oi 41 1 39 40,Ol 42 1 41,O 43 (.bslice 9 1 [.t 42]),O 44 (.app 9 1 16 (.t 38) (.t 43)),Om 8 44]) .skip))) (.region [Om 31 9,Oc 32 .add 31 1,Om 9 32])))))) (S [Ot 45 5 5,Om 46 8,Ns 5 2 45,Om 3 46,O 4 (.mov Bt)] .ret))))),[.cell 2 true 5,.tm 3,.tm 4]⟩
end
end
section
open Go.RowKit
set_option maxRecDepth 100000
noncomputable section
def L4:LFn :=⟨211,S [O 4 (.mov Bf)] (.seq (S [Om 21 0,Ok 22 8 [.t 21],Oo 23 22,Om 24 23,G 25 24 false (M 0),G 26 24 false (.call (C 9) [.t 25]),G 27 24 false (.not (.t 26)),O 28 (.pick (.t 24) Bt (.t 27)),Om 29 28,G 30 29 false (M 0),G 31 29 false (.len none (.t 30)),G 32 29 false (.bin false .gtr (.t 31) (I 49)),O 33 (.pick (.t 29) Bt (.t 32))] (Cd 33 (S [Ok 34 10 [],Om 4 34] .ret) .skip)) (S [Om 36 0,Ok 37 11 [.t 36],Om 35 37,Oe 38 35 0,Oe 39 35 1,Oe 40 35 2,O 5 (.alloc (.agg [E0,E0,E0,E0,E0])),Ns 5 5 38,Om 6 39,Om 7 40] (.seq (S [Om 41 7,Oo 42 41] (Cd 42 (S [O 4 (.mov Bf)] .ret) .skip)) (.seq (S [Oa 43 0 5,Ol 44 1 43,On 45 44,Oc 46 .eql 45 0] (Cd 46 (S [Ok 47 10 [],Om 4 47] .ret) .skip)) (S [Of 48 (.fa 0 (.t 5)),Of 50 (M 1),Of 51 (.conv .i64 (.t 50)),Of 52 (.fa 0 (.t 5)),Of 49 (.load false 1 (.t 48)),Of 53 (.load false 1 (.t 52)),Of 54 (.len none (.t 53)),Of 55 (.bin false .rem (.t 51) (.t 54)),Of 56 (.ia 7 none (.t 49) (.t 55)),Of 57 (.fa 0 (.t 56)),Of 58 (.load false 1 (.t 57)),Om 8 58] (.seq (S [Om 59 8,Oc 60 .lss 59 1,Om 61 60,G 62 61 false (M 8),G 63 61 false (.bin false .gtr (.t 62) (I 999)),O 64 (.pick (.t 61) Bt (.t 63))] (Cd 64 (S [O 4 (.mov Bf)] .ret) .skip)) (S [Om 66 0,Ok 67 14 [.t 66],Om 68 8,Ok 69 13 [.t 67,.t 68],Om 65 69,Oe 70 65 0,Oe 71 65 1,Om 9 70,Om 10 71] (S [Om 73 0,Ok 74 14 [.t 73],Om 75 8,Ok 76 16 [.t 75],O 77 (.x (.scat (.c (.str ⟨#[98,97,100,32]⟩)) (.t 76))),O 78 (.bslice 9 1 [.t 77]),O 79 (.app 9 1 16 (.t 74) (.t 78)),Ok 80 15 [.t 79],Om 72 80,Oe 81 72 0,Oe 82 72 1,Oe 83 72 2,O 11 (.alloc (.agg [E0,E0,E0,E0,E0])),Ns 5 11 81,Om 12 82,Om 13 83] (.seq (S [Om 84 10,Oc 85 .neq 84 0,Om 86 85,G 87 86 false (M 13),G 88 86 false (.bin false .neq (.t 87) (I 0)),O 89 (.pick (.t 86) Bt (.t 88)),Om 90 89,G 91 90 false (M 12),G 92 90 false (.len none (.t 91)),G 93 90 false (M 0),G 94 90 false (.len none (.t 93)),G 95 90 false (.bin false .add (.t 94) (I 1)),G 96 90 false (.bin false .neq (.t 92) (.t 95)),O 97 (.pick (.t 90) Bt (.t 96)),Om 98 97,G 99 98 false (.fa 3 (.t 11)),G 100 98 false (.load false 1 (.t 99)),G 101 98 false (.len none (.t 100)),G 102 98 false (.fa 3 (.t 5)),G 103 98 false (.load false 1 (.t 102)),G 104 98 false (.len none (.t 103)),G 105 98 false (.bin false .neq (.t 101) (.t 104)),O 106 (.pick (.t 98) Bt (.t 105))] (Cd 106 (S [O 4 (.mov Bf)] .ret) .skip)) (.seq (S [Om 107 12,Om 108 0,On 109 108,Oi 110 1 107 109,Ol 111 1 110,Oc 112 .neq 111 0] (Cd 112 (S [Om 113 12,Om 114 0,On 115 114,Oi 116 1 113 115,Ol 117 1 116,Oc 118 .eql 117 6,Om 119 118,G 120 119 true (M 9),G 121 119 true (.len none (.t 120)),G 122 119 true (.bin false .eql (.t 121) (I 0)),O 123 (.pick (.t 119) (.t 122) Bf),Om 124 123,G 125 124 true (.call (C 10) []),O 126 (.pick (.t 124) (.t 125) Bf),Om 4 126] .ret) .skip)) (S [OM 14 0] (.seq (S [OM 15 0] (.block 0 (.loop (.seq (S [Om 127 15,Oa 128 3 5,Ol 129 1 128,On 130 129,Ob 131 .lss 127 130] (Ce 131 0)) (.seq (.block 1 (S [Of 136 (.fa 3 (.t 5)),Of 138 (M 15),Of 135 (.load true 5 (.t 5)),Of 137 (.load false 1 (.t 136)),Of 139 (.ia 4 none (.t 137) (.t 138)),Of 140 (.load true 4 (.t 139)),Ok 141 17 [.t 135,.t 140],Om 134 141,Oe 142 134 0,Oe 143 134 1,Om 16 142,Om 17 143] (S [Of 146 (.fa 3 (.t 11)),Of 148 (M 15),Of 145 (.load true 5 (.t 11)),Of 147 (.load false 1 (.t 146)),Of 149 (.ia 4 none (.t 147) (.t 148)),Of 150 (.load true 4 (.t 149)),Ok 151 17 [.t 145,.t 150],Om 144 151,Oe 152 144 0,Oe 153 144 1,Om 18 152,Om 19 153] (S [Om 154 14,Om 155 9,On 156 155,Ob 157 .lss 154 156,Om 158 157,G 159 158 true (M 9),G 160 158 true (M 14),G 161 158 true (.ia 1 none (.t 159) (.t 160)),G 162 158 true (.load false 1 (.t 161)),G 163 158 true (M 15),G 164 158 true (.bin false .eql (.t 162) (.t 163)),O 165 (.pick (.t 158) (.t 164) Bf),Om 20 165] (.seq (S [Om 166 20] (Cd 166 (.region [Om 167 14,Oc 168 .add 167 1,Om 14 168]) .skip)) (S [Of 169 (M 17),Of 170 (.not (.t 169)),Of 171 (M 170),Gf 172 171 false (M 19),Gf 173 171 false (.not (.t 172)),Of 174 (.pick (.t 171) Bt (.t 173)),Of 175 (M 174),Gf 176 175 false (.fa 3 (.t 5)),Gf 178 175 false (M 15),Gf 181 175 false (.fa 3 (.t 11)),Gf 183 175 false (M 15),Gf 177 175 false (.load false 1 (.t 176)),Gf 179 175 false (.ia 4 none (.t 177) (.t 178)),Gf 180 175 false (.load true 4 (.t 179)),Gf 182 175 false (.load false 1 (.t 181)),Gf 184 175 false (.ia 4 none (.t 182) (.t 183)),Gf 185 175 false (.load true 4 (.t 184)),G 186 175 false (.x (.eqv true ⟨true,[.int .i64,.int .i64,.int .i64,.int .i64]⟩ (.t 180) (.t 185))),O 187 (.pick (.t 175) Bt (.t 186)),Om 188 187,G 189 188 false (M 18),G 190 188 false (M 189),G 191 190 true (M 16),G 192 190 true (.not (.t 191)),G 193 188 false (.pick (.t 190) (.t 192) Bf),O 194 (.pick (.t 188) Bt (.t 193)),Om 195 194,G 196 195 false (M 20),G 197 195 false (M 16),G 198 195 false (M 197),G 199 198 true (M 18),G 200 198 true (.not (.t 199)),G 201 195 false (.pick (.t 198) (.t 200) Bf),G 202 195 false (.bin true .neq (.t 196) (.t 201)),O 203 (.pick (.t 195) Bt (.t 202))] (Cd 203 (S [O 4 (.mov Bf)] .ret) .skip))))))) (.region [Om 132 15,Oc 133 .add 132 1,Om 15 133])))))) (S [Om 204 14,Om 205 9,On 206 205,Ob 207 .eql 204 206,Om 208 207,G 209 208 true (.call (C 10) []),O 210 (.pick (.t 208) (.t 209) Bf),Om 4 210] .ret))))))))))))),[.tm 4]⟩
def L17:LFn :=⟨26,S [Ox 2 5 0,Ox 3 4 1,O 4 (.mov Bf),O 5 (.mov Bf)] (S [Of 11 (.fa 1 (.t 3)),Of 13 (.fa 2 (.t 3)),Of 9 (.load true 5 (.t 2)),Of 12 (.load false 1 (.t 11)),Of 14 (.load false 1 (.t 13)),Of 10 (.call (C 20) [.t 9]),Ok 15 36 [.t 10,.t 12,.t 14],Om 8 15,Oe 16 8 0,Oe 17 8 1,Om 6 16,Om 7 17] (S [Om 18 7,Oc 19 .eql 18 0,Om 20 7,Oc 21 .eql 20 0,Om 22 21,G 23 22 false (M 7),G 24 22 false (.bin false .eql (.t 23) (I 10)),O 25 (.pick (.t 22) Bt (.t 24)),Om 4 19,Om 5 25] .ret)),[.tm 4,.tm 5]⟩
end
end
section
open Go.RowKit
set_option maxRecDepth 10000
attribute [local simp] AS.exp expG Box.ren AV.map AV.mapL Zaw noRet Site.isRet Box.allS AV.allS AV.allSL retB dropL AS.adds renL outG outOk Zau inG fnOf lookA Zww
attribute [local simp] Box.purge Site.isLoc
def decB (n:Nat):ByteArray:=⟨(Lib.decDigits n).toArray⟩
theorem Ze5 {n:Nat}(h:n<10):decB n=⟨#[UInt8.ofNat (48+n)]⟩:=by
 unfold decB Lib.decDigits;rw[dif_pos h]
theorem Zke {n:Nat}(h:¬n<10):decB n=decB (n / 10)++decB (n%10):=by
 rw[Ze5 (n:=n%10) (by omega)];unfold decB
 conv=>lhs;unfold Lib.decDigits
 rw[dif_neg h];apply ByteArray.ext;rw[ByteArray.data_append];simp
theorem ZcC (n:Nat):∀k,n<10^(k+1)→(decB n).size≤k+1:=by
 induction n using Nat.strongRecOn with
 |_ n ih=>
  intro k hk;by_cases h:n<10
  ·rw[Ze5 h];show 1≤k+1;omega
  ·rw[Zke h,ByteArray.size_append,Ze5 (n:=n%10) (by omega)];cases k with
   |zero=>simp at hk;omega
   |succ k=>
    have:=ih (n / 10) (by omega) k (by rw[Nat.pow_succ]at hk;omega)
    show(decB (n / 10)).size+1≤_;omega
theorem Zjb:∀(n:Nat),n<1000000000000→Gives Tryz.prog 16 [.int .i64 (n:Int)] (.str (decB n)):=by
 intro n;induction n using Nat.strongRecOn with
 |_ n ih=>
  intro hn;have h0:¬((n:Int)<0):=by omega
  refine cS L16 ?_;by_cases h:n<10
  ·have h1:(n:Int)<10:=by omega
   have w1:IntKind.i64.wrap (48+(n:Int))=48+(n:Int):=wrap64 (by omega);have w2:IntKind.u8.wrap (48+(n:Int))=48+(n:Int):=by rw[show IntKind.u8.wrap (48+(n:Int))=(48+(n:Int))%256 from rfl];omega
   have w3:(48+(n:Int)).toNat=48+n:=by omega
   have hd:=Ze5 h;simp[-getElem?_pos,L16,h0,h1,w1,w2,Zdf,Zec,w3,hd]
  ·have h1:¬((n:Int)<10):=by omega
   have c1:=ih (n / 10) (by omega) (by omega);have c2:=ih (n%10) (by omega) (by omega);have w1:IntKind.i64.wrap ((n:Int) / 10)=((n / 10:Nat):Int):=by rw[wrap64 (by omega)];omega
   have w2:(n:Int).tmod 10=((n%10:Nat):Int):=by rw[Int.tmod_eq_emod_of_nonneg (by omega)];rfl
   have w3:(n:Int).tdiv 10=(n:Int) / 10:=by rw[Int.tdiv_eq_ediv_of_nonneg (by omega)]
   have w4:IntKind.i64.wrap ((n%10:Nat):Int)=((n%10:Nat):Int):=wrap64 (by omega);have hd:=Zke h;have s1:=ZcC (n / 10) 12 (by omega);have s2:=ZcC (n%10) 12 (by omega);have s3:(decB (n / 10)).size+(decB (n%10)).size≤9223372036854775807:=by omega
   simp[-getElem?_pos,L16,h0,h1,w1,w2,w3,w4];refine cG [.int .i64 ((n / 10:Nat):Int)] c1 ?_;simp[-getElem?_pos,w2,w4];refine cG [.int .i64 ((n%10:Nat):Int)] c2 ?_;simp[-getElem?_pos,nble,s3,hd]
end
section
open Go.RowKit
set_option maxRecDepth 10000
attribute [local simp] AS.exp expG Box.ren AV.map AV.mapL Zaw noRet Site.isRet Box.allS AV.allS AV.allSL retB dropL AS.adds renL outG outOk Zau inG fnOf lookA Zww
attribute [local simp] Box.purge Site.isLoc
attribute [local simp] retFz frzL AS.frz AV.frz AV.frzL Box.frz AS.tidy AS.frzC frzsL retOk renB toLoc
section
variable {D:Wk→ByteArray→Wk×Int}
theorem ZbE {s:ByteArray}:∀{l:List ByteArray} {st:Wk},keepD D st (l++[s])=keepD D st l++if(D (foldD D st l).1 s).2=0 then[s]else[]
 |[],st=>by
  by_cases h:(D st s).2=0
  ·simp[keepD,foldD,h]
  ·simp[keepD,foldD,h]
 |x::l,st=>by
  simp only[ZwI,keepD,foldD];rw[ZbE (l:=l)];by_cases h2:(D (foldD D (D st x).1 l).1 s).2=0<;>by_cases h1:(D st x).2=0<;>simp[h1,h2]
theorem Zbk:∀{l:List ByteArray} {st:Wk},(keepD D st l).length≤l.length
 |[],_=>Zv5 _
 |x::l,st=>by
  unfold keepD;split
  ·exact Nat.succ_le_succ Zbk
  ·exact Nat.le_succ_of_le Zbk
theorem Zbm {s:ByteArray}:∀{L:List ByteArray} {st:Wk} {k:Nat},L[k]?=some s→(foldD D st L).2[k]?=some (D (foldD D st (L.take k)).1 s).2
 |[],_,k,h=>by simp at h
 |x::L,st,0,h=>by
  simp only[List.getElem?_cons_zero,Option.some.injEq]at h;subst h;rfl
 |x::L,st,k+1,h=>by
  simp only[ZwW]at h;simp only[foldD,List.take_succ_cons,ZwW];exact Zbm h
end
def emp5:List AV:=[.pv (.emp (some true)),.pv (.emp (some true)),.pv (.emp (some true)),.pv (.emp (some true)),.pv (.emp (some true))]
def pdS (L:List ByteArray)(w:Wk)(es:List Int)(kp:List ByteArray)(k:Nat):AS:=
 ⟨[(0,.pv (.lst false 1 (L.map .str))),(2,.ptr (.loc 2 0) 0),(5,.ptr (.loc 5 0) 0),(6,.pv (.lst false 1 (es.map iE))),(8,.vec (.loc 44 0) 1 0 kp.length),(9,.pv (.int .i64 (k:Int)))],
  [(.loc 44 0,.arr 9 1 (kp.map .str)),(.loc 2 0,.cells emp5),(.loc 5 0,.cells w.cells)]⟩
set_option maxHeartbeats 4000000 in
theorem ZdV {F:Nat}(hF:407<F)(L:List ByteArray)(hr:ZaP L=true):Gives Tryz.prog 11 [strsP L] (.tup [(foldD (doB F) wk0 L).1.pv,strsP (keepD (doB F) wk0 L),.bool true]):=by
 obtain⟨hl0,hs0⟩:=ZaG hr;have hck:=ZaB hr;have hbi:=Zeq L (by omega);have hpl:=Zfc hF L (by omega);unfold plyE at hpl;rw[if_pos hck]at hpl;have hfl:=Zbl (D:=doB F) (l:=L) (st:=wk0);have hget:=fun k s (h:L[k]?=some s)=>Zbm (D:=doB F) (st:=wk0) h
 have hkp:=fun k s=>ZbE (D:=doB F) (s:=s) (l:=L.take k) (st:=wk0)
 have hkl:=fun k=>Zwh (Zbk (D:=doB F) (l:=L.take k) (st:=wk0)) (show(L.take k).length≤50 by rw[Zv8];omega)
 refine cFR [.loc 44 0] L11 ?_;intro R hR;generalize hD:doB F=D at hpl hfl hget hkp hkl hR;obtain⟨K,hK⟩:∃K:Nat→List ByteArray,K=fun k=>keepD D wk0 (L.take k):=⟨_,rfl⟩
 have hK0:K 0=[]:=by rw[hK];rfl
 have hKL:K L.length=keepD D wk0 L:=by rw[hK];show keepD D wk0 (L.take L.length)=_;rw[Zwm]
 have hKs:∀k s,L[k]?=some s→∃e,(foldD D wk0 L).2[k]?=some e∧K (k+1)=K k++(if e=0 then[s]else[]):=fun k s hx=>by
  refine⟨_,hget k s hx,?_⟩;rw[hK];show keepD D wk0 (L.take (k+1))=_;rw[Zwf,hx];exact hkp k s
 have hKl:∀k,(K k).length≤50:=fun k=>by rw[hK];exact hkl k
 rw[←hKL]at hR;clear hK hkp hkl hget;generalize foldD D wk0 L=q at hpl hfl hKs hR;obtain⟨w,es⟩:=q;dsimp only at hpl hfl hKs hR;simp[-getElem?_pos,L11];refine .inl (cQ [] [strsP L] hbi ?_);simp[-getElem?_pos];refine .inl (cQ [] [strsP L] hpl ?_);simp[-getElem?_pos,Wk.pv,ctsP,bdsP,lotsP,ttsP,runsP,strsP,hfl];refine Zae (fun m τ=>∃k:Nat,k≤L.length∧m=L.length-k∧τ=pdS L w es (K k) k) ⟨L.length,pdS L w es (K 0) 0,Sub.trans' (Sub.mk (by simp[pdS,hK0,AS.vecT]) (by simp[pdS,hK0,AS.vecT,emp5,Wk.cells])) (vecT 44 9 1 8 rfl (by decide)),0,Zwb _,rfl,rfl⟩ ?_;rintro J hJ m τ ⟨k,hk,rfl,rfl⟩;by_cases hlt:k<L.length
 ·obtain⟨s,hx⟩:∃s,L[k]?=some s:=⟨L[k],ZvZ hlt⟩;have hg:(L.map PV.str)[k]?=some (.str s):=by rw[Zv0,hx];rfl
  obtain⟨e,he,hks⟩:=hKs k s hx;have hge:(es.map iE)[k]?=some (.int .i64 e):=by rw[Zv0,he];rfl
  have hw:=wrapK (k:=k) (by omega);have hn:=hJ _ _ ⟨k+1,hlt,rfl,rfl⟩;have hmeas:L.length-(k+1)<L.length-k:=by omega
  have hk5:=hKl k;have hlt2:k<es.length:=by omega
  rw[hks]at hn;clear hJ hKs;generalize K k=kp at hn hk5 ⊢;have hk6:kp.length+1≤1000000:=by omega
  by_cases h0:e=0
  ·rw[if_pos h0]at hn;subst h0;simp[-getElem?_pos,-List.getElem?_map,pdS,hlt,hlt2,hg,hge,nblt,nble,hk6,hw,Wk.cells,emp5];exact⟨_,_,hmeas,Sub.mk (by simp[pdS]) (by simp[pdS,Wk.cells,emp5]),hn⟩
  ·rw[if_neg h0,Zwn]at hn;simp[-getElem?_pos,-List.getElem?_map,pdS,hlt,hlt2,hg,hge,nblt,nble,h0,hw,Wk.cells,emp5];exact⟨_,_,hmeas,Sub.mk (by simp[pdS]) (by simp[pdS,Wk.cells,emp5]),hn⟩
 ·have he:k=L.length:=by omega
  subst he;have hm:List.take (K L.length).length ((K L.length).map PV.str)=(K L.length).map PV.str:=Zv9 (by simp);simp[-getElem?_pos,-List.map_take,pdS,Wk.cells,emp5,hm];rw[←hR];exact⟨by simp[Wk.pv,ctsP,bdsP,lotsP,ttsP,runsP,strsP],by simp⟩
end
section
open Go.RowKit
set_option maxRecDepth 10000
theorem Zfb {b:Bk}(hb:b.ok){item day:Int}(h0:0≤item)(h1:item<b.items.length)(h2:0≤day)(h3:day≤1000):b.askM item day=if b.isHeld item day=true then 0 else 10:=by
 unfold Bk.askM Bk.hasItem inB;rw[Bk.ok_iff.2 hb,decide_eq_true h0,decide_eq_true (show item≤(b.items.length:Int)-1 by omega),decide_eq_true h2,decide_eq_true h3];rfl
attribute [local irreducible] Bk.held Bk.nums Bk.heldU Bk.span
section
variable {b b':Bk}
theorem More.isHeld (hb:b.ok)(hb':b'.ok)(h:More b b'){item day:Int}(hh:b.isHeld item day=true):b'.isHeld item day=true:=by
 unfold Bk.isHeld at hh ⊢;rw[Zi5 hb]at hh;rw[Zi5 hb',h.item];rw[Zwx,Zwq]at hh ⊢;rcases hh with hh|⟨o,ho,e⟩
 ·exact .inl hh
 ·rw[Zv2,Zwk]at e;refine .inr ⟨o,h.c o ho,?_⟩;rw[Zv2,Zwk];exact⟨e.1,h.held hb hb' e.2⟩
end
end
section
open Go.RowKit
set_option maxRecDepth 10000
section
attribute [local irreducible] Bk.suspM earlE Bk.contra Bk.held Bk.span Bk.nums
theorem ZjY {l:List Ct}{bad bad':List Int}(h:∀n,n∈bad↔n∈bad'):Zaj l bad=Zaj l bad':=by
 unfold Zaj goodC;congr 1;refine List.filter_congr fun x _=>?_
 have:badP bad x=badP bad' x:=by
  rw[ZwD,Zbx,Zbx,h]
 rw[this]
end
section
attribute [local irreducible] earlE Bk.contra Bk.held Bk.span Bk.nums Bk.fault
end
end
section
open Go.RowKit
set_option maxRecDepth 10000
attribute [local simp] AS.exp expG Box.ren AV.map AV.mapL Zaw noRet Site.isRet Box.allS AV.allS AV.allSL retB dropL AS.adds renL outG outOk Zau inG fnOf lookA Zww
attribute [local simp] Box.purge Site.isLoc
attribute [local simp] retFz frzL AS.frz AV.frz AV.frzL Box.frz AS.tidy AS.frzC frzsL retOk renB toLoc
def lstO (L:List ByteArray)(r:AV)(B:List (Site×Box)):Prop:=r=.vec (.ret 0) 1 0 L.length∧B=[(.ret 0,.arr 9 1 (L.map .str))]
theorem Zlt (L:List ByteArray)(hl:L.length≤1000000):Zak Tryz.prog 14 [.pv (strsP L)] [] (lstO L):=by
 refine cB [.loc 5 0] L14 ?_;generalize hR:lstO L=R;have h4:List.take L.length (L.map PV.str)=L.map PV.str:=Zv9 (by rw[Zv6];exact Zv5 _);simp[-getElem?_pos,L14,strsP,nble,hl,h4];rw[←hR];unfold lstO;simp
theorem Zfm {L:List ByteArray}{s:ByteArray}(h:ZaP L=true)(h1:L.length≤49)(h2:s.size≤200):ZaP (L++[s])=true:=by
 obtain⟨k1,k2⟩:=ZaG h;unfold ZaP;rw[Zv2,decide_eq_true_eq,Zwl];refine⟨fun x hx=>?_,by rw[Zv7];simp;omega⟩;rcases Zwv.1 hx with hx|hx
 ·simpa using k2 x hx
 ·cases Zwo.1 hx;simpa using h2
section
variable {P:Program}{K:AS→Prop}{Q:AEx→AS→Prop}{σ:AS}
theorem Zcx:opsS P [] K σ=K σ:=propext ⟨fun h=>h,fun h=>h⟩
theorem Zdi:thenA K Q .normal σ=K σ:=propext ⟨fun h=>h,fun h=>h⟩
end
end
section
open Go.RowKit
set_option maxRecDepth 10000
section
attribute [local irreducible] Bk.suspM earlE Bk.contra Bk.held Bk.span Bk.nums Bk.isHeld
theorem Zbi {b:Bk}{i d:Int}:(b.bestM i d).2=b.askM i d:=by
 unfold Bk.bestM;split
 ·rename_i h;rw[h]
  split<;>rfl
 ·rfl
theorem Zex {l:List Ct}{bad:List Int}(hl:Bk.ok ⟨ZaE,l⟩){i d:Int}(h0:0≤i)(h1:i≤5)(h2:0≤d)(h3:d≤1000):
  ((Zaj l bad).bestM i d).2=if stM l bad i d=true then 0 else 10:=by
 have hb:=Zbf (bad:=bad) hl;have h:=Zfb hb h0 (show i<((Zaj l bad).items.length:Int) by show i<(6:Int);omega) h2 h3;have hs:stM l bad i d=decide ((Zaj l bad).askM i d=0):=by unfold stM;rw[Zbi]
 rw[Zbi,hs,h]
 split<;>rfl
theorem Ztb {l:List Ct}{bad bad':List Int}(hl:Bk.ok ⟨ZaE,l⟩)(hb:∀n∈bad,n∈bad'){i d:Int}(h0:0≤i)(h1:i≤5)(h2:0≤d)(h3:d≤1000)(h:stM l bad' i d=true):stM l bad i d=true:=by
 have k1:=Zfb (Zbf (bad:=bad') hl) h0 (show i<((Zaj l bad').items.length:Int) by show i<(6:Int);omega) h2 h3;have k2:=Zfb (Zbf (bad:=bad) hl) h0 (show i<((Zaj l bad).items.length:Int) by show i<(6:Int);omega) h2 h3;unfold stM at h ⊢;rw[Zbi]at h ⊢;have h:=of_decide_eq_true h;rw[k1]at h;split at h
 ·rename_i hh;rw[k2,if_pos ((ZjZ hb).isHeld (Zbf hl) (Zbf hl) hh)];rfl
 ·cases h
end
end
section
open Go.RowKit
theorem ZaM {b:UInt8}:∀{l:List UInt8} {acc:Nat},Lib.decFrom acc (l++[b])=(Lib.decFrom acc l).bind fun n=>(Lib.digitVal b).map fun d=>n*10+d
 |[],acc=>by
  simp only[List.nil_append,Lib.decFrom,ZwE];cases Lib.digitVal b<;>rfl
 |x::l,acc=>by
  simp only[ZwI,Lib.decFrom];cases Lib.digitVal x with
  |none=>rfl
  |some d=>exact ZaM (l:=l)
theorem Zdd {d:Nat}(h:d<10):Lib.digitVal (UInt8.ofNat (48+d))=some d:=by
 unfold Lib.digitVal;have e:(UInt8.ofNat (48+d)).toNat=48+d:=by rw[UInt8.toNat_ofNat'];omega
 rw[e,if_pos (by omega)];congr 1;omega
theorem ZaW {u:Nat}(h:u<10):Lib.decDigits u=[UInt8.ofNat (48+u)]:=Lib.decDigits_one h
theorem Zba {u:Nat}(h:¬u<10):Lib.decDigits u=Lib.decDigits (u / 10)++[UInt8.ofNat (48+u%10)]:=by
 conv=>lhs;rw[Lib.decDigits,dif_neg h]
theorem ZbO (u:Nat):Lib.decFrom 0 (Lib.decDigits u)=some u:=by
 induction u using Nat.strongRecOn with
 |_ u ih=>
  by_cases h:u<10
  ·rw[ZaW h];simp only[Lib.decFrom,Zdd h];congr 1;omega
  ·rw[Zba h,ZaM,ih (u / 10) (by omega),ZwE,Zdd (Nat.mod_lt _ (by decide)),Zwu];congr 1;omega
theorem ZbN (u:Nat):Lib.decDigits u≠[]:=by
 by_cases h:u<10
 ·rw[ZaW h];simp
 ·rw[Zba h];simp
theorem Zdn (k:Nat)(h:(Lib.decDigits k).length≤9):Lib.atoiAll (Lib.decDigits k)=.ok (k:Int):=by
 rw[Lib.atoiAll_short _ (by omega)];have hno:=ZdF k;have hf:=ZbO k;have hne:=ZbN k;cases hd:Lib.decDigits k with
 |nil=>exact absurd hd hne
 |cons c r=>
  rw[hd]at hf;have h45:c≠45:=hno c (by rw[hd];exact Zwz ..);have h43:c≠43:=fun e=>by
   subst e;simp only[Lib.decFrom]at hf
   have:Lib.digitVal 43=none:=by decide
   rw[this]at hf;cases hf
  have e45:(c==45)=false:=by simpa using h45
  have e43:(c==43)=false:=by simpa using h43
  simp only[Lib.atoi,e45,e43,Lib.decNat,List.isEmpty_cons,ZwP,if_false,hf,Zwu];rfl
theorem Zcc (k:Nat):Lib.trimPrefix (Lib.decDigits k) [45]=Lib.decDigits k:=by
 have hno:=ZdF k;cases hd:Lib.decDigits k with
 |nil=>rfl
 |cons c r=>
  have hc:c≠45:=hno c (by rw[hd];exact Zwz ..);simp[Lib.trimPrefix,Lib.hasPrefix,hc]
  try exact fun e=>absurd e.symm hc
theorem Zdk {s:ByteArray}{v:Int}(h1:s.data.toList=Lib.itoa v)(h2:Lib.atoiAll (Lib.itoa v)=.ok v)(h3:(Lib.trimPrefix (Lib.itoa v) [45]).length≤9):numB s=some v:=by
 unfold numB;rw[h1,h2];have e:itoaB v=s:=by
  unfold itoaB;rw[←h1]
 have e2:(trimB s ⟨#[45]⟩).size≤9:=by
  show(Lib.trimPrefix s.data.toList [45]).length≤9;rw[h1];exact h3
 exact if_pos ⟨e,e2⟩
def Zar:List UInt8→List (List UInt8)
 |[]=>[[]]
 |c::r=>if c=32 then[]::Zar r else match Zar r with
  |h::t=>(c::h)::t
  |[]=>[[c]]
theorem Zat (c:UInt8)(r:List UInt8):Zar (c::r)=if c=32 then[]::Zar r else match Zar r with
  |h::t=>(c::h)::t
  |[]=>[[c]]:=rfl
theorem ZbJ:∀l:List UInt8,(Lib.index l [32] = -1∧Zar l=[l])∨∃i:Nat,Lib.index l [32]=(i:Int)∧i<l.length∧Zar l=l.take i::Zar (l.drop (i+1))
 |[]=>.inl ⟨by decide,rfl⟩
 |c::r=>by
  by_cases hc:c=32
  ·subst hc;refine .inr ⟨0,?_,by simp,?_⟩
   ·simp[Lib.index]
   ·simp[Zar]
  ·have hp:([32]:List UInt8).isPrefixOf (c::r)=false:=by
    simp[List.isPrefixOf];exact fun e=>absurd e.symm hc
   rcases ZbJ r with⟨h1,h2⟩|⟨i,h1,h2,h3⟩
   ·refine .inl ⟨?_,?_⟩
    ·unfold Lib.index;rw[hp,h1];rfl
    ·rw[Zat,if_neg hc,h2]
   ·refine .inr ⟨i+1,?_,by rw[Zws];omega,?_⟩
    ·unfold Lib.index;rw[hp,h1]
     have:((i:Int)==-1)=false:=by
      rw[beq_eq_false_iff_ne];omega
     rw[this];simp
    ·rw[Zat,if_neg hc,h3];rfl
theorem ZbF:∀(k:Nat) (l:List UInt8),Lib.count l [32]=k→Lib.splitK [32] 0 k l=Zar l
 |k,l,hk=>by
  rcases ZbJ l with⟨h1,h2⟩|⟨i,h1,h2,h3⟩
  ·have h0:k=0:=by rw[←hk];exact Lib.count_miss h1
   subst h0;rw[h2];rfl
  ·have hc:=Lib.count_hit (s:=l) (sub:=[32]) (by simp) h1;rw[hk]at hc;cases k with
   |zero=>omega
   |succ k=>
    have hk':Lib.count (l.drop (i+[32].length)) [32]=k:=by omega
    have ih:=ZbF k (l.drop (i+1)) hk';unfold Lib.splitK;rw[h1]
    have:((i:Int)==-1)=false:=by
     rw[beq_eq_false_iff_ne];omega
    rw[this,h3];simp only[ZwP,if_false,Nat.add_zero,Zw2,ZwS];rw[ih]
termination_by k=>k
theorem Zdj (s:ByteArray):(ZaF s blank).map (·.data.toList)=Zar s.data.toList:=by
 unfold ZaF;rw[Lib.splitB_data];exact ZbF _ _ rfl
theorem ZaS:∀{l r:List UInt8},(∀c∈l,c≠32)→Zar (l++32::r)=l::Zar r
 |[],r,_=>by
  rw[List.nil_append,Zat,if_pos rfl]
 |c::l,r,h=>by
  rw[ZwI,Zat,if_neg (h c (Zwz ..)),ZaS (fun x hx=>h x (ZwR _ hx))]
theorem ZaT:∀{l:List UInt8},(∀c∈l,c≠32)→Zar l=[l]
 |[],_=>rfl
 |c::l,h=>by
  rw[Zat,if_neg (h c (Zwz ..)),ZaT (fun x hx=>h x (ZwR _ hx))]
theorem ZiU (u:Nat):∀c∈Lib.decDigits u,c≠32:=by
 induction u using Nat.strongRecOn with
 |_ u ih=>
  have hd:∀d:Nat,d<10→UInt8.ofNat (48+d)≠32:=fun d hd e=>by
   have:=congrArg UInt8.toNat e
   rw[UInt8.toNat_ofNat']at this;have e2:(32:UInt8).toNat=32:=rfl;omega
  by_cases h:u<10
  ·rw[ZaW h];intro c hc;cases Zwo.1 hc;exact hd u h
  ·rw[Zba h];intro c hc;rcases Zwv.1 hc with hc|hc
   ·exact ih (u / 10) (by omega) c hc
   ·cases Zwo.1 hc;exact hd _ (Nat.mod_lt _ (by decide))
def ZeH:List (List UInt8)→List UInt8
 |[]=>[]
 |[a]=>a
 |a::b::r=>a++32::ZeH (b::r)
theorem Zb2:∀{ps:List (List UInt8)},ps≠[]→(∀p∈ps,∀c∈p,c≠32)→Zar (ZeH ps)=ps
 |[],h,_=>absurd rfl h
 |[a],_,h=>ZaT (h a (Zwz ..))
 |a::b::r,_,h=>by
  unfold ZeH;rw[ZaS (h a (Zwz ..)),Zb2 (by simp) (fun p hp=>h p (ZwR _ hp))]
theorem Zbt {a b:ByteArray}(h:a.data.toList=b.data.toList):a=b:=ByteArray.ext (ZwL.1 h)
theorem ZaL:∀{l m:List ByteArray},l.map (·.data.toList)=m.map (·.data.toList)→l=m
 |[],[],_=>rfl
 |[],b::m,h=>by cases h
 |a::l,[],h=>by cases h
 |a::l,b::m,h=>by
  simp only[Zwd,List.cons.injEq]at h;rw[Zbt h.1,ZaL h.2]
theorem Zdt {s:ByteArray}{ps:List ByteArray}(hs:s.data.toList=ZeH (ps.map (·.data.toList)))(hne:ps≠[])(h:∀p∈ps,∀c∈p.data.toList,c≠32):ZaF s blank=ps:=by
 apply ZaL;rw[Zdj,hs];refine Zb2 (by simpa using hne) (fun p hp c hc=>?_);obtain⟨q,hq,rfl⟩:=Zwc.1 hp;exact h q hq c hc
theorem ZeJ {n:Nat}(h:n<1000000000):numB (decB n)=some (n:Int):=by
 have hi:Lib.itoa (n:Int)=Lib.decDigits n:=Lib.itoa_nonneg n;have hl:(Lib.decDigits n).length≤9:=by
  have:=ZcC n 8 (by omega)
  exact this
 exact Zdk (by rw[hi];rfl) (by rw[hi];exact Zdn n hl) (by rw[hi,Zcc];exact hl)
theorem Zkd (n:Nat):∀c∈(decB n).data.toList,c≠32:=ZiU n
def badW (n:Nat):ByteArray:=wBad++blank++decB n
theorem Zos {n:Nat}(h:n<1000000000):Zay (badW n)=some (188,[(n:Int)]):=by
 have hs:ZaF (badW n) blank=[wBad,decB n]:=Zdt (by
  unfold badW;rw[ZfJ,ZfJ];rfl) (by simp) (fun p hp c hc=>by
  rcases Zwg.1 hp with rfl|hp
  ·revert c;decide
  ·cases Zwo.1 hp;exact Zkd n c hc)
 have hw:wordB wBad=some (1,188):=by decide
 unfold Zay;rw[hs];dsimp only;rw[hw];dsimp only;rw[if_pos (show[decB n].length=1 from rfl),Zbs,ZeJ h];rfl
end
section
open Go.RowKit
set_option maxRecDepth 10000
attribute [local irreducible] Bk.suspM earlE Bk.contra Bk.held Bk.span Bk.nums Bk.isHeld stM verdM
theorem ZsA {w:Wk}{n:Int}:kn w n=true↔∃y∈w.certs,y.num=n:=by
 unfold kn;rw[Zwq];simp only[decide_eq_true_eq]
theorem ZtM {l:List Ct}(h:Bk.ok ⟨ZaE,l⟩){y:Ct}(hy:y∈l):1≤y.num∧y.num≤999:=by
 have:=h.ct y hy
 unfold Bk.certB inB at this;simp only[Zv2,decide_eq_true_eq]at this;omega
theorem ZvL {st:Wk}{n:Nat}(hn:n<1000000000)(hk:∃y∈st.certs,y.num=(n:Int)):
  doB 408 st (badW n)=if(n:Int)∈st.bad then(st,6)else({ st with bad:=insB st.bad (lowB st.bad n) n },0):=by
 unfold doB lineM;rw[Zos hn];dsimp only;have hd:doW 408 st 188 [(n:Int)]=(badM st.certs st.bad n).map fun l=>{ st with bad:=l }:=by
  unfold doW;rw[if_neg (by decide),if_pos rfl]
 have ha:(st.certs.any fun y=>decide (y.num=(n:Int)))=true:=ZsA (w:=st).2 hk;rw[hd];unfold badM;rw[if_pos ha];by_cases h:(n:Int)∈st.bad
 ·rw[if_pos h,if_pos h];rfl
 ·rw[if_neg h,if_neg h];rfl
theorem Zu2 {l:List Ct}{bad:List Int}{i:Nat}{n x d:Int}:stM l (insB bad i n) x d=stM l (bad++[n]) x d:=by
 have h:Zaj l (insB bad i n)=Zaj l (bad++[n]):=ZjY fun m=>by
  rw[Zdl,Zwv,Zwo];exact⟨fun h=>h.elim .inr .inl,fun h=>h.elim .inr .inl⟩
 unfold stM;rw[h]
theorem Zqd {l:List Ct}{bad:List Int}{n x d:Int}(hn:n∈bad):stM l (bad++[n]) x d=stM l bad x d:=by
 have h:Zaj l (bad++[n])=Zaj l bad:=ZjY fun m=>by
  rw[Zwv,Zwo];exact⟨fun h=>h.elim id fun e=>e▸hn,.inl⟩
 unfold stM;rw[h]
theorem ZlF {w:Wk}{n:Int}(hn:n∈w.bad):∀k,wdL w n k=[]
 |0=>rfl
 |k+1=>by
  rw[wdL,ZlF hn k];split
  ·rename_i t _
   have:isWd w n t=false:=by
    unfold isWd;rw[Zqd hn,Bool.and_not_self]
   rw[this];rfl
  ·rfl
theorem Zqa {w:Wk}{n:Int}{k:Nat}:∀{K:Nat},k≤K→∃r,wdL w n K=wdL w n k++r∧∀x∈r,(k:Int)≤x
 |K,h=>by
  induction K with
  |zero=>
   have:k=0:=by omega
   subst this;exact⟨[],rfl,fun x hx=>by cases hx⟩
  |succ K ih=>
   by_cases he:k=K+1
   ·subst he;exact⟨[],(Zwn _).symm,fun x hx=>by cases hx⟩
   ·obtain⟨r,hr,hx⟩:=ih (by omega);rw[wdL,hr];split
    ·split
     ·refine⟨r++[(K:Int)],by rw[ZwQ],fun x h=>?_⟩;rcases Zwv.1 h with h|h
      ·exact hx x h
      ·cases Zwo.1 h;omega
     ·exact⟨r,by rw[Zwn],hx⟩
    ·exact⟨r,by rw[Zwn],hx⟩
theorem ZuZ {w:Wk}{n:Int}{k K:Nat}{t:Tt}(hk:k<K)(ht:w.tests[k]?=some t):
  (isWd w n t=true→(wdL w n K)[(wdL w n k).length]?=some (k:Int))∧(isWd w n t=false→∀x,(wdL w n K)[(wdL w n k).length]?=some x→x≠(k:Int)):=by
 obtain⟨r,hr,hx⟩:=Zqa (w:=w) (n:=n) (k:=k+1) (K:=K) hk;rw[Zh0 ht]at hr;constructor
 ·intro h;rw[if_pos h]at hr;rw[hr,ZwQ,List.getElem?_append_right (Zv5 _),Nat.sub_self];rfl
 ·intro h x hget;rw[if_neg (by rw[h];decide),Zwn]at hr;rw[hr,List.getElem?_append_right (Zv5 _),Nat.sub_self]at hget
  have:=hx x (Zv3 hget)
  omega
end
section
open Go.RowKit
set_option maxRecDepth 10000
attribute [local simp] AS.exp expG Box.ren AV.map AV.mapL Zaw noRet Site.isRet Box.allS AV.allS AV.allSL retB dropL AS.adds renL outG outOk Zau inG fnOf lookA Zww
attribute [local simp] Box.purge Site.isLoc
attribute [local simp] retFz frzL AS.frz AV.frz AV.frzL Box.frz AS.tidy AS.frzC frzsL retOk renB toLoc
def ZaZ:List PV:=ZaE.map It.pv
def rgT (k:Nat):List (Nat×AV):=[(1,.ptr (.loc 1 0) 0),(2,.ptr (.loc 2 0) 0),(3,.ptr (.loc 3 0) 0),(4,.pv (.int .i64 (k:Int)))]
def rgX (w:Wk)(Y:List Ct):List (Site×Box):=[(.loc 55 0,.arr 47 7 (Y.map Ct.pv)),(.loc 14 0,.arr 116 4 ZaZ),(.loc 3 0,.cells [.vec (.loc 14 0) 4 0 6,.vec (.loc 55 0) 7 0 Y.length]),(.loc 1 0,.cells w.cells),(.loc 2 0,.cells [.pv (.emp (some true)),.pv (.emp (some true))])]
def rgS (w:Wk)(k:Nat):AS:=⟨rgT k,rgX w (goodC (w.certs.take k) w.bad)⟩
def rgJ (w:Wk)(Y:List Ct)(x:Ct)(k j:Nat):AS:=⟨(5,.pv (.bool (badP (w.bad.take j) x)))::(6,.pv (.int .i64 (j:Int)))::rgT k,rgX w Y⟩
theorem ZcG {bad:List Int}{j:Nat}{n:Int}{x:Ct}(h:bad[j]?=some n):badP (bad.take (j+1)) x=(badP (bad.take j) x||decide (n=x.num)):=by
 rw[ZwD,Zbx,Zwx,Zbx,Zwf,h];simp[eq_comm]
set_option maxHeartbeats 16000000 in
theorem ZbY (w:Wk)(hl:w.certs.length≤1000)(hb:w.bad.length≤1000):Gives Tryz.prog 20 [w.pv] (Zaj w.certs w.bad).pv:=by
 refine cFR [.loc 14 0,.loc 55 0] L20 ?_;intro R hR;simp[-getElem?_pos,L20,Wk.pv,ctsP,bdsP];refine Zae (fun m τ=>∃k:Nat,k≤w.certs.length∧m=w.certs.length-k∧τ=rgS w k) ⟨w.certs.length,rgS w 0,Sub.trans' (Sub.mk (by simp[rgS,rgT,rgX,AS.vecC]) (by simp[rgS,rgT,rgX,AS.vecC,Wk.cells,ctsP,bdsP,lotsP,ttsP,runsP,ZaZ,ZaE,It.pv,goodC])) (vecC 55 47 7 (s:=.loc 3 0) (cs:=[.vec (.loc 14 0) 4 0 6,.pv (.emp (some true))]) 1 rfl rfl (by decide)),0,by omega,rfl,rfl⟩ ?_;rintro J hJ m τ ⟨k,hk,rfl,rfl⟩;by_cases hlt:k<w.certs.length
 ·obtain⟨x,hx⟩:∃x,w.certs[k]?=some x:=⟨w.certs[k],ZvZ hlt⟩;have hg:(w.certs.map Ct.pv)[k]?=some (.agg [.int .i64 x.num,.int .i64 x.it,.int .i64 x.src,.int .i64 x.day,.int .i64 x.valid,.int .i64 x.diff.lo,.int .i64 x.diff.hi]):=by rw[Zv0,hx];rfl
  have hw:=wrapK (k:=k) (by omega);have hround:=hJ _ _ ⟨k+1,hlt,rfl,rfl⟩;have hmeas:w.certs.length-(k+1)<w.certs.length-k:=by omega
  have hnext:goodC (w.certs.take (k+1)) w.bad=goodC (w.certs.take k) w.bad++(if(!badP w.bad x)=true then[x]else[]):=by
   unfold goodC;rw[Zwf,hx,ZwM];congr 1;simp only[Option.toList,ZwJ,List.filter_nil]
  have hpl:(goodC (w.certs.take k) w.bad).length≤1000:=Zwh (ZwN _ _) (by rw[Zv8];omega);unfold rgS at hround ⊢;rw[hnext]at hround;clear hJ hnext;generalize goodC (w.certs.take k) w.bad=Y at *;simp[-getElem?_pos,-List.getElem?_map,rgT,rgX,Wk.cells,ctsP,bdsP,hlt,hg,nble,nblt,hw];refine Zae (fun m τ=>∃j:Nat,j≤w.bad.length∧m=w.bad.length-j∧τ=rgJ w Y x k j) ⟨w.bad.length,rgJ w Y x k 0,Sub.mk (by simp[rgJ,rgT,badP]) (by simp[rgJ,rgX,Wk.cells]),0,by omega,rfl,rfl⟩ ?_;rintro J2 hJ2 m2 τ2 ⟨j,hj,rfl,rfl⟩;by_cases hjl:j<w.bad.length
  ·obtain⟨n,hn⟩:∃n,w.bad[j]?=some n:=⟨w.bad[j],ZvZ hjl⟩;have hgn:(w.bad.map iP)[j]?=some (.int .i64 n):=by rw[Zv0,hn];rfl
   have hwj:=wrapK (k:=j) (by omega);have hr2:=hJ2 _ _ ⟨j+1,hjl,rfl,rfl⟩;have hm2:w.bad.length-(j+1)<w.bad.length-j:=by omega
   unfold rgJ at hr2 ⊢;rw[ZcG hn]at hr2;clear hJ2;generalize badP (w.bad.take j) x=q at *;cases q with
   |true=>
    simp[-getElem?_pos,-List.getElem?_map,rgT,rgX,Wk.cells,ctsP,bdsP,hjl,hgn,nble,nblt,hwj];exact⟨_,_,hm2,Sub.mk (by simp[rgT]) (by simp[rgX,Wk.cells]),hr2⟩
   |false=>
    simp[-getElem?_pos,-List.getElem?_map,rgT,rgX,Wk.cells,ctsP,bdsP,hjl,hgn,nble,nblt,hwj,hlt,hg];exact⟨_,_,hm2,Sub.mk (by simp[rgT]) (by simp[rgX,Wk.cells]),hr2⟩
  have he:j=w.bad.length:=by omega
  subst he;clear hJ2 hjl hj;unfold rgJ;rw[Zwm];have hY:(Y.map Ct.pv).take Y.length=Y.map Ct.pv:=Zv9 (by simp);have hY6:Y.length≤999999:=by omega
  cases hbp:badP w.bad x with
  |true=>
   rw[hbp,if_neg (by simp),Zwn]at hround;simp[-getElem?_pos,-List.getElem?_map,rgT,rgX,Wk.cells,ctsP,bdsP,hw];exact⟨_,_,hmeas,Sub.mk (by simp[rgT]) (by simp[rgX,Wk.cells]),hround⟩
  |false=>
   rw[hbp,if_pos (show(!false)=true from rfl)]at hround;simp[-getElem?_pos,-List.getElem?_map,rgT,rgX,Wk.cells,ctsP,bdsP,hw,hlt,hg,nble,nblt,hY,hY6];exact⟨_,_,hmeas,Sub.mk (by simp[rgT]) (by simp[rgX,Wk.cells,Ct.pv]),hround⟩
 have he:k=w.certs.length:=by omega
 subst he;clear hJ;unfold rgS;rw[Zwm];have hwp:(Zaj w.certs w.bad).pv=.agg [.lst false 4 ZaZ,.lst false 7 ((goodC w.certs w.bad).map Ct.pv)]:=rfl;rw[hwp]at hR;generalize goodC w.certs w.bad=Z at *;have hmZ:(Z.map Ct.pv).take Z.length=Z.map Ct.pv:=Zv9 (by simp);have hh:ZaZ.length=6:=rfl;have hh2:ZaZ.take 6=ZaZ:=rfl;simp[-getElem?_pos,-List.getElem?_map,rgT,rgX,Wk.cells,ctsP,bdsP,hmZ,hh,hh2];rw[←hR];exact⟨rfl,rfl⟩
theorem ZbZ {l:List Ct}{bad:List Int}(hl:l.length≤1000):(Zaj l bad).certs.length≤1000:=Zwh (ZwN _ _) hl
def stE (e:Int):PV:=.tup [.bool (decide (e=0)),.bool (decide (e=0)||decide (e=10))]
theorem ZbH (w:Wk)(hl:w.certs.length≤1000)(hb:w.bad.length≤1000)(lot item day rd:Int):Gives Tryz.prog 17 [w.pv,.agg [.int .i64 lot,.int .i64 item,.int .i64 day,.int .i64 rd]] (stE ((Zaj w.certs w.bad).bestM item day).2):=by
 have hrc:=ZbY w hl hb;have hbc:=Zkv (Zaj w.certs w.bad) (show ZaE.length≤1000 by decide) (ZbZ hl) item day;refine cSR L17 ?_;intro R hR;obtain⟨W,hW⟩:∃z,z=w.pv:=⟨_,rfl⟩;rw[←hW]at hrc ⊢;obtain⟨B,hB⟩:∃z,z=(Zaj w.certs w.bad).pv:=⟨_,rfl⟩;rw[←hB]at hrc hbc;generalize(Zaj w.certs w.bad).bestM item day=b at *;obtain⟨l,e⟩:=b;have hwc:W=.agg [.lst false 7 (w.certs.map Ct.pv),.lst false 1 (w.bad.map iP),.lst false 4 (w.lots.map Lt.pv),.lst false 4 (w.tests.map Tt.pv),.lst false 3 (w.runs.map Qn.Rq.pv)]:=hW;rw[hwc]at hrc ⊢;simp[-getElem?_pos,L17];refine cQ [] [_] hrc ?_;simp[-getElem?_pos,frzsL];refine .inl (cQ [] [B,.int .i64 item,.int .i64 day] hbc ?_);simp[-getElem?_pos,lstE,-decide_eq_true_eq,-decide_eq_false_iff_not];cases h0:decide (e=0)
 ·simp[-getElem?_pos,-decide_eq_true_eq,-decide_eq_false_iff_not,h0,←hR,stE]
 ·simp[-getElem?_pos,-decide_eq_true_eq,-decide_eq_false_iff_not,h0,←hR,stE]
def hgS (w u:Wk)(l:List Int)(at_ k:Nat):AS:=
 ⟨[(5,.ptr (.loc 5 0) 0),(9,.pv (.lst false 1 (l.map iP))),(11,.ptr (.loc 11 0) 0),(14,.pv (.int .i64 (at_:Int))),(15,.pv (.int .i64 (k:Int)))],[(.loc 5 0,.cells w.cells),(.loc 11 0,.cells u.cells)]⟩
theorem ZpT {n:Nat}(h:n<1000):(decB n).size≤9:=ZcC n 8 (by omega)
set_option maxHeartbeats 16000000 in
theorem Zua (L:List ByteArray)(hl:L.length≤9223372036854775807)(wh:Int)(ha:0≤wh∧wh≤255):Gives Tryz.prog 4 [strsP L,.int .u8 wh] (.bool true):=by
 have hth:=Zg1 L hl;refine cSR L4 ?_;intro R hR;have hfin:R (.pv (.bool true)) []:=by rw[←hR];exact⟨rfl,rfl⟩
 clear hR;simp[-getElem?_pos,L4];refine cG [strsP L] hth ?_;cases ht:thinB L with
 |false=>
  simp[-getElem?_pos];refine cG [] ZaA ?_;simp[-getElem?_pos];exact hfin
 |true=>
 have hl5:L.length≤55:=by
  unfold thinB at ht;rw[Zv2,decide_eq_true_eq]at ht;exact ht.2
 have hrr:=ZeC L (by omega);simp[-getElem?_pos];refine cG [strsP L] hrr ?_;cases hrt:ZaP L with
 |false=>
  simp[-getElem?_pos];refine cG [] ZaA ?_;simp[-getElem?_pos];exact hfin
 |true=>
 by_cases h49:L.length≤49
 case neg=>
  have h49':(49:Int)<(L.length:Int):=by omega
  simp[-getElem?_pos,strsP,h49'];refine cG [] ZaA ?_;simp[-getElem?_pos];exact hfin
 have h49':¬(49:Int)<(L.length:Int):=by omega
 have hF:407<408:=by decide
 have hp1:=ZdV hF L hrt;obtain⟨_,hsz⟩:=ZaG hrt;have hck:=ZaB hrt;obtain⟨iI,iJ⟩:=ZdC (l:=L) (k:=0) wk0_I wk0_J;have hwd:=fun n=>Zg4 hF L (by omega) n
 simp only[wdrE,if_pos hck]at hwd;have hplay:=fun(s:ByteArray) (hs:s.size≤200)=>Zfc hF (L++[s]) (by rw[Zv7];simp;omega)
 simp only[plyE]at hplay;have hplay':∀s:ByteArray,s.size≤200→Gives Tryz.prog 15 [strsP (L++[s])] (.tup [(doB 408 (foldD (doB 408) wk0 L).1 s).1.pv,.lst false 1 (((foldD (doB 408) wk0 L).2++[(doB 408 (foldD (doB 408) wk0 L).1 s).2]).map iE),.int .i64 0]):=fun s hs=>by
  have h:=hplay s hs;rw[if_pos (ZaB (Zfm hrt h49 hs)),Zcq]at h;exact h
 clear hplay;have hes:=Zbl (D:=doB 408) (l:=L) (st:=wk0);generalize keepD (doB 408) wk0 L=kp at hp1;generalize foldD (doB 408) wk0 L=q at hp1 iI iJ hwd hplay' hes;obtain⟨w,es⟩:=q;dsimp only at hp1 iI iJ hwd hplay' hes;have hcl:=iI.c;have hbl:=iI.b;have htl:=iI.t;simp[-getElem?_pos,strsP,h49'];refine .inl<|cQ [] [strsP L] hp1 ?_;by_cases hc0:w.certs=[]
 ·simp[-getElem?_pos,frzsL,Wk.pv,ctsP,hc0];refine cG [] ZaA ?_;simp[-getElem?_pos];exact hfin
 have hcp:0<w.certs.length:=List.length_pos_iff.2 hc0;have hcp':¬((w.certs.length:Int)=0):=by omega
 obtain⟨k,hk,hkl⟩:∃k:Nat,wh.tmod (w.certs.length:Int)=(k:Int)∧k<w.certs.length:=by
  have h1:=Int.tmod_nonneg (w.certs.length:Int) ha.1;have h2:=Int.tmod_lt_of_pos wh (show(0:Int)<(w.certs.length:Int) by omega);exact⟨(wh.tmod (w.certs.length:Int)).toNat,by omega,by omega⟩
 obtain⟨c,hc⟩:∃c,w.certs[k]?=some c:=⟨w.certs[k],ZvZ hkl⟩;have hgc:(w.certs.map Ct.pv)[k]?=some (.agg [.int .i64 c.num,.int .i64 c.it,.int .i64 c.src,.int .i64 c.day,.int .i64 c.valid,.int .i64 c.diff.lo,.int .i64 c.diff.hi]):=by rw[Zv0,hc];rfl
 have hcm:=Zv3 hc;obtain⟨b1,b2⟩:=ZtM iI.bk hcm;obtain⟨n,hn⟩:∃n:Nat,c.num=(n:Int):=⟨c.num.toNat,by omega⟩;have hn9:n<1000:=by omega
 have hkn:kn w c.num=true:=ZsA.2 ⟨c,hcm,rfl⟩;have hwdn:=hwd c.num;rw[if_pos hkn]at hwdn;have w1:IntKind.i64.wrap wh=wh:=wrap64 (by omega);have l1:¬c.num<1:=by omega
 have l2:¬999<c.num:=by omega
 have hbi:=Zeq L (by omega);simp[-getElem?_pos,-List.getElem?_map,frzsL,Wk.pv,ctsP,hc0,hcp',w1,hk,hkl,hgc,l1,l2];refine .inl<|cQ [] [strsP L] hbi ?_;simp[-getElem?_pos,-List.getElem?_map,frzsL];refine .inl<|cQ [] [strsP L,.int .i64 c.num] hwdn ?_;simp[-getElem?_pos,-List.getElem?_map,frzsL];refine .inl<|Zbh [] (fs:=[]) (xs:=[strsP L]) (cs:=[]) (d:=74) rfl rfl (Zlt L (by omega)) ?_;rintro r B ⟨rfl,rfl⟩;refine⟨by simp,?_⟩;have htx:=Zjb n (by omega);rw[←hn]at htx;have hs9:=ZpT hn9;simp[-getElem?_pos,-List.getElem?_map,frzsL];refine cG [.int .i64 c.num] htx ?_;have hL6:L.length+1≤1000000:=by omega
 have hsc:ByteArray.size ⟨#[98,97,100,32]⟩+(decB n).size≤9223372036854775807:=by
  have:ByteArray.size ⟨#[98,97,100,32]⟩=4:=rfl
  omega
 have hbw:(⟨#[98,97,100,32]⟩++decB n:ByteArray)=badW n:=by
  apply Zbt;unfold badW;rw[ZfJ,ZfJ,ZfJ];rfl
 have hbz:(badW n).size≤200:=by
  rw[←hbw,ByteArray.size_append]
  have:ByteArray.size ⟨#[98,97,100,32]⟩=4:=rfl
  omega
 have hpb:=hplay' (badW n) hbz;have hdo:=ZvL (st:=w) (n:=n) (by omega) ⟨c,hcm,hn⟩;simp[-getElem?_pos,-List.getElem?_map,nble,hL6,hsc,hbw];refine .inl<|cP [.loc 79 0] [strsP (L++[badW n])] (by simp) (by simp[strsP];try exact Zv9 (by simp)) hpb ?_;have hll:((L.length:Int)+1)=((L.length+1:Nat):Int):=rfl;have hel:(es++[(doB 408 w (badW n)).2]).length=L.length+1:=by rw[Zv7,hes];rfl
 have hge:((es++[(doB 408 w (badW n)).2]).map iE)[L.length]?=some (.int .i64 (doB 408 w (badW n)).2):=by
  rw[Zv0,List.getElem?_append_right (by omega),hes,Nat.sub_self];rfl
 have hlle:L.length<(es++[(doB 408 w (badW n)).2]).length:=by omega
 generalize es++[(doB 408 w (badW n)).2]=es2 at hel hge hlle ⊢;have w3:IntKind.i64.wrap ((L.length:Int)+1)=(L.length:Int)+1:=wrap64 (by omega);by_cases hin:(n:Int)∈w.bad
 ·rw[if_pos hin]at hdo;rw[hdo]at hge ⊢;have hw0:wdL w c.num w.tests.length=[]:=ZlF (by rw[hn];exact hin) _;simp[-getElem?_pos,-List.getElem?_map,-List.map_append,frzsL,AS.frz,AV.frz,AV.frzL,Box.frz,Wk.pv,ttsP,hel,w3,hw0,hge,hlle];refine cG [] ZaA ?_;simp[-getElem?_pos];exact hfin
 rw[if_neg hin]at hdo;rw[hdo]at hge ⊢;simp[-getElem?_pos,-List.getElem?_map,-List.map_append,frzsL,AS.frz,AV.frz,AV.frzL,Box.frz,Wk.pv,ttsP,hel,w3,hge,hlle];clear hp1 hwd hplay' hwdn hbi htx hpb hdo hge hel hlle hgc;obtain⟨u,hu⟩:∃u:Wk,u={ w with bad:=insB w.bad (lowB w.bad n) n }:=⟨_,rfl⟩;have hat:=fun k t h=>ZuZ (w:=w) (n:=c.num) (k:=k) (K:=w.tests.length) (t:=t) h
 have hsu:∀lot item day rd,2≤item→item≤5→0≤day→day≤1000→Gives Tryz.prog 17 [u.pv,.agg [.int .i64 lot,.int .i64 item,.int .i64 day,.int .i64 rd]] (stE (if stM w.certs (w.bad++[c.num]) item day=true then 0 else 10)):=fun lot item day rd h0 h1 h2 h3=>by
  have h:=ZbH u (by rw[hu];show w.certs.length≤1000;omega) (by rw[hu];show(insB w.bad (lowB w.bad n) n).length≤1000;unfold insB;rw[Zv7,Zws,Zv8,ZwB];omega) lot item day rd;have e:((Zaj u.certs u.bad).bestM item day).2=if stM w.certs (w.bad++[c.num]) item day=true then 0 else 10:=by
   rw[hu];show((Zaj w.certs (insB w.bad (lowB w.bad n) n)).bestM item day).2=_;rw[Zex iI.bk (by omega) h1 h2 h3,Zu2,hn]
  rw[e]at h;exact h
 have hsw:∀lot item day rd,2≤item→item≤5→0≤day→day≤1000→Gives Tryz.prog 17 [w.pv,.agg [.int .i64 lot,.int .i64 item,.int .i64 day,.int .i64 rd]] (stE (if stM w.certs w.bad item day=true then 0 else 10)):=fun lot item day rd h0 h1 h2 h3=>by
  have h:=ZbH w (by omega) (by omega) lot item day rd;rw[Zex iI.bk (by omega) h1 h2 h3]at h;exact h
 have hup:u.pv=.agg [.lst false 7 (w.certs.map Ct.pv),bdsP (insB w.bad (lowB w.bad n) n),lotsP w.lots,.lst false 4 (w.tests.map Tt.pv),runsP w.runs]:=by rw[hu];rfl
 have huc:u.cells=[.pv (.lst false 7 (w.certs.map Ct.pv)),.pv (bdsP (insB w.bad (lowB w.bad n) n)),.pv (lotsP w.lots),.pv (.lst false 4 (w.tests.map Tt.pv)),.pv (runsP w.runs)]:=by rw[hu];rfl
 have hwp:w.pv=.agg [.lst false 7 (w.certs.map Ct.pv),bdsP w.bad,lotsP w.lots,.lst false 4 (w.tests.map Tt.pv),runsP w.runs]:=rfl;have hwc:w.cells=[.pv (.lst false 7 (w.certs.map Ct.pv)),.pv (bdsP w.bad),.pv (lotsP w.lots),.pv (.lst false 4 (w.tests.map Tt.pv)),.pv (runsP w.runs)]:=rfl;have hwl:=Zh1 (w:=w) (n:=c.num) (k:=w.tests.length);refine Zae (fun m τ=>∃j:Nat,j≤w.tests.length∧m=w.tests.length-j∧τ=hgS w u (wdL w c.num w.tests.length) (wdL w c.num j).length j) ⟨w.tests.length,hgS w u (wdL w c.num w.tests.length) 0 0,Sub.mk (by simp[hgS]) (by simp[hgS,huc,hwc,ctsP]),0,Zwb _,rfl,rfl⟩ ?_;rintro J hJ m τ ⟨j,hj,rfl,rfl⟩;by_cases hlt:j<w.tests.length
 ·obtain⟨t,hx⟩:∃t,w.tests[j]?=some t:=⟨w.tests[j],ZvZ hlt⟩;have hg:(w.tests.map Tt.pv)[j]?=some (.agg [.int .i64 t.lot,.int .i64 t.item,.int .i64 t.day,.int .i64 t.rd]):=by rw[Zv0,hx];rfl
  obtain⟨q1,q2,q3,q4,_⟩:=iI.tt t (Zv3 hx);obtain⟨f1,f2⟩:=hat j t hlt hx;have hnx:=Zh0 (w:=w) (n:=c.num) hx;have hwj:=wrapK (k:=j) (by omega);have hmeas:w.tests.length-(j+1)<w.tests.length-j:=by omega
  have hround:=hJ _ _ ⟨j+1,hlt,rfl,rfl⟩;have hless:=Ztb (l:=w.certs) (bad:=w.bad) (bad':=w.bad++[c.num]) iI.bk (fun x hx=>List.mem_append_left _ hx) (i:=t.item) (d:=t.day) (by omega) q2 q3 q4;have s1:=hsw t.lot t.item t.day t.rd q1 q2 q3 q4;have s2:=hsu t.lot t.item t.day t.rd q1 q2 q3 q4;rw[hwp]at s1;rw[hup]at s2;have hlj:=Zh1 (w:=w) (n:=c.num) (k:=j);unfold isWd at f1 f2 hnx;rw[hnx]at hround;clear hJ hat hsu hsw hnx;generalize wdL w c.num w.tests.length=l at *;generalize stM w.certs w.bad t.item t.day=a at *;generalize stM w.certs (w.bad++[c.num]) t.item t.day=b at *;obtain⟨A,hA⟩:∃A,A=(wdL w c.num j).length:=⟨_,rfl⟩;rw[Zv7,←hA]at hround;rw[←hA]at f1 f2 hlj ⊢;have hwA:=wrapK (k:=A) (by omega);simp[-getElem?_pos,-List.getElem?_map,-ZcJ,-Zdr,Zcx,Zdi,hgS,huc,hwc,hlt,hg,nble,nblt];refine .inl<|cQ [] [_,_] s1 ?_;simp[-getElem?_pos,-List.getElem?_map,-ZcJ,-Zdr,Zcx,Zdi,frzsL,stE,huc,hwc,hlt,hg,nble,nblt];refine .inl<|cQ [] [_,_] s2 ?_;have hj6:j<1000000:=by omega
  cases a with
  |false=>
   cases b with
   |true=>exact absurd (hless rfl) (by decide)
   |false=>
    have hround:=hround;rw[if_neg (by decide)]at hround;by_cases hAl:A<l.length
    ·obtain⟨x,hxx⟩:∃x,l[A]?=some x:=⟨l[A],ZvZ hAl⟩;have hgx:(l.map iP)[A]?=some (.int .i64 x):=by rw[Zv0,hxx];rfl
     have hne:=f2 rfl x hxx;simp[-getElem?_pos,-List.getElem?_map,-ZcJ,-Zdr,Zcx,Zdi,frzsL,stE,huc,hwc,hlt,hg,nble,nblt,hAl,hgx,hne,hwj];exact⟨_,_,hmeas,Sub.mk (by simp[hgS]) (by simp[hgS,huc,hwc]),hround⟩
    ·simp[-getElem?_pos,-List.getElem?_map,-ZcJ,-Zdr,Zcx,Zdi,frzsL,stE,huc,hwc,hlt,hg,nble,nblt,hAl,hwj];exact⟨_,_,hmeas,Sub.mk (by simp[hgS]) (by simp[hgS,huc,hwc]),hround⟩
  |true=>
   cases b with
   |true=>
    have hround:=hround;rw[if_neg (by decide)]at hround;by_cases hAl:A<l.length
    ·obtain⟨x,hxx⟩:∃x,l[A]?=some x:=⟨l[A],ZvZ hAl⟩;have hgx:(l.map iP)[A]?=some (.int .i64 x):=by rw[Zv0,hxx];rfl
     have hne:=f2 rfl x hxx;simp[-getElem?_pos,-List.getElem?_map,-ZcJ,-Zdr,Zcx,Zdi,frzsL,stE,huc,hwc,hlt,hg,nble,nblt,hAl,hgx,hne,hwj];exact⟨_,_,hmeas,Sub.mk (by simp[hgS]) (by simp[hgS,huc,hwc]),hround⟩
    ·simp[-getElem?_pos,-List.getElem?_map,-ZcJ,-Zdr,Zcx,Zdi,frzsL,stE,huc,hwc,hlt,hg,nble,nblt,hAl,hwj];exact⟨_,_,hmeas,Sub.mk (by simp[hgS]) (by simp[hgS,huc,hwc]),hround⟩
   |false=>
    have hround:=hround;rw[if_pos (show(true&&!false)=true from rfl)]at hround;have hget:=f1 rfl;have hAl:A<l.length:=(Zv1.1 hget).1;have hgx:(l.map iP)[A]?=some (.int .i64 (j:Int)):=by rw[Zv0,hget];rfl
    simp[-getElem?_pos,-List.getElem?_map,-ZcJ,-Zdr,Zcx,Zdi,frzsL,stE,huc,hwc,hlt,hg,nble,nblt,hAl,hgx,hwj,hwA];exact⟨_,_,hmeas,Sub.mk (by simp[hgS]) (by simp[hgS,huc,hwc]),hround⟩
 have he:j=w.tests.length:=by omega
 subst he;clear hJ hlt hj hat hsu hsw;generalize wdL w c.num w.tests.length=l at *;clear iI iJ hes hkn hwp hup hwl;simp[-getElem?_pos,-List.getElem?_map,hgS,huc,hwc];clear huc hwc hu;refine cG [] ZaA ?_;simp[-getElem?_pos];exact hfin
end
section
open Go.ChangeShapes Go.WideShapes Go.ChangeAt Go.RowKit
set_option maxRecDepth 100000
theorem Zh4 (v0 v1:Value)(W:World){H:Type}{enc:TypeId×Value→H}{base:Nat}{sp:Nat→Bool}{hd:Bool}{d0 d1:DataW H}{p0 p1:List MemPlace}(hg:Glob W.mem W)
  (k0:Value.okWide Tryz.prog W .any base 22 v0) (h0:DataW.Trod enc Tryz.prog W 0 sp hd 22 v0 d0 p0)
  (k1:Value.okWide Tryz.prog W .any base 5 v1) (h1:DataW.Trod enc Tryz.prog W 0 sp hd 5 v1 d1 p1):
  Calls Tryz.prog 4 #[v0,v1] W fun e w'=>e=.returned (.bool true)∧Keep [] W w':=by
 obtain⟨n0,h0⟩:=h0;obtain⟨s0,w0,r0⟩:=Zgh k0 h0;obtain⟨z1,rfl,rfl,rfl,y1⟩:=open_int Tryz.underlying5 k1 h1;obtain⟨s1,w1,rfl⟩:∃s:Nat,s<256∧z1=(s:Int):=by
  have e1:IntKind.u8.min=0:=by decide
  have e2:IntKind.u8.max=255:=by decide
  have y:=ZbU y1;exact⟨z1.toNat,by omega,by omega⟩
 refine Zde (xs:=[strsP s0,.int .u8 (s1:Int)]) (b:=true) ((Zua s0 w0 s1 ⟨by omega,by omega⟩).mono (fun _ _ h=>h.1)) rfl (fun j v x e1 e2=>?_) hg
 match j with
 |0=>simp at e1 e2;subst e1 e2;exact r0
 |1=>simp at e1 e2;subst e1 e2;exact .int .u8 (s1:Int)
 |j+2=>simp at e1
theorem ZgG (os:Os)(started:os.Started)(H:Type)(enc:TypeId×Value→H):
  ReturnsInHanded {} Tryz.checked os 4 .any (fun w args=>(Rows.bookHangsSpec.pre enc Tryz.prog Tryz.f4 Rows.bookHangsRow.domain false w args∧laidMetH Tryz.prog Rows.bookHangsRow.laid w)∧sizedMet enc Tryz.prog Tryz.f4 (OpenSpec.ofChange Rows.bookHangsSpec) false w args)
   (Rows.bookHangsSpec.post enc Tryz.prog Tryz.f4 false true false false):=by
 refine ZcA (C:=Tryz.checked) (X:=fun w _=>laidMetH Tryz.prog Rows.bookHangsRow.laid w) (fun _ _ _ hh h=>h.of_heap hh) own started (by kernel_rfl) Tryz.func4
  (ChangeSpec.witness_shaped (enc:=enc) (C:=Tryz.checked) (os:=os) (X:=fun w _=>laidMetH Tryz.prog Rows.bookHangsRow.laid w) false (World.laidAll Tryz.prog os Rows.bookHangsRow.laid) #[.slice none 0 0,.int .u8 0] 8 (World.laidAll_os _ _ _)
   (World.shaped_of_ZipB (by kernel_rfl) (by kernel_rfl)) (by kernel_rfl) (by kernel_rfl) (by kernel_rfl)
   (by rw[MakeChecks.laidMetH_plain _ _ _ (by kernel_rfl)];exact laidMet_laidAll _ (by kernel_rfl) (by kernel_rfl))) ?_
 intro W base args ds gs before hval0 hW hL hsh;have hval:∀(j:Nat) t v,Tryz.f4.params[j]?=some t→args[j]?=some v→Value.okWide Tryz.prog W .any base t v:=hval0;rw[MakeChecks.laidMetH_plain _ _ _ (by kernel_rfl)]at hL;have hg:=ZgS hsh (Lib.laidMet.reads hL (by simp[Rows.bookHangsRow])) (Lib.laidMet.reads hL (by simp[Rows.bookHangsRow])) (Lib.laidMet.reads hL (by simp[Rows.bookHangsRow]));have hW':=hW;obtain⟨p,q,hA0,hV,rfl,hfz,hnd⟩:=hW;have hA:DataW.TrodAll enc Tryz.prog W 0 (fun _=>true) true Tryz.f4.params.toList args.toList ds p:=hA0;rw[Tryz.params4]at hA hval;obtain⟨v0,vs0,d0,ds0,p0,q0,hargs,rfl,rfl,h0,r0⟩:=trodAll_cons hA;obtain⟨v1,vs1,d1,ds1,p1,q1,rfl,rfl,rfl,h1,r1⟩:=trodAll_cons r0;obtain⟨rfl,rfl,rfl⟩:=trodAll_nil r1;have hargs':args=#[v0,v1]:=by
  apply Array.ext';exact hargs
 subst hargs';have k0:=hval 0 _ v0 rfl rfl;have k1:=hval 1 _ v1 rfl rfl;obtain⟨rfl,rfl⟩:=trodVars_none hV;refine(Zh4 v0 v1 W hg k0 h0 k1 h1).mono fun e W' ⟨he,hk⟩=>?_
 subst he;exact⟨_,rfl,ZeG (tb:=4) laidP Zd8 fullP (by decide +kernel) rfl rfl rfl Tryz.underlying4 hW' hk⟩
end
section
open Go.RowKit
set_option maxRecDepth 100000
theorem bH0:(Rows.bookHangsRow.wf (OpenSpec.ofChange Rows.bookHangsSpec))=true:=by kernel_rfl
theorem bH1:(laidOutB Tryz.prog)=true:=laidP
theorem bH2:(mapsRowed Tryz.prog)=true:=Zd8
theorem bH3:(Tryz.f4.params.all (Tryz.prog.readableRec ·))=true:=by kernel_rfl
theorem bH4:(namedTie Tryz.prog Rows.bookHangsRow.named Rows.bookHangsSpec.vars)=true:=by kernel_rfl
theorem bH5:((Rows.bookHangsRow.stops==[]))=true:=by kernel_rfl
theorem bH6:((Tryz.prog.stops==[]))=true:=by kernel_rfl
theorem bH7:((Rows.bookHangsRow.knobs==[]))=true:=by kernel_rfl
theorem bH8:((Tryz.prog.stopKnobs==[]))=true:=by kernel_rfl
theorem bH9:((Rows.bookHangsRow.inPlace==Tryz.prog.inPlace 4))=true:=by kernel_rfl
theorem bH10:((Rows.bookHangsRow.unfollowed==Tryz.prog.unfollowed 4))=true:=by kernel_rfl
theorem bH11:((Rows.bookHangsRow.recurses==Tryz.prog.recurses 4))=true:=by kernel_rfl
theorem bH12:((Rows.bookHangsRow.named==Tryz.prog.varsNamed 4))=true:=by kernel_rfl
theorem bH13:((Rows.bookHangsRow.maps==(Tryz.f4.params.toList++Rows.bookHangsSpec.plain.varTypes Tryz.prog).any (Tryz.prog.mapsRec ·)))=true:=by kernel_rfl
theorem bH14:((Rows.bookHangsRow.ifaces==(Tryz.f4.params.toList++Rows.bookHangsSpec.plain.varTypes Tryz.prog).any (Tryz.prog.ifacesRec ·)))=true:=by kernel_rfl
theorem bH15:((Rows.bookHangsRow.mapsOut==Tryz.prog.mapsAmong Tryz.f4.resultTypes.toList))=true:=by kernel_rfl
theorem bH16:((Rows.bookHangsRow.loops==(Tryz.f4.params.toList++Rows.bookHangsSpec.plain.varTypes Tryz.prog).any (Tryz.prog.loopsFrom ·)))=true:=by kernel_rfl
theorem bH17:((Rows.bookHangsRow.wideKeys==(Tryz.f4.params.toList++Rows.bookHangsSpec.plain.varTypes Tryz.prog++Tryz.f4.resultTypes.toList).any (Tryz.prog.wideKeysFrom ·)))=true:=by kernel_rfl
theorem bH18:(Rows.bookHangsSpec.vars.all (Tryz.prog.varReadable ·))=true:=by kernel_rfl
theorem bH19:(Tryz.f4.resultTypes.all (fun t=>Tryz.prog.readableRec t&&decide (t<Tryz.prog.types.size)))=true:=by kernel_rfl
theorem bH20:((Rows.bookHangsRow.ifacesOut==Tryz.f4.resultTypes.toList.any (Tryz.prog.ifacesRec ·)))=true:=by kernel_rfl
theorem bH21:((Rows.bookHangsRow.loopsOut==Tryz.f4.resultTypes.toList.any (Tryz.prog.loopsFrom ·)))=true:=by kernel_rfl
theorem bH22:((Rows.bookHangsRow.plainKeys==Tryz.prog.plainKeys))=true:=by kernel_rfl
theorem bH23:(Rows.bookHangsRow.shortTexts.isNone)=true:=by kernel_rfl
theorem bH24:(Tryz.prog.stopsHeard)=true:=by kernel_rfl
theorem bH25:(Tryz.prog.mayEnter)=true:=by kernel_rfl
theorem bH26:((Rows.bookHangsRow.lifted==Tryz.prog.liftsFinal))=true:=by kernel_rfl
theorem bH27:((Tryz.prog.make==some Rows.bookHangsRow.make))=true:=by kernel_rfl
theorem bH28:((Rows.bookHangsRow.kinds==(if Rows.bookHangsRow.domain.isEmpty then[]else Tryz.f4.params.toList.map fun t=>match Tryz.prog.underlying t with|some (.int k)=>some k|_=>none)))=true:=by kernel_rfl
theorem bH29:((Rows.bookHangsRow.pinned==Rows.bookHangsRow.pinnedBy))=true:=by kernel_rfl
theorem bH30:((Rows.bookHangsRow.veiled==(Tryz.f4.params.toList++Rows.bookHangsSpec.plain.varTypes Tryz.prog++Tryz.f4.resultTypes.toList).any (Tryz.prog.veiledRec ·)))=true:=by kernel_rfl
theorem bH31:(Rows.bookHangsRow.veiledFits Tryz.prog Tryz.f4.params.toList (Tryz.f4.params.toList++Rows.bookHangsSpec.plain.varTypes Tryz.prog++Tryz.f4.resultTypes.toList))=true:=by kernel_rfl
theorem Zr3:joinedFacts Tryz.pinned.checked.prog 4 Tryz.f4 Rows.bookHangsSpec Rows.bookHangsRow=true:=
 Zb6 bH0 bH1 bH2 bH3 bH4 bH5 bH6 bH7 bH8 bH9 bH10 bH11 bH12 bH13 bH14 bH15 bH16 bH17 bH18 bH19 bH20 bH21 bH22 bH23 bH24 bH25 bH26 bH27 bH28 bH29 bH30 bH31
end
section
open Go.ChangeShapes Go.WideShapes Go.ChangeAt Go.RowKit
set_option maxRecDepth 100000
theorem Zr4 (os:Os)(started:os.Started)(H:Type)(enc:TypeId×Value→H):ReturnsInHanded Rows.bookHangsRow.assume Tryz.pinned.checked os 4 .any (Rows.bookHangsRow.pre enc Tryz.pinned.checked.prog Tryz.f4 (OpenSpec.ofChange Rows.bookHangsSpec)) (Rows.bookHangsSpec.post enc Tryz.pinned.checked.prog Tryz.f4 Rows.bookHangsRow.apart Rows.bookHangsRow.fresh Rows.bookHangsRow.handsOn Rows.bookHangsRow.again):=ZgG os started H enc
theorem Zis:Rows.bookHangsRow.holds Tryz.pinned (OpenSpec.ofChange Rows.bookHangsSpec):=
 OpenClaim.holds_of_wide 4 Tryz.f4 rfl rfl rfl rfl rfl rfl rfl ⟨rfl,rfl,rfl,rfl,rfl⟩ rfl rfl rfl rfl rfl (by kernel_rfl) Tryz.func4 Zr3
  (of_decide_eq_true (by kernel_rfl)) (by unfold Func.isWrapper;first|(rw[if_pos (by decide +kernel)];kernel_rfl)|(rw[if_neg (by decide +kernel)];exact⟨rfl,rfl⟩))
  (fun os started H enc _=>Zr4 os started H enc)
theorem bHWf:Rows.bookHangsRow.wfByText (OpenSpec.ofChange Rows.bookHangsSpec)=true:=by kernel_rfl
theorem ZvQ : Tryz.pinned.checked.prog.mainIs = some (true, "2d087c6f4cca3a53560cedf75fd690d9382a23561c3a3180de98d17e69e74364".toList) := by kernel_rfl
theorem ZuG:true=Tryz.pinned.checked.prog.looks []:=by kernel_rfl
theorem bHBy:false=Rows.bookHangsRow.goesBy Tryz.pinned.checked.prog:=by kernel_rfl
theorem ZuF : Tryz.prog.funcNamed "tensile/tensilelaw12.BookHangs" = some 4 := by kernel_rfl
theorem ZuE:([22,5].all fun u=>!Tryz.prog.wantsStandIn u)=true:=by kernel_rfl
theorem cardBookHangs:Rows.BookHangsCardSaid:=
 Claim7.holds_tied_plain_at .later [] [.data, .data, .data, .data, .sentinel, .sentinel, .pinned] true (true, "2d087c6f4cca3a53560cedf75fd690d9382a23561c3a3180de98d17e69e74364") true
  Zis (fun _ h=>by cases h) bHWf (fun _ h=>by cases h) bookHangs_row_tie rfl ⟨rfl,rfl⟩ ZvQ rfl
  (fun f fn hf hfn=>by
   obtain rfl:f=4:=Option.some.inj (ZuF.symm.trans hf) |>.symm;obtain rfl:fn=Tryz.f4:=(Option.some.inj (Tryz.func4.symm.trans hfn)).symm;exact⟨ZuG,fun j t ht=>by
    rw[Tryz.params4]at ht;have hm:t∈([22,5]:List TypeId):=by simpa using Array.mem_of_getElem? ht
    exact(show Tryz.prog.wantsStandIn t=false by simpa using Zwl.1 ZuE t hm)⟩)
  bHBy
end
end Go.Proofs.YtfpmaennjlggeaaGreatDoor
