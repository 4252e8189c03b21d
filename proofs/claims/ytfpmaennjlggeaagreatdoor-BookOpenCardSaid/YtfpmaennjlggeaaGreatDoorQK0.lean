/- The registrar's book: what the statement needs, joined and shortened by program. -/
import Derived.Test.YtfpmaennjlggeaaGreatDoorProg
import Derived.Lib.AtoiTie
import Derived.Test.YtfpmaennjlggeaaGreatDoorCards
import Derived.Test.YtfpmaennjlggeaaGreatDoorTie
import Derived.SevenTiedAt
import Derived.Test.YtfpmaennjlggeaaGreatDoorP0
import Derived.Test.YtfpmaennjlggeaaGreatDoorP1
import Derived.Test.YtfpmaennjlggeaaGreatDoorP2
import Derived.Test.YtfpmaennjlggeaaGreatDoorP3
import Derived.Test.YtfpmaennjlggeaaGreatDoorP4
set_option linter.unusedSimpArgs false
set_option linter.unusedVariables false
namespace Go.Proofs.YtfpmaennjlggeaaGreatDoor
section
open Go.RowKit
set_option maxRecDepth 100000
noncomputable section
@[simp] def L6b:LT:=.alt (Ok 137 15 [.t 136]) (.op (Om 119 137) (.op (Oe 138 119 0) (.op (Oe 139 119 1) (.op (Oe 140 119 2) (.alt (Ns 5 22 138) (.op (Om 23 139) .done) .no))))) .no
@[simp] def L6a:LT:=.alt (Ok 132 16 [.t 131]) (.op (O 133 (.x (.scat (.t 130) (.t 132)))) (.op (O 134 (.x (.scat (.t 133) (.c (.str ⟨#[32,54,48,48]⟩))))) (.alt (O 135 (.bslice 9 1 [.t 134])) (.alt (O 136 (.app 9 1 16 (.t 121) (.t 135))) L6b .no) .no))) .no
@[simp] def L6c:LT:=.alt (Ok 124 16 [.t 123]) (.op (O 125 (.x (.scat (.c (.str ⟨#[116,101,115,116,32]⟩)) (.t 124)))) (.op (O 126 (.x (.scat (.t 125) (.c (.str ⟨#[32]⟩))))) (.alt (Ok 128 16 [.t 127]) (.op (O 129 (.x (.scat (.t 126) (.t 128)))) (.op (O 130 (.x (.scat (.t 129) (.c (.str ⟨#[32]⟩))))) L6a)) .no))) .no
def L6:LFn :=⟨180,S [O 8 (.mov Bf)] (.seq (S [Om 26 0,Ok 27 8 [.t 26],Oo 28 27,Om 29 28,G 30 29 false (M 0),G 31 29 false (.call (C 9) [.t 30]),G 32 29 false (.not (.t 31)),O 33 (.pick (.t 29) Bt (.t 32)),Om 34 33,G 35 34 false (M 0),G 36 34 false (.len none (.t 35)),G 37 34 false (.bin false .gtr (.t 36) (I 49)),O 38 (.pick (.t 34) Bt (.t 37))] (Cd 38 (S [Ok 39 10 [],Om 8 39] .ret) .skip)) (S [Om 41 0,Ok 42 11 [.t 41],Om 40 42,Oe 43 40 0,Oe 44 40 1,Oe 45 40 2,O 9 (.alloc (.agg [E0,E0,E0,E0,E0])),Ns 5 9 43,Om 10 44,Om 11 45] (.seq (S [Om 46 11,Oo 47 46] (Cd 47 (S [O 8 (.mov Bf)] .ret) .skip)) (.seq (S [Oa 48 2 9,Ol 49 1 48,On 50 49,Oc 51 .eql 50 0] (Cd 51 (S [Ok 52 10 [],Om 8 52] .ret) .skip)) (S [Of 53 (.fa 2 (.t 9)),Of 55 (M 1),Of 56 (.conv .i64 (.t 55)),Of 57 (.fa 2 (.t 9)),Of 54 (.load false 1 (.t 53)),Of 58 (.load false 1 (.t 57)),Of 59 (.len none (.t 58)),Of 60 (.bin false .rem (.t 56) (.t 59)),Of 61 (.ia 4 none (.t 54) (.t 60)),Of 62 (.load true 4 (.t 61)),Of 12 (.alloc (.agg [Z0,Z0,Z0,.bool false])),Ns 4 12 62] (S [Ot 64 5 9,Ot 65 4 12,Ok 66 21 [.t 64,.t 65],Om 63 66,Oe 67 63 0,Oe 68 63 1,Oe 69 63 2,Om 13 67,Om 14 68,Om 15 69] (.seq (S [Om 70 15,Oo 71 70,Om 72 71,G 73 72 false (M 14),G 74 72 false (.bin false .gtr (.t 73) (I 4)),O 75 (.pick (.t 72) Bt (.t 74)),Om 76 75,G 77 76 false (.fa 0 (.t 12)),G 78 76 false (.load false 1 (.t 77)),G 79 76 false (.bin false .lss (.t 78) (I 1)),O 80 (.pick (.t 76) Bt (.t 79)),Om 81 80,G 82 81 false (.fa 0 (.t 12)),G 83 81 false (.load false 1 (.t 82)),G 84 81 false (.bin false .gtr (.t 83) (I 99)),O 85 (.pick (.t 81) Bt (.t 84))] (Cd 85 (S [O 8 (.mov Bf)] .ret) .skip)) (S [OM 16 0] (.seq (S [OM 17 0] (.block 0 (.loop (.seq (S [Om 86 17,Oa 87 3 9,Ol 88 1 87,On 89 88,Ob 90 .lss 86 89] (Ce 90 0)) (.seq (.block 1 (S [Of 93 (.fa 3 (.t 9)),Of 95 (M 17),Of 99 (.fa 0 (.t 12)),Of 94 (.load false 1 (.t 93)),Of 96 (.ia 4 none (.t 94) (.t 95)),Of 97 (.fa 0 (.t 96)),Of 98 (.load false 1 (.t 97)),Of 100 (.load false 1 (.t 99)),Ob 101 .eql 98 100] (Cd 101 (.region [Om 102 16,Oc 103 .add 102 1,Om 16 103]) .skip))) (.region [Om 91 17,Oc 92 .add 91 1,Om 17 92])))))) (S [Om 104 2,O 105 (.conv .i64 (.t 104)),Oc 106 .rem 105 4,O 107 (.bin false .add (I 2) (.t 106)),Om 108 3,O 109 (.conv .i64 (.t 108)),Oc 110 .rem 109 1001,Om 18 107,Om 19 110] (S [Ot 112 5 9,Om 113 18,Om 114 19,O 115 (.build (.agg [Z0,Z0,Z0,Z0]) [(1,(1,(.t 113))),(2,(1,(.t 114)))]),Ok 116 17 [.t 112,.t 115],Om 111 116,Oe 117 111 0,Oe 118 111 1,Om 20 117,Om 21 118] (.seq (.regT (.op (Of 120 (M 0)) (.op (Of 122 (.fa 0 (.t 12))) (.op (Of 127 (M 18)) (.op (Of 131 (M 19)) (.op (Of 123 (.load false 1 (.t 122))) (.seq (.alt (Of 121 (.call (C 14) [.t 120])) (.alt (Ok 124 16 [.t 123]) (.op (O 125 (.x (.scat (.c (.str ⟨#[116,101,115,116,32]⟩)) (.t 124)))) (.op (O 126 (.x (.scat (.t 125) (.c (.str ⟨#[32]⟩))))) (.alt (Ok 128 16 [.t 127]) (.op (O 129 (.x (.scat (.t 126) (.t 128)))) (.op (O 130 (.x (.scat (.t 129) (.c (.str ⟨#[32]⟩))))) (.alt (Ok 132 16 [.t 131]) (.op (O 133 (.x (.scat (.t 130) (.t 132)))) (.op (O 134 (.x (.scat (.t 133) (.c (.str ⟨#[32,54,48,48]⟩))))) (.alt (O 135 (.bslice 9 1 [.t 134])) (.alt (O 136 (.app 9 1 16 (.t 121) (.t 135))) (.alt (Ok 137 15 [.t 136]) (.op (Om 119 137) (.op (Oe 138 119 0) (.op (Oe 139 119 1) (.op (Oe 140 119 2) (.alt (Of 22 (.alloc (.agg [E0,E0,E0,E0,E0]))) (.alt (Ns 5 22 138) (.op (Om 23 139) .done) .no) .no))))) (.alt (Of 22 (.alloc (.agg [E0,E0,E0,E0,E0]))) L6b .no)) (.alt (Of 22 (.alloc (.agg [E0,E0,E0,E0,E0]))) (.alt (O 136 (.app 9 1 16 (.t 121) (.t 135))) L6b .no) .no)) (.alt (Of 22 (.alloc (.agg [E0,E0,E0,E0,E0]))) (.alt (O 135 (.bslice 9 1 [.t 134])) (.alt (O 136 (.app 9 1 16 (.t 121) (.t 135))) L6b .no) .no) .no)))) (.alt (Of 22 (.alloc (.agg [E0,E0,E0,E0,E0]))) L6a .no)))) (.alt (Of 22 (.alloc (.agg [E0,E0,E0,E0,E0]))) (.alt (Ok 128 16 [.t 127]) (.op (O 129 (.x (.scat (.t 126) (.t 128)))) (.op (O 130 (.x (.scat (.t 129) (.c (.str ⟨#[32]⟩))))) L6a)) .no) .no)))) (.alt (Of 22 (.alloc (.agg [E0,E0,E0,E0,E0]))) L6c .no)) (.alt (Of 22 (.alloc (.agg [E0,E0,E0,E0,E0]))) (.alt (Of 121 (.call (C 14) [.t 120])) L6c .no) .no)) (.op (Om 24 140) .done)))))))) (.seq (S [Om 141 21,Oo 142 141,Om 143 142,G 144 143 false (M 24),G 145 143 false (.bin false .neq (.t 144) (I 0)),O 146 (.pick (.t 143) Bt (.t 145)),Om 147 146,G 148 147 false (M 23),G 149 147 false (.len none (.t 148)),G 150 147 false (M 0),G 151 147 false (.len none (.t 150)),G 152 147 false (.bin false .add (.t 151) (I 1)),G 153 147 false (.bin false .neq (.t 149) (.t 152)),O 154 (.pick (.t 147) Bt (.t 153))] (Cd 154 (S [O 8 (.mov Bf)] .ret) .skip)) (S [OM 25 0] (.seq (.block 2 (S [Oa 156 3 12,Ol 157 1 156,Om 158 157,G 159 158 false (M 13),G 160 158 false (.bin false .neq (.t 159) (.c (.int .u8 (3)))),O 161 (.pick (.t 158) Bt (.t 160)),Om 155 161] (Cd 155 (.region [OM 25 8]) (S [Om 163 16,Oa 164 1 12,Ol 165 1 164,Ob 166 .geq 163 165,Om 162 166] (Cd 162 (.region [OM 25 3]) (S [Om 168 20,Oo 169 168,Om 167 169] (Cd 167 (.region [OM 25 10]) .skip))))))) (S [Om 170 23,Om 171 0,On 172 171,Oi 173 1 170 172,Ol 174 1 173,Om 175 25,Ob 176 .eql 174 175,Om 177 176,G 178 177 true (.call (C 10) []),O 179 (.pick (.t 177) (.t 178) Bf),Om 8 179] .ret)))))))))))))))),[.tm 8]⟩
def L16:LFn :=⟨23,S [O 2 (.mov (.c (.str ⟨#[]⟩)))] (.seq (S [Om 3 0,Oc 4 .lss 3 0] (Cd 4 (S [Om 5 0,O 6 (.neg (.t 5)),Ok 7 16 [.t 6],O 8 (.x (.scat (.c (.str ⟨#[45]⟩)) (.t 7))),Om 2 8] .ret) .skip)) (.seq (S [Om 9 0,Oc 10 .lss 9 10] (Cd 10 (S [Om 11 0,O 12 (.bin false .add (I 48) (.t 11)),O 13 (.conv .u8 (.t 12)),O 14 (.bslice 5 1 [.t 13]),O 15 (.x (.sof (.t 14))),Om 2 15] .ret) .skip)) (S [Om 16 0,Oc 17 .quo 16 10,Ok 18 16 [.t 17],Om 19 0,Oc 20 .rem 19 10,Ok 21 16 [.t 20],O 22 (.x (.scat (.t 18) (.t 21))),Om 2 22] .ret))),[.tm 2]⟩
end
end
section
open Go.RowKit
set_option maxRecDepth 100000
noncomputable section
def L20:LFn :=⟨58,S [Ox 1 5 0,O 2 (.alloc (.agg [E0,E0]))] (S [O 7 (.build (.agg [Z0,.bool false,Z0,Z0]) [(1,(1,Bt))]),O 8 (.build (.agg [Z0,Z0]) [(0,(1,(I (-2)))),(1,(1,(I 2)))]),O 9 (.build (.agg [Z0,.bool false,Z0,Z0]) [(1,(1,Bt)),(2,(2,(.t 8)))]),O 10 (.build (.agg [Z0,.bool false,Z0,Z0]) [(0,(1,(I 1)))]),O 11 (.build (.agg [Z0,.bool false,Z0,Z0]) [(0,(1,(I 1)))]),O 12 (.build (.agg [Z0,.bool false,Z0,Z0]) []),O 13 (.build (.agg [Z0,.bool false,Z0,Z0]) []),O 14 (.bslice 116 4 [.t 7,.t 9,.t 10,.t 11,.t 12,.t 13]),O 15 (.build (.agg [E0,E0]) [(0,(1,(.t 14)))]),O 3 (.alloc (.agg [E0,E0])),Ns 2 3 15] (.seq (S [OM 4 0] (.block 0 (.loop (.seq (S [Om 16 4,Oa 17 0 1,Ol 18 1 17,On 19 18,Ob 20 .lss 16 19] (Ce 20 0)) (.seq (.block 1 (S [O 5 (.mov Bf)] (.seq (S [OM 6 0] (.block 2 (.loop (.seq (S [Om 23 6,Oa 24 1 1,Ol 25 1 24,On 26 25,Ob 27 .lss 23 26] (Ce 27 2)) (.seq (.block 3 (.region [Of 30 (M 5),Of 31 (M 30),Gf 32 31 false (.fa 1 (.t 1)),Gf 34 31 false (M 6),Gf 37 31 false (.fa 0 (.t 1)),Gf 39 31 false (M 4),Gf 33 31 false (.load false 1 (.t 32)),Gf 35 31 false (.ia 1 none (.t 33) (.t 34)),Gf 36 31 false (.load false 1 (.t 35)),Gf 38 31 false (.load false 1 (.t 37)),Gf 40 31 false (.ia 7 none (.t 38) (.t 39)),Gf 41 31 false (.fa 0 (.t 40)),Gf 42 31 false (.load false 1 (.t 41)),G 43 31 false (.bin false .eql (.t 36) (.t 42)),O 44 (.pick (.t 31) Bt (.t 43)),Om 5 44])) (.region [Om 28 6,Oc 29 .add 28 1,Om 6 29])))))) (S [Om 45 5,Oo 46 45] (Cd 46 (.region [Of 47 (.fa 1 (.t 3)),Of 49 (.fa 0 (.t 1)),Of 51 (M 4),Of 48 (.load false 1 (.t 47)),Of 50 (.load false 1 (.t 49)),Of 52 (.ia 7 none (.t 50) (.t 51)),Of 53 (.load true 7 (.t 52)),Of 54 (.bslice 47 7 [.t 53]),O 55 (.app 47 7 56 (.t 48) (.t 54)),Oa 56 1 3,Ns 1 56 55]) .skip))))) (.region [Om 21 4,Oc 22 .add 21 1,Om 4 22])))))) (S [Ot 57 2 3,Ns 2 2 57] .ret))),[.cell 2 true 2]⟩
def L21:LFn :=⟨94,S [Ox 2 5 0,Ox 3 4 1,O 4 (.mov (.c (.int .u8 (0)))),OM 5 0,O 6 (.mov Bf)] (S [Oa 18 1 3,Ol 19 1 18,O 20 (.build (.agg [Z0,Z0,Z0]) [(0,(1,(I 2))),(1,(1,(I 0))),(2,(1,(I 2)))]),O 21 (.build (.agg [Z0,Z0,Z0]) [(0,(1,(I 2))),(1,(1,(I 1))),(2,(1,(I 2)))]),O 22 (.bslice 118 3 [.t 20,.t 21]),O 23 (.build (.agg [Z0,E0]) [(0,(1,(.t 19))),(1,(1,(.t 22)))]),O 7 (.alloc (.agg [Z0,E0])),Ns 2 7 23] (S [O 8 (.mov (.c E0))] (.seq (S [OM 9 0] (.block 0 (.loop (.seq (S [Om 24 9,Oa 25 3 2,Ol 26 1 25,On 27 26,Ob 28 .lss 24 27] (Ce 28 0)) (.seq (.block 1 (S [Oa 31 3 2,Ol 32 1 31,Om 33 9,Oi 34 4 32 33,Ot 35 4 34,O 10 (.alloc (.agg [Z0,Z0,Z0,Z0])),Ns 4 10 35] (S [Ot 37 5 2,Ot 38 4 10,Ok 39 17 [.t 37,.t 38],Om 36 39,Oe 40 36 0,Oe 41 36 1,Om 11 40,Om 12 41] (.seq (S [Om 42 12,Oo 43 42] (Cd 43 (S [O 4 (.mov (.c (.int .u8 (0)))),OM 5 0,O 6 (.mov Bf)] .ret) .skip)) (.seq (S [Oa 44 0 10,Ol 45 1 44,Oa 46 0 3,Ol 47 1 46,Ob 48 .neq 45 47,Om 49 48,G 50 49 false (M 11),G 51 49 false (.not (.t 50)),O 52 (.pick (.t 49) Bt (.t 51))] (Cd 52 (.exit 1) .skip)) (.seq (.regT (.op (Of 56 (.fa 1 (.t 10))) (.op (Of 58 (.fa 2 (.t 10))) (.op (Of 54 (.load true 5 (.t 2))) (.op (Of 57 (.load false 1 (.t 56))) (.op (Of 59 (.load false 1 (.t 58))) (.seq (.alt (Of 55 (.call (C 20) [.t 54])) (.alt (Ok 60 44 [.t 55,.t 57,.t 59]) (.op (Om 53 60) (.op (Oe 61 53 0) (.op (Oe 62 53 1) (.alt (Of 13 (.alloc (.agg [Z0,Z0]))) (.alt (Ns 2 13 61) .done .no) .no)))) (.alt (Of 13 (.alloc (.agg [Z0,Z0]))) (.alt (Ok 60 44 [.t 55,.t 57,.t 59]) (.op (Om 53 60) (.op (Oe 61 53 0) (.op (Oe 62 53 1) (.alt (Ns 2 13 61) .done .no)))) .no) .no)) (.alt (Of 13 (.alloc (.agg [Z0,Z0]))) (.alt (Of 55 (.call (C 20) [.t 54])) (.alt (Ok 60 44 [.t 55,.t 57,.t 59]) (.op (Om 53 60) (.op (Oe 61 53 0) (.op (Oe 62 53 1) (.alt (Ns 2 13 61) .done .no)))) .no) .no) .no)) (.op (Om 14 62) .done)))))))) (.seq (S [Om 63 14,Oc 64 .neq 63 0] (Cd 64 (S [O 4 (.mov (.c (.int .u8 (0)))),OM 5 0,O 6 (.mov Bf)] .ret) .skip)) (S [Om 65 8,Oa 66 3 10,Ol 67 1 66,Oa 68 0 13,Ol 69 1 68,Ob 70 .add 67 69,Oa 71 2 3,Ol 72 1 71,Ob 73 .lss 70 72,O 74 (.bslice 4 1 [.t 73]),O 75 (.app 4 1 1 (.t 65) (.t 74)),Om 8 75] (S [Of 79 (M 8),Of 77 (.load true 2 (.t 7)),Of 78 (.bslice 4 1 []),Of 80 (.app0 4 1 1 (.t 78) (.t 79)),Ok 81 45 [.t 77,.t 80],Om 76 81,Oe 82 76 0,Oe 83 76 1,Oe 84 76 2,Om 15 82,Om 16 83,Om 17 84] (.seq (S [Om 85 17,Oc 86 .neq 85 0] (Cd 86 (S [O 4 (.mov (.c (.int .u8 (0)))),OM 5 0,O 6 (.mov Bf)] .ret) .skip)) (S [Om 87 15,O 88 (.bin false .neq (.t 87) (.c (.int .u8 (3))))] (Cd 88 (S [Om 89 15,Om 90 8,On 91 90,Om 4 89,Om 5 91,O 6 (.mov Bt)] .ret) .skip)))))))))))) (.region [Om 29 9,Oc 30 .add 29 1,Om 9 30])))))) (S [Om 92 8,On 93 92,O 4 (.mov (.c (.int .u8 (3)))),Om 5 93,O 6 (.mov Bt)] .ret)))),[.tm 4,.tm 5,.tm 6]⟩
end
end
section
open Go.RowKit
set_option maxRecDepth 100000
noncomputable section
def L11:LFn :=⟨47,S [O 2 (.alloc (.agg [E0,E0,E0,E0,E0])),O 3 (.mov (.c E0)),O 4 (.mov Bf)] (S [Om 11 0,Ok 12 14 [.t 11],Ok 13 15 [.t 12],Om 10 13,Oe 14 10 0,Oe 15 10 1,Oe 16 10 2,O 5 (.alloc (.agg [E0,E0,E0,E0,E0])),Ns 5 5 14,Om 6 15,Om 7 16] (.seq (S [Om 17 7,Oc 18 .neq 17 0,Om 19 18,G 20 19 false (M 6),G 21 19 false (.len none (.t 20)),G 22 19 false (M 0),G 23 19 false (.len none (.t 22)),G 24 19 false (.bin false .neq (.t 21) (.t 23)),O 25 (.pick (.t 19) Bt (.t 24))] (Cd 25 (S [Ot 26 5 5,Ns 5 2 26,O 3 (.mov (.c E0)),O 4 (.mov Bf)] .ret) .skip)) (S [O 8 (.mov (.c E0))] (.seq (S [OM 9 0] (.block 0 (.loop (.seq (S [Om 27 9,Om 28 0,On 29 28,Ob 30 .lss 27 29] (Ce 30 0)) (.seq (.block 1 (S [Om 33 6,Om 34 9,Oi 35 1 33 34,Ol 36 1 35,Oc 37 .eql 36 0] (Cd 37 (.region [Om 38 8,Om 39 0,Om 40 9,Oi 41 1 39 40,Ol 42 1 41,O 43 (.bslice 9 1 [.t 42]),O 44 (.app 9 1 16 (.t 38) (.t 43)),Om 8 44]) .skip))) (.region [Om 31 9,Oc 32 .add 31 1,Om 9 32])))))) (S [Ot 45 5 5,Om 46 8,Ns 5 2 45,Om 3 46,O 4 (.mov Bt)] .ret))))),[.cell 2 true 5,.tm 3,.tm 4]⟩
end
end
section
open Go.RowKit
set_option maxRecDepth 100000
noncomputable section
def L17:LFn :=⟨26,S [Ox 2 5 0,Ox 3 4 1,O 4 (.mov Bf),O 5 (.mov Bf)] (S [Of 11 (.fa 1 (.t 3)),Of 13 (.fa 2 (.t 3)),Of 9 (.load true 5 (.t 2)),Of 12 (.load false 1 (.t 11)),Of 14 (.load false 1 (.t 13)),Of 10 (.call (C 20) [.t 9]),Ok 15 36 [.t 10,.t 12,.t 14],Om 8 15,Oe 16 8 0,Oe 17 8 1,Om 6 16,Om 7 17] (S [Om 18 7,Oc 19 .eql 18 0,Om 20 7,Oc 21 .eql 20 0,Om 22 21,G 23 22 false (M 7),G 24 22 false (.bin false .eql (.t 23) (I 10)),O 25 (.pick (.t 22) Bt (.t 24)),Om 4 19,Om 5 25] .ret)),[.tm 4,.tm 5]⟩
end
end
section
open Go.RowKit
set_option maxRecDepth 10000
attribute [local simp] AS.exp expG Box.ren AV.map AV.mapL Zaw noRet Site.isRet Box.allS AV.allS AV.allSL retB dropL AS.adds renL outG outOk Zau inG fnOf lookA Zww
attribute [local simp] Box.purge Site.isLoc
def decB (n:Nat):ByteArray:=⟨(Lib.decDigits n).toArray⟩
theorem Ze5 {n:Nat}(h:n<10):decB n=⟨#[UInt8.ofNat (48+n)]⟩:=by
 unfold decB Lib.decDigits;rw[dif_pos h]
theorem Zke {n:Nat}(h:¬n<10):decB n=decB (n / 10)++decB (n%10):=by
 rw[Ze5 (n:=n%10) (by omega)];unfold decB
 conv=>lhs;unfold Lib.decDigits
 rw[dif_neg h];apply ByteArray.ext;rw[ByteArray.data_append];simp
theorem ZcC (n:Nat):∀k,n<10^(k+1)→(decB n).size≤k+1:=by
 induction n using Nat.strongRecOn with
 |_ n ih=>
  intro k hk;by_cases h:n<10
  ·rw[Ze5 h];show 1≤k+1;omega
  ·rw[Zke h,ByteArray.size_append,Ze5 (n:=n%10) (by omega)];cases k with
   |zero=>simp at hk;omega
   |succ k=>
    have:=ih (n / 10) (by omega) k (by rw[Nat.pow_succ]at hk;omega)
    show(decB (n / 10)).size+1≤_;omega
theorem Zjb:∀(n:Nat),n<1000000000000→Gives Tryz.prog 16 [.int .i64 (n:Int)] (.str (decB n)):=by
 intro n;induction n using Nat.strongRecOn with
 |_ n ih=>
  intro hn;have h0:¬((n:Int)<0):=by omega
  refine cS L16 ?_;by_cases h:n<10
  ·have h1:(n:Int)<10:=by omega
   have w1:IntKind.i64.wrap (48+(n:Int))=48+(n:Int):=wrap64 (by omega);have w2:IntKind.u8.wrap (48+(n:Int))=48+(n:Int):=by rw[show IntKind.u8.wrap (48+(n:Int))=(48+(n:Int))%256 from rfl];omega
   have w3:(48+(n:Int)).toNat=48+n:=by omega
   have hd:=Ze5 h;simp[-getElem?_pos,L16,h0,h1,w1,w2,Zdf,Zec,w3,hd]
  ·have h1:¬((n:Int)<10):=by omega
   have c1:=ih (n / 10) (by omega) (by omega);have c2:=ih (n%10) (by omega) (by omega);have w1:IntKind.i64.wrap ((n:Int) / 10)=((n / 10:Nat):Int):=by rw[wrap64 (by omega)];omega
   have w2:(n:Int).tmod 10=((n%10:Nat):Int):=by rw[Int.tmod_eq_emod_of_nonneg (by omega)];rfl
   have w3:(n:Int).tdiv 10=(n:Int) / 10:=by rw[Int.tdiv_eq_ediv_of_nonneg (by omega)]
   have w4:IntKind.i64.wrap ((n%10:Nat):Int)=((n%10:Nat):Int):=wrap64 (by omega);have hd:=Zke h;have s1:=ZcC (n / 10) 12 (by omega);have s2:=ZcC (n%10) 12 (by omega);have s3:(decB (n / 10)).size+(decB (n%10)).size≤9223372036854775807:=by omega
   simp[-getElem?_pos,L16,h0,h1,w1,w2,w3,w4];refine cG [.int .i64 ((n / 10:Nat):Int)] c1 ?_;simp[-getElem?_pos,w2,w4];refine cG [.int .i64 ((n%10:Nat):Int)] c2 ?_;simp[-getElem?_pos,nble,s3,hd]
end
section
open Go.RowKit
set_option maxRecDepth 10000
attribute [local simp] AS.exp expG Box.ren AV.map AV.mapL Zaw noRet Site.isRet Box.allS AV.allS AV.allSL retB dropL AS.adds renL outG outOk Zau inG fnOf lookA Zww
attribute [local simp] Box.purge Site.isLoc
attribute [local simp] retFz frzL AS.frz AV.frz AV.frzL Box.frz AS.tidy AS.frzC frzsL retOk renB toLoc
section
variable {D:Wk→ByteArray→Wk×Int}
theorem ZbE {s:ByteArray}:∀{l:List ByteArray} {st:Wk},keepD D st (l++[s])=keepD D st l++if(D (foldD D st l).1 s).2=0 then[s]else[]
 |[],st=>by
  by_cases h:(D st s).2=0
  ·simp[keepD,foldD,h]
  ·simp[keepD,foldD,h]
 |x::l,st=>by
  simp only[ZwI,keepD,foldD];rw[ZbE (l:=l)];by_cases h2:(D (foldD D (D st x).1 l).1 s).2=0<;>by_cases h1:(D st x).2=0<;>simp[h1,h2]
theorem Zbk:∀{l:List ByteArray} {st:Wk},(keepD D st l).length≤l.length
 |[],_=>Zv5 _
 |x::l,st=>by
  unfold keepD;split
  ·exact Nat.succ_le_succ Zbk
  ·exact Nat.le_succ_of_le Zbk
theorem Zbm {s:ByteArray}:∀{L:List ByteArray} {st:Wk} {k:Nat},L[k]?=some s→(foldD D st L).2[k]?=some (D (foldD D st (L.take k)).1 s).2
 |[],_,k,h=>by simp at h
 |x::L,st,0,h=>by
  simp only[List.getElem?_cons_zero,Option.some.injEq]at h;subst h;rfl
 |x::L,st,k+1,h=>by
  simp only[ZwW]at h;simp only[foldD,List.take_succ_cons,ZwW];exact Zbm h
end
def emp5:List AV:=[.pv (.emp (some true)),.pv (.emp (some true)),.pv (.emp (some true)),.pv (.emp (some true)),.pv (.emp (some true))]
def pdS (L:List ByteArray)(w:Wk)(es:List Int)(kp:List ByteArray)(k:Nat):AS:=
 ⟨[(0,.pv (.lst false 1 (L.map .str))),(2,.ptr (.loc 2 0) 0),(5,.ptr (.loc 5 0) 0),(6,.pv (.lst false 1 (es.map iE))),(8,.vec (.loc 44 0) 1 0 kp.length),(9,.pv (.int .i64 (k:Int)))],
  [(.loc 44 0,.arr 9 1 (kp.map .str)),(.loc 2 0,.cells emp5),(.loc 5 0,.cells w.cells)]⟩
set_option maxHeartbeats 4000000 in
theorem ZdV {F:Nat}(hF:407<F)(L:List ByteArray)(hr:ZaP L=true):Gives Tryz.prog 11 [strsP L] (.tup [(foldD (doB F) wk0 L).1.pv,strsP (keepD (doB F) wk0 L),.bool true]):=by
 obtain⟨hl0,hs0⟩:=ZaG hr;have hck:=ZaB hr;have hbi:=Zeq L (by omega);have hpl:=Zfc hF L (by omega);unfold plyE at hpl;rw[if_pos hck]at hpl;have hfl:=Zbl (D:=doB F) (l:=L) (st:=wk0);have hget:=fun k s (h:L[k]?=some s)=>Zbm (D:=doB F) (st:=wk0) h
 have hkp:=fun k s=>ZbE (D:=doB F) (s:=s) (l:=L.take k) (st:=wk0)
 have hkl:=fun k=>Zwh (Zbk (D:=doB F) (l:=L.take k) (st:=wk0)) (show(L.take k).length≤50 by rw[Zv8];omega)
 refine cFR [.loc 44 0] L11 ?_;intro R hR;generalize hD:doB F=D at hpl hfl hget hkp hkl hR;obtain⟨K,hK⟩:∃K:Nat→List ByteArray,K=fun k=>keepD D wk0 (L.take k):=⟨_,rfl⟩
 have hK0:K 0=[]:=by rw[hK];rfl
 have hKL:K L.length=keepD D wk0 L:=by rw[hK];show keepD D wk0 (L.take L.length)=_;rw[Zwm]
 have hKs:∀k s,L[k]?=some s→∃e,(foldD D wk0 L).2[k]?=some e∧K (k+1)=K k++(if e=0 then[s]else[]):=fun k s hx=>by
  refine⟨_,hget k s hx,?_⟩;rw[hK];show keepD D wk0 (L.take (k+1))=_;rw[Zwf,hx];exact hkp k s
 have hKl:∀k,(K k).length≤50:=fun k=>by rw[hK];exact hkl k
 rw[←hKL]at hR;clear hK hkp hkl hget;generalize foldD D wk0 L=q at hpl hfl hKs hR;obtain⟨w,es⟩:=q;dsimp only at hpl hfl hKs hR;simp[-getElem?_pos,L11];refine .inl (cQ [] [strsP L] hbi ?_);simp[-getElem?_pos];refine .inl (cQ [] [strsP L] hpl ?_);simp[-getElem?_pos,Wk.pv,ctsP,bdsP,lotsP,ttsP,runsP,strsP,hfl];refine Zae (fun m τ=>∃k:Nat,k≤L.length∧m=L.length-k∧τ=pdS L w es (K k) k) ⟨L.length,pdS L w es (K 0) 0,Sub.trans' (Sub.mk (by simp[pdS,hK0,AS.vecT]) (by simp[pdS,hK0,AS.vecT,emp5,Wk.cells])) (vecT 44 9 1 8 rfl (by decide)),0,Zwb _,rfl,rfl⟩ ?_;rintro J hJ m τ ⟨k,hk,rfl,rfl⟩;by_cases hlt:k<L.length
 ·obtain⟨s,hx⟩:∃s,L[k]?=some s:=⟨L[k],ZvZ hlt⟩;have hg:(L.map PV.str)[k]?=some (.str s):=by rw[Zv0,hx];rfl
  obtain⟨e,he,hks⟩:=hKs k s hx;have hge:(es.map iE)[k]?=some (.int .i64 e):=by rw[Zv0,he];rfl
  have hw:=wrapK (k:=k) (by omega);have hn:=hJ _ _ ⟨k+1,hlt,rfl,rfl⟩;have hmeas:L.length-(k+1)<L.length-k:=by omega
  have hk5:=hKl k;have hlt2:k<es.length:=by omega
  rw[hks]at hn;clear hJ hKs;generalize K k=kp at hn hk5 ⊢;have hk6:kp.length+1≤1000000:=by omega
  by_cases h0:e=0
  ·rw[if_pos h0]at hn;subst h0;simp[-getElem?_pos,-List.getElem?_map,pdS,hlt,hlt2,hg,hge,nblt,nble,hk6,hw,Wk.cells,emp5];exact⟨_,_,hmeas,Sub.mk (by simp[pdS]) (by simp[pdS,Wk.cells,emp5]),hn⟩
  ·rw[if_neg h0,Zwn]at hn;simp[-getElem?_pos,-List.getElem?_map,pdS,hlt,hlt2,hg,hge,nblt,nble,h0,hw,Wk.cells,emp5];exact⟨_,_,hmeas,Sub.mk (by simp[pdS]) (by simp[pdS,Wk.cells,emp5]),hn⟩
 ·have he:k=L.length:=by omega
  subst he;have hm:List.take (K L.length).length ((K L.length).map PV.str)=(K L.length).map PV.str:=Zv9 (by simp);simp[-getElem?_pos,-List.map_take,pdS,Wk.cells,emp5,hm];rw[←hR];exact⟨by simp[Wk.pv,ctsP,bdsP,lotsP,ttsP,runsP,strsP],by simp⟩
end
section
open Go.RowKit
set_option maxRecDepth 10000
theorem Zfb {b:Bk}(hb:b.ok){item day:Int}(h0:0≤item)(h1:item<b.items.length)(h2:0≤day)(h3:day≤1000):b.askM item day=if b.isHeld item day=true then 0 else 10:=by
 unfold Bk.askM Bk.hasItem inB;rw[Bk.ok_iff.2 hb,decide_eq_true h0,decide_eq_true (show item≤(b.items.length:Int)-1 by omega),decide_eq_true h2,decide_eq_true h3];rfl
attribute [local irreducible] Bk.held Bk.nums Bk.heldU Bk.span
section
variable {b b':Bk}
end
end
section
open Go.RowKit
set_option maxRecDepth 10000
attribute [local simp] AS.exp expG Box.ren AV.map AV.mapL Zaw noRet Site.isRet Box.allS AV.allS AV.allSL retB dropL AS.adds renL outG outOk Zau inG fnOf lookA Zww
attribute [local simp] Box.purge Site.isLoc
attribute [local simp] retFz frzL AS.frz AV.frz AV.frzL Box.frz AS.tidy AS.frzC frzsL retOk renB toLoc
def lstO (L:List ByteArray)(r:AV)(B:List (Site×Box)):Prop:=r=.vec (.ret 0) 1 0 L.length∧B=[(.ret 0,.arr 9 1 (L.map .str))]
theorem Zlt (L:List ByteArray)(hl:L.length≤1000000):Zak Tryz.prog 14 [.pv (strsP L)] [] (lstO L):=by
 refine cB [.loc 5 0] L14 ?_;generalize hR:lstO L=R;have h4:List.take L.length (L.map PV.str)=L.map PV.str:=Zv9 (by rw[Zv6];exact Zv5 _);simp[-getElem?_pos,L14,strsP,nble,hl,h4];rw[←hR];unfold lstO;simp
theorem Zfm {L:List ByteArray}{s:ByteArray}(h:ZaP L=true)(h1:L.length≤49)(h2:s.size≤200):ZaP (L++[s])=true:=by
 obtain⟨k1,k2⟩:=ZaG h;unfold ZaP;rw[Zv2,decide_eq_true_eq,Zwl];refine⟨fun x hx=>?_,by rw[Zv7];simp;omega⟩;rcases Zwv.1 hx with hx|hx
 ·simpa using k2 x hx
 ·cases Zwo.1 hx;simpa using h2
section
variable {P:Program}{K:AS→Prop}{Q:AEx→AS→Prop}{σ:AS}
end
end
section
open Go.RowKit
set_option maxRecDepth 10000
section
attribute [local irreducible] Bk.suspM earlE Bk.contra Bk.held Bk.span Bk.nums Bk.isHeld
theorem Zbi {b:Bk}{i d:Int}:(b.bestM i d).2=b.askM i d:=by
 unfold Bk.bestM;split
 ·rename_i h;rw[h]
  split<;>rfl
 ·rfl
theorem Zex {l:List Ct}{bad:List Int}(hl:Bk.ok ⟨ZaE,l⟩){i d:Int}(h0:0≤i)(h1:i≤5)(h2:0≤d)(h3:d≤1000):
  ((Zaj l bad).bestM i d).2=if stM l bad i d=true then 0 else 10:=by
 have hb:=Zbf (bad:=bad) hl;have h:=Zfb hb h0 (show i<((Zaj l bad).items.length:Int) by show i<(6:Int);omega) h2 h3;have hs:stM l bad i d=decide ((Zaj l bad).askM i d=0):=by unfold stM;rw[Zbi]
 rw[Zbi,hs,h]
 split<;>rfl
theorem ZkE {l:List Ct}{bad:List Int}{i d:Int}(hc:(Zaj l bad).contra=false)(h:stM l bad i d=true):((Zaj l bad).spanM i d).2=0:=by
 unfold stM at h;rw[Zbi]at h;unfold Bk.spanM;rw[if_pos (of_decide_eq_true h),hc];rfl
end
def lvM (S:Int→Int→Bool)(G:Tt→Bool)(num:Int):List Tt→List Bool→Int×Nat
 |[],rs=>(3,rs.length)
 |t::l,rs=>if t.lot=num∧S t.item t.day=true then(if(planM (rs++[!G t])).1=3 then lvM S G num l (rs++[!G t])else((planM (rs++[!G t])).1,(rs++[!G t]).length))else lvM S G num l rs
theorem ZkW {S:Int→Int→Bool}{G:Tt→Bool}{num:Int}{rs:List Bool}:lvM S G num [] rs=(3,rs.length):=rfl
theorem Zd1 {S:Int→Int→Bool}{G:Tt→Bool}{num:Int}{t:Tt}{l:List Tt}{rs:List Bool}:lvM S G num (t::l) rs=if t.lot=num∧S t.item t.day=true then(if(planM (rs++[!G t])).1=3 then lvM S G num l (rs++[!G t])else((planM (rs++[!G t])).1,(rs++[!G t]).length))else lvM S G num l rs:=rfl
theorem Zeh {S:Int→Int→Bool}{G:Tt→Bool}{num:Int}:∀{l:List Tt} {rs:List Bool},(lvM S G num l rs).1=verdM S G num l rs
 |[],rs=>rfl
 |t::l,rs=>by
  rw[Zd1,Zcm];split
  ·split
   ·exact Zeh
   ·rfl
  ·exact Zeh
def OpenR (rs:List Bool):Prop:=rs.length<2∨(rs.length<4∧saysM (cntB (rs.take 2)) 0 2=3)
theorem ZfR:OpenR []:=.inl (by decide)
theorem OpenR.len {rs:List Bool}(h:OpenR rs):rs.length≤3:=by
 rcases h with h|⟨h,_⟩<;>omega
theorem OpenR.step {rs:List Bool}(h:OpenR rs)(b:Bool):(planM (rs++[b])).2.2=0∧((planM (rs++[b])).1=3→OpenR (rs++[b])):=by
 have hl:(rs++[b]).length=rs.length+1:=by rw[Zv7];rfl
 rcases h with h|⟨h4,hs⟩
 ·by_cases h1:rs.length+1<2
  ·unfold planM OpenR;rw[hl,if_pos h1];exact⟨rfl,fun _=>.inl h1⟩
  ·have h2:rs.length+1=2:=by omega
   unfold planM OpenR;rw[hl,if_neg h1,h2];by_cases h3:saysM (cntB ((rs++[b]).take 2)) 0 2=3
   ·rw[if_pos h3,if_pos (by decide)];exact⟨rfl,fun _=>.inr ⟨by decide,h3⟩⟩
   ·rw[if_neg h3,if_neg (by decide)];exact⟨rfl,fun h=>absurd h h3⟩
 ·by_cases h1:rs.length<2
  ·by_cases h1':rs.length+1<2
   ·unfold planM OpenR;rw[hl,if_pos h1'];exact⟨rfl,fun _=>.inl h1'⟩
   ·have h2:rs.length+1=2:=by omega
    unfold planM OpenR;rw[hl,if_neg h1',h2];by_cases h3:saysM (cntB ((rs++[b]).take 2)) 0 2=3
    ·rw[if_pos h3,if_pos (by decide)];exact⟨rfl,fun _=>.inr ⟨by decide,h3⟩⟩
    ·rw[if_neg h3,if_neg (by decide)];exact⟨rfl,fun h=>absurd h h3⟩
  ·have ht:(rs++[b]).take 2=rs.take 2:=List.take_append_of_le_length (by omega);unfold planM OpenR;rw[hl,if_neg (by omega),ht,if_pos hs];by_cases h3:rs.length+1<4
   ·rw[if_pos h3];exact⟨rfl,fun _=>.inr ⟨h3,hs⟩⟩
   ·rw[if_neg h3,if_neg (by omega)];refine⟨rfl,fun h=>?_⟩;exfalso;revert h;show saysM _ 1 2≠3;unfold saysM;split
    ·decide
    ·split
     ·decide
     ·omega
theorem ZkV {S:Int→Int→Bool}{G:Tt→Bool}{num:Int}:∀{l:List Tt} {rs:List Bool},OpenR rs→(lvM S G num l rs).2≤4
 |[],rs,h=>by
  have:=h.len
  show rs.length≤4;omega
 |t::l,rs,h=>by
  rw[Zd1];split
  ·split
   ·rename_i h3;exact ZkV ((h.step _).2 h3)
   ·have:=h.len
    show(rs++[!G t]).length≤4;rw[Zv7];show rs.length+1≤4;omega
  ·exact ZkV h
end
section
open Go.RowKit
theorem ZaM {b:UInt8}:∀{l:List UInt8} {acc:Nat},Lib.decFrom acc (l++[b])=(Lib.decFrom acc l).bind fun n=>(Lib.digitVal b).map fun d=>n*10+d
 |[],acc=>by
  simp only[List.nil_append,Lib.decFrom,ZwE];cases Lib.digitVal b<;>rfl
 |x::l,acc=>by
  simp only[ZwI,Lib.decFrom];cases Lib.digitVal x with
  |none=>rfl
  |some d=>exact ZaM (l:=l)
theorem Zdd {d:Nat}(h:d<10):Lib.digitVal (UInt8.ofNat (48+d))=some d:=by
 unfold Lib.digitVal;have e:(UInt8.ofNat (48+d)).toNat=48+d:=by rw[UInt8.toNat_ofNat'];omega
 rw[e,if_pos (by omega)];congr 1;omega
theorem ZaW {u:Nat}(h:u<10):Lib.decDigits u=[UInt8.ofNat (48+u)]:=Lib.decDigits_one h
theorem Zba {u:Nat}(h:¬u<10):Lib.decDigits u=Lib.decDigits (u / 10)++[UInt8.ofNat (48+u%10)]:=by
 conv=>lhs;rw[Lib.decDigits,dif_neg h]
theorem ZbO (u:Nat):Lib.decFrom 0 (Lib.decDigits u)=some u:=by
 induction u using Nat.strongRecOn with
 |_ u ih=>
  by_cases h:u<10
  ·rw[ZaW h];simp only[Lib.decFrom,Zdd h];congr 1;omega
  ·rw[Zba h,ZaM,ih (u / 10) (by omega),ZwE,Zdd (Nat.mod_lt _ (by decide)),Zwu];congr 1;omega
theorem ZbN (u:Nat):Lib.decDigits u≠[]:=by
 by_cases h:u<10
 ·rw[ZaW h];simp
 ·rw[Zba h];simp
theorem Zdn (k:Nat)(h:(Lib.decDigits k).length≤9):Lib.atoiAll (Lib.decDigits k)=.ok (k:Int):=by
 rw[Lib.atoiAll_short _ (by omega)];have hno:=ZdF k;have hf:=ZbO k;have hne:=ZbN k;cases hd:Lib.decDigits k with
 |nil=>exact absurd hd hne
 |cons c r=>
  rw[hd]at hf;have h45:c≠45:=hno c (by rw[hd];exact Zwz ..);have h43:c≠43:=fun e=>by
   subst e;simp only[Lib.decFrom]at hf
   have:Lib.digitVal 43=none:=by decide
   rw[this]at hf;cases hf
  have e45:(c==45)=false:=by simpa using h45
  have e43:(c==43)=false:=by simpa using h43
  simp only[Lib.atoi,e45,e43,Lib.decNat,List.isEmpty_cons,ZwP,if_false,hf,Zwu];rfl
theorem Zcc (k:Nat):Lib.trimPrefix (Lib.decDigits k) [45]=Lib.decDigits k:=by
 have hno:=ZdF k;cases hd:Lib.decDigits k with
 |nil=>rfl
 |cons c r=>
  have hc:c≠45:=hno c (by rw[hd];exact Zwz ..);simp[Lib.trimPrefix,Lib.hasPrefix,hc]
  try exact fun e=>absurd e.symm hc
theorem Zdk {s:ByteArray}{v:Int}(h1:s.data.toList=Lib.itoa v)(h2:Lib.atoiAll (Lib.itoa v)=.ok v)(h3:(Lib.trimPrefix (Lib.itoa v) [45]).length≤9):numB s=some v:=by
 unfold numB;rw[h1,h2];have e:itoaB v=s:=by
  unfold itoaB;rw[←h1]
 have e2:(trimB s ⟨#[45]⟩).size≤9:=by
  show(Lib.trimPrefix s.data.toList [45]).length≤9;rw[h1];exact h3
 exact if_pos ⟨e,e2⟩
def Zar:List UInt8→List (List UInt8)
 |[]=>[[]]
 |c::r=>if c=32 then[]::Zar r else match Zar r with
  |h::t=>(c::h)::t
  |[]=>[[c]]
theorem Zat (c:UInt8)(r:List UInt8):Zar (c::r)=if c=32 then[]::Zar r else match Zar r with
  |h::t=>(c::h)::t
  |[]=>[[c]]:=rfl
theorem ZbJ:∀l:List UInt8,(Lib.index l [32] = -1∧Zar l=[l])∨∃i:Nat,Lib.index l [32]=(i:Int)∧i<l.length∧Zar l=l.take i::Zar (l.drop (i+1))
 |[]=>.inl ⟨by decide,rfl⟩
 |c::r=>by
  by_cases hc:c=32
  ·subst hc;refine .inr ⟨0,?_,by simp,?_⟩
   ·simp[Lib.index]
   ·simp[Zar]
  ·have hp:([32]:List UInt8).isPrefixOf (c::r)=false:=by
    simp[List.isPrefixOf];exact fun e=>absurd e.symm hc
   rcases ZbJ r with⟨h1,h2⟩|⟨i,h1,h2,h3⟩
   ·refine .inl ⟨?_,?_⟩
    ·unfold Lib.index;rw[hp,h1];rfl
    ·rw[Zat,if_neg hc,h2]
   ·refine .inr ⟨i+1,?_,by rw[Zws];omega,?_⟩
    ·unfold Lib.index;rw[hp,h1]
     have:((i:Int)==-1)=false:=by
      rw[beq_eq_false_iff_ne];omega
     rw[this];simp
    ·rw[Zat,if_neg hc,h3];rfl
theorem ZbF:∀(k:Nat) (l:List UInt8),Lib.count l [32]=k→Lib.splitK [32] 0 k l=Zar l
 |k,l,hk=>by
  rcases ZbJ l with⟨h1,h2⟩|⟨i,h1,h2,h3⟩
  ·have h0:k=0:=by rw[←hk];exact Lib.count_miss h1
   subst h0;rw[h2];rfl
  ·have hc:=Lib.count_hit (s:=l) (sub:=[32]) (by simp) h1;rw[hk]at hc;cases k with
   |zero=>omega
   |succ k=>
    have hk':Lib.count (l.drop (i+[32].length)) [32]=k:=by omega
    have ih:=ZbF k (l.drop (i+1)) hk';unfold Lib.splitK;rw[h1]
    have:((i:Int)==-1)=false:=by
     rw[beq_eq_false_iff_ne];omega
    rw[this,h3];simp only[ZwP,if_false,Nat.add_zero,Zw2,ZwS];rw[ih]
termination_by k=>k
theorem Zdj (s:ByteArray):(ZaF s blank).map (·.data.toList)=Zar s.data.toList:=by
 unfold ZaF;rw[Lib.splitB_data];exact ZbF _ _ rfl
theorem ZaS:∀{l r:List UInt8},(∀c∈l,c≠32)→Zar (l++32::r)=l::Zar r
 |[],r,_=>by
  rw[List.nil_append,Zat,if_pos rfl]
 |c::l,r,h=>by
  rw[ZwI,Zat,if_neg (h c (Zwz ..)),ZaS (fun x hx=>h x (ZwR _ hx))]
theorem ZaT:∀{l:List UInt8},(∀c∈l,c≠32)→Zar l=[l]
 |[],_=>rfl
 |c::l,h=>by
  rw[Zat,if_neg (h c (Zwz ..)),ZaT (fun x hx=>h x (ZwR _ hx))]
theorem ZiU (u:Nat):∀c∈Lib.decDigits u,c≠32:=by
 induction u using Nat.strongRecOn with
 |_ u ih=>
  have hd:∀d:Nat,d<10→UInt8.ofNat (48+d)≠32:=fun d hd e=>by
   have:=congrArg UInt8.toNat e
   rw[UInt8.toNat_ofNat']at this;have e2:(32:UInt8).toNat=32:=rfl;omega
  by_cases h:u<10
  ·rw[ZaW h];intro c hc;cases Zwo.1 hc;exact hd u h
  ·rw[Zba h];intro c hc;rcases Zwv.1 hc with hc|hc
   ·exact ih (u / 10) (by omega) c hc
   ·cases Zwo.1 hc;exact hd _ (Nat.mod_lt _ (by decide))
def ZeH:List (List UInt8)→List UInt8
 |[]=>[]
 |[a]=>a
 |a::b::r=>a++32::ZeH (b::r)
theorem Zb2:∀{ps:List (List UInt8)},ps≠[]→(∀p∈ps,∀c∈p,c≠32)→Zar (ZeH ps)=ps
 |[],h,_=>absurd rfl h
 |[a],_,h=>ZaT (h a (Zwz ..))
 |a::b::r,_,h=>by
  unfold ZeH;rw[ZaS (h a (Zwz ..)),Zb2 (by simp) (fun p hp=>h p (ZwR _ hp))]
theorem Zbt {a b:ByteArray}(h:a.data.toList=b.data.toList):a=b:=ByteArray.ext (ZwL.1 h)
theorem ZaL:∀{l m:List ByteArray},l.map (·.data.toList)=m.map (·.data.toList)→l=m
 |[],[],_=>rfl
 |[],b::m,h=>by cases h
 |a::l,[],h=>by cases h
 |a::l,b::m,h=>by
  simp only[Zwd,List.cons.injEq]at h;rw[Zbt h.1,ZaL h.2]
theorem Zdt {s:ByteArray}{ps:List ByteArray}(hs:s.data.toList=ZeH (ps.map (·.data.toList)))(hne:ps≠[])(h:∀p∈ps,∀c∈p.data.toList,c≠32):ZaF s blank=ps:=by
 apply ZaL;rw[Zdj,hs];refine Zb2 (by simpa using hne) (fun p hp c hc=>?_);obtain⟨q,hq,rfl⟩:=Zwc.1 hp;exact h q hq c hc
theorem ZeJ {n:Nat}(h:n<1000000000):numB (decB n)=some (n:Int):=by
 have hi:Lib.itoa (n:Int)=Lib.decDigits n:=Lib.itoa_nonneg n;have hl:(Lib.decDigits n).length≤9:=by
  have:=ZcC n 8 (by omega)
  exact this
 exact Zdk (by rw[hi];rfl) (by rw[hi];exact Zdn n hl) (by rw[hi,Zcc];exact hl)
theorem Zkd (n:Nat):∀c∈(decB n).data.toList,c≠32:=ZiU n
def n600:ByteArray:=⟨#[54,48,48]⟩
def testW (a b c:Nat):ByteArray:=wTest++blank++decB a++blank++decB b++blank++decB c++(blank++n600)
theorem ZmW {a b c:Nat}(ha:a<1000000000)(hb:b<1000000000)(hc:c<1000000000):Zay (testW a b c)=some (190,[(a:Int),b,c,600]):=by
 have hs:ZaF (testW a b c) blank=[wTest,decB a,decB b,decB c,n600]:=Zdt (by
  unfold testW;simp only[ZfJ,ZwQ];rfl) (by simp) (fun p hp x hx=>by
  simp only[Zwg,List.not_mem_nil,or_false]at hp;rcases hp with rfl|rfl|rfl|rfl|rfl
  ·revert x;decide
  ·exact Zkd a x hx
  ·exact Zkd b x hx
  ·exact Zkd c x hx
  ·revert x;decide)
 have hw:wordB wTest=some (4,190):=by decide
 have h6:numB n600=some 600:=by decide +kernel
 unfold Zay;rw[hs];dsimp only;rw[hw];dsimp only;rw[if_pos (show[decB a,decB b,decB c,n600].length=4 from rfl),Zbs,ZeJ ha,Zbs,ZeJ hb,Zbs,ZeJ hc,Zbs,h6];rfl
end
section
open Go.RowKit
set_option maxRecDepth 10000
attribute [local irreducible] Bk.suspM earlE Bk.contra Bk.held Bk.span Bk.nums Bk.isHeld stM verdM
theorem Zs2 {k:Nat}{st:Wk}(h:WkI k st){x:Lt}(hx:x∈st.lots){a i d:Nat}(ha:(a:Int)=x.num)(hi:2≤i)(hi':i≤5)(hd:d≤1000):
  (doB 408 st (testW a i d)).2=(if x.passed=true∨verdL st.certs st.bad st.tests x≠3 then 8 else if x.pieces≤manyT st.tests x.num then 3 else if stM st.certs st.bad i d=false then 10 else 0):=by
 have hl:=(h.lt x hx).1;unfold ltOk at hl;unfold doB lineM;rw[ZmW (by omega) (by omega) (by omega)];dsimp only;have hd':doW 408 st 190 [(a:Int),i,d,600]=(testM (stM st.certs st.bad) (verdL st.certs st.bad st.tests) st.lots st.tests ⟨a,i,d,600⟩).map fun l=>{ st with tests:=l }:=by
  unfold doW;rw[if_neg (by decide),if_neg (by decide),if_neg (by decide),if_pos rfl]
 have hlo:st.lots[lowB (st.lots.map Lt.num) (a:Int)]?=some x:=by
  have h1:=ZiE h.s (Zwc.2 ⟨x,hx,ha.symm⟩);rw[Zv0]at h1;obtain⟨y,hy,e⟩:=Zv4.1 h1;obtain⟨j,hj⟩:=List.getElem?_of_mem hx;have hp:=h.s;have e2:lowB (st.lots.map Lt.num) (a:Int)=j:=by
   have hp':=Zw3.1 hp;obtain⟨l1,rfl⟩:=Zv1.1 hy;obtain⟨l2,e3⟩:=Zv1.1 hj;rcases Nat.lt_trichotomy (lowB (st.lots.map Lt.num) (a:Int)) j with hlt|heq|hgt
   ·have:=hp' _ _ (by rw[Zv6];exact l1) (by rw[Zv6];exact l2) hlt
    rw[List.getElem_map,List.getElem_map,e3]at this;omega
   ·exact heq
   ·have:=hp' _ _ (by rw[Zv6];exact l2) (by rw[Zv6];exact l1) hgt
    rw[List.getElem_map,List.getElem_map,e3]at this;omega
  rw[e2];exact hj
 rw[hd'];unfold testM;dsimp only;rw[if_pos ⟨by rw[Zv2,decide_eq_true_eq,decide_eq_true_eq];omega,by rw[Zv2,decide_eq_true_eq,decide_eq_true_eq];omega,rfl⟩,hlo];dsimp only;rw[if_pos ha.symm,ha];by_cases h1:x.passed=true
 ·rw[if_pos h1,if_pos (.inl h1)];rfl
 ·rw[if_neg h1];by_cases h2:verdL st.certs st.bad st.tests x=3
  ·rw[if_pos h2,if_neg (show ¬(x.passed=true∨verdL st.certs st.bad st.tests x≠3) by rintro(h|h);exact h1 h;exact h h2)];by_cases h3:(manyT st.tests x.num:Int)<x.pieces
   ·rw[if_pos h3,if_neg (show ¬(x.pieces≤(manyT st.tests x.num:Int)) by omega)];cases h4:stM st.certs st.bad i d with
    |true=>rfl
    |false=>rfl
   ·rw[if_neg h3,if_pos (show x.pieces≤(manyT st.tests x.num:Int) by omega)];rfl
  ·rw[if_neg h2,if_pos (.inr h2)];rfl
end
section
open Go.RowKit
set_option maxRecDepth 10000
attribute [local simp] AS.exp expG Box.ren AV.map AV.mapL Zaw noRet Site.isRet Box.allS AV.allS AV.allSL retB dropL AS.adds renL outG outOk Zau inG fnOf lookA Zww
attribute [local simp] Box.purge Site.isLoc
attribute [local simp] retFz frzL AS.frz AV.frz AV.frzL Box.frz AS.tidy AS.frzC frzsL retOk renB toLoc
def ZaZ:List PV:=ZaE.map It.pv
def rgT (k:Nat):List (Nat×AV):=[(1,.ptr (.loc 1 0) 0),(2,.ptr (.loc 2 0) 0),(3,.ptr (.loc 3 0) 0),(4,.pv (.int .i64 (k:Int)))]
def rgX (w:Wk)(Y:List Ct):List (Site×Box):=[(.loc 55 0,.arr 47 7 (Y.map Ct.pv)),(.loc 14 0,.arr 116 4 ZaZ),(.loc 3 0,.cells [.vec (.loc 14 0) 4 0 6,.vec (.loc 55 0) 7 0 Y.length]),(.loc 1 0,.cells w.cells),(.loc 2 0,.cells [.pv (.emp (some true)),.pv (.emp (some true))])]
def rgS (w:Wk)(k:Nat):AS:=⟨rgT k,rgX w (goodC (w.certs.take k) w.bad)⟩
def rgJ (w:Wk)(Y:List Ct)(x:Ct)(k j:Nat):AS:=⟨(5,.pv (.bool (badP (w.bad.take j) x)))::(6,.pv (.int .i64 (j:Int)))::rgT k,rgX w Y⟩
theorem ZcG {bad:List Int}{j:Nat}{n:Int}{x:Ct}(h:bad[j]?=some n):badP (bad.take (j+1)) x=(badP (bad.take j) x||decide (n=x.num)):=by
 rw[ZwD,Zbx,Zwx,Zbx,Zwf,h];simp[eq_comm]
set_option maxHeartbeats 16000000 in
theorem ZbY (w:Wk)(hl:w.certs.length≤1000)(hb:w.bad.length≤1000):Gives Tryz.prog 20 [w.pv] (Zaj w.certs w.bad).pv:=by
 refine cFR [.loc 14 0,.loc 55 0] L20 ?_;intro R hR;simp[-getElem?_pos,L20,Wk.pv,ctsP,bdsP];refine Zae (fun m τ=>∃k:Nat,k≤w.certs.length∧m=w.certs.length-k∧τ=rgS w k) ⟨w.certs.length,rgS w 0,Sub.trans' (Sub.mk (by simp[rgS,rgT,rgX,AS.vecC]) (by simp[rgS,rgT,rgX,AS.vecC,Wk.cells,ctsP,bdsP,lotsP,ttsP,runsP,ZaZ,ZaE,It.pv,goodC])) (vecC 55 47 7 (s:=.loc 3 0) (cs:=[.vec (.loc 14 0) 4 0 6,.pv (.emp (some true))]) 1 rfl rfl (by decide)),0,by omega,rfl,rfl⟩ ?_;rintro J hJ m τ ⟨k,hk,rfl,rfl⟩;by_cases hlt:k<w.certs.length
 ·obtain⟨x,hx⟩:∃x,w.certs[k]?=some x:=⟨w.certs[k],ZvZ hlt⟩;have hg:(w.certs.map Ct.pv)[k]?=some (.agg [.int .i64 x.num,.int .i64 x.it,.int .i64 x.src,.int .i64 x.day,.int .i64 x.valid,.int .i64 x.diff.lo,.int .i64 x.diff.hi]):=by rw[Zv0,hx];rfl
  have hw:=wrapK (k:=k) (by omega);have hround:=hJ _ _ ⟨k+1,hlt,rfl,rfl⟩;have hmeas:w.certs.length-(k+1)<w.certs.length-k:=by omega
  have hnext:goodC (w.certs.take (k+1)) w.bad=goodC (w.certs.take k) w.bad++(if(!badP w.bad x)=true then[x]else[]):=by
   unfold goodC;rw[Zwf,hx,ZwM];congr 1;simp only[Option.toList,ZwJ,List.filter_nil]
  have hpl:(goodC (w.certs.take k) w.bad).length≤1000:=Zwh (ZwN _ _) (by rw[Zv8];omega);unfold rgS at hround ⊢;rw[hnext]at hround;clear hJ hnext;generalize goodC (w.certs.take k) w.bad=Y at *;simp[-getElem?_pos,-List.getElem?_map,rgT,rgX,Wk.cells,ctsP,bdsP,hlt,hg,nble,nblt,hw];refine Zae (fun m τ=>∃j:Nat,j≤w.bad.length∧m=w.bad.length-j∧τ=rgJ w Y x k j) ⟨w.bad.length,rgJ w Y x k 0,Sub.mk (by simp[rgJ,rgT,badP]) (by simp[rgJ,rgX,Wk.cells]),0,by omega,rfl,rfl⟩ ?_;rintro J2 hJ2 m2 τ2 ⟨j,hj,rfl,rfl⟩;by_cases hjl:j<w.bad.length
  ·obtain⟨n,hn⟩:∃n,w.bad[j]?=some n:=⟨w.bad[j],ZvZ hjl⟩;have hgn:(w.bad.map iP)[j]?=some (.int .i64 n):=by rw[Zv0,hn];rfl
   have hwj:=wrapK (k:=j) (by omega);have hr2:=hJ2 _ _ ⟨j+1,hjl,rfl,rfl⟩;have hm2:w.bad.length-(j+1)<w.bad.length-j:=by omega
   unfold rgJ at hr2 ⊢;rw[ZcG hn]at hr2;clear hJ2;generalize badP (w.bad.take j) x=q at *;cases q with
   |true=>
    simp[-getElem?_pos,-List.getElem?_map,rgT,rgX,Wk.cells,ctsP,bdsP,hjl,hgn,nble,nblt,hwj];exact⟨_,_,hm2,Sub.mk (by simp[rgT]) (by simp[rgX,Wk.cells]),hr2⟩
   |false=>
    simp[-getElem?_pos,-List.getElem?_map,rgT,rgX,Wk.cells,ctsP,bdsP,hjl,hgn,nble,nblt,hwj,hlt,hg];exact⟨_,_,hm2,Sub.mk (by simp[rgT]) (by simp[rgX,Wk.cells]),hr2⟩
  have he:j=w.bad.length:=by omega
  subst he;clear hJ2 hjl hj;unfold rgJ;rw[Zwm];have hY:(Y.map Ct.pv).take Y.length=Y.map Ct.pv:=Zv9 (by simp);have hY6:Y.length≤999999:=by omega
  cases hbp:badP w.bad x with
  |true=>
   rw[hbp,if_neg (by simp),Zwn]at hround;simp[-getElem?_pos,-List.getElem?_map,rgT,rgX,Wk.cells,ctsP,bdsP,hw];exact⟨_,_,hmeas,Sub.mk (by simp[rgT]) (by simp[rgX,Wk.cells]),hround⟩
  |false=>
   rw[hbp,if_pos (show(!false)=true from rfl)]at hround;simp[-getElem?_pos,-List.getElem?_map,rgT,rgX,Wk.cells,ctsP,bdsP,hw,hlt,hg,nble,nblt,hY,hY6];exact⟨_,_,hmeas,Sub.mk (by simp[rgT]) (by simp[rgX,Wk.cells,Ct.pv]),hround⟩
 have he:k=w.certs.length:=by omega
 subst he;clear hJ;unfold rgS;rw[Zwm];have hwp:(Zaj w.certs w.bad).pv=.agg [.lst false 4 ZaZ,.lst false 7 ((goodC w.certs w.bad).map Ct.pv)]:=rfl;rw[hwp]at hR;generalize goodC w.certs w.bad=Z at *;have hmZ:(Z.map Ct.pv).take Z.length=Z.map Ct.pv:=Zv9 (by simp);have hh:ZaZ.length=6:=rfl;have hh2:ZaZ.take 6=ZaZ:=rfl;simp[-getElem?_pos,-List.getElem?_map,rgT,rgX,Wk.cells,ctsP,bdsP,hmZ,hh,hh2];rw[←hR];exact⟨rfl,rfl⟩
theorem ZbZ {l:List Ct}{bad:List Int}(hl:l.length≤1000):(Zaj l bad).certs.length≤1000:=Zwh (ZwN _ _) hl
def stE (e:Int):PV:=.tup [.bool (decide (e=0)),.bool (decide (e=0)||decide (e=10))]
theorem ZbH (w:Wk)(hl:w.certs.length≤1000)(hb:w.bad.length≤1000)(lot item day rd:Int):Gives Tryz.prog 17 [w.pv,.agg [.int .i64 lot,.int .i64 item,.int .i64 day,.int .i64 rd]] (stE ((Zaj w.certs w.bad).bestM item day).2):=by
 have hrc:=ZbY w hl hb;have hbc:=Zkv (Zaj w.certs w.bad) (show ZaE.length≤1000 by decide) (ZbZ hl) item day;refine cSR L17 ?_;intro R hR;obtain⟨W,hW⟩:∃z,z=w.pv:=⟨_,rfl⟩;rw[←hW]at hrc ⊢;obtain⟨B,hB⟩:∃z,z=(Zaj w.certs w.bad).pv:=⟨_,rfl⟩;rw[←hB]at hrc hbc;generalize(Zaj w.certs w.bad).bestM item day=b at *;obtain⟨l,e⟩:=b;have hwc:W=.agg [.lst false 7 (w.certs.map Ct.pv),.lst false 1 (w.bad.map iP),.lst false 4 (w.lots.map Lt.pv),.lst false 4 (w.tests.map Tt.pv),.lst false 3 (w.runs.map Qn.Rq.pv)]:=hW;rw[hwc]at hrc ⊢;simp[-getElem?_pos,L17];refine cQ [] [_] hrc ?_;simp[-getElem?_pos,frzsL];refine .inl (cQ [] [B,.int .i64 item,.int .i64 day] hbc ?_);simp[-getElem?_pos,lstE,-decide_eq_true_eq,-decide_eq_false_iff_not];cases h0:decide (e=0)
 ·simp[-getElem?_pos,-decide_eq_true_eq,-decide_eq_false_iff_not,h0,←hR,stE]
 ·simp[-getElem?_pos,-decide_eq_true_eq,-decide_eq_false_iff_not,h0,←hR,stE]
def lvE (w:Wk)(x:Lt):PV:=.tup [.int .u8 (lvM (stM w.certs w.bad) (gdM w.certs w.bad x.limit) x.num w.tests []).1,.int .i64 ((lvM (stM w.certs w.bad) (gdM w.certs w.bad x.limit) x.num w.tests []).2:Nat),.bool true]
def lvT (k:Nat)(rs:List Bool):List (Nat×AV):=[(2,.ptr (.loc 2 0) 0),(3,.ptr (.loc 3 0) 0),(7,.ptr (.loc 7 0) 0),(8,.vec (.loc 75 0) 1 0 rs.length),(9,.pv (.int .i64 (k:Int)))]
def lvX (w:Wk)(x:Lt)(rs:List Bool):List (Site×Box):=[(.loc 75 0,.arr 4 1 (rs.map .bool)),(.loc 7 0,.cells [.pv (.int .i64 x.pieces),.pv (.lst false 3 [stgP 0,stgP 1])]),(.loc 3 0,.cells [.pv (.int .i64 x.num),.pv (.int .i64 x.pieces),.pv (.int .i64 x.limit),.pv (.bool x.passed)]),(.loc 2 0,.cells w.cells)]
def lvS (w:Wk)(x:Lt)(rs:List Bool)(k:Nat):AS:=⟨lvT k rs,lvX w x rs⟩
set_option maxHeartbeats 16000000 in
theorem ZkU (w:Wk)(x:Lt)(hl:w.certs.length≤1000)(hb:w.bad.length≤1000)(ht:w.tests.length≤900)(h4:4≤x.pieces)(h30:x.pieces≤30)(hfit:spFit w.certs w.bad w.tests)
  (hfine:∀t∈w.tests,((Zaj w.certs w.bad).bestM t.item t.day).2=if stM w.certs w.bad t.item t.day=true then 0 else 10) (hsp:∀t∈w.tests,stM w.certs w.bad t.item t.day=true→((Zaj w.certs w.bad).spanM t.item t.day).2=0):
  Gives Tryz.prog 21 [w.pv,x.pv] (lvE w x):=by
 unfold lvE;obtain⟨V,hV⟩:∃V,V=lvM (stM w.certs w.bad) (gdM w.certs w.bad x.limit) x.num w.tests []:=⟨_,rfl⟩;rw[←hV];refine cFR [.loc 22 0,.loc 75 0] L21 ?_;intro R hR;simp[-getElem?_pos,L21,Wk.pv,Lt.pv,ctsP,bdsP,lotsP,ttsP,runsP];refine Zae (fun m τ=>∃(k:Nat) (rs:List Bool),k≤w.tests.length∧m=w.tests.length-k∧OpenR rs∧τ=lvS w x rs k∧lvM (stM w.certs w.bad) (gdM w.certs w.bad x.limit) x.num (w.tests.drop k) rs=V)
  ⟨w.tests.length,lvS w x [] 0,Sub.trans' (Sub.trans' (Sub.mk (by simp[lvS,lvT,lvX,AS.vecT]) (by simp[lvS,lvT,lvX,AS.vecT,Wk.cells,stgP])) (vecT 75 4 1 8 rfl (by decide))) (Sub.frz [.loc 22 0]),0,[],Zwb _,rfl,ZfR,rfl,hV.symm⟩ ?_
 rintro J hJ m τ ⟨k,rs,hk,rfl,ho,rfl,hv⟩;by_cases hlt:k<w.tests.length
 ·obtain⟨t,hx⟩:∃t,w.tests[k]?=some t:=⟨w.tests[k],ZvZ hlt⟩;have hmem:t∈w.tests:=Zv3 hx;have hg:(w.tests.map Tt.pv)[k]?=some (.agg [.int .i64 t.lot,.int .i64 t.item,.int .i64 t.day,.int .i64 t.rd]):=by rw[Zv0,hx];rfl
  have hd:w.tests.drop k=t::w.tests.drop (k+1):=by
   rw[ZwZ hlt];congr 1;rw[ZvZ hlt]at hx;exact Option.some.inj hx
  rw[hd,Zd1]at hv;have hw:=wrapK (k:=k) (by omega);have hmeas:w.tests.length-(k+1)<w.tests.length-k:=by omega
  have hnext:∀rs',OpenR rs'→lvM (stM w.certs w.bad) (gdM w.certs w.bad x.limit) x.num (w.tests.drop (k+1)) rs'=V→J (w.tests.length-(k+1)) (lvS w x rs' (k+1)):=fun rs' h1 h2=>hJ _ _ ⟨k+1,rs',hlt,rfl,h1,rfl,h2⟩
  clear hJ;have hsc:=ZbH w hl hb t.lot t.item t.day t.rd;rw[hfine t hmem]at hsc;have hwp:w.pv=.agg [.lst false 7 (w.certs.map Ct.pv),.lst false 1 (w.bad.map iP),.lst false 4 (w.lots.map Lt.pv),.lst false 4 (w.tests.map Tt.pv),.lst false 3 (w.runs.map Qn.Rq.pv)]:=rfl;have hrc:=ZbY w hl hb;have hpc:=Zp8 (Zaj w.certs w.bad) (show ZaE.length≤1000 by decide) (ZbZ hl) t.item t.day;rw[hwp]at hsc hrc;have hspt:=hsp t hmem;have hft:=hfit t hmem;simp[-getElem?_pos,-List.getElem?_map,lvS,lvT,lvX,Wk.cells,hlt,hg,nblt,nble,setAt];refine .inl<|cQ [] [_,_] hsc ?_;cases hs:stM w.certs w.bad t.item t.day with
  |false=>
   rw[if_neg (by simp[hs])]at hv;have hn:=hnext rs ho hv;by_cases hlo:t.lot=x.num
   ·simp[-getElem?_pos,-List.getElem?_map,frzsL,stE,hlo,hw];exact⟨_,_,hmeas,Sub.mk (by simp[lvT,lvS]) (by simp[lvS,lvX,Wk.cells]),hn⟩
   ·simp[-getElem?_pos,-List.getElem?_map,frzsL,stE,hlo,hw];exact⟨_,_,hmeas,Sub.mk (by simp[lvT,lvS]) (by simp[lvS,lvX,Wk.cells]),hn⟩
  |true=>
   by_cases hlo:t.lot=x.num
   ·have hspt:=hspt hs;have hft':IntKind.i64.wrap (t.rd+((Zaj w.certs w.bad).spanM t.item t.day).1.lo)=t.rd+((Zaj w.certs w.bad).spanM t.item t.day).1.lo:=hft;rw[if_pos ⟨hlo,hs⟩]at hv;unfold gdM at hv;obtain⟨hst,e1,e2⟩:=(⟨ho.step,rfl,rfl⟩:(∀b,(planM (rs++[b])).2.2=0∧((planM (rs++[b])).1=3→OpenR (rs++[b])))∧0=0∧0=0);clear e1 e2;simp[-getElem?_pos,-List.getElem?_map,frzsL,stE,hlo,hw];have hBp:(Zaj w.certs w.bad).pv=.agg [.lst false 4 ZaZ,.lst false 7 ((goodC w.certs w.bad).map Ct.pv)]:=rfl;rw[hBp]at hrc hpc;generalize((Zaj w.certs w.bad).spanM t.item t.day)=sp at hpc hspt hft' hv;obtain⟨⟨lo,hi⟩,er⟩:=sp;dsimp only at hspt hft' hv;subst hspt;refine ZbG (fun τ=>τ=⟨(62,.pv (.int .i64 0))::(13,.ptr (.loc 13 0) 0)::(10,.ptr (.loc 10 0) 0)::lvT k rs,(.loc 13 0,.cells [.pv (.int .i64 lo),.pv (.int .i64 hi)])::(.loc 10 0,.cells [.pv (.int .i64 x.num),.pv (.int .i64 t.item),.pv (.int .i64 t.day),.pv (.int .i64 t.rd)])::lvX w x rs⟩) ?_ ?_
    ·simp[-getElem?_pos,-List.getElem?_map,Zal,Zan]
     repeat' apply And.intro
     all_goals
      first|refine cQ [] [_] hrc ?_|refine .inl<|cQ [] [_] hrc ?_
      simp[-getElem?_pos,-List.getElem?_map,frzsL,Zal,Zan]
      repeat' apply And.intro
      all_goals
       first|refine cQ [] [_,_,_] hpc ?_|refine .inl<|cQ [] [_,_,_] hpc ?_
       simp[-getElem?_pos,-List.getElem?_map,frzsL,spanE,Cr.pv,Zal,Zan]
       repeat' apply And.intro
       all_goals exact Sub.mk (by simp[lvT]) (by simp[lvX,Wk.cells])
    rintro τ rfl;have h16:rs.length≤999999:=by have:=ho.len;omega
    have h17:rs.length+1≤1000000:=by omega
    have h4':=ho.len;obtain⟨b,hb⟩:∃b,b=!decide (x.limit≤t.rd+lo):=⟨_,rfl⟩;rw[←hb]at hv;have hdl:decide (t.rd+lo<x.limit)=b:=by
     rw[hb];by_cases h:x.limit≤t.rd+lo
     ·rw[decide_eq_true h,decide_eq_false (by omega)];rfl
     ·rw[decide_eq_false h,decide_eq_true (by omega)];rfl
    simp[-getElem?_pos,-List.getElem?_map,-decide_eq_true_eq,-decide_eq_false_iff_not,lvT,lvX,Wk.cells,hft',hdl,nble,nblt,h16,h17];have htk:List.take (rs.length+1) (rs.map PV.bool++[PV.bool b])=(rs++[b]).map PV.bool:=by
     rw[Zv9 (by simp),Zwp];rfl
    rw[htk];have hpl:=Zil x.pieces h4 h30 (rs++[b]) (by simp;omega);rw[show planP x.pieces=.agg [.int .i64 x.pieces,.lst false 3 [stgP 0,stgP 1]] from rfl]at hpl;refine Zac (as':=[.pv (.agg [.int .i64 x.pieces,.lst false 3 [stgP 0,stgP 1]]),.vec (.par 0) 1 0 (rs++[b]).length]) (B:=[(.par 0,.arr 4 1 ((rs++[b]).map .bool))]) (fs:=[]) (cs:=[]) 81 [.loc 80 0] rfl rfl rfl rfl ?_ ?_ hpl ?_
    ·first|rfl|simp
    ·first|rfl|simp
    rintro r0 B0 ⟨rfl,rfl⟩;refine⟨rfl,by simp,?_⟩;obtain⟨hs1,hs2⟩:=hst b;have hn:=hnext (rs++[b]);have hll:(rs++[b]).length=rs.length+1:=by rw[Zv7];rfl
    generalize planM (rs++[b])=pm at hv hs1 hs2 ⊢;obtain⟨v,mo,er⟩:=pm;dsimp only at hs1 hs2 hv;subst hs1;by_cases h3:v=3
    ·subst h3;rw[if_pos rfl]at hv;have hn:=hn (hs2 rfl) hv;simp[-getElem?_pos,-List.getElem?_map,planE,hw];exact⟨_,_,hmeas,Sub.mk (by simp[lvT,lvS]) (by simp[lvS,lvX,Wk.cells]),hn⟩
    ·rw[if_neg h3]at hv;simp[-getElem?_pos,-List.getElem?_map,planE,h3];rw[←hR,←hv,hll];exact⟨rfl,by simp⟩
   ·rw[if_neg (by simp[hlo])]at hv;have hn:=hnext rs ho hv;simp[-getElem?_pos,-List.getElem?_map,frzsL,stE,hlo,hw];exact⟨_,_,hmeas,Sub.mk (by simp[lvT,lvS]) (by simp[lvS,lvX,Wk.cells]),hn⟩
 have he:k=w.tests.length:=by omega
 subst he;rw[List.drop_length,ZkW]at hv;clear hJ;simp[-getElem?_pos,-List.getElem?_map,lvS,lvT,lvX,Wk.cells];rw[←hR,←hv];exact⟨rfl,rfl⟩
attribute [local irreducible] Bk.suspM earlE Bk.contra Bk.held Bk.span Bk.nums Bk.isHeld stM verdM doB foldD
def opS (L:List ByteArray)(w:Wk)(x:Lt)(it dy v:Int)(c j:Nat):AS:=⟨[(0,.pv (.lst false 1 (L.map .str))),(2,.pv (.int .u8 it)),(3,.pv (.int .u16 dy)),(9,.ptr (.loc 9 0) 0),(12,.ptr (.loc 12 0) 0),(13,.pv (.int .u8 v)),(16,.pv (.int .i64 (c:Int))),(17,.pv (.int .i64 (j:Int)))],
 [(.loc 12 0,.cells [.pv (.int .i64 x.num),.pv (.int .i64 x.pieces),.pv (.int .i64 x.limit),.pv (.bool x.passed)]),(.loc 9 0,.cells w.cells)]⟩
def opJ (L:List ByteArray)(x:Lt)(v:Int)(c:Nat)(st:Bool)(es:List Int):AS:=⟨[(140,.pv (.int .i64 0)),(23,.pv (.lst false 1 (es.map iE))),(0,.pv (.lst false 1 (L.map .str))),(12,.ptr (.loc 12 0) 0),(13,.pv (.int .u8 v)),(16,.pv (.int .i64 (c:Int))),(20,.pv (.bool st)),(21,.pv (.bool true))],
 [(.loc 12 0,.cells [.pv (.int .i64 x.num),.pv (.int .i64 x.pieces),.pv (.int .i64 x.limit),.pv (.bool x.passed)])]⟩
theorem Zhe {a i d:Nat}:(⟨#[116,101,115,116,32]⟩++decB a++⟨#[32]⟩++decB i++⟨#[32]⟩++decB d++⟨#[32,54,48,48]⟩:ByteArray)=testW a i d:=by
 apply Zbt;unfold testW;simp only[ZfJ,ZwQ];rfl
theorem Zkz {z:Int}{n:Nat}(h:0≤z)(hn:0<n):∃k:Nat,z.tmod (n:Int)=(k:Int)∧k<n:=by
 have h1:=Int.tmod_nonneg (n:Int) h;have h2:=Int.tmod_lt_of_pos z (show(0:Int)<(n:Int) by omega);exact⟨(z.tmod (n:Int)).toNat,by omega,by omega⟩
set_option maxHeartbeats 16000000 in
theorem Zvc (L:List ByteArray)(hl:L.length≤9223372036854775807)(wh it dy:Int)(ha:0≤wh∧wh≤255)(hi:0≤it∧it≤255)(hd:0≤dy∧dy≤65535):Gives Tryz.prog 6 [strsP L,.int .u8 wh,.int .u8 it,.int .u16 dy] (.bool true):=by
 have hth:=Zg1 L hl;refine cSR L6 ?_;intro R hR;have hfin:R (.pv (.bool true)) []:=by rw[←hR];exact⟨rfl,rfl⟩
 clear hR;simp[-getElem?_pos,L6];refine cG [strsP L] hth ?_;cases ht:thinB L with
 |false=>
  simp[-getElem?_pos];refine cG [] ZaA ?_;simp[-getElem?_pos];exact hfin
 |true=>
 have hl5:L.length≤55:=by
  unfold thinB at ht;rw[Zv2,decide_eq_true_eq]at ht;exact ht.2
 have hrr:=ZeC L (by omega);simp[-getElem?_pos];refine cG [strsP L] hrr ?_;cases hrt:ZaP L with
 |false=>
  simp[-getElem?_pos];refine cG [] ZaA ?_;simp[-getElem?_pos];exact hfin
 |true=>
 by_cases h49:L.length≤49
 case neg=>
  have h49':(49:Int)<(L.length:Int):=by omega
  simp[-getElem?_pos,strsP,h49'];refine cG [] ZaA ?_;simp[-getElem?_pos];exact hfin
 have h49':¬(49:Int)<(L.length:Int):=by omega
 have hF:407<408:=by decide
 have hp1:=ZdV hF L hrt;obtain⟨_,hsz⟩:=ZaG hrt;have hck:=ZaB hrt;obtain⟨iI,iJ⟩:=ZdC (l:=L) (k:=0) wk0_I wk0_J;have hplay:=fun(s:ByteArray) (hs:s.size≤200)=>Zfc hF (L++[s]) (by rw[Zv7];simp;omega)
 simp only[plyE]at hplay;have hplay':∀s:ByteArray,s.size≤200→Gives Tryz.prog 15 [strsP (L++[s])] (.tup [(doB 408 (foldD (doB 408) wk0 L).1 s).1.pv,.lst false 1 (((foldD (doB 408) wk0 L).2++[(doB 408 (foldD (doB 408) wk0 L).1 s).2]).map iE),.int .i64 0]):=fun s hs=>by
  have h:=hplay s hs;rw[if_pos (ZaB (Zfm hrt h49 hs)),Zcq]at h;exact h
 clear hplay;have hes:=Zbl (D:=doB 408) (l:=L) (st:=wk0);generalize keepD (doB 408) wk0 L=kp at hp1;generalize foldD (doB 408) wk0 L=q at hp1 iI iJ hplay' hes;obtain⟨w,es⟩:=q;dsimp only at hp1 iI iJ hplay' hes;have hcl:=iI.c;have hbl:=iI.b;have htl:=iI.t;have hll:=iI.l;simp[-getElem?_pos,strsP,h49'];refine .inl<|cQ [] [strsP L] hp1 ?_;by_cases hc0:w.lots=[]
 ·simp[-getElem?_pos,frzsL,Wk.pv,lotsP,hc0];refine cG [] ZaA ?_;simp[-getElem?_pos];exact hfin
 have hcp:0<w.lots.length:=List.length_pos_iff.2 hc0;have hcp':¬((w.lots.length:Int)=0):=by omega
 obtain⟨k,hk,hkl⟩:=Zkz ha.1 hcp;obtain⟨x,hc⟩:∃x,w.lots[k]?=some x:=⟨w.lots[k],ZvZ hkl⟩;have hgc:(w.lots.map Lt.pv)[k]?=some (.agg [.int .i64 x.num,.int .i64 x.pieces,.int .i64 x.limit,.bool x.passed]):=by rw[Zv0,hc];rfl
 have hcm:=Zv3 hc;obtain⟨hxl,_,_⟩:=iI.lt x hcm;have hxl':=hxl;unfold ltOk at hxl';obtain⟨x1,x2,x3,x4⟩:=hxl';obtain⟨n,hn⟩:∃n:Nat,(n:Int)=x.num:=⟨x.num.toNat,by omega⟩;have w1:IntKind.i64.wrap wh=wh:=wrap64 (by omega);have w2:IntKind.i64.wrap it=it:=wrap64 (by omega);have w3:IntKind.i64.wrap dy=dy:=wrap64 (by omega);have l1:¬x.num<1:=by omega
 have l2:¬99<x.num:=by omega
 have hvc:=ZkU w x (by omega) (by omega) (by omega) x3 x4 iI.fit (fun t ht=>by obtain⟨q1,q2,q3,q4,_⟩:=iI.tt t ht;exact Zex iI.bk (by omega) q2 q3 q4) (fun t _ h=>ZkE iJ.nc h);have hvm:(lvM (stM w.certs w.bad) (gdM w.certs w.bad x.limit) x.num w.tests []).1=verdL w.certs w.bad w.tests x:=Zeh;have hv4:=ZkV (S:=stM w.certs w.bad) (G:=gdM w.certs w.bad x.limit) (num:=x.num) (l:=w.tests) ZfR;unfold lvE at hvc;rw[hvm]at hvc;generalize(lvM (stM w.certs w.bad) (gdM w.certs w.bad x.limit) x.num w.tests []).2=many at hvc hv4;have hv4':¬(4:Int)<(many:Int):=by omega
 have hwp:w.pv=.agg [.lst false 7 (w.certs.map Ct.pv),bdsP w.bad,lotsP w.lots,.lst false 4 (w.tests.map Tt.pv),runsP w.runs]:=rfl;have hwc:w.cells=[.pv (.lst false 7 (w.certs.map Ct.pv)),.pv (bdsP w.bad),.pv (lotsP w.lots),.pv (.lst false 4 (w.tests.map Tt.pv)),.pv (runsP w.runs)]:=rfl;have hxp:x.pv=.agg [.int .i64 x.num,.int .i64 x.pieces,.int .i64 x.limit,.bool x.passed]:=rfl;rw[hwp,hxp]at hvc;obtain⟨i4,hi4,hi5⟩:=Zkz hi.1 (show 0<4 by decide);obtain⟨d,hd4,hd5⟩:=Zkz hd.1 (show 0<1001 by decide);have hi4:it.tmod 4=(i4:Int):=hi4;have hd4:dy.tmod 1001=(d:Int):=hd4;obtain⟨i,hii⟩:∃i:Nat,i=2+i4:=⟨_,rfl⟩;have w4:IntKind.i64.wrap (2+(i4:Int))=(i:Int):=by rw[wrap64 (by omega)];omega
 have hsc:=ZbH w (by omega) (by omega) 0 (i:Int) (d:Int) 0;rw[Zex iI.bk (by omega) (by omega) (by omega) (by omega),hwp]at hsc;have hta:=Zjb n (by omega);have hti:=Zjb i (by omega);have htd:=Zjb d (by omega);rw[hn]at hta;have hz1:=ZcC n 8 (by omega);have hz2:=ZcC i 8 (by omega);have hz3:=ZcC d 8 (by omega);have hdo:=Zs2 iI hcm hn (i:=i) (d:=d) (by omega) (by omega) (by omega);have hbz:(testW n i d).size≤200:=by
  rw[←Zhe];simp only[ByteArray.size_append];have e1:ByteArray.size ⟨#[116,101,115,116,32]⟩=5:=rfl;have e2:ByteArray.size ⟨#[32]⟩=1:=rfl;have e3:ByteArray.size ⟨#[32,54,48,48]⟩=4:=rfl;omega
 have hpb:=hplay' (testW n i d) hbz;have hel:(es++[(doB 408 w (testW n i d)).2]).length=L.length+1:=by rw[Zv7,hes];rfl
 have hge:((es++[(doB 408 w (testW n i d)).2]).map iE)[L.length]?=some (.int .i64 (doB 408 w (testW n i d)).2):=by
  rw[Zv0,List.getElem?_append_right (by omega),hes,Nat.sub_self];rfl
 generalize hEE:(doB 408 w (testW n i d)).2=E at hdo hel hge hpb;generalize(doB 408 w (testW n i d)).1=u at hpb;generalize es++[E]=es2 at hel hge hpb;clear hplay';have hll6:L.length+1≤1000000:=by omega
 have hlle:L.length<es2.length:=by omega
 have w5:IntKind.i64.wrap ((L.length:Int)+1)=(L.length:Int)+1:=wrap64 (by omega);obtain⟨sb,hsb⟩:∃sb,sb=stM w.certs w.bad i d:=⟨_,rfl⟩;have hst2:stE (if stM w.certs w.bad i d=true then 0 else 10)=.tup [.bool sb,.bool true]:=by
  rw[hsb];cases stM w.certs w.bad i d<;>rfl
 rw[hst2]at hsc;rw[←hsb]at hdo;obtain⟨V,hV⟩:∃V,V=verdL w.certs w.bad w.tests x:=⟨_,rfl⟩;rw[←hV]at hvc hdo;have hs1:(⟨#[116,101,115,116,32]⟩++decB n++⟨#[32]⟩++decB i++⟨#[32]⟩++decB d:ByteArray).size+ByteArray.size ⟨#[32,54,48,48]⟩≤9223372036854775807:=by rw[←ByteArray.size_append,Zhe];omega
 have hs0:∀{a b:ByteArray},(a++b).size≤9223372036854775807→a.size+b.size≤9223372036854775807∧a.size≤9223372036854775807:=fun h=>by rw[ByteArray.size_append]at h;omega
 obtain⟨hs2,h⟩:=hs0 (show _ from(by omega:(⟨#[116,101,115,116,32]⟩++decB n++⟨#[32]⟩++decB i++⟨#[32]⟩++decB d:ByteArray).size≤9223372036854775807));obtain⟨hs3,h⟩:=hs0 h;obtain⟨hs4,h⟩:=hs0 h;obtain⟨hs5,h⟩:=hs0 h;obtain⟨hs6,_⟩:=hs0 h;have hs7:=Zhe (a:=n) (i:=i) (d:=d);generalize decB n=an at *;generalize decB i=ai at *;generalize decB d=ad at *;generalize testW n i d=tw at *;simp[-getElem?_pos,-List.getElem?_map,frzsL,Wk.pv,lotsP,hc0,hcp',w1,hk,hkl,hgc];refine .inl<|cQ [] [_,_] hvc ?_;simp[-getElem?_pos,-List.getElem?_map,frzsL,hv4',l1,l2];refine Zae (fun m τ=>∃j:Nat,j≤w.tests.length∧m=w.tests.length-j∧τ=opS L w x it dy V (manyT (w.tests.take j) x.num) j) ⟨w.tests.length,opS L w x it dy V 0 0,Sub.mk (by simp[opS]) (by simp[opS,hwc,lotsP,ctsP,ttsP]),0,Zwb _,rfl,by simp[manyT]⟩ ?_;rintro J hJ m τ ⟨j,hj,rfl,rfl⟩;by_cases hlt:j<w.tests.length
 ·obtain⟨t,hx⟩:∃t,w.tests[j]?=some t:=⟨w.tests[j],ZvZ hlt⟩;have hg:(w.tests.map Tt.pv)[j]?=some (.agg [.int .i64 t.lot,.int .i64 t.item,.int .i64 t.day,.int .i64 t.rd]):=by rw[Zv0,hx];rfl
  have hw:=wrapK (k:=j) (by omega);have hmeas:w.tests.length-(j+1)<w.tests.length-j:=by omega
  have hround:=hJ _ _ ⟨j+1,hlt,rfl,rfl⟩;have hml:=Zl7 (ts:=w.tests.take j) (n:=x.num);rw[Zv8]at hml;have hwm:=wrapK (k:=manyT (w.tests.take j) x.num) (by omega);rw[Zhx hx]at hround;clear hJ;generalize manyT (w.tests.take j) x.num=c at *;by_cases hlo:t.lot=x.num
  ·rw[if_pos hlo]at hround;simp[-getElem?_pos,-List.getElem?_map,opS,hwc,hlt,hg,nblt,nble,hw,hwm,hlo];exact⟨_,_,hmeas,Sub.mk (by simp[opS]) (by simp[opS,hwc]),hround⟩
  ·rw[if_neg hlo]at hround;simp[-getElem?_pos,-List.getElem?_map,opS,hwc,hlt,hg,nblt,nble,hw,hlo];exact⟨_,_,hmeas,Sub.mk (by simp[opS]) (by simp[opS,hwc]),hround⟩
 have he:j=w.tests.length:=by omega
 subst he;rw[Zwm];clear hJ hlt hj;generalize manyT w.tests x.num=c at *;simp[-getElem?_pos,-List.getElem?_map,opS,hwc,w2,w3,w4,hi4,hd4];refine .inl<|cQ [] [_,_] hsc ?_;simp[-getElem?_pos,-List.getElem?_map,frzsL];refine ZbG (fun τ=>τ=opJ L x V c sb es2) ?_ ?_
 ·have hblo:=Zlt L (by omega);have hll2:L.length≤999999:=by omega
  have htkL:List.take L.length (L.map PV.str)=L.map PV.str:=Zv9 (by rw[Zv6];exact Zv5 _);simp[-getElem?_pos,-List.getElem?_map,Zal,Zan]
  repeat' apply And.intro
  all_goals
   first|refine Zbh [] (fs:=[]) (xs:=[strsP L]) (cs:=[]) (d:=121) rfl rfl hblo ?_|refine .inl<|Zbh [] (fs:=[]) (xs:=[strsP L]) (cs:=[]) (d:=121) rfl rfl hblo ?_
   rintro r B ⟨rfl,rfl⟩;refine⟨by simp,?_⟩;simp[-getElem?_pos,-List.getElem?_map,-ByteArray.size_append,frzsL,Zal,Zan,nble]
   repeat' apply And.intro
   all_goals
    first|refine cQ [] [.int .i64 x.num] hta ?_|refine .inl<|cQ [] [.int .i64 x.num] hta ?_
    simp[-getElem?_pos,-List.getElem?_map,-ByteArray.size_append,frzsL,Zal,Zan,nble,hs6,hs5]
    repeat' apply And.intro
    all_goals
     first|refine cQ [] [.int .i64 (i:Int)] hti ?_|refine .inl<|cQ [] [.int .i64 (i:Int)] hti ?_
     simp[-getElem?_pos,-List.getElem?_map,-ByteArray.size_append,frzsL,Zal,Zan,nble,hs4,hs3]
     repeat' apply And.intro
     all_goals
      first|refine cQ [] [.int .i64 (d:Int)] htd ?_|refine .inl<|cQ [] [.int .i64 (d:Int)] htd ?_
      simp[-getElem?_pos,-List.getElem?_map,-ByteArray.size_append,frzsL,Zal,Zan,hs2,hs1,hs7,nble,hll6,hll2,htkL]
      repeat' apply And.intro
      all_goals
       first|refine cP [.loc 136 0] [strsP (L++[tw])] (by simp) (by simp[strsP];try exact Zv9 (by simp)) hpb ?_|refine .inl<|cP [.loc 136 0] [strsP (L++[tw])] (by simp) (by simp[strsP];try exact Zv9 (by simp)) hpb ?_
       simp[-getElem?_pos,-List.getElem?_map,frzsL,Zal,Zan,Wk.pv];exact Sub.mk (by simp[opJ]) (by simp[opJ])
 rintro τ rfl;clear hpb hsc hvc hta hti htd hs1 hs2 hs3 hs4 hs5 hs6 hs7;cases hp:x.passed
 all_goals by_cases h3:V=3
 all_goals by_cases hc2:x.pieces≤(c:Int)
 all_goals cases sb
 all_goals
  simp[hp,h3,hc2]at hdo;subst hdo;simp[-getElem?_pos,-List.getElem?_map,opJ,hel,w5,hge,hlle,hp,h3,hc2,nblt,nble];refine cG [] ZaA ?_;simp[-getElem?_pos];exact hfin
end
section
open Go.ChangeShapes Go.WideShapes Go.ChangeAt Go.RowKit
set_option maxRecDepth 100000
theorem Zi8 (v0 v1 v2 v3:Value)(W:World){H:Type}{enc:TypeId×Value→H}{base:Nat}{sp:Nat→Bool}{hd:Bool}{d0 d1 d2 d3:DataW H}{p0 p1 p2 p3:List MemPlace}(hg:Glob W.mem W)
  (k0:Value.okWide Tryz.prog W .any base 22 v0) (h0:DataW.Trod enc Tryz.prog W 0 sp hd 22 v0 d0 p0)
  (k1:Value.okWide Tryz.prog W .any base 5 v1) (h1:DataW.Trod enc Tryz.prog W 0 sp hd 5 v1 d1 p1)
  (k2:Value.okWide Tryz.prog W .any base 5 v2) (h2:DataW.Trod enc Tryz.prog W 0 sp hd 5 v2 d2 p2)
  (k3:Value.okWide Tryz.prog W .any base 66 v3) (h3:DataW.Trod enc Tryz.prog W 0 sp hd 66 v3 d3 p3):
  Calls Tryz.prog 6 #[v0,v1,v2,v3] W fun e w'=>e=.returned (.bool true)∧Keep [] W w':=by
 obtain⟨n0,h0⟩:=h0;obtain⟨s0,w0,r0⟩:=Zgh k0 h0;obtain⟨z1,rfl,rfl,rfl,y1⟩:=open_int Tryz.underlying5 k1 h1;obtain⟨s1,w1,rfl⟩:∃s:Nat,s<256∧z1=(s:Int):=by
  have e1:IntKind.u8.min=0:=by decide
  have e2:IntKind.u8.max=255:=by decide
  have y:=ZbU y1;exact⟨z1.toNat,by omega,by omega⟩
 obtain⟨z2,rfl,rfl,rfl,y2⟩:=open_int Tryz.underlying5 k2 h2;obtain⟨s2,w2,rfl⟩:∃s:Nat,s<256∧z2=(s:Int):=by
  have e1:IntKind.u8.min=0:=by decide
  have e2:IntKind.u8.max=255:=by decide
  have y:=ZbU y2;exact⟨z2.toNat,by omega,by omega⟩
 obtain⟨z3,rfl,rfl,rfl,y3⟩:=open_int Tryz.underlying66 k3 h3;obtain⟨s3,w3,rfl⟩:∃s:Nat,s<65536∧z3=(s:Int):=by
  have e1:IntKind.u16.min=0:=by decide
  have e2:IntKind.u16.max=65535:=by decide
  have y:=ZbU y3;exact⟨z3.toNat,by omega,by omega⟩
 refine Zde (xs:=[strsP s0,.int .u8 (s1:Int),.int .u8 (s2:Int),.int .u16 (s3:Int)]) (b:=true) ((Zvc s0 w0 s1 s2 s3 ⟨by omega,by omega⟩ ⟨by omega,by omega⟩ ⟨by omega,by omega⟩).mono (fun _ _ h=>h.1)) rfl (fun j v x e1 e2=>?_) hg
 match j with
 |0=>simp at e1 e2;subst e1 e2;exact r0
 |1=>simp at e1 e2;subst e1 e2;exact .int .u8 (s1:Int)
 |2=>simp at e1 e2;subst e1 e2;exact .int .u8 (s2:Int)
 |3=>simp at e1 e2;subst e1 e2;exact .int .u16 (s3:Int)
 |j+4=>simp at e1
theorem Zg9 (os:Os)(started:os.Started)(H:Type)(enc:TypeId×Value→H):
  ReturnsInHanded {} Tryz.checked os 6 .any (fun w args=>(Rows.bookOpenSpec.pre enc Tryz.prog Tryz.f6 Rows.bookOpenRow.domain false w args∧laidMetH Tryz.prog Rows.bookOpenRow.laid w)∧sizedMet enc Tryz.prog Tryz.f6 (OpenSpec.ofChange Rows.bookOpenSpec) false w args)
   (Rows.bookOpenSpec.post enc Tryz.prog Tryz.f6 false true false false):=by
 refine ZcA (C:=Tryz.checked) (X:=fun w _=>laidMetH Tryz.prog Rows.bookOpenRow.laid w) (fun _ _ _ hh h=>h.of_heap hh) own started (by kernel_rfl) Tryz.func6
  (ChangeSpec.witness_shaped (enc:=enc) (C:=Tryz.checked) (os:=os) (X:=fun w _=>laidMetH Tryz.prog Rows.bookOpenRow.laid w) false (World.laidAll Tryz.prog os Rows.bookOpenRow.laid) #[.slice none 0 0,.int .u8 0,.int .u8 0,.int .u16 0] 8 (World.laidAll_os _ _ _)
   (World.shaped_of_ZipB (by kernel_rfl) (by kernel_rfl)) (by kernel_rfl) (by kernel_rfl) (by kernel_rfl)
   (by rw[MakeChecks.laidMetH_plain _ _ _ (by kernel_rfl)];exact laidMet_laidAll _ (by kernel_rfl) (by kernel_rfl))) ?_
 intro W base args ds gs before hval0 hW hL hsh;have hval:∀(j:Nat) t v,Tryz.f6.params[j]?=some t→args[j]?=some v→Value.okWide Tryz.prog W .any base t v:=hval0;rw[MakeChecks.laidMetH_plain _ _ _ (by kernel_rfl)]at hL;have hg:=ZgS hsh (Lib.laidMet.reads hL (by simp[Rows.bookOpenRow])) (Lib.laidMet.reads hL (by simp[Rows.bookOpenRow])) (Lib.laidMet.reads hL (by simp[Rows.bookOpenRow]));have hW':=hW;obtain⟨p,q,hA0,hV,rfl,hfz,hnd⟩:=hW;have hA:DataW.TrodAll enc Tryz.prog W 0 (fun _=>true) true Tryz.f6.params.toList args.toList ds p:=hA0;rw[Tryz.params6]at hA hval;obtain⟨v0,vs0,d0,ds0,p0,q0,hargs,rfl,rfl,h0,r0⟩:=trodAll_cons hA;obtain⟨v1,vs1,d1,ds1,p1,q1,rfl,rfl,rfl,h1,r1⟩:=trodAll_cons r0;obtain⟨v2,vs2,d2,ds2,p2,q2,rfl,rfl,rfl,h2,r2⟩:=trodAll_cons r1;obtain⟨v3,vs3,d3,ds3,p3,q3,rfl,rfl,rfl,h3,r3⟩:=trodAll_cons r2;obtain⟨rfl,rfl,rfl⟩:=trodAll_nil r3;have hargs':args=#[v0,v1,v2,v3]:=by
  apply Array.ext';exact hargs
 subst hargs';have k0:=hval 0 _ v0 rfl rfl;have k1:=hval 1 _ v1 rfl rfl;have k2:=hval 2 _ v2 rfl rfl;have k3:=hval 3 _ v3 rfl rfl;obtain⟨rfl,rfl⟩:=trodVars_none hV;refine(Zi8 v0 v1 v2 v3 W hg k0 h0 k1 h1 k2 h2 k3 h3).mono fun e W' ⟨he,hk⟩=>?_
 subst he;exact⟨_,rfl,ZeG (tb:=4) laidP Zd8 fullP (by decide +kernel) rfl rfl rfl Tryz.underlying4 hW' hk⟩
end
section
open Go.RowKit
set_option maxRecDepth 100000
theorem bK0:(Rows.bookOpenRow.wf (OpenSpec.ofChange Rows.bookOpenSpec))=true:=by kernel_rfl
theorem bK1:(laidOutB Tryz.prog)=true:=laidP
theorem bK2:(mapsRowed Tryz.prog)=true:=Zd8
theorem bK3:(Tryz.f6.params.all (Tryz.prog.readableRec ·))=true:=by kernel_rfl
theorem bK4:(namedTie Tryz.prog Rows.bookOpenRow.named Rows.bookOpenSpec.vars)=true:=by kernel_rfl
theorem bK9:((Rows.bookOpenRow.inPlace==Tryz.prog.inPlace 6))=true:=by kernel_rfl
theorem bK10:((Rows.bookOpenRow.unfollowed==Tryz.prog.unfollowed 6))=true:=by kernel_rfl
theorem bK11:((Rows.bookOpenRow.recurses==Tryz.prog.recurses 6))=true:=by kernel_rfl
theorem bK12:((Rows.bookOpenRow.named==Tryz.prog.varsNamed 6))=true:=by kernel_rfl
theorem bK22:((Rows.bookOpenRow.plainKeys==Tryz.prog.plainKeys))=true:=by kernel_rfl
theorem bK24:(Tryz.prog.stopsHeard)=true:=by kernel_rfl
theorem bK25:(Tryz.prog.mayEnter)=true:=by kernel_rfl
theorem bK26:((Rows.bookOpenRow.lifted==Tryz.prog.liftsFinal))=true:=by kernel_rfl
theorem bK27:((Tryz.prog.make==some Rows.bookOpenRow.make))=true:=by kernel_rfl
theorem ZrZ:joinedFacts Tryz.pinned.checked.prog 6 Tryz.f6 Rows.bookOpenSpec Rows.bookOpenRow=true:=
 Zb6 bK0 bK1 bK2 bK3 bK4 (by kernel_rfl) (by kernel_rfl) (by kernel_rfl) (by kernel_rfl) bK9 bK10 bK11 bK12 (by kernel_rfl) (by kernel_rfl) (by kernel_rfl) (by kernel_rfl) (by kernel_rfl) (by kernel_rfl) (by kernel_rfl) (by kernel_rfl) (by kernel_rfl) bK22 (by kernel_rfl) bK24 bK25 bK26 bK27 (by kernel_rfl) (by kernel_rfl) (by kernel_rfl) (by kernel_rfl)
end
section
open Go.ChangeShapes Go.WideShapes Go.ChangeAt Go.RowKit
set_option maxRecDepth 100000
theorem Zr0 (os:Os)(started:os.Started)(H:Type)(enc:TypeId×Value→H):ReturnsInHanded Rows.bookOpenRow.assume Tryz.pinned.checked os 6 .any (Rows.bookOpenRow.pre enc Tryz.pinned.checked.prog Tryz.f6 (OpenSpec.ofChange Rows.bookOpenSpec)) (Rows.bookOpenSpec.post enc Tryz.pinned.checked.prog Tryz.f6 Rows.bookOpenRow.apart Rows.bookOpenRow.fresh Rows.bookOpenRow.handsOn Rows.bookOpenRow.again):=Zg9 os started H enc
theorem Zjz:Rows.bookOpenRow.holds Tryz.pinned (OpenSpec.ofChange Rows.bookOpenSpec):=
 OpenClaim.holds_of_wide 6 Tryz.f6 rfl rfl rfl rfl rfl rfl rfl ⟨rfl,rfl,rfl,rfl,rfl⟩ rfl rfl rfl rfl rfl (by kernel_rfl) Tryz.func6 ZrZ
  (of_decide_eq_true (by kernel_rfl)) (by unfold Func.isWrapper;first|(rw[if_pos (by decide +kernel)];kernel_rfl)|(rw[if_neg (by decide +kernel)];exact⟨rfl,rfl⟩))
  (fun os started H enc _=>Zr0 os started H enc)
theorem bKWf:Rows.bookOpenRow.wfByText (OpenSpec.ofChange Rows.bookOpenSpec)=true:=by kernel_rfl
theorem ZvO : Tryz.pinned.checked.prog.mainIs = some (true, "2d087c6f4cca3a53560cedf75fd690d9382a23561c3a3180de98d17e69e74364".toList) := by kernel_rfl
theorem ZuA:true=Tryz.pinned.checked.prog.looks []:=by kernel_rfl
theorem bKBy:false=Rows.bookOpenRow.goesBy Tryz.pinned.checked.prog:=by kernel_rfl
theorem Zuz : Tryz.prog.funcNamed "tensile/tensilelaw12.BookOpen" = some 6 := by kernel_rfl
theorem Zuy:([22,5,5,66].all fun u=>!Tryz.prog.wantsStandIn u)=true:=by kernel_rfl
theorem cardBookOpen:Rows.BookOpenCardSaid:=
 Claim7.holds_tied_plain_at .later [] [.data, .data, .data, .data, .sentinel, .sentinel, .pinned] true (true, "2d087c6f4cca3a53560cedf75fd690d9382a23561c3a3180de98d17e69e74364") true
  Zjz (fun _ h=>by cases h) bKWf (fun _ h=>by cases h) bookOpen_row_tie rfl ⟨rfl,rfl⟩ ZvO rfl
  (fun f fn hf hfn=>by
   obtain rfl:f=6:=Option.some.inj (Zuz.symm.trans hf) |>.symm;obtain rfl:fn=Tryz.f6:=(Option.some.inj (Tryz.func6.symm.trans hfn)).symm;exact⟨ZuA,fun j t ht=>by
    rw[Tryz.params6]at ht;have hm:t∈([22,5,5,66]:List TypeId):=by simpa using Array.mem_of_getElem? ht
    exact(show Tryz.prog.wantsStandIn t=false by simpa using Zwl.1 Zuy t hm)⟩)
  bKBy
end
end Go.Proofs.YtfpmaennjlggeaaGreatDoor
