/- The registrar's book: what the statement needs, joined and shortened by program. -/
import Derived.Test.YteknmiggbkhdoaaGreatDoorProg
import Derived.Test.YteknmiggbkhdoaaGreatDoorCards
import Derived.Test.YteknmiggbkhdoaaGreatDoorTie
import Derived.SevenTiedAt
import Derived.Test.YteknmiggbkhdoaaGreatDoorP0
import Derived.Test.YteknmiggbkhdoaaGreatDoorP1
import Derived.Test.YteknmiggbkhdoaaGreatDoorP2
import Derived.Test.YteknmiggbkhdoaaGreatDoorP3
import Derived.Test.YteknmiggbkhdoaaGreatDoorP4
set_option linter.unusedSimpArgs false
set_option linter.unusedVariables false
namespace Go.Proofs.YteknmiggbkhdoaaGreatDoor
section
open Go.RowKit
set_option maxRecDepth 100000
noncomputable section
def L13:LFn :=⟨164,S [Ox 2 5 0,Ox 3 5 1,O 4 (.mov Bf)] (.seq (S [Oa 12 1 2,Ol 13 1 12,Oa 14 1 3,Ol 15 1 14,Ok 16 29 [.t 13,.t 15],Oo 17 16,Om 18 17,G 19 18 false (.fa 0 (.t 2)),G 20 18 false (.load false 1 (.t 19)),G 21 18 false (.len none (.t 20)),G 22 18 false (.fa 0 (.t 3)),G 23 18 false (.load false 1 (.t 22)),G 24 18 false (.len none (.t 23)),G 25 18 false (.bin false .neq (.t 21) (.t 24)),O 26 (.pick (.t 18) Bt (.t 25)),Om 27 26,G 28 27 false (.fa 2 (.t 2)),G 29 27 false (.load false 1 (.t 28)),G 30 27 false (.len none (.t 29)),G 31 27 false (.fa 2 (.t 3)),G 32 27 false (.load false 1 (.t 31)),G 33 27 false (.len none (.t 32)),G 34 27 false (.bin false .neq (.t 30) (.t 33)),O 35 (.pick (.t 27) Bt (.t 34)),Om 36 35,G 37 36 false (.fa 3 (.t 2)),G 38 36 false (.load false 1 (.t 37)),G 39 36 false (.len none (.t 38)),G 40 36 false (.fa 3 (.t 3)),G 41 36 false (.load false 1 (.t 40)),G 42 36 false (.len none (.t 41)),G 43 36 false (.bin false .neq (.t 39) (.t 42)),O 44 (.pick (.t 36) Bt (.t 43)),Om 45 44,G 46 45 false (.fa 4 (.t 2)),G 47 45 false (.load false 1 (.t 46)),G 48 45 false (.len none (.t 47)),G 49 45 false (.fa 4 (.t 3)),G 50 45 false (.load false 1 (.t 49)),G 51 45 false (.len none (.t 50)),G 52 45 false (.bin false .neq (.t 48) (.t 51)),O 53 (.pick (.t 45) Bt (.t 52))] (Cd 53 (S [O 4 (.mov Bf)] .ret) .skip)) (.seq (S [OM 5 0] (.block 0 (.loop (.seq (S [Om 54 5,Oa 55 0 2,Ol 56 1 55,On 57 56,Ob 58 .lss 54 57] (Ce 58 0)) (.seq (.block 1 (S [Of 61 (.fa 0 (.t 2)),Of 63 (M 5),Of 66 (.fa 0 (.t 3)),Of 68 (M 5),Of 62 (.load false 1 (.t 61)),Of 64 (.ia 7 none (.t 62) (.t 63)),Of 65 (.load true 7 (.t 64)),Of 67 (.load false 1 (.t 66)),Of 69 (.ia 7 none (.t 67) (.t 68)),Of 70 (.load true 7 (.t 69)),O 71 (.x (.eqv true ⟨true,[.int .i64,.int .i64,.int .i64,.int .i64,.int .i64,.int .i64,.int .i64]⟩ (.t 65) (.t 70)))] (Cd 71 (S [O 4 (.mov Bf)] .ret) .skip))) (.region [Om 59 5,Oc 60 .add 59 1,Om 5 60])))))) (.seq (S [OM 6 0] (.block 2 (.loop (.seq (S [Om 72 6,Oa 73 2 2,Ol 74 1 73,On 75 74,Ob 76 .lss 72 75] (Ce 76 2)) (.seq (.block 3 (S [Of 79 (.fa 2 (.t 2)),Of 81 (M 6),Of 84 (.fa 2 (.t 3)),Of 86 (M 6),Of 80 (.load false 1 (.t 79)),Of 82 (.ia 4 none (.t 80) (.t 81)),Of 83 (.load true 4 (.t 82)),Of 85 (.load false 1 (.t 84)),Of 87 (.ia 4 none (.t 85) (.t 86)),Of 88 (.load true 4 (.t 87)),O 89 (.x (.eqv true ⟨true,[.int .i64,.int .i64,.int .i64,.bool]⟩ (.t 83) (.t 88)))] (Cd 89 (S [O 4 (.mov Bf)] .ret) .skip))) (.region [Om 77 6,Oc 78 .add 77 1,Om 6 78])))))) (.seq (S [OM 7 0] (.block 4 (.loop (.seq (S [Om 90 7,Oa 91 3 2,Ol 92 1 91,On 93 92,Ob 94 .lss 90 93] (Ce 94 4)) (.seq (.block 5 (S [Of 97 (.fa 3 (.t 2)),Of 99 (M 7),Of 102 (.fa 3 (.t 3)),Of 104 (M 7),Of 98 (.load false 1 (.t 97)),Of 100 (.ia 4 none (.t 98) (.t 99)),Of 101 (.load true 4 (.t 100)),Of 103 (.load false 1 (.t 102)),Of 105 (.ia 4 none (.t 103) (.t 104)),Of 106 (.load true 4 (.t 105)),O 107 (.x (.eqv true ⟨true,[.int .i64,.int .i64,.int .i64,.int .i64]⟩ (.t 101) (.t 106)))] (Cd 107 (S [O 4 (.mov Bf)] .ret) .skip))) (.region [Om 95 7,Oc 96 .add 95 1,Om 7 96])))))) (.seq (S [OM 8 0] (.block 6 (.loop (.seq (S [Om 108 8,Oa 109 4 2,Ol 110 1 109,On 111 110,Ob 112 .lss 108 111] (Ce 112 6)) (.seq (.block 7 (.seq (.regT (.op (Of 115 (.fa 4 (.t 2))) (.op (Of 117 (M 8)) (.op (Of 120 (.fa 4 (.t 3))) (.op (Of 122 (M 8)) (.op (Of 116 (.load false 1 (.t 115))) (.op (Of 118 (.ia 3 none (.t 116) (.t 117))) (.op (Of 119 (.load true 3 (.t 118))) (.seq (.alt (Of 121 (.load false 1 (.t 120))) (.op (Of 123 (.ia 3 none (.t 121) (.t 122))) (.alt (Of 124 (.load true 3 (.t 123))) (.alt (Of 9 (.alloc (.agg [Z0,Z0,E0]))) (.alt (Of 10 (.alloc (.agg [Z0,Z0,E0]))) (.alt (Nf (.store 3 (.t 9) (.t 119))) .done .no) .no) (.alt (Of 10 (.alloc (.agg [Z0,Z0,E0]))) (.alt (Of 9 (.alloc (.agg [Z0,Z0,E0]))) (.alt (Nf (.store 3 (.t 9) (.t 119))) .done .no) .no) .no)) (.alt (Of 9 (.alloc (.agg [Z0,Z0,E0]))) (.alt (Of 124 (.load true 3 (.t 123))) (.alt (Of 10 (.alloc (.agg [Z0,Z0,E0]))) (.alt (Nf (.store 3 (.t 9) (.t 119))) .done .no) .no) (.alt (Of 10 (.alloc (.agg [Z0,Z0,E0]))) (.alt (Of 124 (.load true 3 (.t 123))) (.alt (Nf (.store 3 (.t 9) (.t 119))) .done .no) (.alt (Nf (.store 3 (.t 9) (.t 119))) (.op (Of 124 (.load true 3 (.t 123))) .done) .no)) .no)) (.alt (Of 10 (.alloc (.agg [Z0,Z0,E0]))) (.alt (Of 124 (.load true 3 (.t 123))) (.alt (Of 9 (.alloc (.agg [Z0,Z0,E0]))) (.alt (Nf (.store 3 (.t 9) (.t 119))) .done .no) .no) (.alt (Of 9 (.alloc (.agg [Z0,Z0,E0]))) (.alt (Of 124 (.load true 3 (.t 123))) (.alt (Nf (.store 3 (.t 9) (.t 119))) .done .no) (.alt (Nf (.store 3 (.t 9) (.t 119))) (.op (Of 124 (.load true 3 (.t 123))) .done) .no)) .no)) .no)))) (.alt (Of 9 (.alloc (.agg [Z0,Z0,E0]))) (.alt (Of 121 (.load false 1 (.t 120))) (.op (Of 123 (.ia 3 none (.t 121) (.t 122))) (.alt (Of 124 (.load true 3 (.t 123))) (.alt (Of 10 (.alloc (.agg [Z0,Z0,E0]))) (.alt (Nf (.store 3 (.t 9) (.t 119))) .done .no) .no) (.alt (Of 10 (.alloc (.agg [Z0,Z0,E0]))) (.alt (Of 124 (.load true 3 (.t 123))) (.alt (Nf (.store 3 (.t 9) (.t 119))) .done .no) (.alt (Nf (.store 3 (.t 9) (.t 119))) (.op (Of 124 (.load true 3 (.t 123))) .done) .no)) .no))) (.alt (Of 10 (.alloc (.agg [Z0,Z0,E0]))) (.alt (Of 121 (.load false 1 (.t 120))) (.op (Of 123 (.ia 3 none (.t 121) (.t 122))) (.alt (Of 124 (.load true 3 (.t 123))) (.alt (Nf (.store 3 (.t 9) (.t 119))) .done .no) (.alt (Nf (.store 3 (.t 9) (.t 119))) (.op (Of 124 (.load true 3 (.t 123))) .done) .no))) (.alt (Nf (.store 3 (.t 9) (.t 119))) (.op (Of 121 (.load false 1 (.t 120))) (.op (Of 123 (.ia 3 none (.t 121) (.t 122))) (.op (Of 124 (.load true 3 (.t 123))) .done))) .no)) .no)) (.alt (Of 10 (.alloc (.agg [Z0,Z0,E0]))) (.alt (Of 121 (.load false 1 (.t 120))) (.op (Of 123 (.ia 3 none (.t 121) (.t 122))) (.alt (Of 124 (.load true 3 (.t 123))) (.alt (Of 9 (.alloc (.agg [Z0,Z0,E0]))) (.alt (Nf (.store 3 (.t 9) (.t 119))) .done .no) .no) (.alt (Of 9 (.alloc (.agg [Z0,Z0,E0]))) (.alt (Of 124 (.load true 3 (.t 123))) (.alt (Nf (.store 3 (.t 9) (.t 119))) .done .no) (.alt (Nf (.store 3 (.t 9) (.t 119))) (.op (Of 124 (.load true 3 (.t 123))) .done) .no)) .no))) (.alt (Of 9 (.alloc (.agg [Z0,Z0,E0]))) (.alt (Of 121 (.load false 1 (.t 120))) (.op (Of 123 (.ia 3 none (.t 121) (.t 122))) (.alt (Of 124 (.load true 3 (.t 123))) (.alt (Nf (.store 3 (.t 9) (.t 119))) .done .no) (.alt (Nf (.store 3 (.t 9) (.t 119))) (.op (Of 124 (.load true 3 (.t 123))) .done) .no))) (.alt (Nf (.store 3 (.t 9) (.t 119))) (.op (Of 121 (.load false 1 (.t 120))) (.op (Of 123 (.ia 3 none (.t 121) (.t 122))) (.op (Of 124 (.load true 3 (.t 123))) .done))) .no)) .no)) .no))) (.alt (Ns 3 10 124) .done .no)))))))))) (.seq (S [Oa 125 0 9,Ol 126 1 125,Oa 127 0 10,Ol 128 1 127,Ob 129 .neq 126 128,Om 130 129,G 131 130 false (.fa 1 (.t 9)),G 132 130 false (.load false 1 (.t 131)),G 133 130 false (.fa 1 (.t 10)),G 134 130 false (.load false 1 (.t 133)),G 135 130 false (.bin false .neq (.t 132) (.t 134)),O 136 (.pick (.t 130) Bt (.t 135)),Om 137 136,G 138 137 false (.fa 2 (.t 9)),G 139 137 false (.load false 1 (.t 138)),G 140 137 false (.len none (.t 139)),G 141 137 false (.fa 2 (.t 10)),G 142 137 false (.load false 1 (.t 141)),G 143 137 false (.len none (.t 142)),G 144 137 false (.bin false .neq (.t 140) (.t 143)),O 145 (.pick (.t 137) Bt (.t 144))] (Cd 145 (S [O 4 (.mov Bf)] .ret) .skip)) (S [OM 11 0] (.block 8 (.loop (.seq (S [Om 146 11,Oa 147 2 9,Ol 148 1 147,On 149 148,Ob 150 .lss 146 149] (Ce 150 8)) (.seq (.block 9 (S [Of 153 (.fa 2 (.t 9)),Of 155 (M 11),Of 158 (.fa 2 (.t 10)),Of 160 (M 11),Of 154 (.load false 1 (.t 153)),Of 156 (.ia 1 none (.t 154) (.t 155)),Of 157 (.load false 1 (.t 156)),Of 159 (.load false 1 (.t 158)),Of 161 (.ia 1 none (.t 159) (.t 160)),Of 162 (.load false 1 (.t 161)),O 163 (.bin true .neq (.t 157) (.t 162))] (Cd 163 (S [O 4 (.mov Bf)] .ret) .skip))) (.region [Om 151 11,Oc 152 .add 151 1,Om 11 152]))))))))) (.region [Om 113 8,Oc 114 .add 113 1,Om 8 114])))))) (S [O 4 (.mov Bt)] .ret)))))),[.tm 4]⟩
def L14:LFn :=⟨131,S [Ox 1 5 0,O 2 (.alloc (.agg [E0,E0,E0,E0,E0]))] (S [O 12 (.bslice 3 1 []),Oa 13 1 1,Ol 14 1 13,O 15 (.app0 3 1 8 (.t 12) (.t 14)),O 16 (.build (.agg [E0,E0,E0,E0,E0]) [(1,(1,(.t 15)))]),O 3 (.alloc (.agg [E0,E0,E0,E0,E0])),Ns 5 3 16] (.seq (S [OM 4 0] (.block 0 (.loop (.seq (S [Om 17 4,Oa 18 0 1,Ol 19 1 18,On 20 19,Ob 21 .lss 17 20] (Ce 21 0)) (.seq (.block 1 (S [Oa 24 0 1,Ol 25 1 24,Om 26 4,Oi 27 7 25 26,Ot 28 7 27,O 5 (.alloc (.agg [Z0,Z0,Z0,Z0,Z0,Z0,Z0])),Ns 7 5 28] (.region [Oa 29 0 3,Ol 30 1 29,Oa 31 0 5,Ol 32 1 31,Oa 33 1 5,Ol 34 1 33,Oa 35 2 5,Ol 36 1 35,Oa 37 3 5,Ol 38 1 37,Oa 39 4 5,Ol 40 1 39,Oa 41 5 5,Oa 42 0 41,Ol 43 1 42,Oa 44 5 5,Oa 45 1 44,Ol 46 1 45,O 47 (.build (.agg [Z0,Z0]) [(0,(1,(.t 43))),(1,(1,(.t 46)))]),O 48 (.build (.agg [Z0,Z0,Z0,Z0,Z0,Z0,Z0]) [(0,(1,(.t 32))),(1,(1,(.t 34))),(2,(1,(.t 36))),(3,(1,(.t 38))),(4,(1,(.t 40))),(5,(2,(.t 47)))]),O 49 (.bslice 73 7 [.t 48]),O 50 (.app 73 7 56 (.t 30) (.t 49)),Oa 51 0 3,Ns 1 51 50]))) (.region [Om 22 4,Oc 23 .add 22 1,Om 4 23])))))) (.seq (S [OM 6 0] (.block 2 (.loop (.seq (S [Om 52 6,Oa 53 2 1,Ol 54 1 53,On 55 54,Ob 56 .lss 52 55] (Ce 56 2)) (.seq (.block 3 (S [Oa 59 2 1,Ol 60 1 59,Om 61 6,Oi 62 4 60 61,Ot 63 4 62,O 7 (.alloc (.agg [Z0,Z0,Z0,.bool false])),Ns 4 7 63] (.region [Oa 64 2 3,Ol 65 1 64,Oa 66 0 7,Ol 67 1 66,Oa 68 1 7,Ol 69 1 68,Oa 70 2 7,Ol 71 1 70,Oa 72 3 7,Ol 73 1 72,O 74 (.build (.agg [Z0,Z0,Z0,.bool false]) [(0,(1,(.t 67))),(1,(1,(.t 69))),(2,(1,(.t 71))),(3,(1,(.t 73)))]),O 75 (.bslice 75 4 [.t 74]),O 76 (.app 75 4 32 (.t 65) (.t 75)),Oa 77 2 3,Ns 1 77 76]))) (.region [Om 57 6,Oc 58 .add 57 1,Om 6 58])))))) (.seq (S [OM 8 0] (.block 4 (.loop (.seq (S [Om 78 8,Oa 79 3 1,Ol 80 1 79,On 81 80,Ob 82 .lss 78 81] (Ce 82 4)) (.seq (.block 5 (S [Oa 85 3 1,Ol 86 1 85,Om 87 8,Oi 88 4 86 87,Ot 89 4 88,O 9 (.alloc (.agg [Z0,Z0,Z0,Z0])),Ns 4 9 89] (.region [Oa 90 3 3,Ol 91 1 90,Oa 92 0 9,Ol 93 1 92,Oa 94 1 9,Ol 95 1 94,Oa 96 2 9,Ol 97 1 96,Oa 98 3 9,Ol 99 1 98,O 100 (.build (.agg [Z0,Z0,Z0,Z0]) [(0,(1,(.t 93))),(1,(1,(.t 95))),(2,(1,(.t 97))),(3,(1,(.t 99)))]),O 101 (.bslice 77 4 [.t 100]),O 102 (.app 77 4 32 (.t 91) (.t 101)),Oa 103 3 3,Ns 1 103 102]))) (.region [Om 83 8,Oc 84 .add 83 1,Om 8 84])))))) (.seq (S [OM 10 0] (.block 6 (.loop (.seq (S [Om 104 10,Oa 105 4 1,Ol 106 1 105,On 107 106,Ob 108 .lss 104 107] (Ce 108 6)) (.seq (.block 7 (S [Oa 111 4 1,Ol 112 1 111,Om 113 10,Oi 114 3 112 113,Ot 115 3 114,O 11 (.alloc (.agg [Z0,Z0,E0])),Ns 3 11 115] (.region [Of 116 (.fa 4 (.t 3)),Of 118 (.fa 0 (.t 11)),Of 120 (.fa 1 (.t 11)),Of 123 (.fa 2 (.t 11)),Of 117 (.load false 1 (.t 116)),Of 119 (.load false 1 (.t 118)),Of 121 (.load false 1 (.t 120)),Of 124 (.load false 1 (.t 123)),Of 122 (.bslice 4 1 []),Of 125 (.app0 4 1 1 (.t 122) (.t 124)),Of 126 (.build (.agg [Z0,Z0,E0]) [(0,(1,(.t 119))),(1,(1,(.t 121))),(2,(1,(.t 125)))]),Of 127 (.bslice 80 3 [.t 126]),O 128 (.app 80 3 40 (.t 117) (.t 127)),Oa 129 4 3,Ns 1 129 128]))) (.region [Om 109 10,Oc 110 .add 109 1,Om 10 110])))))) (S [Ot 130 5 3,Ns 5 2 130] .ret)))))),[.cell 2 true 5]⟩
end
end
section
open Go.RowKit
set_option maxRecDepth 100000
noncomputable section
def L3:LFn :=⟨50,S [O 2 (.mov Bf)] (.seq (S [Om 9 0,Ok 10 9 [.t 9],Oo 11 10,Om 12 11,G 13 12 false (M 0),G 14 12 false (.call (C 10) [.t 13]),G 15 12 false (.not (.t 14)),O 16 (.pick (.t 12) Bt (.t 15))] (Cd 16 (S [Ok 17 11 [],Om 2 17] .ret) .skip)) (S [Om 19 0,Ok 20 12 [.t 19],Om 18 20,Oe 21 18 0,Oe 22 18 1,Oe 23 18 2,O 3 (.alloc (.agg [E0,E0,E0,E0,E0])),Ns 5 3 21,Om 4 22,Om 5 23] (.seq (S [Om 24 5,Oo 25 24] (Cd 25 (S [O 2 (.mov Bf)] .ret) .skip)) (S [Om 27 4,Ok 28 12 [.t 27],Om 26 28,Oe 29 26 0,Oe 30 26 1,Oe 31 26 2,O 6 (.alloc (.agg [E0,E0,E0,E0,E0])),Ns 5 6 29,Om 7 30,Om 8 31] (S [Of 32 (M 8),Of 33 (M 32),Gf 34 33 true (M 7),Gf 35 33 true (.len none (.t 34)),Gf 36 33 true (M 4),Gf 37 33 true (.len none (.t 36)),Gf 38 33 true (.bin false .eql (.t 35) (.t 37)),Of 39 (.pick (.t 33) (.t 38) Bf),Of 40 (M 39),Gf 41 40 true (.load true 5 (.t 3)),Gf 43 40 true (.load true 5 (.t 6)),Gf 42 40 true (.call (C 14) [.t 41]),G 44 40 true (.call (C 14) [.t 43]),G 45 40 true (.call (C 13) [.t 42,.t 44]),O 46 (.pick (.t 40) (.t 45) Bf),Om 47 46,G 48 47 true (.call (C 11) []),O 49 (.pick (.t 47) (.t 48) Bf),Om 2 49] .ret))))),[.tm 2]⟩
end
end
section
open Go.RowKit
set_option maxRecDepth 100000
noncomputable section
def L12:LFn :=⟨47,S [O 2 (.alloc (.agg [E0,E0,E0,E0,E0])),O 3 (.mov (.c E0)),O 4 (.mov Bf)] (S [Om 11 0,Ok 12 16 [.t 11],Ok 13 25 [.t 12],Om 10 13,Oe 14 10 0,Oe 15 10 1,Oe 16 10 2,O 5 (.alloc (.agg [E0,E0,E0,E0,E0])),Ns 5 5 14,Om 6 15,Om 7 16] (.seq (S [Om 17 7,Oc 18 .neq 17 0,Om 19 18,G 20 19 false (M 6),G 21 19 false (.len none (.t 20)),G 22 19 false (M 0),G 23 19 false (.len none (.t 22)),G 24 19 false (.bin false .neq (.t 21) (.t 23)),O 25 (.pick (.t 19) Bt (.t 24))] (Cd 25 (S [Ot 26 5 5,Ns 5 2 26,O 3 (.mov (.c E0)),O 4 (.mov Bf)] .ret) .skip)) (S [O 8 (.mov (.c E0))] (.seq (S [OM 9 0] (.block 0 (.loop (.seq (S [Om 27 9,Om 28 0,On 29 28,Ob 30 .lss 27 29] (Ce 30 0)) (.seq (.block 1 (S [Om 33 6,Om 34 9,Oi 35 1 33 34,Ol 36 1 35,Oc 37 .eql 36 0] (Cd 37 (.region [Om 38 8,Om 39 0,Om 40 9,Oi 41 1 39 40,Ol 42 1 41,O 43 (.bslice 9 1 [.t 42]),O 44 (.app 9 1 16 (.t 38) (.t 43)),Om 8 44]) .skip))) (.region [Om 31 9,Oc 32 .add 31 1,Om 9 32])))))) (S [Ot 45 5 5,Om 46 8,Ns 5 2 45,Om 3 46,O 4 (.mov Bt)] .ret))))),[.cell 2 true 5,.tm 3,.tm 4]⟩
end
end
section
open Go.RowKit
set_option maxRecDepth 10000
attribute [local simp] AS.exp expG Box.ren AV.map AV.mapL Zau noRet Site.isRet Box.allS AV.allS AV.allSL retB dropL AS.adds renL outG outOk Zas inG fnOf lookA Zuq
attribute [local simp] Box.purge Site.isLoc
attribute [local simp] retFz frzL AS.frz AV.frz AV.frzL Box.frz AS.tidy AS.frzC frzsL retOk renB toLoc
theorem ZaE {L:List ByteArray}(h:ZaJ L=true):L.length≤50∧∀s∈L,s.size≤200:=by
 unfold ZaJ at h;rw[Zt7,decide_eq_true_eq,Zuo]at h;exact⟨h.2,fun s hs=>by simpa using h.1 s hs⟩
theorem ZaH {L:List ByteArray}(h:ZaJ L=true):ZaT L=0:=by
 obtain⟨h1,h2⟩:=ZaE h;have hf:fitB L=true:=by
  show L.all (fun s=>decide (s.size≤200))=true;rw[Zuo];exact fun s hs=>by simpa using h2 s hs
 unfold ZaT;rw[hf];have h3:¬50<L.length:=by omega
 simp[h3]
def Wk.cells (w:Wk):List AV:=[.pv (.lst false 7 (w.certs.map Ct.pv)),.pv (.lst false 1 (w.bad.map iP)),.pv (.lst false 4 (w.lots.map Lt.pv)),.pv (.lst false 4 (w.tests.map Tt.pv)),.pv (.lst false 3 (w.runs.map Qn.Rq.pv))]
def stK0 (w:Wk)(k:Nat):AS:=⟨[(1,.ptr (.loc 1 0) 0),(2,.ptr (.loc 2 0) 0),(3,.ptr (.loc 3 0) 0),(4,.pv (.int .i64 (k:Int)))],[(.loc 50 0,.arr 73 7 ((w.certs.take k).map Ct.pv)),(.loc 15 0,.arr 3 1 (w.bad.map iP)),(.loc 3 0,.cells [.vec (.loc 50 0) 7 0 k,.vec (.loc 15 0) 1 0 w.bad.length,.pv (.emp (some true)),.pv (.emp (some true)),.pv (.emp (some true))]),(.loc 1 0,.cells w.cells),(.loc 2 0,.cells [.pv (.emp (some true)),.pv (.emp (some true)),.pv (.emp (some true)),.pv (.emp (some true)),.pv (.emp (some true))])]⟩
def stK1 (w:Wk)(k:Nat):AS:=⟨[(1,.ptr (.loc 1 0) 0),(2,.ptr (.loc 2 0) 0),(3,.ptr (.loc 3 0) 0),(6,.pv (.int .i64 (k:Int)))],[(.loc 76 0,.arr 75 4 ((w.lots.take k).map Lt.pv)),(.loc 50 0,.arr 73 7 (w.certs.map Ct.pv)),(.loc 15 0,.arr 3 1 (w.bad.map iP)),(.loc 3 0,.cells [.vec (.loc 50 0) 7 0 w.certs.length,.vec (.loc 15 0) 1 0 w.bad.length,.vec (.loc 76 0) 4 0 k,.pv (.emp (some true)),.pv (.emp (some true))]),(.loc 1 0,.cells w.cells),(.loc 2 0,.cells [.pv (.emp (some true)),.pv (.emp (some true)),.pv (.emp (some true)),.pv (.emp (some true)),.pv (.emp (some true))])]⟩
def stK2 (w:Wk)(k:Nat):AS:=⟨[(1,.ptr (.loc 1 0) 0),(2,.ptr (.loc 2 0) 0),(3,.ptr (.loc 3 0) 0),(8,.pv (.int .i64 (k:Int)))],[(.loc 102 0,.arr 77 4 ((w.tests.take k).map Tt.pv)),(.loc 50 0,.arr 73 7 (w.certs.map Ct.pv)),(.loc 76 0,.arr 75 4 (w.lots.map Lt.pv)),(.loc 15 0,.arr 3 1 (w.bad.map iP)),(.loc 3 0,.cells [.vec (.loc 50 0) 7 0 w.certs.length,.vec (.loc 15 0) 1 0 w.bad.length,.vec (.loc 76 0) 4 0 w.lots.length,.vec (.loc 102 0) 4 0 k,.pv (.emp (some true))]),(.loc 1 0,.cells w.cells),(.loc 2 0,.cells [.pv (.emp (some true)),.pv (.emp (some true)),.pv (.emp (some true)),.pv (.emp (some true)),.pv (.emp (some true))])]⟩
def stK3 (w:Wk)(k:Nat):AS:=⟨[(1,.ptr (.loc 1 0) 0),(2,.ptr (.loc 2 0) 0),(3,.ptr (.loc 3 0) 0),(10,.pv (.int .i64 (k:Int)))],[(.loc 128 0,.arr 80 3 ((w.runs.take k).map Qn.Rq.pv)),(.loc 50 0,.arr 73 7 (w.certs.map Ct.pv)),(.loc 76 0,.arr 75 4 (w.lots.map Lt.pv)),(.loc 102 0,.arr 77 4 (w.tests.map Tt.pv)),(.loc 15 0,.arr 3 1 (w.bad.map iP)),(.loc 3 0,.cells [.vec (.loc 50 0) 7 0 w.certs.length,.vec (.loc 15 0) 1 0 w.bad.length,.vec (.loc 76 0) 4 0 w.lots.length,.vec (.loc 102 0) 4 0 w.tests.length,.vec (.loc 128 0) 3 0 k]),(.loc 1 0,.cells w.cells),(.loc 2 0,.cells [.pv (.emp (some true)),.pv (.emp (some true)),.pv (.emp (some true)),.pv (.emp (some true)),.pv (.emp (some true))])]⟩
set_option maxHeartbeats 16000000 in
theorem ZsY (w:Wk)(h1:w.certs.length≤1000)(h2:w.bad.length≤1000)(h3:w.lots.length≤1000)(h4:w.tests.length≤1000)(h5:w.runs.length≤1000)(h6:∀r∈w.runs,r.on.length≤1000):Gives Tryz.prog 14 [w.pv] w.pv:=by
 refine cFR [.loc 15 0,.loc 50 0,.loc 76 0,.loc 102 0,.loc 128 0] L14 ?_;intro R hR;have hb6:w.bad.length≤1000000:=by omega
 have hbm:List.take w.bad.length (w.bad.map iP)=w.bad.map iP:=Zub (by simp);simp[-getElem?_pos,L14,Wk.pv,ctsP,bdsP,lotsP,ttsP,runsP,nble,hb6,hbm];refine Zae (fun n τ=>∃k:Nat,k≤w.certs.length∧n=w.certs.length-k∧τ=stK0 w k) ⟨w.certs.length,stK0 w 0,Sub.trans' (Sub.mk (by simp[stK0,AS.vecC]) (by simp[stK0,AS.vecC,Wk.cells])) (vecC 50 73 7 (s:=.loc 3 0) (cs:=[.pv (.emp (some true)),.vec (.loc 15 0) 1 0 w.bad.length,.pv (.emp (some true)),.pv (.emp (some true)),.pv (.emp (some true))]) 0 rfl rfl (by decide)),0,by omega,rfl,rfl⟩ ?_;rintro J hJ n τ ⟨k,hk,rfl,rfl⟩;by_cases hlt:k<w.certs.length
 ·obtain⟨x,hx⟩:∃x,w.certs[k]?=some x:=⟨w.certs[k],Zt3 hlt⟩;have hg:(w.certs.map Ct.pv)[k]?=some (.agg [.int .i64 x.num,.int .i64 x.it,.int .i64 x.src,.int .i64 x.day,.int .i64 x.valid,.int .i64 x.diff.lo,.int .i64 x.diff.hi]):=by rw[Zt4,hx];rfl
  have hw:=wrapK (k:=k) (by omega);have hround:=hJ _ _ ⟨k+1,hlt,rfl,rfl⟩;have htk:(w.certs.take (k+1)).map Ct.pv=(w.certs.take k).map Ct.pv++[.agg [.int .i64 x.num,.int .i64 x.it,.int .i64 x.src,.int .i64 x.day,.int .i64 x.valid,.int .i64 x.diff.lo,.int .i64 x.diff.hi]]:=by rw[Zuf,hx,Zuw];rfl
  have hk6:k+1≤1000000:=by omega
  have htl:((w.certs.take k).map Ct.pv).length=k:=by rw[Zuc,Zt6];omega
  have hmeas:w.certs.length-(k+1)<w.certs.length-k:=by omega
  clear hJ;generalize hTL:(w.certs.take k).map Ct.pv=TL at *;simp[-getElem?_pos,-List.getElem?_map,-decide_eq_true_eq,stK0,Wk.cells,hlt,hg,nble,nblt,hw,hk6,hTL,htl];refine⟨_,_,hmeas,Sub.mk ?_ ?_,hround⟩
  ·simp[stK0]
  ·simp[stK0,Wk.cells,-List.map_take,-List.take_succ_cons,htk,hTL]
 have he:k=w.certs.length:=by omega
 subst he;clear hJ hlt hk;simp[-getElem?_pos,-List.getElem?_map,-decide_eq_true_eq,stK0,Wk.cells];refine Zae (fun n τ=>∃k:Nat,k≤w.lots.length∧n=w.lots.length-k∧τ=stK1 w k) ⟨w.lots.length,stK1 w 0,Sub.trans' (Sub.mk (by simp[stK1,AS.vecC]) (by simp[stK1,AS.vecC,Wk.cells])) (vecC 76 75 4 (s:=.loc 3 0) (cs:=[.vec (.loc 50 0) 7 0 w.certs.length,.vec (.loc 15 0) 1 0 w.bad.length,.pv (.emp (some true)),.pv (.emp (some true)),.pv (.emp (some true))]) 2 rfl rfl (by decide)),0,by omega,rfl,rfl⟩ ?_;rintro J hJ n τ ⟨k,hk,rfl,rfl⟩;by_cases hlt:k<w.lots.length
 ·obtain⟨x,hx⟩:∃x,w.lots[k]?=some x:=⟨w.lots[k],Zt3 hlt⟩;have hg:(w.lots.map Lt.pv)[k]?=some (.agg [.int .i64 x.num,.int .i64 x.pieces,.int .i64 x.limit,.bool x.passed]):=by rw[Zt4,hx];rfl
  have hw:=wrapK (k:=k) (by omega);have hround:=hJ _ _ ⟨k+1,hlt,rfl,rfl⟩;have htk:(w.lots.take (k+1)).map Lt.pv=(w.lots.take k).map Lt.pv++[.agg [.int .i64 x.num,.int .i64 x.pieces,.int .i64 x.limit,.bool x.passed]]:=by rw[Zuf,hx,Zuw];rfl
  have hk6:k+1≤1000000:=by omega
  have htl:((w.lots.take k).map Lt.pv).length=k:=by rw[Zuc,Zt6];omega
  have hmeas:w.lots.length-(k+1)<w.lots.length-k:=by omega
  clear hJ;generalize hTL:(w.lots.take k).map Lt.pv=TL at *;simp[-getElem?_pos,-List.getElem?_map,-decide_eq_true_eq,stK1,Wk.cells,hlt,hg,nble,nblt,hw,hk6,hTL,htl];refine⟨_,_,hmeas,Sub.mk ?_ ?_,hround⟩
  ·simp[stK1]
  ·simp[stK1,Wk.cells,-List.map_take,-List.take_succ_cons,htk,hTL]
 have he:k=w.lots.length:=by omega
 subst he;clear hJ hlt hk;simp[-getElem?_pos,-List.getElem?_map,-decide_eq_true_eq,stK1,Wk.cells];refine Zae (fun n τ=>∃k:Nat,k≤w.tests.length∧n=w.tests.length-k∧τ=stK2 w k) ⟨w.tests.length,stK2 w 0,Sub.trans' (Sub.mk (by simp[stK2,AS.vecC]) (by simp[stK2,AS.vecC,Wk.cells])) (vecC 102 77 4 (s:=.loc 3 0) (cs:=[.vec (.loc 50 0) 7 0 w.certs.length,.vec (.loc 15 0) 1 0 w.bad.length,.vec (.loc 76 0) 4 0 w.lots.length,.pv (.emp (some true)),.pv (.emp (some true))]) 3 rfl rfl (by decide)),0,by omega,rfl,rfl⟩ ?_;rintro J hJ n τ ⟨k,hk,rfl,rfl⟩;by_cases hlt:k<w.tests.length
 ·obtain⟨x,hx⟩:∃x,w.tests[k]?=some x:=⟨w.tests[k],Zt3 hlt⟩;have hg:(w.tests.map Tt.pv)[k]?=some (.agg [.int .i64 x.lot,.int .i64 x.item,.int .i64 x.day,.int .i64 x.rd]):=by rw[Zt4,hx];rfl
  have hw:=wrapK (k:=k) (by omega);have hround:=hJ _ _ ⟨k+1,hlt,rfl,rfl⟩;have htk:(w.tests.take (k+1)).map Tt.pv=(w.tests.take k).map Tt.pv++[.agg [.int .i64 x.lot,.int .i64 x.item,.int .i64 x.day,.int .i64 x.rd]]:=by rw[Zuf,hx,Zuw];rfl
  have hk6:k+1≤1000000:=by omega
  have htl:((w.tests.take k).map Tt.pv).length=k:=by rw[Zuc,Zt6];omega
  have hmeas:w.tests.length-(k+1)<w.tests.length-k:=by omega
  clear hJ;generalize hTL:(w.tests.take k).map Tt.pv=TL at *;simp[-getElem?_pos,-List.getElem?_map,-decide_eq_true_eq,stK2,Wk.cells,hlt,hg,nble,nblt,hw,hk6,hTL,htl];refine⟨_,_,hmeas,Sub.mk ?_ ?_,hround⟩
  ·simp[stK2]
  ·simp[stK2,Wk.cells,-List.map_take,-List.take_succ_cons,htk,hTL]
 have he:k=w.tests.length:=by omega
 subst he;clear hJ hlt hk;simp[-getElem?_pos,-List.getElem?_map,-decide_eq_true_eq,stK2,Wk.cells];refine Zae (fun n τ=>∃k:Nat,k≤w.runs.length∧n=w.runs.length-k∧τ=stK3 w k) ⟨w.runs.length,stK3 w 0,Sub.trans' (Sub.mk (by simp[stK3,AS.vecC]) (by simp[stK3,AS.vecC,Wk.cells])) (vecC 128 80 3 (s:=.loc 3 0) (cs:=[.vec (.loc 50 0) 7 0 w.certs.length,.vec (.loc 15 0) 1 0 w.bad.length,.vec (.loc 76 0) 4 0 w.lots.length,.vec (.loc 102 0) 4 0 w.tests.length,.pv (.emp (some true))]) 4 rfl rfl (by decide)),0,by omega,rfl,rfl⟩ ?_;rintro J hJ n τ ⟨k,hk,rfl,rfl⟩;by_cases hlt:k<w.runs.length
 ·obtain⟨x,hx⟩:∃x,w.runs[k]?=some x:=⟨w.runs[k],Zt3 hlt⟩;have hg:(w.runs.map Qn.Rq.pv)[k]?=some (.agg [.int .i64 x.hours,.int .i64 x.ready,.lst false 1 (x.on.map PV.bool)]):=by rw[Zt4,hx];rfl
  have hw:=wrapK (k:=k) (by omega);have hro:=h6 x (Zua hx);have hon:x.on.length≤1000000:=by omega
  have hol:(x.on.map PV.bool).take x.on.length=x.on.map PV.bool:=Zub (by simp);have hround:=hJ _ _ ⟨k+1,hlt,rfl,rfl⟩;have htk:(w.runs.take (k+1)).map Qn.Rq.pv=(w.runs.take k).map Qn.Rq.pv++[.agg [.int .i64 x.hours,.int .i64 x.ready,.lst false 1 (x.on.map PV.bool)]]:=by rw[Zuf,hx,Zuw];rfl
  have hk6:k+1≤1000000:=by omega
  have htl:((w.runs.take k).map Qn.Rq.pv).length=k:=by rw[Zuc,Zt6];omega
  have hmeas:w.runs.length-(k+1)<w.runs.length-k:=by omega
  clear hJ;generalize hTL:(w.runs.take k).map Qn.Rq.pv=TL at *;simp[-getElem?_pos,-List.getElem?_map,-decide_eq_true_eq,stK3,Wk.cells,hlt,hg,nble,nblt,hw,hk6,hTL,htl,hon,hol];refine⟨_,_,hmeas,Sub.mk ?_ ?_,hround⟩
  ·simp[stK3]
  ·simp[stK3,Wk.cells,-List.map_take,-List.take_succ_cons,htk,hTL]
 have he:k=w.runs.length:=by omega
 subst he;clear hJ hlt hk;have hm0:(w.certs.map Ct.pv).take w.certs.length=w.certs.map Ct.pv:=Zub (by simp);have hm2:(w.lots.map Lt.pv).take w.lots.length=w.lots.map Lt.pv:=Zub (by simp);have hm3:(w.tests.map Tt.pv).take w.tests.length=w.tests.map Tt.pv:=Zub (by simp);have hm4:(w.runs.map Qn.Rq.pv).take w.runs.length=w.runs.map Qn.Rq.pv:=Zub (by simp);simp[-getElem?_pos,-List.getElem?_map,-List.map_take,-decide_eq_true_eq,stK3,Wk.cells,Zus,hm0,hm2,hm3,hm4,hbm];rw[←hR];simp[-List.map_take,Wk.pv,ctsP,bdsP,lotsP,ttsP,runsP,hm0,hm2,hm3,hm4,hbm]
def saS (w:Wk)(i k:Nat):AS:=⟨[(2,.ptr (.loc 2 0) 0),(3,.ptr (.loc 3 0) 0),(i,.pv (.int .i64 (k:Int)))],[(.loc 2 0,.cells w.cells),(.loc 3 0,.cells w.cells)]⟩
def rqC (r:Qn.Rq):List AV:=[.pv (.int .i64 r.hours),.pv (.int .i64 r.ready),.pv (.lst false 1 (r.on.map PV.bool))]
def saJ (w:Wk)(k:Nat)(r:Qn.Rq):AS:=⟨(9,.ptr (.loc 9 0) 0)::(10,.ptr (.loc 10 0) 0)::(124,.pv r.pv)::(saS w 8 k).tm,(.loc 9 0,.cells (rqC r))::(.loc 10 0,.cells [.pv (.int .i64 0),.pv (.int .i64 0),.pv (.emp (some true))])::(saS w 8 k).bx⟩
def saI (w:Wk)(k:Nat)(r:Qn.Rq)(i:Nat):AS:=⟨(9,.ptr (.loc 9 0) 0)::(10,.ptr (.loc 10 0) 0)::(11,.pv (.int .i64 (i:Int)))::(saS w 8 k).tm,(.loc 9 0,.cells (rqC r))::(.loc 10 0,.cells (rqC r))::(saS w 8 k).bx⟩
set_option maxHeartbeats 16000000 in
theorem Zs6 (w:Wk)(h1:w.certs.length≤1000)(h2:w.bad.length≤1000)(h3:w.lots.length≤1000)(h4:w.tests.length≤1000)(h5:w.runs.length≤1000)(h6:∀r∈w.runs,r.on.length≤1000):Gives Tryz.prog 13 [w.pv,w.pv] (.bool true):=by
 have hbi:=ZnQ w.bad w.bad (by omega);refine cSR L13 ?_;intro R hR;simp[-getElem?_pos,L13,Wk.pv,ctsP,bdsP,lotsP,ttsP,runsP];refine cG [.lst false 1 (w.bad.map iP),.lst false 1 (w.bad.map iP)] hbi ?_;simp[-getElem?_pos];refine Zae (fun n τ=>∃k:Nat,k≤w.certs.length∧n=w.certs.length-k∧τ=saS w 5 k) ⟨w.certs.length,saS w 5 0,Sub.mk (by simp[saS]) (by simp[saS,Wk.cells]),0,Zud _,rfl,rfl⟩ ?_;rintro J hJ n τ ⟨k,hk,rfl,rfl⟩;by_cases hlt:k<w.certs.length
 ·obtain⟨x,hx⟩:∃x,w.certs[k]?=some x:=⟨w.certs[k],Zt3 hlt⟩;have hg:(w.certs.map Ct.pv)[k]?=some (.agg [.int .i64 x.num,.int .i64 x.it,.int .i64 x.src,.int .i64 x.day,.int .i64 x.valid,.int .i64 x.diff.lo,.int .i64 x.diff.hi]):=by rw[Zt4,hx];rfl
  have hw:=wrapK (k:=k) (by omega);have hround:=hJ _ _ ⟨k+1,hlt,rfl,rfl⟩;have hmeas:w.certs.length-(k+1)<w.certs.length-k:=by omega
  clear hJ;simp[-getElem?_pos,-List.getElem?_map,saS,Wk.cells,hlt,hg,hw];refine⟨_,_,hmeas,Sub.mk ?_ ?_,hround⟩
  ·simp[saS]
  ·simp[saS,Wk.cells]
 have he:k=w.certs.length:=by omega
 subst he;clear hJ hlt hk;simp[-getElem?_pos,-List.getElem?_map,saS,Wk.cells];refine Zae (fun n τ=>∃k:Nat,k≤w.lots.length∧n=w.lots.length-k∧τ=saS w 6 k) ⟨w.lots.length,saS w 6 0,Sub.mk (by simp[saS]) (by simp[saS,Wk.cells]),0,Zud _,rfl,rfl⟩ ?_;rintro J hJ n τ ⟨k,hk,rfl,rfl⟩;by_cases hlt:k<w.lots.length
 ·obtain⟨x,hx⟩:∃x,w.lots[k]?=some x:=⟨w.lots[k],Zt3 hlt⟩;have hg:(w.lots.map Lt.pv)[k]?=some (.agg [.int .i64 x.num,.int .i64 x.pieces,.int .i64 x.limit,.bool x.passed]):=by rw[Zt4,hx];rfl
  have hw:=wrapK (k:=k) (by omega);have hround:=hJ _ _ ⟨k+1,hlt,rfl,rfl⟩;have hmeas:w.lots.length-(k+1)<w.lots.length-k:=by omega
  clear hJ;simp[-getElem?_pos,-List.getElem?_map,saS,Wk.cells,hlt,hg,hw];refine⟨_,_,hmeas,Sub.mk ?_ ?_,hround⟩
  ·simp[saS]
  ·simp[saS,Wk.cells]
 have he:k=w.lots.length:=by omega
 subst he;clear hJ hlt hk;simp[-getElem?_pos,-List.getElem?_map,saS,Wk.cells];refine Zae (fun n τ=>∃k:Nat,k≤w.tests.length∧n=w.tests.length-k∧τ=saS w 7 k) ⟨w.tests.length,saS w 7 0,Sub.mk (by simp[saS]) (by simp[saS,Wk.cells]),0,Zud _,rfl,rfl⟩ ?_;rintro J hJ n τ ⟨k,hk,rfl,rfl⟩;by_cases hlt:k<w.tests.length
 ·obtain⟨x,hx⟩:∃x,w.tests[k]?=some x:=⟨w.tests[k],Zt3 hlt⟩;have hg:(w.tests.map Tt.pv)[k]?=some (.agg [.int .i64 x.lot,.int .i64 x.item,.int .i64 x.day,.int .i64 x.rd]):=by rw[Zt4,hx];rfl
  have hw:=wrapK (k:=k) (by omega);have hround:=hJ _ _ ⟨k+1,hlt,rfl,rfl⟩;have hmeas:w.tests.length-(k+1)<w.tests.length-k:=by omega
  clear hJ;simp[-getElem?_pos,-List.getElem?_map,saS,Wk.cells,hlt,hg,hw];refine⟨_,_,hmeas,Sub.mk ?_ ?_,hround⟩
  ·simp[saS]
  ·simp[saS,Wk.cells]
 have he:k=w.tests.length:=by omega
 subst he;clear hJ hlt hk;simp[-getElem?_pos,-List.getElem?_map,saS,Wk.cells];refine Zae (fun n τ=>∃k:Nat,k≤w.runs.length∧n=w.runs.length-k∧τ=saS w 8 k) ⟨w.runs.length,saS w 8 0,Sub.mk (by simp[saS]) (by simp[saS,Wk.cells]),0,Zud _,rfl,rfl⟩ ?_;rintro J hJ n τ ⟨k,hk,rfl,rfl⟩;by_cases hlt:k<w.runs.length
 ·obtain⟨r,hr⟩:∃r,w.runs[k]?=some r:=⟨w.runs[k],Zt3 hlt⟩;have hrl:=h6 r (Zua hr);have hg:(w.runs.map Qn.Rq.pv)[k]?=some (.agg [.int .i64 r.hours,.int .i64 r.ready,.lst false 1 (r.on.map PV.bool)]):=by rw[Zt4,hr];rfl
  have hw:=wrapK (k:=k) (by omega);have hround:=hJ _ _ ⟨k+1,hlt,rfl,rfl⟩;have hmeas:w.runs.length-(k+1)<w.runs.length-k:=by omega
  clear hJ;simp[-getElem?_pos,-List.getElem?_map,-decide_eq_true_eq,saS,Wk.cells,hlt,hg];refine Zdx (saJ w k r) ?_ ?_
  ·simp[-getElem?_pos,-List.getElem?_map,-decide_eq_true_eq,Zaf,Zaj,hg]
   repeat' (with_reducible refine And.intro ?_ ?_)
   all_goals
    refine Sub.mk ?_ ?_
    ·simp[saJ,saS,Qn.Rq.pv,Qn.onP]
    ·simp[saJ,saS,rqC,Qn.onP,Wk.cells]
  ·simp[-getElem?_pos,-List.getElem?_map,Zaf,Zaj,saJ,saS,Qn.Rq.pv,rqC,Wk.cells,Qn.onP];refine Zae (fun n τ=>∃i:Nat,i≤r.on.length∧n=r.on.length-i∧τ=saI w k r i) ⟨r.on.length,saI w k r 0,Sub.mk (by simp[saS,saI]) (by simp[saS,saI,rqC,Wk.cells,Qn.onP]),0,Zud _,rfl,rfl⟩ ?_;rintro J hJ n τ ⟨i,hi,rfl,rfl⟩;by_cases hlt2:i<r.on.length
   ·obtain⟨x,hx⟩:∃x,r.on[i]?=some x:=⟨r.on[i],Zt3 hlt2⟩;have hgx:(r.on.map PV.bool)[i]?=some (.bool x):=by rw[Zt4,hx];rfl
    have hwi:=wrapK (k:=i) (by omega);have hround2:=hJ _ _ ⟨i+1,hlt2,rfl,rfl⟩;have hmeas2:r.on.length-(i+1)<r.on.length-i:=by omega
    clear hJ;simp[-getElem?_pos,-List.getElem?_map,-decide_eq_true_eq,saS,saI,rqC,Qn.onP,Wk.cells,hgx,hlt2,hwi];refine⟨_,_,hmeas2,Sub.mk ?_ ?_,hround2⟩
    ·simp[saS,saI]
    ·simp[saS,saI,rqC,Qn.onP,Wk.cells]
   ·have he:i=r.on.length:=by omega
    subst he;clear hJ;simp[-getElem?_pos,-List.getElem?_map,-decide_eq_true_eq,saS,saI,rqC,Qn.onP,Wk.cells,hw];refine⟨_,_,hmeas,Sub.mk ?_ ?_,hround⟩
    ·simp[saS]
    ·simp[saS,Wk.cells]
 ·have he:k=w.runs.length:=by omega
  subst he;clear hJ;simp[-getElem?_pos,-List.getElem?_map,-decide_eq_true_eq,saS,Wk.cells];rw[←hR];simp
section
variable {D:Wk→ByteArray→Wk×Int}
theorem Zco {s:ByteArray}:∀{l:List ByteArray} {st:Wk},keepD D st (l++[s])=keepD D st l++if(D (foldD D st l).1 s).2=0 then[s]else[]
 |[],st=>by
  by_cases h:(D st s).2=0
  ·simp[keepD,foldD,h]
  ·simp[keepD,foldD,h]
 |x::l,st=>by
  simp only[ZuR,keepD,foldD];rw[Zco (l:=l)];by_cases h2:(D (foldD D (D st x).1 l).1 s).2=0<;>by_cases h1:(D st x).2=0<;>simp[h1,h2]
theorem Zb6 {s:ByteArray}:∀{l:List ByteArray} {st:Wk},s∈keepD D st l→s∈l
 |[],_,h=>by simp[keepD]at h
 |x::l,st,h=>by
  unfold keepD at h;split at h
  ·rcases Zul.1 h with rfl|h
   ·exact List.mem_cons_self ..
   ·exact List.mem_cons_of_mem _ (Zb6 h)
  ·exact List.mem_cons_of_mem _ (Zb6 h)
theorem Zbc:∀{l:List ByteArray} {st:Wk},(keepD D st l).length≤l.length
 |[],_=>Zue _
 |x::l,st=>by
  unfold keepD;split
  ·exact Nat.succ_le_succ Zbc
  ·exact Nat.le_succ_of_le Zbc
def Still (D:Wk→ByteArray→Wk×Int):Prop:=∀st s,(D st s).2≠0→(D st s).1=st
theorem Ze9 {st:Wk}(r:Except Int Wk)(h:(st.next r).2≠0):(st.next r).1=st:=by
 cases r with
 |ok w=>exact absurd rfl h
 |error e=>rfl
theorem ZeS {F:Nat}:Still (doB F):=fun st s h=>Ze9 _ h
theorem Zfj (h:Still D):∀{l:List ByteArray} {st:Wk},foldD D st (keepD D st l)=((foldD D st l).1,List.replicate (keepD D st l).length 0)
 |[],st=>rfl
 |x::l,st=>by
  by_cases hx:(D st x).2=0
  ·simp only[keepD,foldD,if_pos hx];rw[Zfj h (l:=l),hx];rfl
  ·simp only[keepD,foldD,if_neg hx];rw[h st x hx,Zfj h (l:=l)]
theorem ZbU (h:Still D):∀{l:List ByteArray} {st:Wk},keepD D st (keepD D st l)=keepD D st l
 |[],st=>rfl
 |x::l,st=>by
  by_cases hx:(D st x).2=0
  ·simp only[keepD,if_pos hx];rw[ZbU h (l:=l)]
  ·simp only[keepD,if_neg hx];rw[h st x hx,ZbU h (l:=l)]
theorem ZdA {s:ByteArray}:∀{L:List ByteArray} {st:Wk} {k:Nat},L[k]?=some s→(foldD D st L).2[k]?=some (D (foldD D st (L.take k)).1 s).2
 |[],_,k,h=>by simp at h
 |x::L,st,0,h=>by
  simp only[List.getElem?_cons_zero,Option.some.injEq]at h;subst h;rfl
 |x::L,st,k+1,h=>by
  simp only[ZuY]at h;simp only[foldD,List.take_succ_cons,ZuY];exact ZdA h
end
def emp5:List AV:=[.pv (.emp (some true)),.pv (.emp (some true)),.pv (.emp (some true)),.pv (.emp (some true)),.pv (.emp (some true))]
def pdS (L:List ByteArray)(w:Wk)(es:List Int)(kp:List ByteArray)(k:Nat):AS:=
 ⟨[(0,.pv (.lst false 1 (L.map .str))),(2,.ptr (.loc 2 0) 0),(5,.ptr (.loc 5 0) 0),(6,.pv (.lst false 1 (es.map iE))),(8,.vec (.loc 44 0) 1 0 kp.length),(9,.pv (.int .i64 (k:Int)))],
  [(.loc 44 0,.arr 9 1 (kp.map .str)),(.loc 2 0,.cells emp5),(.loc 5 0,.cells w.cells)]⟩
set_option maxHeartbeats 4000000 in
theorem ZfI {F:Nat}(hF:407<F)(L:List ByteArray)(hr:ZaJ L=true):Gives Tryz.prog 12 [strsP L] (.tup [(foldD (doB F) wk0 L).1.pv,strsP (keepD (doB F) wk0 L),.bool true]):=by
 obtain⟨hl0,hs0⟩:=ZaE hr;have hck:=ZaH hr;have hbi:=ZdK L (by omega);have hpl:=Zn9 hF L (by omega);unfold plyE at hpl;rw[if_pos hck]at hpl;have hfl:=Zde (D:=doB F) (l:=L) (st:=wk0);have hget:=fun k s (h:L[k]?=some s)=>ZdA (D:=doB F) (st:=wk0) h
 have hkp:=fun k s=>Zco (D:=doB F) (s:=s) (l:=L.take k) (st:=wk0)
 have hkl:=fun k=>Zup (Zbc (D:=doB F) (l:=L.take k) (st:=wk0)) (show(L.take k).length≤50 by rw[Zt6];omega)
 refine cFR [.loc 44 0] L12 ?_;intro R hR;generalize hD:doB F=D at hpl hfl hget hkp hkl hR;obtain⟨K,hK⟩:∃K:Nat→List ByteArray,K=fun k=>keepD D wk0 (L.take k):=⟨_,rfl⟩
 have hK0:K 0=[]:=by rw[hK];rfl
 have hKL:K L.length=keepD D wk0 L:=by rw[hK];show keepD D wk0 (L.take L.length)=_;rw[Zus]
 have hKs:∀k s,L[k]?=some s→∃e,(foldD D wk0 L).2[k]?=some e∧K (k+1)=K k++(if e=0 then[s]else[]):=fun k s hx=>by
  refine⟨_,hget k s hx,?_⟩;rw[hK];show keepD D wk0 (L.take (k+1))=_;rw[Zuf,hx];exact hkp k s
 have hKl:∀k,(K k).length≤50:=fun k=>by rw[hK];exact hkl k
 rw[←hKL]at hR;clear hK hkp hkl hget;generalize foldD D wk0 L=q at hpl hfl hKs hR;obtain⟨w,es⟩:=q;dsimp only at hpl hfl hKs hR;simp[-getElem?_pos,L12];refine .inl (cQ [] [strsP L] hbi ?_);simp[-getElem?_pos];refine .inl (cQ [] [strsP L] hpl ?_);simp[-getElem?_pos,Wk.pv,ctsP,bdsP,lotsP,ttsP,runsP,strsP,hfl];refine Zae (fun m τ=>∃k:Nat,k≤L.length∧m=L.length-k∧τ=pdS L w es (K k) k) ⟨L.length,pdS L w es (K 0) 0,Sub.trans' (Sub.mk (by simp[pdS,hK0,AS.vecT]) (by simp[pdS,hK0,AS.vecT,emp5,Wk.cells])) (vecT 44 9 1 8 rfl (by decide)),0,Zud _,rfl,rfl⟩ ?_;rintro J hJ m τ ⟨k,hk,rfl,rfl⟩;by_cases hlt:k<L.length
 ·obtain⟨s,hx⟩:∃s,L[k]?=some s:=⟨L[k],Zt3 hlt⟩;have hg:(L.map PV.str)[k]?=some (.str s):=by rw[Zt4,hx];rfl
  obtain⟨e,he,hks⟩:=hKs k s hx;have hge:(es.map iE)[k]?=some (.int .i64 e):=by rw[Zt4,he];rfl
  have hw:=wrapK (k:=k) (by omega);have hn:=hJ _ _ ⟨k+1,hlt,rfl,rfl⟩;have hmeas:L.length-(k+1)<L.length-k:=by omega
  have hk5:=hKl k;have hlt2:k<es.length:=by omega
  rw[hks]at hn;clear hJ hKs;generalize K k=kp at hn hk5 ⊢;have hk6:kp.length+1≤1000000:=by omega
  by_cases h0:e=0
  ·rw[if_pos h0]at hn;subst h0;simp[-getElem?_pos,-List.getElem?_map,pdS,hlt,hlt2,hg,hge,nblt,nble,hk6,hw,Wk.cells,emp5];exact⟨_,_,hmeas,Sub.mk (by simp[pdS]) (by simp[pdS,Wk.cells,emp5]),hn⟩
  ·rw[if_neg h0,Zut]at hn;simp[-getElem?_pos,-List.getElem?_map,pdS,hlt,hlt2,hg,hge,nblt,nble,h0,hw,Wk.cells,emp5];exact⟨_,_,hmeas,Sub.mk (by simp[pdS]) (by simp[pdS,Wk.cells,emp5]),hn⟩
 ·have he:k=L.length:=by omega
  subst he;have hm:List.take (K L.length).length ((K L.length).map PV.str)=(K L.length).map PV.str:=Zub (by simp);simp[-getElem?_pos,-List.map_take,pdS,Wk.cells,emp5,hm];rw[←hR];exact⟨by simp[Wk.pv,ctsP,bdsP,lotsP,ttsP,runsP,strsP],by simp⟩
end
section
open Go.RowKit
set_option maxRecDepth 10000
attribute [local simp] AS.exp expG Box.ren AV.map AV.mapL Zau noRet Site.isRet Box.allS AV.allS AV.allSL retB dropL AS.adds renL outG outOk Zas inG fnOf lookA Zuq
attribute [local simp] Box.purge Site.isLoc
attribute [local simp] retFz frzL AS.frz AV.frz AV.frzL Box.frz AS.tidy AS.frzC frzsL retOk renB toLoc
theorem Zeh {D:Wk→ByteArray→Wk×Int}{L:List ByteArray}{st:Wk}(h:ZaJ L=true):ZaJ (keepD D st L)=true:=by
 obtain⟨h1,h2⟩:=ZaE h;unfold ZaJ;rw[Zt7,decide_eq_true_eq,Zuo];exact⟨fun s hs=>by simpa using h2 s (Zb6 hs),Zup Zbc h1⟩
theorem Zse {F:Nat}(hF:407<F){L:List ByteArray}(h:ZaJ L=true):WkOk (foldD (doB F) wk0 L).1:=by
 obtain⟨h1,h2⟩:=ZaE h;exact Zka _ _ (by omega) (ZbG (ZdZ hF) (l:=L) (k:=0) (by omega) wk0_I h2)
set_option maxHeartbeats 4000000 in
theorem Zmp (L:List ByteArray)(hl:L.length≤9223372036854775807):Gives Tryz.prog 3 [strsP L] (.bool true):=by
 have hth:=ZgH L hl;refine cSR L3 ?_;intro R hR;simp[-getElem?_pos,L3];refine cG [strsP L] hth ?_;cases ht:thinB L with
 |false=>
  simp[-getElem?_pos];refine cG [] Zbf ?_;simp[-getElem?_pos];rw[←hR];exact⟨rfl,by simp⟩
 |true=>
 have hl5:L.length≤55:=by
  unfold thinB at ht;rw[Zt7,decide_eq_true_eq]at ht;exact ht.2
 have hrr:=Zes L (by omega);simp[-getElem?_pos];refine cG [strsP L] hrr ?_;cases hrt:ZaJ L with
 |false=>
  simp[-getElem?_pos];refine cG [] Zbf ?_;simp[-getElem?_pos];rw[←hR];exact⟨rfl,by simp⟩
 |true=>
 have hF:407<408:=by decide
 have hp1:=ZfI hF L hrt;have hp2:=ZfI hF (keepD (doB 408) wk0 L) (Zeh hrt);rw[Zfj ZeS,ZbU ZeS]at hp2;dsimp only at hp2;have ok:=Zse hF hrt;generalize(foldD (doB 408) wk0 L).1=w at hp1 hp2 ok;generalize keepD (doB 408) wk0 L=kp at hp1 hp2;have hst:=ZsY w ok.c ok.b (by have:=ok.l;omega) (by have:=ok.t;omega) ok.r ok.on;have hsa:=Zs6 w ok.c ok.b (by have:=ok.l;omega) (by have:=ok.t;omega) ok.r ok.on;simp[-getElem?_pos];refine .inl (cQ [] [strsP L] hp1 ?_);simp[-getElem?_pos,Wk.pv];refine .inl (cQ [] [strsP kp] hp2 ?_);simp[-getElem?_pos,Wk.pv,strsP];refine cQ [] [w.pv] hst ?_;simp[-getElem?_pos];refine .inl (cQ [] [w.pv] hst ?_);simp[-getElem?_pos];refine cG [w.pv,w.pv] hsa ?_;simp[-getElem?_pos];refine cG [] Zbf ?_;simp[-getElem?_pos];rw[←hR];exact⟨rfl,by simp⟩
end
section
open Go.ChangeShapes Go.WideShapes Go.ChangeAt Go.RowKit
set_option maxRecDepth 100000
theorem ZfV (v0:Value)(W:World){H:Type}{enc:TypeId×Value→H}{base:Nat}{sp:Nat→Bool}{hd:Bool}{d0:DataW H}{p0:List MemPlace}(hg:Glob W.mem W)
  (k0:Value.okWide Tryz.prog W .any base 22 v0) (h0:DataW.Trod enc Tryz.prog W 0 sp hd 22 v0 d0 p0):
  Calls Tryz.prog 3 #[v0] W fun e w'=>e=.returned (.bool true)∧Keep [] W w':=by
 obtain⟨n0,h0⟩:=h0;obtain⟨s0,w0,r0⟩:=Zf2 k0 h0;refine Zdi (xs:=[strsP s0]) (b:=true) ((Zmp s0 w0).mono (fun _ _ h=>h.1)) rfl (fun j v x e1 e2=>?_) hg
 match j with
 |0=>simp at e1 e2;subst e1 e2;exact r0
 |j+1=>simp at e1
theorem Zfg (os:Os)(started:os.Started)(H:Type)(enc:TypeId×Value→H):
  ReturnsInHanded {} Tryz.checked os 3 .any (fun w args=>(Rows.bookReplaysSpec.pre enc Tryz.prog Tryz.f3 Rows.bookReplaysRow.domain false w args∧laidMetH Tryz.prog Rows.bookReplaysRow.laid w)∧sizedMet enc Tryz.prog Tryz.f3 (OpenSpec.ofChange Rows.bookReplaysSpec) false w args)
   (Rows.bookReplaysSpec.post enc Tryz.prog Tryz.f3 false true false false):=by
 refine ZcE (C:=Tryz.checked) (X:=fun w _=>laidMetH Tryz.prog Rows.bookReplaysRow.laid w) (fun _ _ _ hh h=>h.of_heap hh) own started (by kernel_rfl) Tryz.func3
  (ChangeSpec.witness_shaped (enc:=enc) (C:=Tryz.checked) (os:=os) (X:=fun w _=>laidMetH Tryz.prog Rows.bookReplaysRow.laid w) false (World.laidAll Tryz.prog os Rows.bookReplaysRow.laid) #[.slice none 0 0] 8 (World.laidAll_os _ _ _)
   (World.shaped_of_ZipB (by kernel_rfl) (by kernel_rfl)) (by kernel_rfl) (by kernel_rfl) (by kernel_rfl)
   (by rw[MakeChecks.laidMetH_plain _ _ _ (by kernel_rfl)];exact laidMet_laidAll _ (by kernel_rfl) (by kernel_rfl))) ?_
 intro W base args ds gs before hval0 hW hL hsh;have hval:∀(j:Nat) t v,Tryz.f3.params[j]?=some t→args[j]?=some v→Value.okWide Tryz.prog W .any base t v:=hval0;rw[MakeChecks.laidMetH_plain _ _ _ (by kernel_rfl)]at hL;have hg:=Zgx hsh (Lib.laidMet.reads hL (by simp[Rows.bookReplaysRow])) (Lib.laidMet.reads hL (by simp[Rows.bookReplaysRow])) (Lib.laidMet.reads hL (by simp[Rows.bookReplaysRow]));have hW':=hW;obtain⟨p,q,hA0,hV,rfl,hfz,hnd⟩:=hW;have hA:DataW.TrodAll enc Tryz.prog W 0 (fun _=>true) true Tryz.f3.params.toList args.toList ds p:=hA0;rw[Tryz.params3]at hA hval;obtain⟨v0,vs0,d0,ds0,p0,q0,hargs,rfl,rfl,h0,r0⟩:=trodAll_cons hA;obtain⟨rfl,rfl,rfl⟩:=trodAll_nil r0;have hargs':args=#[v0]:=by
  apply Array.ext';exact hargs
 subst hargs';have k0:=hval 0 _ v0 rfl rfl;obtain⟨rfl,rfl⟩:=trodVars_none hV;refine(ZfV v0 W hg k0 h0).mono fun e W' ⟨he,hk⟩=>?_
 subst he;exact⟨_,rfl,Zex (tb:=4) laidP Zd5 fullP (by decide +kernel) rfl rfl rfl Tryz.underlying4 hW' hk⟩
end
section
open Go.RowKit
set_option maxRecDepth 100000
theorem bD0:(Rows.bookReplaysRow.wf (OpenSpec.ofChange Rows.bookReplaysSpec))=true:=by kernel_rfl
theorem bD1:(laidOutB Tryz.prog)=true:=laidP
theorem bD2:(mapsRowed Tryz.prog)=true:=Zd5
theorem bD3:(Tryz.f3.params.all (Tryz.prog.readableRec ·))=true:=by kernel_rfl
theorem bD4:(namedTie Tryz.prog Rows.bookReplaysRow.named Rows.bookReplaysSpec.vars)=true:=by kernel_rfl
theorem bD5:((Rows.bookReplaysRow.stops==[]))=true:=by kernel_rfl
theorem bD6:((Tryz.prog.stops==[]))=true:=by kernel_rfl
theorem bD7:((Rows.bookReplaysRow.knobs==[]))=true:=by kernel_rfl
theorem bD8:((Tryz.prog.stopKnobs==[]))=true:=by kernel_rfl
theorem bD9:((Rows.bookReplaysRow.inPlace==Tryz.prog.inPlace 3))=true:=by kernel_rfl
theorem bD10:((Rows.bookReplaysRow.unfollowed==Tryz.prog.unfollowed 3))=true:=by kernel_rfl
theorem bD11:((Rows.bookReplaysRow.recurses==Tryz.prog.recurses 3))=true:=by kernel_rfl
theorem bD12:((Rows.bookReplaysRow.named==Tryz.prog.varsNamed 3))=true:=by kernel_rfl
theorem bD13:((Rows.bookReplaysRow.maps==(Tryz.f3.params.toList++Rows.bookReplaysSpec.plain.varTypes Tryz.prog).any (Tryz.prog.mapsRec ·)))=true:=by kernel_rfl
theorem bD14:((Rows.bookReplaysRow.ifaces==(Tryz.f3.params.toList++Rows.bookReplaysSpec.plain.varTypes Tryz.prog).any (Tryz.prog.ifacesRec ·)))=true:=by kernel_rfl
theorem bD15:((Rows.bookReplaysRow.mapsOut==Tryz.prog.mapsAmong Tryz.f3.resultTypes.toList))=true:=by kernel_rfl
theorem bD16:((Rows.bookReplaysRow.loops==(Tryz.f3.params.toList++Rows.bookReplaysSpec.plain.varTypes Tryz.prog).any (Tryz.prog.loopsFrom ·)))=true:=by kernel_rfl
theorem bD17:((Rows.bookReplaysRow.wideKeys==(Tryz.f3.params.toList++Rows.bookReplaysSpec.plain.varTypes Tryz.prog++Tryz.f3.resultTypes.toList).any (Tryz.prog.wideKeysFrom ·)))=true:=by kernel_rfl
theorem bD18:(Rows.bookReplaysSpec.vars.all (Tryz.prog.varReadable ·))=true:=by kernel_rfl
theorem bD19:(Tryz.f3.resultTypes.all (fun t=>Tryz.prog.readableRec t&&decide (t<Tryz.prog.types.size)))=true:=by kernel_rfl
theorem bD20:((Rows.bookReplaysRow.ifacesOut==Tryz.f3.resultTypes.toList.any (Tryz.prog.ifacesRec ·)))=true:=by kernel_rfl
theorem bD21:((Rows.bookReplaysRow.loopsOut==Tryz.f3.resultTypes.toList.any (Tryz.prog.loopsFrom ·)))=true:=by kernel_rfl
theorem bD22:((Rows.bookReplaysRow.plainKeys==Tryz.prog.plainKeys))=true:=by kernel_rfl
theorem bD23:(Rows.bookReplaysRow.shortTexts.isNone)=true:=by kernel_rfl
theorem bD24:(Tryz.prog.stopsHeard)=true:=by kernel_rfl
theorem bD25:(Tryz.prog.mayEnter)=true:=by kernel_rfl
theorem bD26:((Rows.bookReplaysRow.lifted==Tryz.prog.liftsFinal))=true:=by kernel_rfl
theorem bD27:((Tryz.prog.make==some Rows.bookReplaysRow.make))=true:=by kernel_rfl
theorem bD28:((Rows.bookReplaysRow.kinds==(if Rows.bookReplaysRow.domain.isEmpty then[]else Tryz.f3.params.toList.map fun t=>match Tryz.prog.underlying t with|some (.int k)=>some k|_=>none)))=true:=by kernel_rfl
theorem bD29:((Rows.bookReplaysRow.pinned==Rows.bookReplaysRow.pinnedBy))=true:=by kernel_rfl
theorem bD30:((Rows.bookReplaysRow.veiled==(Tryz.f3.params.toList++Rows.bookReplaysSpec.plain.varTypes Tryz.prog++Tryz.f3.resultTypes.toList).any (Tryz.prog.veiledRec ·)))=true:=by kernel_rfl
theorem bD31:(Rows.bookReplaysRow.veiledFits Tryz.prog Tryz.f3.params.toList (Tryz.f3.params.toList++Rows.bookReplaysSpec.plain.varTypes Tryz.prog++Tryz.f3.resultTypes.toList))=true:=by kernel_rfl
theorem Zp5:joinedFacts Tryz.pinned.checked.prog 3 Tryz.f3 Rows.bookReplaysSpec Rows.bookReplaysRow=true:=
 Zb7 bD0 bD1 bD2 bD3 bD4 bD5 bD6 bD7 bD8 bD9 bD10 bD11 bD12 bD13 bD14 bD15 bD16 bD17 bD18 bD19 bD20 bD21 bD22 bD23 bD24 bD25 bD26 bD27 bD28 bD29 bD30 bD31
end
section
open Go.ChangeShapes Go.WideShapes Go.ChangeAt Go.RowKit
set_option maxRecDepth 100000
theorem Zp6 (os:Os)(started:os.Started)(H:Type)(enc:TypeId×Value→H):ReturnsInHanded Rows.bookReplaysRow.assume Tryz.pinned.checked os 3 .any (Rows.bookReplaysRow.pre enc Tryz.pinned.checked.prog Tryz.f3 (OpenSpec.ofChange Rows.bookReplaysSpec)) (Rows.bookReplaysSpec.post enc Tryz.pinned.checked.prog Tryz.f3 Rows.bookReplaysRow.apart Rows.bookReplaysRow.fresh Rows.bookReplaysRow.handsOn Rows.bookReplaysRow.again):=Zfg os started H enc
theorem Zf5:Rows.bookReplaysRow.holds Tryz.pinned (OpenSpec.ofChange Rows.bookReplaysSpec):=
 OpenClaim.holds_of_wide 3 Tryz.f3 rfl rfl rfl rfl rfl rfl rfl ⟨rfl,rfl,rfl,rfl,rfl⟩ rfl rfl rfl rfl rfl (by kernel_rfl) Tryz.func3 Zp5
  (of_decide_eq_true (by kernel_rfl)) (by unfold Func.isWrapper;first|(rw[if_pos (by decide +kernel)];kernel_rfl)|(rw[if_neg (by decide +kernel)];exact⟨rfl,rfl⟩))
  (fun os started H enc _=>Zp6 os started H enc)
theorem bDWf:Rows.bookReplaysRow.wfByText (OpenSpec.ofChange Rows.bookReplaysSpec)=true:=by kernel_rfl
theorem ZtQ : Tryz.pinned.checked.prog.mainIs = some (true, "429b1301e4e9e14836810d17c619d588cb37bbf0a235cc417304b7271646d6e2".toList) := by kernel_rfl
theorem Zsz:true=Tryz.pinned.checked.prog.looks []:=by kernel_rfl
theorem bDBy:false=Rows.bookReplaysRow.goesBy Tryz.pinned.checked.prog:=by kernel_rfl
theorem Zsy : Tryz.prog.funcNamed "tensile/tensilelaw12.BookReplays" = some 3 := by kernel_rfl
theorem Zsx:([22].all fun u=>!Tryz.prog.wantsStandIn u)=true:=by kernel_rfl
theorem cardBookReplays:Rows.BookReplaysCardSaid:=
 Claim7.holds_tied_plain_at .later [] [.data, .data, .data, .data, .sentinel, .sentinel, .pinned] true (true, "429b1301e4e9e14836810d17c619d588cb37bbf0a235cc417304b7271646d6e2") true
  Zf5 (fun _ h=>by cases h) bDWf (fun _ h=>by cases h) bookReplays_row_tie rfl ⟨rfl,rfl⟩ ZtQ rfl
  (fun f fn hf hfn=>by
   obtain rfl:f=3:=Option.some.inj (Zsy.symm.trans hf) |>.symm;obtain rfl:fn=Tryz.f3:=(Option.some.inj (Tryz.func3.symm.trans hfn)).symm;exact⟨Zsz,fun j t ht=>by
    rw[Tryz.params3]at ht;have hm:t∈([22]:List TypeId):=by simpa using Array.mem_of_getElem? ht
    exact(show Tryz.prog.wantsStandIn t=false by simpa using Zuo.1 Zsx t hm)⟩)
  bDBy
end
end Go.Proofs.YteknmiggbkhdoaaGreatDoor
