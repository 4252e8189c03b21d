import Derived.Test.YtfpmaennjlggeaaGreatDoorProg
import Derived.Lib.AtoiTie
import Derived.Test.YtfpmaennjlggeaaGreatDoorCards
import Derived.Test.YtfpmaennjlggeaaGreatDoorTie
import Derived.SevenTiedAt
import Derived.Test.YtfpmaennjlggeaaGreatDoorP4
set_option linter.unusedSimpArgs false
set_option linter.unusedVariables false
set_option maxHeartbeats 32000000
set_option maxRecDepth 10000
namespace Go.Proofs.YtfpmaennjlggeaaGreatDoor
open Go.RowKit
section
set_option maxRecDepth 100000
noncomputable section
def L18:LFn :=⟨80,S [O 2 (.mov (.c (.str ⟨#[]⟩))),Pe 3,Pf 4] (S [Pe 5] (S [OM 6 0] (.seq (S [OM 7 0] (.block 0 (.loop (.seq (S [Om 13 7,Om 14 0,O 15 (.x (.slen (.t 14))),Ob 16 .leq 13 15] (Ce 16 0)) (.seq (.block 1 (S [Om 19 7,Om 20 0,O 21 (.x (.slen (.t 20))),Ob 22 .eql 19 21,Om 23 22,G 24 23 false (M 0),G 25 23 false (M 7),G 26 23 false (.x (.sidx (.t 24) (.t 25))),G 27 23 false (.bin false .eql (.t 26) (.c (.int .u8 (32)))),Pq 28 23 27] (Cd 28 (S [Om 29 5,Om 30 0,Om 31 6,Om 32 7,O 33 (.x (.ssl (.t 30) (some (.t 31)) (some (.t 32)))),Pb 34 9 1 33,Py 35 9 1 16 29 34,Om 5 35] (.region [Om 36 7,Oc 37 .add 36 1,Om 6 37])) .skip))) (.region [Om 17 7,Oc 18 .add 17 1,Om 7 18])))))) (S [OM 8 (-1)] (.seq (S [Om 38 5,O 39 (.ia 1 none (.t 38) (I 0)),Ol 40 1 39] (.block 2 (S [O 42 (.x (.eqv false ⟨false,[.str]⟩ (.t 40) (.c (.str ⟨#[99,101,114,116]⟩)))),Om 41 42] (Cd 41 (.region [OM 8 7]) (.seq (S [O 44 (.x (.eqv false ⟨false,[.str]⟩ (.t 40) (.c (.str ⟨#[98,97,100]⟩)))),Om 43 44] (Cd 43 .skip (.region [O 45 (.x (.eqv false ⟨false,[.str]⟩ (.t 40) (.c (.str ⟨#[112,97,115,115]⟩)))),Om 43 45]))) (Cd 43 (.region [OM 8 1]) (.seq (S [O 47 (.x (.eqv false ⟨false,[.str]⟩ (.t 40) (.c (.str ⟨#[108,111,116]⟩)))),Om 46 47] (Cd 46 .skip (.region [O 48 (.x (.eqv false ⟨false,[.str]⟩ (.t 40) (.c (.str ⟨#[114,117,110]⟩)))),Om 46 48]))) (Cd 46 (.region [OM 8 3]) (S [O 50 (.x (.eqv false ⟨false,[.str]⟩ (.t 40) (.c (.str ⟨#[116,101,115,116]⟩)))),Om 49 50] (Cd 49 (.region [OM 8 4]) .skip)))))))))) (.seq (S [Om 51 5,On 52 51,Om 53 8,Oc 54 .add 53 1,Ob 55 .neq 52 54] (Cd 55 (S [O 2 (.mov (.c (.str ⟨#[]⟩))),Pe 3,Pf 4] .ret) .skip)) (S [Pe 9] (.seq (S [OM 10 1] (.block 3 (.loop (.seq (S [Om 56 10,Om 57 5,On 58 57,Ob 59 .lss 56 58] (Ce 59 3)) (.seq (.block 4 (S [Om 63 5,Om 64 10,Oi 65 1 63 64,Ol 66 1 65,Ok 67 37 [.t 66],Om 62 67,Oe 68 62 0,Oe 69 62 1,Om 11 68,Om 12 69] (.seq (S [Om 70 12,Oo 71 70] (Cd 71 (S [O 2 (.mov (.c (.str ⟨#[]⟩))),Pe 3,Pf 4] .ret) .skip)) (.region [Om 72 9,Om 73 11,Pb 74 3 1 73,Py 75 3 1 8 72 74,Om 9 75])))) (.region [Om 60 10,Oc 61 .add 60 1,Om 10 61])))))) (S [Om 76 5,O 77 (.ia 1 none (.t 76) (I 0)),Ol 78 1 77,Om 79 9,Om 2 78,Om 3 79,O 4 (.mov Bt)] .ret))))))))),[.tm 2,.tm 3,.tm 4]⟩
end
end
section
set_option maxRecDepth 100000
noncomputable section
def L7:LFn :=⟨267,S [Pf 4] (.seq (S [Om 31 0,Ok 32 8 [.t 31],Oo 33 32,Om 34 33,G 35 34 false (M 0),G 36 34 false (.call (C 9) [.t 35]),G 37 34 false (.not (.t 36)),Pq 38 34 37,Om 39 38,G 40 39 false (M 0),G 41 39 false (.len none (.t 40)),G 42 39 false (.bin false .eql (.t 41) (I 0)),Pq 43 39 42] (Cd 43 (S [Ok 44 10 [],Om 4 44] .ret) .skip)) (S [Om 45 1,O 46 (.conv .i64 (.t 45)),Om 47 0,On 48 47,Ob 49 .rem 46 48,Om 5 49] (S [Om 51 0,Om 52 5,Oi 53 1 51 52,Ol 54 1 53,Ok 55 18 [.t 54],Om 50 55,Oe 56 50 0,Oe 57 50 1,Oe 58 50 2,Om 6 56,Om 7 57,Om 8 58] (.seq (S [Om 59 8,Oo 60 59,Om 61 60,G 62 61 false (M 6),G 63 61 false (.x (.eqv true ⟨false,[.str]⟩ (.t 62) (.c (.str ⟨#[112,97,115,115]⟩)))),Pq 64 61 63] (Cd 64 (S [Ok 65 10 [],Om 4 65] .ret) .skip)) (S [Om 67 0,Ok 68 14 [.t 67],Ok 69 15 [.t 68],Om 66 69,Oe 70 66 0,Oe 71 66 1,Oe 72 66 2,O 9 (.alloc (.agg [E0,E0,E0,E0,E0])),Ns 5 9 70,Om 10 71,Om 11 72] (S [Om 74 0,Om 75 5,O 76 (.slc 1 none (.t 74) none (some (.t 75)) none),Ok 77 14 [.t 76],Ok 78 15 [.t 77],Om 73 78,Oe 79 73 0,Oe 80 73 1,Oe 81 73 2,O 12 (.alloc (.agg [E0,E0,E0,E0,E0])),Ns 5 12 79,Om 13 80,Om 14 81] (.seq (S [Om 82 11,Oc 83 .neq 82 0,Om 84 83,G 85 84 false (M 14),G 86 84 false (.bin false .neq (.t 85) (I 0)),Pq 87 84 86,Om 88 87,G 89 88 false (M 10),G 90 88 false (.len none (.t 89)),G 91 88 false (M 0),G 92 88 false (.len none (.t 91)),G 93 88 false (.bin false .neq (.t 90) (.t 92)),Pq 94 88 93] (Cd 94 (S [Pf 4] .ret) .skip)) (.seq (S [Om 95 10,Om 96 5,Oi 97 1 95 96,Ol 98 1 97,Oc 99 .neq 98 0] (Cd 99 (S [Ok 100 10 [],Om 4 100] .ret) .skip)) (S [Pf 15] (.seq (S [OM 16 0] (.block 0 (.loop (.seq (S [Om 101 16,Oa 102 2 12,Ol 103 1 102,On 104 103,Ob 105 .lss 101 104] (Ce 105 0)) (.seq (.block 1 (S [Pa 108 2 12,Pm 110 16,Pm 114 7,Pj 115 1 114 0,Pl 109 108,Of 111 (.ia 4 none (.t 109) (.t 110)),Pa 112 0 111,Pl 113 112,Pl 116 115,Ob 117 .eql 113 116] (Cd 117 (S [Pa 120 2 12,Pm 122 16,Pt 119 5 12,Pl 121 120,Of 123 (.ia 4 none (.t 121) (.t 122)),Pt 124 4 123,Ok 125 21 [.t 119,.t 124],Om 118 125,Oe 126 118 0,Oe 127 118 1,Oe 128 118 2,Om 17 126,Om 18 127,Om 19 128] (.region [Om 129 19,Om 130 129,Pn 131 130 17,G 132 130 true (.bin false .eql (.t 131) (.c (.int .u8 (1)))),Pp 133 130 132,Om 134 133,Ph 135 134 2 12,Pg 136 134 135,Pn 137 134 16,G 138 134 true (.ia 4 none (.t 136) (.t 137)),Ph 139 134 3 138,Pg 140 134 139,G 141 134 true (.not (.t 140)),Pp 142 134 141,Om 15 142])) .skip))) (.region [Om 106 16,Oc 107 .add 106 1,Om 16 107])))))) (S [O 20 (.mov Bt)] (.seq (S [Om 143 5,Oc 144 .add 143 1,Om 21 144] (.block 2 (.loop (.seq (S [Om 145 21,Om 146 0,On 147 146,Ob 148 .lss 145 147] (Ce 148 2)) (.seq (.block 3 (S [Om 152 0,Om 153 21,Oi 154 1 152 153,Ol 155 1 154,Ok 156 18 [.t 155],Om 151 156,Oe 157 151 0,Oe 158 151 1,Oe 159 151 2,Om 22 157,Om 23 158,Om 24 159] (.seq (S [Pm 160 24,Pm 161 160,Gf 162 161 true (M 22),Gf 163 161 true (.x (.eqv false ⟨false,[.str]⟩ (.t 162) (.c (.str ⟨#[112,97,115,115]⟩)))),Of 164 (.pick (.t 161) (.t 163) Bf),Pm 165 164,Gf 166 165 true (M 23),Gf 167 165 true (.ia 1 none (.t 166) (I 0)),Gf 169 165 true (M 7),Gf 170 165 true (.ia 1 none (.t 169) (I 0)),Pi 168 165 167,Pi 171 165 170,Gf 172 165 true (.bin false .eql (.t 168) (.t 171)),Of 173 (.pick (.t 165) (.t 172) Bf),Pm 174 173,Gf 175 174 true (M 10),Gf 176 174 true (M 21),Gf 177 174 true (.ia 1 none (.t 175) (.t 176)),Pi 178 174 177,G 179 174 true (.bin false .eql (.t 178) (I 0)),Pp 180 174 179] (Cd 180 (S [Pf 4] .ret) .skip)) (.region [Om 181 20,Om 182 181,Pn 183 182 10,Pn 184 182 21,G 185 182 true (.ia 1 none (.t 183) (.t 184)),Pg 186 182 185,G 187 182 true (.bin false .neq (.t 186) (I 0)),Pn 188 182 187,G 189 188 false (M 22),G 190 188 false (.x (.eqv true ⟨false,[.str]⟩ (.t 189) (.c (.str ⟨#[99,101,114,116]⟩)))),G 191 188 false (M 190),Pn 192 191 22,G 193 191 true (.x (.eqv true ⟨false,[.str]⟩ (.t 192) (.c (.str ⟨#[98,97,100]⟩)))),G 194 188 false (.pick (.t 191) (.t 193) Bf),G 195 182 true (.pick (.t 188) Bt (.t 194)),Pp 196 182 195,Om 20 196])))) (.region [Om 149 21,Oc 150 .add 149 1,Om 21 150])))))) (S [Om 198 0,Ok 199 14 [.t 198],Ok 200 22 [.t 199],Om 197 200,Oe 201 197 0,Oe 202 197 1,Om 25 201,Om 26 202] (S [Pf 27] (.seq (S [OM 28 0] (.block 4 (.loop (.seq (S [Om 203 28,Om 204 25,On 205 204,Ob 206 .lss 203 205] (Ce 206 4)) (.seq (.block 5 (.region [Pm 209 27,Pm 210 209,Gf 211 210 false (M 25),Gf 212 210 false (M 28),Gf 213 210 false (.ia 1 none (.t 211) (.t 212)),Gf 215 210 false (M 7),Gf 216 210 false (.ia 1 none (.t 215) (I 0)),Gf 214 210 false (.load false 1 (.t 213)),Gf 217 210 false (.load false 1 (.t 216)),G 218 210 false (.bin false .eql (.t 214) (.t 217)),Pq 219 210 218,Om 27 219])) (.region [Om 207 28,Oc 208 .add 207 1,Om 28 208])))))) (S [Pf 29] (.seq (S [OM 30 0] (.block 6 (.loop (.seq (S [Om 220 30,Oa 221 2 9,Ol 222 1 221,On 223 222,Ob 224 .lss 220 223] (Ce 224 6)) (.seq (.block 7 (.region [Pm 227 29,Pm 228 227,Gf 229 228 false (.fa 2 (.t 9)),Gf 231 228 false (M 30),Gf 235 228 false (M 7),Gf 236 228 false (.ia 1 none (.t 235) (I 0)),Gf 230 228 false (.load false 1 (.t 229)),Gf 232 228 false (.ia 4 none (.t 230) (.t 231)),Gf 233 228 false (.fa 0 (.t 232)),Gf 234 228 false (.load false 1 (.t 233)),Gf 237 228 false (.load false 1 (.t 236)),Gf 238 228 false (.bin false .eql (.t 234) (.t 237)),Gf 239 228 false (M 238),Gf 240 239 true (.fa 2 (.t 9)),Gf 242 239 true (M 30),Pi 241 239 240,Gf 243 239 true (.ia 4 none (.t 241) (.t 242)),Gf 244 239 true (.fa 3 (.t 243)),Pi 245 239 244,G 246 228 false (.pick (.t 239) (.t 245) Bf),Pq 247 228 246,Om 29 247])) (.region [Om 225 30,Oc 226 .add 225 1,Om 30 226])))))) (S [Om 248 15,Om 249 248,Pn 250 249 29,Pp 251 249 250,Om 252 251,Pn 253 252 26,G 254 252 true (.bin false .eql (.t 253) (I 0)),Pp 255 252 254,Om 256 255,Pn 257 256 27,G 258 256 true (.not (.t 257)),Pn 259 256 258,G 260 259 false (M 20),G 261 259 false (.not (.t 260)),G 262 256 true (.pick (.t 259) Bt (.t 261)),Pp 263 256 262,Om 264 263,G 265 264 true (.call (C 10) []),Pp 266 264 265,Om 4 266] .ret)))))))))))))))))),[.tm 4]⟩
def L20:LFn :=⟨58,S [Ox 1 5 0,O 2 (.alloc (.agg [E0,E0]))] (S [O 7 (.build (.agg [Z0,.bool false,Z0,Z0]) [(1,(1,Bt))]),O 8 (.build (.agg [Z0,Z0]) [(0,(1,(I (-2)))),(1,(1,(I 2)))]),O 9 (.build (.agg [Z0,.bool false,Z0,Z0]) [(1,(1,Bt)),(2,(2,(.t 8)))]),O 10 (.build (.agg [Z0,.bool false,Z0,Z0]) [(0,(1,(I 1)))]),O 11 (.build (.agg [Z0,.bool false,Z0,Z0]) [(0,(1,(I 1)))]),O 12 (.build (.agg [Z0,.bool false,Z0,Z0]) []),O 13 (.build (.agg [Z0,.bool false,Z0,Z0]) []),O 14 (.bslice 116 4 [.t 7,.t 9,.t 10,.t 11,.t 12,.t 13]),O 15 (.build (.agg [E0,E0]) [(0,(1,(.t 14)))]),O 3 (.alloc (.agg [E0,E0])),Ns 2 3 15] (.seq (S [OM 4 0] (.block 0 (.loop (.seq (S [Om 16 4,Oa 17 0 1,Ol 18 1 17,On 19 18,Ob 20 .lss 16 19] (Ce 20 0)) (.seq (.block 1 (S [Pf 5] (.seq (S [OM 6 0] (.block 2 (.loop (.seq (S [Om 23 6,Oa 24 1 1,Ol 25 1 24,On 26 25,Ob 27 .lss 23 26] (Ce 27 2)) (.seq (.block 3 (.region [Pm 30 5,Pm 31 30,Gf 32 31 false (.fa 1 (.t 1)),Gf 34 31 false (M 6),Gf 37 31 false (.fa 0 (.t 1)),Gf 39 31 false (M 4),Gf 33 31 false (.load false 1 (.t 32)),Gf 35 31 false (.ia 1 none (.t 33) (.t 34)),Gf 36 31 false (.load false 1 (.t 35)),Gf 38 31 false (.load false 1 (.t 37)),Gf 40 31 false (.ia 7 none (.t 38) (.t 39)),Gf 41 31 false (.fa 0 (.t 40)),Gf 42 31 false (.load false 1 (.t 41)),G 43 31 false (.bin false .eql (.t 36) (.t 42)),Pq 44 31 43,Om 5 44])) (.region [Om 28 6,Oc 29 .add 28 1,Om 6 29])))))) (S [Om 45 5,Oo 46 45] (Cd 46 (.region [Pa 47 1 3,Pa 49 0 1,Pm 51 4,Pl 48 47,Pl 50 49,Of 52 (.ia 7 none (.t 50) (.t 51)),Pt 53 7 52,Of 54 (.bslice 47 7 [.t 53]),Py 55 47 7 56 48 54,Oa 56 1 3,Ns 1 56 55]) .skip))))) (.region [Om 21 4,Oc 22 .add 21 1,Om 4 22])))))) (S [Ot 57 2 3,Ns 2 2 57] .ret))),[.cell 2 true 2]⟩
@[simp] def L21a:LT:=.alt (Ok 60 44 [.t 55,.t 57,.t 59]) (.op (Om 53 60) (.op (Oe 61 53 0) (.op (Oe 62 53 1) (.alt (Ns 2 13 61) .done .no)))) .no
def L21:LFn :=⟨94,S [Ox 2 5 0,Ox 3 4 1,O 4 (.mov (.c (.int .u8 (0)))),OM 5 0,Pf 6] (S [Oa 18 1 3,Ol 19 1 18,O 20 (.build (.agg [Z0,Z0,Z0]) [(0,(1,(I 2))),(1,(1,(I 0))),(2,(1,(I 2)))]),O 21 (.build (.agg [Z0,Z0,Z0]) [(0,(1,(I 2))),(1,(1,(I 1))),(2,(1,(I 2)))]),O 22 (.bslice 118 3 [.t 20,.t 21]),O 23 (.build (.agg [Z0,E0]) [(0,(1,(.t 19))),(1,(1,(.t 22)))]),O 7 (.alloc (.agg [Z0,E0])),Ns 2 7 23] (S [Pe 8] (.seq (S [OM 9 0] (.block 0 (.loop (.seq (S [Om 24 9,Oa 25 3 2,Ol 26 1 25,On 27 26,Ob 28 .lss 24 27] (Ce 28 0)) (.seq (.block 1 (S [Oa 31 3 2,Ol 32 1 31,Om 33 9,Oi 34 4 32 33,Ot 35 4 34,O 10 (.alloc (.agg [Z0,Z0,Z0,Z0])),Ns 4 10 35] (S [Ot 37 5 2,Ot 38 4 10,Ok 39 17 [.t 37,.t 38],Om 36 39,Oe 40 36 0,Oe 41 36 1,Om 11 40,Om 12 41] (.seq (S [Om 42 12,Oo 43 42] (Cd 43 (S [O 4 (.mov (.c (.int .u8 (0)))),OM 5 0,Pf 6] .ret) .skip)) (.seq (S [Oa 44 0 10,Ol 45 1 44,Oa 46 0 3,Ol 47 1 46,Ob 48 .neq 45 47,Om 49 48,G 50 49 false (M 11),G 51 49 false (.not (.t 50)),Pq 52 49 51] (Cd 52 (.exit 1) .skip)) (.seq (.regT (.op (Pa 56 1 10) (.op (Pa 58 2 10) (.op (Pt 54 5 2) (.op (Pl 57 56) (.op (Pl 59 58) (.seq (.alt (Of 55 (.call (C 20) [.t 54])) (.alt (Ok 60 44 [.t 55,.t 57,.t 59]) (.op (Om 53 60) (.op (Oe 61 53 0) (.op (Oe 62 53 1) (.alt (Of 13 (.alloc (.agg [Z0,Z0]))) (.alt (Ns 2 13 61) .done .no) .no)))) (.alt (Of 13 (.alloc (.agg [Z0,Z0]))) L21a .no)) (.alt (Of 13 (.alloc (.agg [Z0,Z0]))) (.alt (Of 55 (.call (C 20) [.t 54])) L21a .no) .no)) (.op (Om 14 62) .done)))))))) (.seq (S [Om 63 14,Oc 64 .neq 63 0] (Cd 64 (S [O 4 (.mov (.c (.int .u8 (0)))),OM 5 0,Pf 6] .ret) .skip)) (S [Om 65 8,Oa 66 3 10,Ol 67 1 66,Oa 68 0 13,Ol 69 1 68,Ob 70 .add 67 69,Oa 71 2 3,Ol 72 1 71,Ob 73 .lss 70 72,Pb 74 4 1 73,Py 75 4 1 1 65 74,Om 8 75] (S [Pm 79 8,Pt 77 2 7,Of 78 (.bslice 4 1 []),Of 80 (.app0 4 1 1 (.t 78) (.t 79)),Ok 81 45 [.t 77,.t 80],Om 76 81,Oe 82 76 0,Oe 83 76 1,Oe 84 76 2,Om 15 82,Om 16 83,Om 17 84] (.seq (S [Om 85 17,Oc 86 .neq 85 0] (Cd 86 (S [O 4 (.mov (.c (.int .u8 (0)))),OM 5 0,Pf 6] .ret) .skip)) (S [Om 87 15,O 88 (.bin false .neq (.t 87) (.c (.int .u8 (3))))] (Cd 88 (S [Om 89 15,Om 90 8,On 91 90,Om 4 89,Om 5 91,O 6 (.mov Bt)] .ret) .skip)))))))))))) (.region [Om 29 9,Oc 30 .add 29 1,Om 9 30])))))) (S [Om 92 8,On 93 92,O 4 (.mov (.c (.int .u8 (3)))),Om 5 93,O 6 (.mov Bt)] .ret)))),[.tm 4,.tm 5,.tm 6]⟩
def L22:LFn :=⟨40,S [Pe 2,OM 3 0] (.seq (S [Om 10 0,Ok 11 30 [.t 10],Om 4 11] (S [Om 12 4,Oc 13 .neq 12 0] (Cd 13 (S [Om 14 4,Pe 2,Om 3 14] .ret) .skip))) (S [Om 16 0,Ok 17 31 [.t 16],Om 15 17,Oe 18 15 0,Oe 19 15 1,Om 5 18,Om 6 19] (S [Pe 7] (.seq (S [Om 20 5,Oz 21 20,Oa 22 0 21,Oa 23 2 22,Ol 24 1 23,On 25 24,OM 26 0] (.block 0 (.loop (S [Ob 27 .lss 26 25] (.seq (Ce 27 0) (.seq (.block 1 (S [Oi 28 4 24 26,Ot 29 4 28,O 9 (.alloc (.agg [Z0,Z0,Z0,.bool false])),Ns 4 9 29] (S [Om 30 5,Ot 31 4 9,Ok 32 46 [.t 30,.t 31]] (Cd 32 (.region [Om 33 7,Oa 34 0 9,Ol 35 1 34,Pb 36 3 1 35,Py 37 3 1 8 33 36,Om 7 37]) .skip)))) (.region [Oc 38 .add 26 1,Om 26 38]))))))) (S [Om 39 7,Om 2 39,OM 3 0] .ret))))),[.tm 2,.tm 3]⟩
end
end
section
set_option maxRecDepth 100000
noncomputable section
def L37:LFn :=⟨65,S [OM 2 0,Pf 3] (S [Pf 4,OM 5 0] (.seq (S [Om 7 0,O 8 (.x (.slen (.t 7))),Oc 9 .gtr 8 0,Om 10 9,Pn 11 10 0,G 12 10 true (.x (.sidx (.t 11) (I 0))),G 13 10 true (.bin false .eql (.t 12) (.c (.int .u8 (45)))),Pp 14 10 13] (Cd 14 (.region [O 4 (.mov Bt),OM 5 1]) .skip)) (.seq (S [Om 15 0,O 16 (.x (.slen (.t 15))),Om 17 5,Ob 18 .eql 16 17,Om 19 18,G 20 19 false (M 0),G 21 19 false (.x (.slen (.t 20))),G 22 19 false (M 5),G 23 19 false (.bin false .sub (.t 21) (.t 22)),G 24 19 false (.bin false .gtr (.t 23) (I 9)),Pq 25 19 24,Om 26 25,G 27 26 false (M 0),G 28 26 false (M 5),G 29 26 false (.x (.sidx (.t 27) (.t 28))),G 30 26 false (.bin false .eql (.t 29) (.c (.int .u8 (48)))),G 31 26 false (M 30),Pn 32 31 0,G 33 31 true (.x (.slen (.t 32))),G 34 31 true (.bin false .gtr (.t 33) (I 1)),G 35 26 false (.pick (.t 31) (.t 34) Bf),Pq 36 26 35] (Cd 36 (S [OM 2 0,Pf 3] .ret) .skip)) (S [OM 6 0] (.seq (.block 0 (.loop (.seq (S [Om 37 5,Om 38 0,O 39 (.x (.slen (.t 38))),Ob 40 .lss 37 39] (Ce 40 0)) (.seq (.block 1 (.seq (S [Om 43 0,Om 44 5,O 45 (.x (.sidx (.t 43) (.t 44))),O 46 (.bin false .lss (.t 45) (.c (.int .u8 (48)))),Om 47 46,G 48 47 false (M 0),G 49 47 false (M 5),G 50 47 false (.x (.sidx (.t 48) (.t 49))),G 51 47 false (.bin false .gtr (.t 50) (.c (.int .u8 (57)))),Pq 52 47 51] (Cd 52 (S [OM 2 0,Pf 3] .ret) .skip)) (.region [Om 53 6,O 54 (.bin false .mul (I 10) (.t 53)),Om 55 0,Om 56 5,O 57 (.x (.sidx (.t 55) (.t 56))),O 58 (.bin false .sub (.t 57) (.c (.int .u8 (48)))),O 59 (.conv .i64 (.t 58)),Ob 60 .add 54 59,Om 6 60]))) (.region [Om 41 5,Oc 42 .add 41 1,Om 5 42]))))) (.seq (S [Om 61 4] (Cd 61 (.region [Om 62 6,O 63 (.neg (.t 62)),Om 6 63]) .skip)) (S [Om 64 6,Om 2 64,O 3 (.mov Bt)] .ret))))))),[.tm 2,.tm 3]⟩
end
end
section
set_option maxRecDepth 100000
noncomputable section
def L17:LFn :=⟨26,S [Ox 2 5 0,Ox 3 4 1,Pf 4,Pf 5] (S [Pa 11 1 3,Pa 13 2 3,Pt 9 5 2,Pl 12 11,Pl 14 13,Of 10 (.call (C 20) [.t 9]),Ok 15 36 [.t 10,.t 12,.t 14],Om 8 15,Oe 16 8 0,Oe 17 8 1,Om 6 16,Om 7 17] (S [Om 18 7,Oc 19 .eql 18 0,Om 20 7,Oc 21 .eql 20 0,Om 22 21,G 23 22 false (M 7),G 24 22 false (.bin false .eql (.t 23) (I 10)),Pq 25 22 24,Om 4 19,Om 5 25] .ret)),[.tm 4,.tm 5]⟩
end
end
section
attribute [local simp] AS.exp expG Box.ren AV.map AV.Zu9 Zau noRet Site.Zu6 Box.Zu3 AV.Zu3 AV.Zu4 retB dropL AS.Zvd renL outG outOk Zas inG fnOf lookA Zyc
attribute [local simp] Box.Zu0 Site.Zu1
section
attribute [local simp] retFz frzL AS.frz AV.frz AV.frzL Box.frz AS.tidy AS.ZvF frzsL retOk renB toLoc
def Zv (w:Wk)(x:Lt):Bool:=x.passed&&!decide (verdL w.certs w.bad w.tests x=1)
def Zx (w:Wk)(k:Nat):List Int:=((w.lots.take k).filter (Zv w)).map Lt.num
theorem Zm8 {w:Wk}{k:Nat}{x:Lt}(h:w.lots[k]?=some x):Zx w (k+1)=Zx w k++(if Zv w x=true then[x.num]else[]):=by
 unfold Zx;rw[Zx6,h,Zyw,Zyb];congr 1;cases hb:Zv w x<;>simp[hb]
theorem ZkB {w:Wk}{k:Nat}:(Zx w k).length≤k:=by
 unfold Zx;rw[ZxS];refine Zx5 (ZyB _ _) ?_;rw[ZxT];omega
def rclE (D:Wk→ByteArray→Wk×Int)(L:List ByteArray):PV:=if Za3 L=0 then .tup [.lst false 1 ((Zx (foldD D wk0 L).1 (foldD D wk0 L).1.lots.length).map iP),.int .i64 0]else .tup [.lst false 1 [],.int .i64 3]
def Zj (w:Wk)(l:List Int)(k:Nat):AS:=
 ⟨[(5,.ptr (.loc 17 0) 0),(7,.vec (.loc 37 0) 1 0 l.length),(24,.pv (.lst false 4 (w.lots.map Lt.pv))),(25,.pv (.int .i64 w.lots.length)),(26,.pv (.int .i64 (k:Int)))],
  [(.loc 17 0,w.box),(.loc 37 0,.arr 3 1 (l.map iP))]⟩
theorem Zmo {I:Nat→Wk→Prop}{D:Wk→ByteArray→Wk×Int}(hN:ZgX I D)(h0:I 0 wk0)(hI:∀k w,k≤50→I k w→WkOk w)(L:List ByteArray)(hl:L.length≤1000000):Gives Tryz.prog 22 [strsP L] (rclE D L):=by
 have hch:=ZdB L hl;refine Zai.ZvA ?_;refine cFR [.loc 37 0] L22 ?_;intro R hR;unfold rclE at hR;by_cases hc:Za3 L=0
 ·obtain⟨hl5,hs2⟩:=Zd9 hc;rw[hc]at hch;have hpc:=ZkI hN h0 L (by omega) hs2;have hok:=hI _ _ (by omega) (ZcD hN (l:=L) (by omega) h0 hs2);rw[if_pos hc]at hR;generalize foldD D wk0 L=q at hpc hok hR;obtain⟨w,es⟩:=q;dsimp only at hpc hok hR;have hlo:=hok.l;simp[-getElem?_pos,L22];refine cG [strsP L] hch ?_;simp[-getElem?_pos];refine .inl (Za9 [] (fs:=[]) (xs:=[strsP L]) (cs:=[]) (d:=17) rfl rfl hpc ?_);rintro r B ⟨rfl,rfl⟩;refine⟨by simp[Wk.box,wkX],?_⟩;simp[-getElem?_pos,Wk.box,wkX,lotsP];refine Zaf (fun m τ=>∃k:Nat,k≤w.lots.length∧m=w.lots.length-k∧τ=Zj w (Zx w k) k) ⟨w.lots.length,Zj w [] 0,Sub.trans' (Sub.mk (by simp[Zj,AS.vecT]) (by simp[Zj,AS.vecT,Wk.box,wkX,lotsP])) (vecT 37 3 1 7 rfl (by decide)),0,Zx0 _,rfl,rfl⟩ ?_;rintro J hJ m τ ⟨k,hk,rfl,rfl⟩;by_cases hlt:k<w.lots.length
  ·obtain⟨x,hx⟩:∃x,w.lots[k]?=some x:=⟨w.lots[k],ZxL hlt⟩;have hg:(w.lots.map Lt.pv)[k]?=some x.pv:=by rw[ZxM,hx];rfl
   simp only[Lt.pv]at hg;have hxo:=hok.lt x (ZxQ hx);have hrc:=Zgi w.certs w.bad (lotsP w.lots) w.tests (runsP w.runs) x hok.c hok.b hok.t hxo.2.2.1 hxo.2.2.2 hok.fit;have hir:(x.passed&&!decide (verdL w.certs w.bad w.tests x=1))=Zv w x:=rfl;rw[hir]at hrc;rw[Lt.pv]at hrc;have hw:=wrapK (k:=k) (by omega);have hrl:=ZkB (w:=w) (k:=k);have h1:(Zx w k).length+1≤1000000:=by omega
   have hn:=hJ (w.lots.length-(k+1)) _ ⟨k+1,hlt,rfl,rfl⟩;rw[Zm8 hx]at hn;have hmeas:w.lots.length-(k+1)<w.lots.length-k:=by omega
   generalize Zx w k=RL at hn h1 ⊢;simp[-getElem?_pos,-List.getElem?_map,Zj,Wk.box,wkX,lotsP,hlt,hg,nblt,nble,setAt];refine cM [.ptr (.par 0) 0,.pv (.agg [.int .i64 x.num,.int .i64 x.pieces,.int .i64 x.limit,.bool x.passed])] [(.par 0,wkX (ctsP w.certs) (bdsP w.bad) (lotsP w.lots) (ttsP w.tests) (runsP w.runs))] 32 [.loc 17 0] (by simp[wkX,lotsP]) hrc (by simp[wkX]) ?_;cases hb:Zv w x with
   |true=>
    rw[hb,if_pos rfl]at hn;simp[-getElem?_pos,wkX,h1,nble,hw];exact⟨_,_,hmeas,Sub.mk (by simp[Zj]) (by simp[Zj,Wk.box,wkX,lotsP,iP]),hn⟩
   |false=>
    rw[hb,if_neg (by simp),Zx9]at hn;simp[-getElem?_pos,wkX,nble,hw];exact⟨_,_,hmeas,Sub.mk (by simp[Zj]) (by simp[Zj,Wk.box,wkX,lotsP]),hn⟩
  ·have he:k=w.lots.length:=by omega
   subst he;have hm:List.take (Zx w w.lots.length).length ((Zx w w.lots.length).map iP)=(Zx w w.lots.length).map iP:=ZxW (by simp);simp[-getElem?_pos,Zj,Wk.box,wkX,hm];rw[←hR];exact⟨_,rfl,by simp,fun m v h=>h⟩
 ·have h3:=Zd8 hc;rw[h3]at hch;rw[if_neg hc]at hR;simp[-getElem?_pos,L22];refine cG [strsP L] hch ?_;simp[-getElem?_pos];rw[←hR];exact⟨_,rfl,rfl,Zbw 5 _ _ rfl⟩
end
section
theorem Zmp {F:Nat}(hF:407<F)(L:List ByteArray)(hl:L.length≤1000000):Gives Tryz.prog 22 [strsP L] (rclE (doB F) L):=Zmo (Zd6 hF) wk0_I Zke L hl
end
section
attribute [local simp] retFz frzL AS.frz AV.frz AV.frzL Box.frz AS.tidy AS.ZvF frzsL retOk renB toLoc
theorem ZmZ {s:ByteArray}{k:Nat}{b:UInt8}(h:s.data.toList[k]?=some b):sAt s (k:Int)=some b:=by
 unfold sAt;rw[Zyu]at h;obtain⟨hl,he⟩:=Zx8.1 h;have hk:k<s.size:=hl;rw[if_pos (by omega),Int.toNat_natCast,getElem?_pos s k hk];exact congrArg some he
section
variable {D:Wk→ByteArray→Wk×Int}
def Still (D:Wk→ByteArray→Wk×Int):Prop:=∀st s,(D st s).2≠0→(D st s).1=st
theorem ZlP {st:Wk}(r:Except Int Wk)(h:(st.next r).2≠0):(st.next r).1=st:=by
 cases r with
 |ok w=>exact absurd rfl h
 |error e=>rfl
theorem Zov {F:Nat}:Still (doB F):=fun st s h=>ZlP _ h
end
end
section
theorem ZuU {b:Bk}(hb:b.ok){item day:Int}(h0:0≤item)(h1:item<b.items.length)(h2:0≤day)(h3:day≤1000):b.Zv1 item day=if b.Zva item day=true then 0 else 10:=by
 unfold Bk.Zv1 Bk.Zvb inB;rw[Bk.Zvx.2 hb,decide_eq_true h0,decide_eq_true (show item≤(b.items.length:Int)-1 by omega),decide_eq_true h2,decide_eq_true h3];rfl
attribute [local irreducible] Bk.held Bk.nums Bk.Zvi Bk.span
section
variable {b b':Bk}
end
end
section
section
attribute [local irreducible] Bk.Zvh earlE Bk.contra Bk.held Bk.span Bk.nums Bk.Zva
theorem ZhN {b:Bk}{i d:Int}:(b.Zvq i d).2=b.Zv1 i d:=by
 unfold Bk.Zvq;split
 ·rename_i h;rw[h]
  split<;>rfl
 ·rfl
theorem Zt3 {l:List Ct}{bad:List Int}(hl:Bk.ok ⟨Za0,l⟩){i d:Int}(h0:0≤i)(h1:i≤5)(h2:0≤d)(h3:d≤1000):
  ((Zam l bad).Zvq i d).2=if stM l bad i d=true then 0 else 10:=by
 have hb:=Zda (bad:=bad) hl;have h:=ZuU hb h0 (show i<((Zam l bad).items.length:Int) by show i<(6:Int);omega) h2 h3;have hs:stM l bad i d=decide ((Zam l bad).Zv1 i d=0):=by unfold stM;rw[ZhN]
 rw[ZhN,hs,h]
 split<;>rfl
theorem Zsj {l:List Ct}{bad:List Int}{i d:Int}(hc:(Zam l bad).contra=false)(h:stM l bad i d=true):((Zam l bad).Zvf i d).2=0:=by
 unfold stM at h;rw[ZhN]at h;unfold Bk.Zvf;rw[if_pos (of_decide_eq_true h),hc];rfl
end
def ZK (S:Int→Int→Bool)(G:Tt→Bool)(num:Int):List Tt→List Bool→Int×Nat
 |[],rs=>(3,rs.length)
 |t::l,rs=>if t.lot=num∧S t.item t.day=true then(if(planM (rs++[!G t])).1=3 then ZK S G num l (rs++[!G t])else((planM (rs++[!G t])).1,(rs++[!G t]).length))else ZK S G num l rs
theorem Zs7 {S:Int→Int→Bool}{G:Tt→Bool}{num:Int}{rs:List Bool}:ZK S G num [] rs=(3,rs.length):=rfl
theorem ZkT {S:Int→Int→Bool}{G:Tt→Bool}{num:Int}{t:Tt}{l:List Tt}{rs:List Bool}:ZK S G num (t::l) rs=if t.lot=num∧S t.item t.day=true then(if(planM (rs++[!G t])).1=3 then ZK S G num l (rs++[!G t])else((planM (rs++[!G t])).1,(rs++[!G t]).length))else ZK S G num l rs:=rfl
theorem Zjv {S:Int→Int→Bool}{G:Tt→Bool}{num:Int}:∀{l:List Tt} {rs:List Bool},(ZK S G num l rs).1=verdM S G num l rs
 |[],rs=>rfl
 |t::l,rs=>by
  rw[ZkT,Zco];split
  ·split
   ·exact Zjv
   ·rfl
  ·exact Zjv
def Zw (rs:List Bool):Prop:=rs.length<2∨(rs.length<4∧saysM (cntB (rs.take 2)) 0 2=3)
theorem ZpL:Zw []:=.inl (by decide)
theorem Zw.len {rs:List Bool}(h:Zw rs):rs.length≤3:=by
 rcases h with h|⟨h,_⟩<;>omega
theorem Zw.step {rs:List Bool}(h:Zw rs)(b:Bool):(planM (rs++[b])).2.2=0∧((planM (rs++[b])).1=3→Zw (rs++[b])):=by
 have hl:(rs++[b]).length=rs.length+1:=by rw[ZxU];rfl
 rcases h with h|⟨h4,hs⟩
 ·by_cases h1:rs.length+1<2
  ·unfold planM Zw;rw[hl,if_pos h1];exact⟨rfl,fun _=>.inl h1⟩
  ·have h2:rs.length+1=2:=by omega
   unfold planM Zw;rw[hl,if_neg h1,h2];by_cases h3:saysM (cntB ((rs++[b]).take 2)) 0 2=3
   ·rw[if_pos h3,if_pos (by decide)];exact⟨rfl,fun _=>.inr ⟨by decide,h3⟩⟩
   ·rw[if_neg h3,if_neg (by decide)];exact⟨rfl,fun h=>absurd h h3⟩
 ·by_cases h1:rs.length<2
  ·by_cases h1':rs.length+1<2
   ·unfold planM Zw;rw[hl,if_pos h1'];exact⟨rfl,fun _=>.inl h1'⟩
   ·have h2:rs.length+1=2:=by omega
    unfold planM Zw;rw[hl,if_neg h1',h2];by_cases h3:saysM (cntB ((rs++[b]).take 2)) 0 2=3
    ·rw[if_pos h3,if_pos (by decide)];exact⟨rfl,fun _=>.inr ⟨by decide,h3⟩⟩
    ·rw[if_neg h3,if_neg (by decide)];exact⟨rfl,fun h=>absurd h h3⟩
  ·have ht:(rs++[b]).take 2=rs.take 2:=List.take_append_of_le_length (by omega);unfold planM Zw;rw[hl,if_neg (by omega),ht,if_pos hs];by_cases h3:rs.length+1<4
   ·rw[if_pos h3];exact⟨rfl,fun _=>.inr ⟨h3,hs⟩⟩
   ·rw[if_neg h3,if_neg (by omega)];refine⟨rfl,fun h=>?_⟩;exfalso;revert h;show saysM _ 1 2≠3;unfold saysM;split
    ·decide
    ·split
     ·decide
     ·omega
theorem Zg2 {S:Int→Int→Bool}{G:Tt→Bool}{num:Int}:∀{l m:List Tt} {rs:List Bool},(∀t∈m,t.lot≠num)→verdM S G num (l++m) rs=verdM S G num l rs
 |[],m,rs,h=>by
  rw[List.nil_append,ZhV];induction m with
  |nil=>rfl
  |cons t m ih=>
   rw[Zco,if_neg (fun hh=>h t (List.mem_cons_self ..) hh.1)];exact ih fun x hx=>h x (List.mem_cons_of_mem _ hx)
 |t::l,m,rs,h=>by
  rw[List.cons_append,Zco,Zco,Zg2 h,Zg2 h]
end
end
section
def Zz (len:Nat)(ds:List UInt8):Option Nat:=if ds.length=0∨9<ds.length∨(ds.head?=some 48∧1<len)then none else Lib.decFrom 0 ds
def Zk (s:ByteArray):Option Int:=match s.data.toList with
 |45::r=>(Zz (r.length+1) r).map fun(n:Nat)=>-(n:Int)
 |l=>(Zz l.length l).map fun(n:Nat)=>(n:Int)
theorem Zd1 {b:UInt8}:∀{l:List UInt8} {acc:Nat},Lib.decFrom acc (l++[b])=(Lib.decFrom acc l).bind fun n=>(Lib.digitVal b).map fun d=>n*10+d
 |[],acc=>by
  simp only[List.nil_append,Lib.decFrom,Option.bind_some];cases Lib.digitVal b<;>rfl
 |x::l,acc=>by
  simp only[List.cons_append,Lib.decFrom];cases Lib.digitVal x with
  |none=>rfl
  |some d=>exact Zd1 (l:=l)
theorem Zox {d:Nat}(h:d<10):Lib.digitVal (UInt8.ofNat (48+d))=some d:=by
 unfold Lib.digitVal;have e:(UInt8.ofNat (48+d)).toNat=48+d:=by rw[UInt8.toNat_ofNat'];omega
 rw[e,if_pos (by omega)];congr 1;omega
theorem ZrE {b:UInt8}{d:Nat}(h:Lib.digitVal b=some d):d<10∧b=UInt8.ofNat (48+d):=by
 unfold Lib.digitVal at h;split at h
 ·rename_i hb;cases h;refine⟨by omega,UInt8.toNat_inj.1 ?_⟩;rw[UInt8.toNat_ofNat'];omega
 ·cases h
theorem ZdA {u:Nat}(h:u<10):Lib.decDigits u=[UInt8.ofNat (48+u)]:=Lib.decDigits_one h
theorem Zf0 {u:Nat}(h:¬u<10):Lib.decDigits u=Lib.decDigits (u / 10)++[UInt8.ofNat (48+u%10)]:=by
 conv=>lhs;rw[Lib.decDigits,dif_neg h]
theorem ZhJ (u:Nat):Lib.decFrom 0 (Lib.decDigits u)=some u:=by
 induction u using Nat.strongRecOn with
 |_ u ih=>
  by_cases h:u<10
  ·rw[ZdA h];simp only[Lib.decFrom,Zox h];congr 1;omega
  ·rw[Zf0 h,Zd1,ih (u / 10) (by omega),Option.bind_some,Zox (Nat.mod_lt _ (by decide)),Zyq];congr 1;omega
theorem ZfZ (u:Nat):Lib.decDigits u≠[]:=by
 by_cases h:u<10
 ·rw[ZdA h];simp
 ·rw[Zf0 h];simp
theorem ZqB (u:Nat):(Lib.decDigits u).head?=some 48→u=0:=by
 induction u using Nat.strongRecOn with
 |_ u ih=>
  intro hh;by_cases h:u<10
  ·rw[ZdA h]at hh;simp only[List.head?_cons,Option.some.injEq]at hh
   have:=congrArg UInt8.toNat hh
   rw[UInt8.toNat_ofNat']at this;have e:(48:UInt8).toNat=48:=rfl;omega
  ·rw[Zf0 h]at hh;have h2:(Lib.decDigits (u / 10)++[UInt8.ofNat (48+u%10)]).head?=(Lib.decDigits (u / 10)).head?:=by
    cases hd:Lib.decDigits (u / 10)with
    |nil=>exact absurd hd (ZfZ _)
    |cons c t=>rfl
   rw[h2]at hh
   have:=ih (u / 10) (by omega) hh
   omega
theorem Z4:∀(k:Nat) (ds:List UInt8) (n:Nat),ds.length≤k→Lib.decFrom 0 ds=some n→ds≠[]→(ds.head?=some 48→ds.length=1)→ds=Lib.decDigits n
 |0,ds,n,hk,_,hne,_=>absurd (List.length_eq_zero_iff.1 (by omega)) hne
 |k+1,ds,n,hk,hf,hne,hh=>by
  obtain⟨l,b,rfl⟩:∃l b,ds=l++[b]:=⟨ds.dropLast,ds.getLast hne,(List.dropLast_concat_getLast hne).symm⟩;rw[Zd1]at hf;rw[ZxU,List.length_singleton]at hk;cases hl:Lib.decFrom 0 l with
  |none=>rw[hl]at hf;cases hf
  |some v=>
   rw[hl,Option.bind_some]at hf;obtain⟨d,hd,rfl⟩:=ZxP.1 hf;obtain⟨hd1,rfl⟩:=ZrE hd;by_cases hnil:l=[]
   ·subst hnil;cases hl;rw[Nat.zero_mul,Zyj,ZdA hd1];rfl
   ·have hhl:l.head?≠some 48:=fun e=>by
     have h1:(l++[UInt8.ofNat (48+d)]).head?=some 48:=by
      cases l with
      |nil=>exact absurd rfl hnil
      |cons c t=>exact e
     have h2:=hh h1;rw[ZxU,List.length_singleton]at h2;exact hnil (List.length_eq_zero_iff.1 (by omega))
    have hcl:=Z4 k l v (by omega) hl hnil (fun e=>absurd e hhl);have hv:v≠0:=fun e=>by
     subst e;rw[hcl]at hhl;exact hhl (by rw[ZdA (by decide)];rfl)
    rw[Zf0 (by omega),show(v*10+d) / 10=v by omega,show(v*10+d)%10=d by omega,←hcl]
theorem ZkS {len:Nat}{ds:List UInt8}{n:Nat}(hlen:ds.length≤len)(h:Zz len ds=some n):ds=Lib.decDigits n∧ds.length≤9∧(1<len→ds.head?≠some 48):=by
 unfold Zz at h;split at h
 ·cases h
 ·rename_i hc;have h1:ds.length≠0:=fun e=>hc (.inl e)
  have h2:ds.length≤9:=Nat.le_of_not_lt fun e=>hc (.inr (.inl e))
  have h3:1<len→ds.head?≠some 48:=fun hl e=>hc (.inr (.inr ⟨e,hl⟩))
  refine⟨Z4 ds.length ds n (ZxR _) h (fun e=>h1 (by rw[e];rfl)) (fun e=>?_),h2,h3⟩;by_cases hl:1<len
  ·exact absurd e (h3 hl)
  ·omega
theorem ZnK {len u:Nat}(hlen:len=1→u<10)(h:(Lib.decDigits u).length≤9)(h0:1<len→u≠0∨len=(Lib.decDigits u).length):Zz len (Lib.decDigits u)=some u:=by
 unfold Zz;rw[if_neg,ZhJ];rintro(e|e|⟨e1,e2⟩)
 ·exact ZfZ u (List.length_eq_zero_iff.1 e)
 ·omega
 ·have:=ZqB u e1
  subst this;rcases h0 e2 with h|h
  ·exact h rfl
  ·rw[h,ZdA (by decide)]at e2;exact absurd e2 (by decide)
theorem Zre (k:Nat)(h:(Lib.decDigits k).length≤9):Lib.atoiAll (Lib.decDigits k)=.ok (k:Int):=by
 rw[Lib.atoiAll_short _ (by omega)];have hno:=Zlk k;have hf:=ZhJ k;have hne:=ZfZ k;cases hd:Lib.decDigits k with
 |nil=>exact absurd hd hne
 |cons c r=>
  rw[hd]at hf;have h45:c≠45:=hno c (by rw[hd];exact List.mem_cons_self ..);have h43:c≠43:=fun e=>by
   subst e;simp only[Lib.decFrom]at hf
   have:Lib.digitVal 43=none:=by decide
   rw[this]at hf;cases hf
  have e45:(c==45)=false:=by simpa using h45
  have e43:(c==43)=false:=by simpa using h43
  simp only[Lib.atoi,e45,e43,Lib.decNat,List.isEmpty_cons,Bool.false_eq_true,if_false,hf,Zyq];rfl
theorem Zrd (k:Nat)(h:(Lib.decDigits k).length≤9):Lib.atoiAll (45::Lib.decDigits k)=.ok (-(k:Int)):=by
 rw[Lib.atoiAll_short _ (by rw[Zyg];omega)];have hf:=ZhJ k;have hne:=ZfZ k;have he:(Lib.decDigits k).isEmpty=false:=by
  cases hd:Lib.decDigits k with
  |nil=>exact absurd hd hne
  |cons c r=>rfl
 simp only[Lib.atoi,Lib.decNat,he,Bool.false_eq_true,if_false,hf,Zyq];rfl
theorem Zki (k:Nat):Lib.trimPrefix (Lib.decDigits k) [45]=Lib.decDigits k:=by
 have hno:=Zlk k;cases hd:Lib.decDigits k with
 |nil=>rfl
 |cons c r=>
  have hc:c≠45:=hno c (by rw[hd];exact List.mem_cons_self ..);simp[Lib.trimPrefix,Lib.hasPrefix,hc]
  try exact fun e=>absurd e.symm hc
theorem Zkh (l:List UInt8):Lib.trimPrefix (45::l) [45]=l:=by simp[Lib.trimPrefix,Lib.hasPrefix]
theorem ZnB {s:ByteArray}{v:Int}(h1:s.data.toList=Lib.itoa v)(h2:Lib.atoiAll (Lib.itoa v)=.ok v)(h3:(Lib.trimPrefix (Lib.itoa v) [45]).length≤9):numB s=some v:=by
 unfold numB;rw[h1,h2];have e:itoaB v=s:=by
  unfold itoaB;rw[←h1]
 have e2:(trimB s ⟨#[45]⟩).size≤9:=by
  show(Lib.trimPrefix s.data.toList [45]).length≤9;rw[h1];exact h3
 exact if_pos ⟨e,e2⟩
theorem Zug {s:ByteArray}{v:Int}(h:Zk s=some v):numB s=some v:=by
 unfold Zk at h;split at h
 ·rename_i r hr;obtain⟨n,hn,rfl⟩:=ZxP.1 h;obtain⟨g1,g2,g3⟩:=ZkS (Nat.le_succ _) hn;have hn0:n≠0:=fun e=>by
   subst e
   have:r.length≠0:=fun e=>by
    unfold Zz at hn;rw[if_pos (.inl e)]at hn;cases hn
   exact g3 (by omega) (by rw[g1,ZdA (by decide)];rfl)
  have hi:Lib.itoa (-(n:Int))=45::Lib.decDigits n:=Lib.itoa_neg n (by omega);rw[g1]at g2;exact ZnB (by rw[hi,hr,g1]) (by rw[hi];exact Zrd n g2) (by rw[hi,Zkh];exact g2)
 ·rename_i l hl;obtain⟨n,hn,rfl⟩:=ZxP.1 h;obtain⟨g1,g2,_⟩:=ZkS (ZxR _) hn;have hi:Lib.itoa (n:Int)=Lib.decDigits n:=Lib.itoa_nonneg n;have g2':=g2;rw[g1]at g2';exact ZnB (by rw[hi,←g1]) (by rw[hi];exact Zre n g2') (by rw[hi,Zki];exact g2')
theorem Zuh {s:ByteArray}{v:Int}(h:numB s=some v):Zk s=some v:=by
 unfold numB at h;split at h
 ·split at h
  ·rename_i u _ hc;cases h;obtain⟨h1,h2⟩:=hc;have hs:s.data.toList=Lib.itoa v:=by rw[←h1];rfl
   have h3:(Lib.trimPrefix s.data.toList [45]).length≤9:=h2;rw[hs]at h3;unfold Zk;rw[hs];by_cases hneg:v<0
   ·obtain⟨k,rfl⟩:∃k:Nat,v = -(k:Int):=⟨v.natAbs,by omega⟩;rw[Lib.itoa_neg k (by omega)]at h3 ⊢;rw[Zkh]at h3;show(Zz ((Lib.decDigits k).length+1) (Lib.decDigits k)).map (fun(n:Nat)=>-(n:Int))=_;rw[ZnK (fun e=>absurd e (by have:=List.length_pos_iff.2 (ZfZ k);omega)) h3 (fun _=>.inl (by omega))];rfl
   ·obtain⟨k,rfl⟩:∃k:Nat,v=(k:Int):=⟨v.toNat,by omega⟩;rw[Lib.itoa_nonneg]at h3 ⊢;rw[Zki]at h3;have hm:=ZnK (len:=(Lib.decDigits k).length) (u:=k) (fun e=>by
     by_cases hk:k<10
     ·exact hk
     ·rw[Zf0 hk,ZxU,List.length_singleton]at e
      have:=List.length_pos_iff.2 (ZfZ (k / 10))
      omega) h3 (fun _=>.inr rfl)
    have hno:=Zlk k;cases hd:Lib.decDigits k with
    |nil=>exact absurd hd (ZfZ k)
    |cons c r=>
     rw[hd]at hm;have hc:c≠45:=hno c (by rw[hd];exact List.mem_cons_self ..);split
     ·rename_i r' e;exact absurd (List.cons.inj e).1 hc
     ·rw[hm];rfl
  ·cases h
 ·cases h
theorem Zuf (s:ByteArray):Zk s=numB s:=by
 cases h:Zk s with
 |some v=>exact(Zug h).symm
 |none=>
  cases h2:numB s with
  |none=>rfl
  |some v=>rw[Zuh h2]at h;cases h
def Zbp:List UInt8→List (List UInt8)
 |[]=>[[]]
 |c::r=>if c=32 then[]::Zbp r else match Zbp r with
  |h::t=>(c::h)::t
  |[]=>[[c]]
theorem ZbZ (c:UInt8)(r:List UInt8):Zbp (c::r)=if c=32 then[]::Zbp r else match Zbp r with
  |h::t=>(c::h)::t
  |[]=>[[c]]:=rfl
theorem Zk6:∀l:List UInt8,(Lib.index l [32] = -1∧Zbp l=[l])∨∃i:Nat,Lib.index l [32]=(i:Int)∧i<l.length∧Zbp l=l.take i::Zbp (l.drop (i+1))
 |[]=>.inl ⟨by decide,rfl⟩
 |c::r=>by
  by_cases hc:c=32
  ·subst hc;refine .inr ⟨0,?_,by simp,?_⟩
   ·simp[Lib.index]
   ·simp[Zbp]
  ·have hp:([32]:List UInt8).isPrefixOf (c::r)=false:=by
    simp[List.isPrefixOf];exact fun e=>absurd e.symm hc
   rcases Zk6 r with⟨h1,h2⟩|⟨i,h1,h2,h3⟩
   ·refine .inl ⟨?_,?_⟩
    ·unfold Lib.index;rw[hp,h1];rfl
    ·rw[ZbZ,if_neg hc,h2]
   ·refine .inr ⟨i+1,?_,by rw[Zyg];omega,?_⟩
    ·unfold Lib.index;rw[hp,h1]
     have:((i:Int)==-1)=false:=by
      rw[beq_eq_false_iff_ne];omega
     rw[this];simp
    ·rw[ZbZ,if_neg hc,h3];rfl
theorem Zko:∀(k:Nat) (l:List UInt8),Lib.count l [32]=k→Lib.splitK [32] 0 k l=Zbp l
 |k,l,hk=>by
  rcases Zk6 l with⟨h1,h2⟩|⟨i,h1,h2,h3⟩
  ·have h0:k=0:=by rw[←hk];exact Lib.count_miss h1
   subst h0;rw[h2];rfl
  ·have hc:=Lib.count_hit (s:=l) (sub:=[32]) (by simp) h1;rw[hk]at hc;cases k with
   |zero=>omega
   |succ k=>
    have hk':Lib.count (l.drop (i+[32].length)) [32]=k:=by omega
    have ih:=Zko k (l.drop (i+1)) hk';unfold Lib.splitK;rw[h1]
    have:((i:Int)==-1)=false:=by
     rw[beq_eq_false_iff_ne];omega
    rw[this,h3];simp only[Bool.false_eq_true,if_false,Nat.add_zero,List.length_singleton,Int.toNat_natCast];rw[ih]
termination_by k=>k
theorem Zpg (s:ByteArray):(Za8 s blank).map (·.data.toList)=Zbp s.data.toList:=by
 unfold Za8;rw[Lib.splitB_data];exact Zko _ _ rfl
theorem Zff:∀{l r:List UInt8},(∀c∈l,c≠32)→Zbp (l++32::r)=l::Zbp r
 |[],r,_=>by
  rw[List.nil_append,ZbZ,if_pos rfl]
 |c::l,r,h=>by
  rw[List.cons_append,ZbZ,if_neg (h c (List.mem_cons_self ..)),Zff (fun x hx=>h x (List.mem_cons_of_mem _ hx))]
theorem Zfg:∀{l:List UInt8},(∀c∈l,c≠32)→Zbp l=[l]
 |[],_=>rfl
 |c::l,h=>by
  rw[ZbZ,if_neg (h c (List.mem_cons_self ..)),Zfg (fun x hx=>h x (List.mem_cons_of_mem _ hx))]
theorem Zmj {a b:ByteArray}(h:a.data.toList=b.data.toList):a=b:=ByteArray.ext (Zyv.1 h)
theorem ZeJ:∀{l m:List ByteArray},l.map (·.data.toList)=m.map (·.data.toList)→l=m
 |[],[],_=>rfl
 |[],b::m,h=>by cases h
 |a::l,[],h=>by cases h
 |a::l,b::m,h=>by
  simp only[ZxZ,List.cons.injEq]at h;rw[Zmj h.1,ZeJ h.2]
attribute [local irreducible] Bk.Zvh earlE Bk.contra Bk.held Bk.span Bk.nums Bk.Zva stM verdM
theorem Zdi {α β:Type}{f:α→β}{r:Except Int α}{e:Int}(h:r.map f=.error e):r=.error e:=by
 cases r with
 |ok a=>cases h
 |error x=>cases h;rfl
theorem Zts {F:Nat}{st:Wk}{g:FuncId}{nums:List Int}{e:Int}(h:doW F st g nums=.error e):e≠0:=by
 unfold doW at h;split at h
 ·split at h
  ·have h:=Zdi h;unfold certM at h
   repeat' split at h
   all_goals cases h
   all_goals first|assumption|decide
  ·cases h;decide
 split at h
 ·split at h
  ·have h:=Zdi h;unfold badM at h
   repeat' split at h
   all_goals cases h
   all_goals decide
  ·cases h;decide
 split at h
 ·split at h
  ·have h:=Zdi h;unfold lotM at h
   repeat' split at h
   all_goals cases h
   all_goals decide
  ·cases h;decide
 split at h
 ·split at h
  ·have h:=Zdi h;unfold testM at h
   repeat' split at h
   all_goals cases h
   all_goals decide
  ·cases h;decide
 split at h
 ·split at h
  ·have h:=Zdi h;unfold passM at h
   repeat' split at h
   all_goals cases h
   all_goals decide
  ·cases h;decide
 split at h
 ·have h:=Zdi h;unfold runM at h
  repeat' split at h
  all_goals cases h
  all_goals first|assumption|decide
 ·cases h;decide
theorem ZnP {F:Nat}{st:Wk}{s:ByteArray}(h:(doB F st s).2=0):∃g nums,ZaD s=some (g,nums)∧doW F st g nums=.ok (doB F st s).1:=by
 unfold doB lineM at *;cases hp:ZaD s with
 |none=>rw[hp]at h;cases h
 |some q=>
  obtain⟨g,nums⟩:=q;rw[hp]at h;refine⟨g,nums,rfl,?_⟩;dsimp only at h ⊢;cases hd:doW F st g nums with
  |error e=>rw[hd]at h;exact absurd h (Zts hd)
  |ok w=>rfl
theorem Zuq {k:Nat}{st:Wk}(h:WkI k st){i j:Nat}{x y:Lt}(hx:st.lots[i]?=some x)(hy:st.lots[j]?=some y)(e:y.num=x.num):j=i:=by
 obtain⟨l1,e1⟩:=ZxN.1 hx;obtain⟨l2,e2⟩:=ZxN.1 hy;have hp:=ZyE.1 h.s;rcases Nat.lt_trichotomy i j with hlt|heq|hgt
 ·have:=hp _ _ (by rw[ZxS];exact l1) (by rw[ZxS];exact l2) hlt
  rw[List.getElem_map,List.getElem_map,e1,e2]at this;omega
 ·exact heq.symm
 ·have:=hp _ _ (by rw[ZxS];exact l2) (by rw[ZxS];exact l1) hgt
  rw[List.getElem_map,List.getElem_map,e1,e2]at this;omega
theorem Zjz {k:Nat}{st:Wk}(h:WkI k st){x y:Lt}(hx:x∈st.lots)(hy:y∈st.lots)(e:x.num=y.num):x=y:=by
 obtain⟨i,hi⟩:=List.getElem?_of_mem hx;obtain⟨j,hj⟩:=List.getElem?_of_mem hy;rw[Zuq h hi hj e.symm,hi]at hj;exact Option.some.inj hj
theorem ZsM {st:Wk}{s:ByteArray}{nums:List Int}(hp:ZaD s=some (191,nums))(h:(doB 408 st s).2=0):
  ∃x,nums=[x.num]∧x∈st.lots∧x.passed=false∧verdL st.certs st.bad st.tests x=1∧{ x with passed:=true }∈(doB 408 st s).1.lots∧(doB 408 st s).1.certs=st.certs∧(doB 408 st s).1.bad=st.bad∧(doB 408 st s).1.tests=st.tests:=by
 obtain⟨g,ns,h1,h2⟩:=ZnP h;rw[hp]at h1;cases h1;unfold doW at h2;rw[if_neg (by decide),if_neg (by decide),if_neg (by decide),if_neg (by decide),if_pos rfl]at h2;split at h2
 ·rename_i n;obtain⟨l,k1,k2⟩:=ZaP h2;obtain⟨i,x,hx,rfl,hf,hv,rfl⟩:=Zhf k1;rw[k2];exact⟨x,rfl,ZxQ hx,hf,hv,ZxQ (ZyA (ZxN.1 hx).1),rfl,rfl,rfl⟩
 ·cases h2
structure ZQ (x:Lt)(st w:Wk):Prop where
 m:x∈w.lots
 t:∃r,w.tests=st.tests++r∧∀q∈r,q.lot≠x.num
theorem ZnU {k:Nat}{st w:Wk}{x:Lt}{g:FuncId}{nums:List Int}(hW:WkI k st)(hx:x∈st.lots)(hp:x.passed=true)(hd:doW 408 st g nums=.ok w):
  ZQ x st w∧(g=191→nums≠[x.num])∧(g≠187→g≠188→w.certs=st.certs∧w.bad=st.bad):=by
 have t0:∃r,st.tests=st.tests++r∧∀q∈r,q.lot≠x.num:=⟨[],(Zx9 _).symm,fun q hq=>by cases hq⟩;unfold doW at hd;split at hd
 ·rename_i hg;split at hd
  ·obtain⟨l,h1,rfl⟩:=ZaP hd;exact⟨⟨hx,t0⟩,fun h=>by rw[hg]at h;exact absurd h (by decide),fun h=>absurd hg h⟩
  ·cases hd
 split at hd
 ·rename_i hg;split at hd
  ·obtain⟨l,h1,rfl⟩:=ZaP hd;exact⟨⟨hx,t0⟩,fun h=>by rw[hg]at h;exact absurd h (by decide),fun _ h=>absurd hg h⟩
  ·cases hd
 split at hd
 ·rename_i hg;split at hd
  ·obtain⟨l,h1,rfl⟩:=ZaP hd;obtain⟨_,_,rfl⟩:=ZnN h1;exact⟨⟨Zdh.2 (.inr hx),t0⟩,fun h=>by rw[hg]at h;exact absurd h (by decide),fun _ _=>⟨rfl,rfl⟩⟩
  ·cases hd
 split at hd
 ·rename_i hg;split at hd
  ·rename_i a b c d;obtain⟨l,h1,rfl⟩:=ZaP hd;obtain⟨rfl,_,_,y,hy,e,hf,_⟩:=Zkk h1;refine⟨⟨hx,[⟨a,b,c,d⟩],rfl,fun q hq=>?_⟩,fun h=>by rw[hg]at h;exact absurd h (by decide),fun _ _=>⟨rfl,rfl⟩⟩;cases Zyi.1 hq;intro he
   have:=Zjz hW hx hy (by rw[e];exact he.symm)
   subst this;rw[hp]at hf;cases hf
  ·cases hd
 split at hd
 ·split at hd
  ·rename_i n;obtain⟨l,h1,rfl⟩:=ZaP hd;obtain⟨i,y,hy,rfl,hf,_,rfl⟩:=Zhf h1;have hne:x≠y:=fun h=>by subst h;rw[hp]at hf;cases hf
   refine⟨⟨?_,t0⟩,fun _ h=>hne ?_,fun _ _=>⟨rfl,rfl⟩⟩
   ·obtain⟨j,hj⟩:=List.getElem?_of_mem hx;have hij:i≠j:=fun h=>by subst h;rw[hy]at hj;exact hne (Option.some.inj hj).symm
    exact ZxQ (show(st.lots.set i _)[j]?=some x by rw[ZyC hij];exact hj)
   ·exact Zjz hW hx (ZxQ hy) (List.cons.inj h).1.symm
  ·cases hd
 ·rename_i hg;split at hd
  ·obtain⟨l,h1,rfl⟩:=ZaP hd;exact⟨⟨hx,t0⟩,fun h=>absurd h hg,fun _ _=>⟨rfl,rfl⟩⟩
  ·cases hd
theorem ZQ.trans {x:Lt}{a b c:Wk}(h1:ZQ x a b)(h2:ZQ x b c):ZQ x a c:=by
 obtain⟨r,e1,k1⟩:=h1.t;obtain⟨q,e2,k2⟩:=h2.t;refine⟨h2.m,r++q,by rw[e2,e1,List.append_assoc],fun t ht=>?_⟩;rcases Zyp.1 ht with h|h
 ·exact k1 t h
 ·exact k2 t h
theorem ZnV {k:Nat}{st:Wk}{x:Lt}{s:ByteArray}(hW:WkI k st)(hx:x∈st.lots)(hp:x.passed=true):
  ZQ x st (doB 408 st s).1∧(ZaD s=some (191,[x.num])→(doB 408 st s).2≠0)∧(((doB 408 st s).2=0→∀g nums,ZaD s=some (g,nums)→g≠187∧g≠188)→(doB 408 st s).1.certs=st.certs∧(doB 408 st s).1.bad=st.bad):=by
 by_cases h:(doB 408 st s).2=0
 ·obtain⟨g,nums,h1,h2⟩:=ZnP h;obtain⟨k1,k2,k3⟩:=ZnU hW hx hp h2;refine⟨k1,fun hh=>?_,fun hh=>?_⟩
  ·rw[h1]at hh;cases hh;exact absurd rfl (k2 rfl)
  ·obtain⟨a,b⟩:=hh h g nums h1;exact k3 a b
 ·have e:(doB 408 st s).1=st:=Zov st s h;rw[e];exact⟨⟨hx,[],(Zx9 _).symm,fun q hq=>by cases hq⟩,fun _=>h,fun _=>⟨rfl,rfl⟩⟩
theorem Ziu {x:Lt}(hp:x.passed=true):∀{L:List ByteArray} {k:Nat} {st:Wk},WkI k st→x∈st.lots→
  ZQ x st (foldD (doB 408) st L).1∧(∀(i:Nat) (s:ByteArray),L[i]?=some s→ZaD s=some (191,[x.num])→(foldD (doB 408) st L).2[i]?≠some 0)∧
  ((∀(i:Nat) (s:ByteArray),L[i]?=some s→(foldD (doB 408) st L).2[i]?=some 0→∀g nums,ZaD s=some (g,nums)→g≠187∧g≠188)→(foldD (doB 408) st L).1.certs=st.certs∧(foldD (doB 408) st L).1.bad=st.bad)
 |[],k,st,hW,hx=>⟨⟨hx,[],(Zx9 _).symm,fun q hq=>by cases hq⟩,fun i s h=>by simp at h,fun _=>⟨rfl,rfl⟩⟩
 |s::L,k,st,hW,hx=>by
  obtain⟨a1,a2,a3⟩:=ZnV (s:=s) hW hx hp;obtain⟨b1,b2,b3⟩:=Ziu hp (L:=L) (hW.next (F:=408) s) a1.m;refine⟨a1.trans b1,fun i z hi hz=>?_,fun h=>?_⟩
  ·cases i with
   |zero=>
    simp only[List.getElem?_cons_zero,Option.some.injEq]at hi;subst hi;show some (doB 408 st s).2≠some 0;exact fun e=>a2 hz (Option.some.inj e)
   |succ i=>exact b2 i z (by simpa using hi) hz
  ·obtain⟨c1,c2⟩:=b3 fun i z hi he=>h (i+1) z (by simpa using hi) (by simpa[foldD]using he)
   obtain⟨d1,d2⟩:=a3 fun he=>h 0 s rfl (by show some (doB 408 st s).2=some 0;rw[he])
   exact⟨c1.trans d1,c2.trans d2⟩
theorem ZsW {k:Nat}{st w:Wk}{x:Lt}(hW:WkI k w)(hk:ZQ { x with passed:=true } st w)(hv:verdL st.certs st.bad st.tests x=1)(h1:w.certs=st.certs)(h2:w.bad=st.bad):x.num∉Zx w w.lots.length:=by
 intro h;unfold Zx at h;rw[Zye,ZxY]at h;obtain⟨y,hy,e⟩:=h;obtain⟨hm,hr⟩:=ZxX.1 hy
 have:=Zjz hW hm hk.m e
 subst this;obtain⟨r,hr1,hr2⟩:=hk.t;have e2:verdL w.certs w.bad w.tests { x with passed:=true }=verdL st.certs st.bad st.tests x:=by
  unfold verdL;rw[h1,h2,hr1];exact Zg2 hr2
 unfold Zv at hr;rw[e2,hv]at hr;cases hr
end
section
attribute [local simp] AS.exp expG Box.ren AV.map AV.Zu9 Zau noRet Site.Zu6 Box.Zu3 AV.Zu3 AV.Zu4 retB dropL AS.Zvd renL outG outOk Zas inG fnOf lookA Zyc
attribute [local simp] Box.Zu0 Site.Zu1
section
attribute [local simp] retFz frzL AS.frz AV.frz AV.frzL Box.frz AS.tidy AS.ZvF frzsL retOk renB toLoc
def ZfQ:List PV:=Za0.map It.pv
def ZX (k:Nat):List (Nat×AV):=[(1,.ptr (.loc 1 0) 0),(2,.ptr (.loc 2 0) 0),(3,.ptr (.loc 3 0) 0),(4,.pv (.int .i64 (k:Int)))]
def ZW (w:Wk)(Y:List Ct):List (Site×Box):=[(.loc 55 0,.arr 47 7 (Y.map Ct.pv)),(.loc 14 0,.arr 116 4 ZfQ),(.loc 3 0,.cells [.vec (.loc 14 0) 4 0 6,.vec (.loc 55 0) 7 0 Y.length]),(.loc 1 0,.cells w.cells),(.loc 2 0,.cells [.pv (.emp (some true)),.pv (.emp (some true))])]
def rgS (w:Wk)(k:Nat):AS:=⟨ZX k,ZW w (goodC (w.certs.take k) w.bad)⟩
def rgJ (w:Wk)(Y:List Ct)(x:Ct)(k j:Nat):AS:=⟨(5,.pv (.bool (badP (w.bad.take j) x)))::(6,.pv (.int .i64 (j:Int)))::ZX k,ZW w Y⟩
theorem ZoW {bad:List Int}{j:Nat}{n:Int}{x:Ct}(h:bad[j]?=some n):badP (bad.take (j+1)) x=(badP (bad.take j) x||decide (n=x.num)):=by
 rw[Zyr,Ze5,Zyk,Ze5,Zx6,h];simp[eq_comm]
theorem ZkV (w:Wk)(hl:w.certs.length≤1000)(hb:w.bad.length≤1000):Gives Tryz.prog 20 [w.pv] (Zam w.certs w.bad).pv:=by
 refine cFR [.loc 14 0,.loc 55 0] L20 ?_;intro R hR;simp[-getElem?_pos,L20,Wk.pv,ctsP,bdsP];refine Zaf (fun m τ=>∃k:Nat,k≤w.certs.length∧m=w.certs.length-k∧τ=rgS w k) ⟨w.certs.length,rgS w 0,Sub.trans' (Sub.mk (by simp[rgS,ZX,ZW,AS.vecC]) (by simp[rgS,ZX,ZW,AS.vecC,Wk.cells,ctsP,bdsP,lotsP,ttsP,runsP,ZfQ,Za0,It.pv,goodC])) (vecC 55 47 7 (s:=.loc 3 0) (cs:=[.vec (.loc 14 0) 4 0 6,.pv (.emp (some true))]) 1 rfl rfl (by decide)),0,by omega,rfl,rfl⟩ ?_;rintro J hJ m τ ⟨k,hk,rfl,rfl⟩;by_cases hlt:k<w.certs.length
 ·obtain⟨x,hx⟩:∃x,w.certs[k]?=some x:=⟨w.certs[k],ZxL hlt⟩;have hg:(w.certs.map Ct.pv)[k]?=some (.agg [.int .i64 x.num,.int .i64 x.it,.int .i64 x.src,.int .i64 x.day,.int .i64 x.valid,.int .i64 x.diff.lo,.int .i64 x.diff.hi]):=by rw[ZxM,hx];rfl
  have hw:=wrapK (k:=k) (by omega);have hround:=hJ _ _ ⟨k+1,hlt,rfl,rfl⟩;have hmeas:w.certs.length-(k+1)<w.certs.length-k:=by omega
  have hnext:goodC (w.certs.take (k+1)) w.bad=goodC (w.certs.take k) w.bad++(if(!badP w.bad x)=true then[x]else[]):=by
   unfold goodC;rw[Zx6,hx,Zyw];congr 1;simp only[Option.toList,Zyt,List.filter_nil]
  have hpl:(goodC (w.certs.take k) w.bad).length≤1000:=Zx5 (ZyB _ _) (by rw[ZxT];omega);unfold rgS at hround ⊢;rw[hnext]at hround;clear hJ hnext;generalize goodC (w.certs.take k) w.bad=Y at *;simp[-getElem?_pos,-List.getElem?_map,ZX,ZW,Wk.cells,ctsP,bdsP,hlt,hg,nble,nblt,hw];refine Zaf (fun m τ=>∃j:Nat,j≤w.bad.length∧m=w.bad.length-j∧τ=rgJ w Y x k j) ⟨w.bad.length,rgJ w Y x k 0,Sub.mk (by simp[rgJ,ZX,badP]) (by simp[rgJ,ZW,Wk.cells]),0,by omega,rfl,rfl⟩ ?_;rintro J2 hJ2 m2 τ2 ⟨j,hj,rfl,rfl⟩;by_cases hjl:j<w.bad.length
  ·obtain⟨n,hn⟩:∃n,w.bad[j]?=some n:=⟨w.bad[j],ZxL hjl⟩;have hgn:(w.bad.map iP)[j]?=some (.int .i64 n):=by rw[ZxM,hn];rfl
   have hwj:=wrapK (k:=j) (by omega);have hr2:=hJ2 _ _ ⟨j+1,hjl,rfl,rfl⟩;have hm2:w.bad.length-(j+1)<w.bad.length-j:=by omega
   unfold rgJ at hr2 ⊢;rw[ZoW hn]at hr2;clear hJ2;generalize badP (w.bad.take j) x=q at *;cases q with
   |true=>
    simp[-getElem?_pos,-List.getElem?_map,ZX,ZW,Wk.cells,ctsP,bdsP,hjl,hgn,nble,nblt,hwj];exact⟨_,_,hm2,Sub.mk (by simp[ZX]) (by simp[ZW,Wk.cells]),hr2⟩
   |false=>
    simp[-getElem?_pos,-List.getElem?_map,ZX,ZW,Wk.cells,ctsP,bdsP,hjl,hgn,nble,nblt,hwj,hlt,hg];exact⟨_,_,hm2,Sub.mk (by simp[ZX]) (by simp[ZW,Wk.cells]),hr2⟩
  have he:j=w.bad.length:=by omega
  subst he;clear hJ2 hjl hj;unfold rgJ;rw[Zye];have hY:(Y.map Ct.pv).take Y.length=Y.map Ct.pv:=ZxW (by simp);have hY6:Y.length≤999999:=by omega
  cases hbp:badP w.bad x with
  |true=>
   rw[hbp,if_neg (by simp),Zx9]at hround;simp[-getElem?_pos,-List.getElem?_map,ZX,ZW,Wk.cells,ctsP,bdsP,hw];exact⟨_,_,hmeas,Sub.mk (by simp[ZX]) (by simp[ZW,Wk.cells]),hround⟩
  |false=>
   rw[hbp,if_pos (show(!false)=true from rfl)]at hround;simp[-getElem?_pos,-List.getElem?_map,ZX,ZW,Wk.cells,ctsP,bdsP,hw,hlt,hg,nble,nblt,hY,hY6];exact⟨_,_,hmeas,Sub.mk (by simp[ZX]) (by simp[ZW,Wk.cells,Ct.pv]),hround⟩
 have he:k=w.certs.length:=by omega
 subst he;clear hJ;unfold rgS;rw[Zye];have hwp:(Zam w.certs w.bad).pv=.agg [.lst false 4 ZfQ,.lst false 7 ((goodC w.certs w.bad).map Ct.pv)]:=rfl;rw[hwp]at hR;generalize goodC w.certs w.bad=Z at *;have hmZ:(Z.map Ct.pv).take Z.length=Z.map Ct.pv:=ZxW (by simp);have hh:ZfQ.length=6:=rfl;have hh2:ZfQ.take 6=ZfQ:=rfl;simp[-getElem?_pos,-List.getElem?_map,ZX,ZW,Wk.cells,ctsP,bdsP,hmZ,hh,hh2];rw[←hR];exact⟨rfl,rfl⟩
theorem Zld {l:List Ct}{bad:List Int}(hl:l.length≤1000):(Zam l bad).certs.length≤1000:=Zx5 (ZyB _ _) hl
def stE (e:Int):PV:=.tup [.bool (decide (e=0)),.bool (decide (e=0)||decide (e=10))]
theorem ZnM (w:Wk)(hl:w.certs.length≤1000)(hb:w.bad.length≤1000)(lot item day rd:Int):Gives Tryz.prog 17 [w.pv,.agg [.int .i64 lot,.int .i64 item,.int .i64 day,.int .i64 rd]] (stE ((Zam w.certs w.bad).Zvq item day).2):=by
 have hrc:=ZkV w hl hb;have hbc:=ZrY (Zam w.certs w.bad) (show Za0.length≤1000 by decide) (Zld hl) item day;refine cSR L17 ?_;intro R hR;obtain⟨W,hW⟩:∃z,z=w.pv:=⟨_,rfl⟩;rw[←hW]at hrc ⊢;obtain⟨B,hB⟩:∃z,z=(Zam w.certs w.bad).pv:=⟨_,rfl⟩;rw[←hB]at hrc hbc;generalize(Zam w.certs w.bad).Zvq item day=b at *;obtain⟨l,e⟩:=b;have hwc:W=.agg [.lst false 7 (w.certs.map Ct.pv),.lst false 1 (w.bad.map iP),.lst false 4 (w.lots.map Lt.pv),.lst false 4 (w.tests.map Tt.pv),.lst false 3 (w.runs.map Qn.Rq.pv)]:=hW;rw[hwc]at hrc ⊢;simp[-getElem?_pos,L17];refine cQ [] [_] hrc ?_;simp[-getElem?_pos,frzsL];refine .inl (cQ [] [B,.int .i64 item,.int .i64 day] hbc ?_);simp[-getElem?_pos,lstE,-decide_eq_true_eq,-decide_eq_false_iff_not];cases h0:decide (e=0)
 ·simp[-getElem?_pos,-decide_eq_true_eq,-decide_eq_false_iff_not,h0,←hR,stE]
 ·simp[-getElem?_pos,-decide_eq_true_eq,-decide_eq_false_iff_not,h0,←hR,stE]
def nuE:Option Int→PV
 |some v=>.tup [.int .i64 v,.bool true]
 |none=>.tup [.int .i64 0,.bool false]
theorem ZnA (s:ByteArray):∃(neg:Bool) (a:Nat) (ds:List UInt8),((neg=true∧a=1∧sAt s 0=some 45∧0<s.size)∨(neg=false∧a=0∧(s.size=0∨∃b,sAt s 0=some b∧¬(b.toNat:Int)=45∧0<s.size)))∧s.data.toList.drop a=ds∧s.size=ds.length+a∧Zk s=(Zz s.size ds).map fun(n:Nat)=>if neg=true then -(n:Int)else(n:Int):=by
 have hz:s.size=s.data.toList.length:=by rw[Zyf];rfl
 unfold Zk;cases hl:s.data.toList with
 |nil=>
  refine⟨false,0,[],.inr ⟨rfl,rfl,.inl (by rw[hz,hl];rfl)⟩,rfl,by rw[hz,hl];rfl,?_⟩;rw[hz,hl];rfl
 |cons b r=>
  have h0:sAt s ((0:Nat):Int)=some b:=ZmZ (by rw[hl];rfl);have hp:0<s.size:=by rw[hz,hl];simp
  by_cases hb:b=45
  ·subst hb;refine⟨true,1,r,.inl ⟨rfl,rfl,h0,hp⟩,rfl,by rw[hz,hl];rfl,?_⟩;rw[hz,hl];rfl
  ·refine⟨false,0,b::r,.inr ⟨rfl,rfl,.inr ⟨b,h0,fun h=>hb (UInt8.toNat_inj.1 ?_),hp⟩⟩,rfl,by rw[hz,hl];rfl,?_⟩
   ·have:(45:UInt8).toNat=45:=rfl
    omega
   ·rw[hz,hl];split
    ·rename_i r' e;exact absurd (List.cons.inj e).1 hb
    ·rfl
theorem ZrR {b:UInt8}:(48≤b.toNat∧b.toNat≤57→Lib.digitVal b=some (b.toNat-48))∧(¬(48≤b.toNat∧b.toNat≤57)→Lib.digitVal b=none):=by
 constructor
 ·rintro⟨h1,h2⟩;have h:=Zox (d:=b.toNat-48) (by omega);have e:UInt8.ofNat (48+(b.toNat-48))=b:=UInt8.toNat_inj.1 (by rw[UInt8.toNat_ofNat'];omega);rw[e]at h;exact h
 ·intro h;cases hd:Lib.digitVal b with
  |none=>rfl
  |some d=>
   obtain⟨h1,rfl⟩:=ZrE hd;rw[UInt8.toNat_ofNat']at h;omega
theorem Zoe {b:UInt8}{l r:List UInt8}(h:Lib.digitVal b=none){n:Nat}(hn:Lib.decFrom 0 l=some n):Lib.decFrom 0 (l++b::r)=none:=by
 have:∀(l:List UInt8) (acc n:Nat),Lib.decFrom acc l=some n→Lib.decFrom acc (l++b::r)=none:=by
  intro l;induction l with
  |nil=>intro acc n _;simp only[List.nil_append,Lib.decFrom,h]
  |cons x l ih=>
   intro acc n hh;simp only[List.cons_append,Lib.decFrom]at hh ⊢;cases hx:Lib.digitVal x with
   |none=>rfl
   |some d=>rw[hx]at hh;exact ih _ _ hh
 exact this l 0 n hn
def nuS (s:ByteArray)(neg:Bool)(a k n:Nat):AS:=⟨[(0,.pv (.str s)),(4,.pv (.bool neg)),(5,.pv (.int .i64 ((k+a:Nat):Int))),(6,.pv (.int .i64 (n:Int)))],[]⟩
theorem ZpU (s:ByteArray)(hs:s.size≤1000000):Gives Tryz.prog 37 [.str s] (nuE (Zk s)):=by
 obtain⟨neg,a,ds,hc,hds,hsz,hnum⟩:=ZnA s;obtain⟨V,hV⟩:∃V,V=Zk s:=⟨_,rfl⟩;rw[←hV]at hnum ⊢;clear hV;have hat:∀k,k<ds.length→∃b,ds[k]?=some b∧sAt s ((k+a:Nat):Int)=some b:=fun k hk=>by
  refine⟨ds[k],ZxL hk,ZmZ ?_⟩;rw[←ZxL hk,←hds,Zx3,Nat.add_comm]
 refine cSR L37 ?_;intro R hR;have hI:∀c:Nat,((c:Int)=48)=(c=48):=fun c=>propext ⟨fun h=>by omega,fun h=>by omega⟩
 obtain⟨ng,hng⟩:∃z,z=neg:=⟨_,rfl⟩;obtain⟨a',ha'⟩:∃z,z=a:=⟨_,rfl⟩;have w1:IntKind.i64.wrap ((s.size:Int)-(a:Int))=(ds.length:Int):=by rw[wrap64 (by omega)];omega
 by_cases hdn:ds.length=0
 ·have hn:V=none:=by rw[hnum];unfold Zz;rw[if_pos (.inl hdn)];rfl
  subst hn;rcases hc with⟨rfl,rfl,h0,hp⟩|⟨rfl,rfl,h0⟩
  ·have f1:s.size=1:=by omega
   simp[-getElem?_pos,L37,h0,hp,f1];rw[←hR];exact⟨rfl,rfl⟩
  ·have f1:s.size=0:=by omega
   simp[-getElem?_pos,L37,f1];rw[←hR];exact⟨rfl,rfl⟩
 obtain⟨b,hb,hsb⟩:=hat 0 (by omega);have hh:ds.head?=some b:=by rw[List.head?_eq_getElem?];exact hb
 by_cases hbad:9<ds.length∨(b=48∧1<s.size)
 ·have hn:V=none:=by
   rw[hnum];unfold Zz;rcases hbad with h|⟨h,h'⟩
   ·rw[if_pos (.inr (.inl h))];rfl
   ·rw[if_pos (.inr (.inr ⟨by rw[hh,h],h'⟩))];rfl
  subst hn;rcases hc with⟨rfl,rfl,h0,hp⟩|⟨rfl,rfl,h0⟩
  case' inl=>
   have hsb:sAt s 1=some b:=hsb;have f1:¬s.size=1:=by omega
   have f1':¬(s.size:Int)=1:=by omega
   have w1:IntKind.i64.wrap ((s.size:Int)-1)=(ds.length:Int):=w1;have hb45:=h0;have hb45':=h0
  case' inr=>
   obtain⟨b0,h0,hb45,hp⟩:=h0.resolve_left (by omega);obtain rfl:b=b0:=Option.some.inj (hsb.symm.trans h0);have hsb:sAt s 0=some b:=hsb;have hb45':¬b.toNat=45:=by omega
   have f1:¬s.size=0:=by omega
   have f1':¬(s.size:Int)=0:=by omega
   have w1:IntKind.i64.wrap (s.size:Int)=(ds.length:Int):=by rw[wrap64 (by omega)];omega
  all_goals
   by_cases h9:(9:Int)<(ds.length:Int)
   ·simp[-getElem?_pos,L37,h0,hp,hb45,hb45',f1,f1',w1,h9];rw[←hR];exact⟨rfl,rfl⟩
   ·obtain⟨rfl,g1⟩:=hbad.resolve_left (by omega);have g2:(1:Int)<(s.size:Int):=by omega
    simp[-getElem?_pos,L37,h0,hp,hb45,hb45',f1,f1',w1,h9,hsb,g1,g2];rw[←hR];exact⟨rfl,rfl⟩
 have hn:V=(Lib.decFrom 0 ds).map fun(n:Nat)=>if neg=true then -(n:Int)else(n:Int):=by
  rw[hnum];unfold Zz;rw[if_neg];rintro(h|h|⟨h,h'⟩)
  ·exact hdn h
  ·exact hbad (.inl h)
  ·rw[hh]at h;exact hbad (.inr ⟨Option.some.inj h,h'⟩)
 clear hnum hds;have h9:¬(9:Int)<(ds.length:Int):=fun h=>hbad (.inl (by omega))
 have q0:b.toNat=48→¬1<s.size:=fun e h=>hbad (.inr ⟨UInt8.toNat_inj.1 (by have:(48:UInt8).toNat=48:=rfl;omega),h⟩)
 rw[←hng]at hn;rcases hc with⟨rfl,rfl,h0,hp⟩|⟨rfl,rfl,h0⟩
 case' inl=>
  have hsb:sAt s 1=some b:=hsb;have f1:¬s.size=1:=by omega
  have f1':¬(s.size:Int)=1:=by omega
  have w1:IntKind.i64.wrap ((s.size:Int)-1)=(ds.length:Int):=w1;have q1:¬b.toNat=48:=fun e=>by have:=q0 e;omega
  simp[-getElem?_pos,L37,h0,hp,f1,f1',w1,h9,hsb,q1,hI]
 case' inr=>
  obtain⟨b0,h0,hb45,hp⟩:=h0.resolve_left (by omega);obtain rfl:b=b0:=Option.some.inj (hsb.symm.trans h0);have hb45':¬b.toNat=45:=by omega
  have f1:¬s.size=0:=by omega
  have f1':¬(s.size:Int)=0:=by omega
  have w1:IntKind.i64.wrap (s.size:Int)=(ds.length:Int):=by rw[wrap64 (by omega)];omega
  by_cases q1:b.toNat=48
  case' pos=>
   have q2:=q0 q1;have q3:¬(1:Int)<(s.size:Int):=by omega
   simp[-getElem?_pos,L37,h0,hp,hb45,hb45',f1,f1',w1,h9,q1,q2,q3,hI]
  case' neg=>simp[-getElem?_pos,L37,h0,hp,hb45,hb45',f1,f1',w1,h9,q1,hI]
 all_goals
  refine Zaf (fun m τ=>∃k n:Nat,k≤ds.length∧m=ds.length-k∧Lib.decFrom 0 (ds.take k)=some n∧n<10^k∧τ=nuS s ng a' k n) ⟨ds.length,nuS s ng a' 0 0,Sub.mk (by simp[nuS,hng,ha']) (by simp[nuS]),0,0,Zx0 _,rfl,rfl,by decide,rfl⟩ ?_;rintro J hJ m τ ⟨k,n,hk,rfl,hfr,hnk,rfl⟩;by_cases hlt:k<ds.length
  ·obtain⟨x,hx,hsx⟩:=hat k hlt;rw[←ha']at hsx;have hp9:(10:Nat)^k≤10^9:=Nat.pow_le_pow_right (by decide) (by omega);have hlt':((k+a':Nat):Int)<(s.size:Int):=by omega
   have hlt2:k+a'<s.size:=by omega
   have w2:IntKind.i64.wrap (((k+a':Nat):Int)+1)=((k+1+a':Nat):Int):=by rw[wrap64 (by omega)];omega
   have hx8:=UInt8.toNat_lt x;have hspl:ds=ds.take k++x::ds.drop (k+1):=by
    obtain⟨l1,e1⟩:=ZxN.1 hx;rw[←e1,←ZyF l1,List.take_append_drop]
   by_cases c1:x.toNat<48∨57<x.toNat
   ·have hv:V=none:=by
     rw[hn,hspl,Zoe (ZrR.2 (by omega)) hfr];rfl
    subst hv;clear hJ;by_cases c2:x.toNat<48
    ·have c2':(x.toNat:Int)<48:=by omega
     simp[-getElem?_pos,-Int.natCast_add,nuS,hsx,hlt',hlt2,c2,c2'];rw[←hR];exact⟨rfl,rfl⟩
    ·have c2':¬(x.toNat:Int)<48:=by omega
     have c3:57<x.toNat:=by omega
     have c3':(57:Int)<(x.toNat:Int):=by omega
     simp[-getElem?_pos,-Int.natCast_add,nuS,hsx,hlt',hlt2,c2,c2',c3,c3'];rw[←hR];exact⟨rfl,rfl⟩
   ·have c2:¬x.toNat<48:=by omega
    have c2':¬(x.toNat:Int)<48:=by omega
    have c3:¬57<x.toNat:=by omega
    have c3':¬(57:Int)<(x.toNat:Int):=by omega
    have w3:IntKind.u8.wrap ((x.toNat:Int)-48)=((x.toNat-48:Nat):Int):=by
     rw[show IntKind.u8.wrap ((x.toNat:Int)-48)=((x.toNat:Int)-48)%256 from rfl];omega
    have w4:IntKind.i64.wrap ((x.toNat-48:Nat):Int)=((x.toNat-48:Nat):Int):=wrap64 (by omega);have w5:IntKind.i64.wrap (10*(n:Int))=((10*n:Nat):Int):=by rw[wrap64 (by omega)];omega
    have w6:IntKind.i64.wrap (((10*n:Nat):Int)+((x.toNat-48:Nat):Int))=((10*n+(x.toNat-48):Nat):Int):=by rw[wrap64 (by omega)];omega
    have hfr2:Lib.decFrom 0 (ds.take (k+1))=some (10*n+(x.toNat-48)):=by
     rw[Zx6,hx];show Lib.decFrom 0 (ds.take k++[x])=_;rw[Zd1,hfr,Option.bind_some,ZrR.1 (by omega),Zyq];congr 1;omega
    have hnk2:10*n+(x.toNat-48)<10^(k+1):=by rw[Nat.pow_succ];omega
    have hround:=hJ _ _ ⟨k+1,_,hlt,rfl,hfr2,hnk2,rfl⟩;have hmeas:ds.length-(k+1)<ds.length-k:=by omega
    clear hJ;simp[-getElem?_pos,-Int.natCast_add,-Int.natCast_mul,nuS,hsx,hlt',hlt2,c2,c2',c3,c3',w2,w3,w4,w5,w6];exact⟨_,_,hmeas,Sub.mk (by simp[nuS]) (by simp[nuS]),hround⟩
  have he:k=ds.length:=by omega
  subst he;rw[Zye]at hfr;rw[hfr]at hn;have hlt':¬((ds.length+a':Nat):Int)<(s.size:Int):=by omega
  have hlt2:¬ds.length+a'<s.size:=by omega
  have hp9:(10:Nat)^ds.length≤10^9:=Nat.pow_le_pow_right (by decide) (by omega);have w7:IntKind.i64.wrap (-(n:Int)) = -(n:Int):=wrap64 (by omega);clear hJ;subst hn;subst hng;simp[-getElem?_pos,-Int.natCast_add,nuS,hlt',hlt2,w7];rw[←hR];exact⟨rfl,rfl⟩
end
section
def Zy (s:ByteArray):Nat→List ByteArray×Nat
 |0=>([],0)
 |i+1=>if i=s.size∨s.data.toList[i]?=some 32 then((Zy s i).1++[s.extract (Zy s i).2 i],i+1)else Zy s i
theorem ZeU {s:ByteArray}{i:Nat}:Zy s (i+1)=if i=s.size∨s.data.toList[i]?=some 32 then((Zy s i).1++[s.extract (Zy s i).2 i],i+1)else Zy s i:=rfl
theorem ZkF (s:ByteArray):∀i,(Zy s i).2≤i∧(Zy s i).1.length≤i
 |0=>⟨ZxR _,ZxR _⟩
 |i+1=>by
  obtain⟨h1,h2⟩:=ZkF s i;rw[ZeU];split
  ·exact⟨ZxR _,by rw[ZxU];simp;omega⟩
  ·exact⟨by omega,by omega⟩
theorem ZV {l:List UInt8}{f i:Nat}(h:∀k,f≤k→k<i→l[k]?≠some 32):∀c∈(l.drop f).take (i-f),c≠32:=fun c hc e=>by
 obtain⟨k,hk⟩:=List.getElem?_of_mem hc;obtain⟨hl,_⟩:=ZxN.1 hk;rw[ZxT]at hl;rw[List.getElem?_take_of_lt (by omega),Zx3]at hk;exact h (f+k) (by omega) (by omega) (by rw[hk,e])
theorem Zrz (s:ByteArray):∀i,i≤s.size→(∀k,(Zy s i).2≤k→k<i→s.data.toList[k]?≠some 32)∧(Zy s i).1.map (·.data.toList)++Zbp (s.data.toList.drop (Zy s i).2)=Zbp s.data.toList
 |0,_=>⟨fun k _ h=>absurd h (Nat.not_lt_zero k),rfl⟩
 |i+1,hi=>by
  obtain⟨h1,h2⟩:=Zrz s i (by omega);obtain⟨h3,_⟩:=ZkF s i;have hz:s.size=s.data.toList.length:=by rw[Zyf];rfl
  rw[ZeU];by_cases hc:s.data.toList[i]?=some 32
  ·rw[if_pos (.inr hc)];refine⟨fun k ha hb=>?_,?_⟩
   ·have ha:i+1≤k:=ha;omega
   ·show((Zy s i).1++[s.extract (Zy s i).2 i]).map (·.data.toList)++Zbp (s.data.toList.drop (i+1))=_;rw[←h2,Zyb,List.append_assoc];congr 1;show(s.extract (Zy s i).2 i).data.toList::Zbp (s.data.toList.drop (i+1))=_;rw[Lib.extract_data];generalize(Zy s i).2=f at h1 h3 ⊢;have hd:s.data.toList.drop f=(s.data.toList.drop f).take (i-f)++32::s.data.toList.drop (i+1):=by
     have e1:(s.data.toList.drop f).drop (i-f)=s.data.toList.drop i:=by rw[List.drop_drop];congr 1;omega
     have e2:s.data.toList.drop i=32::s.data.toList.drop (i+1):=by
      obtain⟨hl,he⟩:=ZxN.1 hc;rw[ZyF hl,he]
     rw[←e2,←e1,List.take_append_drop]
    conv=>rhs;rw[hd]
    rw[Zff (ZV h1)]
  ·rw[if_neg (by rintro(h|h);omega;exact hc h)];refine⟨fun k ha hb=>?_,h2⟩;by_cases hk:k=i
   ·rw[hk];exact hc
   ·exact h1 k ha (by omega)
theorem ZsL (s:ByteArray):(Zy s (s.size+1)).1=Za8 s blank:=by
 apply ZeJ;rw[Zpg,ZeU,if_pos (.inl rfl)];obtain⟨h1,h2⟩:=Zrz s s.size (ZxR _);obtain⟨h3,_⟩:=ZkF s s.size;have hz:s.size=s.data.toList.length:=by rw[Zyf];rfl
 rw[←h2];show((Zy s s.size).1++[s.extract (Zy s s.size).2 s.size]).map (·.data.toList)=_;rw[Zyb];congr 1;show[(s.extract (Zy s s.size).2 s.size).data.toList]=_;rw[Lib.extract_data];generalize(Zy s s.size).2=f at h1 h3 ⊢;have hn:=ZV h1;rw[ZxW (by rw[Zyn];omega)]at hn ⊢;rw[Zfg hn]
def prE (s:ByteArray):PV:=match Za8 s blank,ZaD s with
 |w::_,some (_,l)=>.tup [.str w,.lst false 1 (l.map iP),.bool true]
 |_,_=>.tup [.str ⟨#[]⟩,.emp (some true),.bool false]
def Zq (w:ByteArray):Int:=match wordB w with
 |some (k,_)=>(k:Int)
 |none=>-1
theorem Zs4 (w:ByteArray):Zq w=if w=wCert then 7 else if w=wBad∨w=wPass then 1 else if w=wLot∨w=wRun then 3 else if w=wTest then 4 else -1:=by
 by_cases h0:w=wCert
 ·subst h0;rfl
 by_cases h1:w=wBad
 ·subst h1;rfl
 by_cases h2:w=wLot
 ·subst h2;rfl
 by_cases h3:w=wTest
 ·subst h3;rfl
 by_cases h4:w=wPass
 ·subst h4;rfl
 by_cases h5:w=wRun
 ·subst h5;rfl
 unfold Zq wordB;simp only[if_neg h0,if_neg h1,if_neg h2,if_neg h3,if_neg h4,if_neg h5,h1,h2,h4,h5,or_self,if_false]
def is6 (w:ByteArray)(c b p l r t:Prop):Prop:=(w=wCert)=c∧(w=wBad)=b∧(w=wPass)=p∧(w=wLot)=l∧(w=wRun)=r∧(w=wTest)=t
theorem word7 (w:ByteArray):is6 w True False False False False False∧Zq w=7∨is6 w False True False False False False∧Zq w=1∨is6 w False False True False False False∧Zq w=1∨is6 w False False False True False False∧Zq w=3∨is6 w False False False False True False∧Zq w=3∨is6 w False False False False False True∧Zq w=4∨is6 w False False False False False False∧Zq w = -1:=by
 by_cases h0:w=wCert
 ·subst h0;exact .inl ⟨⟨eq_self _,eq_false (by decide),eq_false (by decide),eq_false (by decide),eq_false (by decide),eq_false (by decide)⟩,rfl⟩
 by_cases h1:w=wBad
 ·subst h1;exact .inr (.inl ⟨⟨eq_false (by decide),eq_self _,eq_false (by decide),eq_false (by decide),eq_false (by decide),eq_false (by decide)⟩,rfl⟩)
 by_cases h2:w=wPass
 ·subst h2;exact .inr (.inr (.inl ⟨⟨eq_false (by decide),eq_false (by decide),eq_self _,eq_false (by decide),eq_false (by decide),eq_false (by decide)⟩,rfl⟩))
 by_cases h3:w=wLot
 ·subst h3;exact .inr (.inr (.inr (.inl ⟨⟨eq_false (by decide),eq_false (by decide),eq_false (by decide),eq_self _,eq_false (by decide),eq_false (by decide)⟩,rfl⟩)))
 by_cases h4:w=wRun
 ·subst h4;exact .inr (.inr (.inr (.inr (.inl ⟨⟨eq_false (by decide),eq_false (by decide),eq_false (by decide),eq_false (by decide),eq_self _,eq_false (by decide)⟩,rfl⟩))))
 by_cases h5:w=wTest
 ·subst h5;exact .inr (.inr (.inr (.inr (.inr (.inl ⟨⟨eq_false (by decide),eq_false (by decide),eq_false (by decide),eq_false (by decide),eq_false (by decide),eq_self _⟩,rfl⟩)))))
 exact .inr (.inr (.inr (.inr (.inr (.inr ⟨⟨eq_false h0,eq_false h1,eq_false h2,eq_false h3,eq_false h4,eq_false h5⟩,by rw[Zs4];simp only[h0,h1,h2,h3,h4,h5,or_self,if_false]⟩)))))
theorem Zs5 (w:ByteArray):-1≤Zq w∧Zq w≤7:=by
 unfold Zq;cases hw:wordB w with
 |none=>exact⟨by decide,by decide⟩
 |some p=>
  obtain⟨k,g⟩:=p
  have:=Zkc hw
  dsimp only;omega
theorem ZpE {s w:ByteArray}{r:List ByteArray}(h:Za8 s blank=w::r)(hn:(r.length:Int)≠Zq w∨numsB r=none):prE s=.tup [.str ⟨#[]⟩,.emp (some true),.bool false]:=by
 have hp:ZaD s=none:=by
  unfold ZaD;rw[h];dsimp only;unfold Zq at hn;cases hw:wordB w with
  |none=>rfl
  |some p=>
   obtain⟨k,g⟩:=p;rw[hw]at hn;dsimp only at hn ⊢;rcases hn with hn|hn
   ·rw[if_neg (by omega)]
   ·rw[hn];split<;>rfl
 unfold prE;rw[hp,h]
theorem ZpD {s w:ByteArray}{r:List ByteArray}{l:List Int}(h:Za8 s blank=w::r)(hm:(r.length:Int)=Zq w)(hl:numsB r=some l):prE s=.tup [.str w,.lst false 1 (l.map iP),.bool true]:=by
 unfold prE ZaD;rw[h];dsimp only;unfold Zq at hm;cases hw:wordB w with
 |none=>rw[hw]at hm;dsimp only at hm;omega
 |some p=>
  obtain⟨k,g⟩:=p;rw[hw]at hm;dsimp only at hm ⊢;rw[if_pos (by omega),hl];rfl
theorem Zig (s:ByteArray):(ZaD s=none∧prE s=.tup [.str ⟨#[]⟩,.emp (some true),.bool false])∨∃w k g nums,ZaD s=some (g,nums)∧wordB w=some (k,g)∧nums.length=k∧prE s=.tup [.str w,.lst false 1 (nums.map iP),.bool true]:=by
 cases hs:Za8 s blank with
 |nil=>
  have h:=Zkp s;rw[hs]at h;cases h
 |cons w r=>
  cases hp:ZaD s with
  |none=>
   refine .inl ⟨rfl,?_⟩;unfold prE;rw[hp,hs]
  |some q=>
   obtain⟨g,nums⟩:=q;have hp':=hp;unfold ZaD at hp;rw[hs]at hp;dsimp only at hp;cases hw:wordB w with
   |none=>rw[hw]at hp;cases hp
   |some p=>
    obtain⟨k,g'⟩:=p;rw[hw]at hp;dsimp only at hp;split at hp
    ·rename_i hk;obtain⟨l,h1,h2⟩:=ZxP.1 hp;cases h2;refine .inr ⟨w,k,g,nums,rfl,hw,(Zhl h1).1.trans hk,?_⟩;unfold prE;rw[hp',hs]
    ·cases hp
theorem Zkd {w:ByteArray}{k:Nat}{g:FuncId}(h:wordB w=some (k,g)):(w=wCert↔g=187)∧(w=wBad↔g=188)∧(w=wTest↔g=190)∧(w=wPass↔g=191)∧(w=wPass→k=1):=by
 unfold wordB at h
 repeat' split at h
 all_goals first
  |(cases h;subst_vars;decide)
  |cases h
theorem weq {w v:ByteArray}{l:List UInt8}(h:v.data.toList=l):(w.toList==l)=decide (w=v):=by rw[←h,←Lib.toList_data];exact strE w v
theorem weC (w:ByteArray):(w.toList==[99,101,114,116])=decide (w=wCert):=weq rfl
theorem weB (w:ByteArray):(w.toList==[98,97,100])=decide (w=wBad):=weq rfl
theorem weP (w:ByteArray):(w.toList==[112,97,115,115])=decide (w=wPass):=weq rfl
theorem weL (w:ByteArray):(w.toList==[108,111,116])=decide (w=wLot):=weq rfl
theorem weR (w:ByteArray):(w.toList==[114,117,110])=decide (w=wRun):=weq rfl
theorem weT (w:ByteArray):(w.toList==[116,101,115,116])=decide (w=wTest):=weq rfl
end
section
attribute [local simp] retFz frzL AS.frz AV.frz AV.frzL Box.frz AS.tidy AS.ZvF frzsL retOk renB toLoc
def ZY (s:ByteArray)(P:List ByteArray)(f i:Nat):AS:=⟨[(0,.pv (.str s)),(5,.vec (.loc 35 0) 1 0 P.length),(6,.pv (.int .i64 (f:Int))),(7,.pv (.int .i64 (i:Int)))],[(.loc 35 0,.arr 9 1 (P.map .str))]⟩
def prN (P:List ByteArray)(l:List Int)(k:Nat):AS:=⟨[(5,.vec (.loc 35 0) 1 0 P.length),(9,.vec (.loc 75 0) 1 0 l.length),(10,.pv (.int .i64 (k:Int)))],[(.loc 75 0,.arr 3 1 (l.map iP)),(.loc 35 0,.arr 9 1 (P.map .str))]⟩
theorem Znp (s:ByteArray)(hs:s.size≤1000):Gives Tryz.prog 18 [.str s] (prE s):=by
 have hz:s.size=s.data.toList.length:=by rw[Zyf];rfl
 refine cFR [.loc 75 0] L18 ?_;intro R hR;simp[-getElem?_pos,L18];refine Zaf (fun m τ=>∃i:Nat,i≤s.size+1∧m=s.size+1-i∧τ=ZY s (Zy s i).1 (Zy s i).2 i) ⟨s.size+1,ZY s [] 0 0,Sub.trans' (Sub.mk (by simp[ZY,AS.vecT]) (by simp[ZY,AS.vecT])) (vecT 35 9 1 5 rfl (by decide)),0,Zx0 _,rfl,rfl⟩ ?_;rintro J hJ m τ ⟨i,hi,rfl,rfl⟩;obtain⟨hf,hpl⟩:=ZkF s i;have hnx:=ZeU (s:=s) (i:=i);by_cases hlt:i≤s.size
 ·have hround:=hJ _ _ ⟨i+1,by omega,rfl,rfl⟩;have hmeas:s.size+1-(i+1)<s.size+1-i:=by omega
  have hw:=wrapK (k:=i) (by omega);have hile:(i:Int)≤(s.size:Int):=by omega
  rw[hnx]at hround;clear hJ hnx;generalize Zy s i=q at *;obtain⟨P,f⟩:=q;dsimp only at *;have hp6:P.length≤999999:=by omega
  have hp7:P.length+1≤1000000:=by omega
  have htk:List.take P.length (P.map PV.str)=P.map PV.str:=ZxW (by rw[ZxS];exact ZxR _);by_cases hie:i=s.size
  ·rw[if_pos (.inl hie)]at hround;have hE1:((i:Int)=(s.size:Int))=True:=eq_true (by omega);have hE2:(i=s.size)=True:=eq_true hie;have hfi':(f:Int)≤(i:Int):=by omega
   simp[-getElem?_pos,ZY,hlt,hile,hE1,hE2,hf,hfi',nble,hw,hp6,hp7,htk];exact⟨_,_,hmeas,Sub.mk (by simp[ZY]) (by simp[ZY]),hround⟩
  ·have hie':¬(i:Int)=(s.size:Int):=by omega
   obtain⟨b,hb⟩:∃b,s.data.toList[i]?=some b:=⟨s.data.toList[i]'(by omega),ZxL _⟩;have hsa:=ZmZ hb;have hlt2:i<s.size:=by omega
   by_cases h32:b=32
   ·rw[if_pos (.inr (by rw[hb,h32]))]at hround;subst h32;have hfi':(f:Int)≤(i:Int):=by omega
    simp[-getElem?_pos,ZY,hlt,hile,hie,hie',hlt2,hsa,hf,hfi',nble,hw,hp6,hp7,htk];exact⟨_,_,hmeas,Sub.mk (by simp[ZY]) (by simp[ZY]),hround⟩
   ·rw[if_neg (by rintro(h|h);exact hie h;rw[hb]at h;exact h32 (Option.some.inj h))]at hround;have hb3:¬b.toNat=32:=fun h=>h32 (UInt8.toNat_inj.1 (by have:(32:UInt8).toNat=32:=rfl;omega))
    have hb4:¬(b.toNat:Int)=32:=by omega
    simp[-getElem?_pos,ZY,hlt,hile,hie,hie',hlt2,hsa,hb3,hb4,nble,hw];exact⟨_,_,hmeas,Sub.mk (by simp[ZY]) (by simp[ZY]),hround⟩
 have he:i=s.size+1:=by omega
 subst he;have hile:¬(s.size:Int)+1≤(s.size:Int):=by omega
 clear hJ hlt hnx;rw[ZsL]at *;have hpz:∀x∈Za8 s blank,x.size≤1000000:=fun x hx=>by
  have:=Zee blank _ s x hx
  omega
 generalize(Zy s (s.size+1)).2=f at *;cases hsp:Za8 s blank with
 |nil=>
  have h:=Zkp s;rw[hsp]at h;cases h
 |cons w0 r=>
 rw[hsp]at hpz hpl;have hmg:=Zs5 w0;have k8:IntKind.i64.wrap 8=8:=rfl;have hen:=ZpE hsp;have hes:=fun l h1 h2=>ZpD (l:=l) hsp h1 h2
 have hrl:r.length≤1001:=by rw[Zyg]at hpl;omega
 have hnum:=fun x hx=>ZpU x (hpz x hx)
 clear hpl;rcases word7 w0 with h|h|h|h|h|h|h
 all_goals
  obtain⟨⟨e0,e1,e2,e3,e4,e5⟩,hm⟩:=h;by_cases hlen:(r.length:Int)=Zq w0
  case neg=>
   have hpe:=hen (.inl hlen);have hlen1:¬(r.length:Int)+1=Zq w0+1:=by omega
   rw[hm]at hlen1;simp at hlen1;simp[-getElem?_pos,-List.getElem?_map,ZY,hile,nblt,nble,weC,weB,weP,weL,weR,weT,wr0,wr2,wr4,wr5,k8,e0,e1,e2,e3,e4,e5,hlen1];rw[←hR,hpe];exact⟨rfl,rfl⟩
  have hlen1:(r.length:Int)+1=Zq w0+1:=by omega
  rw[hm]at hlen1
  first|(exfalso;omega)|simp at hlen1
 all_goals
  replace hlen1:=eq_true hlen1;simp[-getElem?_pos,-List.getElem?_map,ZY,hile,nblt,nble,weC,weB,weP,weL,weR,weT,wr0,wr2,wr4,wr5,k8,e0,e1,e2,e3,e4,e5,hlen1];clear hlen1;have hes:=fun l h=>hes l hlen h
  refine Zaf (fun m τ=>∃(k:Nat) (l:List Int),1≤k∧k≤r.length+1∧m=r.length+1-k∧numsB (r.take (k-1))=some l∧l.length=k-1∧τ=prN (w0::r) l k) ⟨r.length,prN (w0::r) [] 1,Sub.trans' (Sub.mk (by simp[prN,AS.vecT]) (by simp[prN,AS.vecT])) (vecT 75 3 1 9 rfl (by decide)),1,[],ZxR _,by omega,rfl,rfl,rfl,rfl⟩ ?_;rintro J hJ m τ ⟨k,l,hk1,hk,rfl,hl1,hl2,rfl⟩;have hPL:((w0::r).map PV.str).length=r.length+1:=by simp
  by_cases hlt:k<r.length+1
  ·obtain⟨x,hx⟩:∃x,r[k-1]?=some x:=⟨r[k-1],ZxL (by omega)⟩;have hg:((w0::r).map PV.str)[k]?=some (.str x):=by
    rw[ZxM,show k=k-1+1 by omega,List.getElem?_cons_succ,hx];rfl
   have hw:=wrapK (k:=k) (by omega);have hnx:=hnum x (List.mem_cons_of_mem _ (ZxQ hx));have hmeas:r.length+1-(k+1)<r.length+1-k:=by omega
   have hlt':(k:Int)<(r.length:Int)+1:=by omega
   have htk:r.take k=r.take (k-1)++[x]:=by rw[show k=k-1+1 by omega,Zx6,Nat.add_sub_cancel,hx];rfl
   rw[Zuf]at hnx;cases hxn:numB x with
   |none=>
    have hpe:=hen (.inr (Zen hxn (ZxQ hx)));rw[hxn]at hnx;clear hJ;unfold prN;generalize(w0::r).map PV.str=PP at *;simp[-getElem?_pos,-List.getElem?_map,hPL,hlt,hlt',hg,nblt,nble];refine .inl<|cQ [] [.str x] hnx ?_;simp[-getElem?_pos,-List.getElem?_map,nuE];rw[←hR,hpe];exact⟨rfl,by simp⟩
   |some v=>
    rw[hxn]at hnx;have hround:=hJ _ _ ⟨k+1,l++[v],by omega,by omega,rfl,by rw[Nat.add_sub_cancel,htk];exact Zem hxn hl1,by rw[ZxU];simp;omega,rfl⟩;clear hJ;have hl6:l.length+1≤1000000:=by omega
    have hl7:l.length≤999999:=by omega
    have hlk:List.take l.length (l.map iP)=l.map iP:=ZxW (by rw[ZxS];exact ZxR _);unfold prN at hround ⊢;generalize(w0::r).map PV.str=PP at *;simp[-getElem?_pos,-List.getElem?_map,hPL,hlt,hlt',hg,nblt,nble];refine .inl<|cQ [] [.str x] hnx ?_;simp[-getElem?_pos,-List.getElem?_map,nuE,hl6,hl7,hw,hlk,nblt,nble];exact⟨_,_,hmeas,Sub.mk (by simp) (by simp[iP]),hround⟩
  ·have he:k=r.length+1:=by omega
   subst he;rw[Nat.add_sub_cancel,Zye]at hl1;have hpe:=hes l hl1;have hlk:List.take l.length (l.map iP)=l.map iP:=ZxW (by rw[ZxS];exact ZxR _);have hg0:((w0::r).map PV.str)[0]?=some (.str w0):=rfl;clear hJ hlt;unfold prN;generalize(w0::r).map PV.str=PP at *;simp[-getElem?_pos,-List.getElem?_map,hPL,hg0,hlk,nblt,nble];rw[←hR,hpe];exact⟨rfl,by simp⟩
attribute [local irreducible] Bk.Zvh earlE Bk.contra Bk.held Bk.span Bk.nums Bk.Zva stM verdM doB foldD ZaD wordB
theorem ZtL {L:List ByteArray}{wh:Int}(ha:0≤wh∧wh≤255)(hp:0<L.length):∃k s,wh.tmod (L.length:Int)=((k:Nat):Int)∧k<L.length∧L[k]?=some s:=by
 have h1:=Int.tmod_nonneg (L.length:Int) ha.1;have h2:=Int.tmod_lt_of_pos wh (show(0:Int)<(L.length:Int) by omega);have hk:(wh.tmod (L.length:Int)).toNat<L.length:=by omega
 exact⟨(wh.tmod (L.length:Int)).toNat,L[(wh.tmod (L.length:Int)).toNat],by omega,hk,ZxL hk⟩
theorem Zjd {L:List ByteArray}{k:Nat}(h:Zbq L=true):Zbq (L.take k)=true:=by
 obtain⟨h1,h2⟩:=Zbt h;unfold Zbq;rw[ZxO,decide_eq_true_eq,Zx7];exact⟨fun s hs=>by simpa using h2 s (List.mem_of_mem_take hs),by rw[ZxT];omega⟩
end
section
attribute [local simp] retFz frzL AS.frz AV.frz AV.frzL Box.frz AS.tidy AS.ZvF frzsL retOk renB toLoc
def lvE (w:Wk)(x:Lt):PV:=.tup [.int .u8 (ZK (stM w.certs w.bad) (gdM w.certs w.bad x.limit) x.num w.tests []).1,.int .i64 ((ZK (stM w.certs w.bad) (gdM w.certs w.bad x.limit) x.num w.tests []).2:Nat),.bool true]
def Z3 (k:Nat)(rs:List Bool):List (Nat×AV):=[(2,.ptr (.loc 2 0) 0),(3,.ptr (.loc 3 0) 0),(7,.ptr (.loc 7 0) 0),(8,.vec (.loc 75 0) 1 0 rs.length),(9,.pv (.int .i64 (k:Int)))]
def Z2 (w:Wk)(x:Lt)(rs:List Bool):List (Site×Box):=[(.loc 75 0,.arr 4 1 (rs.map .bool)),(.loc 7 0,.cells [.pv (.int .i64 x.pieces),.pv (.lst false 3 [stgP 0,stgP 1])]),(.loc 3 0,.cells [.pv (.int .i64 x.num),.pv (.int .i64 x.pieces),.pv (.int .i64 x.limit),.pv (.bool x.passed)]),(.loc 2 0,.cells w.cells)]
def ZJ (w:Wk)(x:Lt)(rs:List Bool)(k:Nat):AS:=⟨Z3 k rs,Z2 w x rs⟩
theorem Zs6 (w:Wk)(x:Lt)(hl:w.certs.length≤1000)(hb:w.bad.length≤1000)(ht:w.tests.length≤900)(h4:4≤x.pieces)(h30:x.pieces≤30)(hfit:spFit w.certs w.bad w.tests)
  (hfine:∀t∈w.tests,((Zam w.certs w.bad).Zvq t.item t.day).2=if stM w.certs w.bad t.item t.day=true then 0 else 10) (hsp:∀t∈w.tests,stM w.certs w.bad t.item t.day=true→((Zam w.certs w.bad).Zvf t.item t.day).2=0):
  Gives Tryz.prog 21 [w.pv,x.pv] (lvE w x):=by
 unfold lvE;obtain⟨V,hV⟩:∃V,V=ZK (stM w.certs w.bad) (gdM w.certs w.bad x.limit) x.num w.tests []:=⟨_,rfl⟩;rw[←hV];refine cFR [.loc 22 0,.loc 75 0] L21 ?_;intro R hR;simp[-getElem?_pos,L21,Wk.pv,Lt.pv,ctsP,bdsP,lotsP,ttsP,runsP];refine Zaf (fun m τ=>∃(k:Nat) (rs:List Bool),k≤w.tests.length∧m=w.tests.length-k∧Zw rs∧τ=ZJ w x rs k∧ZK (stM w.certs w.bad) (gdM w.certs w.bad x.limit) x.num (w.tests.drop k) rs=V)
  ⟨w.tests.length,ZJ w x [] 0,Sub.trans' (Sub.trans' (Sub.mk (by simp[ZJ,Z3,Z2,AS.vecT]) (by simp[ZJ,Z3,Z2,AS.vecT,Wk.cells,stgP])) (vecT 75 4 1 8 rfl (by decide))) (Sub.frz [.loc 22 0]),0,[],Zx0 _,rfl,ZpL,rfl,hV.symm⟩ ?_
 rintro J hJ m τ ⟨k,rs,hk,rfl,ho,rfl,hv⟩;by_cases hlt:k<w.tests.length
 ·obtain⟨t,hx⟩:∃t,w.tests[k]?=some t:=⟨w.tests[k],ZxL hlt⟩;have hmem:t∈w.tests:=ZxQ hx;have hg:(w.tests.map Tt.pv)[k]?=some (.agg [.int .i64 t.lot,.int .i64 t.item,.int .i64 t.day,.int .i64 t.rd]):=by rw[ZxM,hx];rfl
  have hd:w.tests.drop k=t::w.tests.drop (k+1):=by
   rw[ZyF hlt];congr 1;rw[ZxL hlt]at hx;exact Option.some.inj hx
  rw[hd,ZkT]at hv;have hw:=wrapK (k:=k) (by omega);have hmeas:w.tests.length-(k+1)<w.tests.length-k:=by omega
  have hnext:∀rs',Zw rs'→ZK (stM w.certs w.bad) (gdM w.certs w.bad x.limit) x.num (w.tests.drop (k+1)) rs'=V→J (w.tests.length-(k+1)) (ZJ w x rs' (k+1)):=fun rs' h1 h2=>hJ _ _ ⟨k+1,rs',hlt,rfl,h1,rfl,h2⟩
  clear hJ;have hsc:=ZnM w hl hb t.lot t.item t.day t.rd;rw[hfine t hmem]at hsc;have hwp:w.pv=.agg [.lst false 7 (w.certs.map Ct.pv),.lst false 1 (w.bad.map iP),.lst false 4 (w.lots.map Lt.pv),.lst false 4 (w.tests.map Tt.pv),.lst false 3 (w.runs.map Qn.Rq.pv)]:=rfl;have hrc:=ZkV w hl hb;have hpc:=ZrX (Zam w.certs w.bad) (show Za0.length≤1000 by decide) (Zld hl) t.item t.day;rw[hwp]at hsc hrc;have hspt:=hsp t hmem;have hft:=hfit t hmem;simp[-getElem?_pos,-List.getElem?_map,ZJ,Z3,Z2,Wk.cells,hlt,hg,nblt,nble,setAt];refine .inl<|cQ [] [_,_] hsc ?_;cases hs:stM w.certs w.bad t.item t.day with
  |false=>
   rw[if_neg (by simp[hs])]at hv;have hn:=hnext rs ho hv;by_cases hlo:t.lot=x.num
   ·simp[-getElem?_pos,-List.getElem?_map,frzsL,stE,hlo,hw];exact⟨_,_,hmeas,Sub.mk (by simp[Z3,ZJ]) (by simp[ZJ,Z2,Wk.cells]),hn⟩
   ·simp[-getElem?_pos,-List.getElem?_map,frzsL,stE,hlo,hw];exact⟨_,_,hmeas,Sub.mk (by simp[Z3,ZJ]) (by simp[ZJ,Z2,Wk.cells]),hn⟩
  |true=>
   by_cases hlo:t.lot=x.num
   ·have hspt:=hspt hs;have hft':IntKind.i64.wrap (t.rd+((Zam w.certs w.bad).Zvf t.item t.day).1.lo)=t.rd+((Zam w.certs w.bad).Zvf t.item t.day).1.lo:=hft;rw[if_pos ⟨hlo,hs⟩]at hv;unfold gdM at hv;obtain⟨hst,e1,e2⟩:=(⟨ho.step,rfl,rfl⟩:(∀b,(planM (rs++[b])).2.2=0∧((planM (rs++[b])).1=3→Zw (rs++[b])))∧0=0∧0=0);clear e1 e2;simp[-getElem?_pos,-List.getElem?_map,frzsL,stE,hlo,hw];have hBp:(Zam w.certs w.bad).pv=.agg [.lst false 4 ZfQ,.lst false 7 ((goodC w.certs w.bad).map Ct.pv)]:=rfl;rw[hBp]at hrc hpc;generalize((Zam w.certs w.bad).Zvf t.item t.day)=sp at hpc hspt hft' hv;obtain⟨⟨lo,hi⟩,er⟩:=sp;dsimp only at hspt hft' hv;subst hspt;refine ZbP (fun τ=>τ=⟨(62,.pv (.int .i64 0))::(13,.ptr (.loc 13 0) 0)::(10,.ptr (.loc 10 0) 0)::Z3 k rs,(.loc 13 0,.cells [.pv (.int .i64 lo),.pv (.int .i64 hi)])::(.loc 10 0,.cells [.pv (.int .i64 x.num),.pv (.int .i64 t.item),.pv (.int .i64 t.day),.pv (.int .i64 t.rd)])::Z2 w x rs⟩) ?_ ?_
    ·simp[-getElem?_pos,-List.getElem?_map,Zak,Zaq]
     repeat' apply And.intro
     all_goals
      first|refine cQ [] [_] hrc ?_|refine .inl<|cQ [] [_] hrc ?_
      simp[-getElem?_pos,-List.getElem?_map,frzsL,Zak,Zaq]
      repeat' apply And.intro
      all_goals
       first|refine cQ [] [_,_,_] hpc ?_|refine .inl<|cQ [] [_,_,_] hpc ?_
       simp[-getElem?_pos,-List.getElem?_map,frzsL,spanE,Cr.pv,Zak,Zaq]
       repeat' apply And.intro
       all_goals exact Sub.mk (by simp[Z3]) (by simp[Z2,Wk.cells])
    rintro τ rfl;have h16:rs.length≤999999:=by have:=ho.len;omega
    have h17:rs.length+1≤1000000:=by omega
    have h4':=ho.len;obtain⟨b,hb⟩:∃b,b=!decide (x.limit≤t.rd+lo):=⟨_,rfl⟩;rw[←hb]at hv;have hdl:decide (t.rd+lo<x.limit)=b:=by
     rw[hb];by_cases h:x.limit≤t.rd+lo
     ·rw[decide_eq_true h,decide_eq_false (by omega)];rfl
     ·rw[decide_eq_false h,decide_eq_true (by omega)];rfl
    simp[-getElem?_pos,-List.getElem?_map,-decide_eq_true_eq,-decide_eq_false_iff_not,Z3,Z2,Wk.cells,hft',hdl,nble,nblt,h16,h17];have htk:List.take (rs.length+1) (rs.map PV.bool++[PV.bool b])=(rs++[b]).map PV.bool:=by
     rw[ZxW (by simp),Zyb];rfl
    rw[htk];have hpl:=Zjo x.pieces h4 h30 (rs++[b]) (by simp;omega);rw[show planP x.pieces=.agg [.int .i64 x.pieces,.lst false 3 [stgP 0,stgP 1]] from rfl]at hpl;refine Zac (as':=[.pv (.agg [.int .i64 x.pieces,.lst false 3 [stgP 0,stgP 1]]),.vec (.par 0) 1 0 (rs++[b]).length]) (B:=[(.par 0,.arr 4 1 ((rs++[b]).map .bool))]) (fs:=[]) (cs:=[]) 81 [.loc 80 0] rfl rfl rfl rfl ?_ ?_ hpl ?_
    ·first|rfl|simp
    ·first|rfl|simp
    rintro r0 B0 ⟨rfl,rfl⟩;refine⟨rfl,by simp,?_⟩;obtain⟨hs1,hs2⟩:=hst b;have hn:=hnext (rs++[b]);have hll:(rs++[b]).length=rs.length+1:=by rw[ZxU];rfl
    generalize planM (rs++[b])=pm at hv hs1 hs2 ⊢;obtain⟨v,mo,er⟩:=pm;dsimp only at hs1 hs2 hv;subst hs1;by_cases h3:v=3
    ·subst h3;rw[if_pos rfl]at hv;have hn:=hn (hs2 rfl) hv;simp[-getElem?_pos,-List.getElem?_map,planE,hw];exact⟨_,_,hmeas,Sub.mk (by simp[Z3,ZJ]) (by simp[ZJ,Z2,Wk.cells]),hn⟩
    ·rw[if_neg h3]at hv;simp[-getElem?_pos,-List.getElem?_map,planE,h3];rw[←hR,←hv,hll];exact⟨rfl,by simp⟩
   ·rw[if_neg (by simp[hlo])]at hv;have hn:=hnext rs ho hv;simp[-getElem?_pos,-List.getElem?_map,frzsL,stE,hlo,hw];exact⟨_,_,hmeas,Sub.mk (by simp[Z3,ZJ]) (by simp[ZJ,Z2,Wk.cells]),hn⟩
 have he:k=w.tests.length:=by omega
 subst he;rw[List.drop_length,Zs7]at hv;clear hJ;simp[-getElem?_pos,-List.getElem?_map,ZJ,Z3,Z2,Wk.cells];rw[←hR,←hv];exact⟨rfl,rfl⟩
end
section
theorem ZgH {D:Wk→ByteArray→Wk×Int}:∀{l m:List ByteArray} {st:Wk},foldD D st (l++m)=((foldD D (foldD D st l).1 m).1,(foldD D st l).2++(foldD D (foldD D st l).1 m).2)
 |[],m,st=>rfl
 |x::l,m,st=>by
  simp only[List.cons_append,foldD];rw[ZgH (l:=l)]
attribute [local irreducible] Bk.Zvh earlE Bk.contra Bk.held Bk.span Bk.nums Bk.Zva stM verdM
def ZeH (z:ByteArray):Prop:=∀g ns,ZaD z=some (g,ns)→g≠187∧g≠188
theorem ZpG {L:List ByteArray}{k:Nat}{s:ByteArray}{nums:List Int}{w u:Wk}{es1 es:List Int}(hw:foldD (doB 408) wk0 (L.take k)=(w,es1))(hu:foldD (doB 408) wk0 L=(u,es))(hs:L[k]?=some s)(hp:ZaD s=some (191,nums))(h0:(doB 408 w s).2=0):
  ∃(x:Lt) (kx ky:Nat),nums=[x.num]∧w.lots[kx]?=some x∧x.passed=false∧verdL w.certs w.bad w.tests x=1∧(∀(j:Nat) (y:Lt),w.lots[j]?=some y→y.num=x.num→j=kx)∧u.lots[ky]?=some { x with passed:=true }
   ∧(∀(i:Nat) (z:ByteArray),k<i→L[i]?=some z→ZaD z=some (191,[x.num])→es[i]?≠some 0)∧((∀(i:Nat) (z:ByteArray),k<i→L[i]?=some z→es[i]?=some 0→ZeH z)→x.num∉Zx u u.lots.length):=by
 have hkl:k<L.length:=(ZxN.1 hs).1;have hLs:L=L.take k++s::L.drop (k+1):=by
  obtain⟨l1,e1⟩:=ZxN.1 hs;rw[←e1,←ZyF l1,List.take_append_drop]
 have hI:=(ZfU (l:=L.take k) (k:=0) wk0_I wk0_J).1;have hlen:=ZcC (D:=doB 408) (l:=L.take k) (st:=wk0);have hI3:=(ZfU (l:=L) (k:=0) wk0_I wk0_J).1;have hfold:=hu;rw[hLs,ZgH,hw]at hfold;rw[hw]at hI hlen;rw[hu]at hI3;rw[ZxT,Nat.min_eq_left (by omega)]at hlen;dsimp only at hI hlen hI3 hfold;have hI2:=hI.next (F:=408) s;obtain⟨x,e1,e2,e3,e4,e5,e6,e7,e8⟩:=ZsM hp h0;obtain⟨kx,hkx⟩:=List.getElem?_of_mem e2;obtain⟨a1,a2,a3⟩:=Ziu (x:={ x with passed:=true }) rfl (L:=L.drop (k+1)) hI2 e5;rw[show foldD (doB 408) w (s::L.drop (k+1))=((foldD (doB 408) (doB 408 w s).1 (L.drop (k+1))).1,(doB 408 w s).2::(foldD (doB 408) (doB 408 w s).1 (L.drop (k+1))).2) from rfl]at hfold;generalize foldD (doB 408) (doB 408 w s).1 (L.drop (k+1))=f at *;obtain⟨u',es2⟩:=f;cases hfold;obtain⟨ky,hky⟩:=List.getElem?_of_mem a1.m;have hidx:∀i,k<i→(es1++(doB 408 w s).2::es2)[i]?=es2[i-(k+1)]?:=fun i hi=>by
  rw[List.getElem?_append_right (by omega),hlen,show i-k=i-(k+1)+1 by omega,List.getElem?_cons_succ]
 have hdr:∀i,k<i→(L.drop (k+1))[i-(k+1)]?=L[i]?:=fun i hi=>by rw[Zx3];congr 1;omega
 refine⟨x,kx,ky,e1,hkx,e3,e4,fun j y hy e=>Zuq hI hkx hy e,hky,fun i z hi hz hpz=>?_,fun h=>?_⟩
 ·rw[hidx i hi];exact a2 (i-(k+1)) z (by rw[hdr i hi];exact hz) hpz
 ·obtain⟨b1,b2⟩:=a3 fun i z hz he=>by
   have hi:k<i+(k+1):=by omega
   exact h (i+(k+1)) z hi (by rw[←hdr _ hi,Nat.add_sub_cancel];exact hz) (by rw[hidx _ hi,Nat.add_sub_cancel];exact he)
  obtain⟨r,hr,hr2⟩:=a1.t;exact ZsW hI3 ⟨a1.m,r,by rw[hr,e8],hr2⟩ e4 (b1.trans e6) (b2.trans e7)
end
section
attribute [local simp] retFz frzL AS.frz AV.frz AV.frzL Box.frz AS.tidy AS.ZvF frzsL retOk renB toLoc
attribute [local irreducible] Bk.Zvh earlE Bk.contra Bk.held Bk.span Bk.nums Bk.Zva stM verdM doB foldD ZaD wordB
theorem ZlX (z:ByteArray)(n:Int):∃w NS has,prE z=.tup [.str w,NS,.bool has]∧((has=false∧(w=wPass)=False∧(w=wCert)=False∧(w=wBad)=False∧ZeH z)
  ∨(has=true∧NS=.lst false 1 [.int .i64 n]∧(w=wPass)=True∧(w=wCert)=False∧(w=wBad)=False∧ZeH z∧ZaD z=some (191,[n]))
  ∨(has=true∧∃c,NS=.lst false 1 [.int .i64 c]∧¬c=n∧(w=wPass)=True∧(w=wCert)=False∧(w=wBad)=False∧ZeH z)
  ∨(has=true∧(w=wPass)=False∧(w=wCert)=True∧(w=wBad)=False)∨(has=true∧(w=wPass)=False∧(w=wCert)=False∧(w=wBad)=True)∨(has=true∧(w=wPass)=False∧(w=wCert)=False∧(w=wBad)=False∧ZeH z)):=by
 rcases Zig z with⟨hpn,hpe⟩|⟨w,k,g,ns,hp,hw,hn,hpe⟩
 ·exact⟨_,_,_,hpe,.inl ⟨rfl,eq_false (by decide),eq_false (by decide),eq_false (by decide),fun g ns h=>by rw[hpn]at h;cases h⟩⟩
 obtain⟨v1,v2,_,v4,v5⟩:=Zkd hw;refine⟨_,_,_,hpe,.inr ?_⟩;have hq:w≠wCert→w≠wBad→ZeH z:=fun h1 h2 g' ns' h=>by
  rw[hp]at h;cases h;exact⟨fun e=>h1 (v1.2 e),fun e=>h2 (v2.2 e)⟩
 by_cases h4:w=wPass
 ·have h1:w≠wCert:=by rw[h4];decide
  have h2:w≠wBad:=by rw[h4];decide
  obtain⟨c,rfl⟩:∃c,ns=[c]:=List.length_eq_one_iff.1 (hn.trans (v5 h4));rw[v4.1 h4]at hp;by_cases hc:c=n
  ·subst hc;exact .inl ⟨rfl,rfl,eq_true h4,eq_false h1,eq_false h2,hq h1 h2,hp⟩
  ·exact .inr (.inl ⟨rfl,c,rfl,hc,eq_true h4,eq_false h1,eq_false h2,hq h1 h2⟩)
 ·by_cases h1:w=wCert
  ·exact .inr (.inr (.inl ⟨rfl,eq_false h4,eq_true h1,eq_false (by rw[h1];decide)⟩))
  ·by_cases h2:w=wBad
   ·exact .inr (.inr (.inr (.inl ⟨rfl,eq_false h4,eq_false h1,eq_true h2⟩)))
   ·exact .inr (.inr (.inr (.inr ⟨rfl,eq_false h4,eq_false h1,eq_false h2,hq h1 h2⟩)))
def Z1 (L:List ByteArray)(k:Nat)(n:Int)(es:List Int):List (Nat×AV):=[(0,.pv (.lst false 1 (L.map .str))),(5,.pv (.int .i64 (k:Int))),(7,.pv (.lst false 1 [.int .i64 n])),(9,.ptr (.loc 9 0) 0),(10,.pv (.lst false 1 (es.map iE)))]
def paA (L:List ByteArray)(k:Nat)(n:Int)(es:List Int)(u w:Wk)(b:Bool)(j:Nat):AS:=⟨(12,.ptr (.loc 12 0) 0)::(15,.pv (.bool b))::(16,.pv (.int .i64 (j:Int)))::Z1 L k n es,[(.loc 12 0,.cells w.cells),(.loc 9 0,.cells u.cells)]⟩
def paB (L:List ByteArray)(k:Nat)(n:Int)(es:List Int)(u:Wk)(b:Bool)(j:Nat):AS:=⟨(15,.pv (.bool true))::(20,.pv (.bool b))::(21,.pv (.int .i64 (j:Int)))::Z1 L k n es,[(.loc 9 0,.cells u.cells)]⟩
def paC (n:Int)(u:Wk)(q b:Bool)(l:List Int)(j:Nat):AS:=⟨[(7,.pv (.lst false 1 [.int .i64 n])),(9,.ptr (.loc 9 0) 0),(15,.pv (.bool true)),(20,.pv (.bool q)),(25,.pv (.lst false 1 (l.map iP))),(26,.pv (.int .i64 0)),(27,.pv (.bool b)),(28,.pv (.int .i64 (j:Int)))],[(.loc 9 0,.cells u.cells)]⟩
def paD (n:Int)(u:Wk)(q r b:Bool)(j:Nat):AS:=⟨[(7,.pv (.lst false 1 [.int .i64 n])),(9,.ptr (.loc 9 0) 0),(15,.pv (.bool true)),(20,.pv (.bool q)),(26,.pv (.int .i64 0)),(27,.pv (.bool r)),(29,.pv (.bool b)),(30,.pv (.int .i64 (j:Int)))],[(.loc 9 0,.cells u.cells)]⟩
theorem ZpF (L:List ByteArray)(hl:L.length≤9223372036854775807)(wh:Int)(ha:0≤wh∧wh≤255):Gives Tryz.prog 7 [strsP L,.int .u8 wh] (.bool true):=by
 have hth:=ZoO L hl;refine cSR L7 ?_;intro R hR;have hfin:R (.pv (.bool true)) []:=by rw[←hR];exact⟨rfl,rfl⟩
 clear hR;simp[-getElem?_pos,L7];refine cG [strsP L] hth ?_;cases ht:thinB L with
 |false=>
  simp[-getElem?_pos];refine cG [] ZbW ?_;simp[-getElem?_pos];exact hfin
 |true=>
 have hl5:L.length≤55:=by
  unfold thinB at ht;rw[ZxO,decide_eq_true_eq]at ht;exact ht.2
 have hrr:=Zky L (by omega);simp[-getElem?_pos];refine cG [strsP L] hrr ?_;cases hrt:Zbq L with
 |false=>
  simp[-getElem?_pos];refine cG [] ZbW ?_;simp[-getElem?_pos];exact hfin
 |true=>
 by_cases h0:L=[]
 ·subst h0;simp[-getElem?_pos,strsP];refine cG [] ZbW ?_;simp[-getElem?_pos];exact hfin
 have hlp:0<L.length:=List.length_pos_iff.2 h0;have hlp':¬(L.length:Int)=0:=by omega
 have hlp2:¬L.length=0:=by omega
 obtain⟨hl50,hsz⟩:=Zbt hrt;obtain⟨k,s,hk,hkl,hs⟩:=ZtL ha hlp;have hgs:(L.map PV.str)[k]?=some (.str s):=by rw[ZxM,hs];rfl
 have hs2:=hsz s (ZxQ hs);have hpr:=Znp s (by omega);have w1:IntKind.i64.wrap wh=wh:=wrap64 (by omega);have hF:407<408:=by decide
 rcases Zig s with⟨hpn,hpe⟩|⟨w0,kk,g,nums,hp,hw0,hnl,hpe⟩
 ·rw[hpe]at hpr;simp[-getElem?_pos,-List.getElem?_map,strsP,h0,hlp',hlp2,w1,hk,hkl,hgs];refine .inl<|cQ [] [.str s] hpr ?_;simp[-getElem?_pos,-List.getElem?_map];refine cG [] ZbW ?_;simp[-getElem?_pos];exact hfin
 rw[hpe]at hpr;by_cases hwt:w0=wPass
 case neg=>
  have hwt':(w0=wPass)=False:=eq_false hwt;simp[-getElem?_pos,-List.getElem?_map,strsP,h0,hlp',hlp2,w1,hk,hkl,hgs];refine .inl<|cQ [] [.str s] hpr ?_;simp[-getElem?_pos,-List.getElem?_map,hwt',weP,frzsL];refine cG [] ZbW ?_;simp[-getElem?_pos];exact hfin
 have hwt':(w0=wPass)=True:=eq_true hwt;obtain⟨_,_,_,hw4,hw5⟩:=Zkd hw0;rw[hw4.1 hwt]at hp;obtain⟨n,rfl⟩:∃n,nums=[n]:=List.length_eq_one_iff.1 (hnl.trans (hw5 hwt));clear hw0 hnl hpe hw4 hw5;have hpl:=Zlz hF L (by omega);unfold plyE at hpl;rw[if_pos (Zby hrt)]at hpl;have hpb:=Zlz hF (L.take k) (by rw[ZxT];omega);unfold plyE at hpb;rw[if_pos (Zby (Zjd hrt))]at hpb;have hrc:=Zmp hF L (by omega);unfold rclE at hrc;rw[if_pos (Zby hrt)]at hrc;obtain⟨iU,_⟩:=ZfU (l:=L) (k:=0) wk0_I wk0_J;obtain⟨iW,jW⟩:=ZfU (l:=L.take k) (k:=0) wk0_I wk0_J;rw[ZxT,Nat.min_eq_left (by omega)]at iW;have hes:=ZcC (D:=doB 408) (l:=L) (st:=wk0);have hge0:=ZfV (D:=doB 408) (st:=wk0) hs;have hpa:=fun w u es1 es h1 h2 h=>ZpG (w:=w) (u:=u) (es1:=es1) (es:=es) h1 h2 hs hp h
 generalize foldD (doB 408) wk0 L=q at hpl hrc iU hes hge0 hpa;obtain⟨u,es⟩:=q;generalize foldD (doB 408) wk0 (L.take k)=q at hpb iW jW hge0 hpa;obtain⟨w,es1⟩:=q;have hpa:=hpa w u es1 es rfl rfl;dsimp only at hpl hrc iU hes hpb iW jW hge0;generalize(doB 408 w s).2=e at hge0 hpa;have hbi:=Zj3 L (by omega);have hbk:=Zj3 (L.take k) (by rw[ZxT];omega);have hstp:strsP (L.take k)=.lst false 1 ((L.map PV.str).take k):=by unfold strsP;rw[List.map_take]
 rw[hstp]at hbk hpb;have hge:(es.map iE)[k]?=some (.int .i64 e):=by rw[ZxM,hge0];rfl
 have w2:IntKind.i64.wrap ((k:Int)+1)=(k:Int)+1:=wrap64 (by omega);have hb1:k.ble L.length=true:=Nat.ble_eq_true_of_le (by omega);have hk1:k≤L.length:=by omega
 have hk1':(k:Int)≤(L.length:Int):=by omega
 have hke:k<es.length:=by omega
 simp[-getElem?_pos,-List.getElem?_map,strsP,h0,hlp',hlp2,w1,hk,hkl,hgs];refine .inl<|cQ [] [.str s] hpr ?_;simp[-getElem?_pos,-List.getElem?_map,-List.map_take,hwt',weP,frzsL,nble];refine .inl<|cQ [] [strsP L] hbi ?_;simp[-getElem?_pos,-List.getElem?_map,-List.map_take,frzsL];refine .inl<|cQ [] [strsP L] hpl ?_;simp[-getElem?_pos,-List.getElem?_map,-List.map_take,frzsL,Wk.pv,ctsP,bdsP,lotsP,ttsP,runsP,hb1,hk1,hk1',nble];refine .inl<|cQ [] [_] hbk ?_;simp[-getElem?_pos,-List.getElem?_map,-List.map_take,frzsL];refine .inl<|cQ [] [_] hpb ?_;by_cases he:e=0
 case neg=>
  simp[-getElem?_pos,-List.getElem?_map,-List.map_take,frzsL,Wk.pv,ctsP,bdsP,lotsP,ttsP,runsP,hes,hge,hke,hkl,he];refine cG [] ZbW ?_;simp[-getElem?_pos];exact hfin
 obtain⟨x,kx,ky,hnx,hx,hxp,hxv,hxu,hy,hno,hqu⟩:=hpa he;cases hnx;subst he;simp[-getElem?_pos,-List.getElem?_map,-List.map_take,frzsL,Wk.pv,ctsP,bdsP,lotsP,ttsP,runsP,hes,hge,hke,hkl];have hkL:kx<w.lots.length:=(ZxN.1 hx).1;have hgx:(w.lots.map Lt.pv)[kx]?=some (.agg [.int .i64 x.num,.int .i64 x.pieces,.int .i64 x.limit,.bool x.passed]):=by rw[ZxM,hx];rfl
 obtain⟨hxo,_,_⟩:=iW.lt x (ZxQ hx);have hxo':=hxo;unfold ltOk at hxo';obtain⟨x1,x2,x3,x4⟩:=hxo';have hwcl:=iW.c;have hwbl:=iW.b;have hwtl:=iW.t;have hwll:=iW.l;have hull:=iU.l;have hvc:=Zs6 w x (by omega) (by omega) (by omega) x3 x4 iW.fit (fun t ht=>by obtain⟨q1,q2,q3,q4,_⟩:=iW.tt t ht;exact Zt3 iW.bk (by omega) q2 q3 q4) (fun t _ h=>Zsj jW.nc h);have hvm:(ZK (stM w.certs w.bad) (gdM w.certs w.bad x.limit) x.num w.tests []).1=verdL w.certs w.bad w.tests x:=Zjv;unfold lvE at hvc;rw[hvm,hxv]at hvc;simp only[Wk.pv,Lt.pv,ctsP,bdsP,lotsP,ttsP,runsP]at hvc;generalize(ZK (stM w.certs w.bad) (gdM w.certs w.bad x.limit) x.num w.tests []).2=many at hvc;clear hpr hpl hpb hbk hp hge0 hpa;refine Zaf (fun m τ=>∃(j:Nat) (b:Bool),j≤w.lots.length∧m=w.lots.length-j∧b=decide (kx<j)∧τ=paA L k x.num es u w b j) ⟨w.lots.length,paA L k x.num es u w false 0,Sub.mk (by simp[paA,Z1,iP]) (by simp[paA,Wk.cells]),0,false,Zx0 _,rfl,by simp,rfl⟩ ?_;rintro J hJ m τ ⟨j,b,hj,rfl,hb,rfl⟩;by_cases hlt:j<w.lots.length
 ·obtain⟨y,hyj⟩:∃y,w.lots[j]?=some y:=⟨w.lots[j],ZxL hlt⟩;have hg:(w.lots.map Lt.pv)[j]?=some (.agg [.int .i64 y.num,.int .i64 y.pieces,.int .i64 y.limit,.bool y.passed]):=by rw[ZxM,hyj];rfl
  have hw:=wrapK (k:=j) (by omega);have hmeas:w.lots.length-(j+1)<w.lots.length-j:=by omega
  by_cases hn:y.num=x.num
  ·have hjk:=hxu j y hyj hn;subst hjk;rw[hx]at hyj;cases hyj;have hround:=hJ _ _ ⟨j+1,true,hlt,rfl,by simp,rfl⟩;clear hJ;simp[-getElem?_pos,-List.getElem?_map,paA,Z1,Wk.cells,hlt,hg,nblt,nble];refine .inl<|cQ [] [_,_] hvc ?_;simp[-getElem?_pos,-List.getElem?_map,frzsL,hlt,hg,hxp,nblt,nble,hw];exact⟨_,_,hmeas,Sub.mk (by simp[paA,Z1]) (by simp[paA,Wk.cells]),hround⟩
  ·have hne:kx≠j:=fun h=>by
    subst h;rw[hx]at hyj;cases hyj;exact hn rfl
   have hround:=hJ _ _ ⟨j+1,b,hlt,rfl,by rw[hb];congr 1;exact propext ⟨fun h=>by omega,fun h=>by omega⟩,rfl⟩;clear hJ;simp[-getElem?_pos,-List.getElem?_map,paA,Z1,Wk.cells,hlt,hg,hn,nblt,nble,hw];exact⟨_,_,hmeas,Sub.mk (by simp[paA,Z1]) (by simp[paA,Wk.cells]),hround⟩
 have he:j=w.lots.length:=by omega
 subst he;have hb:b=true:=by rw[hb];exact decide_eq_true hkL
 subst hb;clear hJ hlt hj hvc hgx;simp[-getElem?_pos,-List.getElem?_map,paA,Z1,Wk.cells,w2];refine Zaf (fun m τ=>∃(j:Nat) (b:Bool),k<j∧j≤L.length∧m=L.length-j∧(b=true→∀i z,k<i→i<j→L[i]?=some z→es[i]?=some 0→ZeH z)∧τ=paB L k x.num es u b j)
  ⟨L.length-(k+1),paB L k x.num es u true (k+1),Sub.mk (by simp[paB,Z1]) (by simp[paB,Wk.cells]),k+1,true,Nat.lt_succ_self _,hkl,rfl,fun _ i z h1 h2=>by omega,rfl⟩ ?_
 rintro J hJ m τ ⟨j,b,hjk,hj,rfl,hb,rfl⟩;by_cases hlt:j<L.length
 ·obtain⟨z,hz⟩:∃z,L[j]?=some z:=⟨L[j],ZxL hlt⟩;have hgz:(L.map PV.str)[j]?=some (.str z):=by rw[ZxM,hz];rfl
  have hzs:=hsz z (ZxQ hz);have hpr:=Znp z (by omega);have hje:j<es.length:=by omega
  obtain⟨E,hE⟩:∃E,es[j]?=some E:=⟨es[j],ZxL hje⟩;have hgE:(es.map iE)[j]?=some (.int .i64 E):=by rw[ZxM,hE];rfl
  have hw:=wrapK (k:=j) (by omega);have hmeas:L.length-(j+1)<L.length-j:=by omega
  have hnF:=hJ _ _ ⟨j+1,false,by omega,hlt,rfl,(fun h=>absurd h Bool.false_ne_true),rfl⟩;have hnT:b=true→(E≠0∨ZeH z)→J (L.length-(j+1)) (paB L k x.num es u true (j+1)):=fun hbt hor=>hJ _ _ ⟨j+1,true,by omega,hlt,rfl,fun _ i z' h1 h2 h3 h4=>by
   by_cases hi:i=j
   ·subst hi;rw[hz]at h3;cases h3;rw[hE]at h4;rcases hor with h|h
    ·exact absurd (Option.some.inj h4) h
    ·exact h
   ·exact hb hbt i z' h1 (by omega) h3 h4,rfl⟩
  have hnoj:=hno j z hjk hz;clear hJ hb hno hqu;obtain⟨wz,NS,has,hpe,hcs⟩:=ZlX z x.num;rw[hpe]at hpr;simp[-getElem?_pos,-List.getElem?_map,paB,Z1,Wk.cells,hlt,hgz,nblt,nble];refine .inl<|cQ [] [_] hpr ?_;have hEn:ZaD z=some (191,[x.num])→¬E=0:=fun h he=>hnoj h (by rw[hE,he])
  obtain⟨e0,he0⟩:∃e0,e0=decide (E=0):=⟨_,rfl⟩;clear hpe hpr;rcases hcs with⟨rfl,e1,e2,e3,hq⟩|⟨rfl,rfl,e1,e2,e3,hq,hpz⟩|⟨rfl,c,rfl,hcn,e1,e2,e3,hq⟩|⟨rfl,e1,e2,e3⟩|⟨rfl,e1,e2,e3⟩|⟨rfl,e1,e2,e3,hq⟩
  all_goals try (have h0:e0=false:=he0.trans (decide_eq_false (hEn hpz));subst h0)
  all_goals try cases e0
  all_goals first|have hE0:=of_decide_eq_true he0.symm|have hE0:=of_decide_eq_false he0.symm
  all_goals
   cases b
   all_goals
    first|have hc0:=hcn|have hc0:=e1
    simp[-getElem?_pos,-List.getElem?_map,frzsL,hlt,hje,hgz,hgE,nblt,nble,hw,weP,weC,weB,e1,e2,e3,hE0,hc0];first
     |(refine⟨_,_,hmeas,Sub.mk ?_ ?_,hnF⟩<;>simp[paB,Z1,Wk.cells];done)
     |(refine⟨_,_,hmeas,Sub.mk ?_ ?_,hnT rfl (by first|exact .inl hE0|exact .inr hq)⟩<;>simp[paB,Z1,Wk.cells])
 have he:j=L.length:=by omega
 subst he;have hquiet:b=true→x.num∉Zx u u.lots.length:=fun h=>hqu fun i z h1 h2 h3=>hb h i z h1 (ZxN.1 h2).1 h2 h3
 clear hJ hlt hj hb hqu hno;generalize hrl:Zx u u.lots.length=rl at *;have hrll:rl.length≤50:=by
  rw[←hrl];exact Zx5 ZkB (by omega)
 clear hrl;simp[-getElem?_pos,-List.getElem?_map,paB,Z1,Wk.cells];refine .inl<|cQ [] [strsP L] hbi ?_;simp[-getElem?_pos,-List.getElem?_map,frzsL];refine .inl<|cQ [] [strsP L] hrc ?_;simp[-getElem?_pos,-List.getElem?_map,frzsL];refine Zaf (fun m τ=>∃(j:Nat) (c:Bool),j≤rl.length∧m=rl.length-j∧(c=true→x.num∈rl)∧τ=paC x.num u b c rl j) ⟨rl.length,paC x.num u b false rl 0,Sub.mk (by simp[paC]) (by simp[paC,Wk.cells]),0,false,Zx0 _,rfl,(fun h=>absurd h Bool.false_ne_true),rfl⟩ ?_;rintro J hJ m τ ⟨j,c,hj,rfl,hc,rfl⟩;by_cases hlt:j<rl.length
 ·obtain⟨y,hyj⟩:∃y,rl[j]?=some y:=⟨rl[j],ZxL hlt⟩;have hg:(rl.map iP)[j]?=some (.int .i64 y):=by rw[ZxM,hyj];rfl
  have hw:=wrapK (k:=j) (by omega);have hmeas:rl.length-(j+1)<rl.length-j:=by omega
  have hnT:=fun h=>hJ _ _ ⟨j+1,true,hlt,rfl,fun _=>h,rfl⟩
  have hnF:=hJ _ _ ⟨j+1,false,hlt,rfl,(fun h=>absurd h Bool.false_ne_true),rfl⟩;have hm:=ZxQ hyj;clear hJ;cases c
  all_goals by_cases hyx:y=x.num
  all_goals
   simp[-getElem?_pos,-List.getElem?_map,paC,hlt,hg,nblt,nble,hw,hyx];first
    |(refine⟨_,_,hmeas,Sub.mk ?_ ?_,hnF⟩<;>simp[paC];done)
    |(refine⟨_,_,hmeas,Sub.mk ?_ ?_,hnT (by first|exact hc rfl|exact hyx▸hm)⟩<;>simp[paC])
 have he:j=rl.length:=by omega
 subst he;have hcq:c=true→b=false:=fun h=>by
  cases b with
  |false=>rfl
  |true=>exact absurd (hc h) (hquiet rfl)
 clear hJ hlt hj hc hquiet hrc;simp[-getElem?_pos,-List.getElem?_map,paC,Wk.cells];refine Zaf (fun m τ=>∃(j:Nat) (d:Bool),j≤u.lots.length∧m=u.lots.length-j∧(ky<j→d=true)∧τ=paD x.num u b c d j) ⟨u.lots.length,paD x.num u b c false 0,Sub.mk (by simp[paD]) (by simp[paD,Wk.cells]),0,false,Zx0 _,rfl,fun h=>absurd h (Nat.not_lt_zero _),rfl⟩ ?_;rintro J hJ m τ ⟨j,d,hj,rfl,hd,rfl⟩;by_cases hlt:j<u.lots.length
 ·obtain⟨y,hyj⟩:∃y,u.lots[j]?=some y:=⟨u.lots[j],ZxL hlt⟩;have hg:(u.lots.map Lt.pv)[j]?=some (.agg [.int .i64 y.num,.int .i64 y.pieces,.int .i64 y.limit,.bool y.passed]):=by rw[ZxM,hyj];rfl
  have hw:=wrapK (k:=j) (by omega);have hmeas:u.lots.length-(j+1)<u.lots.length-j:=by omega
  have hnT:=hJ _ _ ⟨j+1,true,hlt,rfl,fun _=>rfl,rfl⟩;have hnF:=fun h=>hJ _ _ ⟨j+1,false,hlt,rfl,h,rfl⟩
  have hjy:d=false→¬(y.num=x.num∧y.passed=true)→ky<j+1→false=true:=fun h0 h h'=>by
   by_cases hj:j=ky
   ·subst hj;rw[hy]at hyj;cases hyj;exact absurd ⟨rfl,rfl⟩ h
   ·rw[←hd (by omega),h0]
  clear hJ;cases d
  all_goals by_cases hyx:y.num=x.num
  all_goals cases hyp:y.passed
  all_goals
   rw[hyp]at hg;simp[-getElem?_pos,-List.getElem?_map,paD,Wk.cells,hlt,hg,nblt,nble,hw,hyx];first
    |(refine⟨_,_,hmeas,Sub.mk ?_ ?_,hnT⟩<;>simp[paD,Wk.cells];done)
    |(refine⟨_,_,hmeas,Sub.mk ?_ ?_,hnF (hjy rfl (by simp[hyx,hyp]))⟩<;>simp[paD,Wk.cells])
 have he:j=u.lots.length:=by omega
 subst he;have hd:d=true:=hd (ZxN.1 hy).1;subst hd;clear hJ hlt hj;cases c with
 |false=>
  simp[-getElem?_pos,-List.getElem?_map,paD,Wk.cells];refine cG [] ZbW ?_;simp[-getElem?_pos];exact hfin
 |true=>
  have hb:=hcq rfl;subst hb;simp[-getElem?_pos,-List.getElem?_map,paD,Wk.cells];refine cG [] ZbW ?_;simp[-getElem?_pos];exact hfin
end
end
section
open Go.ChangeShapes Go.WideShapes Go.ChangeAt Go.RowKit
set_option maxRecDepth 100000
theorem Zga (v0 v1:Value)(W:World){H:Type}{enc:TypeId×Value→H}{base:Nat}{sp:Nat→Bool}{hd:Bool}{d0 d1:DataW H}{p0 p1:List MemPlace}(hg:Glob W.mem W)
  (k0:Value.okWide Tryz.prog W .any base 22 v0) (h0:DataW.Trod enc Tryz.prog W 0 sp hd 22 v0 d0 p0)
  (k1:Value.okWide Tryz.prog W .any base 5 v1) (h1:DataW.Trod enc Tryz.prog W 0 sp hd 5 v1 d1 p1):
  Calls Tryz.prog 7 #[v0,v1] W fun e w'=>e=.returned (.bool true)∧Keep [] W w':=by
 obtain⟨n0,h0⟩:=h0;obtain⟨s0,w0,r0⟩:=Zm9 k0 h0;obtain⟨z1,rfl,rfl,rfl,y1⟩:=open_int Tryz.underlying5 k1 h1;obtain⟨s1,w1,rfl⟩:∃s:Nat,s<256∧z1=(s:Int):=by
  have e1:IntKind.u8.min=0:=by decide
  have e2:IntKind.u8.max=255:=by decide
  have y:=ZgA y1;exact⟨z1.toNat,by omega,by omega⟩
 refine ZgO (xs:=[strsP s0,.int .u8 (s1:Int)]) (b:=true) ((ZpF s0 w0 s1 ⟨by omega,by omega⟩).mono (fun _ _ h=>h.1)) rfl (fun j v x e1 e2=>?_) hg
 match j with
 |0=>simp at e1 e2;subst e1 e2;exact r0
 |1=>simp at e1 e2;subst e1 e2;exact .int .u8 (s1:Int)
 |j+2=>simp at e1
theorem ZeO (os:Os)(started:os.Started)(H:Type)(enc:TypeId×Value→H):
  ReturnsInHanded {} Tryz.checked os 7 .any (fun w args=>(Rows.bookPassesSpec.pre enc Tryz.prog Tryz.f7 Rows.bookPassesRow.domain false w args∧laidMetH Tryz.prog Rows.bookPassesRow.laid w)∧sizedMet enc Tryz.prog Tryz.f7 (OpenSpec.ofChange Rows.bookPassesSpec) false w args)
   (Rows.bookPassesSpec.post enc Tryz.prog Tryz.f7 false true false false):=by
 refine ZfS (C:=Tryz.checked) (X:=fun w _=>laidMetH Tryz.prog Rows.bookPassesRow.laid w) (fun _ _ _ hh h=>h.of_heap hh) own started (by kernel_rfl) Tryz.func7
  (ChangeSpec.witness_shaped (enc:=enc) (C:=Tryz.checked) (os:=os) (X:=fun w _=>laidMetH Tryz.prog Rows.bookPassesRow.laid w) false (World.laidAll Tryz.prog os Rows.bookPassesRow.laid) #[.slice none 0 0,.int .u8 0] 8 (World.laidAll_os _ _ _)
   (World.shaped_of_ZipB (by kernel_rfl) (by kernel_rfl)) (by kernel_rfl) (by kernel_rfl) (by kernel_rfl)
   (by rw[MakeChecks.laidMetH_plain _ _ _ (by kernel_rfl)];exact laidMet_laidAll _ (by kernel_rfl) (by kernel_rfl))) ?_
 intro W base args ds gs before hval0 hW hL hsh;have hval:∀(j:Nat) t v,Tryz.f7.params[j]?=some t→args[j]?=some v→Value.okWide Tryz.prog W .any base t v:=hval0;rw[MakeChecks.laidMetH_plain _ _ _ (by kernel_rfl)]at hL;have hg:=Zod hsh (Lib.laidMet.reads hL (by simp[Rows.bookPassesRow])) (Lib.laidMet.reads hL (by simp[Rows.bookPassesRow])) (Lib.laidMet.reads hL (by simp[Rows.bookPassesRow]));have hW':=hW;obtain⟨p,q,hA0,hV,rfl,hfz,hnd⟩:=hW;have hA:DataW.TrodAll enc Tryz.prog W 0 (fun _=>true) true Tryz.f7.params.toList args.toList ds p:=hA0;rw[Tryz.params7]at hA hval;obtain⟨v0,vs0,d0,ds0,p0,q0,hargs,rfl,rfl,h0,r0⟩:=trodAll_cons hA;obtain⟨v1,vs1,d1,ds1,p1,q1,rfl,rfl,rfl,h1,r1⟩:=trodAll_cons r0;obtain⟨rfl,rfl,rfl⟩:=trodAll_nil r1;have hargs':args=#[v0,v1]:=by
  apply Array.ext';exact hargs
 subst hargs';have k0:=hval 0 _ v0 rfl rfl;have k1:=hval 1 _ v1 rfl rfl;obtain⟨rfl,rfl⟩:=trodVars_none hV;refine(Zga v0 v1 W hg k0 h0 k1 h1).mono fun e W' ⟨he,hk⟩=>?_
 subst he;exact⟨_,rfl,ZkG (tb:=4) laidP Zkz fullP (by decide +kernel) rfl rfl rfl Tryz.underlying4 hW' hk⟩
end
section
set_option maxRecDepth 100000
theorem bL0:(Rows.bookPassesRow.wf (OpenSpec.ofChange Rows.bookPassesSpec))=true:=by kernel_rfl
theorem bL1:(laidOutB Tryz.prog)=true:=laidP
theorem bL2:(mapsRowed Tryz.prog)=true:=Zkz
theorem bL3:(Tryz.f7.params.all (Tryz.prog.readableRec ·))=true:=by kernel_rfl
theorem bL4:(namedTie Tryz.prog Rows.bookPassesRow.named Rows.bookPassesSpec.vars)=true:=by kernel_rfl
theorem bL9:((Rows.bookPassesRow.inPlace==Tryz.prog.inPlace 7))=true:=by kernel_rfl
theorem bL10:((Rows.bookPassesRow.unfollowed==Tryz.prog.unfollowed 7))=true:=by kernel_rfl
theorem bL11:((Rows.bookPassesRow.recurses==Tryz.prog.recurses 7))=true:=by kernel_rfl
theorem bL12:((Rows.bookPassesRow.named==Tryz.prog.varsNamed 7))=true:=by kernel_rfl
theorem bL22:((Rows.bookPassesRow.plainKeys==Tryz.prog.plainKeys))=true:=by kernel_rfl
theorem bL24:(Tryz.prog.stopsHeard)=true:=by kernel_rfl
theorem bL25:(Tryz.prog.mayEnter)=true:=by kernel_rfl
theorem bL26:((Rows.bookPassesRow.lifted==Tryz.prog.liftsFinal))=true:=by kernel_rfl
theorem bL27:((Tryz.prog.make==some Rows.bookPassesRow.make))=true:=by kernel_rfl
theorem Zq7:joinedFacts Tryz.pinned.checked.prog 7 Tryz.f7 Rows.bookPassesSpec Rows.bookPassesRow=true:=
 ZeK bL0 bL1 bL2 bL3 bL4 (by kernel_rfl) (by kernel_rfl) (by kernel_rfl) (by kernel_rfl) bL9 bL10 bL11 bL12 (by kernel_rfl) (by kernel_rfl) (by kernel_rfl) (by kernel_rfl) (by kernel_rfl) (by kernel_rfl) (by kernel_rfl) (by kernel_rfl) (by kernel_rfl) bL22 (by kernel_rfl) bL24 bL25 bL26 bL27 (by kernel_rfl) (by kernel_rfl) (by kernel_rfl) (by kernel_rfl)
end
section
open Go.ChangeShapes Go.WideShapes Go.ChangeAt Go.RowKit
set_option maxRecDepth 100000
theorem Zq8 (os:Os)(started:os.Started)(H:Type)(enc:TypeId×Value→H):ReturnsInHanded Rows.bookPassesRow.assume Tryz.pinned.checked os 7 .any (Rows.bookPassesRow.pre enc Tryz.pinned.checked.prog Tryz.f7 (OpenSpec.ofChange Rows.bookPassesSpec)) (Rows.bookPassesSpec.post enc Tryz.pinned.checked.prog Tryz.f7 Rows.bookPassesRow.apart Rows.bookPassesRow.fresh Rows.bookPassesRow.handsOn Rows.bookPassesRow.again):=ZeO os started H enc
theorem Zgb:Rows.bookPassesRow.holds Tryz.pinned (OpenSpec.ofChange Rows.bookPassesSpec):=
 OpenClaim.holds_of_wide 7 Tryz.f7 rfl rfl rfl rfl rfl rfl rfl ⟨rfl,rfl,rfl,rfl,rfl⟩ rfl rfl rfl rfl rfl (by kernel_rfl) Tryz.func7 Zq7
  (of_decide_eq_true (by kernel_rfl)) (by unfold Func.isWrapper;first|(rw[if_pos (by decide +kernel)];kernel_rfl)|(rw[if_neg (by decide +kernel)];exact⟨rfl,rfl⟩))
  (fun os started H enc _=>Zq8 os started H enc)
theorem bLWf:Rows.bookPassesRow.wfByText (OpenSpec.ofChange Rows.bookPassesSpec)=true:=by kernel_rfl
theorem ZuQ : Tryz.pinned.checked.prog.mainIs = some (true, "2d087c6f4cca3a53560cedf75fd690d9382a23561c3a3180de98d17e69e74364".toList) := by kernel_rfl
theorem ZtH:true=Tryz.pinned.checked.prog.looks []:=by kernel_rfl
theorem bLBy:false=Rows.bookPassesRow.goesBy Tryz.pinned.checked.prog:=by kernel_rfl
theorem ZtG : Tryz.prog.funcNamed "tensile/tensilelaw12.BookPasses" = some 7 := by kernel_rfl
theorem ZtF:([22,5].all fun u=>!Tryz.prog.wantsStandIn u)=true:=by kernel_rfl
theorem cardBookPasses:Rows.BookPassesCardSaid:=
 Claim7.holds_tied_plain_at .later [] [.data, .data, .data, .data, .sentinel, .sentinel, .pinned] true (true, "2d087c6f4cca3a53560cedf75fd690d9382a23561c3a3180de98d17e69e74364") true
  Zgb (fun _ h=>by cases h) bLWf (fun _ h=>by cases h) bookPasses_row_tie rfl ⟨rfl,rfl⟩ ZuQ rfl
  (fun f fn hf hfn=>by
   obtain rfl:f=7:=Option.some.inj (ZtG.symm.trans hf) |>.symm;obtain rfl:fn=Tryz.f7:=(Option.some.inj (Tryz.func7.symm.trans hfn)).symm;exact⟨ZtH,fun j t ht=>by
    rw[Tryz.params7]at ht;have hm:t∈([22,5]:List TypeId):=by simpa using Array.mem_of_getElem? ht
    exact(show Tryz.prog.wantsStandIn t=false by simpa using Zx7.1 ZtF t hm)⟩)
  bLBy
end
end Go.Proofs.YtfpmaennjlggeaaGreatDoor
